/-
  The walk of ChunkKnown: the chapter's examples.
-/
import Derived.Test.YtmpnpanlabkkdaaChunkK
import Derived.Test.YtmpnpanlabkkdaaChunkLS
namespace Go.Proofs.Ytmpnpanlabkkdaa
open Go.RowKit
set_option linter.unusedSimpArgs false
set_option linter.unusedVariables false

theorem Kn.start (w : World) : Kn w (w.alloc (.cells chunkZ 44)) zeroP zeroP [] :=
  ⟨.slice none 0 0, ck_new w, TRow.nil _, (fun a n c e => by cases e), (Below.refl _ _).alloc (Nat.le_refl _) _⟩
theorem Kn.same_new {w W : World} {ce li : Nat → Int × Int} {ts : List Tk} (h : Kn w W ce li ts) (hs : sameB ce zeroP li zeroP ts [] = true) :
    Calls Try.prog 17 #[.pointer (some ⟨w.heap.size, 0, none⟩), .pointer (some ⟨W.heap.size, 0, none⟩)] (W.alloc (.cells chunkZ 44)) fun e w' => e = .returned (.bool true) ∧ Kn w w' ce li ts := by
  have h2 := h.alloc (.cells chunkZ 44)
  obtain ⟨s, k, t, ap, B⟩ := h2
  have := same_b _ _ _ _ _ _ _ _ _ _ _ k (ck_new W) t (TRow.nil _)
  rw [hs] at this
  exact this.mono fun _ _ ⟨he, hw⟩ => ⟨he, ⟨s, k.keep hw, t.keep hw, ap, B.trans (hw.mono B.size)⟩⟩

theorem Ck.setKind {w : World} {b : Nat} {ce li : Nat → Int × Int} {s : Value} (h : Ck w b ce li s) {i : Nat} (hi : i < 4096) (x : Int) : Ck (w.setCell ⟨b, i * 2, none⟩ (.int .u8 x)) b (updP ce i (x, (ce i).2)) li s := by
  obtain ⟨cs, hb, hl⟩ := h
  have h1 := hl.setCell hi x (ce i).2
  have e : (cs.set (i * 2) (.int .u8 x)).set (i * 2 + 1) (.int .u8 (ce i).2) = cs.set (i * 2) (.int .u8 x) := by
    apply List.ext_getElem?
    intro j
    rw [List.getElem?_set]
    by_cases hj : i * 2 + 1 = j
    · subst hj
      have h2 := hl.get (i * 2 + 1) (by omega)
      have hlen := hl.len
      rw [ckF_c1 hi] at h2
      rw [if_pos rfl, List.length_set, if_pos (by omega), List.getElem?_set, if_neg (by omega), h2]
    · rw [if_neg hj]
  rw [e] at h1
  exact ⟨_, hb.set _ _, h1⟩
theorem Kn.setKind {w W : World} {ce li : Nat → Int × Int} {ts : List Tk} (h : Kn w W ce li ts) {i : Nat} (hi : i < 4096) (x : Int) : Kn w (W.setCell ⟨w.heap.size, i * 2, none⟩ (.int .u8 x)) (updP ce i (x, (ce i).2)) li ts := by
  obtain ⟨s, k, t, ap, B⟩ := h
  exact ⟨s, k.setKind hi x, SRow.but t ((But.refl w.heap.size W).setCell (i * 2) (.int .u8 x)) (Or.inr ap), ap, B.setCell (p := ⟨_, _, none⟩) (Nat.le_refl _) _⟩
theorem movN_zero : ∀ k, movN zeroP k = 0
  | 0 => rfl
  | k + 1 => by
    unfold movN
    rw [movN_zero k]
    rfl
theorem movN_congr {f g : Nat → Int × Int} : ∀ k : Nat, (∀ j, j < k → f j = g j) → movN f k = movN g k
  | 0, _ => rfl
  | k + 1, h => by
    unfold movN
    rw [movN_congr k (fun j hj => h j (by omega)), h k (by omega)]
def ceK : Nat → Int × Int := updP (updP zeroP 0 (2, 0)) 4095 (9, 0)
theorem movN_first : ∀ k, movN (updP zeroP 0 (2, 0)) (k + 1) = 1
  | 0 => by decide
  | k + 1 => by
    have := movN_first k
    unfold movN
    rw [this, updP_other (by omega)]
    rfl
theorem movN_ceK : movN ceK 4096 = 2 := by
  have h1 : movN ceK 4096 = movN ceK 4095 + if movK (ceK 4095).1 then 1 else 0 := rfl
  have h2 : movN ceK 4095 = movN (updP zeroP 0 (2, 0)) 4095 := movN_congr 4095 fun j hj => updP_other (by omega)
  have h3 := movN_first 4094
  rw [h1, h2, h3, show ceK 4095 = (9, 0) from updP_same _ _ _]
  decide
theorem U8_ceK : U8 ceK := (U8.zero.upd 0 (by omega) (by omega)).upd 4095 (by omega) (by omega)
theorem upd_zero : updP zeroP 5 (0, 0) = zeroP := by
  funext i; unfold updP; split <;> rfl
theorem bad_1 : checkE (updP zeroP 5 (11, 0)) (updP zeroP 5 (0, 0)) [] = 11 := checkE_11 (i := 5) (by omega) (by decide)
theorem bad_2 : checkE (updP zeroP 5 (0, 0)) (updP zeroP 5 (0, 16)) [] = 2 := by rw [upd_zero]; exact checkE_2 (fun i _ => rfl) (i := 5) (by omega) (by decide)
theorem bad_3 : checkE (updP zeroP 5 (0, 0)) (updP zeroP 5 (16, 0)) [] = 2 := by rw [upd_zero]; exact checkE_2 (fun i _ => rfl) (i := 5) (by omega) (by decide)
theorem bad_4 : checkE (updP zeroP 5 (0, 0)) (updP zeroP 5 (0, 0)) [(3, 1), (3, 2)] = 4 := by rw [upd_zero]; exact checkE_4 (fun i _ => rfl) (fun i _ => rfl) (by decide)
theorem bad_5 : checkE (updP zeroP 5 (0, 0)) (updP zeroP 5 (0, 0)) [(4096, 1)] = 4 := by rw [upd_zero]; exact checkE_4 (fun i _ => rfl) (fun i _ => rfl) (by decide)
theorem bad_6 : checkE (updP zeroP 5 (0, 0)) (updP zeroP 5 (0, 0)) [(1, 0)] = 4 := by rw [upd_zero]; exact checkE_4 (fun i _ => rfl) (fun i _ => rfl) (by decide)
theorem bad_7 : checkE (updP zeroP 5 (0, 0)) (updP zeroP 5 (15, 15)) [(0, 2199023255552)] = 0 := by
  rw [upd_zero]
  refine checkE_0 (fun i _ => rfl) (fun i _ => ?_) (by decide)
  unfold litC updP
  split <;> rfl

set_option maxRecDepth 100000 in
set_option maxHeartbeats 4000000 in
theorem known_walk (w : World) : Calls Try.prog 8 #[] w fun e w' => e = .returned (.bool true) ∧ Below w.heap.size w w' := by
  have hnew := fun W => new_calls W
  have K := Kn.start w
  obtain ⟨W1, hW1⟩ : ∃ W1, w.alloc (.cells chunkZ 44) = W1 := ⟨_, rfl⟩
  have hnew1 := hnew w
  rw [hW1] at K hnew1
  clear hW1
  replace hnew := Lib.hid hnew
  replace hnew1 := Lib.hid hnew1
  replace K := Lib.hid K
  go_enter Try.func8, Try.ntmps8
  go_wp2_with fail
  refine hnew1.out.mono ?_
  rintro e W2 ⟨rfl, rfl⟩
  clear hnew1
  go_wp2_with fail
  refine (awake_calls _).mono ?_
  rintro e W3 ⟨rfl, hb⟩
  replace K := Lib.hid (K.out.keep hb)
  clear hb
  go_wp2_with fail
  refine (check_nil _).mono ?_
  rintro e W4 ⟨rfl, hb⟩
  replace K := K.out.keep hb
  clear hb
  have hsn := K.same_new (sameB_refl _ _ _)
  have hn4 := hnew.out W4
  obtain ⟨W5, hW5⟩ : ∃ W5, W4.alloc (.cells chunkZ 44) = W5 := ⟨_, rfl⟩
  rw [hW5] at hsn hn4
  clear hW5
  replace hsn := Lib.hid hsn
  replace hn4 := Lib.hid hn4
  replace K := Lib.hid K
  go_wp2_with fail
  refine hn4.out.mono ?_
  rintro e W6 ⟨rfl, rfl⟩
  clear hn4 K
  go_wp2_with fail
  refine hsn.out.mono ?_
  rintro e W7 ⟨rfl, K⟩
  clear hsn
  replace K := Lib.hid K
  go_wp2_with fail
  refine (same_nil1 _ _).mono ?_
  rintro e W8 ⟨rfl, hb⟩
  replace K := Lib.hid (K.out.keep hb)
  clear hb
  go_wp2_with fail
  refine (same_nil3 _).mono ?_
  rintro e W9 ⟨rfl, hb⟩
  replace K := Lib.hid (K.out.keep hb)
  clear hb
  go_wp2_with fail
  refine (copy_nil _).mono ?_
  rintro e W10 ⟨rfl, hb⟩
  replace K := Lib.hid (K.out.keep hb)
  clear hb
  have hc := K.out.wake 9 5 (by simp)
  rw [show wakeL [] 9 5 = [(9, 5)] from by decide] at hc
  replace hc := Lib.hid hc
  clear K
  go_wp2_with fail
  refine hc.out.mono ?_
  rintro e W11 ⟨rfl, K⟩
  clear hc
  replace K := Lib.hid K
  have hc := K.out.wake 3 7 (by simp)
  rw [show wakeL [(9, 5)] 3 7 = [(3, 7), (9, 5)] from by decide] at hc
  replace hc := Lib.hid hc
  clear K
  go_wp2_with fail
  refine hc.out.mono ?_
  rintro e W11 ⟨rfl, K⟩
  clear hc
  replace K := Lib.hid K
  have hc := K.out.wake 9 6 (by simp)
  rw [show wakeL [(3, 7), (9, 5)] 9 6 = [(3, 7), (9, 5)] from by decide] at hc
  replace hc := Lib.hid hc
  clear K
  go_wp2_with fail
  refine hc.out.mono ?_
  rintro e W11 ⟨rfl, K⟩
  clear hc
  replace K := Lib.hid K
  have hc := K.out.wake 9 4 (by simp)
  rw [show wakeL [(3, 7), (9, 5)] 9 4 = [(3, 7), (9, 4)] from by decide] at hc
  replace hc := Lib.hid hc
  clear K
  go_wp2_with fail
  refine hc.out.mono ?_
  rintro e W11 ⟨rfl, K⟩
  clear hc
  replace K := Lib.hid K
  have hc := K.out.wake 4096 1 (by simp)
  rw [show wakeL [(3, 7), (9, 4)] 4096 1 = [(3, 7), (9, 4)] from by decide] at hc
  replace hc := Lib.hid hc
  clear K
  go_wp2_with fail
  refine hc.out.mono ?_
  rintro e W11 ⟨rfl, K⟩
  clear hc
  replace K := Lib.hid K
  have hc := K.out.wake 1 0 (by simp)
  rw [show wakeL [(3, 7), (9, 4)] 1 0 = [(3, 7), (9, 4)] from by decide] at hc
  replace hc := Lib.hid hc
  clear K
  go_wp2_with fail
  refine hc.out.mono ?_
  rintro e W11 ⟨rfl, K⟩
  clear hc
  replace K := Lib.hid K
  -- region 10
  have K1 := (K.out.alloc (.cells #[.int .i64 3, .int .i64 7, .int .i64 9, .int .i64 4] 3))
  obtain ⟨s5, k5, t5, ap5, B5⟩ := K.out
  have ct := k5.tk
  have hlt5 := k5.lt
  have hA5 : Below W11.heap.size W11 (W11.alloc (.cells #[.int .i64 3, .int .i64 7, .int .i64 9, .int .i64 4] 3)) := (Below.refl _ _).alloc (Nat.le_refl _) _
  have htk := ticksl_calls s5 [(3, 7), (9, 4)] W11.heap.size 4 _ (t5.keep hA5) rfl (by simp) _ (Blk.new W11 #[.int .i64 3, .int .i64 7, .int .i64 9, .int .i64 4] 3)
  clear hA5 k5 t5 B5 K ap5
  replace htk := Lib.hid htk
  replace K1 := Lib.hid K1
  go_wp2_with fail
  refine htk.out.mono ?_
  rintro e W12 ⟨rfl, q, rfl⟩
  have K := K1.out.drewN q
  clear htk ct hlt5 K1
  generalize (W11.alloc (.cells #[.int .i64 3, .int .i64 7, .int .i64 9, .int .i64 4] 3)).drewN q = W12 at *
  have hc := K.due 4
  rw [show dueL [(3, 7), (9, 4)] 4 = 0 from by decide] at hc
  replace hc := Lib.hid hc
  clear K
  go_wp2_with fail
  refine hc.out.mono ?_
  rintro e W11 ⟨rfl, K, _⟩
  clear hc
  have hc := K.due (-1)
  rw [show dueL [(3, 7), (9, 4)] (-1) = 0 from by decide] at hc
  replace hc := Lib.hid hc
  clear K
  go_wp2_with fail
  refine hc.out.mono ?_
  rintro e W11 ⟨rfl, K, _⟩
  clear hc
  have hc := K.least
  rw [show leastL [(3, 7), (9, 4)] = 4 from by decide] at hc
  replace hc := Lib.hid hc
  clear K
  go_wp2_with fail
  refine hc.out.mono ?_
  rintro e W11 ⟨rfl, K, _⟩
  clear hc
  have hc := K.ready 3 (by simp)
  replace hc := Lib.hid hc
  clear K
  go_wp2_with fail
  refine hc.out.mono ?_
  rintro e W11 ⟨v, rs, rfl, hr, hp, hs, K, _⟩
  clear hc
  obtain rfl : rs = [] := by
    have := hp.length_eq
    rw [show ([(3, 7), (9, 4)] : List Tk).filter (dueF 3) = [] from by decide] at this
    exact List.eq_nil_of_length_eq_zero this
  obtain ⟨b6, c6, rfl, _⟩ := hr.open
  clear hp hs hr
  have hc := K.ready 7 (by simp)
  replace hc := Lib.hid hc
  clear K
  go_wp2_with fail
  refine hc.out.mono ?_
  rintro e W11 ⟨v, rs, rfl, hr, hp, hs, K, _⟩
  clear hc
  obtain rfl : rs = [(9, 4), (3, 7)] := by
    rw [show ([(3, 7), (9, 4)] : List Tk).filter (dueF 7) = [(3, 7), (9, 4)] from by decide] at hp
    exact sorted_perm_eq ltR_eq rs [(9, 4), (3, 7)] hs (by decide) (hp.trans (List.Perm.swap _ _ _))
  clear hp hs
  have K1 := (K.alloc (.cells #[.int .i64 9, .int .i64 4, .int .i64 3, .int .i64 7] 3))
  have hA5 : Below W11.heap.size W11 (W11.alloc (.cells #[.int .i64 9, .int .i64 4, .int .i64 3, .int .i64 7] 3)) := (Below.refl _ _).alloc (Nat.le_refl _) _
  have htk := ticksl_calls v [(9, 4), (3, 7)] W11.heap.size 4 _ (hr.keep hA5) rfl (by simp) _ (Blk.new W11 #[.int .i64 9, .int .i64 4, .int .i64 3, .int .i64 7] 3)
  clear hA5 K hr
  replace htk := Lib.hid htk
  replace K1 := Lib.hid K1
  go_wp2_with fail
  refine htk.out.mono ?_
  rintro e W12 ⟨rfl, q, rfl⟩
  have K := K1.out.drewN q
  clear htk K1
  generalize (W11.alloc (.cells #[.int .i64 9, .int .i64 4, .int .i64 3, .int .i64 7] 3)).drewN q = W12 at *
  have hc := K.drop 9 (by simp)
  rw [show dropL [(3, 7), (9, 4)] 9 = [(3, 7)] from by decide] at hc
  replace hc := Lib.hid hc
  clear K
  go_wp2_with fail
  refine hc.out.mono ?_
  rintro e W11 ⟨rfl, K⟩
  clear hc
  have hc := K.drop 9 (by simp)
  rw [show dropL [(3, 7)] 9 = [(3, 7)] from by decide] at hc
  replace hc := Lib.hid hc
  clear K
  go_wp2_with fail
  refine hc.out.mono ?_
  rintro e W11 ⟨rfl, K⟩
  clear hc
  -- region 14
  have K1 := (K.alloc (.cells #[.int .i64 3, .int .i64 7] 3))
  obtain ⟨s5, k5, t5, ap5, B5⟩ := K
  have ct := k5.tk
  have hlt5 := k5.lt
  have hA5 : Below W11.heap.size W11 (W11.alloc (.cells #[.int .i64 3, .int .i64 7] 3)) := (Below.refl _ _).alloc (Nat.le_refl _) _
  have htk := ticksl_calls s5 [(3, 7)] W11.heap.size 2 _ (t5.keep hA5) rfl (by simp) _ (Blk.new W11 #[.int .i64 3, .int .i64 7] 3)
  clear hA5 k5 t5 B5 ap5
  replace htk := Lib.hid htk
  replace K1 := Lib.hid K1
  go_wp2_with fail
  refine htk.out.mono ?_
  rintro e W12 ⟨rfl, q, rfl⟩
  have K := K1.out.drewN q
  clear htk ct hlt5 K1
  generalize (W11.alloc (.cells #[.int .i64 3, .int .i64 7] 3)).drewN q = W12 at *
  have hc := K.least
  rw [show leastL [(3, 7)] = 7 from by decide] at hc
  replace hc := Lib.hid hc
  clear K
  go_wp2_with fail
  refine hc.out.mono ?_
  rintro e W11 ⟨rfl, K, _⟩
  clear hc
  have hc := K.movable U8.zero
  rw [movN_zero] at hc
  replace hc := Lib.hid hc
  go_wp2_with fail
  refine hc.out.mono ?_
  rintro e W11 ⟨rfl, K, _⟩
  clear hc
  have hz := K.lt
  have f0 : W11.frozen? ⟨w.heap.size, 0, none⟩ = false := K.elim fun _ h => h.1.frozen 0
  have f1 : W11.frozen? ⟨w.heap.size, 8190, none⟩ = false := K.elim fun _ h => h.1.frozen 8190
  have c0 : W11.cell? ⟨w.heap.size, 0, none⟩ = some (.int .u8 0) := K.elim fun _ h => h.1.c0 (i := 0) (by omega)
  have c1 : W11.cell? ⟨w.heap.size, 8190, none⟩ = some (.int .u8 0) := K.elim fun _ h => h.1.c0 (i := 4095) (by omega)
  have K1 : Kn w ((W11.setCell ⟨w.heap.size, 0, none⟩ (.int .u8 2)).setCell ⟨w.heap.size, 8190, none⟩ (.int .u8 9)) ceK zeroP [(3, 7)] := (K.setKind (i := 0) (by omega) 2).setKind (i := 4095) (by omega) 9
  clear K
  replace K1 := Lib.hid K1
  go_wp2_with fail
  refine (wake_nil _ _ _).mono ?_
  rintro e W12 ⟨rfl, hb⟩
  have K := K1.out.keep hb
  clear hb K1 f0 f1 c0 c1 hz
  go_wp2_with fail
  refine (drop_nil _ _).mono ?_
  rintro e W11 ⟨rfl, hb⟩
  replace K := K.keep hb
  clear hb
  have hc := K.movable U8_ceK
  rw [movN_ceK] at hc
  replace hc := Lib.hid hc
  clear K
  go_wp2_with fail
  refine hc.out.mono ?_
  rintro e W11 ⟨rfl, K, _⟩
  have B := K.below
  clear hc K
  replace B := Lib.hid B
  go_wp2_with fail
  refine (movable_nil _).mono ?_
  rintro e W11 ⟨rfl, hb⟩
  replace B := B.out.trans (hb.mono B.out.size)
  clear hb
  replace B := Lib.hid B
  go_wp2_with fail
  refine (due_nil _ _).mono ?_
  rintro e W11 ⟨rfl, hb⟩
  replace B := B.out.trans (hb.mono B.out.size)
  clear hb
  replace B := Lib.hid B
  go_wp2_with fail
  refine (least_nil _).mono ?_
  rintro e W11 ⟨rfl, hb⟩
  replace B := B.out.trans (hb.mono B.out.size)
  clear hb
  replace B := Lib.hid B
  go_wp2_with fail
  refine (ready_nil _ _).mono ?_
  rintro e W11 ⟨rfl, rfl⟩
  have hc := bad_calls 11 0 0 0 _ [] W11 (TRow.nil _) (by simp) (by omega) (by omega)
  rw [bad_1] at hc
  replace hc := Lib.hid hc
  replace B := Lib.hid B
  go_wp2_with fail
  refine hc.out.mono ?_
  rintro e W12 ⟨rfl, hb⟩
  replace B := B.out.trans (hb.mono (B.out).size)
  clear hc hb
  have hc := bad_calls 0 0 0 16 _ [] W12 (TRow.nil _) (by simp) (by omega) (by omega)
  rw [bad_2] at hc
  replace hc := Lib.hid hc
  replace B := Lib.hid B
  go_wp2_with fail
  refine hc.out.mono ?_
  rintro e W12 ⟨rfl, hb⟩
  replace B := B.out.trans (hb.mono (B.out).size)
  clear hc hb
  have hc := bad_calls 0 0 16 0 _ [] W12 (TRow.nil _) (by simp) (by omega) (by omega)
  rw [bad_3] at hc
  replace hc := Lib.hid hc
  replace B := Lib.hid B
  go_wp2_with fail
  refine hc.out.mono ?_
  rintro e W12 ⟨rfl, hb⟩
  replace B := B.out.trans (hb.mono (B.out).size)
  clear hc hb
  have hc := bad_calls 0 0 0 0 _ [(3, 1), (3, 2)] _ (TOwn.of_blk (B := 0) (R := []) (cap := 2) (ts := [(3, 1), (3, 2)]) (Blk.new W12 #[.int .i64 3, .int .i64 1, .int .i64 3, .int .i64 2] 62) (Nat.zero_le _) rfl (by simp) (by unfold maxLen; omega) (by simp)).row (by simp) (by omega) (by omega)
  rw [bad_4] at hc
  replace hc := Lib.hid hc
  replace B := Lib.hid B
  go_wp2_with fail
  refine hc.out.mono ?_
  rintro e W13 ⟨rfl, hb⟩
  replace B := (B.out.alloc B.out.size _).trans (hb.mono (B.out.alloc B.out.size _).size)
  clear hc hb
  generalize W13 = W12 at *
  have hc := bad_calls 0 0 0 0 _ [(4096, 1)] _ (trow_one (Blk.new W12 #[.int .i64 4096, .int .i64 1] 62)) (by simp) (by omega) (by omega)
  rw [bad_5] at hc
  replace hc := Lib.hid hc
  replace B := Lib.hid B
  go_wp2_with fail
  refine hc.out.mono ?_
  rintro e W13 ⟨rfl, hb⟩
  replace B := (B.out.alloc B.out.size _).trans (hb.mono (B.out.alloc B.out.size _).size)
  clear hc hb
  generalize W13 = W12 at *
  have hc := bad_calls 0 0 0 0 _ [(1, 0)] _ (trow_one (Blk.new W12 #[.int .i64 1, .int .i64 0] 62)) (by simp) (by omega) (by omega)
  rw [bad_6] at hc
  replace hc := Lib.hid hc
  replace B := Lib.hid B
  go_wp2_with fail
  refine hc.out.mono ?_
  rintro e W13 ⟨rfl, hb⟩
  replace B := (B.out.alloc B.out.size _).trans (hb.mono (B.out.alloc B.out.size _).size)
  clear hc hb
  generalize W13 = W12 at *
  have hc := bad_calls 0 0 15 15 _ [(0, 2199023255552)] _ (trow_one (Blk.new W12 #[.int .i64 0, .int .i64 2199023255552] 62)) (by simp) (by omega) (by omega)
  rw [bad_7] at hc
  replace hc := Lib.hid hc
  replace B := Lib.hid B
  go_wp2_with fail
  refine hc.out.mono ?_
  rintro e W13 ⟨rfl, hb⟩
  replace B := (B.out.alloc B.out.size _).trans (hb.mono (B.out.alloc B.out.size _).size)
  clear hc hb
  generalize W13 = W12 at *
  replace B := Lib.hid B
  go_wp2_with fail
  go_ret
  exact ⟨rfl, B.out⟩
end Go.Proofs.Ytmpnpanlabkkdaa
