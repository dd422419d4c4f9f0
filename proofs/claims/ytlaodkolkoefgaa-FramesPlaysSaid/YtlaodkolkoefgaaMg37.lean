/-
  Whether a chunk may be: the document's.
-/
import Derived.Test.YtlaodkolkoefgaaMg9
import Derived.Test.YtlaodkolkoefgaaMg36
namespace Go.Proofs.Ytlaodkolkoefgaa
open Go.RowKit
set_option linter.unusedSimpArgs false
set_option linter.unusedVariables false

set_option maxRecDepth 100000 in
set_option maxHeartbeats 4000000 in
theorem rcheck_calls (b : Nat) (ce li : Nat → Int × Int) (s : Value) (ts : List (Int × Int)) (w : World) (h : Ck w b ce li s) (ht : TRow w s ts) (hu : U8 ce) :
    Calls Try.prog 63 #[.pointer (some ⟨b, 0, none⟩)] w fun e w' => e = .returned (.int .i64 (checkE ce li ts)) ∧ Below w.heap.size w w' := by
  replace hu := Lib.hid hu
  go_enter Try.func63, Try.ntmps63
  go_wp2_with fail
  go_loopw [3] (fun i W => ∃ k : Nat, k ≤ 4096 ∧ i = .int .i64 k ∧ (∀ j, j < k → mayC ce j = true) ∧ Below w.heap.size w W) (fun i _ => 4096 - (intOf i).toNat)
  case atStart => exact ⟨0, by omega, rfl, fun _ h => absurd h (Nat.not_lt_zero _), Below.refl _ _⟩
  case round =>
    obtain ⟨k, hk, rfl, hall, HB⟩ := hrel
    have hW := h.below HB h.lt
    replace hall := Lib.hid hall
    by_cases hlt : k < 4096
    · have c0 := hW.c0 hlt
      have c1 := hW.c1 hlt
      have hz := HB.size
      have bd := hu.out k
      obtain ⟨x, hx⟩ : ∃ x, (ce k).1 = x := ⟨_, rfl⟩
      obtain ⟨y, hy⟩ : ∃ y, (ce k).2 = y := ⟨_, rfl⟩
      have hm : mayC ce k = mayK x y := by rw [← hx, ← hy]; rfl
      rw [hx] at c0 bd
      rw [hy] at c1 bd
      clear hx hy
      replace HB := Lib.hid HB
      cases hv : mayK x y
      · have hcal := rmayk_calls x y
        rw [hv] at hm hcal
        clear hv
        replace hcal := Lib.hid hcal
        replace hm := Lib.hid hm
        go_wp2_with fail
        refine (hcal.out _ bd.1 bd.2.1 bd.2.2.1).mono ?_
        rintro e w1 ⟨rfl, hb⟩
        replace HB := Lib.hid (below_step HB.out hz hb)
        go_wp2_with fail
        go_ret
        exact ⟨ret_int (checkE_11 hlt hm.out).symm, HB.out⟩
      · have hcal := rmayk_calls x y
        rw [hv] at hm hcal
        clear hv
        replace hcal := Lib.hid hcal
        replace hm := Lib.hid hm
        go_wp2_with fail
        refine (hcal.out _ bd.1 bd.2.1 bd.2.2.1).mono ?_
        rintro e w1 ⟨rfl, hb⟩
        replace HB := Lib.hid (below_step HB.out hz hb)
        go_wp2_with fail
        go_roundw
        case rel => exact ⟨k + 1, by omega, by go_num, fun j hj => by
          by_cases e : j = k
          · subst e; exact hm.out
          · exact hall.out j (by omega), HB.out⟩
        case measure => simp [intOf]; omega
    · obtain rfl : k = 4096 := by omega
      clear hlt hk
      replace HB := Lib.hid HB
      go_wp2_with fail
      go_loopw [4] (fun i W' => ∃ k : Nat, k ≤ 4096 ∧ i = .int .i64 k ∧ (∀ j, j < k → litC li j = true) ∧ W' = wr) (fun i _ => 4096 - (intOf i).toNat)
      case atStart => exact ⟨0, by omega, rfl, fun _ h => absurd h (Nat.not_lt_zero _), rfl⟩
      case round =>
        obtain ⟨k, hk, rfl, hlit, rfl⟩ := hrel
        replace hlit := Lib.hid hlit
        by_cases hlt : k < 4096
        · have c0 := hW.l0 hlt
          have c1 := hW.l1 hlt
          have hm : litC li k = decide ((li k).1 ≤ 15 ∧ (li k).2 ≤ 15) := rfl
          obtain ⟨x, hx⟩ : ∃ x, (li k).1 = x := ⟨_, rfl⟩
          obtain ⟨y, hy⟩ : ∃ y, (li k).2 = y := ⟨_, rfl⟩
          rw [hx] at c0 hm
          rw [hy] at c1 hm
          clear hx hy
          replace hm := Lib.hid hm
          by_cases hx : 15 < x
          · go_wp2_with fail
            go_ret
            exact ⟨ret_int (checkE_2 hall.out hlt (by rw [hm.out]; simp; omega)).symm, HB.out⟩
          · by_cases hy : 15 < y
            · go_wp2_with fail
              go_ret
              exact ⟨ret_int (checkE_2 hall.out hlt (by rw [hm.out]; simp; omega)).symm, HB.out⟩
            · go_wp2_with fail
              go_roundw
              case rel => exact ⟨k + 1, by omega, by go_num, fun j hj => by
                by_cases e : j = k
                · subst e; rw [hm.out]; simp; omega
                · exact hlit.out j (by omega), trivial⟩
              case measure => simp [intOf]; omega
        · obtain rfl : k = 4096 := by omega
          clear hlt hk
          obtain ⟨base, cap, rfl, hn, hc, hr⟩ := (ht.keep HB.out).open
          have ct := hW.tk
          have hbl := hW.lt
          obtain ⟨n, hnn⟩ : ∃ n, ts.length = n := ⟨_, rfl⟩
          rw [hnn] at ct hn
          replace hnn := Lib.hid hnn
          replace hr := Lib.hid hr
          unfold maxLen at hc
          go_wp2_with fail
          go_loopw [5] (fun i W' => ∃ (k : Nat) (last : Int), k ≤ n ∧ i = .int .i64 k ∧ -1 ≤ last ∧ (k = 0 → last = -1) ∧ (∀ j t, k = j + 1 → ts[j]? = some t → last = t.1) ∧ tOk (-1) ts = tOk last (ts.drop k) ∧ Below wr.heap.size wr W') (fun i _ => n - (intOf i).toNat)
          case atStart => exact ⟨0, -1, by omega, rfl, by omega, fun _ => rfl, fun j t e _ => by omega, by rw [List.drop_zero], Below.refl _ _⟩
          case round =>
            obtain ⟨k, last, hk, rfl, hl0, hl1, hl2, hto, HB2⟩ := hrel
            replace hto := Lib.hid hto
            replace hl1 := Lib.hid hl1
            replace hl2 := Lib.hid hl2
            have hct := (HB2.cell (World.block_lt_of_cell? _ _ ct)).trans ct
            by_cases hlt : k < n
            · have hne : ts ≠ [] := fun e => by have := hnn.out; rw [e] at this; simp at this; omega
              obtain ⟨tb, off, rfl, hcell⟩ := hr.out hne
              obtain ⟨t, hkt⟩ : ∃ t, ts[k]? = some t := ⟨_, List.getElem?_eq_getElem (by rw [hnn.out]; exact hlt)⟩
              obtain ⟨d0', d1'⟩ := hcell k t hkt
              have d0 := (HB2.cell (World.block_lt_of_cell? _ _ d0')).trans d0'
              have d1 := (HB2.cell (World.block_lt_of_cell? _ _ d1')).trans d1'
              clear d0' d1'
              have hst := hto.out.trans (tOk_step hkt)
              replace hst := Lib.hid hst
              have hok : tickOk last t = decide (last < t.1 ∧ t.1 < 4096 ∧ 1 ≤ t.2 ∧ t.2 ≤ 2199023255552) := rfl
              have hkt2 : ∀ x : Int, t.1 = x → ∀ j t', k + 1 = j + 1 → ts[j]? = some t' → x = t'.1 := fun x hx j t' e ht' => by
                obtain rfl : j = k := by omega
                rw [hkt] at ht'
                obtain rfl := Option.some.inj ht'
                exact hx.symm
              obtain ⟨x, hx⟩ : ∃ x, t.1 = x := ⟨_, rfl⟩
              obtain ⟨y, hy⟩ : ∃ y, t.2 = y := ⟨_, rfl⟩
              replace hkt2 := Lib.hid (hkt2 x hx)
              replace hkt := Lib.hid hkt
              have hst2 : tOk (-1) ts = (decide (last < x ∧ x < 4096 ∧ 1 ≤ y ∧ y ≤ 2199023255552) && tOk x (ts.drop (k + 1))) := by rw [hst.out, hok, hx, hy]
              rw [hx] at d0
              rw [hy] at d1
              clear hx hy hok
              replace hst2 := Lib.hid hst2
              have hz2 := HB2.size
              have Hend := HB.out.trans (HB2.mono HB.out.size)
              replace HB2 := Lib.hid HB2
              replace Hend := Lib.hid Hend
              have Hd : Below w.heap.size w (wr.alloc (.cells #[.int .i64 x, .int .i64 y] 56)) := Hend.out.alloc (by have := Hend.out.size; omega) _
              replace Hd := Lib.hid Hd
              have e4 : tOk (-1) ts = false → checkE ce li ts = 4 := fun h => checkE_4 hall.out hlit.out h
              replace e4 := Lib.hid e4
              go_wp2_with fail
              by_cases q1 : x < 0
              · replace hcell := Lib.hid hcell
                clear hct d0 d1
                go_quiet (fail)
                go_wp2_with fail
                go_ret
                exact ⟨ret_int (e4.out (by rw [hst2.out]; simp; omega)).symm, below_drewN Hd.out _⟩
              have q1' : decide (x < 0) = false := by simp; omega
              by_cases q2 : 4095 < x
              · replace hcell := Lib.hid hcell
                clear hct d0 d1
                go_quiet (fail)
                go_wp2_with fail
                go_ret
                exact ⟨ret_int (e4.out (by rw [hst2.out]; simp; omega)).symm, below_drewN Hd.out _⟩
              have q2' : decide (4095 < x) = false := by simp; omega
              by_cases q3 : y < 1
              · replace hcell := Lib.hid hcell
                clear hct d0 d1
                go_quiet (fail)
                go_wp2_with fail
                go_ret
                exact ⟨ret_int (e4.out (by rw [hst2.out]; simp; omega)).symm, below_drewN Hd.out _⟩
              have q3' : decide (y < 1) = false := by simp; omega
              by_cases q4 : 2199023255552 < y
              · replace hcell := Lib.hid hcell
                clear hct d0 d1
                go_quiet (fail)
                go_wp2_with fail
                go_ret
                exact ⟨ret_int (e4.out (by rw [hst2.out]; simp; omega)).symm, below_drewN Hd.out _⟩
              have q4' : decide (2199023255552 < y) = false := by simp; omega
              by_cases k0 : k = 0
              · subst k0
                have hl : last = -1 := hl1.out rfl
                replace hl := Lib.hid hl
                replace hcell := Lib.hid hcell
                clear hct d0 d1
                go_quiet (fail)
                go_wp2_with fail
                go_roundw
                case rel => exact ⟨1, x, by omega, by go_num, by omega, fun h => by omega, fun j t h1 h2 => hkt2.out j t (by omega) h2, by rw [hst2.out]; have := hl.out; simp; omega, below_drewN (HB2.out.alloc (by omega) _) _⟩
                case measure => simp [intOf]; omega
              · obtain ⟨tp, htp⟩ : ∃ t, ts[k - 1]? = some t := ⟨_, List.getElem?_eq_getElem (by rw [hnn.out]; omega)⟩
                have hl := hl2.out (k - 1) tp (by omega) htp
                have p0 := (HB2.out.cell (World.block_lt_of_cell? _ _ (hcell (k - 1) tp htp).1)).trans (hcell (k - 1) tp htp).1
                rw [← hl] at p0
                clear hl htp
                have hbt := World.block_lt_of_cell? _ _ p0
                have hbc := World.block_lt_of_cell? _ _ hct
                replace hcell := Lib.hid hcell
                clear d0 d1
                have hk1 : (0 : Int) < (k : Int) := by omega
                have hk1' : decide ((0 : Int) < (k : Int)) = true := by simp; omega
                have hkn : 0 < k := by omega
                have hkn' : decide (0 < k) = true := by simp; omega
                have hk2 : (1 : Int) ≤ (k : Int) := by omega
                have hk3 : ((k : Int) - 1) < (n : Int) := by omega
                have hk4 : (0 : Int) ≤ (k : Int) - 1 := by omega
                have hw1 : IntKind.i64.wrap ((k : Int) - 1) = (k : Int) - 1 := IntWalk.i64_in _ (by omega)
                have hw2 : ((k : Int) - 1).toNat = k - 1 := by omega
                by_cases q5 : x ≤ last
                · go_quiet (fail)
                  clear hw1 hw2
                  go_wp2_with fail
                  go_ret
                  exact ⟨ret_int (e4.out (by rw [hst2.out]; simp; omega)).symm, below_drewN Hd.out _⟩
                · have q5' : decide (x ≤ last) = false := by simp; omega
                  go_quiet (fail)
                  clear hw1 hw2
                  go_wp2_with fail
                  go_roundw
                  case rel => exact ⟨k + 1, x, by omega, by go_num, by omega, fun h => by omega, hkt2.out, by rw [hst2.out]; simp; omega, below_drewN (HB2.out.alloc (by omega) _) _⟩
                  case measure => simp [intOf]; omega
            · obtain rfl : k = n := by omega
              have Hend := HB.out.trans (HB2.mono HB.out.size)
              replace Hend := Lib.hid Hend
              replace HB2 := Lib.hid HB2
              go_wp2_with fail
              go_ret
              exact ⟨ret_int (checkE_0 hall.out hlit.out (by rw [hto.out, List.drop_of_length_le (by rw [hnn.out]; omega)]; rfl)).symm, Hend.out⟩
end Go.Proofs.Ytlaodkolkoefgaa

/-
  The document's pool: Load.
-/
namespace Go.Proofs.Ytlaodkolkoefgaa
open Go.RowKit
set_option linter.unusedSimpArgs false
set_option linter.unusedVariables false

theorem blk_setCells_own {T : TypeId} : ∀ (vs old pre : List Value) {w : World} {b : Nat}, old.length = vs.length → Blk w b (pre ++ old) T → Blk (w.setCells b pre.length vs) b (pre ++ vs) T
  | [], old, pre, w, b, hl, h => by
    obtain rfl : old = [] := List.eq_nil_of_length_eq_zero hl
    exact h
  | v :: vs, [], pre, w, b, hl, h => by simp at hl
  | v :: vs, x :: old, pre, w, b, hl, h => by
    have h1 := h.set pre.length v
    rw [List.set_append_right _ _ (Nat.le_refl _), Nat.sub_self, List.set_cons_zero, show pre ++ v :: old = (pre ++ [v]) ++ old by simp] at h1
    have h2 := blk_setCells_own vs old (pre ++ [v]) (by simpa using hl) h1
    rw [List.length_append] at h2
    have e : pre ++ v :: vs = (pre ++ [v]) ++ vs := by simp
    rw [e]
    exact h2
theorem under_chunk : Try.prog.underlying 46 = some (.struct (Try.prog.fieldsOf 46)) := by kernel_rfl
theorem size_chunk : (Try.prog.info? 46).map (·.size) = some 16385 := by kernel_rfl
theorem rcheck_nil (w : World) : Calls Try.prog 63 #[.pointer none] w fun e w' => e = .returned (.int .i64 1) ∧ w' = w := by
  go_enter Try.func63, Try.ntmps63
  go_wp2_with fail
  go_ret
  exact ⟨rfl, rfl⟩
theorem setCells_sz (b : Nat) : ∀ (vs : List Value) (o : Nat) (w : World), (w.setCells b o vs).heap.size = w.heap.size
  | [], _, _ => rfl
  | v :: vs, o, w => (setCells_sz b vs (o + 1) _).trans (by simp [World.setCell])
/-- What a new block for a chunk holds when a chunk's cells are stored in it. -/
theorem chunk_copied (cb : Nat) (ce li : Nat → Int × Int) (s : Value) (ts : List Tk) (w : World) (hk : Ck w cb ce li s) (ht : TRow w s ts) (W : World) (hb : Below w.heap.size w W) :
    ∃ (cs : List Value) (W' : World), W.rangeAt cb 0 cs ∧ cs.length = 16385 ∧ (storeCells ⟨W.heap.size, 0, none⟩ cs).run Try.prog (W.alloc (.cells chunkZ 46)) = .ok () W' ∧ (W.alloc (.cells chunkZ 46)).rangeAt cb 0 cs ∧
      Ck W' W.heap.size ce li s ∧ Below W.heap.size W W' ∧ W'.heap.size = W.heap.size + 1 := by
  have hzn : chunkZ.toList.length = 16385 := chunkZ_ckL.len
  generalize chunkZ = Z at *
  have hk1 := hk.keep hb
  obtain ⟨cs, hB, hl⟩ := hk1
  have hcl := hl.len
  have h0 := hB.lt
  have hA : Below W.heap.size W (W.alloc (.cells Z 46)) := (Below.refl _ _).alloc (Nat.le_refl _) _
  have hB1 := hB.below hA h0
  have hrg : ∀ {w : World} {T : TypeId}, Blk w cb cs T → w.rangeAt cb 0 cs := fun h j v hv => by rw [Nat.zero_add]; exact h.cell j hv
  have hone : ∀ v ∈ cs, v.oneCell' = true := fun v hv => by
    obtain ⟨j, hj, e⟩ := List.getElem_of_mem hv
    have h1 := hl.get j (by omega)
    rw [List.getElem?_eq_getElem hj, e] at h1
    obtain rfl := Option.some.inj h1
    unfold ckF
    have hs : s.oneCell' = true := by obtain ⟨base, cap, rfl, _⟩ := ht; rfl
    (repeat' split) <;> first | rfl | exact hs
  have hnew := Blk.new W Z 46
  have hthere : (W.alloc (.cells Z 46)).there W.heap.size 0 cs.length := by
    refine there_new_at rfl ?_
    have : Z.size = 16385 := by simpa using hzn
    omega
  have hst := run_storeCells_cells (P := Try.prog) W.heap.size 0 cs 0 (W.alloc (.cells Z 46)) (fun j hj => by simpa using (hthere j hj).1) (fun j hj => by simp) hone
  refine ⟨cs, (W.alloc (.cells Z 46)).setCells W.heap.size 0 cs, hrg hB, hcl, by simpa using hst, hrg hB1, ⟨cs, blk_setCells_own cs Z.toList [] (by rw [hcl, hzn]) hnew, hl⟩, below_setCells cs 0 (Nat.le_refl _) _ hA, ?_⟩
  exact (setCells_sz _ _ _ _).trans (by simp)

section
variable {W : World} {qb kb kc ub n : Nat} {x : Nat → Nat} {CE LI : Nat → Nat → Int × Int} {T : Nat → List Tk} {tk : Nat → Bool}
set_option maxRecDepth 100000 in
set_option maxHeartbeats 4000000 in
theorem rload_out (h : Rp W qb kb kc ub n x CE LI T tk) {f : Int} (c : Option Addr) (hf : ¬ (0 ≤ f ∧ f < n)) :
    Calls Try.prog 42 #[.pointer (some ⟨qb, 0, none⟩), .int .i64 f, .pointer c] W fun e w' => e = .returned (.int .i64 2) ∧ w' = W := by
  have hc := in_calls qb kb kc n f 0 W h.c0 h.n64
  rw [decide_eq_false (show ¬ inR n f 0 from fun h => hf ⟨h.1, h.2.1⟩)] at hc
  replace hc := Lib.hid hc
  clear h hf
  go_enter Try.func42, Try.ntmps42
  go_wp2_with fail
  refine hc.out.mono ?_
  rintro e w1 ⟨rfl, rfl⟩
  clear hc
  go_wp2_with fail
  go_ret
  exact ⟨rfl, rfl⟩
set_option maxRecDepth 100000 in
set_option maxHeartbeats 4000000 in
theorem rload_bad (h : Rp W qb kb kc ub n x CE LI T tk) {f : Nat} {c : Option Addr} {E : Int} (hf : f < n) (hE : E ≠ 0)
    (hck : Calls Try.prog 63 #[.pointer c] W fun e w' => e = .returned (.int .i64 E) ∧ Below W.heap.size W w') :
    Calls Try.prog 42 #[.pointer (some ⟨qb, 0, none⟩), .int .i64 f, .pointer c] W fun e w' => e = .returned (.int .i64 E) ∧ Below W.heap.size W w' := by
  have hc := in_calls qb kb kc n f 0 W h.c0 h.n64
  rw [decide_eq_true (show inR n f 0 from by unfold inR; omega)] at hc
  replace hc := Lib.hid hc
  replace hck := Lib.hid hck
  clear h
  have hE' : decide (E = 0) = false := by simp; exact hE
  go_enter Try.func42, Try.ntmps42
  go_wp2_with fail
  refine hc.out.mono ?_
  rintro e w1 ⟨rfl, rfl⟩
  clear hc
  go_wp2_with fail
  refine hck.out.mono ?_
  rintro e w2 ⟨rfl, hb⟩
  clear hck
  replace hb := Lib.hid hb
  go_wp2_with fail
  go_ret
  exact ⟨rfl, hb.out⟩
set_option maxRecDepth 100000 in
set_option maxHeartbeats 8000000 in
theorem rload_in (h : Rp W qb kb kc ub n x CE LI T tk) {f cb : Nat} {cce cli : Nat → Int × Int} {s : Value} {ts : List Tk} (hf : f < n) (hk : Ck W cb cce cli s) (ht : TRow W s ts) (hu : U8 cce) (hul : U8 cli) (hok : checkE cce cli ts = 0) (hlen : ts.length ≤ 100000) :
    Calls Try.prog 42 #[.pointer (some ⟨qb, 0, none⟩), .int .i64 f, .pointer (some ⟨cb, 0, none⟩)] W fun e w' => e = .returned (.int .i64 0) ∧ ∃ b, W.heap.size ≤ b ∧ Rp w' qb kb kc ub n (atF x f b) (atF CE f cce) (atF LI f cli) (atF T f ts) tk ∧ But kb W w' := by
  have hz : ∀ w, (zeroValue 46).run Try.prog w = .ok (.agg chunkZ) w := zero_chunk
  have hck := rcheck_calls cb cce cli s ts W hk ht hu
  rw [hok] at hck
  have hcp := fun w1 hb => chunk_copied cb cce cli s ts W hk ht w1 hb
  generalize chunkZ = Z at *
  have hc := in_calls qb kb kc n f 0 W h.c0 h.n64
  rw [decide_eq_true (show inR n f 0 from by unfold inR; omega)] at hc
  have hn64 := h.n64
  have hfz : (f : Int) < (n : Int) := by omega
  obtain ⟨m, hm⟩ : ∃ m, ts.length = m := ⟨_, rfl⟩
  replace hc := Lib.hid hc
  replace hck := Lib.hid hck
  replace h := Lib.hid h
  replace hk := Lib.hid hk
  replace ht := Lib.hid ht
  replace hcp := Lib.hid hcp
  clear hok
  go_enter Try.func42, Try.ntmps42
  go_wp2_with fail
  refine hc.out.mono ?_
  rintro e w1 ⟨rfl, e⟩
  subst e
  clear hc
  go_wp2_with fail
  refine hck.out.mono ?_
  rintro e w2 ⟨rfl, hb⟩
  clear hck
  obtain ⟨cs, W3, hrg0, hcl, hst, hrg, hk3, hb3, hz3⟩ := hcp.out w2 hb
  clear hcp
  have B3 := hb.trans (hb3.mono hb.size)
  have ksrc := hk.out.keep B3
  have kt := (ksrc.keep ((Below.refl _ _).alloc (Nat.le_refl _) (.cells #[] 56))).tk
  have hkl := hk.out.lt
  obtain ⟨sb, sc, hsv, _⟩ := ht.out.open
  subst hsv
  have hrow := TRow.keep ht.out B3
  have h3 := h.out.keep B3
  have hne : ¬ cb = W3.heap.size := by have := hb.size; omega
  have hdl : w2.heap.size < W3.heap.size := by omega
  replace hz3 := Lib.hid hz3
  replace hrg := Lib.hid hrg
  replace hrg0 := Lib.hid hrg0
  replace hcl := Lib.hid hcl
  replace hb := Lib.hid hb
  replace hb3 := Lib.hid hb3
  replace B3 := Lib.hid B3
  replace hrow := Lib.hid hrow
  replace h3 := Lib.hid h3
  replace hk3 := Lib.hid hk3
  clear ksrc
  rw [hm] at kt
  have hll : ([] : List Tk).length + ts.length ≤ 1000000 := by simp; omega
  replace hrow := hrow.out
  rw [hm] at hrow
  replace hm := Lib.hid hm
  replace hrow := Lib.hid hrow
  have ho0 : TOwn (W3.alloc (.cells #[] 56)) W3.heap.size (.slice (some ⟨W3.heap.size, 0, none⟩) 0 0) [] := TOwn.unsplit (cs := []) (us := []) (Blk.new W3 #[] 56) (Nat.le_refl _) (Nat.zero_le _) (Nat.zero_le _) rfl rfl rfl
  replace ho0 := Lib.hid ho0
  go_wp2_with (first | refine wpList_load_mid rfl 46 (.tmp 19) rfl cb 0 rfl cs _ hrg0.out under_chunk rfl (by rw [hcl.out]; exact size_chunk) ?_ | at_builtin; refine wpList_append_ticks rfl (.tmp 21) (.tmp 25) rfl rfl rfl (B := W3.heap.size) (ts := []) ho0.out (TRow.keep hrow.out ((Below.refl _ _).alloc (Nat.le_refl _) _)) hll (by simp) ?_)
  intro v W4 h4 h5 h6
  clear h6
  have B4 := below_own ((Below.refl W3.heap.size W3).alloc (Nat.le_refl _) _) ho0.out h5 (by simp)
  have k4 := hk3.out.keep B4
  have f4 := k4.frozen 16384
  have x4 := k4.tk
  obtain ⟨ob, oc, e, _⟩ := h4.row.open
  subst e
  have R4 := h4.row
  have hap := h4.apart hdl
  have P4 := h3.out.keep B4
  have k5 := k4.setTicks (.slice ob ts.length oc)
  have hB5 : But w2.heap.size W4 (W4.setCell ⟨w2.heap.size, 16384, none⟩ (.slice ob ts.length oc)) := (But.refl _ _).setCell 16384 _
  have R5 : TRow (W4.setCell ⟨w2.heap.size, 16384, none⟩ (.slice ob ts.length oc)) (.slice ob ts.length oc) ts := SRow.but R4 hB5 (Or.inr hap)
  have hwl : w1.heap.size ≤ w2.heap.size := hb.out.size
  have B5 : Below w1.heap.size w1 (W4.setCell ⟨w2.heap.size, 16384, none⟩ (.slice ob ts.length oc)) := (B3.out.trans (B4.mono B3.out.size)).setCell (p := ⟨w2.heap.size, 16384, none⟩) hwl _
  have P5 := h.out.keep B5
  have hnew : ∀ g, g < n → x g ≠ w2.heap.size := fun g hg => (h.out.ch g hg).elim fun s k => by have := k.1.lt; omega
  have P6 := P5.setPtr hf k5 R5 hnew ⟨hu, hul⟩ hlen
  have N6 : But kb w1 ((W4.setCell ⟨w2.heap.size, 16384, none⟩ (.slice ob ts.length oc)).setCell ⟨kb, f, none⟩ (.pointer (some ⟨w2.heap.size, 0, none⟩))) := (But.of_below B5).setCell f _
  have q5 := P5.c0
  have p5 := P5.ptr hf
  have f5 : (W4.setCell ⟨w2.heap.size, 16384, none⟩ (.slice ob ts.length oc)).frozen? ⟨kb, f, none⟩ = false := P5.ptrs.elim fun cs k => k.1.frozen f
  rw [hm.out] at q5 p5 f5 P6 N6
  rw [hm.out]
  replace P6 := Lib.hid P6
  replace N6 := Lib.hid N6
  clear h4 h5 B4 k4 R4 hap k5 hB5 R5 B5 P5 P4
  go_wp2_with fail
  go_ret
  exact ⟨rfl, _, hwl, P6.out, N6.out⟩
end
end Go.Proofs.Ytlaodkolkoefgaa
