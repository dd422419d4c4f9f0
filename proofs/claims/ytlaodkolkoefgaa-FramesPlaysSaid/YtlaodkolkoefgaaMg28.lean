/-
  frames.Ready.
-/
import Derived.Test.YtlaodkolkoefgaaFrR2
import Derived.Test.YtlaodkolkoefgaaMg20
namespace Go.Proofs.Ytlaodkolkoefgaa
open Go.RowKit
set_option linter.unusedSimpArgs false
set_option linter.unusedVariables false

set_option maxRecDepth 100000 in
set_option maxHeartbeats 8000000 in
theorem pready_any (p : Option Addr) (f now : Int) (ts : List Tk) (w : World) (hup : ts.Pairwise (fun a b => a.1 < b.1)) (hlen : ts.length ≤ 4096)
    (ht : ∀ W : World, Below w.heap.size w W → Calls Try.prog 33 #[.pointer p, .int .i64 f] W fun e w' => ∃ v, e = .returned v ∧ TOwn w' W.heap.size v ts ∧ Below W.heap.size W w') :
    Calls Try.prog 21 #[.pointer p, .int .i64 f, .int .i64 now] w fun e w' => ∃ v rs, e = .returned v ∧ TRow w' v rs ∧ Below w.heap.size w w' ∧ rs.Perm (ts.filter (dueF now)) ∧ rs.Pairwise (fun x y => ltR y x = false) := by
  have hA : Below w.heap.size w (w.alloc (.cells #[.int .i64 now] 2)) := (Below.refl _ _).alloc (Nat.le_refl _) _
  have hb := Blk.new w #[.int .i64 now] 2
  have hz : (w.alloc (.cells #[.int .i64 now] 2)).heap.size = w.heap.size + 1 := by simp
  obtain ⟨W1, hW1⟩ : ∃ W1, w.alloc (.cells #[.int .i64 now] 2) = W1 := ⟨_, rfl⟩
  rw [hW1] at hA hb hz
  have hcal := ht W1 hA
  have hmf : ∀ (fn : Fn) (first cap : Array Value) (w : World), (Instr.makeFunc fn first cap).run Try.prog w = .ok (.func fn first cap) w := fun _ _ _ _ => rfl
  replace hcal := Lib.hid hcal
  replace hA := Lib.hid hA
  replace hb := Lib.hid hb
  clear ht
  go_enter Try.func21, Try.ntmps21
  go_wp2_with fail
  refine hcal.out.mono ?_
  rintro e W2 ⟨v, rfl, ho, hb2⟩
  clear hcal
  have hc := (hb.out.below hb2 hb.out.lt).cell 0 rfl
  have hdel := deletef_calls w.heap.size W1.heap.size now v ts W2 ho hc (by omega) (by omega) hb2.size
  obtain ⟨vb, vc, rfl, _⟩ := ho.row.open
  replace hdel := Lib.hid hdel
  replace hb2 := Lib.hid hb2
  clear ho hc hb
  go_wp2_with fail
  refine hdel.out.mono ?_
  rintro e W3 ⟨v3, rfl, ho3, hb3⟩
  clear hdel
  have hfl : (ts.filter (dueF now)).length ≤ 4096 := Nat.le_trans (List.length_filter_le _ _) hlen
  have hfu := hup.sublist (List.filter_sublist (p := dueF now))
  have hsrt := sort_calls cfD dues_ok ltR ltR_lt W1.heap.size v3 _ W3 ho3 (by omega) (fun p q x y hpq hx hy => cfD_lt (by
    obtain ⟨hp, ex⟩ := List.getElem?_eq_some_iff.1 hx
    obtain ⟨hq, ey⟩ := List.getElem?_eq_some_iff.1 hy
    have := List.pairwise_iff_getElem.1 hfu p q hp hq hpq
    rw [ex, ey] at this
    exact this))
  obtain ⟨vb3, vc3, rfl, _⟩ := ho3.row.open
  have hB3 : Below w.heap.size w W3 := (hA.out.trans (hb2.out.mono hA.out.size)).trans (hb3.mono hA.out.size)
  replace hsrt := Lib.hid hsrt
  replace hB3 := Lib.hid hB3
  clear ho3 hb3 hfu hb2
  go_wp2_with fail
  refine hsrt.out.mono ?_
  rintro e W4 ⟨rfl, rs, ho4, hb4, hp4, hs4⟩
  clear hsrt
  have hB4 := hB3.out.trans (hb4.mono hA.out.size)
  have hr4 := ho4.row
  replace hB4 := Lib.hid hB4
  replace hr4 := Lib.hid hr4
  replace hp4 := Lib.hid hp4
  replace hs4 := Lib.hid hs4
  clear ho4 hb4 hB3
  go_wp2_with fail
  go_ret
  exact ⟨_, rs, rfl, hr4.out, hB4.out, hp4.out, hs4.out⟩
end Go.Proofs.Ytlaodkolkoefgaa

/-
  The pool beside a base: Give, Ready, Least, what is refused. A pool that is none.
-/
namespace Go.Proofs.Ytlaodkolkoefgaa
open Go.RowKit
set_option linter.unusedSimpArgs false
set_option linter.unusedVariables false

section
variable {w W W' : World} {pb sb tb n : Nat} {ce li : Nat → Int × Int} {du : Nat → Int} {tk : Nat → Bool}
theorem Fp.give (h : Fp w W pb sb tb n ce li du tk) {f : Nat} (hf : f < n) (ht : tk f = true) :
    Calls Try.prog 20 #[.pointer (some ⟨pb, 0, none⟩), .int .i64 f] W fun e w' => e = .returned (.int .i64 0) ∧ Fp w w' pb sb tb n (clrP f ce) (clrP f li) (clrD f du) (tkSet tk f false) ∧ But2 sb tb W w' :=
  (pgive_in pb sb tb n ce li du tk f W h.1 hf ht).mono fun _ _ ⟨he, hp, hb⟩ => ⟨he, h.but2 hp hb, hb⟩
theorem Fp.giveFree (h : Fp w W pb sb tb n ce li du tk) {f : Nat} (hf : f < n) (ht : tk f = false) :
    Calls Try.prog 20 #[.pointer (some ⟨pb, 0, none⟩), .int .i64 f] W fun e w' => e = .returned (.int .i64 5) ∧ Fp w w' pb sb tb n ce li du tk ∧ Below W.heap.size W w' :=
  (pgive_free pb sb tb n f tk W h.1.pool h.1.n64 h.1.take hf ht).mono fun _ _ ⟨he, hw⟩ => by subst hw; exact ⟨he, h, Below.refl _ _⟩
theorem Fp.frameOut (h : Fp w W pb sb tb n ce li du tk) {f : Int} (hf : ¬ (0 ≤ f ∧ f < n)) :
    Calls Try.prog 29 #[.pointer (some ⟨pb, 0, none⟩), .int .i64 f] W fun e w' => e = .returned (.slice none 0 0) ∧ w' = W :=
  frame_out pb n n _ f W h.1.c1 (by have := h.1.n64; omega) (Nat.le_refl _) hf
theorem Fp.giveOut (h : Fp w W pb sb tb n ce li du tk) {f : Int} (hf : ¬ (0 ≤ f ∧ f < n)) :
    Calls Try.prog 20 #[.pointer (some ⟨pb, 0, none⟩), .int .i64 f] W fun e w' => e = .returned (.int .i64 2) ∧ Fp w w' pb sb tb n ce li du tk ∧ Below W.heap.size W w' :=
  (pgive_out pb n n tb f W h.1.c1 (h.frameOut hf)).mono fun _ _ ⟨he, hw⟩ => by subst hw; exact ⟨he, h, Below.refl _ _⟩
theorem Fp.loadOut (h : Fp w W pb sb tb n ce li du tk) {f : Int} (c : Option Addr) (hf : ¬ (0 ≤ f ∧ f < n)) :
    Calls Try.prog 9 #[.pointer (some ⟨pb, 0, none⟩), .int .i64 f, .pointer c] W fun e w' => e = .returned (.int .i64 2) ∧ Fp w w' pb sb tb n ce li du tk ∧ Below W.heap.size W w' :=
  (pload_out pb n n tb f c W h.1.c1 (h.frameOut hf)).mono fun _ _ ⟨he, hw⟩ => by subst hw; exact ⟨he, h, Below.refl _ _⟩
theorem Fp.loadNil (h : Fp w W pb sb tb n ce li du tk) {f : Nat} (hf : f < n) :
    Calls Try.prog 9 #[.pointer (some ⟨pb, 0, none⟩), .int .i64 f, .pointer none] W fun e w' => e = .returned (.int .i64 1) ∧ Fp w w' pb sb tb n ce li du tk ∧ Below W.heap.size W w' :=
  (pload_bad pb sb tb n f none 1 W h.1.pool h.1.n64 hf (by omega) (check_nil W)).mono fun _ _ ⟨he, hb⟩ => ⟨he, h.keep hb, hb⟩
theorem Fp.storeOut (h : Fp w W pb sb tb n ce li du tk) {f : Int} (hf : ¬ (0 ≤ f ∧ f < n)) :
    Calls Try.prog 12 #[.pointer (some ⟨pb, 0, none⟩), .int .i64 f] W fun e w' => e = .returned (.pointer none) ∧ Fp w w' pb sb tb n ce li du tk ∧ Below W.heap.size W w' :=
  (pstore_none _ f W (h.frameOut hf)).mono fun _ _ ⟨he, hw⟩ => by subst hw; exact ⟨he, h, Below.refl _ _⟩
theorem tickF_up (n : Nat) (du : Nat → Int) (f : Int) : (tickF n du f).Pairwise (fun a b => a.1 < b.1) := by
  unfold tickF
  split
  · exact tickD_up _ _
  · exact List.Pairwise.nil
theorem tickF_len (n : Nat) (du : Nat → Int) (f : Int) : (tickF n du f).length ≤ 4096 := by
  unfold tickF
  split
  · exact tickD_len _ _
  · simp
theorem tickF_pos (n : Nat) (du : Nat → Int) (f : Int) : ∀ t ∈ tickF n du f, 1 ≤ t.2 := by
  unfold tickF
  split
  · intro t ht
    obtain ⟨i, _, rfl, hp⟩ := mem_tickD.1 ht
    exact hp
  · intro t ht; cases ht
theorem Fp.least (h : Fp w W pb sb tb n ce li du tk) (f : Int) {ts : List Tk} (hts : tickF n du f = ts) :
    Calls Try.prog 22 #[.pointer (some ⟨pb, 0, none⟩), .int .i64 f] W fun e w' => e = .returned (.int .i64 (leastL ts)) ∧ Fp w w' pb sb tb n ce li du tk ∧ Below W.heap.size W w' := by
  subst hts
  exact (pleast_any _ f _ W (tickF_pos n du f) (tickF_len n du f) (pticks_calls pb sb tb n ce li du tk f W h.1)).mono fun _ _ ⟨he, hb⟩ => ⟨he, h.keep hb, hb⟩
theorem Fp.ready (h : Fp w W pb sb tb n ce li du tk) (f now : Int) {ts : List Tk} (hts : tickF n du f = ts) :
    Calls Try.prog 21 #[.pointer (some ⟨pb, 0, none⟩), .int .i64 f, .int .i64 now] W fun e w' => ∃ v rs, e = .returned v ∧ TRow w' v rs ∧ rs.Perm (ts.filter (dueF now)) ∧ rs.Pairwise (fun x y => ltR y x = false) ∧ Fp w w' pb sb tb n ce li du tk ∧ Below W.heap.size W w' := by
  subst hts
  exact (pready_any _ f now _ W (tickF_up n du f) (tickF_len n du f) (fun V hb => pticks_calls pb sb tb n ce li du tk f V (h.1.keep hb))).mono fun _ _ ⟨v, rs, he, hr, hb, hp, hs⟩ => ⟨v, rs, he, hr, hp, hs, h.keep hb, hb⟩
end

/-! A pool of nothing, and none. -/
def Zp (W : World) (b : Nat) : Prop := Blk W b [.slice none 0 0, .slice none 0 0] 61
theorem Zp.keep {W W' : World} {b : Nat} (h : Zp W b) (hb : Below W.heap.size W W') : Zp W' b := h.below hb h.lt
theorem Zp.frame {W : World} {b : Nat} (h : Zp W b) (f : Int) : Calls Try.prog 29 #[.pointer (some ⟨b, 0, none⟩), .int .i64 f] W fun e w' => e = .returned (.slice none 0 0) ∧ w' = W :=
  frame_out b 0 0 none f W (h.cell 1 rfl) (by omega) (Nat.le_refl _) (by omega)
theorem Zp.cell {W : World} {b : Nat} (h : Zp W b) (f i : Int) : Calls Try.prog 34 #[.pointer (some ⟨b, 0, none⟩), .int .i64 f, .int .i64 i] W fun e w' => e = .returned (.slice none 0 0) ∧ w' = W := cell_none (some ⟨b, 0, none⟩) f i W (h.frame f)
theorem nil_cell (f i : Int) (W : World) : Calls Try.prog 34 #[.pointer none, .int .i64 f, .int .i64 i] W fun e w' => e = .returned (.slice none 0 0) ∧ w' = W := cell_none none f i W (frame_nil f W)
theorem ticks_own {p : Option Addr} {f : Int} {W : World} (h : Calls Try.prog 33 #[.pointer p, .int .i64 f] W fun e w' => e = .returned (.slice none 0 0) ∧ w' = W) :
    Calls Try.prog 33 #[.pointer p, .int .i64 f] W fun e w' => ∃ v, e = .returned v ∧ TOwn w' W.heap.size v [] ∧ Below W.heap.size W w' :=
  h.mono fun _ _ ⟨he, hw⟩ => ⟨_, he, TOwn.nil _ _, by rw [hw]; exact Below.refl _ _⟩
theorem nil_least (f : Int) (W : World) : Calls Try.prog 22 #[.pointer none, .int .i64 f] W fun e w' => e = .returned (.int .i64 0) ∧ Below W.heap.size W w' :=
  pleast_any none f [] W (fun t h => by cases h) (by simp) (ticks_own (pticks_none none f W (frame_nil f W)))
theorem Zp.ready {W : World} {b : Nat} (h : Zp W b) (f now : Int) : Calls Try.prog 21 #[.pointer (some ⟨b, 0, none⟩), .int .i64 f, .int .i64 now] W fun e w' => ∃ base cap, e = .returned (.slice base 0 cap) ∧ Below W.heap.size W w' :=
  (pready_any (some ⟨b, 0, none⟩) f now [] W List.Pairwise.nil (by simp) (fun V hb => ticks_own (pticks_none _ f V ((h.keep hb).frame f)))).mono fun _ _ ⟨v, rs, he, hr, hb, hp, _⟩ => by
    obtain rfl : rs = [] := List.Perm.eq_nil hp
    obtain ⟨base, cap, e, _⟩ := hr.open
    exact ⟨base, cap, by rw [he, e]; rfl, hb⟩
end Go.Proofs.Ytlaodkolkoefgaa
