/-
  frames.Ready.
-/
import Derived.Test.YtlaodkolkoefgaaFrR2
namespace Go.Proofs.Ytlaodkolkoefgaa
open Go.RowKit
set_option linter.unusedSimpArgs false
set_option linter.unusedVariables false

set_option maxRecDepth 100000 in
set_option maxHeartbeats 8000000 in
theorem pready_any (p : Option Addr) (f now : Int) (ts : List Tk) (w : World) (hup : ts.Pairwise (fun a b => a.1 < b.1)) (hlen : ts.length ≤ 4096)
    (ht : ∀ W : World, Below w.heap.size w W → Calls Try.prog 33 #[.pointer p, .int .i64 f] W fun e w' => ∃ v, e = .returned v ∧ TOwn w' W.heap.size v ts ∧ Below W.heap.size W w') :
    Calls Try.prog 21 #[.pointer p, .int .i64 f, .int .i64 now] w fun e w' => ∃ v rs, e = .returned v ∧ TRow w' v rs ∧ Below w.heap.size w w' ∧ rs.Perm (ts.filter (dueF now)) ∧ rs.Pairwise (fun x y => ltR y x = false) := by
  have hA : Below w.heap.size w (w.alloc (.cells #[.int .i64 now] 2)) := (Below.refl _ _).alloc (Nat.le_refl _) _
  have hb := Blk.new w #[.int .i64 now] 2
  have hz : (w.alloc (.cells #[.int .i64 now] 2)).heap.size = w.heap.size + 1 := by simp
  obtain ⟨W1, hW1⟩ : ∃ W1, w.alloc (.cells #[.int .i64 now] 2) = W1 := ⟨_, rfl⟩
  rw [hW1] at hA hb hz
  have hcal := ht W1 hA
  have hmf : ∀ (fn : Fn) (first cap : Array Value) (w : World), (Instr.makeFunc fn first cap).run Try.prog w = .ok (.func fn first cap) w := fun _ _ _ _ => rfl
  replace hcal := Lib.hid hcal
  replace hA := Lib.hid hA
  replace hb := Lib.hid hb
  clear ht
  go_enter Try.func21, Try.ntmps21
  go_wp2_with fail
  refine hcal.out.mono ?_
  rintro e W2 ⟨v, rfl, ho, hb2⟩
  clear hcal
  have hc := (hb.out.below hb2 hb.out.lt).cell 0 rfl
  have hdel := deletef_calls w.heap.size W1.heap.size now v ts W2 ho hc (by omega) (by omega) hb2.size
  obtain ⟨vb, vc, rfl, _⟩ := ho.row.open
  replace hdel := Lib.hid hdel
  replace hb2 := Lib.hid hb2
  clear ho hc hb
  go_wp2_with fail
  refine hdel.out.mono ?_
  rintro e W3 ⟨v3, rfl, ho3, hb3⟩
  clear hdel
  have hfl : (ts.filter (dueF now)).length ≤ 4096 := Nat.le_trans (List.length_filter_le _ _) hlen
  have hfu := hup.sublist (List.filter_sublist (p := dueF now))
  have hsrt := sort_calls cfD dues_ok ltR ltR_lt W1.heap.size v3 _ W3 ho3 (by omega) (fun p q x y hpq hx hy => cfD_lt (by
    obtain ⟨hp, ex⟩ := List.getElem?_eq_some_iff.1 hx
    obtain ⟨hq, ey⟩ := List.getElem?_eq_some_iff.1 hy
    have := List.pairwise_iff_getElem.1 hfu p q hp hq hpq
    rw [ex, ey] at this
    exact this))
  obtain ⟨vb3, vc3, rfl, _⟩ := ho3.row.open
  have hB3 : Below w.heap.size w W3 := (hA.out.trans (hb2.out.mono hA.out.size)).trans (hb3.mono hA.out.size)
  replace hsrt := Lib.hid hsrt
  replace hB3 := Lib.hid hB3
  clear ho3 hb3 hfu hb2
  go_wp2_with fail
  refine hsrt.out.mono ?_
  rintro e W4 ⟨rfl, rs, ho4, hb4, hp4, hs4⟩
  clear hsrt
  have hB4 := hB3.out.trans (hb4.mono hA.out.size)
  have hr4 := ho4.row
  replace hB4 := Lib.hid hB4
  replace hr4 := Lib.hid hr4
  replace hp4 := Lib.hid hp4
  replace hs4 := Lib.hid hs4
  clear ho4 hb4 hB3
  go_wp2_with fail
  go_ret
  exact ⟨_, rs, rfl, hr4.out, hB4.out, hp4.out, hs4.out⟩
end Go.Proofs.Ytlaodkolkoefgaa
