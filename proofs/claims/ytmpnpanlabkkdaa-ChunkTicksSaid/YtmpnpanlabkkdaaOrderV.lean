/-
  A chunk of the walk's own and, in the block behind it, when each index is due.
-/
import Derived.Test.YtmpnpanlabkkdaaChunkK
import Derived.Test.YtmpnpanlabkkdaaRow1
import Derived.Test.YtmpnpanlabkkdaaOrderQ
import Derived.Test.YtmpnpanlabkkdaaChunkAct
namespace Go.Proofs.Ytmpnpanlabkkdaa
open Go.RowKit
set_option linter.unusedSimpArgs false
set_option linter.unusedVariables false

theorem ARow.open {w : World} {s : Value} {xs : List Ac} (h : ARow w s xs) : ∃ base cap, s = .slice base xs.length cap ∧ xs.length ≤ cap ∧ cap ≤ maxLen ∧
    (xs ≠ [] → ∃ b off, base = some ⟨b, off, none⟩ ∧ ∀ j a, xs[j]? = some a → w.cell? ⟨b, off + j * 3, none⟩ = some (.bool a.1) ∧ w.cell? ⟨b, off + j * 3 + 1, none⟩ = some (.int .i64 a.2.1) ∧ w.cell? ⟨b, off + j * 3 + 2, none⟩ = some (.int .i64 a.2.2)) := by
  obtain ⟨base, cap, e, h1, h2, h3⟩ := h
  rw [List.length_map] at e h1
  refine ⟨base, cap, e, h1.1, h2, fun hne => ?_⟩
  obtain ⟨b, off, hb, h4⟩ := h3 (by simpa using hne)
  exact ⟨b, off, hb, fun j t ht => by
    have hj : (xs.map actV)[j]? = some (actV t) := by rw [List.getElem?_map, ht]; rfl
    exact ⟨h4 j _ hj 0 _ rfl, h4 j _ hj 1 _ rfl, h4 j _ hj 2 _ rfl⟩⟩

/-- The walk's chunk (no cell, no light), its ticks, and in the block behind it when each index is due. -/
def KA (w W : World) (ts : List Tk) (D : Nat → Int) : Prop := ∃ s, Ck W w.heap.size zeroP zeroP s ∧ TRow W s ts ∧ Apart s w.heap.size ∧ Apart s (w.heap.size + 1) ∧ Below w.heap.size w W ∧ Row1 W (w.heap.size + 1) 2 4096 (fun i => .int .i64 (D i))
section
variable {w W W' : World} {ts : List Tk} {D : Nat → Int}
theorem KA.kn (h : KA w W ts D) : Kn w W zeroP zeroP ts := h.elim fun s h => ⟨s, h.1, h.2.1, h.2.2.1, h.2.2.2.2.1⟩
theorem KA.row (h : KA w W ts D) : Row1 W (w.heap.size + 1) 2 4096 (fun i => .int .i64 (D i)) := h.elim fun s h => h.2.2.2.2.2
theorem KA.keep (h : KA w W ts D) (hb : Below W.heap.size W W') : KA w W' ts D := h.elim fun s h => ⟨s, h.1.keep hb, h.2.1.keep hb, h.2.2.1, h.2.2.2.1, h.2.2.2.2.1.trans (hb.mono h.2.2.2.2.1.size), h.2.2.2.2.2.keep hb⟩
theorem KA.alloc (h : KA w W ts D) (o : Obj) : KA w (W.alloc o) ts D := h.keep ((Below.refl _ _).alloc (Nat.le_refl _) o)
theorem KA.drew (h : KA w W ts D) : KA w W.drew ts D := h.keep (Below.refl _ _).drew
theorem KA.drewN (h : KA w W ts D) (n : Nat) : KA w (W.drewN n) ts D := h.keep (below_drewN (Below.refl _ _) n)
theorem KA.ext (h : KA w W ts D) (p : Ext) : KA w (Go.Proofs.Ytmpnpanlabkkdaa.ext W p) ts D := h.keep (below_ext W p)
theorem KA.below (h : KA w W ts D) : Below w.heap.size w W := h.kn.below
theorem KA.lt (h : KA w W ts D) : w.heap.size + 1 < W.heap.size := h.row.lt
theorem KA.cell (h : KA w W ts D) {i : Nat} (hi : i < 4096) : W.cell? ⟨w.heap.size + 1, i, none⟩ = some (.int .i64 (D i)) := h.row.cell hi
theorem KA.frozen (h : KA w W ts D) (i : Nat) : W.frozen? ⟨w.heap.size + 1, i, none⟩ = false := h.row.frozen i
theorem KA.set (h : KA w W ts D) (k : Nat) (d : Int) : KA w (W.setCell ⟨w.heap.size + 1, k, none⟩ (.int .i64 d)) ts (fun j => if j = k then d else D j) := by
  obtain ⟨s, h1, h2, h3, h4, h5, h6⟩ := h
  refine ⟨s, h1.set_other _ (show w.heap.size ≠ w.heap.size + 1 by omega), SRow.but h2 ((But.refl (w.heap.size + 1) W).setCell k _) (Or.inr h4), h3, h4, h5.setCell (p := ⟨w.heap.size + 1, k, none⟩) (Nat.le_succ _) _, (h6.set k _).congr fun i _ => ?_⟩
  show _ = Value.int .i64 (if i = k then d else D i)
  by_cases e : i = k
  · rw [if_pos e, if_pos e]
  · rw [if_neg e, if_neg e]
theorem KA.woke {s : Value} {ts' : List Tk} (h1 : Apart s (w.heap.size + 1)) (h5 : Below w.heap.size w W) (h6 : Row1 W (w.heap.size + 1) 2 4096 (fun i => .int .i64 (D i))) (k : Woke w.heap.size zeroP zeroP s ts' W W') : KA w W' ts' D ∧ But w.heap.size W W' := by
  obtain ⟨s', k1, k2, k3, k4, k5⟩ := k
  exact ⟨⟨s', k1, k2, k3, k5 _ h6.lt h1, But.step h5 k4 (Nat.le_refl _) h5.size, h6.but k4 (by omega)⟩, k4⟩
theorem KA.wake (h : KA w W ts D) (x d : Int) (hlen : ts.length ≤ 800000) :
    Calls Try.prog 25 #[.pointer (some ⟨w.heap.size, 0, none⟩), .int .i64 x, .int .i64 d] W fun e w' => e = .returned (.tuple #[]) ∧ KA w w' (wakeL ts x d) D ∧ But w.heap.size W w' := by
  obtain ⟨s, h1, h2, h3, h4, h5, h6⟩ := h
  exact (wake_calls _ _ _ s ts x d W h1 h2 h3 hlen).mono fun _ _ ⟨he, hw⟩ => ⟨he, KA.woke h4 h5 h6 hw⟩
theorem KA.drop (h : KA w W ts D) (x : Int) (hlen : ts.length ≤ 800000) :
    Calls Try.prog 23 #[.pointer (some ⟨w.heap.size, 0, none⟩), .int .i64 x] W fun e w' => e = .returned (.tuple #[]) ∧ KA w w' (dropL ts x) D ∧ But w.heap.size W w' := by
  obtain ⟨s, h1, h2, h3, h4, h5, h6⟩ := h
  exact (drop_calls _ _ _ s ts x W h1 h2 h3 hlen).mono fun _ _ ⟨he, hw⟩ => ⟨he, KA.woke h4 h5 h6 hw⟩
theorem KA.due (h : KA w W ts D) (x : Int) :
    Calls Try.prog 27 #[.pointer (some ⟨w.heap.size, 0, none⟩), .int .i64 x] W fun e w' => e = .returned (.int .i64 (dueL ts x)) ∧ KA w w' ts D ∧ Below W.heap.size W w' :=
  (h.kn.due x).mono fun _ _ ⟨he, _, hb⟩ => ⟨he, h.keep hb, hb⟩
theorem KA.least (h : KA w W ts D) :
    Calls Try.prog 19 #[.pointer (some ⟨w.heap.size, 0, none⟩)] W fun e w' => e = .returned (.int .i64 (leastL ts)) ∧ Below W.heap.size W w' :=
  h.kn.least.mono fun _ _ ⟨he, _, hb⟩ => ⟨he, hb⟩
theorem KA.ready (h : KA w W ts D) (now : Int) (hlen : ts.length ≤ 900000) :
    Calls Try.prog 21 #[.pointer (some ⟨w.heap.size, 0, none⟩), .int .i64 now] W fun e w' => ∃ v rs, e = .returned v ∧ TRow w' v rs ∧ rs.Perm (ts.filter (dueF now)) ∧ rs.Pairwise (fun x y => ltR y x = false) ∧ KA w w' ts D :=
  (h.kn.ready now hlen).mono fun _ _ ⟨v, rs, he, hr, hp, hs, _, hb⟩ => ⟨v, rs, he, hr, hp, hs, h.keep hb⟩
/-- The slice of ticks that the chunk holds. -/
theorem KA.tk (h : KA w W ts D) : ∃ s, W.cell? ⟨w.heap.size, 16384, none⟩ = some s ∧ TRow W s ts := h.elim fun s h => ⟨s, h.1.tk, h.2.1⟩
end
theorem KA.start (w : World) : KA w ((w.alloc (.cells chunkZ 44)).alloc (.cells (madeCells #[.int .i64 0] 4096) 2)) [] (fun _ => 0) := by
  have hA : Below w.heap.size w (w.alloc (.cells chunkZ 44)) := (Below.refl _ _).alloc (Nat.le_refl _) _
  have hr := made_row (.int .i64 0) 4096 (w.alloc (.cells chunkZ 44)) 2
  rw [show (w.alloc (.cells chunkZ 44)).heap.size = w.heap.size + 1 from by simp] at hr
  exact ⟨.slice none 0 0, (ck_new w).alloc _, TRow.nil _, (fun a n c e => by cases e), (fun a n c e => by cases e), hA.alloc (by simp) _, hr⟩
theorem make_due : ∀ u : World, (Instr.makeSlice 60 (.int .i64 4096) (.int .i64 4096)).run Try.prog u = .ok (.slice (some ⟨u.heap.size, 0, none⟩) 4096 4096) (u.alloc (.cells (madeCells #[.int .i64 0] 4096) 2)) := fun u =>
  run_make_row' 60 2 (.int .i64 0) 8 (by kernel_rfl) (by kernel_rfl) rfl .i64 .i64 4096 (by omega) (by omega) u
theorem Rise.wakeY {ts : List Tk} {D : Nat → Int} (h : Rise ts D) {i : Nat} (hi : i < 4096) {d : Int} (hd : 0 < d) (hc : D i = 0 ∨ d < D i) : Rise (wakeL ts (i : Int) d) (fun j => if j = i then d else D j) := by
  have := h.wake hi d
  rw [show (fun j => if j = i ∧ 0 < d ∧ (D i = 0 ∨ d < D i) then d else D j) = (fun j => if j = i then d else D j) from funext fun j => by simp [hd, hc]] at this
  exact this
theorem Rise.wakeN {ts : List Tk} {D : Nat → Int} (h : Rise ts D) {i : Nat} (hi : i < 4096) {d : Int} (hc : ¬ (0 < d ∧ (D i = 0 ∨ d < D i))) : Rise (wakeL ts (i : Int) d) D := by
  have := h.wake hi d
  rw [show (fun j => if j = i ∧ 0 < d ∧ (D i = 0 ∨ d < D i) then d else D j) = D from funext fun j => if_neg (fun h => hc h.2)] at this
  exact this
end Go.Proofs.Ytmpnpanlabkkdaa
