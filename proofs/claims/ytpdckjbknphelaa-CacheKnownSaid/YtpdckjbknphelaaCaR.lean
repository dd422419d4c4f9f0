/-
  How rows of spots read.
-/
import Derived.Test.YtpdckjbknphelaaCaQ
import Derived.Test.YtpdckjbknphelaaFlat
import Derived.Deep.Slices
namespace Go.Proofs.Ytpdckjbknphelaa
set_option linter.unusedSimpArgs false
set_option linter.unusedVariables false
set_option linter.constructorNameAsVariable false
open Go.ChangeShapes Go.WideShapes Go.ChangeAt Go.RowKit

section
variable {H : Type} {enc : TypeId × Value → H} {P : Program} {w : World} {base : Nat} {spare : Nat → Bool} {held : Bool}

theorem addr_plain {w : World} {a : Addr} {v : Value} (h : w.cell? a = some v) : ∃ b off, a = ⟨b, off, none⟩ := by
  obtain ⟨b, off, x⟩ := a
  cases x with
  | none => exact ⟨b, off, rfl⟩
  | some x =>
    exfalso
    simp [World.cell?] at h
    split at h <;> cases h

theorem open_rows {r : Reach} {b0 f : Nat} {t e : TypeId} {ks : List Prim} {v : Value} {d : DataW H} {p : List MemPlace} (ht : P.underlying t = some (.slice e)) (hf : flat P f e = some ks) (hz : P.cellsOf e = ks.length) (hz0 : 0 < ks.length)
    (hv : Value.okWide P w r b0 t v) (h : DataW.Trod enc P w base (fun _ => true) held t v d p) :
    ∃ xs : List (List Value), SRow w ks.length v xs ∧ ∀ x ∈ xs, conf enc P w base (fun _ => true) held ks x := by
  obtain ⟨a0, len0, cap0, rfl⟩ := okWide_slice ht hv
  obtain ⟨fuel, hfu⟩ := h
  rcases Go.Deep.open_slice ht hfu with ⟨hcs, _⟩ | ⟨a, len, cap, m, n, D, Pl, hcs, hb, hl, hm, hmm, _, hx⟩
  · simp [Value.cells] at hcs
    obtain ⟨rfl, rfl, rfl⟩ := hcs
    exact ⟨[], ⟨none, 0, rfl, ⟨Nat.le_refl _, fun _ => rfl⟩, Nat.zero_le _, fun h => absurd rfl h⟩, fun x hx => by cases hx⟩
  · simp [Value.cells] at hcs
    obtain ⟨rfl, rfl, rfl⟩ := hcs
    rw [hz] at hx
    have hx' : ∀ i, i < len0 → ∃ cs', (∀ j u, cs'[j]? = some u → w.cell? ((a.add (i * ks.length)).add j) = some u) ∧ cs'.length = ks.length ∧ conf enc P w base (fun _ => true) held ks cs' := fun i hi => by
      obtain ⟨cs', h1, h2⟩ := hx i (by rw [hmm]; simp; omega)
      obtain ⟨_, hlen, hc⟩ := World.cells?_some h1
      exact ⟨cs', fun j u hu => (hc j (by have := (List.getElem?_eq_some_iff.1 hu).1; omega)).trans hu, hlen, flat_trod f n e _ _ ks h2 hf⟩
    obtain ⟨F, hF⟩ := Go.Deep.choose_lt hx'
    refine ⟨(List.range len0).map F, ⟨some a, cap0, by simp, ⟨by simpa using hl, fun e => by cases e⟩, hm, fun hne => ?_⟩, fun x hx => ?_⟩
    · have h0 : 0 < len0 := by
        rcases Nat.eq_zero_or_pos len0 with h | h
        · subst h; simp at hne
        · exact h
      obtain ⟨h1, h2, _⟩ := hF 0 h0
      have h3 := h1 0 _ (List.getElem?_eq_getElem (by omega))
      rw [Nat.zero_mul] at h3
      have ha : (a.add 0).add 0 = a := by simp [Addr.add]
      rw [ha] at h3
      obtain ⟨b, off, rfl⟩ := addr_plain h3
      refine ⟨b, off, rfl, fun j x hx i v hv => ?_⟩
      rw [List.getElem?_map] at hx
      have hj : j < len0 := by
        rcases Nat.lt_or_ge j len0 with h | h
        · exact h
        · rw [List.getElem?_eq_none (by simpa using h)] at hx; cases hx
      rw [List.getElem?_range hj] at hx
      obtain rfl := Option.some.inj hx
      have := (hF j hj).1 i v hv
      rw [Addr.add_mid, Addr.add_mid] at this
      exact this
    · obtain ⟨i, hi, rfl⟩ := List.mem_map.1 hx
      exact (hF i (List.mem_range.1 hi)).2.2

theorem list_of {α : Type} {q : List Value → Prop} {g : α → List Value} {ok : α → Prop} (hq : ∀ x, q x → ∃ a, x = g a ∧ ok a) : ∀ (xs : List (List Value)), (∀ x ∈ xs, q x) → ∃ zs : List α, xs = zs.map g ∧ ∀ a ∈ zs, ok a
  | [], _ => ⟨[], rfl, fun a h => by cases h⟩
  | x :: xs, h => by
    obtain ⟨a, rfl, ha⟩ := hq x (h x List.mem_cons_self)
    obtain ⟨zs, rfl, has⟩ := list_of hq xs (fun y hy => h y (List.mem_cons_of_mem _ hy))
    refine ⟨a :: zs, rfl, fun b hb => ?_⟩
    rcases List.mem_cons.1 hb with rfl | hb
    · exact ha
    · exact has b hb
end

section
variable {H : Type} {enc : TypeId × Value → H} {w : World} {base : Nat} {held : Bool} {r : Reach} {b0 : Nat} {v : Value} {d : DataW H} {p : List MemPlace}
theorem u8_of_wf {n : Int} (h : (Lit.int .u8 n).wf = true) : 0 ≤ n ∧ n ≤ 255 := by
  have := bounds_u8 h
  omega
theorem i64_of_wf {n : Int} (h : (Lit.int .i64 n).wf = true) : -9223372036854775808 ≤ n ∧ n ≤ 9223372036854775807 := by
  have := bounds_i64 h
  omega
set_option maxRecDepth 100000 in
theorem open_spots (hv : Value.okWide Try.prog w r b0 24 v) (h : DataW.Trod enc Try.prog w base (fun _ => true) held 24 v d p) : ∃ l : List Sp, SRow w 3 v (l.map spL) ∧ ∀ s ∈ l, spOk s := by
  obtain ⟨xs, hx, hc⟩ := open_rows (f := 8) (ks := [.i .i64, .i .i64, .i .i64]) Try.underlying24 (by kernel_rfl) (by kernel_rfl) (by decide) hv h
  obtain ⟨zs, rfl, hok⟩ := list_of (g := spL) (ok := spOk) (fun x hx => by
    obtain ⟨_, _, rfl, ⟨a, rfl, wa⟩, hx_0⟩ := conf_cons hx
    obtain ⟨_, _, rfl, ⟨k, rfl, wk⟩, hx_1⟩ := conf_cons hx_0
    obtain ⟨_, _, rfl, ⟨m, rfl, wm⟩, hx_2⟩ := conf_cons hx_1
    obtain rfl := conf_nil hx_2
    exact ⟨(a, k, m), rfl, wa, wk, wm⟩) xs hc
  exact ⟨zs, hx, hok⟩
end
end Go.Proofs.Ytpdckjbknphelaa
