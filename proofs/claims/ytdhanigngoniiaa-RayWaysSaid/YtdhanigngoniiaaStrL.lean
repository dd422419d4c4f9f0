/-
  What the statement about the straight line asks of the way's places, in plain numbers.
-/
import Derived.Test.YtdhanigngoniiaaTouch
import Derived.Test.YtdhanigngoniiaaFurther
namespace Go.Proofs.Ytdhanigngoniiaa
open Go.RowKit
set_option linter.unusedSimpArgs false
set_option linter.unusedVariables false

theorem sel0 (a b c : Int) : sel a b c 0 = a := rfl
theorem sel1 (a b c : Int) : sel a b c 1 = b := rfl
theorem sel2 (a b c : Int) : sel a b c 2 = c := rfl
theorem three {P : Nat → Prop} (h0 : P 0) (h1 : P 1) (h2 : P 2) : ∀ k, k < 3 → P k := by
  intro k hk
  obtain rfl | rfl | rfl : k = 0 ∨ k = 1 ∨ k = 2 := by omega
  · exact h0
  · exact h1
  · exact h2

theorem sizeI_abs (d : Int) : (d < 0 ∧ sizeI d = -d) ∨ (0 ≤ d ∧ sizeI d = d) := by unfold sizeI; split <;> omega

/-- What the counting of the steps gives, axis by axis. -/
def Counts (qx qy qz px py pz d0 d1 d2 : Int) (C : Nat → Int) : Prop :=
  C 0 = 0 ∧ C 3 = 1 ∧ ∀ j, j < 3 → (0 ≤ C j ∧ C j ≤ 1) ∧
    ((sel px py pz j - sel qx qy qz j = 0 ∧ C (j + 1) = C j) ∨ (sel px py pz j - sel qx qy qz j = 1 ∧ 0 < sel d0 d1 d2 j ∧ C (j + 1) = C j + 1) ∨ (sel px py pz j - sel qx qy qz j = -1 ∧ sel d0 d1 d2 j < 0 ∧ C (j + 1) = C j + 1))

theorem counts_of {qx qy qz px py pz d0 d1 d2 : Int}
    (h : (d0 ≠ 0 ∧ px = qx + (if d0 < 0 then -1 else 1) ∧ py = qy ∧ pz = qz) ∨ (d1 ≠ 0 ∧ px = qx ∧ py = qy + (if d1 < 0 then -1 else 1) ∧ pz = qz) ∨ (d2 ≠ 0 ∧ px = qx ∧ py = qy ∧ pz = qz + (if d2 < 0 then -1 else 1))) :
    ∃ C, Counts qx qy qz px py pz d0 d1 d2 C := by
  rcases h with ⟨h0, rfl, rfl, rfl⟩ | ⟨h0, rfl, rfl, rfl⟩ | ⟨h0, rfl, rfl, rfl⟩
  · refine ⟨fun j => if j = 0 then 0 else 1, rfl, rfl, three ⟨by decide, ?_⟩ ⟨by decide, ?_⟩ ⟨by decide, ?_⟩⟩
    · rw [sel0, sel0, sel0]; simp only [if_true, Nat.zero_add, Nat.one_ne_zero, if_false]; split <;> omega
    · rw [sel1, sel1, sel1]; left; exact ⟨by omega, rfl⟩
    · rw [sel2, sel2, sel2]; left; exact ⟨by omega, rfl⟩
  · refine ⟨fun j => if j = 0 ∨ j = 1 then 0 else 1, rfl, rfl, three ⟨by decide, ?_⟩ ⟨by decide, ?_⟩ ⟨by decide, ?_⟩⟩
    · rw [sel0, sel0, sel0]; left; exact ⟨by omega, rfl⟩
    · rw [sel1, sel1, sel1]; simp only [Nat.reduceAdd, Nat.one_ne_zero, Nat.reduceEqDiff, or_true, or_self, if_true, if_false]; split <;> omega
    · rw [sel2, sel2, sel2]; left; exact ⟨by omega, rfl⟩
  · refine ⟨fun j => if j = 0 ∨ j = 1 ∨ j = 2 then 0 else 1, rfl, rfl, three ⟨by decide, ?_⟩ ⟨by decide, ?_⟩ ⟨by decide, ?_⟩⟩
    · rw [sel0, sel0, sel0]; left; exact ⟨by omega, rfl⟩
    · rw [sel1, sel1, sel1]; left; exact ⟨by omega, rfl⟩
    · rw [sel2, sel2, sel2]; simp only [Nat.reduceAdd, Nat.one_ne_zero, Nat.reduceEqDiff, or_true, or_self, if_true, if_false]; split <;> omega

/-- What touches asks. -/
def Touching (fx fy fz px py pz d0 d1 d2 : Int) (M S : Nat → Int) : Prop :=
  (∀ k, k < 3 → 0 ≤ M k ∧ M k ≤ 256) ∧ (∀ k, k < 3 → 0 ≤ S k ∧ S k ≤ 1000) ∧ (∀ k, k < 3 → S k = 0 → M k = 0) ∧
  (∀ k, k < 3 → (sel d0 d1 d2 k < 0 ∧ S k = - sel d0 d1 d2 k ∧ M k = - (sel px py pz k - sel fx fy fz k)) ∨ (0 ≤ sel d0 d1 d2 k ∧ S k = sel d0 d1 d2 k ∧ M k = sel px py pz k - sel fx fy fz k)) ∧
  (∀ i k, i < 3 → k < 3 → (2 * M i - 1) * S k ≤ (2 * M k + 1) * S i)

theorem touching_of {fx fy fz d0 d1 d2 : Int} {s : RS} (h : RInv fx fy fz d0 d1 d2 s) (hs : s.a + s.b + s.c ≤ 515) (k0 : -1000 ≤ d0 ∧ d0 ≤ 1000) (k1 : -1000 ≤ d1 ∧ d1 ≤ 1000) (k2 : -1000 ≤ d2 ∧ d2 ≤ 1000) :
    ∃ M S, Touching fx fy fz s.x s.y s.z d0 d1 d2 M S := by
  obtain ⟨⟨m0, m1, m2, g0, g1, g2, ha, hb, hc, hx, hy, hz, z0, z1, z2⟩, ab, ac, ba, bc, ca, cb⟩ := h
  have n0 := sizeI_nonneg d0
  have n1 := sizeI_nonneg d1
  have n2 := sizeI_nonneg d2
  have s0 := sizeI_abs d0
  have s1 := sizeI_abs d1
  have s2 := sizeI_abs d2
  have sg : ∀ (d m f : Int) (x : Int), x = f + sgn d m → (d < 0 ∧ m = -(x - f)) ∨ (0 ≤ d ∧ m = x - f) := fun d m f x h => by unfold sgn at h; split at h <;> omega
  have x0 := sg _ _ _ _ hx
  have x1 := sg _ _ _ _ hy
  have x2 := sg _ _ _ _ hz
  have e : ∀ m t : Int, (2 * m - 1) * t = (2 * m + 1) * t - 2 * t := fun m t => by rw [show 2 * m - 1 = (2 * m + 1) - 2 by omega, Int.sub_mul]
  have same : ∀ m t : Int, 0 ≤ t → (2 * m - 1) * t ≤ (2 * m + 1) * t := fun m t ht => by rw [e]; omega
  rw [ha] at ab ac ba ca
  rw [hb] at ab ba bc cb
  rw [hc] at ac bc ca cb
  refine ⟨sel m0 m1 m2, sel (sizeI d0) (sizeI d1) (sizeI d2), three ?_ ?_ ?_, three ?_ ?_ ?_, three ?_ ?_ ?_, three ?_ ?_ ?_, ?_⟩
  iterate 3 (focus (simp only [sel0, sel1, sel2]; omega))
  iterate 3 (focus (simp only [sel0, sel1, sel2]; omega))
  · exact z0
  · exact z1
  · exact z2
  iterate 3 (focus (simp only [sel0, sel1, sel2]; omega))
  · refine fun i k hi hk => three (P := fun i => (2 * sel m0 m1 m2 i - 1) * sel (sizeI d0) (sizeI d1) (sizeI d2) k ≤ (2 * sel m0 m1 m2 k + 1) * sel (sizeI d0) (sizeI d1) (sizeI d2) i) ?_ ?_ ?_ i hi
    · refine three (P := fun k => (2 * sel m0 m1 m2 0 - 1) * sel (sizeI d0) (sizeI d1) (sizeI d2) k ≤ (2 * sel m0 m1 m2 k + 1) * sel (sizeI d0) (sizeI d1) (sizeI d2) 0) ?_ ?_ ?_ k hk <;> simp only [sel0, sel1, sel2]
      · exact same _ _ n0
      · rw [e]; exact ab
      · rw [e]; exact ac
    · refine three (P := fun k => (2 * sel m0 m1 m2 1 - 1) * sel (sizeI d0) (sizeI d1) (sizeI d2) k ≤ (2 * sel m0 m1 m2 k + 1) * sel (sizeI d0) (sizeI d1) (sizeI d2) 1) ?_ ?_ ?_ k hk <;> simp only [sel0, sel1, sel2]
      · rw [e]; exact ba
      · exact same _ _ n1
      · rw [e]; exact bc
    · refine three (P := fun k => (2 * sel m0 m1 m2 2 - 1) * sel (sizeI d0) (sizeI d1) (sizeI d2) k ≤ (2 * sel m0 m1 m2 k + 1) * sel (sizeI d0) (sizeI d1) (sizeI d2) 2) ?_ ?_ ?_ k hk <;> simp only [sel0, sel1, sel2]
      · rw [e]; exact ca
      · rw [e]; exact cb
      · exact same _ _ n2

theorem next_sum {d0 d1 d2 : Int} {s : RS} (hd : 0 < sizeI d0 ∨ 0 < sizeI d1 ∨ 0 < sizeI d2) : (s.next d0 d1 d2).a + (s.next d0 d1 d2).b + (s.next d0 d1 d2).c = s.a + s.b + s.c + 2 := by
  rcases bst_range (sizeI d0) (sizeI d1) (sizeI d2) s.a s.b s.c hd with ⟨hbest, hp⟩ | ⟨hbest, hp⟩ | ⟨hbest, hp⟩
  · have hb' : s.best d0 d1 d2 = 0 := hbest
    unfold RS.next; simp only [hb']; simp; omega
  · have hb' : s.best d0 d1 d2 = 1 := hbest
    unfold RS.next; simp only [hb']; simp; omega
  · have hb' : s.best d0 d1 d2 = 2 := hbest
    unfold RS.next; simp only [hb']; simp; omega

/-- Each place of the way: one step from the one ahead of it (or from where it began), and touched by the line. -/
theorem straight_at {x y z d0 d1 d2 : Int} {N k : Nat} {p : Int × Int × Int} (hN : N ≤ 256) (k0 : -1000 ≤ d0 ∧ d0 ≤ 1000) (k1 : -1000 ≤ d1 ∧ d1 ≤ 1000) (k2 : -1000 ≤ d2 ∧ d2 ≤ 1000) (hz : ¬ (d0 = 0 ∧ d1 = 0 ∧ d2 = 0))
    (hp : (wayL d0 d1 d2 N (start x y z))[k]? = some p) (q : Int × Int × Int) (hq0 : k = 0 → q = (x, y, z)) (hq1 : ∀ i, k = i + 1 → (wayL d0 d1 d2 N (start x y z))[i]? = some q) :
    (∃ C, Counts q.1 q.2.1 q.2.2 p.1 p.2.1 p.2.2 d0 d1 d2 C) ∧ ∃ M S, Touching x y z p.1 p.2.1 p.2.2 d0 d1 d2 M S := by
  have hd : 0 < sizeI d0 ∨ 0 < sizeI d1 ∨ 0 < sizeI d2 := by
    have s0 := sizeI_abs d0
    have s1 := sizeI_abs d1
    have s2 := sizeI_abs d2
    omega
  have hk : k < N := Nat.lt_of_lt_of_le (List.getElem?_eq_some_iff.1 hp).1 (wayL_le _ _ _ _ _)
  obtain ⟨s, i1, i2, i3, rfl, i5, i6⟩ := wayL_states hd N k _ p (rinv_start x y z d0 d1 d2) hp
  have hsum : s.a + s.b + s.c = 3 + 2 * k := i6
  refine ⟨?_, touching_of (rinv_next hd i1) (by rw [next_sum hd, hsum]; omega) k0 k1 k2⟩
  have hq : q = (s.x, s.y, s.z) := by
    cases k with
    | zero => rw [hq0 rfl, i2 rfl]; rfl
    | succ i => exact Option.some.inj ((hq1 i rfl).symm.trans (i3 i rfl))
  subst hq
  exact counts_of (next_move hd)
end Go.Proofs.Ytdhanigngoniiaa
