/-
  The way of a ray keeps to the straight line, in plain numbers.
-/
import Derived.Test.YtdhanigngoniiaaRayM
namespace Go.Proofs.Ytdhanigngoniiaa
open Go.RowKit
set_option linter.unusedSimpArgs false
set_option linter.unusedVariables false

/-- How far along an axis: by d's sign. -/
def sgn (d m : Int) : Int := if d < 0 then -m else m

/-- What holds of every state of the way from (fx, fy, fz). -/
structure RInv (fx fy fz d0 d1 d2 : Int) (s : RS) : Prop where
  ex : ∃ m0 m1 m2 : Int, 0 ≤ m0 ∧ 0 ≤ m1 ∧ 0 ≤ m2 ∧ s.a = 2 * m0 + 1 ∧ s.b = 2 * m1 + 1 ∧ s.c = 2 * m2 + 1 ∧
    s.x = fx + sgn d0 m0 ∧ s.y = fy + sgn d1 m1 ∧ s.z = fz + sgn d2 m2 ∧ (sizeI d0 = 0 → m0 = 0) ∧ (sizeI d1 = 0 → m1 = 0) ∧ (sizeI d2 = 0 → m2 = 0)
  ab : s.a * sizeI d1 - 2 * sizeI d1 ≤ s.b * sizeI d0
  ac : s.a * sizeI d2 - 2 * sizeI d2 ≤ s.c * sizeI d0
  ba : s.b * sizeI d0 - 2 * sizeI d0 ≤ s.a * sizeI d1
  bc : s.b * sizeI d2 - 2 * sizeI d2 ≤ s.c * sizeI d1
  ca : s.c * sizeI d0 - 2 * sizeI d0 ≤ s.a * sizeI d2
  cb : s.c * sizeI d1 - 2 * sizeI d1 ≤ s.b * sizeI d2

theorem sizeI_nonneg (d : Int) : 0 ≤ sizeI d := by unfold sizeI; split <;> omega

theorem rinv_start (fx fy fz d0 d1 d2 : Int) : RInv fx fy fz d0 d1 d2 (start fx fy fz) := by
  have h0 := sizeI_nonneg d0
  have h1 := sizeI_nonneg d1
  have h2 := sizeI_nonneg d2
  have e : ∀ f d : Int, f = f + sgn d 0 := fun f d => by unfold sgn; split <;> omega
  exact ⟨⟨0, 0, 0, by omega, by omega, by omega, rfl, rfl, rfl, e _ _, e _ _, e _ _, fun _ => rfl, fun _ => rfl, fun _ => rfl⟩,
    by simp only [start]; omega, by simp only [start]; omega, by simp only [start]; omega, by simp only [start]; omega, by simp only [start]; omega, by simp only [start]; omega⟩

theorem rinv_next {fx fy fz d0 d1 d2 : Int} {s : RS} (hd : 0 < sizeI d0 ∨ 0 < sizeI d1 ∨ 0 < sizeI d2) (h : RInv fx fy fz d0 d1 d2 s) : RInv fx fy fz d0 d1 d2 (s.next d0 d1 d2) := by
  obtain ⟨⟨m0, m1, m2, g0, g1, g2, ha, hb, hc, hx, hy, hz, k0, k1, k2⟩, ab, ac, ba, bc, ca, cb⟩ := h
  have n0 := sizeI_nonneg d0
  have n1 := sizeI_nonneg d1
  have n2 := sizeI_nonneg d2
  obtain ⟨l0, l1, l2⟩ := bst_least (sizeI d0) (sizeI d1) (sizeI d2) s.a s.b s.c n0 n1 n2
  have pa0 : ∀ t, 0 ≤ t → 0 ≤ s.a * t := fun t ht => Int.mul_nonneg (by omega) ht
  have pb0 : ∀ t, 0 ≤ t → 0 ≤ s.b * t := fun t ht => Int.mul_nonneg (by omega) ht
  have pc0 : ∀ t, 0 ≤ t → 0 ≤ s.c * t := fun t ht => Int.mul_nonneg (by omega) ht
  have z0 : ∀ u : Int, ¬ 0 < sizeI d0 → u * sizeI d0 = 0 := fun u hn => by rw [show sizeI d0 = 0 by omega, Int.mul_zero]
  have z1 : ∀ u : Int, ¬ 0 < sizeI d1 → u * sizeI d1 = 0 := fun u hn => by rw [show sizeI d1 = 0 by omega, Int.mul_zero]
  have z2 : ∀ u : Int, ¬ 0 < sizeI d2 → u * sizeI d2 = 0 := fun u hn => by rw [show sizeI d2 = 0 by omega, Int.mul_zero]
  have fwd : ∀ f d m : Int, f + sgn d m + (if d < 0 then -1 else 1) = f + sgn d (m + 1) := fun f d m => by unfold sgn; split <;> omega
  have hbd : ∀ (d : Int) , 0 < sizeI d → d ≠ 0 := fun d hd e => by subst e; simp [sizeI] at hd
  rcases bst_range (sizeI d0) (sizeI d1) (sizeI d2) s.a s.b s.c hd with ⟨hbest, hp⟩ | ⟨hbest, hp⟩ | ⟨hbest, hp⟩
  · have hb' : s.best d0 d1 d2 = 0 := hbest
    have hdir : s.dir d0 d1 d2 = if d0 < 0 then 1 else 0 := by unfold RS.dir; rw [hb']; rfl
    have q1 : s.a * sizeI d1 ≤ s.b * sizeI d0 := by
      by_cases hq : 0 < sizeI d1
      · exact (l0 hbest).1 hq
      · rw [z1 _ hq]; exact pb0 _ n0
    have q2 : s.a * sizeI d2 ≤ s.c * sizeI d0 := by
      by_cases hq : 0 < sizeI d2
      · exact (l0 hbest).2 hq
      · rw [z2 _ hq]; exact pc0 _ n0
    have na : (s.next d0 d1 d2).a = s.a + 2 := by unfold RS.next; simp only [hb']; rfl
    have nb : (s.next d0 d1 d2).b = s.b := by unfold RS.next; simp only [hb']; rfl
    have nc : (s.next d0 d1 d2).c = s.c := by unfold RS.next; simp only [hb']; rfl
    have nx : (s.next d0 d1 d2).x = s.x + (if d0 < 0 then -1 else 1) := by unfold RS.next; simp only [hdir]; unfold stepX; split <;> rfl
    have ny : (s.next d0 d1 d2).y = s.y := by unfold RS.next; simp only [hdir]; unfold stepY; split <;> rfl
    have nz : (s.next d0 d1 d2).z = s.z := by unfold RS.next; simp only [hdir]; unfold stepZ; split <;> rfl
    refine ⟨⟨m0 + 1, m1, m2, by omega, g1, g2, by omega, by omega, by omega, ?_, by rw [ny, hy], by rw [nz, hz], by omega, k1, k2⟩, ?_, ?_, ?_, ?_, ?_, ?_⟩
    · rw [nx, hx, fwd]
    all_goals (try rw [na]) <;> (try rw [nb]) <;> (try rw [nc]) <;> (try rw [Int.add_mul]) <;> omega
  · have hb' : s.best d0 d1 d2 = 1 := hbest
    have hdir : s.dir d0 d1 d2 = if d1 < 0 then 5 else 4 := by unfold RS.dir; rw [hb']; rfl
    have q1 : s.b * sizeI d0 ≤ s.a * sizeI d1 := by
      by_cases hq : 0 < sizeI d0
      · exact (l1 hbest).1 hq
      · rw [z0 _ hq]; exact pa0 _ n1
    have q2 : s.b * sizeI d2 ≤ s.c * sizeI d1 := by
      by_cases hq : 0 < sizeI d2
      · exact (l1 hbest).2 hq
      · rw [z2 _ hq]; exact pc0 _ n1
    have na : (s.next d0 d1 d2).a = s.a := by unfold RS.next; simp only [hb']; rfl
    have nb : (s.next d0 d1 d2).b = s.b + 2 := by unfold RS.next; simp only [hb']; rfl
    have nc : (s.next d0 d1 d2).c = s.c := by unfold RS.next; simp only [hb']; rfl
    have nx : (s.next d0 d1 d2).x = s.x := by unfold RS.next; simp only [hdir]; unfold stepX; split <;> rfl
    have ny : (s.next d0 d1 d2).y = s.y + (if d1 < 0 then -1 else 1) := by unfold RS.next; simp only [hdir]; unfold stepY; split <;> rfl
    have nz : (s.next d0 d1 d2).z = s.z := by unfold RS.next; simp only [hdir]; unfold stepZ; split <;> rfl
    refine ⟨⟨m0, m1 + 1, m2, g0, by omega, g2, by omega, by omega, by omega, by rw [nx, hx], ?_, by rw [nz, hz], k0, by omega, k2⟩, ?_, ?_, ?_, ?_, ?_, ?_⟩
    · rw [ny, hy, fwd]
    all_goals (try rw [na]) <;> (try rw [nb]) <;> (try rw [nc]) <;> (try rw [Int.add_mul]) <;> omega
  · have hb' : s.best d0 d1 d2 = 2 := hbest
    have hdir : s.dir d0 d1 d2 = if d2 < 0 then 3 else 2 := by unfold RS.dir; rw [hb']; rfl
    have q1 : s.c * sizeI d0 ≤ s.a * sizeI d2 := by
      by_cases hq : 0 < sizeI d0
      · exact (l2 hbest).1 hq
      · rw [z0 _ hq]; exact pa0 _ n2
    have q2 : s.c * sizeI d1 ≤ s.b * sizeI d2 := by
      by_cases hq : 0 < sizeI d1
      · exact (l2 hbest).2 hq
      · rw [z1 _ hq]; exact pb0 _ n2
    have na : (s.next d0 d1 d2).a = s.a := by unfold RS.next; simp only [hb']; rfl
    have nb : (s.next d0 d1 d2).b = s.b := by unfold RS.next; simp only [hb']; rfl
    have nc : (s.next d0 d1 d2).c = s.c + 2 := by unfold RS.next; simp only [hb']; rfl
    have nx : (s.next d0 d1 d2).x = s.x := by unfold RS.next; simp only [hdir]; unfold stepX; split <;> rfl
    have ny : (s.next d0 d1 d2).y = s.y := by unfold RS.next; simp only [hdir]; unfold stepY; split <;> rfl
    have nz : (s.next d0 d1 d2).z = s.z + (if d2 < 0 then -1 else 1) := by unfold RS.next; simp only [hdir]; unfold stepZ; split <;> rfl
    refine ⟨⟨m0, m1, m2 + 1, g0, g1, by omega, by omega, by omega, by omega, by rw [nx, hx], by rw [ny, hy], ?_, k0, k1, by omega⟩, ?_, ?_, ?_, ?_, ?_, ?_⟩
    · rw [nz, hz, fwd]
    all_goals (try rw [na]) <;> (try rw [nb]) <;> (try rw [nc]) <;> (try rw [Int.add_mul]) <;> omega

/-- One step: one axis alone, as its direction says. -/
theorem next_move {d0 d1 d2 : Int} {s : RS} (hd : 0 < sizeI d0 ∨ 0 < sizeI d1 ∨ 0 < sizeI d2) :
    (d0 ≠ 0 ∧ (s.next d0 d1 d2).x = s.x + (if d0 < 0 then -1 else 1) ∧ (s.next d0 d1 d2).y = s.y ∧ (s.next d0 d1 d2).z = s.z) ∨
    (d1 ≠ 0 ∧ (s.next d0 d1 d2).x = s.x ∧ (s.next d0 d1 d2).y = s.y + (if d1 < 0 then -1 else 1) ∧ (s.next d0 d1 d2).z = s.z) ∨
    (d2 ≠ 0 ∧ (s.next d0 d1 d2).x = s.x ∧ (s.next d0 d1 d2).y = s.y ∧ (s.next d0 d1 d2).z = s.z + (if d2 < 0 then -1 else 1)) := by
  have hbd : ∀ (d : Int) , 0 < sizeI d → d ≠ 0 := fun d hd e => by subst e; simp [sizeI] at hd
  rcases bst_range (sizeI d0) (sizeI d1) (sizeI d2) s.a s.b s.c hd with ⟨hbest, hp⟩ | ⟨hbest, hp⟩ | ⟨hbest, hp⟩
  · have hb' : s.best d0 d1 d2 = 0 := hbest
    have hdir : s.dir d0 d1 d2 = if d0 < 0 then 1 else 0 := by unfold RS.dir; rw [hb']; rfl
    refine .inl ⟨hbd _ hp, ?_, ?_, ?_⟩
    · unfold RS.next; simp only [hdir]; unfold stepX; split <;> rfl
    · unfold RS.next; simp only [hdir]; unfold stepY; split <;> rfl
    · unfold RS.next; simp only [hdir]; unfold stepZ; split <;> rfl
  · have hb' : s.best d0 d1 d2 = 1 := hbest
    have hdir : s.dir d0 d1 d2 = if d1 < 0 then 5 else 4 := by unfold RS.dir; rw [hb']; rfl
    refine .inr (.inl ⟨hbd _ hp, ?_, ?_, ?_⟩)
    · unfold RS.next; simp only [hdir]; unfold stepX; split <;> rfl
    · unfold RS.next; simp only [hdir]; unfold stepY; split <;> rfl
    · unfold RS.next; simp only [hdir]; unfold stepZ; split <;> rfl
  · have hb' : s.best d0 d1 d2 = 2 := hbest
    have hdir : s.dir d0 d1 d2 = if d2 < 0 then 3 else 2 := by unfold RS.dir; rw [hb']; rfl
    refine .inr (.inr ⟨hbd _ hp, ?_, ?_, ?_⟩)
    · unfold RS.next; simp only [hdir]; unfold stepX; split <;> rfl
    · unfold RS.next; simp only [hdir]; unfold stepY; split <;> rfl
    · unfold RS.next; simp only [hdir]; unfold stepZ; split <;> rfl

/-- The states along the way. -/
theorem wayL_states {fx fy fz d0 d1 d2 : Int} (hd : 0 < sizeI d0 ∨ 0 < sizeI d1 ∨ 0 < sizeI d2) : ∀ (k j : Nat) (s : RS) (p : Int × Int × Int), RInv fx fy fz d0 d1 d2 s → (wayL d0 d1 d2 k s)[j]? = some p →
    ∃ s', RInv fx fy fz d0 d1 d2 s' ∧ (j = 0 → s' = s) ∧ (∀ i, j = i + 1 → (wayL d0 d1 d2 k s)[i]? = some (s'.x, s'.y, s'.z)) ∧ p = ((s'.next d0 d1 d2).x, (s'.next d0 d1 d2).y, (s'.next d0 d1 d2).z) ∧ s'.ok d0 d1 d2 = true ∧
      s'.a + s'.b + s'.c = s.a + s.b + s.c + 2 * j := by
  intro k
  induction k with
  | zero => intro j s p _ h; simp [wayL] at h
  | succ k ih =>
    intro j s p hs h
    unfold wayL at h ⊢
    split at h
    · rename_i hok
      rw [if_pos hok]
      cases j with
      | zero =>
        obtain rfl := Option.some.inj h
        exact ⟨s, hs, fun _ => rfl, fun i hi => by omega, rfl, hok, by omega⟩
      | succ j =>
        have h' : (wayL d0 d1 d2 k (s.next d0 d1 d2))[j]? = some p := by simpa using h
        obtain ⟨s', i1, i2, i3, i4, i5, i6⟩ := ih j _ p (rinv_next hd hs) h'
        have hsum : (s.next d0 d1 d2).a + (s.next d0 d1 d2).b + (s.next d0 d1 d2).c = s.a + s.b + s.c + 2 := by
          rcases bst_range (sizeI d0) (sizeI d1) (sizeI d2) s.a s.b s.c hd with ⟨hbest, hp⟩ | ⟨hbest, hp⟩ | ⟨hbest, hp⟩
          · have hb' : s.best d0 d1 d2 = 0 := hbest
            unfold RS.next; simp only [hb']; simp; omega
          · have hb' : s.best d0 d1 d2 = 1 := hbest
            unfold RS.next; simp only [hb']; simp; omega
          · have hb' : s.best d0 d1 d2 = 2 := hbest
            unfold RS.next; simp only [hb']; simp; omega
        refine ⟨s', i1, fun e => by omega, fun i hi => ?_, i4, i5, by omega⟩
        cases i with
        | zero =>
          have := i2 (by omega)
          subst this
          rfl
        | succ i =>
          have := i3 i (by omega)
          simpa using this
    · simp at h
end Go.Proofs.Ytdhanigngoniiaa
