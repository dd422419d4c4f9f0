/-
  The document's answer of the way, in plain numbers: that its choice of the next axis and its step are those of the way.
-/
import Derived.Test.YtdhanigngoniiaaWays1
import Derived.Test.YtdhanigngoniiaaStrL
namespace Go.Proofs.Ytdhanigngoniiaa
open Go.RowKit
set_option linter.unusedSimpArgs false
set_option linter.unusedVariables false

/-- The axis in the document's numbering: X, Z, Y. -/
def rmap (b : Int) : Int := if b = 1 then 2 else if b = 2 then 1 else b

theorem ahead_lt {ax u t ax' u' t' : Int} (h : ax' < ax) : aheadB ax u (2 * t) ax' u' (2 * t') = decide (u * t' < u' * t) := by
  unfold aheadB
  have e1 : u * (2 * t') = 2 * (u * t') := by rw [Int.mul_left_comm]
  have e2 : u' * (2 * t) = 2 * (u' * t) := by rw [Int.mul_left_comm]
  rw [e1, e2]
  generalize u * t' = P
  generalize u' * t = Q
  split
  · rw [Bool.eq_iff_iff]; first | (simp; done) | (simp; omega)
  · rw [Bool.eq_iff_iff]; first | (simp; done) | (simp; omega)

theorem byI_eq (d : Int) : byI d = if d < 0 then -1 else 1 := rfl

theorem next_x {d0 d1 d2 : Int} {s : RS} (h : s.best d0 d1 d2 = 0) : (s.next d0 d1 d2).x = s.x + byI d0 ∧ (s.next d0 d1 d2).y = s.y ∧ (s.next d0 d1 d2).z = s.z ∧ (s.next d0 d1 d2).a = s.a + 2 ∧ (s.next d0 d1 d2).b = s.b ∧ (s.next d0 d1 d2).c = s.c := by
  have hdir : s.dir d0 d1 d2 = if d0 < 0 then 1 else 0 := by unfold RS.dir; rw [h]; rfl
  refine ⟨?_, ?_, ?_, ?_, ?_, ?_⟩
  · unfold RS.next; simp only [hdir]; unfold stepX byI; split <;> rfl
  · unfold RS.next; simp only [hdir]; unfold stepY; split <;> rfl
  · unfold RS.next; simp only [hdir]; unfold stepZ; split <;> rfl
  all_goals (unfold RS.next; simp only [h]; rfl)
theorem next_y {d0 d1 d2 : Int} {s : RS} (h : s.best d0 d1 d2 = 1) : (s.next d0 d1 d2).x = s.x ∧ (s.next d0 d1 d2).y = s.y + byI d1 ∧ (s.next d0 d1 d2).z = s.z ∧ (s.next d0 d1 d2).a = s.a ∧ (s.next d0 d1 d2).b = s.b + 2 ∧ (s.next d0 d1 d2).c = s.c := by
  have hdir : s.dir d0 d1 d2 = if d1 < 0 then 5 else 4 := by unfold RS.dir; rw [h]; rfl
  refine ⟨?_, ?_, ?_, ?_, ?_, ?_⟩
  · unfold RS.next; simp only [hdir]; unfold stepX; split <;> rfl
  · unfold RS.next; simp only [hdir]; unfold stepY byI; split <;> rfl
  · unfold RS.next; simp only [hdir]; unfold stepZ; split <;> rfl
  all_goals (unfold RS.next; simp only [h]; rfl)
theorem next_z {d0 d1 d2 : Int} {s : RS} (h : s.best d0 d1 d2 = 2) : (s.next d0 d1 d2).x = s.x ∧ (s.next d0 d1 d2).y = s.y ∧ (s.next d0 d1 d2).z = s.z + byI d2 ∧ (s.next d0 d1 d2).a = s.a ∧ (s.next d0 d1 d2).b = s.b ∧ (s.next d0 d1 d2).c = s.c + 2 := by
  have hdir : s.dir d0 d1 d2 = if d2 < 0 then 3 else 2 := by unfold RS.dir; rw [h]; rfl
  refine ⟨?_, ?_, ?_, ?_, ?_, ?_⟩
  · unfold RS.next; simp only [hdir]; unfold stepX; split <;> rfl
  · unfold RS.next; simp only [hdir]; unfold stepY; split <;> rfl
  · unfold RS.next; simp only [hdir]; unfold stepZ byI; split <;> rfl
  all_goals (unfold RS.next; simp only [h]; rfl)

theorem dirI_in (d0 d1 d2 b : Int) : 0 ≤ dirI d0 d1 d2 b ∧ dirI d0 d1 d2 b < 6 := by
  unfold dirI
  split
  · split <;> omega
  · split <;> split <;> omega

theorem ok_may {d0 d1 d2 : Int} {s : RS} (h : mayB s.x s.y s.z = true) : s.ok d0 d1 d2 = mayB (s.next d0 d1 d2).x (s.next d0 d1 d2).y (s.next d0 d1 d2).z := by
  unfold RS.ok stepOk
  have hdi : 0 ≤ s.dir d0 d1 d2 ∧ s.dir d0 d1 d2 < 6 := dirI_in d0 d1 d2 (s.best d0 d1 d2)
  rw [h, decide_eq_true hdi]
  rfl

/-- What is left of an axis's crossings: nothing, or those from the one that is due. -/
def Hd (W : World) (lim N : Nat) (t ax y u : Int) (V : Value) : Prop :=
  ((t = 0 ∨ N = 0) ∧ ∃ a c, V = .slice a 0 c) ∨ ((0 < t ∧ u = 2 * (N : Int) + 1) ∧ ∃ a c, V = .slice a 0 c) ∨
  (0 < t ∧ ∃ (g o m l c : Nat) (cs : List Value), V = .slice (some ⟨g, o, none⟩) l c ∧ o = m * 4 ∧ l + m = N ∧ u = 2 * (m : Int) + 1 ∧ g < lim ∧ Blk W g cs 48 ∧ l ≤ c ∧
    ∀ j, j < N → cs[j * 4]? = some (.int .i64 ax) ∧ cs[j * 4 + 1]? = some (.int .i64 y) ∧ cs[j * 4 + 2]? = some (.int .i64 (2 * (j : Int) + 1)) ∧ cs[j * 4 + 3]? = some (.int .i64 (2 * t)))

theorem Hd.down {W W' : World} {lim N : Nat} {t ax y u : Int} {V : Value} (h : Hd W lim N t ax y u V) (k : ∀ g cs, g < lim → Blk W g cs 48 → Blk W' g cs 48) : Hd W' lim N t ax y u V := by
  rcases h with h | h | ⟨ht, g, o, m, l, c, cs, h1, h2, h3, h4, h5, h6, h7⟩
  · exact .inl h
  · exact .inr (.inl h)
  · exact .inr (.inr ⟨ht, g, o, m, l, c, cs, h1, h2, h3, h4, h5, k g cs h5 h6, h7⟩)

theorem Hd.empty {W : World} {lim N : Nat} {t ax y u : Int} {V : Value} (h : Hd W lim N t ax y u V) (ht : ¬ 0 < t) : ∃ a c, V = .slice a 0 c := by
  rcases h with ⟨_, h⟩ | ⟨_, h⟩ | ⟨h, _⟩
  · exact h
  · exact h
  · exact absurd h ht

theorem Hd.form {W : World} {lim N : Nat} {t ax y u : Int} {V : Value} (h : Hd W lim N t ax y u V) : ∃ a l c, V = .slice a l c := by
  rcases h with ⟨_, a, c, h⟩ | ⟨_, a, c, h⟩ | ⟨_, g, o, m, l, c, cs, h, _⟩
  · exact ⟨_, _, _, h⟩
  · exact ⟨_, _, _, h⟩
  · exact ⟨_, _, _, h⟩

/-- The one that is due. -/
theorem Hd.head {W : World} {lim N : Nat} {t ax y u : Int} {V : Value} (h : Hd W lim N t ax y u V) (ht : 0 < t) (hN : 0 < N) (hu : u < 2 * (N : Int)) :
    ∃ (g o l c : Nat) (cs : List Value), V = .slice (some ⟨g, o, none⟩) (l + 1) (c + 1) ∧ l ≤ c ∧ g < lim ∧ Blk W g cs 48 ∧ cs[o]? = some (.int .i64 ax) ∧ cs[o + 1]? = some (.int .i64 y) ∧ cs[o + 2]? = some (.int .i64 u) ∧ cs[o + 3]? = some (.int .i64 (2 * t)) ∧
      (∀ W', Blk W' g cs 48 → Hd W' lim N t ax y (u + 2) (.slice (some ⟨g, o + 4, none⟩) l c)) ∧ (l = 0 → ∀ (W' : World) (a : Option Addr) (c' : Nat), Hd W' lim N t ax y (u + 2) (.slice a 0 c')) := by
  rcases h with ⟨h, _⟩ | ⟨⟨_, h⟩, _⟩ | ⟨_, g, o, m, l, c, cs, h1, rfl, h3, h4, h5, h6, h7, h8⟩
  · omega
  · omega
  · have hm : m < N := by omega
    obtain ⟨l, rfl⟩ : ∃ l', l = l' + 1 := ⟨l - 1, by omega⟩
    obtain ⟨c, rfl⟩ : ∃ c', c = c' + 1 := ⟨c - 1, by omega⟩
    obtain ⟨k0, k1, k2, k3⟩ := h8 m hm
    refine ⟨g, m * 4, l, c, cs, h1, by omega, h5, h6, k0, k1, by rw [h4]; exact k2, k3, fun W' hb => .inr (.inr ⟨ht, g, _, m + 1, l, c, cs, rfl, by omega, by omega, by omega, h5, hb, by omega, h8⟩), fun hl W' a c' => .inr (.inl ⟨⟨ht, by omega⟩, _, _, rfl⟩)⟩

/-- An axis's row, new. -/
theorem Hd.start {W : World} {base lim N : Nat} {ax d : Int} {v : Value} (h : W.ownsRow base 48 4 v (if d = 0 then 0 else N) (cells4 (alongL ax d (if d = 0 then 0 else N)))) (hlim : ∀ k, v.ownBlock = some k → k < lim) :
    Hd W lim N (sizeI d) ax (byI d) 1 v := by
  have sz := sizeI_abs d
  rcases h.2 with ⟨h1, h2⟩ | ⟨g, cap, cur, hv, hg, hh, hc, hx, hs, ht⟩
  · refine .inl ⟨?_, _, _, h1⟩
    have h3 : (if d = 0 then 0 else N) = 0 := h2
    split at h3
    · left; omega
    · right; exact h3
  · by_cases hd : d = 0
    · rw [if_pos hd] at hv
      exact .inl ⟨.inl (by omega), _, _, hv⟩
    · rw [if_neg hd] at hv hc ht
      refine .inr (.inr ⟨by omega, g, 0, 0, N, cap, cur.toList, hv, by omega, by omega, by omega, hlim g (by rw [hv]; rfl), ?_, ?_, ?_⟩)
      · show W.heap[g]? = _
        rw [hh]
      · first | exact hc | omega
      · intro j hj
        obtain ⟨k0, k1, k2, k3⟩ := cells4_at (alongL_at ax d (m := N) hj)
        have e : ∀ i v, i < N * 4 → (cells4 (alongL ax d N))[i]? = some v → cur.toList[i]? = some v := fun i v hi hv => by
          rw [← ht, List.getElem?_take, if_pos hi] at hv
          exact hv
        exact ⟨e _ _ (by omega) k0, e _ _ (by omega) k1, e _ _ (by omega) k2, e _ _ (by omega) k3⟩

/-- What the walk holds between two steps. -/
structure RI (w W : World) (p3 pr p12 N : Nat) (d0 d1 d2 : Int) (s : RS) (V0 V1 V2 v : Value) (pre : List (Int × Int × Int)) : Prop where
  br : Blk W pr [V0, V1, V2] 43
  h0 : Hd W pr N (sizeI d0) 0 (byI d0) s.a V0
  h1 : Hd W pr N (sizeI d2) 1 (byI d2) s.c V1
  h2 : Hd W pr N (sizeI d1) 2 (byI d1) s.b V2
  b12 : Blk W p12 (V3 s.x s.y s.z) 23
  own : W.ownsRow (p12 + 1) 23 3 v pre.length (cellsP pre)
  below : Below p3 w W
  lt : p12 < W.heap.size

theorem RI.down {w W W1 : World} {p3 pr p12 N : Nat} {d0 d1 d2 : Int} {s : RS} {V0 V1 V2 v : Value} {pre : List (Int × Int × Int)} (h : RI w W p3 pr p12 N d0 d1 d2 s V0 V1 V2 v pre) (hb : Below W.heap.size W W1) (hp : p3 < p12) : RI w W1 p3 pr p12 N d0 d1 d2 s V0 V1 V2 v pre :=
  have k : ∀ g cs, g < pr → Blk W g cs 48 → Blk W1 g cs 48 := fun g cs _ h => h.below hb h.lt
  ⟨h.br.below hb h.br.lt, h.h0.down k, h.h1.down k, h.h2.down k, h.b12.below hb h.b12.lt, owns_below h.own hb, below_step h.below (by have := h.lt; omega) hb, Nat.lt_of_lt_of_le h.lt hb.size⟩

/-- The choice, axis by axis. -/
theorem bst1 (s0 s1 s2 a b c : Int) : (bst s0 s1 s2 a b c 1 = 0 ∧ 0 < s0) ∨ (bst s0 s1 s2 a b c 1 = -1 ∧ ¬ 0 < s0) := by
  by_cases h : 0 < s0 <;> simp [bst, h]
theorem bst2 (s0 s1 s2 a b c : Int) : (bst s0 s1 s2 a b c 2 = 0 ∧ 0 < s0) ∨ (bst s0 s1 s2 a b c 2 = 2 ∧ 0 < s2) ∨ bst s0 s1 s2 a b c 2 = -1 := by
  by_cases h : 0 < s0 <;> by_cases h2 : 0 < s2 <;> by_cases hc : c * s0 < a * s2 <;> simp [bst, h, h2, hc]
theorem bst2_no {s0 s1 s2 a b c : Int} (h : ¬ 0 < s2) : bst s0 s1 s2 a b c 2 = bst s0 s1 s2 a b c 1 := by simp [bst, h]
theorem bst2_m {s0 s1 s2 a b c : Int} (h : 0 < s2) (h0 : ¬ 0 < s0) : bst s0 s1 s2 a b c 2 = 2 := by simp [bst, h, h0]
theorem bst2_0 {s0 s1 s2 a b c : Int} (h : 0 < s2) (h0 : 0 < s0) : bst s0 s1 s2 a b c 2 = if c * s0 < a * s2 then 2 else 0 := by by_cases hc : c * s0 < a * s2 <;> simp [bst, h, h0, hc]
theorem bst3_no {s0 s1 s2 a b c : Int} (h : ¬ 0 < s1) : bst s0 s1 s2 a b c 3 = bst s0 s1 s2 a b c 2 := by simp [bst, h]
theorem bst3_0 {s0 s1 s2 a b c : Int} (h : 0 < s1) (h0 : bst s0 s1 s2 a b c 2 = 0) : bst s0 s1 s2 a b c 3 = if b * s0 < a * s1 then 1 else 0 := by
  by_cases k0 : 0 < s0 <;> by_cases h2 : 0 < s2 <;> by_cases hc : c * s0 < a * s2 <;> by_cases hd : b * s0 < a * s1 <;> simp [bst, h, k0, h2, hc, hd] at h0 ⊢
theorem bst3_2 {s0 s1 s2 a b c : Int} (h : 0 < s1) (h0 : bst s0 s1 s2 a b c 2 = 2) : bst s0 s1 s2 a b c 3 = if b * s2 < c * s1 then 1 else 2 := by
  by_cases k0 : 0 < s0 <;> by_cases h2 : 0 < s2 <;> by_cases hc : c * s0 < a * s2 <;> by_cases hd : b * s2 < c * s1 <;> simp [bst, h, k0, h2, hc, hd] at h0 ⊢
theorem bst3_m {s0 s1 s2 a b c : Int} (h : 0 < s1) (h0 : bst s0 s1 s2 a b c 2 = -1) : bst s0 s1 s2 a b c 3 = 1 := by
  by_cases k0 : 0 < s0 <;> by_cases h2 : 0 < s2 <;> by_cases hc : c * s0 < a * s2 <;> simp [bst, h, k0, h2, hc] at h0 ⊢

/-- One step of the walk: a block, the row's head, the place's coordinate. -/
theorem RI.step {w W : World} {p3 pr p12 N : Nat} {d0 d1 d2 : Int} {s s' : RS} {V0 V1 V2 U0 U1 U2 v : Value} {pre : List (Int × Int × Int)} (h : RI w W p3 pr p12 N d0 d1 d2 s V0 V1 V2 v pre) (o1 : p3 ≤ pr) (o2 : pr < p12) (O : Obj) (i j : Nat) (U q : Value)
    (hr : [V0, V1, V2].set i U = [U0, U1, U2]) (hp : (V3 s.x s.y s.z).set j q = V3 s'.x s'.y s'.z)
    (h0 : ∀ W', (∀ g cs, g < pr → Blk W g cs 48 → Blk W' g cs 48) → Hd W' pr N (sizeI d0) 0 (byI d0) s'.a U0)
    (h1 : ∀ W', (∀ g cs, g < pr → Blk W g cs 48 → Blk W' g cs 48) → Hd W' pr N (sizeI d2) 1 (byI d2) s'.c U1)
    (h2 : ∀ W', (∀ g cs, g < pr → Blk W g cs 48 → Blk W' g cs 48) → Hd W' pr N (sizeI d1) 2 (byI d1) s'.b U2) :
    RI w (((W.setCell ⟨pr, i, none⟩ U).setCell ⟨p12, j, none⟩ q).alloc O) p3 pr p12 N d0 d1 d2 s' U0 U1 U2 v pre := by
  have hlt := h.lt
  have ne1 : pr ≠ p12 := by omega
  have kk : ∀ g cs, g < pr → Blk W g cs 48 → Blk ((W.setCell ⟨pr, i, none⟩ U).setCell ⟨p12, j, none⟩ q) g cs 48 := fun g cs hg hb =>
    (hb.set_other U (show g ≠ pr by omega)).set_other q (show g ≠ p12 by omega)
  have hown : ∀ k, v.ownBlock = some k → p12 + 1 ≤ k := fun k hk => (h.own.lt k hk).1
  have base : RI w ((W.setCell ⟨pr, i, none⟩ U).setCell ⟨p12, j, none⟩ q) p3 pr p12 N d0 d1 d2 s' U0 U1 U2 v pre := by
    refine ⟨?_, h0 _ kk, h1 _ kk, h2 _ kk, ?_, ?_, ?_, ?_⟩
    · rw [← hr]; exact (h.br.set i U).set_other q ne1
    · rw [← hp]; exact (h.b12.set_other U (Ne.symm ne1)).set j q
    · exact owns_setCell (owns_setCell h.own U (fun k hk => by have := hown k hk; show k ≠ pr; omega)) q (fun k hk => by have := hown k hk; show k ≠ p12; omega)
    · exact (h.below.setCell (p := ⟨pr, i, none⟩) o1 U).setCell (p := ⟨p12, j, none⟩) (show p3 ≤ p12 by omega) q
    · simp
      omega
  exact base.down ((Below.refl _ _).alloc (Nat.le_refl _) O) (by omega)

theorem RI.grow {w W W1 : World} {p3 pr p12 N : Nat} {d0 d1 d2 : Int} {s : RS} {V0 V1 V2 v v' : Value} {pre pre' : List (Int × Int × Int)} (h : RI w W p3 pr p12 N d0 d1 d2 s V0 V1 V2 v pre) (hg : W.grownBy W1 v.ownBlock) (ho : W1.ownsRow (p12 + 1) 23 3 v' pre'.length (cellsP pre')) (o1 : p3 ≤ pr) (o2 : pr < p12) : RI w W1 p3 pr p12 N d0 d1 d2 s V0 V1 V2 v' pre' := by
  have hlt := h.lt
  have hk : ∀ k, v.ownBlock = some k → p12 + 1 ≤ k := fun k hk => (h.own.lt k hk).1
  have hne : ∀ b, b ≤ p12 → some b ≠ v.ownBlock := fun b hb e => by have := hk b e.symm; omega
  have kk : ∀ g cs, g < pr → Blk W g cs 48 → Blk W1 g cs 48 := fun g cs hg' hb => hb.grown hg (hne _ (by omega))
  exact ⟨h.br.grown hg (hne _ (by omega)), h.h0.down kk, h.h1.down kk, h.h2.down kk, h.b12.grown hg (hne _ (Nat.le_refl _)), ho, h.below.grown hg (by omega) (fun k e => by have := hk k e; omega), Nat.lt_of_lt_of_le h.lt hg.size⟩

def someB (d0 d1 d2 : Int) (k : Nat) : Bool := (decide (0 < k) && !decide (d0 = 0)) || ((decide (1 < k) && !decide (d1 = 0)) || (decide (2 < k) && !decide (d2 = 0)))
theorem someB0 (d0 d1 d2 : Int) : someB d0 d1 d2 1 = (someB d0 d1 d2 0 || !decide (d0 = 0)) := by simp [someB]
theorem someB1 (d0 d1 d2 : Int) : someB d0 d1 d2 2 = (someB d0 d1 d2 1 || !decide (d1 = 0)) := by simp [someB]
theorem someB2 (d0 d1 d2 : Int) : someB d0 d1 d2 3 = (someB d0 d1 d2 2 || !decide (d2 = 0)) := by simp [someB, Bool.or_assoc]
theorem someB3 (d0 d1 d2 : Int) : someB d0 d1 d2 3 = true ↔ ¬ (d0 = 0 ∧ d1 = 0 ∧ d2 = 0) := by
  by_cases h0 : d0 = 0 <;> by_cases h1 : d1 = 0 <;> by_cases h2 : d2 = 0 <;> simp [someB, h0, h1, h2]
end Go.Proofs.Ytdhanigngoniiaa
