/-
  The contracts of what the document's answer of the way calls: May, along, ahead; and Same.
-/
import Derived.Test.YtdhanigngoniiaaFurther
namespace Go.Proofs.Ytdhanigngoniiaa
open Go.RowKit
set_option linter.unusedSimpArgs false
set_option linter.unusedVariables false

set_option maxHeartbeats 400000 in
theorem within_calls (n f t : Int) (w : World) :
    Calls Try.prog 21 #[.int .i64 n, .int .i64 f, .int .i64 t] w fun e w' => e = .returned (.bool (decide (f ≤ n ∧ n < t))) ∧ w' = w := by
  go_enter Try.func21, Try.ntmps21
  go_wp2
  all_goals go_ret
  all_goals exact ⟨ret_bool (by rw [Bool.eq_iff_iff]; simp; omega), rfl⟩

set_option maxHeartbeats 400000 in
theorem rmay_calls (x y z : Int) (w : World) :
    Calls Try.prog 18 #[.agg #[.int .i64 x, .int .i64 y, .int .i64 z]] w fun e w' => e = .returned (.bool (mayB x y z)) ∧ Below w.heap.size w w' := by
  go_enter Try.func18, Try.ntmps18
  go_wp2_with (go_at_call 21; refine (within_calls _ _ _ _).mono ?_; rintro e w' ⟨rfl, rfl⟩)
  all_goals go_ret
  all_goals exact ⟨ret_bool (by rw [Bool.eq_iff_iff]; simp [mayB] at *; omega), (Below.refl _ _).alloc (Nat.le_refl _) _⟩

theorem blk_news {W : World} {b : Nat} {cs : List Value} {T : TypeId} (h : Blk W b cs T) : ∀ j u, cs[j]? = some u → W.cell? ((⟨b, 0, none⟩ : Addr).add j) = some u := by
  intro j u hj
  have := h.cell j hj
  cases j <;> simpa [Addr.add] using this

/-- One crossing. -/
def C4 (a b u d : Int) : List Value := [.int .i64 a, .int .i64 b, .int .i64 u, .int .i64 d]

def aheadB (a u d a' u' d' : Int) : Bool := if u * d' ≠ u' * d then decide (u * d' < u' * d) else decide (a < a')

theorem pr_in {a b : Int} (h1 : 0 ≤ a) (h2 : a ≤ 1000) (h3 : 0 ≤ b) (h4 : b ≤ 2000) : IntKind.i64.wrap (a * b) = a * b := by
  have e1 := Int.mul_nonneg h1 h3
  have e2 := Int.mul_nonneg (show 0 ≤ 1000 - a by omega) h3
  rw [Int.sub_mul] at e2
  exact IntWalk.i64_in _ (by omega)

set_option maxHeartbeats 1000000 in
theorem ahead_calls (a b u d a' b' u' d' : Int) (w : World) (hu : 0 ≤ u ∧ u ≤ 1000) (hd : 0 ≤ d ∧ d ≤ 2000) (hu' : 0 ≤ u' ∧ u' ≤ 1000) (hd' : 0 ≤ d' ∧ d' ≤ 2000) :
    Calls Try.prog 20 #[.agg #[.int .i64 a, .int .i64 b, .int .i64 u, .int .i64 d], .agg #[.int .i64 a', .int .i64 b', .int .i64 u', .int .i64 d']] w fun e w' =>
      e = .returned (.bool (aheadB a u d a' u' d')) ∧ Below w.heap.size w w' := by
  have e1 := pr_in hu.1 hu.2 hd'.1 hd'.2
  have e2 := pr_in hu'.1 hu'.2 hd.1 hd.2
  have hB : Below w.heap.size w ((w.alloc (.cells #[.int .i64 a, .int .i64 b, .int .i64 u, .int .i64 d] 48)).alloc (.cells #[.int .i64 a', .int .i64 b', .int .i64 u', .int .i64 d'] 48)) :=
    ((Below.refl _ _).alloc (Nat.le_refl _) _).alloc (by simp) _
  unfold aheadB
  obtain ⟨P, hP⟩ : ∃ P, u * d' = P := ⟨_, rfl⟩
  obtain ⟨Q, hQ⟩ : ∃ Q, u' * d = Q := ⟨_, rfl⟩
  rw [hP] at e1 ⊢
  rw [hQ] at e2 ⊢
  rw [← hP] at e1
  rw [← hQ] at e2
  rw [hP] at e1
  rw [hQ] at e2
  have f1 : IntKind.i64.wrap (u * d') = P := by rw [hP]; exact e1
  have f2 : IntKind.i64.wrap (u' * d) = Q := by rw [hQ]; exact e2
  clear e1 e2
  replace hP := Lib.hid hP
  replace hQ := Lib.hid hQ
  replace hB := Lib.hid hB
  clear hu hd hu' hd'
  by_cases hPQ : P = Q
  · rw [if_neg (by simp [hPQ])]
    subst hPQ
    go_enter Try.func20, Try.ntmps20
    go_wp2_with fail
    all_goals go_ret
    all_goals exact ⟨by first | rfl | exact ret_bool (by rw [Bool.eq_iff_iff]; simp; omega), hB.out⟩
  · rw [if_pos hPQ]
    go_enter Try.func20, Try.ntmps20
    go_wp2_with fail
    all_goals go_ret
    all_goals exact ⟨by first | rfl | exact ret_bool (by rw [Bool.eq_iff_iff]; simp; omega), hB.out⟩

/-- A row of places, as they are read. -/
def Reads (W : World) (a : Option Addr) (L : List (Int × Int × Int)) : Prop := ∀ (k : Nat) (p : Int × Int × Int), L[k]? = some p →
  ∃ g, a = some ⟨g, 0, none⟩ ∧ W.cell? ⟨g, k * 3, none⟩ = some (.int .i64 p.1) ∧ W.cell? ⟨g, k * 3 + 1, none⟩ = some (.int .i64 p.2.1) ∧ W.cell? ⟨g, k * 3 + 2, none⟩ = some (.int .i64 p.2.2)

theorem reads_of {W : World} {base n c : Nat} {a : Option Addr} {L : List (Int × Int × Int)} (h : W.ownsRow base 23 3 (.slice a n c) L.length (cellsP L)) : Reads W a L := fun _ _ hk => row_at h hk

set_option maxRecDepth 100000 in
set_option maxHeartbeats 4000000 in
theorem same_calls (L : List (Int × Int × Int)) (a b : Option Addr) (l c c' : Nat) (w : World) (hl : L.length = l) (hl' : l ≤ 256) (ha : Reads w a L) (hb : Reads w b L) :
    Calls Try.prog 9 #[.slice a l c, .slice b l c'] w fun e w' => e = .returned (.bool true) ∧ Below w.heap.size w w' := by
  replace ha := Lib.hid ha
  replace hb := Lib.hid hb
  replace hl := Lib.hid hl
  go_enter Try.func9, Try.ntmps9
  go_wp2_with fail
  go_loopw [5] (fun i W => ∃ k : Nat, k ≤ l ∧ i = .int .i64 k ∧ ∃ q, W = w.drewN q) (fun i _ => l - (intOf i).toNat)
  case atStart => exact ⟨0, by omega, rfl, 0, rfl⟩
  case round =>
    obtain ⟨k, hk, rfl, q, rfl⟩ := hrel
    by_cases hkn : k = l
    · subst hkn
      go_wp2_with fail
      try rw [Exit.noGoto_ret]
      go_ret
      exact ⟨rfl, below_drewN (Below.refl _ _) q⟩
    · have hk' : k < l := by omega
      clear hkn
      obtain ⟨⟨px, py, pz⟩, hp⟩ : ∃ p, L[k]? = some p := ⟨_, List.getElem?_eq_getElem (by rw [hl.out]; exact hk')⟩
      obtain ⟨g, rfl, y0, y1, y2⟩ := ha.out k _ hp
      obtain ⟨g', rfl, x0, x1, x2⟩ := hb.out k _ hp
      simp only at y0 y1 y2 x0 x1 x2
      replace hp := Lib.hid hp
      go_wp2_with fail
      go_quiet (fail)
      go_wp2_with fail
      exact ⟨⟨k + 1, by omega, rfl, q + nq, rfl⟩, by simp [intOf]; omega⟩

/-- The crossings of an axis. -/
def cells4 (L : List (Int × Int × Int × Int)) : List Value := L.flatMap fun p => C4 p.1 p.2.1 p.2.2.1 p.2.2.2
theorem cells4_snoc (L : List (Int × Int × Int × Int)) (p : Int × Int × Int × Int) : cells4 (L ++ [p]) = cells4 L ++ C4 p.1 p.2.1 p.2.2.1 p.2.2.2 := by simp [cells4]
theorem cells4_at {L : List (Int × Int × Int × Int)} {k : Nat} {p : Int × Int × Int × Int} (h : L[k]? = some p) :
    (cells4 L)[k * 4]? = some (.int .i64 p.1) ∧ (cells4 L)[k * 4 + 1]? = some (.int .i64 p.2.1) ∧ (cells4 L)[k * 4 + 2]? = some (.int .i64 p.2.2.1) ∧ (cells4 L)[k * 4 + 3]? = some (.int .i64 p.2.2.2) := by
  induction L generalizing k with
  | nil => cases h
  | cons q L ih =>
    cases k with
    | zero =>
      obtain rfl := Option.some.inj h
      exact ⟨rfl, rfl, rfl, rfl⟩
    | succ k =>
      have h' := ih (k := k) (by simpa using h)
      have e : ∀ j, (cells4 (q :: L))[(k + 1) * 4 + j]? = (cells4 L)[k * 4 + j]? := fun j => by
        show (C4 q.1 q.2.1 q.2.2.1 q.2.2.2 ++ cells4 L)[(k + 1) * 4 + j]? = _
        rw [List.getElem?_append_right (by simp [C4]; omega)]
        congr 1
        simp [C4]; omega
      have e0 := e 0
      simp only [Nat.add_zero] at e0
      rw [e0, e 1, e 2, e 3]
      exact h'

def byI (d : Int) : Int := if d < 0 then -1 else 1
def alongL (ax d : Int) (m : Nat) : List (Int × Int × Int × Int) := (List.range m).map fun (k : Nat) => (ax, byI d, 2 * (k : Int) + 1, 2 * sizeI d)
theorem alongL_len (ax d : Int) (m : Nat) : (alongL ax d m).length = m := by simp [alongL]
theorem alongL_succ (ax d : Int) (m : Nat) : alongL ax d (m + 1) = alongL ax d m ++ [(ax, byI d, 2 * (m : Int) + 1, 2 * sizeI d)] := by simp [alongL, List.range_succ]
theorem alongL_at (ax d : Int) {m k : Nat} (h : k < m) : (alongL ax d m)[k]? = some (ax, byI d, 2 * (k : Int) + 1, 2 * sizeI d) := by simp [alongL, h]

theorem info_crossing : (Try.prog.info? 48).map (fun i => (i.zero, i.size, i.bytes)) = some (some (.agg #[.int .i64 0, .int .i64 0, .int .i64 0, .int .i64 0]), 4, 32) := by kernel_rfl

set_option maxRecDepth 100000 in
set_option maxHeartbeats 4000000 in
theorem along_calls (ax d : Int) (n : Nat) (w : World) (hn : n ≤ 256) (h0 : -1000 ≤ d) (h1 : d ≤ 1000) :
    Calls Try.prog 19 #[.int .i64 ax, .int .i64 d, .int .i64 n] w fun e w' =>
      ∃ v, e = .returned v ∧ w'.ownsRow w.heap.size 48 4 v (if d = 0 then 0 else n) (cells4 (alongL ax d (if d = 0 then 0 else n))) ∧ Below w.heap.size w w' := by
  have v1 : IntKind.i64.wrap (-d) = -d := IntWalk.i64_in _ (by omega)
  by_cases hd : d = 0
  · subst hd
    rw [if_pos rfl]
    go_enter Try.func19, Try.ntmps19
    go_wp2_with fail
    go_loopw [7, 10] (fun v i W => v = .slice none 0 0 ∧ i = .int .i64 1 ∧ W = w) (fun _ _ _ => 0)
    case atStart => exact ⟨rfl, rfl, rfl⟩
    case round =>
      obtain ⟨rfl, rfl, rfl⟩ := hrel
      by_cases h2 : (1 : Int) ≤ n
      all_goals
        go_wp2_with fail
        try rw [Exit.noGoto_ret]
        refine bodyPost_ret (v := .slice none 0 0) (by simp [results, Try.results19, go_sem]) rfl ⟨_, rfl, by rw [show alongL ax 0 0 = [] from rfl]; exact World.ownsRow_nil _ _ _ _, Below.refl _ _⟩
  · rw [if_neg hd]
    obtain ⟨s, hs⟩ : ∃ s, sizeI d = s := ⟨_, rfl⟩
    obtain ⟨b, hb⟩ : ∃ b, byI d = b := ⟨_, rfl⟩
    have hs' : 0 ≤ s ∧ s ≤ 1000 := by rw [← hs]; unfold sizeI; split <;> omega
    have v2 : IntKind.i64.wrap (2 * s) = 2 * s := IntWalk.i64_in _ (by omega)
    have hcase : (d < 0 ∧ b = -1 ∧ s = -d) ∨ (0 ≤ d ∧ b = 1 ∧ s = d) := by rw [← hs, ← hb]; unfold sizeI byI; split <;> omega
    obtain ⟨i0, hi, hz0, hz1, hz2⟩ := info_parts info_crossing
    have q1 : Try.prog.underlying 43 = some (.slice 48) := by kernel_rfl
    have q2 : 0 < 4 := by decide
    have hal : ∀ m, alongL ax d (m + 1) = alongL ax d m ++ [(ax, b, 2 * (m : Int) + 1, 2 * s)] := fun m => by rw [alongL_succ, hb, hs]
    replace hal := Lib.hid hal
    replace hs := Lib.hid hs
    replace hb := Lib.hid hb
    go_enter Try.func19, Try.ntmps19
    rcases hcase with ⟨c1, c2, c3⟩ | ⟨c1, c2, c3⟩
    · replace v1 := v1.trans c3.symm
      replace c3 := Lib.hid c3
      go_wp2_with fail
      go_loopw [7, 10] (fun v i W => ∃ m : Nat, m ≤ n ∧ i = .int .i64 ((m : Int) + 1) ∧ W.ownsRow w.heap.size 48 4 v m (cells4 (alongL ax d m)) ∧ Below w.heap.size w W) (fun v i _ => n + 1 - (intOf i).toNat)
      case atStart => exact ⟨0, by omega, rfl, by rw [show alongL ax d 0 = [] from rfl]; exact World.ownsRow_nil _ _ _ _, Below.refl _ _⟩
      case round =>
        obtain ⟨m, hm, rfl, hown, HB⟩ := hrel
        obtain ⟨va, vc, rfl⟩ := owns_form hown
        replace HB := Lib.hid HB
        by_cases hmn : m = n
        · subst hmn
          replace hown := Lib.hid hown
          go_wp2_with fail
          try rw [Exit.noGoto_ret]
          refine bodyPost_ret (by simp [results, Try.results19, go_sem]) rfl ⟨_, rfl, hown.out, HB.out⟩
        · have hm' : m < n := by omega
          clear hmn
          have e1 : IntKind.i64.wrap (2 * ((m : Int) + 1)) = 2 * ((m : Int) + 1) := IntWalk.i64_in _ (by omega)
          have e2 : IntKind.i64.wrap (2 * ((m : Int) + 1) - 1) = 2 * (m : Int) + 1 := (IntWalk.i64_in _ (by omega)).trans (by omega)
          have e3 : IntKind.i64.wrap ((m : Int) + 1 + 1) = (m : Int) + 1 + 1 := IntWalk.i64_in _ (by omega)
          have hc : (m : Int) + 1 ≤ n := by omega
          have hown2 := Lib.hid (owns_below hown ((Below.refl _ _).alloc (Nat.le_refl _) (.cells #[.int .i64 ax, .int .i64 (-1), .int .i64 (2 * (m : Int) + 1), .int .i64 (2 * s)] 48)))
          replace hown := Lib.hid hown
          have hlt := HB.out.size
          replace hlt := Lib.hid hlt
          subst c2
          go_wp2_with (at_builtin; refine wpList_append_own _ rfl _ _ 43 rfl w.heap.size 48 i0 (.agg #[.int .i64 0, .int .i64 0, .int .i64 0, .int .i64 0]) 4 32 q1 hi hz0 hz1 hz2 rfl q2 _ _ _ rfl hown2.out ⟨wr.heap.size, 0, none⟩ 1 1 (C4 ax (-1) (2 * (m : Int) + 1) (2 * s)) rfl rfl ?c1_A ?c2_A ?c3_A ?c4_A ?c5_A ?c6_A)
          case c1_A => exact blk_news (Blk.new wr _ _)
          case c2_A => intro u hu; simp only [C4, List.mem_cons, List.not_mem_nil, or_false] at hu; rcases hu with rfl | rfl | rfl | rfl <;> rfl
          case c3_A => unfold maxLen; omega
          case c4_A => omega
          case c5_A => have := hlt.out; simp; omega
          case c6_A =>
            intro v' W3 hown' hgrow hnil
            obtain ⟨va', vc', rfl⟩ := owns_form hown'
            have HB3 := Lib.hid ((HB.out.alloc hlt.out _).grown hgrow (by have := hlt.out; simp; omega) (fun k e => (hown2.out.lt k e).1))
            replace hown' := Lib.hid hown'
            clear hgrow hnil hown2
            go_wp2_with fail
            exact ⟨⟨m + 1, by omega, by simp, by rw [hal.out, cells4_snoc]; exact hown'.out, HB3.out⟩, by simp [intOf]; omega⟩
    · replace c3 := c3.symm
      subst c3
      go_wp2_with fail
      go_loopw [7, 10] (fun v i W => ∃ m : Nat, m ≤ n ∧ i = .int .i64 ((m : Int) + 1) ∧ W.ownsRow w.heap.size 48 4 v m (cells4 (alongL ax d m)) ∧ Below w.heap.size w W) (fun v i _ => n + 1 - (intOf i).toNat)
      case atStart => exact ⟨0, by omega, rfl, by rw [show alongL ax d 0 = [] from rfl]; exact World.ownsRow_nil _ _ _ _, Below.refl _ _⟩
      case round =>
        obtain ⟨m, hm, rfl, hown, HB⟩ := hrel
        obtain ⟨va, vc, rfl⟩ := owns_form hown
        replace HB := Lib.hid HB
        by_cases hmn : m = n
        · subst hmn
          replace hown := Lib.hid hown
          go_wp2_with fail
          try rw [Exit.noGoto_ret]
          refine bodyPost_ret (by simp [results, Try.results19, go_sem]) rfl ⟨_, rfl, hown.out, HB.out⟩
        · have hm' : m < n := by omega
          clear hmn
          have e1 : IntKind.i64.wrap (2 * ((m : Int) + 1)) = 2 * ((m : Int) + 1) := IntWalk.i64_in _ (by omega)
          have e2 : IntKind.i64.wrap (2 * ((m : Int) + 1) - 1) = 2 * (m : Int) + 1 := (IntWalk.i64_in _ (by omega)).trans (by omega)
          have e3 : IntKind.i64.wrap ((m : Int) + 1 + 1) = (m : Int) + 1 + 1 := IntWalk.i64_in _ (by omega)
          have hc : (m : Int) + 1 ≤ n := by omega
          have hown2 := Lib.hid (owns_below hown ((Below.refl _ _).alloc (Nat.le_refl _) (.cells #[.int .i64 ax, .int .i64 1, .int .i64 (2 * (m : Int) + 1), .int .i64 (2 * d)] 48)))
          replace hown := Lib.hid hown
          have hlt := HB.out.size
          replace hlt := Lib.hid hlt
          subst c2
          go_wp2_with (at_builtin; refine wpList_append_own _ rfl _ _ 43 rfl w.heap.size 48 i0 (.agg #[.int .i64 0, .int .i64 0, .int .i64 0, .int .i64 0]) 4 32 q1 hi hz0 hz1 hz2 rfl q2 _ _ _ rfl hown2.out ⟨wr.heap.size, 0, none⟩ 1 1 (C4 ax 1 (2 * (m : Int) + 1) (2 * d)) rfl rfl ?c1_B ?c2_B ?c3_B ?c4_B ?c5_B ?c6_B)
          case c1_B => exact blk_news (Blk.new wr _ _)
          case c2_B => intro u hu; simp only [C4, List.mem_cons, List.not_mem_nil, or_false] at hu; rcases hu with rfl | rfl | rfl | rfl <;> rfl
          case c3_B => unfold maxLen; omega
          case c4_B => omega
          case c5_B => have := hlt.out; simp; omega
          case c6_B =>
            intro v' W3 hown' hgrow hnil
            obtain ⟨va', vc', rfl⟩ := owns_form hown'
            have HB3 := Lib.hid ((HB.out.alloc hlt.out _).grown hgrow (by have := hlt.out; simp; omega) (fun k e => (hown2.out.lt k e).1))
            replace hown' := Lib.hid hown'
            clear hgrow hnil hown2
            go_wp2_with fail
            exact ⟨⟨m + 1, by omega, by simp, by rw [hal.out, cells4_snoc]; exact hown'.out, HB3.out⟩, by simp [intOf]; omega⟩
end Go.Proofs.Ytdhanigngoniiaa
