/-
  What both pools answer alike.
-/
import Derived.Test.YtlaodkolkoefgaaMg41
namespace Go.Proofs.Ytlaodkolkoefgaa
open Go.RowKit
set_option linter.unusedSimpArgs false
set_option linter.unusedVariables false

theorem fst_some (n : Nat) (tk : Nat → Bool) : ∃ r, Fst n tk r := by
  have key : ∀ k, k ≤ n → (∀ j, j < k → tk j = true) ∨ ∃ r, Fst n tk r := by
    intro k
    induction k with
    | zero => exact fun _ => .inl fun j hj => absurd hj (Nat.not_lt_zero _)
    | succ k ih =>
      intro hk
      rcases ih (by omega) with h | h
      · cases hv : tk k with
        | true =>
          exact .inl fun j hj => by
            by_cases e : j = k
            · rw [e]; exact hv
            · exact h j (by omega)
        | false => exact .inr ⟨some k, (fun j e => by cases e; exact ⟨by omega, hv, h⟩), fun e => (by cases e)⟩
      · exact .inr h
  rcases key n (Nat.le_refl _) with h | h
  · exact ⟨none, (fun j e => by cases e), fun _ => h⟩
  · exact h
theorem wakeD_nn {n : Nat} {du : Nat → Int} (h : ∀ c, 0 ≤ du c) (f i d : Int) : ∀ c, 0 ≤ wakeD n du f i d c := fun c => by
  unfold wakeD
  split
  · rename_i hc
    unfold updD
    split
    · omega
    · exact h c
  · exact h c
theorem dropD_nn {n : Nat} {du : Nat → Int} (h : ∀ c, 0 ≤ du c) (f i : Int) : ∀ c, 0 ≤ dropD n du f i c := fun c => by
  unfold dropD
  split
  · unfold updD
    split
    · omega
    · exact h c
  · exact h c
section
variable {w : World} {B : Bx} {s : FS} {r : RS}
theorem Pr.pB {W W' : World} {s' : FS} (h : Pr w W B s r) (hb : But B.sb W W') (hF : Fp w W' B.pb B.sb B.tb B.n s'.ce s'.li s'.du s'.tk) : Pr w W' B s' r := h.p (But2.left hb _) hF
theorem Pr.qB {W W' : World} {a : Nat} {r' : RS} (h : Pr w W B s r) (hb : But a W W') (ha : a = B.kb ∨ a = B.ub ∨ ∃ f, f < B.n ∧ a = r.x f) (hR : Rp W' B.qb B.kb B.kc B.ub B.n r'.x r'.CE r'.LI r'.T r'.tk) (hx : ∀ f, f < B.n → w.heap.size ≤ r'.x f) : Pr w W' B s r' := h.q (But2.left hb a) ha ha hR hx

theorem two_set (hl : Ld B.n s r) (ab : Nat) (f i : Int) {x y : Int} (hx : 0 ≤ x ∧ x ≤ 255) (hy : 0 ≤ y ∧ y ≤ 255) :
    Two w B ab s r 14 #[.pointer (some ⟨B.pb, 0, none⟩), .int .i64 f, .int .i64 i, .agg #[.int .u8 x, .int .u8 y]] 44 #[.pointer (some ⟨B.qb, 0, none⟩), .int .i64 f, .int .i64 i, .agg #[.int .u8 x, .int .u8 y]] (.bool (decide (inR B.n f i) && mayK x y)) (.bool (decide (inR B.n f i) && mayK x y)) := by
  have hP : ∀ W, Pr w W B s r → Calls Try.prog 14 #[.pointer (some ⟨B.pb, 0, none⟩), .int .i64 f, .int .i64 i, .agg #[.int .u8 x, .int .u8 y]] W fun e w' => e = .returned (.bool (decide (inR B.n f i) && mayK x y)) ∧ Pr w w' B { s with ce := setP B.n (mayK x y) s.ce f i (x, y) } r ∧ Near ab W w' := fun W h =>
    (h.F.set f i hx hy).mono fun _ _ ⟨he, hF, hb⟩ => ⟨he, h.pB hb hF, h.nearP (But2.left hb _)⟩
  by_cases hr : inR B.n f i
  · by_cases hk : mayK x y = true
    · obtain ⟨m, j, rfl, rfl, hm, hj⟩ := inR_nat hr
      refine ⟨{ s with ce := setP B.n (mayK x y) s.ce m j (x, y) }, { r with CE := atF r.CE m (updP (r.CE m) j (x, y)) }, ⟨?_, hl.tk⟩, hP, fun W h => ?_⟩
      · show Lk _ (setP B.n (mayK x y) s.ce m j (x, y)) _ _ _ _ _; rw [hk]; exact hl.l.set hm hj (x, y)
      · have eb : (decide (inR B.n m j) && mayK x y) = true := by rw [decide_eq_true hr, hk]; rfl
        rw [eb]
        exact (rset_yes _ _ _ _ _ _ _ _ _ _ m j x y W h.R hm hj hx hy hk).mono fun _ _ ⟨he, hR, hb⟩ => ⟨he, ⟨r.x, h.qB (r' := { r with CE := atF r.CE m (updP (r.CE m) j (x, y)) }) hb (.inr (.inr ⟨m, hm, rfl⟩)) hR h.lx⟩, h.nearQ (But2.left hb (r.x m)) (.inr (.inr ⟨m, hm, rfl⟩)) (.inr (.inr ⟨m, hm, rfl⟩))⟩
    · have hk' : mayK x y = false := by simpa using hk
      refine ⟨{ s with ce := setP B.n (mayK x y) s.ce f i (x, y) }, r, ⟨?_, hl.tk⟩, hP, fun W h => ?_⟩
      · show Lk _ (setP B.n (mayK x y) s.ce f i (x, y)) _ _ _ _ _; rw [setP_no (fun h => hk h.2)]; exact hl.l
      · have eb : (decide (inR B.n f i) && mayK x y) = false := by rw [hk', Bool.and_false]
        rw [eb]
        exact (rset_not _ _ _ _ f i x y W h.R.c0 h.R.n64 hr hx hy hk').mono fun _ _ ⟨he, hb⟩ => ⟨he, ⟨r.x, h.keep hb⟩, Near.below hb⟩
  · refine ⟨{ s with ce := setP B.n (mayK x y) s.ce f i (x, y) }, r, ⟨?_, hl.tk⟩, hP, fun W h => ?_⟩
    · show Lk _ (setP B.n (mayK x y) s.ce f i (x, y)) _ _ _ _ _; rw [setP_no (fun h => hr h.1)]; exact hl.l
    · rw [decide_eq_false hr, Bool.false_and]
      exact (rset_out _ _ _ _ f i x y W h.R.c0 h.R.n64 hr).mono fun _ _ ⟨he, hb⟩ => ⟨he, ⟨r.x, h.keep hb⟩, Near.below hb⟩
theorem two_setL (hl : Ld B.n s r) (ab : Nat) (f i : Int) {x y : Int} (hx : 0 ≤ x ∧ x ≤ 255) (hy : 0 ≤ y ∧ y ≤ 255) :
    Two w B ab s r 16 #[.pointer (some ⟨B.pb, 0, none⟩), .int .i64 f, .int .i64 i, .agg #[.int .u8 x, .int .u8 y]] 45 #[.pointer (some ⟨B.qb, 0, none⟩), .int .i64 f, .int .i64 i, .agg #[.int .u8 x, .int .u8 y]] (.bool (decide (inR B.n f i) && okL x y)) (.bool (decide (inR B.n f i) && okL x y)) := by
  have hP : ∀ W, Pr w W B s r → Calls Try.prog 16 #[.pointer (some ⟨B.pb, 0, none⟩), .int .i64 f, .int .i64 i, .agg #[.int .u8 x, .int .u8 y]] W fun e w' => e = .returned (.bool (decide (inR B.n f i) && okL x y)) ∧ Pr w w' B { s with li := setP B.n (okL x y) s.li f i (x, y) } r ∧ Near ab W w' := fun W h =>
    (h.F.setL f i hx hy).mono fun _ _ ⟨he, hF, hb⟩ => ⟨he, h.pB hb hF, h.nearP (But2.left hb _)⟩
  by_cases hr : inR B.n f i
  · by_cases hk : x ≤ 15 ∧ y ≤ 15
    · obtain ⟨m, j, rfl, rfl, hm, hj⟩ := inR_nat hr
      have hok : okL x y = true := decide_eq_true hk
      refine ⟨{ s with li := setP B.n (okL x y) s.li m j (x, y) }, { r with LI := atF r.LI m (updP (r.LI m) j (x, y)) }, ⟨?_, hl.tk⟩, hP, fun W h => ?_⟩
      · show Lk _ _ (setP B.n (okL x y) s.li m j (x, y)) _ _ _ _; rw [hok]; exact hl.l.setL hm hj (x, y)
      · have eb : (decide (inR B.n m j) && okL x y) = true := by rw [decide_eq_true hr, hok]; rfl
        rw [eb]
        exact (rsetl_yes _ _ _ _ _ _ _ _ _ _ m j x y W h.R hm hj ⟨hx.1, hk.1⟩ ⟨hy.1, hk.2⟩).mono fun _ _ ⟨he, hR, hb⟩ => ⟨he, ⟨r.x, h.qB (r' := { r with LI := atF r.LI m (updP (r.LI m) j (x, y)) }) hb (.inr (.inr ⟨m, hm, rfl⟩)) hR h.lx⟩, h.nearQ (But2.left hb (r.x m)) (.inr (.inr ⟨m, hm, rfl⟩)) (.inr (.inr ⟨m, hm, rfl⟩))⟩
    · have hok : okL x y = false := decide_eq_false hk
      refine ⟨{ s with li := setP B.n (okL x y) s.li f i (x, y) }, r, ⟨?_, hl.tk⟩, hP, fun W h => ?_⟩
      · show Lk _ _ (setP B.n (okL x y) s.li f i (x, y)) _ _ _ _; rw [setP_no (fun h => by have h2 := h.2; rw [hok] at h2; cases h2)]; exact hl.l
      · have eb : (decide (inR B.n f i) && okL x y) = false := by rw [hok, Bool.and_false]
        rw [eb]
        exact (rsetl_not _ _ _ _ f i x y W h.R.c0 h.R.n64 hr hk).mono fun _ _ ⟨he, hb⟩ => ⟨he, ⟨r.x, h.keep hb⟩, Near.below hb⟩
  · refine ⟨{ s with li := setP B.n (okL x y) s.li f i (x, y) }, r, ⟨?_, hl.tk⟩, hP, fun W h => ?_⟩
    · show Lk _ _ (setP B.n (okL x y) s.li f i (x, y)) _ _ _ _; rw [setP_no (fun h => hr h.1)]; exact hl.l
    · rw [decide_eq_false hr, Bool.false_and]
      exact (rsetl_out _ _ _ _ f i x y W h.R.c0 h.R.n64 hr).mono fun _ _ ⟨he, hb⟩ => ⟨he, ⟨r.x, h.keep hb⟩, Near.below hb⟩
theorem two_take (hl : Ld B.n s r) (ab : Nat) : ∃ q : Option Nat,
    Two w B ab s r 19 #[.pointer (some ⟨B.pb, 0, none⟩)] 48 #[.pointer (some ⟨B.qb, 0, none⟩)] (.tuple #[.int .i64 (optN q), .bool q.isSome]) (.tuple #[.int .i64 (optN q), .bool q.isSome]) := by
  obtain ⟨q, hq⟩ := fst_some B.n s.tk
  refine ⟨q, { s with tk := takenT s.tk q }, { r with tk := takenT r.tk q }, ⟨hl.l, by show takenT r.tk q = takenT s.tk q; rw [hl.tk]⟩, fun W h => ?_, fun W h => ?_⟩
  · exact (h.F.take hq).mono fun _ _ ⟨he, hF, hb⟩ => ⟨he, h.p (s' := { s with tk := takenT s.tk q }) (But2.right hb _) hF, h.nearP (But2.right hb _)⟩
  · refine (rtake_calls _ _ _ _ _ _ _ _ _ _ W h.R).mono fun _ _ ⟨q', he, hf, hR, hb⟩ => ?_
    have e : q' = q := hf.unique (by rw [hl.tk]; exact hq)
    subst e
    exact ⟨he, ⟨r.x, h.qB (r' := { r with tk := takenT r.tk q' }) hb (.inr (.inl rfl)) hR h.lx⟩, h.nearQ (But2.left hb B.ub) (.inr (.inl rfl)) (.inr (.inl rfl))⟩
theorem two_give (hl : Ld B.n s r) (ab : Nat) (f : Int) : ∃ v : Int,
    Two w B ab s r 20 #[.pointer (some ⟨B.pb, 0, none⟩), .int .i64 f] 43 #[.pointer (some ⟨B.qb, 0, none⟩), .int .i64 f] (.int .i64 v) (.int .i64 v) := by
  by_cases hf : 0 ≤ f ∧ f < B.n
  · obtain ⟨m, rfl⟩ : ∃ m : Nat, f = (m : Int) := ⟨f.toNat, by omega⟩
    have hm : m < B.n := by omega
    cases ht : s.tk m with
    | true =>
      refine ⟨0, { ce := clrP m s.ce, li := clrP m s.li, du := clrD m s.du, tk := tkSet s.tk m false }, { r with CE := atF r.CE m zeroP, LI := atF r.LI m zeroP, T := atF r.T m [], tk := tkSet r.tk m false }, ⟨hl.l.clr hm, by show tkSet r.tk m false = tkSet s.tk m false; rw [hl.tk]⟩, fun W h => ?_, fun W h => ?_⟩
      · exact (h.F.give hm ht).mono fun _ _ ⟨he, hF, hb⟩ => ⟨he, h.p (s' := { ce := clrP m s.ce, li := clrP m s.li, du := clrD m s.du, tk := tkSet s.tk m false }) hb hF, h.nearP hb⟩
      · refine (rgive_in _ _ _ _ _ _ _ _ _ _ m W h.R hm (by rw [hl.tk]; exact ht)).mono fun _ _ ⟨he, hR, hb⟩ => ?_
        refine ⟨he, ⟨atF r.x m W.heap.size, h.q (r' := { x := atF r.x m W.heap.size, CE := atF r.CE m zeroP, LI := atF r.LI m zeroP, T := atF r.T m [], tk := tkSet r.tk m false }) hb (.inl rfl) (.inr (.inl rfl)) hR fun f hf => ?_⟩, h.nearQ hb (.inl rfl) (.inr (.inl rfl))⟩
        show w.heap.size ≤ atF r.x m W.heap.size f
        unfold atF
        split
        · exact h.F.below.size
        · exact h.lx f hf
    | false =>
      refine ⟨5, s, r, hl, fun W h => ?_, fun W h => ?_⟩
      · exact (h.F.giveFree hm ht).mono fun _ _ ⟨he, hF, hb⟩ => ⟨he, h.keep hb, Near.below hb⟩
      · exact (rgive_free _ _ _ _ _ r.tk m W h.R.c0 h.R.c1 h.R.n64 h.R.take hm (by rw [hl.tk]; exact ht)).mono fun _ _ ⟨he, hw⟩ => ⟨he, ⟨r.x, by rw [hw]; exact h⟩, by rw [hw]; exact Near.below (Below.refl _ _)⟩
  · refine ⟨2, s, r, hl, fun W h => ?_, fun W h => ?_⟩
    · exact (h.F.giveOut hf).mono fun _ _ ⟨he, hF, hb⟩ => ⟨he, h.keep hb, Near.below hb⟩
    · exact (rgive_out _ _ _ _ f W h.R.c0 h.R.n64 hf).mono fun _ _ ⟨he, hw⟩ => ⟨he, ⟨r.x, by rw [hw]; exact h⟩, by rw [hw]; exact Near.below (Below.refl _ _)⟩
theorem two_wake (hd : ∀ c, 0 ≤ s.du c) (hl : Ld B.n s r) (ab : Nat) (f i d : Int) :
    Two w B ab s r 15 #[.pointer (some ⟨B.pb, 0, none⟩), .int .i64 f, .int .i64 i, .int .i64 d] 46 #[.pointer (some ⟨B.qb, 0, none⟩), .int .i64 f, .int .i64 i, .int .i64 d] (.tuple #[]) (.tuple #[]) := by
  have hP : ∀ W, Pr w W B s r → Calls Try.prog 15 #[.pointer (some ⟨B.pb, 0, none⟩), .int .i64 f, .int .i64 i, .int .i64 d] W fun e w' => e = .returned (.tuple #[]) ∧ Pr w w' B { s with du := wakeD B.n s.du f i d } r ∧ Near ab W w' := fun W h =>
    (h.F.wake f i d).mono fun _ _ ⟨he, hF, hb⟩ => ⟨he, h.pB (s' := { s with du := wakeD B.n s.du f i d }) hb hF, h.nearP (But2.left hb _)⟩
  by_cases hr : inR B.n f i ∧ d ≤ 2199023255552
  · obtain ⟨hr, hdm⟩ := hr
    have hr0 := hr
    obtain ⟨m, j, rfl, rfl, hm, hj⟩ := inR_nat hr
    refine ⟨{ s with du := wakeD B.n s.du m j d }, { r with T := atF r.T m (wakeL (r.T m) j d) }, ⟨hl.l.wake hd hm hj hdm (wakeD_nn hd _ _ _), hl.tk⟩, hP, fun W h => ?_⟩
    refine (prwake_in h.R m j d hr0 hdm (by rw [Int.toNat_natCast]; have := hl.l.len hm; omega)).mono fun _ _ ⟨he, hR, hb⟩ => ?_
    rw [Int.toNat_natCast] at hR hb
    exact ⟨he, ⟨r.x, h.qB (r' := { r with T := atF r.T m (wakeL (r.T m) j d) }) hb (.inr (.inr ⟨m, hm, rfl⟩)) hR h.lx⟩, h.nearQ (But2.left hb (r.x m)) (.inr (.inr ⟨m, hm, rfl⟩)) (.inr (.inr ⟨m, hm, rfl⟩))⟩
  · refine ⟨{ s with du := wakeD B.n s.du f i d }, r, ⟨by show Lk _ _ _ (wakeD B.n s.du f i d) _ _ _; rw [wakeD_no hr]; exact hl.l, hl.tk⟩, hP, fun W h => ?_⟩
    exact (prwake_no h.R f i d hr).mono fun _ _ ⟨he, hw⟩ => ⟨he, ⟨r.x, by rw [hw]; exact h⟩, by rw [hw]; exact Near.below (Below.refl _ _)⟩
theorem two_drop (hd : ∀ c, 0 ≤ s.du c) (hl : Ld B.n s r) (ab : Nat) (f i : Int) :
    Two w B ab s r 23 #[.pointer (some ⟨B.pb, 0, none⟩), .int .i64 f, .int .i64 i] 47 #[.pointer (some ⟨B.qb, 0, none⟩), .int .i64 f, .int .i64 i] (.tuple #[]) (.tuple #[]) := by
  have hP : ∀ W, Pr w W B s r → Calls Try.prog 23 #[.pointer (some ⟨B.pb, 0, none⟩), .int .i64 f, .int .i64 i] W fun e w' => e = .returned (.tuple #[]) ∧ Pr w w' B { s with du := dropD B.n s.du f i } r ∧ Near ab W w' := fun W h =>
    (h.F.drop f i).mono fun _ _ ⟨he, hF, hb⟩ => ⟨he, h.pB (s' := { s with du := dropD B.n s.du f i }) hb hF, h.nearP (But2.left hb _)⟩
  by_cases hr : inR B.n f i
  · have hr0 := hr
    obtain ⟨m, j, rfl, rfl, hm, hj⟩ := inR_nat hr
    refine ⟨{ s with du := dropD B.n s.du m j }, { r with T := atF r.T m (dropL (r.T m) j) }, ⟨hl.l.drop hd hm hj (dropD_nn hd _ _), hl.tk⟩, hP, fun W h => ?_⟩
    refine (prdrop_in h.R m j hr0 (by rw [Int.toNat_natCast]; have := hl.l.len hm; omega)).mono fun _ _ ⟨he, hR, hb⟩ => ?_
    rw [Int.toNat_natCast] at hR hb
    exact ⟨he, ⟨r.x, h.qB (r' := { r with T := atF r.T m (dropL (r.T m) j) }) hb (.inr (.inr ⟨m, hm, rfl⟩)) hR h.lx⟩, h.nearQ (But2.left hb (r.x m)) (.inr (.inr ⟨m, hm, rfl⟩)) (.inr (.inr ⟨m, hm, rfl⟩))⟩
  · refine ⟨{ s with du := dropD B.n s.du f i }, r, ⟨by show Lk _ _ _ (dropD B.n s.du f i) _ _ _; rw [dropD_no hr]; exact hl.l, hl.tk⟩, hP, fun W h => ?_⟩
    exact (prdrop_no h.R f i hr).mono fun _ _ ⟨he, hw⟩ => ⟨he, ⟨r.x, by rw [hw]; exact h⟩, by rw [hw]; exact Near.below (Below.refl _ _)⟩
end
end Go.Proofs.Ytlaodkolkoefgaa

/-
  Load in both pools.
-/
namespace Go.Proofs.Ytlaodkolkoefgaa
open Go.RowKit
set_option linter.unusedSimpArgs false
set_option linter.unusedVariables false

/-- A chunk in block b. -/
def Ch (W : World) (b : Nat) (ce li : Nat → Int × Int) (ts : List Tk) : Prop := ∃ s, Ck W b ce li s ∧ TRow W s ts
section
variable {w W W' : World} {B : Bx} {s : FS} {r : RS} {b : Nat} {ce li : Nat → Int × Int} {ts : List Tk}
theorem Ch.keep (h : Ch W b ce li ts) (hb : Below W.heap.size W W') : Ch W' b ce li ts := h.elim fun s k => ⟨s, k.1.keep hb, k.2.keep hb⟩
theorem Ch.p (h : Ch W b ce li ts) (hP : Pr w W B s r) (hb : But B.sb W W') : Ch W' b ce li ts := by
  obtain ⟨v, k, t⟩ := h
  obtain ⟨cs, hs, _⟩ := hP.F.1.slab
  exact ⟨v, k.but hb (k.elim fun cs k => k.1.ne hs (by decide)), t.butOf hb hP.slabNo⟩
theorem Rp.kbNo {qb kb kc ub n : Nat} {x : Nat → Nat} {CE LI : Nat → Nat → Int × Int} {T : Nat → List Tk} {tk : Nat → Bool} (h : Rp W qb kb kc ub n x CE LI T tk) : ∀ o v, W.cell? ⟨kb, o, none⟩ = some v → ∀ x, v ≠ .int .i64 x := fun o v hv y e => by
  obtain ⟨cs, kk, kp, kq⟩ := h.ptrs
  rw [kk.cell_eq] at hv
  obtain ⟨p, hp⟩ := kq o v hv
  rw [hp] at e; cases e
theorem Ch.q (h : Ch W b ce li ts) (hP : Pr w W B s r) (hb : But B.kb W W') : Ch W' b ce li ts := by
  obtain ⟨v, k, t⟩ := h
  obtain ⟨cs, hs, _⟩ := hP.R.ptrs
  exact ⟨v, k.but hb (k.elim fun cs k => k.1.ne hs (by decide)), t.butOf hb hP.R.kbNo⟩
theorem Ch.lt (h : Ch W b ce li ts) : b < W.heap.size := h.elim fun s k => k.1.lt

theorem two_load (hl : Ld B.n s r) (f : Int) {cce cli dce dli : Nat → Int × Int} {ts : List Tk} (h1 : ∀ i, i < 4096 → dce i = cce i) (h2 : ∀ i, i < 4096 → dli i = cli i) (u1 : U8 cce) (u2 : U8 cli) (u3 : U8 dce) (u4 : U8 dli) (hlen : ts.length ≤ 100000) :
    ∃ (v : Int) (s' : FS) (r' : RS), Ld B.n s' r' ∧
      (∀ W cb, Pr w W B s r → Ch W cb cce cli ts → Calls Try.prog 9 #[.pointer (some ⟨B.pb, 0, none⟩), .int .i64 f, .pointer (some ⟨cb, 0, none⟩)] W fun e w' => e = .returned (.int .i64 v) ∧ Pr w w' B s' r ∧ But B.sb W w') ∧
      ∀ W db, Pr w W B s' r → Ch W db dce dli ts → Calls Try.prog 42 #[.pointer (some ⟨B.qb, 0, none⟩), .int .i64 f, .pointer (some ⟨db, 0, none⟩)] W fun e w' => e = .returned (.int .i64 v) ∧ (∃ x, Pr w w' B s' { r' with x := x }) ∧ But B.kb W w' := by
  by_cases hf : 0 ≤ f ∧ f < B.n
  · obtain ⟨m, rfl⟩ : ∃ m : Nat, f = (m : Int) := ⟨f.toNat, by omega⟩
    have hm : m < B.n := by omega
    have he : checkE dce dli ts = checkE cce cli ts := checkE_congr h1 h2
    by_cases hc : checkE cce cli ts = 0
    · refine ⟨0, { ce := putP m cce s.ce, li := putP m cli s.li, du := putD m (duF ts) s.du, tk := s.tk }, { r with CE := atF r.CE m dce, LI := atF r.LI m dli, T := atF r.T m ts }, ⟨hl.l.put hm h1 h2 (ticks_back (checkE_inv hc).2.2).symm, hl.tk⟩, fun W cb h k => ?_, fun W db h k => ?_⟩
      · obtain ⟨v, k1, k2⟩ := k
        exact (h.F.load hm k1 k2 u1 u2 hc).mono fun _ _ ⟨he, hF, hb⟩ => ⟨he, h.pB (s' := { ce := putP m cce s.ce, li := putP m cli s.li, du := putD m (duF ts) s.du, tk := s.tk }) hb hF, hb⟩
      · obtain ⟨v, k1, k2⟩ := k
        refine (rload_in h.R hm k1 k2 u3 u4 (he.trans hc) hlen).mono fun _ _ ⟨he, b, hbl, hR, hb⟩ => ?_
        refine ⟨he, ⟨atF r.x m b, h.qB (r' := { x := atF r.x m b, CE := atF r.CE m dce, LI := atF r.LI m dli, T := atF r.T m ts, tk := r.tk }) hb (.inl rfl) hR fun g hg => ?_⟩, hb⟩
        show w.heap.size ≤ atF r.x m b g
        unfold atF
        split
        · exact Nat.le_trans h.F.below.size hbl
        · exact h.lx g hg
    · refine ⟨checkE cce cli ts, s, r, hl, fun W cb h k => ?_, fun W db h k => ?_⟩
      · obtain ⟨v, k1, k2⟩ := k
        exact (h.F.loadBad hm k1 k2 u1 hc).mono fun _ _ ⟨he, hF, hb⟩ => ⟨he, h.keep hb, But.of_below hb⟩
      · obtain ⟨v, k1, k2⟩ := k
        refine (rload_bad h.R hm hc ((rcheck_calls db dce dli v ts W k1 k2 u3).mono fun _ _ ⟨h1, h2⟩ => ⟨by rw [h1, he], h2⟩)).mono fun _ _ ⟨he, hb⟩ => ⟨he, ⟨r.x, h.keep hb⟩, But.of_below hb⟩
  · refine ⟨2, s, r, hl, fun W cb h k => ?_, fun W db h k => ?_⟩
    · exact (h.F.loadOut _ hf).mono fun _ _ ⟨he, hF, hb⟩ => ⟨he, h.keep hb, But.of_below hb⟩
    · exact (rload_out h.R _ hf).mono fun _ _ ⟨he, hw⟩ => ⟨he, ⟨r.x, by rw [hw]; exact h⟩, by rw [hw]; exact But.refl _ _⟩
theorem two_loadNil (hl : Ld B.n s r) (f : Int) : ∃ v : Int,
      (∀ W, Pr w W B s r → Calls Try.prog 9 #[.pointer (some ⟨B.pb, 0, none⟩), .int .i64 f, .pointer none] W fun e w' => e = .returned (.int .i64 v) ∧ Pr w w' B s r ∧ But B.sb W w') ∧
      ∀ W, Pr w W B s r → Calls Try.prog 42 #[.pointer (some ⟨B.qb, 0, none⟩), .int .i64 f, .pointer none] W fun e w' => e = .returned (.int .i64 v) ∧ (∃ x, Pr w w' B s { r with x := x }) ∧ But B.kb W w' := by
  by_cases hf : 0 ≤ f ∧ f < B.n
  · obtain ⟨m, rfl⟩ : ∃ m : Nat, f = (m : Int) := ⟨f.toNat, by omega⟩
    have hm : m < B.n := by omega
    refine ⟨1, fun W h => ?_, fun W h => ?_⟩
    · exact (h.F.loadNil hm).mono fun _ _ ⟨he, hF, hb⟩ => ⟨he, h.keep hb, But.of_below hb⟩
    · exact (rload_bad h.R hm (by omega) ((rcheck_nil W).mono fun _ _ ⟨h1, h2⟩ => ⟨h1, by rw [h2]; exact Below.refl _ _⟩)).mono fun _ _ ⟨he, hb⟩ => ⟨he, ⟨r.x, h.keep hb⟩, But.of_below hb⟩
  · refine ⟨2, fun W h => ?_, fun W h => ?_⟩
    · exact (h.F.loadOut _ hf).mono fun _ _ ⟨he, hF, hb⟩ => ⟨he, h.keep hb, But.of_below hb⟩
    · exact (rload_out h.R _ hf).mono fun _ _ ⟨he, hw⟩ => ⟨he, ⟨r.x, by rw [hw]; exact h⟩, by rw [hw]; exact But.refl _ _⟩
/-- What is stored of a frame is its chunk. -/
theorem Pr.store (h : Pr w W B s r) (hl : Ld B.n s r) {m : Nat} (hm : m < B.n) :
    Calls Try.prog 12 #[.pointer (some ⟨B.pb, 0, none⟩), .int .i64 m] W fun e w' => ∃ b, e = .returned (.pointer (some ⟨b, 0, none⟩)) ∧ Ch w' b (partP 4096 (shP m s.ce)) (partP 4096 (shP m s.li)) (r.T m) ∧ Below W.heap.size W w' :=
  (h.F.store hm).mono fun _ _ ⟨b, v, he, hb, hk, ho, hF, hB⟩ => ⟨b, he, ⟨v, hk, by rw [hl.l.t m hm]; exact ho.row⟩, hB⟩
end
end Go.Proofs.Ytlaodkolkoefgaa
