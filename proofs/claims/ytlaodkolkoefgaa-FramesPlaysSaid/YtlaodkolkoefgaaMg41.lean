/-
  The link between the slab's frames and the document's chunks: in plain Lean.
-/
import Derived.Test.YtlaodkolkoefgaaFrMade
namespace Go.Proofs.Ytlaodkolkoefgaa
open Go.RowKit
set_option linter.unusedSimpArgs false
set_option linter.unusedVariables false

structure Lk (n : Nat) (ce li : Nat → Int × Int) (du : Nat → Int) (CE LI : Nat → Nat → Int × Int) (T : Nat → List Tk) : Prop where
  c : ∀ f, f < n → ∀ i, i < 4096 → CE f i = ce (f * 4096 + i)
  l : ∀ f, f < n → ∀ i, i < 4096 → LI f i = li (f * 4096 + i)
  t : ∀ f, f < n → T f = tickD (shD f du) 4096
theorem Lk.zero (n : Nat) : Lk n zeroP zeroP (fun _ => 0) (fun _ => zeroP) (fun _ => zeroP) (fun _ => []) := ⟨fun _ _ _ _ => rfl, fun _ _ _ _ => rfl, fun f _ => (tickD_zero 4096).symm⟩
section
variable {n : Nat} {ce li : Nat → Int × Int} {du : Nat → Int} {CE LI : Nat → Nat → Int × Int} {T : Nat → List Tk}
theorem atF_upd {m j : Nat} {v : Int × Int} (hm : m < n) (hj : j < 4096) {G : Nat → Nat → Int × Int} {g : Nat → Int × Int} (h : ∀ f, f < n → ∀ i, i < 4096 → G f i = g (f * 4096 + i)) :
    ∀ f, f < n → ∀ i, i < 4096 → atF G m (updP (G m) j v) f i = updP g (m * 4096 + j) v (f * 4096 + i) := by
  intro f hf i hi
  by_cases e : f = m
  · subst e
    rw [atF_same]
    by_cases e2 : i = j
    · subst e2; rw [updP_same, updP_same]
    · rw [updP_other e2, updP_other (by omega)]; exact h f hf i hi
  · rw [atF_other e, updP_other (by omega)]
    exact h f hf i hi
theorem setP_yes {m j : Nat} {v : Int × Int} {g : Nat → Int × Int} (hm : m < n) (hj : j < 4096) : setP n true g m j v = updP g (m * 4096 + j) v := by
  unfold setP
  rw [if_pos ⟨by unfold inR; omega, rfl⟩]
  simp
theorem setP_no {g : Nat → Int × Int} {ok : Bool} {f i : Int} {v : Int × Int} (h : ¬ (inR n f i ∧ ok = true)) : setP n ok g f i v = g := by
  unfold setP
  rw [if_neg h]
theorem Lk.set (h : Lk n ce li du CE LI T) {m j : Nat} (hm : m < n) (hj : j < 4096) (v : Int × Int) : Lk n (setP n true ce m j v) li du (atF CE m (updP (CE m) j v)) LI T :=
  ⟨by rw [setP_yes hm hj]; exact atF_upd hm hj h.c, h.l, h.t⟩
theorem Lk.setL (h : Lk n ce li du CE LI T) {m j : Nat} (hm : m < n) (hj : j < 4096) (v : Int × Int) : Lk n ce (setP n true li m j v) du CE (atF LI m (updP (LI m) j v)) T :=
  ⟨h.c, by rw [setP_yes hm hj]; exact atF_upd hm hj h.l, h.t⟩
theorem Lk.put (h : Lk n ce li du CE LI T) {m : Nat} (hm : m < n) {cce cli cce' cli' : Nat → Int × Int} {d : Nat → Int} {ts : List Tk} (h1 : ∀ i, i < 4096 → cce' i = cce i) (h2 : ∀ i, i < 4096 → cli' i = cli i) (h3 : ts = tickD d 4096) :
    Lk n (putP m cce ce) (putP m cli li) (putD m d du) (atF CE m cce') (atF LI m cli') (atF T m ts) := by
  have key : ∀ {G : Nat → Nat → Int × Int} {g a a' : Nat → Int × Int}, (∀ f, f < n → ∀ i, i < 4096 → G f i = g (f * 4096 + i)) → (∀ i, i < 4096 → a' i = a i) → ∀ f, f < n → ∀ i, i < 4096 → atF G m a' f i = putP m a g (f * 4096 + i) := fun {G g a a'} hg ha f hf i hi => by
    unfold putP
    by_cases e : f = m
    · subst e
      rw [atF_same, if_pos (by omega), show f * 4096 + i - f * 4096 = i by omega]
      exact ha i hi
    · rw [atF_other e, if_neg (by omega)]
      exact hg f hf i hi
  refine ⟨key h.c h1, key h.l h2, fun f hf => ?_⟩
  by_cases e : f = m
  · subst e
    rw [atF_same, h3]
    exact tickD_congr fun i hi => (sh_putD f d du hi).symm
  · rw [atF_other e, h.t f hf]
    refine tickD_congr fun i hi => ?_
    unfold shD putD
    rw [if_neg (by omega)]
theorem clrP_put (m : Nat) (g : Nat → Int × Int) : clrP m g = putP m zeroP g := by funext c; rfl
theorem clrD_put (m : Nat) (g : Nat → Int) : clrD m g = putD m (fun _ => 0) g := by funext c; rfl
theorem Lk.clr (h : Lk n ce li du CE LI T) {m : Nat} (hm : m < n) : Lk n (clrP m ce) (clrP m li) (clrD m du) (atF CE m zeroP) (atF LI m zeroP) (atF T m []) := by
  rw [clrP_put, clrP_put, clrD_put]
  exact h.put hm (fun _ _ => rfl) (fun _ _ => rfl) (tickD_zero 4096).symm
theorem Lk.rise (h : Lk n ce li du CE LI T) (hd : ∀ c, 0 ≤ du c) {f : Nat} (hf : f < n) : Rise (T f) (shD f du) := by
  rw [h.t f hf]
  exact tickD_rise fun i => hd _
theorem Lk.wake (h : Lk n ce li du CE LI T) (hd : ∀ c, 0 ≤ du c) {m j : Nat} (hm : m < n) (hj : j < 4096) {d : Int} (hdm : d ≤ 2199023255552) (hd' : ∀ c, 0 ≤ wakeD n du m j d c) : Lk n ce li (wakeD n du m j d) CE LI (atF T m (wakeL (T m) j d)) := by
  have hr : inR n (m : Int) (j : Int) := by unfold inR; omega
  refine ⟨h.c, h.l, fun f hf => ?_⟩
  by_cases e : f = m
  · subst e
    rw [atF_same]
    refine ((h.rise hd hf).wake hj d).uniq (tickD_rise fun i => hd' _) fun i hi => ?_
    unfold shD wakeD
    simp only [Int.toNat_natCast]
    by_cases hc : (1 ≤ d ∧ d ≤ 2199023255552) ∧ (du (f * 4096 + j) = 0 ∨ d < du (f * 4096 + j))
    · rw [if_pos (show inR n f j ∧ _ from ⟨hr, hc⟩)]
      by_cases e2 : i = j
      · subst e2
        rw [updD_same, if_pos ⟨rfl, by omega, hc.2⟩]
      · rw [updD_other (by omega), if_neg (fun h => e2 h.1)]
    · rw [if_neg (show ¬ (inR n f j ∧ _) from fun h => hc h.2), if_neg (fun h => hc ⟨⟨by omega, hdm⟩, h.2.2⟩)]
  · rw [atF_other e, h.t f hf]
    refine tickD_congr fun i hi => ?_
    unfold shD wakeD
    simp only [Int.toNat_natCast]
    split
    · rw [updD_other (by omega)]
    · rfl
theorem Lk.drop (h : Lk n ce li du CE LI T) (hd : ∀ c, 0 ≤ du c) {m j : Nat} (hm : m < n) (hj : j < 4096) (hd' : ∀ c, 0 ≤ dropD n du m j c) : Lk n ce li (dropD n du m j) CE LI (atF T m (dropL (T m) j)) := by
  have hr : inR n (m : Int) (j : Int) := by unfold inR; omega
  refine ⟨h.c, h.l, fun f hf => ?_⟩
  by_cases e : f = m
  · subst e
    rw [atF_same]
    refine ((h.rise hd hf).drop hj).uniq (tickD_rise fun i => hd' _) fun i hi => ?_
    unfold shD dropD
    simp only [Int.toNat_natCast]
    rw [if_pos hr]
    by_cases e2 : i = j
    · subst e2
      rw [updD_same, if_pos rfl]
    · rw [updD_other (by omega), if_neg e2]
  · rw [atF_other e, h.t f hf]
    refine tickD_congr fun i hi => ?_
    unfold shD dropD
    simp only [Int.toNat_natCast]
    rw [if_pos hr, updD_other (by omega)]
theorem wakeD_no {f i d : Int} (h : ¬ (inR n f i ∧ d ≤ 2199023255552)) : wakeD n du f i d = du := by
  unfold wakeD
  rw [if_neg (fun k => h ⟨k.1, k.2.1.2⟩)]
theorem dropD_no {f i : Int} (h : ¬ inR n f i) : dropD n du f i = du := by
  unfold dropD
  rw [if_neg h]
theorem Lk.len (h : Lk n ce li du CE LI T) {f : Nat} (hf : f < n) : (T f).length ≤ 4096 := by
  rw [h.t f hf]
  exact tickD_len _ _
theorem Lk.tickF (h : Lk n ce li du CE LI T) (f : Int) : tickF n du f = if 0 ≤ f ∧ f < n then T f.toNat else [] := by
  unfold Go.Proofs.Ytlaodkolkoefgaa.tickF
  split
  · rw [h.t _ (by omega)]; rfl
  · rfl
theorem Lk.atC (h : Lk n ce li du CE LI T) (f i : Int) : atP n ce f i = atR n CE f i := by
  unfold atP atR
  split
  · rename_i hr
    unfold inR at hr
    exact (h.c _ (by omega) _ (by omega)).symm
  · rfl
theorem Lk.atL (h : Lk n ce li du CE LI T) (f i : Int) : atP n li f i = atR n LI f i := by
  unfold atP atR
  split
  · rename_i hr
    unfold inR at hr
    exact (h.l _ (by omega) _ (by omega)).symm
  · rfl
theorem Lk.due (h : Lk n ce li du CE LI T) (hd : ∀ c, 0 ≤ du c) (f i : Int) : atD n du f i = if 0 ≤ i ∧ i < 4096 then dueL (if 0 ≤ f ∧ f < n then T f.toNat else []) i else 0 := by
  unfold atD
  by_cases hi : 0 ≤ i ∧ i < 4096
  · rw [if_pos hi]
    by_cases hf : 0 ≤ f ∧ f < n
    · rw [if_pos hf, if_pos (by unfold inR; omega)]
      have := (h.rise hd (f := f.toNat) (by omega)).due (i := i.toNat) (by omega)
      rw [show ((i.toNat : Nat) : Int) = i by omega] at this
      exact this.symm
    · rw [if_neg hf, if_neg (by unfold inR; omega)]
      exact (dueL_none (by unfold placeL; simp)).symm
  · rw [if_neg hi, if_neg (by unfold inR; omega)]
end
theorem checkE_congr {ce ce' li li' : Nat → Int × Int} {ts : List Tk} (h1 : ∀ i, i < 4096 → ce i = ce' i) (h2 : ∀ i, i < 4096 → li i = li' i) : checkE ce li ts = checkE ce' li' ts := by
  unfold checkE
  rw [allN_congr (p := mayC ce) (q := mayC ce') (fun i hi => by unfold mayC; rw [h1 i hi]), allN_congr (p := litC li) (q := litC li') (fun i hi => by unfold litC; rw [h2 i hi])]
theorem sameB_of {ce ce' li li' : Nat → Int × Int} {ts : List Tk} (h1 : ∀ i, i < 4096 → ce i = ce' i) (h2 : ∀ i, i < 4096 → li i = li' i) : sameB ce ce' li li' ts ts = true := sameB_iff.2 ⟨fun i hi => ⟨h1 i hi, h2 i hi⟩, rfl⟩
end Go.Proofs.Ytlaodkolkoefgaa

/-
  Both pools in one memory.
-/
namespace Go.Proofs.Ytlaodkolkoefgaa
open Go.RowKit
set_option linter.unusedSimpArgs false
set_option linter.unusedVariables false

structure FS where
  ce : Nat → Int × Int
  li : Nat → Int × Int
  du : Nat → Int
  tk : Nat → Bool
structure RS where
  x : Nat → Nat
  CE : Nat → Nat → Int × Int
  LI : Nat → Nat → Int × Int
  T : Nat → List Tk
  tk : Nat → Bool
structure Bx where
  pb : Nat
  sb : Nat
  tb : Nat
  n : Nat
  qb : Nat
  kb : Nat
  kc : Nat
  ub : Nat
structure Pr (w W : World) (B : Bx) (s : FS) (r : RS) : Prop where
  F : Fp w W B.pb B.sb B.tb B.n s.ce s.li s.du s.tk
  R : Rp W B.qb B.kb B.kc B.ub B.n r.x r.CE r.LI r.T r.tk
  tu : B.tb ≠ B.ub
  lk : w.heap.size ≤ B.kb
  lu : w.heap.size ≤ B.ub
  lx : ∀ f, f < B.n → w.heap.size ≤ r.x f
/-- The pools hold the same. -/
structure Ld (n : Nat) (s : FS) (r : RS) : Prop where
  l : Lk n s.ce s.li s.du r.CE r.LI r.T
  tk : r.tk = s.tk
theorem TRow.butOf2 {w w' : World} {a b : Nat} {s : Value} {ts : List Tk} (h : TRow w s ts) (hb : But2 a b w w') (hno1 : ∀ o v, w.cell? ⟨a, o, none⟩ = some v → ∀ x, v ≠ .int .i64 x) (hno2 : ∀ o v, w.cell? ⟨b, o, none⟩ = some v → ∀ x, v ≠ .int .i64 x) : TRow w' s ts := by
  obtain ⟨base, cap, e, h1, h2, h3⟩ := h
  refine ⟨base, cap, e, h1, h2, fun hne => ?_⟩
  obtain ⟨c, off, e2, hc⟩ := h3 hne
  refine ⟨c, off, e2, fun j x hx i v hv => ?_⟩
  have hcell := hc j x hx i v hv
  obtain ⟨t0, hz⟩ : ∃ t0, (ts.map tickV)[0]? = some (tickV t0) := by
    cases ts with
    | nil => simp at hne
    | cons t r => exact ⟨t, rfl⟩
  have h0 := hc 0 _ hz 0 _ rfl
  have hca : c ≠ a := fun e => by subst e; exact hno1 _ _ h0 _ rfl
  have hcb : c ≠ b := fun e => by subst e; exact hno2 _ _ h0 _ rfl
  have hlt : c < w.heap.size := by
    rcases Nat.lt_or_ge c w.heap.size with h | h
    · exact h
    · rw [World.cell?, Array.getElem?_eq_none h] at hcell
      cases hcell
  rw [World.cell?_of_block (a := ⟨c, _, none⟩) (hb.block c hlt hca hcb)]
  exact hcell
theorem Ck.but2 {w w' : World} {a b c : Nat} {ce li : Nat → Int × Int} {s : Value} (h : Ck w c ce li s) (hb : But2 a b w w') (h1 : c ≠ a) (h2 : c ≠ b) : Ck w' c ce li s := h.elim fun cs k => ⟨cs, k.1.but2 hb h1 h2, k.2⟩
section
variable {w W W' : World} {B : Bx} {s s' : FS} {r r' : RS}
theorem Pr.keep (h : Pr w W B s r) (hb : Below W.heap.size W W') : Pr w W' B s r := { h with F := h.F.keep hb, R := h.R.keep hb }
theorem Pr.slabNo (h : Pr w W B s r) : ∀ o v, W.cell? ⟨B.sb, o, none⟩ = some v → ∀ x, v ≠ .int .i64 x := h.F.1.slab.noInt (slab_noInt _ _ _)
theorem Pr.tbNo (h : Pr w W B s r) : ∀ o v, W.cell? ⟨B.tb, o, none⟩ = some v → ∀ x, v ≠ .int .i64 x := h.F.1.take.noInt (fun i x e => by cases e)
/-- The frames' pool moves on. -/
theorem Pr.p (h : Pr w W B s r) (hb : But2 B.sb B.tb W W') (hF : Fp w W' B.pb B.sb B.tb B.n s'.ce s'.li s'.du s'.tk) : Pr w W' B s' r := by
  obtain ⟨cs, hs, _, _⟩ := h.F.1.slab
  obtain ⟨ct, ht, _, _⟩ := h.F.1.take
  refine { h with F := hF, R := { h.R with pool := h.R.pool.but2 hb (h.R.pool.ne hs (by decide)) (h.R.pool.ne ht (by decide)), ptrs := h.R.ptrs.elim fun cs k => ⟨cs, k.1.but2 hb (k.1.ne hs (by decide)) (k.1.ne ht (by decide)), k.2⟩, take := h.R.take.elim fun cs k => ⟨cs, k.1.but2 hb (k.1.ne hs (by decide)) h.tu.symm, k.2⟩, ch := fun f hf => ?_ } }
  obtain ⟨v, k, t⟩ := h.R.ch f hf
  exact ⟨v, k.but2 hb (k.elim fun cs k => k.1.ne hs (by decide)) (k.elim fun cs k => k.1.ne ht (by decide)), t.butOf2 hb h.slabNo h.tbNo⟩
/-- The document's pool moves on. -/
theorem Pr.q {a b : Nat} (h : Pr w W B s r) (hb : But2 a b W W') (ha : a = B.kb ∨ a = B.ub ∨ ∃ f, f < B.n ∧ a = r.x f) (hb' : b = B.kb ∨ b = B.ub ∨ ∃ f, f < B.n ∧ b = r.x f) (hR : Rp W' B.qb B.kb B.kc B.ub B.n r'.x r'.CE r'.LI r'.T r'.tk) (hx : ∀ f, f < B.n → w.heap.size ≤ r'.x f) : Pr w W' B s r' := by
  obtain ⟨cs, hs, hs2⟩ := h.F.1.slab
  obtain ⟨ct, ht, ht2⟩ := h.F.1.take
  have hp := h.F.1.pool
  obtain ⟨ck, hk, _⟩ := h.R.ptrs
  obtain ⟨cu, hu, _⟩ := h.R.take
  have key : ∀ c, (c = B.kb ∨ c = B.ub ∨ ∃ f, f < B.n ∧ c = r.x f) → B.pb ≠ c ∧ B.sb ≠ c ∧ B.tb ≠ c ∧ w.heap.size ≤ c := fun c hc => by
    rcases hc with rfl | rfl | ⟨f, hf, rfl⟩
    · exact ⟨hp.ne hk (by decide), hs.ne hk (by decide), ht.ne hk (by decide), h.lk⟩
    · exact ⟨hp.ne hu (by decide), hs.ne hu (by decide), h.tu, h.lu⟩
    · obtain ⟨v, ⟨cx, k, _⟩, _⟩ := h.R.ch f hf
      exact ⟨hp.ne k (by decide), hs.ne k (by decide), ht.ne k (by decide), h.lx f hf⟩
  obtain ⟨a1, a2, a3, a4⟩ := key a ha
  obtain ⟨b1, b2, b3, b4⟩ := key b hb'
  exact { h with R := hR, lx := hx, F := ⟨{ h.F.1 with pool := hp.but2 hb a1 b1, slab := ⟨cs, hs.but2 hb a2 b2, hs2⟩, take := ⟨ct, ht.but2 hb a3 b3, ht2⟩ }, h.F.2.1, h.F.2.2.1, h.F.2.2.2.1, But2.step h.F.below hb a4 b4 h.F.below.size⟩ }
/-- A block of another kind stays. -/
def Near (ab : Nat) (W W' : World) : Prop := ∀ cs, Blk W ab cs 67 → Blk W' ab cs 67
theorem Near.below {ab : Nat} (hb : Below W.heap.size W W') : Near ab W W' := fun cs h => h.below hb h.lt
theorem Pr.nearP {ab : Nat} (h : Pr w W B s r) (hb : But2 B.sb B.tb W W') : Near ab W W' := fun cs k => by
  obtain ⟨cs, hs, _⟩ := h.F.1.slab
  obtain ⟨ct, ht, _⟩ := h.F.1.take
  exact k.but2 hb (k.ne hs (by decide)) (k.ne ht (by decide))
theorem Pr.nearQ {a b ab : Nat} (h : Pr w W B s r) (hb : But2 a b W W') (ha : a = B.kb ∨ a = B.ub ∨ ∃ f, f < B.n ∧ a = r.x f) (hb' : b = B.kb ∨ b = B.ub ∨ ∃ f, f < B.n ∧ b = r.x f) : Near ab W W' := fun cs k => by
  obtain ⟨ck, hk, _⟩ := h.R.ptrs
  obtain ⟨cu, hu, _⟩ := h.R.take
  have key : ∀ c, (c = B.kb ∨ c = B.ub ∨ ∃ f, f < B.n ∧ c = r.x f) → ab ≠ c := fun c hc => by
    rcases hc with rfl | rfl | ⟨f, hf, rfl⟩
    · exact k.ne hk (by decide)
    · exact k.ne hu (by decide)
    · obtain ⟨v, ⟨cx, k', _⟩, _⟩ := h.R.ch f hf
      exact k.ne k' (by decide)
  exact k.but2 hb (key a ha) (key b hb')
end
/-- One call on each pool, whose answers are told, after which both hold the same. -/
def Two (w : World) (B : Bx) (ab : Nat) (s : FS) (r : RS) (fp : FuncId) (ap : Array Value) (fq : FuncId) (aq : Array Value) (v0 v1 : Value) : Prop :=
  ∃ s' r', Ld B.n s' r' ∧ (∀ W, Pr w W B s r → Calls Try.prog fp ap W fun e w' => e = .returned v0 ∧ Pr w w' B s' r ∧ Near ab W w') ∧ ∀ W, Pr w W B s' r → Calls Try.prog fq aq W fun e w' => e = .returned v1 ∧ (∃ x, Pr w w' B s' { r' with x := x }) ∧ Near ab W w'
end Go.Proofs.Ytlaodkolkoefgaa
