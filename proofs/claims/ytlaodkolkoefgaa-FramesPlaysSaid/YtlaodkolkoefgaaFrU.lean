/-
  The document's pool: chunks in a list, which frames are taken.
-/
import Derived.Test.YtlaodkolkoefgaaMg28
import Derived.Test.YtlaodkolkoefgaaChunkRR
import Derived.Test.YtlaodkolkoefgaaChunkRW2
namespace Go.Proofs.Ytlaodkolkoefgaa
open Go.RowKit
set_option linter.unusedSimpArgs false
set_option linter.unusedVariables false

theorem Blk.ty {w : World} {b : Nat} {cs cs' : List Value} {T T' : TypeId} (h : Blk w b cs T) (k : Blk w b cs' T') : T = T' := by
  unfold Blk at h k
  rw [h] at k
  injection k with k
  injection k
theorem Blk.ne {w : World} {b b' : Nat} {cs cs' : List Value} {T T' : TypeId} (h : Blk w b cs T) (k : Blk w b' cs' T') (hT : T ≠ T') : b ≠ b' := fun e => by
  subst e; exact hT (h.ty k)
/-- A row of ticks does not lie where no int64 lies. -/
theorem TRow.butOf {w w' : World} {b : Nat} {s : Value} {ts : List Tk} (h : TRow w s ts) (hb : But b w w') (hno : ∀ o v, w.cell? ⟨b, o, none⟩ = some v → ∀ x, v ≠ .int .i64 x) : TRow w' s ts := by
  by_cases hne : ts = []
  · exact SRow.but h hb (Or.inl (by rw [hne]; rfl))
  · refine SRow.but h hb (Or.inr fun a n c e hab => ?_)
    obtain ⟨base, cap, e2, _, _, hc⟩ := h.open
    obtain ⟨b2, off, e3, hcell⟩ := hc hne
    subst e3
    rw [e] at e2
    injection e2 with e2 _ _
    injection e2 with e2
    subst e2
    simp only at hab
    subst hab
    cases ts with
    | nil => exact hne rfl
    | cons t r => exact hno _ _ (hcell 0 t rfl).1 _ rfl
theorem Ck.noInt {w : World} {b : Nat} {ce li : Nat → Int × Int} {s : Value} (h : Ck w b ce li s) (hs : ∀ x, s ≠ .int .i64 x) : ∀ o v, w.cell? ⟨b, o, none⟩ = some v → ∀ x, v ≠ .int .i64 x := fun o v hv x e => by
  obtain ⟨cs, h1, h2⟩ := h
  rw [h1.cell_eq] at hv
  have ho := (List.getElem?_eq_some_iff.1 hv).1
  rw [h2.len] at ho
  have h3 := h2.get o ho
  rw [hv] at h3
  have h4 := Option.some.inj h3
  subst e
  unfold ckF at h4
  split at h4
  · split at h4 <;> injection h4 with h5 _ <;> cases h5
  · split at h4
    · split at h4 <;> injection h4 with h5 _ <;> cases h5
    · exact hs x h4.symm
theorem Row1.noInt {w : World} {b n : Nat} {T : TypeId} {f : Nat → Value} (h : Row1 w b T n f) (hf : ∀ i x, f i ≠ .int .i64 x) : ∀ o v, w.cell? ⟨b, o, none⟩ = some v → ∀ x, v ≠ .int .i64 x := fun o v hv x e => by
  obtain ⟨cs, h1, h2, h3⟩ := h
  rw [h1.cell_eq] at hv
  have ho := (List.getElem?_eq_some_iff.1 hv).1
  rw [h3 o (by omega)] at hv
  exact hf o x ((Option.some.inj hv).trans e)
theorem slab_noInt (ce li : Nat → Int × Int) (du : Nat → Int) (i : Nat) (x : Int) : slabF ce li du i ≠ .int .i64 x := fun e => by
  unfold slabF at e
  split at e
  · injection e with e _; cases e
  · split at e
    · injection e with e _; cases e
    · split at e
      · injection e with e _; cases e
      · split at e <;> injection e with e _ <;> cases e
theorem row_slice {w : World} {s : Value} {ts : List Tk} (h : TRow w s ts) : ∀ x, s ≠ .int .i64 x := fun x e => by
  obtain ⟨base, cap, e2, _⟩ := h.open
  rw [e] at e2; cases e2

/-- The document's pool. -/
structure Rp (W : World) (qb kb kc ub n : Nat) (x : Nat → Nat) (CE LI : Nat → Nat → Int × Int) (T : Nat → List Tk) (tk : Nat → Bool) : Prop where
  pool : Blk W qb [.slice (some ⟨kb, 0, none⟩) n kc, .slice (some ⟨ub, 0, none⟩) n n] 71
  ptrs : ∃ cs, Blk W kb cs 31 ∧ (∀ f, f < n → cs[f]? = some (.pointer (some ⟨x f, 0, none⟩))) ∧ ∀ (o : Nat) (v : Value), cs[o]? = some v → ∃ p, v = .pointer p
  take : Row1 W ub 4 n (fun i => .bool (tk i))
  ch : ∀ f, f < n → ∃ s, Ck W (x f) (CE f) (LI f) s ∧ TRow W s (T f)
  inj : ∀ f g, f < n → g < n → x f = x g → f = g
  n1 : 1 ≤ n
  n64 : n ≤ 64
  kcn : n ≤ kc
  kcm : kc ≤ maxLen
  u8 : ∀ f, U8 (CE f) ∧ U8 (LI f)
  tl : ∀ f, (T f).length ≤ 100000
section
variable {W W' : World} {qb kb kc ub n : Nat} {x : Nat → Nat} {CE LI : Nat → Nat → Int × Int} {T : Nat → List Tk} {tk : Nat → Bool}
theorem Rp.keep (h : Rp W qb kb kc ub n x CE LI T tk) (hb : Below W.heap.size W W') : Rp W' qb kb kc ub n x CE LI T tk :=
  { h with pool := h.pool.below hb h.pool.lt, ptrs := h.ptrs.elim fun cs k => ⟨cs, k.1.below hb k.1.lt, k.2⟩, take := h.take.keep hb, ch := fun f hf => (h.ch f hf).elim fun s k => ⟨s, k.1.keep hb, k.2.keep hb⟩ }
/-- A block that is none of the pool's changes. -/
theorem Rp.other {b : Nat} (h : Rp W qb kb kc ub n x CE LI T tk) (hb : But b W W') (h1 : qb ≠ b) (h2 : kb ≠ b) (h3 : ub ≠ b) (h4 : ∀ f, f < n → x f ≠ b) (hno : ∀ o v, W.cell? ⟨b, o, none⟩ = some v → ∀ x, v ≠ .int .i64 x) : Rp W' qb kb kc ub n x CE LI T tk :=
  { h with pool := h.pool.but hb h1, ptrs := h.ptrs.elim fun cs k => ⟨cs, k.1.but hb h2, k.2⟩, take := h.take.but hb h3, ch := fun f hf => (h.ch f hf).elim fun s k => ⟨s, k.1.but hb (h4 f hf), k.2.butOf hb hno⟩ }
theorem Rp.c0 (h : Rp W qb kb kc ub n x CE LI T tk) : W.cell? ⟨qb, 0, none⟩ = some (.slice (some ⟨kb, 0, none⟩) n kc) := h.pool.cell 0 rfl
theorem Rp.c1 (h : Rp W qb kb kc ub n x CE LI T tk) : W.cell? ⟨qb, 1, none⟩ = some (.slice (some ⟨ub, 0, none⟩) n n) := h.pool.cell 1 rfl
theorem Rp.ptr (h : Rp W qb kb kc ub n x CE LI T tk) {f : Nat} (hf : f < n) : W.cell? ⟨kb, f, none⟩ = some (.pointer (some ⟨x f, 0, none⟩)) := h.ptrs.elim fun cs k => k.1.cell f (k.2.1 f hf)
theorem Rp.qk (h : Rp W qb kb kc ub n x CE LI T tk) : qb ≠ kb := h.ptrs.elim fun cs k => h.pool.ne k.1 (by decide)
theorem Rp.qu (h : Rp W qb kb kc ub n x CE LI T tk) : qb ≠ ub := h.take.elim fun cs k => h.pool.ne k.1 (by decide)
theorem Rp.ku (h : Rp W qb kb kc ub n x CE LI T tk) : kb ≠ ub := h.take.elim fun cs k => h.ptrs.elim fun cs' k' => k'.1.ne k.1 (by decide)
theorem Rp.qx (h : Rp W qb kb kc ub n x CE LI T tk) {f : Nat} (hf : f < n) : qb ≠ x f := (h.ch f hf).elim fun s k => k.1.elim fun cs k => h.pool.ne k.1 (by decide)
theorem Rp.kx (h : Rp W qb kb kc ub n x CE LI T tk) {f : Nat} (hf : f < n) : kb ≠ x f := (h.ch f hf).elim fun s k => k.1.elim fun cs k => h.ptrs.elim fun cs' k' => k'.1.ne k.1 (by decide)
theorem Rp.ux (h : Rp W qb kb kc ub n x CE LI T tk) {f : Nat} (hf : f < n) : ub ≠ x f := (h.ch f hf).elim fun s k => k.1.elim fun cs k => h.take.elim fun cs' k' => k'.1.ne k.1 (by decide)
/-- One chunk changes. -/
theorem Rp.chunk (h : Rp W qb kb kc ub n x CE LI T tk) {f : Nat} (hf : f < n) (hb : But (x f) W W') {ce li : Nat → Int × Int} {s : Value} {ts : List Tk} (hk : Ck W' (x f) ce li s) (ht : TRow W' s ts) (hu : U8 ce ∧ U8 li) (hl : ts.length ≤ 100000) :
    Rp W' qb kb kc ub n x (fun g => if g = f then ce else CE g) (fun g => if g = f then li else LI g) (fun g => if g = f then ts else T g) tk := by
  obtain ⟨s0, k0, t0⟩ := h.ch f hf
  have hno := k0.noInt (row_slice t0)
  refine { h with pool := h.pool.but hb (h.qx hf), ptrs := h.ptrs.elim fun cs k => ⟨cs, k.1.but hb (h.kx hf), k.2⟩, take := h.take.but hb (h.ux hf), ch := fun g hg => ?_, u8 := fun g => ?_, tl := fun g => ?_ }
  · by_cases e : g = f
    · subst e
      refine ⟨s, ?_, ?_⟩
      · show Ck W' (x g) (if g = g then ce else CE g) (if g = g then li else LI g) s
        rw [if_pos rfl, if_pos rfl]; exact hk
      · show TRow W' s (if g = g then ts else T g)
        rw [if_pos rfl]; exact ht
    · obtain ⟨s', k', t'⟩ := h.ch g hg
      have hne : x g ≠ x f := fun e2 => e (h.inj g f hg hf e2)
      refine ⟨s', ?_, ?_⟩
      · show Ck W' (x g) (if g = f then ce else CE g) (if g = f then li else LI g) s'
        rw [if_neg e, if_neg e]; exact k'.but hb hne
      · show TRow W' s' (if g = f then ts else T g)
        rw [if_neg e]; exact t'.butOf hb hno
  · show U8 (if g = f then ce else CE g) ∧ U8 (if g = f then li else LI g)
    by_cases e : g = f
    · rw [if_pos e, if_pos e]; exact hu
    · rw [if_neg e, if_neg e]; exact h.u8 g
  · show (if g = f then ts else T g).length ≤ 100000
    by_cases e : g = f
    · rw [if_pos e]; exact hl
    · rw [if_neg e]; exact h.tl g
/-- Whether a frame is taken changes. -/
theorem Rp.setTk (h : Rp W qb kb kc ub n x CE LI T tk) (k : Nat) (v : Bool) : Rp (W.setCell ⟨ub, k, none⟩ (.bool v)) qb kb kc ub n x CE LI T (tkSet tk k v) := by
  have hb : But ub W (W.setCell ⟨ub, k, none⟩ (.bool v)) := (But.refl ub W).setCell k _
  have hno := h.take.noInt (fun i x e => by cases e)
  exact { h with pool := h.pool.but hb h.qu, ptrs := h.ptrs.elim fun cs k => ⟨cs, k.1.but hb h.ku, k.2⟩, take := (h.take.set k _).congr fun i _ => (by unfold tkSet; split <;> rfl), ch := fun f hf => (h.ch f hf).elim fun s k => ⟨s, k.1.but hb (h.ux hf).symm, k.2.butOf hb hno⟩ }
/-- A frame's chunk is another one. -/
theorem Rp.setPtr (h : Rp W qb kb kc ub n x CE LI T tk) {f b : Nat} (hf : f < n) {ce li : Nat → Int × Int} {s : Value} {ts : List Tk} (hk : Ck W b ce li s) (ht : TRow W s ts) (hnew : ∀ g, g < n → x g ≠ b) (hu : U8 ce ∧ U8 li) (hl : ts.length ≤ 100000) :
    Rp (W.setCell ⟨kb, f, none⟩ (.pointer (some ⟨b, 0, none⟩))) qb kb kc ub n (fun g => if g = f then b else x g) (fun g => if g = f then ce else CE g) (fun g => if g = f then li else LI g) (fun g => if g = f then ts else T g) tk := by
  have hb : But kb W (W.setCell ⟨kb, f, none⟩ (.pointer (some ⟨b, 0, none⟩))) := (But.refl kb W).setCell f _
  obtain ⟨cs, kk, kp, kq⟩ := h.ptrs
  have hkb : b ≠ kb := hk.elim fun cs' k => k.1.ne kk (by decide)
  have hno : ∀ o v, W.cell? ⟨kb, o, none⟩ = some v → ∀ x, v ≠ .int .i64 x := fun o v hv y e => by
    rw [kk.cell_eq] at hv
    obtain ⟨p, hp⟩ := kq o v hv
    rw [hp] at e; cases e
  have hfl : f < cs.length := (List.getElem?_eq_some_iff.1 (kp f hf)).1
  refine { h with pool := h.pool.but hb h.qk, ptrs := ⟨cs.set f (.pointer (some ⟨b, 0, none⟩)), kk.set f _, fun g hg => ?_, fun o v hv => ?_⟩, take := h.take.but hb h.ku.symm, ch := fun g hg => ?_, inj := fun g g' hg hg' e => ?_, u8 := fun g => ?_, tl := fun g => ?_ }
  · rw [List.getElem?_set]
    by_cases e : f = g
    · subst e; rw [if_pos rfl, if_pos hfl, if_pos rfl]
    · rw [if_neg e, if_neg (fun h => e h.symm)]; exact kp g hg
  · rw [List.getElem?_set] at hv
    by_cases e : f = o
    · subst e
      rw [if_pos rfl, if_pos hfl] at hv
      exact ⟨_, (Option.some.inj hv).symm⟩
    · rw [if_neg e] at hv; exact kq o v hv
  · by_cases e : g = f
    · subst e
      refine ⟨s, ?_, ?_⟩
      · show Ck _ (if g = g then b else x g) (if g = g then ce else CE g) (if g = g then li else LI g) s
        rw [if_pos rfl, if_pos rfl, if_pos rfl]; exact hk.but hb hkb
      · show TRow _ s (if g = g then ts else T g)
        rw [if_pos rfl]; exact ht.butOf hb hno
    · obtain ⟨s', k', t'⟩ := h.ch g hg
      refine ⟨s', ?_, ?_⟩
      · show Ck _ (if g = f then b else x g) (if g = f then ce else CE g) (if g = f then li else LI g) s'
        rw [if_neg e, if_neg e, if_neg e]; exact k'.but hb (h.kx hg).symm
      · show TRow _ s' (if g = f then ts else T g)
        rw [if_neg e]; exact t'.butOf hb hno
  · by_cases e1 : g = f
    · by_cases e2 : g' = f
      · rw [e1, e2]
      · exfalso
        rw [if_pos e1, if_neg e2] at e
        exact hnew g' hg' e.symm
    · by_cases e2 : g' = f
      · exfalso
        rw [if_neg e1, if_pos e2] at e
        exact hnew g hg e
      · rw [if_neg e1, if_neg e2] at e
        exact h.inj g g' hg hg' e
  · show U8 (if g = f then ce else CE g) ∧ U8 (if g = f then li else LI g)
    by_cases e : g = f
    · rw [if_pos e, if_pos e]; exact hu
    · rw [if_neg e, if_neg e]; exact h.u8 g
  · show (if g = f then ts else T g).length ≤ 100000
    by_cases e : g = f
    · rw [if_pos e]; exact hl
    · rw [if_neg e]; exact h.tl g
end
end Go.Proofs.Ytlaodkolkoefgaa
