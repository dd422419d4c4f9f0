/-
  The law's world: load, save.
-/
import Derived.Test.YtpdckjbknphelaaCaW
import Derived.Test.YtpdckjbknphelaaStagG
import Derived.StillTailTactics
namespace Go.Proofs.Ytpdckjbknphelaa
open Go.RowKit
set_option linter.unusedSimpArgs false
set_option linter.unusedVariables false

theorem info_kept : (Try.prog.info? 84).map (fun i => (i.zero, i.size, i.bytes)) = some (some (.agg #[.int .i64 0, .int .i64 0, .int .i64 0, .int .i64 0]), 4, 32) := by kernel_rfl
theorem info_call : (Try.prog.info? 58).map (fun i => (i.zero, i.size, i.bytes)) = some (some (.agg #[.bool false, .int .i64 0, .int .i64 0, .int .i64 0, .int .i64 0]), 5, 40) := by kernel_rfl
/-- A spot's value, as it was kept last. -/
def valK (kept : List (Sp × Int)) (s : Sp) : Int := kept.foldl (fun a p => if p.1 = s then p.2 else a) 0
section
variable {W W' : World} {B wb : Nat} {kept : List (Sp × Int)} {calls : List (Bool × Sp × Int)} {fail stop : Int}
/-- A chunk changes. -/
theorem Wv.butO {b : Nat} {ce li : Nat → Int × Int} {x : Value} (h : Wv W B wb kept calls fail stop) (hb : But b W W') (hk : Ck W b ce li x) : Wv W' B wb kept calls fail stop := by
  obtain ⟨h0, kv, cv, h1, h2, h3⟩ := h
  obtain ⟨cs, k, _⟩ := hk
  refine ⟨h0, kv, cv, h1.but hb (fun e => ?_), h2.but hb (h2.ne k (by decide)), h3.but hb (h3.ne k (by decide))⟩
  subst e
  unfold Blk at h1 k
  rw [h1] at k
  injection k with k
  injection k with _ k2
  exact absurd k2 (by decide)
/-- A call is written down: its one-element row is laid, appended, and the world's slice is stored. -/
theorem Wv.log (h : Wv W B wb kept calls fail stop) (hB : B ≤ W.heap.size) (hc : calls.length ≤ 100000) (c : Bool × Sp × Int) (ty : TypeId) :
    ∃ cv v' w', W.cell? ⟨wb, 1, none⟩ = some cv ∧ (Builtin.append_ #[27, 27] ty #[cv, .slice (some ⟨W.heap.size, 0, none⟩) 1 1]).run Try.prog (W.alloc (.cells (callL c).toArray 58)) = .ok v' w' ∧
      w'.frozen? ⟨wb, 1, none⟩ = false ∧ wb < w'.heap.size ∧ (∃ u, w'.cell? ⟨wb, 1, none⟩ = some u) ∧ (∃ b n c, v' = .slice b n c) ∧
      Wv (w'.setCell ⟨wb, 1, none⟩ v') B wb kept (calls ++ [c]) fail stop ∧ Chg B chW W w' ∧ Chg B chW W (w'.setCell ⟨wb, 1, none⟩ v') := by
  obtain ⟨hBw, kv, cv, hb, hk, hcv⟩ := h
  have hA : Below W.heap.size W (W.alloc (.cells (callL c).toArray 58)) := (Below.refl _ _).alloc (Nat.le_refl _) _
  have hn := Blk.new W (callL c).toArray 58
  rw [List.toList_toArray] at hn
  have h1 := hb.below hA hb.lt
  have h2 := hcv.keep hA
  have h3 := hk.keep hA
  obtain ⟨v', w', hr, h4, h5, h6⟩ := h2.append (S := 27) ty Try.underlying27 info_call rfl (by omega) hn rfl (fun u hu => by simp [callL] at hu; rcases hu with rfl | rfl | rfl | rfl | rfl <;> rfl) (by rw [List.length_map]; omega) (by omega) (by simp; omega)
  have hne : some wb ≠ cv.ownBlock := fun e => hcv.ne hb (by decide) e.symm
  have hb' : Blk w' wb [kv, cv, .int .i64 fail, .int .i64 stop] 29 := by
    unfold Blk at h1 ⊢
    rw [h5.block wb (Array.getElem?_eq_some_iff.1 h1).1 hne]; exact h1
  have hk' : ROwn w' B 84 4 kv (kept.map keptL) := h3.grown h5 fun g hg e => by
    obtain ⟨cs, kb⟩ := h3.blk hg
    exact h2.ne kb (by decide) e.symm
  have hchg : Chg B chW W w' := (Chg.of_below hA).grown h5 fun b hbb => ⟨(h2.lt hbb).1, fun o ho => by
    obtain ⟨cs, kb⟩ := hcv.blk hbb
    unfold Blk at kb
    rw [kb] at ho
    obtain rfl := Option.some.inj ho
    exact .inr (.inr rfl)⟩
  have hbut : But wb w' (w'.setCell ⟨wb, 1, none⟩ v') := (But.refl _ _).setCell 1 _
  refine ⟨cv, v', w', hb.cell 1 rfl, hr, hb'.frozen 1, hb'.lt, ⟨_, hb'.cell 1 rfl⟩, (h4.open.elim fun b h => h.elim fun c h => ⟨b, _, c, h.1⟩), ⟨hBw, kv, v', hb'.set 1 v', hk'.but hbut (hk'.ne hb' (by decide)), ?_⟩, ?_, ?_⟩
  · rw [List.map_append]
    exact h4.but hbut (h4.ne hb' (by decide))
  · exact hchg
  · refine hchg.but hbut hBw fun o ho => ?_
    · unfold Blk at hb
      rw [hb] at ho
      obtain rfl := Option.some.inj ho
      exact .inl rfl
/-- What is saved is kept. -/
theorem Wv.put (h : Wv W B wb kept calls fail stop) (hB : B ≤ W.heap.size) (hc : kept.length ≤ 100000) (c : Sp × Int) (ty : TypeId) :
    ∃ kv v' w', W.cell? ⟨wb, 0, none⟩ = some kv ∧ (Builtin.append_ #[26, 26] ty #[kv, .slice (some ⟨W.heap.size, 0, none⟩) 1 1]).run Try.prog (W.alloc (.cells (keptL c).toArray 84)) = .ok v' w' ∧
      w'.frozen? ⟨wb, 0, none⟩ = false ∧ wb < w'.heap.size ∧ (∃ u, w'.cell? ⟨wb, 0, none⟩ = some u) ∧ (∃ b n c, v' = .slice b n c) ∧
      Wv (w'.setCell ⟨wb, 0, none⟩ v') B wb (kept ++ [c]) calls fail stop ∧ Chg B chW W w' ∧ Chg B chW W (w'.setCell ⟨wb, 0, none⟩ v') := by
  obtain ⟨hBw, kv, cv, hb, hk, hcv⟩ := h
  have hA : Below W.heap.size W (W.alloc (.cells (keptL c).toArray 84)) := (Below.refl _ _).alloc (Nat.le_refl _) _
  have hn := Blk.new W (keptL c).toArray 84
  rw [List.toList_toArray] at hn
  have h1 := hb.below hA hb.lt
  have h2 := hcv.keep hA
  have h3 := hk.keep hA
  obtain ⟨v', w', hr, h4, h5, h6⟩ := h3.append (S := 26) ty Try.underlying26 info_kept rfl (by omega) hn rfl (fun u hu => by simp [keptL] at hu; rcases hu with rfl | rfl | rfl | rfl <;> rfl) (by rw [List.length_map]; omega) (by omega) (by simp; omega)
  have hne : some wb ≠ kv.ownBlock := fun e => hk.ne hb (by decide) e.symm
  have hb' : Blk w' wb [kv, cv, .int .i64 fail, .int .i64 stop] 29 := by
    unfold Blk at h1 ⊢
    rw [h5.block wb (Array.getElem?_eq_some_iff.1 h1).1 hne]; exact h1
  have hc' : ROwn w' B 58 5 cv (calls.map callL) := h2.grown h5 fun g hg e => by
    obtain ⟨cs, kb⟩ := h2.blk hg
    exact h3.ne kb (by decide) e.symm
  have hchg : Chg B chW W w' := (Chg.of_below hA).grown h5 fun b hbb => ⟨(h3.lt hbb).1, fun o ho => by
    obtain ⟨cs, kb⟩ := hk.blk hbb
    unfold Blk at kb
    rw [kb] at ho
    obtain rfl := Option.some.inj ho
    exact .inr (.inl rfl)⟩
  have hbut : But wb w' (w'.setCell ⟨wb, 0, none⟩ v') := (But.refl _ _).setCell 0 _
  refine ⟨kv, v', w', hb.cell 0 rfl, hr, hb'.frozen 0, hb'.lt, ⟨_, hb'.cell 0 rfl⟩, (h4.open.elim fun b h => h.elim fun c h => ⟨b, _, c, h.1⟩), ⟨hBw, v', cv, hb'.set 0 v', ?_, hc'.but hbut (hc'.ne hb' (by decide))⟩, ?_, ?_⟩
  · rw [List.map_append]
    exact h4.but hbut (h4.ne hb' (by decide))
  · exact hchg
  · refine hchg.but hbut hBw fun o ho => ?_
    · unfold Blk at hb
      rw [hb] at ho
      obtain rfl := Option.some.inj ho
      exact .inl rfl
end
theorem callAtU_append {P : Program} {o : Oper} {a : Act} {R : Value → World → Prop} {w w' : World} (s x : Operand) (S : TypeId) (ho : o.op = .call { callee := .builtin .append, args := #[s, x], argTypes := #[S, S] }) {v sl v' : Value} (hs : a.eval s = v) (hx : a.eval x = sl)
    (hr : (Builtin.append_ #[S, S] o.type #[v, sl]).run P w = .ok v' w') (hR : R v' w') : callAtU P o a R w := by
  unfold callAtU
  simp [execOp, ho, resolve, invoke, builtin, hs, hx, hr, Result.andThen]
  exact hR
theorem callAtU_delete {P : Program} {o : Oper} {a : Act} {R : Value → World → Prop} {w w' : World} (m x : Operand) (t k : TypeId) (ho : o.op = .call { callee := .builtin .delete, args := #[m, x], argTypes := #[t, k] }) {v sl : Value} (hs : a.eval m = v) (hx : a.eval x = sl)
    (hr : (Builtin.delete_ #[t, k] o.type #[v, sl]).run P w = .ok (.tuple #[]) w') (hR : R (.tuple #[]) w') : callAtU P o a R w := by
  unfold callAtU
  simp [execOp, ho, resolve, invoke, builtin, hs, hx, hr, Result.andThen]
  exact hR
theorem callAtU_put {P : Program} {o : Oper} {a : Act} {R : Value → World → Prop} {w w' : World} (m k x : Operand) (t : TypeId) (ho : o.op = .mapUpdate t m k x) {v kv xv : Value} (hs : a.eval m = v) (hk : a.eval k = kv) (hx : a.eval x = xv)
    (hr : (Instr.mapUpdate t v kv xv).run P w = .ok () w') (hR : R undef w') : callAtU P o a R w := by
  unfold callAtU
  simp [execOp, ho, hs, hk, hx, hr, Result.andThen]
  exact hR
/-- The worlds of an append to a slice of the world's: the row of one is laid, appended, stored. -/
def appC (w0 w1 w2 w3 : World) (u : Nat → Value) (s : Nat) (W : World) : Prop := match s with
  | 0 => W = w0
  | 1 => W = w1
  | 2 => W = w2
  | _ => W = w3
def appV (a b : Value) (s : Nat) (v : Value) : Prop := match s with
  | 0 => v = a
  | 1 => v = b
  | _ => True
theorem appV_some (a b : Value) (s : Nat) : ∃ v, appV a b s v := match s with
  | 0 => ⟨_, rfl⟩
  | 1 => ⟨_, rfl⟩
  | _ + 2 => ⟨undef, trivial⟩
theorem appC_all {I : World → Prop} {w0 w1 w2 w3 : World} (h0 : I w0) (h1 : I w1) (h2 : I w2) (h3 : I w3) {u : Nat → Value} {N : Nat} (p : {w // AnyStage (appC w0 w1 w2 w3 u) N w}) : I p.val := by
  obtain ⟨W, s, _, h⟩ := p
  match s, h with
  | 0, h => cases h; exact h0
  | 1, h => cases h; exact h1
  | 2, h => cases h; exact h2
  | _ + 3, h => cases h; exact h3
theorem appC_lo {I : World → Prop} {w0 w1 w2 w3 : World} (h0 : I w0) (h1 : I w1) {u : Nat → Value} (p : {w // AnyStage (appC w0 w1 w2 w3 u) 1 w}) : I p.val := by
  obtain ⟨W, s, hs, h⟩ := p
  match s, hs, h with
  | 0, _, h => cases h; exact h0
  | 1, _, h => cases h; exact h1
  | _ + 2, hs, _ => omega
/-- The worlds of one store. -/
def oneE (w0 w1 : World) (u : Nat → Value) (s : Nat) (W : World) : Prop := match s with
  | 0 => W = w0
  | _ => W = w1
theorem oneE_lo {I : World → Prop} {w0 w1 : World} (h0 : I w0) {u : Nat → Value} (p : {w // AnyStage (oneE w0 w1 u) 0 w}) : I p.val := by
  obtain ⟨W, s, hs, h⟩ := p
  match s, hs, h with
  | 0, _, h => cases h; exact h0
  | _ + 1, hs, _ => omega
theorem oneE_all {I : World → Prop} {w0 w1 : World} (h0 : I w0) (h1 : I w1) {u : Nat → Value} {N : Nat} (p : {w // AnyStage (oneE w0 w1 u) N w}) : I p.val := by
  obtain ⟨W, s, _, h⟩ := p
  match s, h with
  | 0, h => cases h; exact h0
  | _ + 1, h => cases h; exact h1
end Go.Proofs.Ytpdckjbknphelaa
