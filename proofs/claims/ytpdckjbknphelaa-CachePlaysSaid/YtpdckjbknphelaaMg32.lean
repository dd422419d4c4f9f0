/-
  Rows of spots behind calls that change others.
-/
import Derived.Test.YtpdckjbknphelaaMg31
import Derived.Test.YtpdckjbknphelaaMg0
import Derived.ProofKit
import Derived.OpenShut
import Derived.SizedLaws
namespace Go.Proofs.Ytpdckjbknphelaa
open Go.RowKit
set_option linter.unusedSimpArgs false
set_option linter.unusedVariables false

theorem TyB.chg {B : Nat} {S : Nat → Obj → Prop} {u v : World} {x : Value} (h : Chg B S u v) (k : TyB u x) (hS : ∀ c cs, ¬ S c (.cells cs 23 (0, 0))) : TyB v x := fun a n cp e => (k a n cp e).elim fun cs kb => ⟨cs, h.blk kb (hS _ _)⟩
theorem SRow.chg {B : Nat} {S : Nat → Obj → Prop} {u v : World} {x : Value} {xs : List (List Value)} (h : Chg B S u v) (r : SRow u 3 x xs) (k : TyB u x) (hS : ∀ c cs, ¬ S c (.cells cs 23 (0, 0))) : SRow v 3 x xs := by
  obtain ⟨base, cap, e, h1, h2, h3⟩ := r
  refine ⟨base, cap, e, h1, h2, fun hne => ?_⟩
  obtain ⟨b, off, rfl, hc⟩ := h3 hne
  obtain ⟨cs, kb⟩ := k ⟨b, off, none⟩ _ _ e
  have kb' := h.blk kb (hS _ _)
  unfold Blk at kb kb'
  simp only at kb kb'
  refine ⟨b, off, rfl, fun j z hz i y hy => ?_⟩
  rw [World.cell?_of_block (w := u) (a := ⟨b, off + j * 3 + i, none⟩) (by simp only; rw [kb, kb'])]
  exact hc j z hz i y hy
theorem SRow.sp {W : World} {v : Value} {l : List Sp} (h : SRow W 3 v (l.map spL)) : ∃ base cap, v = .slice base l.length cap ∧ cap ≤ maxLen ∧ (l ≠ [] → ∃ b off, base = some ⟨b, off, none⟩ ∧ ∀ j s, l[j]? = some s → W.cell? ⟨b, off + j * 3, none⟩ = some (.int .i64 s.1) ∧ W.cell? ⟨b, off + j * 3 + 1, none⟩ = some (.int .i64 s.2.1) ∧ W.cell? ⟨b, off + j * 3 + 2, none⟩ = some (.int .i64 s.2.2)) := by
  obtain ⟨base, cap, e, h1, h2, h3⟩ := h
  rw [List.length_map] at e
  refine ⟨base, cap, e, h2, fun hne => ?_⟩
  obtain ⟨b, off, hb, hc⟩ := h3 (fun e => hne (List.map_eq_nil_iff.1 e))
  refine ⟨b, off, hb, fun j s hs => ?_⟩
  have hx : (l.map spL)[j]? = some (spL s) := by rw [List.getElem?_map, hs]; rfl
  exact ⟨hc j _ hx 0 _ rfl, hc j _ hx 1 _ rfl, hc j _ hx 2 _ rfl⟩
end Go.Proofs.Ytpdckjbknphelaa

/-
  How plain values read: a struct, an array of numbers and bools comes as its cells, one behind the other, each of its kind; what else lies in one cell keeps its own reading. Rows of such elements behind a slice.
-/
namespace Go.Proofs.Ytpdckjbknphelaa
set_option linter.unusedSimpArgs false
set_option linter.unusedVariables false
open Go.ChangeShapes Go.WideShapes Go.ChangeAt Go.RowKit

inductive Prim where
  | b
  | i (k : IntKind)
  | o (t : TypeId)

section
variable {H : Type} (enc : TypeId × Value → H) (P : Program) (w : World) (base : Nat) (spare : Nat → Bool) (held : Bool)

def Prim.ok : Prim → Value → Prop
  | .b, v => ∃ x, v = .bool x
  | .i k, v => ∃ n, v = .int k n ∧ (Lit.int k n).wf = true
  | .o t, v => ∃ n y, DataW.trod enc P w base spare held n t [v] = some y

def conf : List Prim → List Value → Prop
  | [], [] => True
  | p :: ps, v :: vs => p.ok enc P w base spare held v ∧ conf ps vs
  | _, _ => False
end

def joinFrom (off : Nat) : List (Nat × List Prim) → Option (List Prim)
  | [] => some []
  | (o, l) :: r => if o = off then (joinFrom (off + l.length) r).map (l ++ ·) else none

def flat (P : Program) : Nat → TypeId → Option (List Prim)
  | 0, _ => none
  | f + 1, t =>
    match P.underlying t with
    | some .bool => some [.b]
    | some (.int k) => some [.i k]
    | some (.struct fs) => (fs.toList.mapM fun x => (flat P f x.type).bind fun l => if l.length = P.cellsOf x.type then some (x.offset, l) else none).bind fun xs => (joinFrom 0 xs).bind fun l => if l.length = P.cellsOf t then some l else none
    | some (.array n e) => (flat P f e).bind fun l => if l.length = P.cellsOf e ∧ n * l.length = P.cellsOf t then some (List.replicate n l).flatten else none
    | some (.slice _) => some [.o t]
    | some (.pointer _) => some [.o t]
    | _ => none

section
variable {H : Type} {enc : TypeId × Value → H} {P : Program} {w : World} {base : Nat} {spare : Nat → Bool} {held : Bool}

theorem conf_len : ∀ {ps : List Prim} {vs : List Value}, conf enc P w base spare held ps vs → vs.length = ps.length
  | [], [], _ => rfl
  | _ :: ps, _ :: vs, h => by simp [conf_len (ps := ps) (vs := vs) h.2]
  | [], _ :: _, h => h.elim
  | _ :: _, [], h => h.elim

theorem conf_cons {p : Prim} {ps : List Prim} {vs : List Value} (h : conf enc P w base spare held (p :: ps) vs) : ∃ v us, vs = v :: us ∧ p.ok enc P w base spare held v ∧ conf enc P w base spare held ps us := by
  cases vs with
  | nil => exact h.elim
  | cons v us => exact ⟨v, us, rfl, h.1, h.2⟩
theorem conf_nil {vs : List Value} (h : conf enc P w base spare held [] vs) : vs = [] := by
  cases vs with
  | nil => rfl
  | cons v us => exact h.elim

theorem conf_append : ∀ {ps : List Prim} {vs : List Value} {qs : List Prim} {us : List Value}, conf enc P w base spare held ps vs → conf enc P w base spare held qs us → conf enc P w base spare held (ps ++ qs) (vs ++ us)
  | [], [], _, _, _, h => h
  | _ :: ps, _ :: vs, _, _, h, h' => ⟨h.1, conf_append (ps := ps) (vs := vs) h.2 h'⟩
  | [], _ :: _, _, _, h, _ => h.elim
  | _ :: _, [], _, _, h, _ => h.elim

theorem conf_join : ∀ (xs : List (Nat × List Prim)) (off : Nat) (L : List Prim) (cs : List Value), joinFrom off xs = some L → (∀ x ∈ xs, conf enc P w base spare held x.2 ((cs.drop x.1).take x.2.length)) → cs.length = off + L.length → conf enc P w base spare held L (cs.drop off)
  | [], off, L, cs, h, _, hl => by
    cases h
    rw [List.drop_of_length_le (by simp at hl; omega)]
    trivial
  | (o, l) :: r, off, L, cs, h, hc, hl => by
    simp only [joinFrom] at h
    split at h
    · rename_i ho
      subst ho
      cases hj : joinFrom (o + l.length) r with
      | none => rw [hj] at h; cases h
      | some L' =>
        rw [hj] at h
        cases h
        have h1 := hc _ (List.mem_cons_self)
        have h2 := conf_join r (o + l.length) L' cs hj (fun x hx => hc x (List.mem_cons_of_mem _ hx)) (by simp at hl; omega)
        have h3 := conf_append h1 h2
        rw [← List.drop_drop, List.take_append_drop] at h3
        exact h3
    · cases h

theorem mapM_mem {α β : Type} {f : α → Option β} : ∀ {l : List α} {xs : List β}, l.mapM f = some xs → ∀ x ∈ xs, ∃ a ∈ l, f a = some x
  | [], xs, h, x, hx => by simp at h; subst h; cases hx
  | a :: l, xs, h, x, hx => by
    rw [List.mapM_cons] at h
    cases ha : f a with
    | none => rw [ha] at h; cases h
    | some b =>
      rw [ha] at h
      cases hl : l.mapM f with
      | none => rw [hl] at h; cases h
      | some ys =>
        rw [hl] at h
        cases h
        rcases List.mem_cons.1 hx with rfl | hx
        · exact ⟨a, List.mem_cons_self, ha⟩
        · obtain ⟨a', ha', e⟩ := mapM_mem hl x hx
          exact ⟨a', List.mem_cons_of_mem _ ha', e⟩

theorem conf_rep (l : List Prim) : ∀ (n k : Nat) (cs : List Value), cs.length = (k + n) * l.length → (∀ i, i < k + n → conf enc P w base spare held l ((cs.drop (i * l.length)).take l.length)) → conf enc P w base spare held (List.replicate n l).flatten (cs.drop (k * l.length))
  | 0, k, cs, hl, _ => by rw [List.drop_of_length_le (by simp at hl; omega)]; trivial
  | n + 1, k, cs, hl, hc => by
    have h1 := hc k (by omega)
    have h2 := conf_rep l n (k + 1) cs (by rw [hl]; congr 1; omega) (fun i hi => hc i (by omega))
    have h3 := conf_append h1 h2
    rw [show (k + 1) * l.length = k * l.length + l.length by rw [Nat.add_mul, Nat.one_mul], ← List.drop_drop, List.take_append_drop] at h3
    rw [List.replicate_succ, List.flatten_cons]
    exact h3

theorem flat_trod : ∀ (f : Nat) (n : Nat) (t : TypeId) (cs : List Value) (x : DataW H × List MemPlace) (ks : List Prim), DataW.trod enc P w base spare held n t cs = some x → flat P f t = some ks → conf enc P w base spare held ks cs
  | 0, _, _, _, _, _, _, h => by cases h
  | f + 1, n, t, cs, x, ks, h, hf => by
    unfold flat at hf
    split at hf
    · rename_i hu
      cases hf
      obtain ⟨b, rfl, _⟩ := DataW.trod_bool hu h
      exact ⟨⟨b, rfl⟩, trivial⟩
    · rename_i k hu
      cases hf
      obtain ⟨m, rfl, _, hw⟩ := DataW.trod_int hu h
      exact ⟨⟨m, rfl, hw⟩, trivial⟩
    · rename_i fs hu
      obtain ⟨xs, m, rfl, _, hl, hxl, hx⟩ := DataW.trod_struct hu h
      cases hm : (fs.toList.mapM fun x => (flat P f x.type).bind fun l => if l.length = P.cellsOf x.type then some (x.offset, l) else none) with
      | none => rw [hm] at hf; cases hf
      | some ys =>
        rw [hm] at hf
        simp only [Option.bind_some] at hf
        cases hj : joinFrom 0 ys with
        | none => rw [hj] at hf; cases hf
        | some L =>
          rw [hj] at hf
          simp only [Option.bind_some] at hf
          split at hf
          · rename_i hL
            cases hf
            have := conf_join ys 0 _ cs hj (fun y hy => by
              obtain ⟨fl, hfl, e⟩ := mapM_mem hm y hy
              cases hfl' : flat P f fl.type with
              | none => rw [hfl'] at e; cases e
              | some l =>
                rw [hfl'] at e
                simp only [Option.bind_some] at e
                split at e
                · rename_i hll
                  cases e
                  obtain ⟨i, hi, hi'⟩ := List.getElem_of_mem hfl
                  have h1 := hx i fl (by rw [← hi']; simp at hi ⊢)
                  have hix : i < xs.length := by rw [hxl]; simpa using hi
                  rw [List.getElem?_eq_getElem hix] at h1
                  simp only [hll]
                  exact flat_trod f m fl.type _ _ l h1 hfl'
                · cases e) (by omega)
            simpa using this
          · cases hf
    · rename_i k e hu
      obtain ⟨xs, m, rfl, _, hl, hxl, hx⟩ := DataW.trod_array hu h
      cases hfe : flat P f e with
      | none => rw [hfe] at hf; cases hf
      | some l =>
        rw [hfe] at hf
        simp only [Option.bind_some] at hf
        split at hf
        · rename_i hll
          cases hf
          have := conf_rep (enc := enc) (P := P) (w := w) (base := base) (spare := spare) (held := held) l k 0 cs (by rw [hl, ← hll.2]; simp) (fun i hi => by
            have h1 := hx i (by omega)
            rw [List.getElem?_eq_getElem (by omega)] at h1
            rw [hll.1]
            exact flat_trod f m e _ _ l h1 hfe)
          simpa using this
        · cases hf
    · rename_i e hu
      cases hf
      rcases DataW.trod_slice hu h with ⟨rfl, _⟩ | ⟨a, len, cap, _, _, _, _, rfl, _⟩ <;> exact ⟨⟨_, _, h⟩, trivial⟩
    · rename_i e hu
      cases hf
      have : ∃ v, cs = [v] := by
        cases n with
        | zero => simp [DataW.trod] at h
        | succ n =>
          unfold DataW.trod at h
          rw [hu] at h
          split at h <;> simp_all
      obtain ⟨v, rfl⟩ := this
      exact ⟨⟨_, _, h⟩, trivial⟩
    · cases hf

/-- A whole value, as an argument. -/
theorem flat_arg {f : Nat} {t : TypeId} {v : Value} {d : DataW H} {p : List MemPlace} {ks : List Prim} (h : DataW.Trod enc P w base spare held t v d p) (hf : flat P f t = some ks) : conf enc P w base spare held ks v.cells.toList := by
  obtain ⟨n, hn⟩ := h
  exact flat_trod f n t _ _ ks hn hf

theorem flat_agg {f : Nat} {t : TypeId} {v : Value} {d : DataW H} {p : List MemPlace} {ks : List Prim} {r : Reach} {b0 : Nat} (hu : (match P.underlying t with | some (.struct _) => true | some (.array _ _) => true | _ => false) = true)
    (hv : Value.okWide P w r b0 t v) (h : DataW.Trod enc P w base spare held t v d p) (hf : flat P f t = some ks) : ∃ cs : List Value, v = .agg cs.toArray ∧ conf enc P w base spare held ks cs := by
  have h1 := flat_arg h hf
  unfold Value.okWide at hv
  split at hv
  · obtain ⟨cs, rfl, _⟩ := hv
    exact ⟨cs.toList, by simp, h1⟩
  · obtain ⟨cs, rfl, _⟩ := hv
    exact ⟨cs.toList, by simp, h1⟩
  · rename_i h2 h3
    split at hu
    · exact absurd ‹_› (h2 _)
    · exact absurd ‹_› (h3 _ _)
    · cases hu
end
end Go.Proofs.Ytpdckjbknphelaa
