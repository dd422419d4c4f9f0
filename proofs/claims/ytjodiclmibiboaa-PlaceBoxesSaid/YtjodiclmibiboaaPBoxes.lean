/-
  A box's ends and places are as the document says, also left early: PlaceBoxes gives true.
-/
import Derived.Test.YtjodiclmibiboaaQuietIn
import Derived.Test.YtjodiclmibiboaaREach
import Derived.Test.YtjodiclmibiboaaWorks02
namespace Go.Proofs.Ytjodiclmibiboaa
open Go.RowKit Go.Shelf
set_option linter.unusedSimpArgs false
set_option linter.unusedVariables false
attribute [local go_sem] Oper.semAt_some min_2 min2_mn

def IxB (id : Nat) (All : List P3) (IB : List P3 → World → Prop) (c : Code) (pre : List P3) (W : World) : Prop := (c = .exit id ∧ IB pre W) ∨ (c = .ret ∧ ∃ pre0 q, pre = pre0 ++ [q] ∧ All[pre0.length]? ≠ some q)

theorem each_range2 {n : Nat} {g : Operand} {s v lim id : Nat} {assign body : Code} {Q : Exit → Act → World → Prop} {a : Act} {w : World} (h1 : 2 ≤ n) {u1 u2 : Nat} {x y z d e f : Int} (S : Nat → Prop)
    (hg : a.eval g = .func (.func 41) #[] #[.pointer (some ⟨u1, 0, none⟩), .pointer (some ⟨u2, 0, none⟩)]) (hS : ∀ k, S k → k < w.heap.size)
    (b1 : Blk w u1 [.int .i64 x, .int .i64 y, .int .i64 z] 23) (b2 : Blk w u2 [.int .i64 d, .int .i64 e, .int .i64 f] 23)
    (I : List P3 → World → Prop) (IB : List P3 → World → Prop) (hI : OwnFrom w.heap.size I) (hIB : OwnFrom w.heap.size IB) (h0 : I [] w) (R : World → Prop)
    (hQ : ∀ pre W', IB pre W' → ∀ a', Q .normal a' W' → Q (.exit id) a' W')
    (hassign : ∀ (l : Nat) (pre : List P3) (x : P3) (W : World) (K : Act → World → Prop), I pre W → (∀ a' W', KeepsFrom w.heap.size W W' → KpS S W W' → I pre W' → AxP a s v lim x a' W' → K a' W') →
      assign.wpIn (Fence.wide.inRound l) (n - 1 - 1) Try.prog (Exit.then K (fun _ _ _ => False)) { tmps := a.tmps.setIfInBounds s (.agg #[.int .i64 x.1, .int .i64 x.2.1, .int .i64 x.2.2]), defers := [] } W)
    (hbody : ∀ (l : Nat) (pre : List P3) (q : P3) (a' : Act) (W : World), w.heap.size ≤ l → (∃ r, W.heap[l]? = some (.loop r)) → I pre W → AxP a s v lim q a' W → pre.length < (boxPts x y z d e f).length → body.wpIn (Fence.wide.inRound l) (n - 1 - 1) Try.prog (ownPostG w.heap.size (KpS S) I (IxB id (boxPts x y z d e f) IB) (pre ++ [q]) W) a' W)
    (hR1 : ∀ W, I (boxPts x y z d e f) W → R W) (hR2 : ∀ pre W, pre <+: boxPts x y z d e f → IB pre W → R W)
    (hrest : ∀ (D : Nat) (W : World), w.heap.size ≤ D → R W → W.heap[D]? = some (.deferred (some [])) → Q .normal { a with defers := { target := .collected D, args := #[] } :: a.defers } W) :
    (Code.rangeFunc g #[s] assign body).wpIn Fence.wide n Try.prog Q a w :=
  each_range h1 S hg hS b1 b2 I (IxB id (boxPts x y z d e f) IB) hI (fun c t X Y row hs hg hr => hs.imp (fun ⟨e, h⟩ => ⟨e, hIB t X Y row h hg hr⟩) (fun h => h)) h0 hassign hbody
    (fun D xs W hD hxs hi hK => hrest D W hD (hR1 W (hxs ▸ hi)) hK)
    (fun D c pre W hD hpre hx hK => by
      rcases hx with ⟨rfl, hib⟩ | ⟨rfl, pre0, q, rfl, hne⟩
      · exact wpIn_wide.2 (wp_exit (hQ pre W hib _ (hrest D W hD (hR2 pre W hpre hib) hK)))
      · exfalso
        obtain ⟨t, ht⟩ := hpre
        apply hne
        rw [← ht]
        simp)

/-- The statement's own blocks, and the row that is compared with. -/
structure QB (w W : World) (p3 p5 p6 p15 p16 p17 pk : Nat) (x y z a b c lv : Int) (va : Option Addr) (vc l : Nat) (All : List P3) : Prop where
  below : Below p3 w W
  ord : p3 < p5 ∧ p5 < p6 ∧ p6 < p15 ∧ p15 < p16 ∧ p16 < p17 ∧ p17 < pk
  lt : pk < W.heap.size
  b5 : Blk W p5 [.int .i64 lv] 3
  b6 : Blk W p6 [.bool false] 4
  b15 : Blk W p15 [.slice va l vc] 42
  b16 : Blk W p16 [.int .i64 x, .int .i64 y, .int .i64 z] 23
  b17 : Blk W p17 [.int .i64 a, .int .i64 b, .int .i64 c] 23
  row : ∀ (k : Nat) (p : P3), All[k]? = some p → ∃ g cs, va = some ⟨g, 0, none⟩ ∧ g < p15 ∧ Blk W g cs 23 ∧ cs[k * 3]? = some (.int .i64 p.1) ∧ cs[k * 3 + 1]? = some (.int .i64 p.2.1) ∧ cs[k * 3 + 2]? = some (.int .i64 p.2.2)

section
variable {w W W1 : World} {p3 p5 p6 p15 p16 p17 pk : Nat} {x y z a b c lv : Int} {va : Option Addr} {vc l : Nat} {All : List P3}
theorem QB.map (h : QB w W p3 p5 p6 p15 p16 p17 pk x y z a b c lv va vc l All) (hk : ∀ b cs T, b < pk → Blk W b cs T → Blk W1 b cs T) (hb : Below p3 w W1) (hlt : W.heap.size ≤ W1.heap.size) : QB w W1 p3 p5 p6 p15 p16 p17 pk x y z a b c lv va vc l All := by
  have o := h.ord
  refine ⟨hb, o, Nat.lt_of_lt_of_le h.lt hlt, hk _ _ _ (by omega) h.b5, hk _ _ _ (by omega) h.b6, hk _ _ _ (by omega) h.b15, hk _ _ _ (by omega) h.b16, hk _ _ _ (by omega) h.b17, fun k p hp => ?_⟩
  obtain ⟨g, cs, e1, e2, e3, e4⟩ := h.row k p hp
  exact ⟨g, cs, e1, e2, hk _ _ _ (by omega) e3, e4⟩
theorem QB.alloc (h : QB w W p3 p5 p6 p15 p16 p17 pk x y z a b c lv va vc l All) (o : Obj) : QB w (W.alloc o) p3 p5 p6 p15 p16 p17 pk x y z a b c lv va vc l All := h.map (fun _ _ _ _ hb => hb.alloc o) (h.below.alloc (by have := h.lt; have := h.ord; omega) o) (by simp)
theorem QB.set (h : QB w W p3 p5 p6 p15 p16 p17 pk x y z a b c lv va vc l All) (i : Nat) (v : Value) : QB w (W.setCell ⟨pk, i, none⟩ v) p3 p5 p6 p15 p16 p17 pk x y z a b c lv va vc l All := h.map (fun e cs T hlt hb => hb.set_other v (show e ≠ pk by omega)) (h.below.setCell (p := ⟨pk, i, none⟩) (show p3 ≤ pk by have := h.ord; omega) v) (by simp)
theorem QB.drewN (h : QB w W p3 p5 p6 p15 p16 p17 pk x y z a b c lv va vc l All) (n : Nat) : QB w (W.drewN n) p3 p5 p6 p15 p16 p17 pk x y z a b c lv va vc l All := h.map (fun _ _ _ _ hb => hb.drewN n) (below_drewN h.below n) (Nat.le_refl _)
theorem QB.down (h : QB w W p3 p5 p6 p15 p16 p17 pk x y z a b c lv va vc l All) (hb : Below W.heap.size W W1) : QB w W1 p3 p5 p6 p15 p16 p17 pk x y z a b c lv va vc l All := h.map (fun _ _ _ _ hc => hc.below hb hc.lt) (below_step h.below (by have := h.lt; have := h.ord; omega) hb) hb.size
theorem QB.own {B : Nat} {β : Type} (hw : p3 ≤ w.heap.size) (hB : p3 ≤ B) : OwnFrom B (fun (_ : β) W => QB w W p3 p5 p6 p15 p16 p17 pk x y z a b c lv va vc l All) := fun s X Y row h hg hr =>
  h.map (fun _ _ _ _ hb => blk_kept hb hg (fun r e => (hr r e).2)) (ownFrom_below hw hB () X Y row h.below hg hr) hg.size
end
theorem blk_own {B : Nat} {b : Nat} (f : List P3 → List Value) {T : TypeId} : OwnFrom B (fun pre W => Blk W b (f pre) T) := fun s X Y row h hg hr => blk_kept h hg (fun r e => (hr r e).2)

set_option maxRecDepth 100000 in
set_option maxHeartbeats 16000000 in
theorem pboxes_walk (x y z a b c lv : Int) (w : World) :
    Calls Try.prog 7 #[.agg #[.int .i64 x, .int .i64 y, .int .i64 z], .agg #[.int .i64 a, .int .i64 b, .int .i64 c], .int .i64 lv] w fun e w' => e = .returned (.bool true) ∧ Below w.heap.size w w' := by
  have hv : ∃ X0 Y0 Z0 X1 Y1 Z1 : Int, boxLow x y z a b c = .agg #[.int .i64 X0, .int .i64 Y0, .int .i64 Z0] ∧ boxHigh x y z a b c = .agg #[.int .i64 X1, .int .i64 Y1, .int .i64 Z1] := by
    unfold boxLow boxHigh
    cases boxOk x y z a b c
    · exact ⟨0, 0, 0, 0, 0, 0, rfl, rfl⟩
    · exact ⟨_, _, _, _, _, _, rfl, rfl⟩
  obtain ⟨X0, Y0, Z0, X1, Y1, Z1, hlow, hhigh⟩ := hv
  obtain ⟨M, hM⟩ : ∃ M, boxMany x y z a b c = M := ⟨_, rfl⟩
  obtain ⟨E, hE⟩ : ∃ E, boxE x y z a b c = E := ⟨_, rfl⟩
  have hbox : ∀ wv, Calls Try.prog 27 #[.agg #[.int .i64 x, .int .i64 y, .int .i64 z], .agg #[.int .i64 a, .int .i64 b, .int .i64 c]] wv fun e w' => e = .returned (.tuple #[.agg #[.int .i64 X0, .int .i64 Y0, .int .i64 Z0], .agg #[.int .i64 X1, .int .i64 Y1, .int .i64 Z1], .int .i64 M, .int .i64 E]) ∧ Below wv.heap.size wv w' := fun wv => by
    have h := box_calls x y z a b c wv
    rw [hlow, hhigh, hM, hE] at h
    exact h
  have hrbox : ∀ wv, Calls Try.prog 28 #[.agg #[.int .i64 x, .int .i64 y, .int .i64 z], .agg #[.int .i64 a, .int .i64 b, .int .i64 c]] wv fun e w' => e = .returned (.tuple #[.agg #[.int .i64 X0, .int .i64 Y0, .int .i64 Z0], .agg #[.int .i64 X1, .int .i64 Y1, .int .i64 Z1], .int .i64 M, .int .i64 E]) ∧ Below wv.heap.size wv w' := fun wv => by
    have h := rbox_calls x y z a b c wv
    rw [hlow, hhigh, hM, hE] at h
    exact h
  clear hlow hhigh hM hE
  replace hbox := Lib.hid hbox
  replace hrbox := Lib.hid hrbox
  have hp3 : w.heap.size ≤ w.heap.size := Nat.le_refl _
  replace hp3 := Lib.hid hp3
  refine (callsIn_wide (n := 9)).1 ?_
  refine callsIn_of_wp_marks Try.func7 rfl trivial ?_ rfl
  simp only [Try.ntmps7, List.size_toArray, List.length_cons, List.length_nil, Nat.reduceAdd, Nat.reduceSub, Array.replicate_succ, Array.replicate_zero, List.push_toArray, List.append_toArray, List.nil_append, List.cons_append]
  refine wpIn_wide.2 ?_
  go_wp2_with fail
  refine (hbox.out _).mono ?_
  rintro e w1 ⟨rfl, hb⟩
  have HB := Lib.hid (below_step (((((Below.refl w.heap.size w).alloc (by first | exact Nat.le_refl _ | (simp; done) | (simp; omega) | omega) _).alloc (by first | exact Nat.le_refl _ | (simp; done) | (simp; omega) | omega) _).alloc (by first | exact Nat.le_refl _ | (simp; done) | (simp; omega) | omega) _).alloc (by first | exact Nat.le_refl _ | (simp; done) | (simp; omega) | omega) _) (by first | exact Nat.le_refl _ | (simp; done) | (simp; omega) | omega) hb)
  have b3 := ((((Blk.new_at (w := w) (n := w.heap.size) #[.int .i64 x, .int .i64 y, .int .i64 z] 23 (by simp)).alloc (.cells #[.int .i64 a, .int .i64 b, .int .i64 c] 23)).alloc (.cells #[.int .i64 lv] 3)).alloc (.cells #[.bool false] 4)).below hb (by first | exact Nat.le_refl _ | (simp; done) | (simp; omega) | omega)
  have b4 := (((Blk.new_at (w := (w.alloc (.cells #[.int .i64 x, .int .i64 y, .int .i64 z] 23))) (n := w.heap.size + 1) #[.int .i64 a, .int .i64 b, .int .i64 c] 23 (by simp)).alloc (.cells #[.int .i64 lv] 3)).alloc (.cells #[.bool false] 4)).below hb (by first | exact Nat.le_refl _ | (simp; done) | (simp; omega) | omega)
  have b5 := ((Blk.new_at (w := ((w.alloc (.cells #[.int .i64 x, .int .i64 y, .int .i64 z] 23)).alloc (.cells #[.int .i64 a, .int .i64 b, .int .i64 c] 23))) (n := w.heap.size + 2) #[.int .i64 lv] 3 (by simp)).alloc (.cells #[.bool false] 4)).below hb (by first | exact Nat.le_refl _ | (simp; done) | (simp; omega) | omega)
  have b6 := (Blk.new_at (w := (((w.alloc (.cells #[.int .i64 x, .int .i64 y, .int .i64 z] 23)).alloc (.cells #[.int .i64 a, .int .i64 b, .int .i64 c] 23)).alloc (.cells #[.int .i64 lv] 3))) (n := w.heap.size + 3) #[.bool false] 4 (by simp)).below hb (by first | exact Nat.le_refl _ | (simp; done) | (simp; omega) | omega)
  clear hb
  have b3_l := b3.lt
  have b3_0 := b3.cell 0 rfl
  have b3_1 := b3.cell 1 rfl
  have b3_2 := b3.cell 2 rfl
  have b4_l := b4.lt
  have b4_0 := b4.cell 0 rfl
  have b4_1 := b4.cell 1 rfl
  have b4_2 := b4.cell 2 rfl
  go_wp2_with fail
  try clear b3_l b3_0 b3_1 b3_2
  try clear b4_l b4_0 b4_1 b4_2
  refine (hrbox.out _).mono ?_
  rintro e w2 ⟨rfl, hb⟩
  replace HB := Lib.hid (below_step ((HB.out.alloc (by have := HB.out.size; first | omega | (simp; omega)) _).alloc (by have := HB.out.size; first | omega | (simp; omega)) _) (by have := HB.out.size; first | omega | (simp; omega)) hb)
  replace b3 := ((b3.alloc _).alloc _).below hb ((b3.alloc _).alloc _).lt
  replace b4 := ((b4.alloc _).alloc _).below hb ((b4.alloc _).alloc _).lt
  replace b5 := ((b5.alloc _).alloc _).below hb ((b5.alloc _).alloc _).lt
  replace b6 := ((b6.alloc _).alloc _).below hb ((b6.alloc _).alloc _).lt
  have b7 := ((Blk.new _ #[.int .i64 X0, .int .i64 Y0, .int .i64 Z0] 23).alloc _).below hb ((Blk.new _ #[.int .i64 X0, .int .i64 Y0, .int .i64 Z0] 23).alloc _).lt
  have b8 := (Blk.new_at (n := w1.heap.size + 1) #[.int .i64 X1, .int .i64 Y1, .int .i64 Z1] 23 (by simp)).below hb (Blk.new_at (n := w1.heap.size + 1) #[.int .i64 X1, .int .i64 Y1, .int .i64 Z1] 23 (by simp)).lt
  clear hb
  have b3_l := b3.lt
  have b3_0 := b3.cell 0 rfl
  have b3_1 := b3.cell 1 rfl
  have b3_2 := b3.cell 2 rfl
  have b4_l := b4.lt
  have b4_0 := b4.cell 0 rfl
  have b4_1 := b4.cell 1 rfl
  have b4_2 := b4.cell 2 rfl
  have b7_l := b7.lt
  have b7_0 := b7.cell 0 rfl
  have b7_1 := b7.cell 1 rfl
  have b7_2 := b7.cell 2 rfl
  have b8_l := b8.lt
  have b8_0 := b8.cell 0 rfl
  have b8_1 := b8.cell 1 rfl
  have b8_2 := b8.cell 2 rfl
  go_wp2_with fail
  clear b3_l b3_0 b3_1 b3_2
  clear b4_l b4_0 b4_1 b4_2
  clear b7_l b7_0 b7_1 b7_2
  clear b8_l b8_0 b8_1 b8_2
  clear b7 b8
  refine (reach_calls _ _ _ _ _ _ _).mono ?_
  rintro e w3 ⟨v, rfl, hown, hb⟩
  obtain ⟨va, vc, rfl⟩ := owns_form hown
  have hle := boxPts_le x y z a b c
  have hrow0 : ∀ (k : Nat) (p : P3), (boxPts x y z a b c)[k]? = some p → ∃ g cs, va = some ⟨g, 0, none⟩ ∧ g < w3.heap.size ∧ Blk w3 g cs 23 ∧ cs[k * 3]? = some (.int .i64 p.1) ∧ cs[k * 3 + 1]? = some (.int .i64 p.2.1) ∧ cs[k * 3 + 2]? = some (.int .i64 p.2.2) := fun k p hp => by
    obtain ⟨g, cs, e1, e2, e3, e4⟩ := row_at hown hp
    exact ⟨g, cs, e1, e3.lt, e3, e4⟩
  have hz2 := HB.out.size
  have HB3 : Below w.heap.size w w3 := below_step ((HB.out.alloc hz2 _).alloc (by simp; omega) _) (by simp; omega) hb
  replace b3 := ((b3.alloc _).alloc _).below hb ((b3.alloc _).alloc _).lt
  replace b4 := ((b4.alloc _).alloc _).below hb ((b4.alloc _).alloc _).lt
  replace b5 := ((b5.alloc _).alloc _).below hb ((b5.alloc _).alloc _).lt
  replace b6 := ((b6.alloc _).alloc _).below hb ((b6.alloc _).alloc _).lt
  clear hown hb HB hz2
  obtain ⟨l, hl⟩ : ∃ l, (boxPts x y z a b c).length = l := ⟨_, rfl⟩
  rw [hl] at hle
  rw [hl]
  replace hl := Lib.hid hl
  replace HB3 := Lib.hid HB3
  replace hrow0 := Lib.hid hrow0
  have b3_l := b3.lt
  have b3_0 := b3.cell 0 rfl
  have b3_1 := b3.cell 1 rfl
  have b3_2 := b3.cell 2 rfl
  have b4_l := b4.lt
  have b4_0 := b4.cell 0 rfl
  have b4_1 := b4.cell 1 rfl
  have b4_2 := b4.cell 2 rfl
  replace b5 := Lib.hid b5
  replace b6 := Lib.hid b6
  go_wp2_with fail
  refine (each_calls _ _ _ _ _ _ _).mono ?_
  rintro e w4 ⟨rfl, rfl⟩
  have nf : ∀ (u v : Nat) (W : World), (binOp BinOp.eql 45 (.func (.func 41) #[] #[.pointer (some ⟨u, 0, none⟩), .pointer (some ⟨v, 0, none⟩)]) Value.nilFunc).run Try.prog W = .ok (.bool false) W := fun _ _ _ => by kernel_rfl
  go_wp2_with fail
  have o15 : w3.heap.size < w3.heap.size + 1 := by omega
  have o16 : w3.heap.size + 1 < w3.heap.size + 1 + 1 := by omega
  have o17 : w3.heap.size + 1 + 1 < w3.heap.size + 1 + 1 + 1 := by omega
  have o6 := b6.out.lt
  have o5 : w.heap.size < w.heap.size + 1 + 1 ∧ w.heap.size + 1 + 1 < w.heap.size + 1 + 1 + 1 := by omega
  refine wp_world (fun W => QB w W w.heap.size (w.heap.size + 1 + 1) (w.heap.size + 1 + 1 + 1) w3.heap.size (w3.heap.size + 1) (w3.heap.size + 1 + 1) (w3.heap.size + 1 + 1 + 1) x y z a b c lv va vc l (boxPts x y z a b c) ∧ Blk W (w3.heap.size + 1 + 1 + 1) [.int .i64 0] 3) ⟨⟨?_, ⟨o5.1, o5.2, by omega, o15, o16, o17⟩, by simp, ?_, ?_, ?_, ?_, ?_, ?_⟩, ?_⟩ ?_
  · have hz3 := HB3.out.size
    exact (((HB3.out.alloc hz3 _).alloc (by simp; omega) _).alloc (by simp; omega) _).alloc (by simp; omega) _
  · exact (((b5.out.alloc _).alloc _).alloc _).alloc _
  · exact (((b6.out.alloc _).alloc _).alloc _).alloc _
  · exact (((Blk.new w3 _ _).alloc _).alloc _).alloc _
  · exact ((Blk.new_at _ _ (by simp)).alloc _).alloc _
  · exact (Blk.new_at _ _ (by simp)).alloc _
  · intro k p hp
    obtain ⟨g, cs, e1, e2, e3, e4⟩ := hrow0.out k p hp
    exact ⟨g, cs, e1, e2, (((e3.alloc _).alloc _).alloc _).alloc _, e4⟩
  · exact Blk.new_at _ _ (by simp)
  clear b3_l b3_0 b3_1 b3_2
  clear b4_l b4_0 b4_1 b4_2
  clear b3 b4 b5 b6 hrow0 HB3 o6
  generalize w3.heap.size + 1 + 1 + 1 = pk at *
  generalize w3.heap.size + 1 + 1 = p17 at *
  generalize w3.heap.size + 1 = p16 at *
  generalize w3.heap.size = p15 at *
  generalize w.heap.size + 1 + 1 + 1 = p6 at *
  generalize w.heap.size + 1 + 1 = p5 at *
  generalize w.heap.size + 1 = p4 at *
  rintro W ⟨hQB, bk⟩
  have hord := hQB.ord
  have hltk := hQB.lt
  refine (wpIn_wide (n := 9)).1 ?_
  refine each_range2 (n := 9) (s := 63) (v := 18) (lim := pk) (id := 0) (by omega) (u1 := p16) (u2 := p17) (fun k => k = pk) rfl (by rintro k rfl; exact hltk) hQB.b16 hQB.b17
    (fun pre W' => (Blk W' pk [.int .i64 pre.length] 3 ∧ QB w W' w.heap.size p5 p6 p15 p16 p17 pk x y z a b c lv va vc l (boxPts x y z a b c)) ∧ (lv < 1 ∨ (pre.length : Int) < lv))
    (fun pre W' => (Blk W' pk [.int .i64 pre.length] 3 ∧ QB w W' w.heap.size p5 p6 p15 p16 p17 pk x y z a b c lv va vc l (boxPts x y z a b c)) ∧ (1 ≤ lv ∧ (pre.length : Int) = lv))
    (OwnFrom.and (OwnFrom.and (blk_own (fun pre => [.int .i64 pre.length])) (QB.own hp3.out (by omega))) (ownFrom_pure _ (fun (pre : List P3) => lv < 1 ∨ (pre.length : Int) < lv)))
    (OwnFrom.and (OwnFrom.and (blk_own (fun pre => [.int .i64 pre.length])) (QB.own hp3.out (by omega))) (ownFrom_pure _ (fun (pre : List P3) => 1 ≤ lv ∧ (pre.length : Int) = lv)))
    ⟨⟨bk, hQB⟩, by simp; omega⟩
    (fun W' => ∃ kk : Nat, (Blk W' pk [.int .i64 kk] 3 ∧ QB w W' w.heap.size p5 p6 p15 p16 p17 pk x y z a b c lv va vc l (boxPts x y z a b c)) ∧ ((lv < 1 ∧ kk = l) ∨ (1 ≤ lv ∧ mnI lv l = (kk : Int)))) (fun pre W' _ a' h => by simpa [Exit.inBlock] using h) ?_ ?_ ?_ ?_ ?_
  · rintro lr pre ⟨q0, q1, q2⟩ W' K ⟨⟨bk, hQB⟩, hlv⟩ hK
    have hk2 := bk.lt
    replace bk := Lib.hid bk
    replace hQB := Lib.hid hQB
    replace hlv := Lib.hid hlv
    gi_wp2
    exact hK _ _ ((KeepsOthers.alloc _ _).from _) ((KpS.refl _ _).alloc _) ⟨⟨bk.out.alloc _, hQB.out.alloc _⟩, hlv.out⟩ ⟨W'.heap.size, hk2, Blk.new W' _ _, rfl⟩
  · rintro lr pre ⟨q0, q1, q2⟩ a' W' hlw hr HI ⟨Bx, hBx, bx, rfl⟩ hlen
    obtain ⟨⟨bk, hQB⟩, hlv⟩ := HI
    simp only [List.setIfInBounds_toArray, List.set_cons_succ, List.set_cons_zero]
    obtain ⟨kk, hkk⟩ : ∃ k, pre.length = k := ⟨_, rfl⟩
    rw [hkk] at hlen bk hlv
    rw [hl.out] at hlen
    obtain ⟨⟨p0, p1, p2⟩, hp⟩ : ∃ q, (boxPts x y z a b c)[kk]? = some q := ⟨_, List.getElem?_eq_getElem (by rw [hl.out]; exact hlen)⟩
    obtain ⟨g, cs, rfl, hg, bg, c0, c1, c2⟩ := hQB.row _ _ hp
    simp only at c0 c1 c2
    have x0 := bx.cell 0 rfl
    have x1 := bx.cell 1 rfl
    have x2 := bx.cell 2 rfl
    have y0 := bg.cell _ c0
    have y1 := bg.cell _ c1
    have y2 := bg.cell _ c2
    have k0 := bk.cell 0 rfl
    have k1 := bk.frozen 0
    have z15 := hQB.b15.cell 0 rfl
    have m5 := hQB.b5.cell 0 rfl
    have m6 := hQB.b6.cell 0 rfl
    have f6 := hQB.b6.frozen 0
    have v1 : IntKind.i64.wrap ((kk : Int) + 1) = (kk : Int) + 1 := IntWalk.i64_in _ (by omega)
    have e1 : (((pre ++ [(q0, q1, q2)]).length : Nat) : Int) = (kk : Int) + 1 := by rw [List.length_append, hkk]; simp
    have hkl : ¬ (l : Int) ≤ (kk : Int) := by omega
    have hne5 : ¬ p5 = pk := by have := hQB.ord; omega
    have ext1 : ∀ k, KeepsFrom W.heap.size W' (W'.drewN k) := fun k => ⟨Nat.le_refl _, fun _ _ _ h _ => h⟩
    have ext2 : ∀ k, KpS (fun j => j = pk) W' (W'.drewN k) := fun k => ⟨Nat.le_refl _, fun _ _ h _ _ => h⟩
    replace e1 := Lib.hid e1
    replace hkk := Lib.hid hkk
    replace hp := Lib.hid hp
    replace hlv := Lib.hid hlv
    replace bk := Lib.hid bk
    replace hQB := Lib.hid hQB
    replace ext1 := Lib.hid ext1
    replace ext2 := Lib.hid ext2
    clear bx bg c0 c1 c2 hle
    by_cases hq : p0 = q0 ∧ p1 = q1 ∧ p2 = q2
    · obtain ⟨rfl, rfl, rfl⟩ := hq
      gi_wp2
      refine wpIn_region_quiet_round (by kernel_rfl) (by kernel_rfl) (by kernel_rfl) ?_
      repeat (quiet_step (fail))
      refine wpQuiet_nil ?_
      intro _ hw'
      obtain ⟨nq, hw''⟩ := hw'
      subst hw''
      by_cases hb : (kk : Int) + 1 = lv
      · subst hb
        gi_wp2
        exact ⟨(ext1.out nq).trans ((KeepsOthers.setCell _ _ _).from _), .inl ⟨rfl, ⟨by rw [e1.out]; exact (bk.out.drewN nq).set 0 _, (hQB.out.drewN nq).set 0 _⟩, by omega, by rw [e1.out]⟩⟩
      · gi_wp2
        exact ⟨(ext1.out nq).trans ((KeepsOthers.setCell _ _ _).from _), (ext2.out nq).trans ((KpS.refl _ _).set _ rfl), ⟨by rw [e1.out]; exact (bk.out.drewN nq).set 0 _, (hQB.out.drewN nq).set 0 _⟩, by rw [e1.out]; have := hlv.out; omega⟩
    · have hq' : ¬ q0 = p0 ∨ (q0 = p0 ∧ ¬ q1 = p1) ∨ (q0 = p0 ∧ q1 = p1 ∧ ¬ q2 = p2) := by omega
      have hbad : (boxPts x y z a b c)[pre.length]? ≠ some (q0, q1, q2) := fun e => by
        rw [hkk.out, hp.out] at e
        simp only [Option.some.injEq, Prod.mk.injEq] at e
        exact hq e
      replace hbad := Lib.hid hbad
      clear hq
      rcases hq' with hq' | ⟨rfl, hq'⟩ | ⟨rfl, rfl, hq'⟩
      all_goals
        gi_wp2
        refine wpIn_region_quiet_round (by kernel_rfl) (by kernel_rfl) (by kernel_rfl) ?_
        repeat (quiet_step (fail))
        refine wpQuiet_nil ?_
        intro _ hw'
        obtain ⟨nq, hw''⟩ := hw'
        subst hw''
        gi_wp2
        exact ⟨(ext1.out nq).trans ((KeepsOthers.setCell _ _ _).from _), .inr ⟨rfl, pre, _, rfl, hbad.out⟩⟩
  · rintro W' ⟨⟨bk1, hQB1⟩, hlv⟩
    rw [hl.out] at bk1 hlv
    exact ⟨l, ⟨bk1, hQB1⟩, by unfold mnI; split <;> omega⟩
  · rintro pre W' hpre ⟨⟨bk1, hQB1⟩, h1, h2⟩
    have h3 := hpre.length_le
    rw [hl.out] at h3
    exact ⟨pre.length, ⟨bk1, hQB1⟩, by unfold mnI; split <;> omega⟩
  · rintro D W1 hD ⟨kk, ⟨bk1, hQB1⟩, hkk⟩ hKD
    clear bk hQB
    have k0 := bk1.cell 0 rfl
    have k1 := bk1.frozen 0
    have z15 := hQB1.b15.cell 0 rfl
    have m5 := hQB1.b5.cell 0 rfl
    have hDk : D ≠ pk := by omega
    replace bk1 := Lib.hid bk1
    replace hQB1 := Lib.hid hQB1
    replace hKD := Lib.hid hKD
    have hkk' : (lv < 1 ∧ l = kk) ∨ (¬ lv < 1 ∧ 1 ≤ lv ∧ mnI lv l = (kk : Int)) := by omega
    clear hkk
    rcases hkk' with ⟨j1, rfl⟩ | ⟨j0, j1, j2⟩
    all_goals
      go_wp2_with fail
      refine (wpIn_wide (n := 9)).1 ?_
      refine each_range2 (n := 9) (s := 102) (v := 19) (lim := pk) (id := 2) (by omega) (u1 := p16) (u2 := p17) (fun k => k = pk) rfl (by rintro k rfl; simp; exact hQB1.out.lt) (hQB1.out.set 0 _).b16 (hQB1.out.set 0 _).b17
        (fun pre W' => (Blk W' pk [.int .i64 pre.length] 3 ∧ QB w W' w.heap.size p5 p6 p15 p16 p17 pk x y z a b c lv va vc l (boxPts x y z a b c)) ∧ W'.heap[D]? = some (.deferred (some [])))
        (fun _ _ => False)
        (OwnFrom.and (OwnFrom.and (blk_own (fun pre => [.int .i64 pre.length])) (QB.own hp3.out (by have h := (Array.getElem?_eq_some_iff.1 hKD.out).1; simp; omega))) (fun s X Y row h hg hr' => (hg.block D (Array.getElem?_eq_some_iff.1 h).1 (fun e => by have h1 := (hr' D e.symm).1; have h2 := (Array.getElem?_eq_some_iff.1 hKD.out).1; simp at h1; omega)).trans h))
        (fun _ _ _ _ h _ _ => h)
        ⟨⟨bk1.out.set 0 _, hQB1.out.set 0 _⟩, (Below.heap_setCell W1 ⟨pk, 0, none⟩ _ D hDk).trans hKD.out⟩
        (fun W' => (Blk W' pk [.int .i64 l] 3 ∧ QB w W' w.heap.size p5 p6 p15 p16 p17 pk x y z a b c lv va vc l (boxPts x y z a b c)) ∧ W'.heap[D]? = some (.deferred (some []))) (fun _ _ h => h.elim) ?_ ?_ ?_ ?_ ?_
      · rintro lr pre ⟨q0, q1, q2⟩ W' K ⟨⟨bk, hQB⟩, hlv⟩ hK
        have hk2 := bk.lt
        replace bk := Lib.hid bk
        replace hQB := Lib.hid hQB
        replace hlv := Lib.hid hlv
        gi_wp2
        exact hK _ _ ((KeepsOthers.alloc _ _).from _) ((KpS.refl _ _).alloc _) ⟨⟨bk.out.alloc _, hQB.out.alloc _⟩, (Below.heap_alloc W' _ D (Array.getElem?_eq_some_iff.1 hlv.out).1).trans hlv.out⟩ ⟨W'.heap.size, hk2, Blk.new W' _ _, rfl⟩
      · rintro lr pre ⟨q0, q1, q2⟩ a' W' hlw hr HI ⟨Bx, hBx, bx, rfl⟩ hlen
        obtain ⟨⟨bk, hQB⟩, hlv⟩ := HI
        simp only [List.setIfInBounds_toArray, List.set_cons_succ, List.set_cons_zero]
        obtain ⟨kk, hkk⟩ : ∃ k, pre.length = k := ⟨_, rfl⟩
        rw [hkk] at hlen bk
        rw [hl.out] at hlen
        obtain ⟨⟨p0, p1, p2⟩, hp⟩ : ∃ q, (boxPts x y z a b c)[kk]? = some q := ⟨_, List.getElem?_eq_getElem (by rw [hl.out]; exact hlen)⟩
        obtain ⟨g, cs, rfl, hg, bg, c0, c1, c2⟩ := hQB.row _ _ hp
        simp only at c0 c1 c2
        have x0 := bx.cell 0 rfl
        have x1 := bx.cell 1 rfl
        have x2 := bx.cell 2 rfl
        have y0 := bg.cell _ c0
        have y1 := bg.cell _ c1
        have y2 := bg.cell _ c2
        have k0 := bk.cell 0 rfl
        have k1 := bk.frozen 0
        have z15 := hQB.b15.cell 0 rfl
        have m5 := hQB.b5.cell 0 rfl
        have m6 := hQB.b6.cell 0 rfl
        have f6 := hQB.b6.frozen 0
        have v1 : IntKind.i64.wrap ((kk : Int) + 1) = (kk : Int) + 1 := IntWalk.i64_in _ (by omega)
        have e1 : (((pre ++ [(q0, q1, q2)]).length : Nat) : Int) = (kk : Int) + 1 := by rw [List.length_append, hkk]; simp
        have hkl : ¬ (l : Int) ≤ (kk : Int) := by omega
        have hne5 : ¬ p5 = pk := by have := hQB.ord; omega
        have ext1 : ∀ k, KeepsFrom (W1.setCell ⟨pk, 0, none⟩ (.int .i64 0)).heap.size W' (W'.drewN k) := fun k => ⟨Nat.le_refl _, fun _ _ _ h _ => h⟩
        have ext2 : ∀ k, KpS (fun j => j = pk) W' (W'.drewN k) := fun k => ⟨Nat.le_refl _, fun _ _ h _ _ => h⟩
        replace e1 := Lib.hid e1
        replace hkk := Lib.hid hkk
        replace hp := Lib.hid hp
        replace hlv := Lib.hid hlv
        replace bk := Lib.hid bk
        replace hQB := Lib.hid hQB
        replace ext1 := Lib.hid ext1
        replace ext2 := Lib.hid ext2
        clear bx bg c0 c1 c2 hle
        by_cases hq : p0 = q0 ∧ p1 = q1 ∧ p2 = q2
        · obtain ⟨rfl, rfl, rfl⟩ := hq
          gi_wp2
          refine wpIn_region_quiet_round (by kernel_rfl) (by kernel_rfl) (by kernel_rfl) ?_
          repeat (quiet_step (fail))
          refine wpQuiet_nil ?_
          intro _ hw'
          obtain ⟨nq, hw''⟩ := hw'
          subst hw''
          gi_wp2
          have hDk : D ≠ pk := by have h := (Array.getElem?_eq_some_iff.1 hlv.out).1; intro e; rw [e] at hlv; have h2 := hlv.out; have h3 := bk.out; unfold Blk at h3; rw [h3] at h2; cases h2
          exact ⟨(ext1.out nq).trans ((KeepsOthers.setCell _ _ _).from _), (ext2.out nq).trans ((KpS.refl _ _).set _ rfl), ⟨by rw [e1.out]; exact (bk.out.drewN nq).set 0 _, (hQB.out.drewN nq).set 0 _⟩, (Below.heap_setCell (W'.drewN nq) ⟨pk, 0, none⟩ _ D hDk).trans hlv.out⟩
        · have hq' : ¬ q0 = p0 ∨ (q0 = p0 ∧ ¬ q1 = p1) ∨ (q0 = p0 ∧ q1 = p1 ∧ ¬ q2 = p2) := by omega
          have hbad : (boxPts x y z a b c)[pre.length]? ≠ some (q0, q1, q2) := fun e => by
            rw [hkk.out, hp.out] at e
            simp only [Option.some.injEq, Prod.mk.injEq] at e
            exact hq e
          replace hbad := Lib.hid hbad
          clear hq
          rcases hq' with hq' | ⟨rfl, hq'⟩ | ⟨rfl, rfl, hq'⟩
          all_goals
            gi_wp2
            refine wpIn_region_quiet_round (by kernel_rfl) (by kernel_rfl) (by kernel_rfl) ?_
            repeat (quiet_step (fail))
            refine wpQuiet_nil ?_
            intro _ hw'
            obtain ⟨nq, hw''⟩ := hw'
            subst hw''
            gi_wp2
            exact ⟨(ext1.out nq).trans ((KeepsOthers.setCell _ _ _).from _), .inr ⟨rfl, pre, _, rfl, hbad.out⟩⟩
      · rintro W' ⟨⟨bk2, hQB2⟩, h2⟩
        rw [hl.out] at bk2
        exact ⟨⟨bk2, hQB2⟩, h2⟩
      · intro _ _ _ h
        exact h.elim
      · rintro D2 W2 hD2 ⟨⟨bk2, hQB2⟩, hKD2⟩ hK2
        have k0 := bk2.cell 0 rfl
        have z15 := hQB2.b15.cell 0 rfl
        have hDl2 := (Array.getElem?_eq_some_iff.1 hK2).1
        have hDl := (Array.getElem?_eq_some_iff.1 hKD2).1
        have hDD : D ≠ D2 := by have h := (Array.getElem?_eq_some_iff.1 hKD.out).1; simp at hD2; omega
        have hD6 : D ≠ p6 := by omega
        have hD26 : D2 ≠ p6 := by simp at hD2; have h := (Array.getElem?_eq_some_iff.1 hKD.out).1; omega
        have hww : w.heap.size ≤ D := by have := hp3.out; omega
        have hww2 : w.heap.size ≤ D2 := by simp at hD2; have h := (Array.getElem?_eq_some_iff.1 hKD.out).1; omega
        replace hQB2 := Lib.hid hQB2
        replace hK2 := Lib.hid hK2
        replace hKD2 := Lib.hid hKD2
        clear bk2 hQB1 bk1
        go_wp2_with fail
        refine (works_calls _).mono ?_
        rintro e w5 ⟨rfl, hb5⟩
        have PH5 := Lib.hid (hQB2.out.down hb5)
        have c65 := PH5.out.b6.cell 0 rfl
        have f65 := PH5.out.b6.frozen 0
        replace hb5 := Lib.hid hb5
        go_wp2_with fail
        have hK5 := (hb5.out.block D2 hDl2).trans hK2.out
        have hK' := (Below.heap_setCell w5 ⟨p6, 0, none⟩ (.bool true) D2 hD26).trans hK5
        have hL5 := (hb5.out.block D hDl).trans hKD2.out
        have hL' := (Below.heap_setCell w5 ⟨p6, 0, none⟩ (.bool true) D hD6).trans hL5
        have hL'' : ((w5.setCell ⟨p6, 0, none⟩ (.bool true)).putObj D2 (.deferred none)).heap[D]? = some (.deferred (some [])) := (World.putObj_heap_other hDD).trans hL'
        refine ⟨by simp, .inl ⟨_, _, rfl, run_takeDeferred hK', ⟨by simp, .inl ⟨_, _, rfl, run_takeDeferred hL'', ?_⟩⟩⟩⟩
        have hc5 := cell_kept (World.cell?_setCell_same' w5 ⟨p6, 0, none⟩ (.bool true) (by rw [c65]; rfl)) (grownBy_putObj' _ D2 (.deferred none)) (fun r e => by cases e; exact ⟨_, hK', rfl⟩)
        have hc6 := cell_kept hc5 (grownBy_putObj' _ D (.deferred none)) (fun r e => by cases e; exact ⟨_, hL'', rfl⟩)
        refine ⟨.bool true, ?_, rfl, ?_⟩
        · simp [results, Try.f7, go_sem, hc6]
        · exact ((PH5.out.below.setCell (p := ⟨p6, 0, none⟩) (show w.heap.size ≤ p6 by omega) (.bool true)).trans (belowK_b (w := w) hp3.out _ D2 _ (.deferred none) hww2 hK' rfl rfl)).trans (belowK_b (w := w) hp3.out _ D _ (.deferred none) hww hL'' rfl rfl)
end Go.Proofs.Ytjodiclmibiboaa
