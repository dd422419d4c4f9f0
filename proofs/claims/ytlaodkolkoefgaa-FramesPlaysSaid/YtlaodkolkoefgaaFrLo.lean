/-
  The law's looks: a frame tells what the document's chunk tells.
-/
import Derived.Test.YtlaodkolkoefgaaFrDo1
import Derived.Test.YtlaodkolkoefgaaStagG
namespace Go.Proofs.Ytlaodkolkoefgaa
open Go.RowKit
set_option linter.unusedSimpArgs false
set_option linter.unusedVariables false

/-- A call that looks at both pools, and changes neither. -/
def Look (w : World) (B : Bx) (s : FS) (r : RS) (fn : FuncId) (args : Array Value) (v : Value) : Prop := ∀ W, Pr w W B s r → Calls Try.prog fn args W fun e w' => e = .returned v ∧ Pr w w' B s r ∧ Below W.heap.size W w'
section
variable {w W : World} {B : Bx} {s : FS} {r : RS}
theorem look_cell (hl : Ld B.n s r) (f i : Int) : ∃ x y : Int, Look w B s r 17 #[.pointer (some ⟨B.pb, 0, none⟩), .int .i64 f, .int .i64 i] (.agg #[.int .u8 x, .int .u8 y]) ∧ Look w B s r 51 #[.pointer (some ⟨B.qb, 0, none⟩), .int .i64 f, .int .i64 i] (.agg #[.int .u8 x, .int .u8 y]) :=
  ⟨(atP B.n s.ce f i).1, (atP B.n s.ce f i).2, fun W h => (h.F.cell f i).mono fun _ _ ⟨he, _, hb⟩ => ⟨he, h.keep hb, hb⟩, fun W h => (rcell_calls _ _ _ _ _ _ _ _ _ _ f i W h.R).mono fun _ _ ⟨he, hb⟩ => ⟨by rw [he, hl.l.atC], h.keep hb, hb⟩⟩
theorem look_light (hl : Ld B.n s r) (f i : Int) : ∃ x y : Int, Look w B s r 52 #[.pointer (some ⟨B.pb, 0, none⟩), .int .i64 f, .int .i64 i] (.agg #[.int .u8 x, .int .u8 y]) ∧ Look w B s r 53 #[.pointer (some ⟨B.qb, 0, none⟩), .int .i64 f, .int .i64 i] (.agg #[.int .u8 x, .int .u8 y]) :=
  ⟨(atP B.n s.li f i).1, (atP B.n s.li f i).2, fun W h => (h.F.light f i).mono fun _ _ ⟨he, _, hb⟩ => ⟨he, h.keep hb, hb⟩, fun W h => (rlight_calls _ _ _ _ _ _ _ _ _ _ f i W h.R).mono fun _ _ ⟨he, hb⟩ => ⟨by rw [he, hl.l.atL], h.keep hb, hb⟩⟩
theorem look_used (hl : Ld B.n s r) : ∃ x : Int, Look w B s r 24 #[.pointer (some ⟨B.pb, 0, none⟩)] (.int .i64 x) ∧ Look w B s r 57 #[.pointer (some ⟨B.qb, 0, none⟩)] (.int .i64 x) :=
  ⟨(usedN s.tk B.n : Nat), fun W h => h.F.used.mono fun _ _ ⟨he, _, hb⟩ => ⟨he, h.keep hb, hb⟩, fun W h => (rused_calls _ _ _ _ _ _ _ _ _ _ W h.R).mono fun _ _ ⟨he, hw⟩ => ⟨by rw [he, hl.tk], by rw [hw]; exact h, by rw [hw]; exact Below.refl _ _⟩⟩
/-- A frame's ticks, as the document has them. -/
def tkL (n : Nat) (T : Nat → List Tk) (f : Int) : List Tk := if 0 ≤ f ∧ f < n then T f.toNat else []
theorem tkL_len (hl : Ld B.n s r) (f : Int) : (tkL B.n r.T f).length ≤ 4096 := by
  unfold tkL
  split
  · exact hl.l.len (by omega)
  · exact Nat.zero_le _
theorem look_due (hd : ∀ c, 0 ≤ s.du c) (hl : Ld B.n s r) (f i : Int) : Look w B s r 18 #[.pointer (some ⟨B.pb, 0, none⟩), .int .i64 f, .int .i64 i] (.int .i64 (if 0 ≤ i ∧ i < 4096 then dueL (tkL B.n r.T f) i else 0)) :=
  fun W h => (h.F.due f i).mono fun _ _ ⟨he, _, hb⟩ => ⟨by rw [he, hl.l.due hd]; rfl, h.keep hb, hb⟩
theorem look_least (hl : Ld B.n s r) (f : Int) : Look w B s r 22 #[.pointer (some ⟨B.pb, 0, none⟩), .int .i64 f] (.int .i64 (leastL (tkL B.n r.T f))) :=
  fun W h => (h.F.least f (hl.l.tickF f)).mono fun _ _ ⟨he, _, hb⟩ => ⟨he, h.keep hb, hb⟩
theorem look_ready (hl : Ld B.n s r) (f now : Int) : ∃ rs : List Tk, (∀ W, Pr w W B s r → Calls Try.prog 21 #[.pointer (some ⟨B.pb, 0, none⟩), .int .i64 f, .int .i64 now] W fun e w' => ∃ v, e = .returned v ∧ TRow w' v rs ∧ Below W.heap.size W w') ∧ ∀ W v, TRow W v (tkL B.n r.T f) → Calls Try.prog 56 #[v, .int .i64 now] W fun e w' => ∃ v, e = .returned v ∧ TRow w' v rs ∧ Below W.heap.size W w' := by
  by_cases hex : ∃ rs : List Tk, rs.Perm ((tkL B.n r.T f).filter (dueF now)) ∧ rs.Pairwise (fun x y => ltR y x = false)
  · obtain ⟨rs, hp, hs⟩ := hex
    refine ⟨rs, fun W h => (h.F.ready f now (hl.l.tickF f)).mono fun _ _ ⟨v, rs', he, ht, hp', hs', _, hb⟩ => ⟨v, he, ?_, hb⟩, fun W v ht => (rready_calls v _ now W ht (by have := tkL_len hl f; omega)).mono fun _ _ ⟨v, rs', he, ht, hb, hp', hs'⟩ => ⟨v, he, ?_, hb⟩⟩
    · rw [← sorted_perm_eq ltR_eq rs' rs hs' hs (List.Perm.trans hp' hp.symm)]; exact ht
    · rw [← sorted_perm_eq ltR_eq rs' rs hs' hs (List.Perm.trans hp' hp.symm)]; exact ht
  · refine ⟨[], fun W h => (h.F.ready f now (hl.l.tickF f)).mono fun _ _ ⟨v, rs', he, ht, hp', hs', _, hb⟩ => absurd ⟨rs', hp', hs'⟩ hex, fun W v ht => (rready_calls v _ now W ht (by have := tkL_len hl f; omega)).mono fun _ _ ⟨v, rs', he, ht, hb, hp', hs'⟩ => absurd ⟨rs', hp', hs'⟩ hex⟩
/-- The worlds of looks' last region. -/
def lookC (w0 : World) (rs : List Tk) (u : Nat → Value) (s : Nat) (W : World) : Prop := Below w0.heap.size w0 W ∧ (8 ≤ s → TRow W (u 7) rs) ∧ (9 ≤ s → TRow W (u 8) rs)
def lookV (vc vl vd ve vu : Value) (s : Nat) (v : Value) : Prop := match s with
  | 0 => v = vc
  | 1 => v = vc
  | 2 => v = vl
  | 3 => v = vl
  | 4 => v = vd
  | 5 => v = ve
  | 6 => v = ve
  | 7 => ∃ b n c, v = .slice b n c
  | 8 => ∃ b n c, v = .slice b n c
  | 9 => v = .bool true
  | 10 => v = vu
  | 11 => v = vu
  | _ => True
theorem lookV_some (vc vl vd ve vu : Value) (s : Nat) : ∃ v, lookV vc vl vd ve vu s v := match s with
  | 0 => ⟨_, rfl⟩
  | 1 => ⟨_, rfl⟩
  | 2 => ⟨_, rfl⟩
  | 3 => ⟨_, rfl⟩
  | 4 => ⟨_, rfl⟩
  | 5 => ⟨_, rfl⟩
  | 6 => ⟨_, rfl⟩
  | 7 => ⟨_, none, 0, 0, rfl⟩
  | 8 => ⟨_, none, 0, 0, rfl⟩
  | 9 => ⟨_, rfl⟩
  | 10 => ⟨_, rfl⟩
  | 11 => ⟨_, rfl⟩
  | _ + 12 => ⟨undef, trivial⟩
theorem lookC_cong {w0 : World} {rs : List Tk} (u u' : Nat → Value) (s : Nat) (W : World) (hu : ∀ j, j < s → u j = u' j) (h : lookC w0 rs u s W) : lookC w0 rs u' s W :=
  ⟨h.1, fun hs => by rw [← hu 7 (by omega)]; exact h.2.1 hs, fun hs => by rw [← hu 8 (by omega)]; exact h.2.2 hs⟩
/-- A call whose result no row is. -/
theorem lookC.step {w0 W W' : World} {rs : List Tk} {u : Nat → Value} {s : Nat} {v : Value} (h : lookC w0 rs u s W) (hs : s ≠ 7 ∧ s ≠ 8) (hb : Below W.heap.size W W') : lookC w0 rs (setU u s v) (s + 1) W' :=
  ⟨h.1.trans (hb.mono h.1.size), fun h8 => by rw [setU_other (by omega)]; exact TRow.keep (h.2.1 (by omega)) hb, fun h9 => by rw [setU_other (by omega)]; exact TRow.keep (h.2.2 (by omega)) hb⟩
theorem lookC.ready1 {w0 W W' : World} {rs : List Tk} {u : Nat → Value} {v : Value} (h : lookC w0 rs u 7 W) (hv : TRow W' v rs) (hb : Below W.heap.size W W') : lookC w0 rs (setU u 7 v) 8 W' :=
  ⟨h.1.trans (hb.mono h.1.size), fun _ => by rw [setU_same]; exact hv, fun h9 => absurd h9 (by omega)⟩
theorem lookC.ready2 {w0 W W' : World} {rs : List Tk} {u : Nat → Value} {v : Value} (h : lookC w0 rs u 8 W) (hv : TRow W' v rs) (hb : Below W.heap.size W W') : lookC w0 rs (setU u 8 v) 9 W' :=
  ⟨h.1.trans (hb.mono h.1.size), fun _ => by rw [setU_other (by omega)]; exact TRow.keep (h.2.1 (by omega)) hb, fun _ => by rw [setU_same]; exact hv⟩
set_option maxRecDepth 100000 in
set_option maxHeartbeats 8000000 in
theorem looks_in (k f a c0 c1 l0 l1 d : Int) (se st : Value) (W : World) (h : Pr w W B s r) (hl : Ld B.n s r) (ha : 0 ≤ a ∧ a < 4096)
    (hse : ∃ b n c, se = .slice b n c) (hst : ∃ b n c, st = .slice b n c) :
    Calls Try.prog 27 #[.pointer (some ⟨B.pb, 0, none⟩), .pointer (some ⟨B.qb, 0, none⟩), .agg (actC k f a c0 c1 l0 l1 d se st).toArray] W fun e w' => e = .returned (.bool true) ∧ Pr w w' B s r := by
  have hdd : ∀ c, 0 ≤ s.du c := fun c => (h.F.1.dub c).1
  obtain ⟨eb, en, ec, rfl⟩ := hse
  obtain ⟨tb', tn, tc, rfl⟩ := hst
  have hbk := Blk.new W (actC k f a c0 c1 l0 l1 d (.slice eb en ec) (.slice tb' tn tc)).toArray 67
  rw [List.toList_toArray] at hbk
  have h1 := h.keep ((Below.refl W.heap.size W).alloc (Nat.le_refl _) (.cells (actC k f a c0 c1 l0 l1 d (.slice eb en ec) (.slice tb' tn tc)).toArray 67))
  obtain ⟨ab, hab⟩ : ∃ ab, W.heap.size = ab := ⟨_, rfl⟩
  rw [hab] at hbk
  unfold actC at *
  obtain ⟨W1, hW1⟩ : ∃ W1, W.alloc (.cells #[.int .i64 k, .int .i64 f, .int .i64 a, .int .u8 c0, .int .u8 c1, .int .u8 l0, .int .u8 l1, .int .i64 d, .slice eb en ec, .slice tb' tn tc] 67) = W1 := ⟨_, rfl⟩
  rw [hW1] at hbk h1
  obtain ⟨cx, cy, hc1, hc2⟩ := look_cell (w := w) hl f a
  obtain ⟨lx, ly, hl1, hl2⟩ := look_light (w := w) hl f a
  obtain ⟨us, hu1, hu2⟩ := look_used (w := w) hl
  have hdu := look_due (w := w) hdd hl f a
  have hle := look_least (w := w) hl f
  obtain ⟨rs, hr1, hr2⟩ := look_ready (w := w) hl f d
  have htk := rticks_calls _ _ _ _ _ _ _ _ _ _ f W1 h1.R
  rw [if_pos ha] at hdu
  replace htk : Calls Try.prog 49 #[.pointer (some ⟨B.qb, 0, none⟩), .int .i64 f] W1 fun e w' => (∃ v, e = .returned v ∧ TRow w' v (tkL B.n r.T f)) ∧ w' = W1 := htk.mono fun _ _ ⟨⟨v, he, ht⟩, hw⟩ => ⟨⟨v, he, by rw [hw]; exact ht⟩, hw⟩
  generalize tkL B.n r.T f = ts at *
  have hle2 : ∀ W v, TRow W v ts → Calls Try.prog 54 #[v] W fun e w' => e = .returned (.int .i64 (leastL ts)) ∧ w' = W := fun W v h => rleast_calls v ts W h
  generalize leastL ts = le at *
  have hte : ∀ W v v', TRow W v rs → TRow W v' rs → Calls Try.prog 55 #[v, v'] W fun e w' => e = .returned (.bool true) ∧ ∃ q, w' = W.drewN q := fun W v v' h h' => by
    have := ticks_calls v v' rs rs W h h'
    rw [decide_eq_true rfl] at this
    exact this
  have hdc : ∀ W v, TRow W v ts → Calls Try.prog 50 #[v, .int .i64 a] W fun e w' => e = .returned (.int .i64 (dueL ts a)) ∧ w' = W := fun W v h => rdue_calls v ts a W h
  generalize dueL ts a = du at *
  replace hdc := Lib.hid hdc
  have g1 : decide (0 ≤ a) = true := decide_eq_true ha.1
  have g2 : decide (a < 4096) = true := decide_eq_true ha.2
  replace hc1 := Lib.hid hc1
  replace hc2 := Lib.hid hc2
  replace hl1 := Lib.hid hl1
  replace hl2 := Lib.hid hl2
  replace hu1 := Lib.hid hu1
  replace hu2 := Lib.hid hu2
  replace hdu := Lib.hid hdu
  replace hle := Lib.hid hle
  replace hr1 := Lib.hid hr1
  replace hr2 := Lib.hid hr2
  replace hle2 := Lib.hid hle2
  replace hte := Lib.hid hte
  replace htk := Lib.hid htk
  have x1 := hbk.cell 1 rfl
  have x2 := hbk.cell 2 rfl
  have x7 := hbk.cell 7 rfl
  have hk0 := Lib.hid hbk
  have hp0 := Lib.hid h1
  clear h hl h1 hbk hdd ha
  go_enter Try.func27, Try.ntmps27
  go_wp2_with fail
  refine htk.out.mono ?_
  rintro e w1' ⟨⟨v, rfl, ht⟩, rfl⟩
  obtain ⟨vb, vc, rfl, -⟩ := ht.open
  have hts := Lib.hid ht
  clear ht htk
  go_wp2_with fail
  refine (hdc.out _ _ hts.out).mono ?_
  rintro e w1' ⟨rfl, rfl⟩
  go_upto_region 5 with fail
  have hpw := fun W (hb : Below w1'.heap.size w1' W) => hp0.out.keep hb
  have htw := fun W (hb : Below w1'.heap.size w1' W) => TRow.keep hts.out hb
  have hkw := fun W (hb : Below w1'.heap.size w1' W) => hk0.out.below hb hk0.out.lt
  replace hpw := Lib.hid hpw
  replace htw := Lib.hid htw
  replace hkw := Lib.hid hkw
  clear x1 x2 x7
  obtain ⟨CC, hCC⟩ : ∃ C, C = lookC w1' rs := ⟨_, rfl⟩
  have hblk : ∀ u N W, AnyStage (CC u) N W → Blk W ab [.int .i64 k, .int .i64 f, .int .i64 a, .int .u8 c0, .int .u8 c1, .int .u8 l0, .int .u8 l1, .int .i64 d, .slice eb en ec, .slice tb' tn tc] 67 := by
    rw [hCC]; exact fun u N W ⟨s, _, h⟩ => hkw.out W h.1
  replace hCC := Lib.hid hCC
  replace hblk := Lib.hid hblk
  refine wp_region_stageN [12, 12, 12, 12, 12, 12, 12, 12, 12, 12, 12, 12, 12, 12, 12, 12, 12, 12, 12, 12, 12, 12, 12, 12, 12, 12, 12, 12, 12, 12, 12, 12, 12, 12, 12, 12, 12, 12, 12, 12, 12, 12, 12, 12, 12, 12, 12, 12, 12, 12, 12, 12, 12, 12, 12, 12, 12, 12, 12, 12, 12, 12, 12, 12, 12, 12, 12, 12, 12, 12, 12, 12] (C := CC) (V := lookV (.agg #[.int .u8 cx, .int .u8 cy]) (.agg #[.int .u8 lx, .int .u8 ly]) (.int .i64 du) (.int .i64 le) (.int .i64 us)) (N := 12) (by kernel_rfl) (by kernel_rfl) (by kernel_rfl) (by kernel_rfl) (by kernel_rfl) (lookV_some _ _ _ _ _) (fun u u' s w h1 h2 => by rw [hCC.out] at *; exact lookC_cong u u' s w h1 h2) (fun _ => by rw [hCC.out]; exact ⟨(Below.refl _ _).drew, fun h => absurd h (by omega), fun h => absurd h (by omega)⟩) ?_
  intro u hu
  have e0 : u 0 = .agg #[.int .u8 cx, .int .u8 cy] := hu 0
  have e1 : u 1 = .agg #[.int .u8 cx, .int .u8 cy] := hu 1
  have e2 : u 2 = .agg #[.int .u8 lx, .int .u8 ly] := hu 2
  have e3 : u 3 = .agg #[.int .u8 lx, .int .u8 ly] := hu 3
  have e4 : u 4 = (.int .i64 du) := hu 4
  have e5 : u 5 = .int .i64 le := hu 5
  have e6 : u 6 = .int .i64 le := hu 6
  obtain ⟨b7, n7, c7', e7⟩ : ∃ b n c, u 7 = .slice b n c := hu 7
  obtain ⟨b8, n8, c8', e8⟩ : ∃ b n c, u 8 = .slice b n c := hu 8
  have e9 : u 9 = .bool true := hu 9
  have e10 : u 10 = .int .i64 us := hu 10
  have e11 : u 11 = .int .i64 us := hu 11
  have y1 : ∀ p : {w // AnyStage (CC u) 12 w}, p.val.cell? ⟨ab, 1, none⟩ = some (Value.int .i64 f) := fun p => (hblk.out _ _ _ p.property).cell 1 rfl
  have y2 : ∀ p : {w // AnyStage (CC u) 12 w}, p.val.cell? ⟨ab, 2, none⟩ = some (Value.int .i64 a) := fun p => (hblk.out _ _ _ p.property).cell 2 rfl
  have y7 : ∀ p : {w // AnyStage (CC u) 12 w}, p.val.cell? ⟨ab, 7, none⟩ = some (Value.int .i64 d) := fun p => (hblk.out _ _ _ p.property).cell 7 rfl
  have n2 : Nonempty {w // AnyStage (CC u) 12 w} := ⟨⟨w1'.drew, 0, by omega, by rw [hCC.out]; exact ⟨(Below.refl _ _).drew, fun h => absurd h (by omega), fun h => absurd h (by omega)⟩⟩⟩
  repeat (refine wpStageN_step rfl rfl (fun K hK => ?_); go_simp; refine hK _ ?_; clear hK K)
  refine wpStageN_call rfl rfl (fun w' hw' => ?_) ?_
  · rw [hCC.out] at hw'
    replace hw' := Lib.hid hw'
    unfold callAtU
    go_simp
    refine (hc1.out _ (hpw.out _ hw'.out.1)).mono ?_
    rintro e W2 ⟨rfl, _, hb⟩
    rw [hCC.out]
    exact ⟨_, rfl, rfl, hw'.out.step ⟨by omega, by omega⟩ hb⟩
  rw [e0]
  repeat (refine wpStageN_step rfl rfl (fun K hK => ?_); go_simp; refine hK _ ?_; clear hK K)
  refine wpStageN_call rfl rfl (fun w' hw' => ?_) ?_
  · rw [hCC.out] at hw'
    replace hw' := Lib.hid hw'
    unfold callAtU
    go_simp
    refine (hc2.out _ (hpw.out _ hw'.out.1)).mono ?_
    rintro e W2 ⟨rfl, _, hb⟩
    rw [hCC.out]
    exact ⟨_, rfl, rfl, hw'.out.step ⟨by omega, by omega⟩ hb⟩
  rw [e1]
  repeat (refine wpStageN_step rfl rfl (fun K hK => ?_); go_simp; refine hK _ ?_; clear hK K)
  refine wpStageN_call rfl rfl (fun w' hw' => ?_) ?_
  · rw [hCC.out] at hw'
    replace hw' := Lib.hid hw'
    unfold callAtU
    go_simp
    refine (hl1.out _ (hpw.out _ hw'.out.1)).mono ?_
    rintro e W2 ⟨rfl, _, hb⟩
    rw [hCC.out]
    exact ⟨_, rfl, rfl, hw'.out.step ⟨by omega, by omega⟩ hb⟩
  rw [e2]
  repeat (refine wpStageN_step rfl rfl (fun K hK => ?_); go_simp; refine hK _ ?_; clear hK K)
  refine wpStageN_call rfl rfl (fun w' hw' => ?_) ?_
  · rw [hCC.out] at hw'
    replace hw' := Lib.hid hw'
    unfold callAtU
    go_simp
    refine (hl2.out _ (hpw.out _ hw'.out.1)).mono ?_
    rintro e W2 ⟨rfl, _, hb⟩
    rw [hCC.out]
    exact ⟨_, rfl, rfl, hw'.out.step ⟨by omega, by omega⟩ hb⟩
  rw [e3]
  repeat (refine wpStageN_step rfl rfl (fun K hK => ?_); go_simp; refine hK _ ?_; clear hK K)
  refine wpStageN_call rfl rfl (fun w' hw' => ?_) ?_
  · rw [hCC.out] at hw'
    replace hw' := Lib.hid hw'
    unfold callAtU
    go_simp
    refine (hdu.out _ (hpw.out _ hw'.out.1)).mono ?_
    rintro e W2 ⟨rfl, _, hb⟩
    rw [hCC.out]
    exact ⟨_, rfl, rfl, hw'.out.step ⟨by omega, by omega⟩ hb⟩
  rw [e4]
  repeat (refine wpStageN_step rfl rfl (fun K hK => ?_); go_simp; refine hK _ ?_; clear hK K)
  refine wpStageN_call rfl rfl (fun w' hw' => ?_) ?_
  · rw [hCC.out] at hw'
    replace hw' := Lib.hid hw'
    unfold callAtU
    go_simp
    refine (hle.out _ (hpw.out _ hw'.out.1)).mono ?_
    rintro e W2 ⟨rfl, _, hb⟩
    rw [hCC.out]
    exact ⟨_, rfl, rfl, hw'.out.step ⟨by omega, by omega⟩ hb⟩
  rw [e5]
  repeat (refine wpStageN_step rfl rfl (fun K hK => ?_); go_simp; refine hK _ ?_; clear hK K)
  refine wpStageN_call rfl rfl (fun w' hw' => ?_) ?_
  · rw [hCC.out] at hw'
    replace hw' := Lib.hid hw'
    unfold callAtU
    go_simp
    refine (hle2.out _ _ (htw.out _ hw'.out.1)).mono ?_
    rintro e W2 ⟨rfl, rfl⟩
    rw [hCC.out]
    exact ⟨_, rfl, rfl, hw'.out.step ⟨by omega, by omega⟩ (Below.refl _ _)⟩
  rw [e6]
  repeat (refine wpStageN_step rfl rfl (fun K hK => ?_); go_simp; refine hK _ ?_; clear hK K)
  refine wpStageN_call rfl rfl (fun w' hw' => ?_) ?_
  · rw [hCC.out] at hw'
    replace hw' := Lib.hid hw'
    unfold callAtU
    go_simp
    refine (hr1.out _ (hpw.out _ hw'.out.1)).mono ?_
    rintro e W2 ⟨v1, rfl, ha1, hb⟩
    obtain ⟨vb1, vc1, e1', _⟩ := ha1.open
    rw [hCC.out]
    exact ⟨_, rfl, ⟨_, _, _, e1'⟩, hw'.out.ready1 ha1 hb⟩
  rw [e7]
  repeat (refine wpStageN_step rfl rfl (fun K hK => ?_); go_simp; refine hK _ ?_; clear hK K)
  refine wpStageN_call rfl rfl (fun w' hw' => ?_) ?_
  · rw [hCC.out] at hw'
    replace hw' := Lib.hid hw'
    unfold callAtU
    go_simp
    refine (hr2.out _ _ (htw.out _ hw'.out.1)).mono ?_
    rintro e W2 ⟨v1, rfl, ha1, hb⟩
    obtain ⟨vb1, vc1, e1', _⟩ := ha1.open
    rw [hCC.out]
    exact ⟨_, rfl, ⟨_, _, _, e1'⟩, hw'.out.ready2 ha1 hb⟩
  rw [e8]
  repeat (refine wpStageN_step rfl rfl (fun K hK => ?_); go_simp; refine hK _ ?_; clear hK K)
  refine wpStageN_call rfl rfl (fun w' hw' => ?_) ?_
  · rw [hCC.out] at hw'
    replace hw' := Lib.hid hw'
    have q1 := hw'.out.2.1 (by omega)
    have q2 := hw'.out.2.2 (by omega)
    rw [e7] at q1
    rw [e8] at q2
    have hq := hte.out _ _ _ q1 q2
    replace hq := Lib.hid hq
    clear q1 q2
    unfold callAtU
    go_simp
    refine hq.out.mono ?_
    rintro e W2 ⟨rfl, q, rfl⟩
    rw [hCC.out]
    exact ⟨_, rfl, rfl, hw'.out.step ⟨by omega, by omega⟩ (below_drewN (Below.refl _ _) q)⟩
  rw [e9]
  repeat (refine wpStageN_step rfl rfl (fun K hK => ?_); go_simp; refine hK _ ?_; clear hK K)
  refine wpStageN_call rfl rfl (fun w' hw' => ?_) ?_
  · rw [hCC.out] at hw'
    replace hw' := Lib.hid hw'
    unfold callAtU
    go_simp
    refine (hu1.out _ (hpw.out _ hw'.out.1)).mono ?_
    rintro e W2 ⟨rfl, _, hb⟩
    rw [hCC.out]
    exact ⟨_, rfl, rfl, hw'.out.step ⟨by omega, by omega⟩ hb⟩
  rw [e10]
  repeat (refine wpStageN_step rfl rfl (fun K hK => ?_); go_simp; refine hK _ ?_; clear hK K)
  refine wpStageN_call rfl rfl (fun w' hw' => ?_) ?_
  · rw [hCC.out] at hw'
    replace hw' := Lib.hid hw'
    unfold callAtU
    go_simp
    refine (hu2.out _ (hpw.out _ hw'.out.1)).mono ?_
    rintro e W2 ⟨rfl, _, hb⟩
    rw [hCC.out]
    exact ⟨_, rfl, rfl, hw'.out.step ⟨by omega, by omega⟩ hb⟩
  rw [e11]
  repeat (refine wpStageN_step rfl rfl (fun K hK => ?_); go_simp; refine hK _ ?_; clear hK K)
  refine wpStageN_nil ?_
  intro w' hw'
  rw [hCC.out] at hw'
  have hz := hpw.out _ hw'.1
  replace hz := Lib.hid hz
  clear y1 y2 y7 n2 hw'
  go_wp2_with fail
  go_ret
  exact ⟨rfl, hz.out⟩
set_option maxRecDepth 100000 in
set_option maxHeartbeats 8000000 in
theorem looks_low (k f a c0 c1 l0 l1 d : Int) (se st : Value) (W : World) (h : Pr w W B s r) (hl : Ld B.n s r) (ha : a < 0)
    (hse : ∃ b n c, se = .slice b n c) (hst : ∃ b n c, st = .slice b n c) :
    Calls Try.prog 27 #[.pointer (some ⟨B.pb, 0, none⟩), .pointer (some ⟨B.qb, 0, none⟩), .agg (actC k f a c0 c1 l0 l1 d se st).toArray] W fun e w' => e = .returned (.bool true) ∧ Pr w w' B s r := by
  have hdd : ∀ c, 0 ≤ s.du c := fun c => (h.F.1.dub c).1
  obtain ⟨eb, en, ec, rfl⟩ := hse
  obtain ⟨tb', tn, tc, rfl⟩ := hst
  have hbk := Blk.new W (actC k f a c0 c1 l0 l1 d (.slice eb en ec) (.slice tb' tn tc)).toArray 67
  rw [List.toList_toArray] at hbk
  have h1 := h.keep ((Below.refl W.heap.size W).alloc (Nat.le_refl _) (.cells (actC k f a c0 c1 l0 l1 d (.slice eb en ec) (.slice tb' tn tc)).toArray 67))
  obtain ⟨ab, hab⟩ : ∃ ab, W.heap.size = ab := ⟨_, rfl⟩
  rw [hab] at hbk
  unfold actC at *
  obtain ⟨W1, hW1⟩ : ∃ W1, W.alloc (.cells #[.int .i64 k, .int .i64 f, .int .i64 a, .int .u8 c0, .int .u8 c1, .int .u8 l0, .int .u8 l1, .int .i64 d, .slice eb en ec, .slice tb' tn tc] 67) = W1 := ⟨_, rfl⟩
  rw [hW1] at hbk h1
  obtain ⟨cx, cy, hc1, hc2⟩ := look_cell (w := w) hl f a
  obtain ⟨lx, ly, hl1, hl2⟩ := look_light (w := w) hl f a
  obtain ⟨us, hu1, hu2⟩ := look_used (w := w) hl
  have hdu := look_due (w := w) hdd hl f a
  have hle := look_least (w := w) hl f
  obtain ⟨rs, hr1, hr2⟩ := look_ready (w := w) hl f d
  have htk := rticks_calls _ _ _ _ _ _ _ _ _ _ f W1 h1.R
  rw [if_neg (by omega)] at hdu
  replace htk : Calls Try.prog 49 #[.pointer (some ⟨B.qb, 0, none⟩), .int .i64 f] W1 fun e w' => (∃ v, e = .returned v ∧ TRow w' v (tkL B.n r.T f)) ∧ w' = W1 := htk.mono fun _ _ ⟨⟨v, he, ht⟩, hw⟩ => ⟨⟨v, he, by rw [hw]; exact ht⟩, hw⟩
  generalize tkL B.n r.T f = ts at *
  have hle2 : ∀ W v, TRow W v ts → Calls Try.prog 54 #[v] W fun e w' => e = .returned (.int .i64 (leastL ts)) ∧ w' = W := fun W v h => rleast_calls v ts W h
  generalize leastL ts = le at *
  have hte : ∀ W v v', TRow W v rs → TRow W v' rs → Calls Try.prog 55 #[v, v'] W fun e w' => e = .returned (.bool true) ∧ ∃ q, w' = W.drewN q := fun W v v' h h' => by
    have := ticks_calls v v' rs rs W h h'
    rw [decide_eq_true rfl] at this
    exact this
  have g1 : decide (0 ≤ a) = false := by simp; omega
  replace hc1 := Lib.hid hc1
  replace hc2 := Lib.hid hc2
  replace hl1 := Lib.hid hl1
  replace hl2 := Lib.hid hl2
  replace hu1 := Lib.hid hu1
  replace hu2 := Lib.hid hu2
  replace hdu := Lib.hid hdu
  replace hle := Lib.hid hle
  replace hr1 := Lib.hid hr1
  replace hr2 := Lib.hid hr2
  replace hle2 := Lib.hid hle2
  replace hte := Lib.hid hte
  replace htk := Lib.hid htk
  have x1 := hbk.cell 1 rfl
  have x2 := hbk.cell 2 rfl
  have x7 := hbk.cell 7 rfl
  have hk0 := Lib.hid hbk
  have hp0 := Lib.hid h1
  clear h hl h1 hbk hdd ha
  go_enter Try.func27, Try.ntmps27
  go_wp2_with fail
  refine htk.out.mono ?_
  rintro e w1' ⟨⟨v, rfl, ht⟩, rfl⟩
  obtain ⟨vb, vc, rfl, -⟩ := ht.open
  have hts := Lib.hid ht
  clear ht htk
  go_wp2_with fail
  go_upto_region 5 with fail
  have hpw := fun W (hb : Below w1'.heap.size w1' W) => hp0.out.keep hb
  have htw := fun W (hb : Below w1'.heap.size w1' W) => TRow.keep hts.out hb
  have hkw := fun W (hb : Below w1'.heap.size w1' W) => hk0.out.below hb hk0.out.lt
  replace hpw := Lib.hid hpw
  replace htw := Lib.hid htw
  replace hkw := Lib.hid hkw
  clear x1 x2 x7
  obtain ⟨CC, hCC⟩ : ∃ C, C = lookC w1' rs := ⟨_, rfl⟩
  have hblk : ∀ u N W, AnyStage (CC u) N W → Blk W ab [.int .i64 k, .int .i64 f, .int .i64 a, .int .u8 c0, .int .u8 c1, .int .u8 l0, .int .u8 l1, .int .i64 d, .slice eb en ec, .slice tb' tn tc] 67 := by
    rw [hCC]; exact fun u N W ⟨s, _, h⟩ => hkw.out W h.1
  replace hCC := Lib.hid hCC
  replace hblk := Lib.hid hblk
  refine wp_region_stageN [12, 12, 12, 12, 12, 12, 12, 12, 12, 12, 12, 12, 12, 12, 12, 12, 12, 12, 12, 12, 12, 12, 12, 12, 12, 12, 12, 12, 12, 12, 12, 12, 12, 12, 12, 12, 12, 12, 12, 12, 12, 12, 12, 12, 12, 12, 12, 12, 12, 12, 12, 12, 12, 12, 12, 12, 12, 12, 12, 12, 12, 12, 12, 12, 12, 12, 12, 12, 12, 12, 12, 12] (C := CC) (V := lookV (.agg #[.int .u8 cx, .int .u8 cy]) (.agg #[.int .u8 lx, .int .u8 ly]) (.int .i64 0) (.int .i64 le) (.int .i64 us)) (N := 12) (by kernel_rfl) (by kernel_rfl) (by kernel_rfl) (by kernel_rfl) (by kernel_rfl) (lookV_some _ _ _ _ _) (fun u u' s w h1 h2 => by rw [hCC.out] at *; exact lookC_cong u u' s w h1 h2) (fun _ => by rw [hCC.out]; exact ⟨(Below.refl _ _).drew, fun h => absurd h (by omega), fun h => absurd h (by omega)⟩) ?_
  intro u hu
  have e0 : u 0 = .agg #[.int .u8 cx, .int .u8 cy] := hu 0
  have e1 : u 1 = .agg #[.int .u8 cx, .int .u8 cy] := hu 1
  have e2 : u 2 = .agg #[.int .u8 lx, .int .u8 ly] := hu 2
  have e3 : u 3 = .agg #[.int .u8 lx, .int .u8 ly] := hu 3
  have e4 : u 4 = (.int .i64 0) := hu 4
  have e5 : u 5 = .int .i64 le := hu 5
  have e6 : u 6 = .int .i64 le := hu 6
  obtain ⟨b7, n7, c7', e7⟩ : ∃ b n c, u 7 = .slice b n c := hu 7
  obtain ⟨b8, n8, c8', e8⟩ : ∃ b n c, u 8 = .slice b n c := hu 8
  have e9 : u 9 = .bool true := hu 9
  have e10 : u 10 = .int .i64 us := hu 10
  have e11 : u 11 = .int .i64 us := hu 11
  have y1 : ∀ p : {w // AnyStage (CC u) 12 w}, p.val.cell? ⟨ab, 1, none⟩ = some (Value.int .i64 f) := fun p => (hblk.out _ _ _ p.property).cell 1 rfl
  have y2 : ∀ p : {w // AnyStage (CC u) 12 w}, p.val.cell? ⟨ab, 2, none⟩ = some (Value.int .i64 a) := fun p => (hblk.out _ _ _ p.property).cell 2 rfl
  have y7 : ∀ p : {w // AnyStage (CC u) 12 w}, p.val.cell? ⟨ab, 7, none⟩ = some (Value.int .i64 d) := fun p => (hblk.out _ _ _ p.property).cell 7 rfl
  have n2 : Nonempty {w // AnyStage (CC u) 12 w} := ⟨⟨w1'.drew, 0, by omega, by rw [hCC.out]; exact ⟨(Below.refl _ _).drew, fun h => absurd h (by omega), fun h => absurd h (by omega)⟩⟩⟩
  repeat (refine wpStageN_step rfl rfl (fun K hK => ?_); go_simp; refine hK _ ?_; clear hK K)
  refine wpStageN_call rfl rfl (fun w' hw' => ?_) ?_
  · rw [hCC.out] at hw'
    replace hw' := Lib.hid hw'
    unfold callAtU
    go_simp
    refine (hc1.out _ (hpw.out _ hw'.out.1)).mono ?_
    rintro e W2 ⟨rfl, _, hb⟩
    rw [hCC.out]
    exact ⟨_, rfl, rfl, hw'.out.step ⟨by omega, by omega⟩ hb⟩
  rw [e0]
  repeat (refine wpStageN_step rfl rfl (fun K hK => ?_); go_simp; refine hK _ ?_; clear hK K)
  refine wpStageN_call rfl rfl (fun w' hw' => ?_) ?_
  · rw [hCC.out] at hw'
    replace hw' := Lib.hid hw'
    unfold callAtU
    go_simp
    refine (hc2.out _ (hpw.out _ hw'.out.1)).mono ?_
    rintro e W2 ⟨rfl, _, hb⟩
    rw [hCC.out]
    exact ⟨_, rfl, rfl, hw'.out.step ⟨by omega, by omega⟩ hb⟩
  rw [e1]
  repeat (refine wpStageN_step rfl rfl (fun K hK => ?_); go_simp; refine hK _ ?_; clear hK K)
  refine wpStageN_call rfl rfl (fun w' hw' => ?_) ?_
  · rw [hCC.out] at hw'
    replace hw' := Lib.hid hw'
    unfold callAtU
    go_simp
    refine (hl1.out _ (hpw.out _ hw'.out.1)).mono ?_
    rintro e W2 ⟨rfl, _, hb⟩
    rw [hCC.out]
    exact ⟨_, rfl, rfl, hw'.out.step ⟨by omega, by omega⟩ hb⟩
  rw [e2]
  repeat (refine wpStageN_step rfl rfl (fun K hK => ?_); go_simp; refine hK _ ?_; clear hK K)
  refine wpStageN_call rfl rfl (fun w' hw' => ?_) ?_
  · rw [hCC.out] at hw'
    replace hw' := Lib.hid hw'
    unfold callAtU
    go_simp
    refine (hl2.out _ (hpw.out _ hw'.out.1)).mono ?_
    rintro e W2 ⟨rfl, _, hb⟩
    rw [hCC.out]
    exact ⟨_, rfl, rfl, hw'.out.step ⟨by omega, by omega⟩ hb⟩
  rw [e3]
  repeat (refine wpStageN_step rfl rfl (fun K hK => ?_); go_simp; refine hK _ ?_; clear hK K)
  refine wpStageN_call rfl rfl (fun w' hw' => ?_) ?_
  · rw [hCC.out] at hw'
    replace hw' := Lib.hid hw'
    unfold callAtU
    go_simp
    refine (hdu.out _ (hpw.out _ hw'.out.1)).mono ?_
    rintro e W2 ⟨rfl, _, hb⟩
    rw [hCC.out]
    exact ⟨_, rfl, rfl, hw'.out.step ⟨by omega, by omega⟩ hb⟩
  rw [e4]
  repeat (refine wpStageN_step rfl rfl (fun K hK => ?_); go_simp; refine hK _ ?_; clear hK K)
  refine wpStageN_call rfl rfl (fun w' hw' => ?_) ?_
  · rw [hCC.out] at hw'
    replace hw' := Lib.hid hw'
    unfold callAtU
    go_simp
    refine (hle.out _ (hpw.out _ hw'.out.1)).mono ?_
    rintro e W2 ⟨rfl, _, hb⟩
    rw [hCC.out]
    exact ⟨_, rfl, rfl, hw'.out.step ⟨by omega, by omega⟩ hb⟩
  rw [e5]
  repeat (refine wpStageN_step rfl rfl (fun K hK => ?_); go_simp; refine hK _ ?_; clear hK K)
  refine wpStageN_call rfl rfl (fun w' hw' => ?_) ?_
  · rw [hCC.out] at hw'
    replace hw' := Lib.hid hw'
    unfold callAtU
    go_simp
    refine (hle2.out _ _ (htw.out _ hw'.out.1)).mono ?_
    rintro e W2 ⟨rfl, rfl⟩
    rw [hCC.out]
    exact ⟨_, rfl, rfl, hw'.out.step ⟨by omega, by omega⟩ (Below.refl _ _)⟩
  rw [e6]
  repeat (refine wpStageN_step rfl rfl (fun K hK => ?_); go_simp; refine hK _ ?_; clear hK K)
  refine wpStageN_call rfl rfl (fun w' hw' => ?_) ?_
  · rw [hCC.out] at hw'
    replace hw' := Lib.hid hw'
    unfold callAtU
    go_simp
    refine (hr1.out _ (hpw.out _ hw'.out.1)).mono ?_
    rintro e W2 ⟨v1, rfl, ha1, hb⟩
    obtain ⟨vb1, vc1, e1', _⟩ := ha1.open
    rw [hCC.out]
    exact ⟨_, rfl, ⟨_, _, _, e1'⟩, hw'.out.ready1 ha1 hb⟩
  rw [e7]
  repeat (refine wpStageN_step rfl rfl (fun K hK => ?_); go_simp; refine hK _ ?_; clear hK K)
  refine wpStageN_call rfl rfl (fun w' hw' => ?_) ?_
  · rw [hCC.out] at hw'
    replace hw' := Lib.hid hw'
    unfold callAtU
    go_simp
    refine (hr2.out _ _ (htw.out _ hw'.out.1)).mono ?_
    rintro e W2 ⟨v1, rfl, ha1, hb⟩
    obtain ⟨vb1, vc1, e1', _⟩ := ha1.open
    rw [hCC.out]
    exact ⟨_, rfl, ⟨_, _, _, e1'⟩, hw'.out.ready2 ha1 hb⟩
  rw [e8]
  repeat (refine wpStageN_step rfl rfl (fun K hK => ?_); go_simp; refine hK _ ?_; clear hK K)
  refine wpStageN_call rfl rfl (fun w' hw' => ?_) ?_
  · rw [hCC.out] at hw'
    replace hw' := Lib.hid hw'
    have q1 := hw'.out.2.1 (by omega)
    have q2 := hw'.out.2.2 (by omega)
    rw [e7] at q1
    rw [e8] at q2
    have hq := hte.out _ _ _ q1 q2
    replace hq := Lib.hid hq
    clear q1 q2
    unfold callAtU
    go_simp
    refine hq.out.mono ?_
    rintro e W2 ⟨rfl, q, rfl⟩
    rw [hCC.out]
    exact ⟨_, rfl, rfl, hw'.out.step ⟨by omega, by omega⟩ (below_drewN (Below.refl _ _) q)⟩
  rw [e9]
  repeat (refine wpStageN_step rfl rfl (fun K hK => ?_); go_simp; refine hK _ ?_; clear hK K)
  refine wpStageN_call rfl rfl (fun w' hw' => ?_) ?_
  · rw [hCC.out] at hw'
    replace hw' := Lib.hid hw'
    unfold callAtU
    go_simp
    refine (hu1.out _ (hpw.out _ hw'.out.1)).mono ?_
    rintro e W2 ⟨rfl, _, hb⟩
    rw [hCC.out]
    exact ⟨_, rfl, rfl, hw'.out.step ⟨by omega, by omega⟩ hb⟩
  rw [e10]
  repeat (refine wpStageN_step rfl rfl (fun K hK => ?_); go_simp; refine hK _ ?_; clear hK K)
  refine wpStageN_call rfl rfl (fun w' hw' => ?_) ?_
  · rw [hCC.out] at hw'
    replace hw' := Lib.hid hw'
    unfold callAtU
    go_simp
    refine (hu2.out _ (hpw.out _ hw'.out.1)).mono ?_
    rintro e W2 ⟨rfl, _, hb⟩
    rw [hCC.out]
    exact ⟨_, rfl, rfl, hw'.out.step ⟨by omega, by omega⟩ hb⟩
  rw [e11]
  repeat (refine wpStageN_step rfl rfl (fun K hK => ?_); go_simp; refine hK _ ?_; clear hK K)
  refine wpStageN_nil ?_
  intro w' hw'
  rw [hCC.out] at hw'
  have hz := hpw.out _ hw'.1
  replace hz := Lib.hid hz
  clear y1 y2 y7 n2 hw'
  go_wp2_with fail
  go_ret
  exact ⟨rfl, hz.out⟩
set_option maxRecDepth 100000 in
set_option maxHeartbeats 8000000 in
theorem looks_high (k f a c0 c1 l0 l1 d : Int) (se st : Value) (W : World) (h : Pr w W B s r) (hl : Ld B.n s r) (ha : 4096 ≤ a)
    (hse : ∃ b n c, se = .slice b n c) (hst : ∃ b n c, st = .slice b n c) :
    Calls Try.prog 27 #[.pointer (some ⟨B.pb, 0, none⟩), .pointer (some ⟨B.qb, 0, none⟩), .agg (actC k f a c0 c1 l0 l1 d se st).toArray] W fun e w' => e = .returned (.bool true) ∧ Pr w w' B s r := by
  have hdd : ∀ c, 0 ≤ s.du c := fun c => (h.F.1.dub c).1
  obtain ⟨eb, en, ec, rfl⟩ := hse
  obtain ⟨tb', tn, tc, rfl⟩ := hst
  have hbk := Blk.new W (actC k f a c0 c1 l0 l1 d (.slice eb en ec) (.slice tb' tn tc)).toArray 67
  rw [List.toList_toArray] at hbk
  have h1 := h.keep ((Below.refl W.heap.size W).alloc (Nat.le_refl _) (.cells (actC k f a c0 c1 l0 l1 d (.slice eb en ec) (.slice tb' tn tc)).toArray 67))
  obtain ⟨ab, hab⟩ : ∃ ab, W.heap.size = ab := ⟨_, rfl⟩
  rw [hab] at hbk
  unfold actC at *
  obtain ⟨W1, hW1⟩ : ∃ W1, W.alloc (.cells #[.int .i64 k, .int .i64 f, .int .i64 a, .int .u8 c0, .int .u8 c1, .int .u8 l0, .int .u8 l1, .int .i64 d, .slice eb en ec, .slice tb' tn tc] 67) = W1 := ⟨_, rfl⟩
  rw [hW1] at hbk h1
  obtain ⟨cx, cy, hc1, hc2⟩ := look_cell (w := w) hl f a
  obtain ⟨lx, ly, hl1, hl2⟩ := look_light (w := w) hl f a
  obtain ⟨us, hu1, hu2⟩ := look_used (w := w) hl
  have hdu := look_due (w := w) hdd hl f a
  have hle := look_least (w := w) hl f
  obtain ⟨rs, hr1, hr2⟩ := look_ready (w := w) hl f d
  have htk := rticks_calls _ _ _ _ _ _ _ _ _ _ f W1 h1.R
  rw [if_neg (by omega)] at hdu
  replace htk : Calls Try.prog 49 #[.pointer (some ⟨B.qb, 0, none⟩), .int .i64 f] W1 fun e w' => (∃ v, e = .returned v ∧ TRow w' v (tkL B.n r.T f)) ∧ w' = W1 := htk.mono fun _ _ ⟨⟨v, he, ht⟩, hw⟩ => ⟨⟨v, he, by rw [hw]; exact ht⟩, hw⟩
  generalize tkL B.n r.T f = ts at *
  have hle2 : ∀ W v, TRow W v ts → Calls Try.prog 54 #[v] W fun e w' => e = .returned (.int .i64 (leastL ts)) ∧ w' = W := fun W v h => rleast_calls v ts W h
  generalize leastL ts = le at *
  have hte : ∀ W v v', TRow W v rs → TRow W v' rs → Calls Try.prog 55 #[v, v'] W fun e w' => e = .returned (.bool true) ∧ ∃ q, w' = W.drewN q := fun W v v' h h' => by
    have := ticks_calls v v' rs rs W h h'
    rw [decide_eq_true rfl] at this
    exact this
  have g1 : decide (0 ≤ a) = true := by simp; omega
  have g2 : decide (a < 4096) = false := by simp; omega
  replace hc1 := Lib.hid hc1
  replace hc2 := Lib.hid hc2
  replace hl1 := Lib.hid hl1
  replace hl2 := Lib.hid hl2
  replace hu1 := Lib.hid hu1
  replace hu2 := Lib.hid hu2
  replace hdu := Lib.hid hdu
  replace hle := Lib.hid hle
  replace hr1 := Lib.hid hr1
  replace hr2 := Lib.hid hr2
  replace hle2 := Lib.hid hle2
  replace hte := Lib.hid hte
  replace htk := Lib.hid htk
  have x1 := hbk.cell 1 rfl
  have x2 := hbk.cell 2 rfl
  have x7 := hbk.cell 7 rfl
  have hk0 := Lib.hid hbk
  have hp0 := Lib.hid h1
  clear h hl h1 hbk hdd ha
  go_enter Try.func27, Try.ntmps27
  go_wp2_with fail
  refine htk.out.mono ?_
  rintro e w1' ⟨⟨v, rfl, ht⟩, rfl⟩
  obtain ⟨vb, vc, rfl, -⟩ := ht.open
  have hts := Lib.hid ht
  clear ht htk
  go_wp2_with fail
  go_upto_region 5 with fail
  have hpw := fun W (hb : Below w1'.heap.size w1' W) => hp0.out.keep hb
  have htw := fun W (hb : Below w1'.heap.size w1' W) => TRow.keep hts.out hb
  have hkw := fun W (hb : Below w1'.heap.size w1' W) => hk0.out.below hb hk0.out.lt
  replace hpw := Lib.hid hpw
  replace htw := Lib.hid htw
  replace hkw := Lib.hid hkw
  clear x1 x2 x7
  obtain ⟨CC, hCC⟩ : ∃ C, C = lookC w1' rs := ⟨_, rfl⟩
  have hblk : ∀ u N W, AnyStage (CC u) N W → Blk W ab [.int .i64 k, .int .i64 f, .int .i64 a, .int .u8 c0, .int .u8 c1, .int .u8 l0, .int .u8 l1, .int .i64 d, .slice eb en ec, .slice tb' tn tc] 67 := by
    rw [hCC]; exact fun u N W ⟨s, _, h⟩ => hkw.out W h.1
  replace hCC := Lib.hid hCC
  replace hblk := Lib.hid hblk
  refine wp_region_stageN [12, 12, 12, 12, 12, 12, 12, 12, 12, 12, 12, 12, 12, 12, 12, 12, 12, 12, 12, 12, 12, 12, 12, 12, 12, 12, 12, 12, 12, 12, 12, 12, 12, 12, 12, 12, 12, 12, 12, 12, 12, 12, 12, 12, 12, 12, 12, 12, 12, 12, 12, 12, 12, 12, 12, 12, 12, 12, 12, 12, 12, 12, 12, 12, 12, 12, 12, 12, 12, 12, 12, 12] (C := CC) (V := lookV (.agg #[.int .u8 cx, .int .u8 cy]) (.agg #[.int .u8 lx, .int .u8 ly]) (.int .i64 0) (.int .i64 le) (.int .i64 us)) (N := 12) (by kernel_rfl) (by kernel_rfl) (by kernel_rfl) (by kernel_rfl) (by kernel_rfl) (lookV_some _ _ _ _ _) (fun u u' s w h1 h2 => by rw [hCC.out] at *; exact lookC_cong u u' s w h1 h2) (fun _ => by rw [hCC.out]; exact ⟨(Below.refl _ _).drew, fun h => absurd h (by omega), fun h => absurd h (by omega)⟩) ?_
  intro u hu
  have e0 : u 0 = .agg #[.int .u8 cx, .int .u8 cy] := hu 0
  have e1 : u 1 = .agg #[.int .u8 cx, .int .u8 cy] := hu 1
  have e2 : u 2 = .agg #[.int .u8 lx, .int .u8 ly] := hu 2
  have e3 : u 3 = .agg #[.int .u8 lx, .int .u8 ly] := hu 3
  have e4 : u 4 = (.int .i64 0) := hu 4
  have e5 : u 5 = .int .i64 le := hu 5
  have e6 : u 6 = .int .i64 le := hu 6
  obtain ⟨b7, n7, c7', e7⟩ : ∃ b n c, u 7 = .slice b n c := hu 7
  obtain ⟨b8, n8, c8', e8⟩ : ∃ b n c, u 8 = .slice b n c := hu 8
  have e9 : u 9 = .bool true := hu 9
  have e10 : u 10 = .int .i64 us := hu 10
  have e11 : u 11 = .int .i64 us := hu 11
  have y1 : ∀ p : {w // AnyStage (CC u) 12 w}, p.val.cell? ⟨ab, 1, none⟩ = some (Value.int .i64 f) := fun p => (hblk.out _ _ _ p.property).cell 1 rfl
  have y2 : ∀ p : {w // AnyStage (CC u) 12 w}, p.val.cell? ⟨ab, 2, none⟩ = some (Value.int .i64 a) := fun p => (hblk.out _ _ _ p.property).cell 2 rfl
  have y7 : ∀ p : {w // AnyStage (CC u) 12 w}, p.val.cell? ⟨ab, 7, none⟩ = some (Value.int .i64 d) := fun p => (hblk.out _ _ _ p.property).cell 7 rfl
  have n2 : Nonempty {w // AnyStage (CC u) 12 w} := ⟨⟨w1'.drew, 0, by omega, by rw [hCC.out]; exact ⟨(Below.refl _ _).drew, fun h => absurd h (by omega), fun h => absurd h (by omega)⟩⟩⟩
  repeat (refine wpStageN_step rfl rfl (fun K hK => ?_); go_simp; refine hK _ ?_; clear hK K)
  refine wpStageN_call rfl rfl (fun w' hw' => ?_) ?_
  · rw [hCC.out] at hw'
    replace hw' := Lib.hid hw'
    unfold callAtU
    go_simp
    refine (hc1.out _ (hpw.out _ hw'.out.1)).mono ?_
    rintro e W2 ⟨rfl, _, hb⟩
    rw [hCC.out]
    exact ⟨_, rfl, rfl, hw'.out.step ⟨by omega, by omega⟩ hb⟩
  rw [e0]
  repeat (refine wpStageN_step rfl rfl (fun K hK => ?_); go_simp; refine hK _ ?_; clear hK K)
  refine wpStageN_call rfl rfl (fun w' hw' => ?_) ?_
  · rw [hCC.out] at hw'
    replace hw' := Lib.hid hw'
    unfold callAtU
    go_simp
    refine (hc2.out _ (hpw.out _ hw'.out.1)).mono ?_
    rintro e W2 ⟨rfl, _, hb⟩
    rw [hCC.out]
    exact ⟨_, rfl, rfl, hw'.out.step ⟨by omega, by omega⟩ hb⟩
  rw [e1]
  repeat (refine wpStageN_step rfl rfl (fun K hK => ?_); go_simp; refine hK _ ?_; clear hK K)
  refine wpStageN_call rfl rfl (fun w' hw' => ?_) ?_
  · rw [hCC.out] at hw'
    replace hw' := Lib.hid hw'
    unfold callAtU
    go_simp
    refine (hl1.out _ (hpw.out _ hw'.out.1)).mono ?_
    rintro e W2 ⟨rfl, _, hb⟩
    rw [hCC.out]
    exact ⟨_, rfl, rfl, hw'.out.step ⟨by omega, by omega⟩ hb⟩
  rw [e2]
  repeat (refine wpStageN_step rfl rfl (fun K hK => ?_); go_simp; refine hK _ ?_; clear hK K)
  refine wpStageN_call rfl rfl (fun w' hw' => ?_) ?_
  · rw [hCC.out] at hw'
    replace hw' := Lib.hid hw'
    unfold callAtU
    go_simp
    refine (hl2.out _ (hpw.out _ hw'.out.1)).mono ?_
    rintro e W2 ⟨rfl, _, hb⟩
    rw [hCC.out]
    exact ⟨_, rfl, rfl, hw'.out.step ⟨by omega, by omega⟩ hb⟩
  rw [e3]
  repeat (refine wpStageN_step rfl rfl (fun K hK => ?_); go_simp; refine hK _ ?_; clear hK K)
  refine wpStageN_call rfl rfl (fun w' hw' => ?_) ?_
  · rw [hCC.out] at hw'
    replace hw' := Lib.hid hw'
    unfold callAtU
    go_simp
    refine (hdu.out _ (hpw.out _ hw'.out.1)).mono ?_
    rintro e W2 ⟨rfl, _, hb⟩
    rw [hCC.out]
    exact ⟨_, rfl, rfl, hw'.out.step ⟨by omega, by omega⟩ hb⟩
  rw [e4]
  repeat (refine wpStageN_step rfl rfl (fun K hK => ?_); go_simp; refine hK _ ?_; clear hK K)
  refine wpStageN_call rfl rfl (fun w' hw' => ?_) ?_
  · rw [hCC.out] at hw'
    replace hw' := Lib.hid hw'
    unfold callAtU
    go_simp
    refine (hle.out _ (hpw.out _ hw'.out.1)).mono ?_
    rintro e W2 ⟨rfl, _, hb⟩
    rw [hCC.out]
    exact ⟨_, rfl, rfl, hw'.out.step ⟨by omega, by omega⟩ hb⟩
  rw [e5]
  repeat (refine wpStageN_step rfl rfl (fun K hK => ?_); go_simp; refine hK _ ?_; clear hK K)
  refine wpStageN_call rfl rfl (fun w' hw' => ?_) ?_
  · rw [hCC.out] at hw'
    replace hw' := Lib.hid hw'
    unfold callAtU
    go_simp
    refine (hle2.out _ _ (htw.out _ hw'.out.1)).mono ?_
    rintro e W2 ⟨rfl, rfl⟩
    rw [hCC.out]
    exact ⟨_, rfl, rfl, hw'.out.step ⟨by omega, by omega⟩ (Below.refl _ _)⟩
  rw [e6]
  repeat (refine wpStageN_step rfl rfl (fun K hK => ?_); go_simp; refine hK _ ?_; clear hK K)
  refine wpStageN_call rfl rfl (fun w' hw' => ?_) ?_
  · rw [hCC.out] at hw'
    replace hw' := Lib.hid hw'
    unfold callAtU
    go_simp
    refine (hr1.out _ (hpw.out _ hw'.out.1)).mono ?_
    rintro e W2 ⟨v1, rfl, ha1, hb⟩
    obtain ⟨vb1, vc1, e1', _⟩ := ha1.open
    rw [hCC.out]
    exact ⟨_, rfl, ⟨_, _, _, e1'⟩, hw'.out.ready1 ha1 hb⟩
  rw [e7]
  repeat (refine wpStageN_step rfl rfl (fun K hK => ?_); go_simp; refine hK _ ?_; clear hK K)
  refine wpStageN_call rfl rfl (fun w' hw' => ?_) ?_
  · rw [hCC.out] at hw'
    replace hw' := Lib.hid hw'
    unfold callAtU
    go_simp
    refine (hr2.out _ _ (htw.out _ hw'.out.1)).mono ?_
    rintro e W2 ⟨v1, rfl, ha1, hb⟩
    obtain ⟨vb1, vc1, e1', _⟩ := ha1.open
    rw [hCC.out]
    exact ⟨_, rfl, ⟨_, _, _, e1'⟩, hw'.out.ready2 ha1 hb⟩
  rw [e8]
  repeat (refine wpStageN_step rfl rfl (fun K hK => ?_); go_simp; refine hK _ ?_; clear hK K)
  refine wpStageN_call rfl rfl (fun w' hw' => ?_) ?_
  · rw [hCC.out] at hw'
    replace hw' := Lib.hid hw'
    have q1 := hw'.out.2.1 (by omega)
    have q2 := hw'.out.2.2 (by omega)
    rw [e7] at q1
    rw [e8] at q2
    have hq := hte.out _ _ _ q1 q2
    replace hq := Lib.hid hq
    clear q1 q2
    unfold callAtU
    go_simp
    refine hq.out.mono ?_
    rintro e W2 ⟨rfl, q, rfl⟩
    rw [hCC.out]
    exact ⟨_, rfl, rfl, hw'.out.step ⟨by omega, by omega⟩ (below_drewN (Below.refl _ _) q)⟩
  rw [e9]
  repeat (refine wpStageN_step rfl rfl (fun K hK => ?_); go_simp; refine hK _ ?_; clear hK K)
  refine wpStageN_call rfl rfl (fun w' hw' => ?_) ?_
  · rw [hCC.out] at hw'
    replace hw' := Lib.hid hw'
    unfold callAtU
    go_simp
    refine (hu1.out _ (hpw.out _ hw'.out.1)).mono ?_
    rintro e W2 ⟨rfl, _, hb⟩
    rw [hCC.out]
    exact ⟨_, rfl, rfl, hw'.out.step ⟨by omega, by omega⟩ hb⟩
  rw [e10]
  repeat (refine wpStageN_step rfl rfl (fun K hK => ?_); go_simp; refine hK _ ?_; clear hK K)
  refine wpStageN_call rfl rfl (fun w' hw' => ?_) ?_
  · rw [hCC.out] at hw'
    replace hw' := Lib.hid hw'
    unfold callAtU
    go_simp
    refine (hu2.out _ (hpw.out _ hw'.out.1)).mono ?_
    rintro e W2 ⟨rfl, _, hb⟩
    rw [hCC.out]
    exact ⟨_, rfl, rfl, hw'.out.step ⟨by omega, by omega⟩ hb⟩
  rw [e11]
  repeat (refine wpStageN_step rfl rfl (fun K hK => ?_); go_simp; refine hK _ ?_; clear hK K)
  refine wpStageN_nil ?_
  intro w' hw'
  rw [hCC.out] at hw'
  have hz := hpw.out _ hw'.1
  replace hz := Lib.hid hz
  clear y1 y2 y7 n2 hw'
  go_wp2_with fail
  go_ret
  exact ⟨rfl, hz.out⟩
end
end Go.Proofs.Ytlaodkolkoefgaa
