/-
  The document's pool: Give, SetCell, SetLight.
-/
import Derived.Test.YtlaodkolkoefgaaFrW
namespace Go.Proofs.Ytlaodkolkoefgaa
open Go.RowKit
set_option linter.unusedSimpArgs false
set_option linter.unusedVariables false

/-- Frame f's value is another. -/
def atF {α : Type} (g : Nat → α) (f : Nat) (v : α) : Nat → α := fun h => if h = f then v else g h
theorem atF_same {α : Type} (g : Nat → α) (f : Nat) (v : α) : atF g f v f = v := if_pos rfl
theorem atF_other {α : Type} {g : Nat → α} {f h : Nat} {v : α} (e : h ≠ f) : atF g f v h = g h := if_neg e
set_option maxRecDepth 100000 in
set_option maxHeartbeats 8000000 in
theorem rgive_in (qb kb kc ub n : Nat) (x : Nat → Nat) (CE LI : Nat → Nat → Int × Int) (T : Nat → List Tk) (tk : Nat → Bool) (f : Nat) (w : World) (h : Rp w qb kb kc ub n x CE LI T tk) (hf : f < n) (ht : tk f = true) :
    Calls Try.prog 43 #[.pointer (some ⟨qb, 0, none⟩), .int .i64 f] w fun e w' => e = .returned (.int .i64 0) ∧ Rp w' qb kb kc ub n (atF x f w.heap.size) (atF CE f zeroP) (atF LI f zeroP) (atF T f []) (tkSet tk f false) ∧ But2 kb ub w w' := by
  have hz : ∀ w, (zeroValue 46).run Try.prog w = .ok (.agg chunkZ) w := zero_chunk
  have hc := in_calls qb kb kc n f 0 w h.c0 h.n64
  rw [decide_eq_true (show inR n f 0 from by unfold inR; omega)] at hc
  have q0 := h.c0
  have q1 := h.c1
  have cu := h.take.cell hf
  rw [ht] at cu
  have fu := h.take.frozen f
  have h2 := h.setTk f false
  have hsz : (w.setCell ⟨ub, f, none⟩ (.bool false)).heap.size = w.heap.size := by simp [World.setCell]
  have hA : Below w.heap.size (w.setCell ⟨ub, f, none⟩ (.bool false)) ((w.setCell ⟨ub, f, none⟩ (.bool false)).alloc (.cells chunkZ 46)) := (Below.refl _ _).alloc (by rw [hsz]; exact Nat.le_refl _) _
  have hA' : Below (w.setCell ⟨ub, f, none⟩ (.bool false)).heap.size (w.setCell ⟨ub, f, none⟩ (.bool false)) ((w.setCell ⟨ub, f, none⟩ (.bool false)).alloc (.cells chunkZ 46)) := (Below.refl _ _).alloc (Nat.le_refl _) _
  have h3 := h2.keep hA'
  have k3 := ck_new (w.setCell ⟨ub, f, none⟩ (.bool false))
  rw [hsz] at k3
  have hxl : ∀ g, g < n → x g ≠ w.heap.size := fun g hg => (h.ch g hg).elim fun s k => Nat.ne_of_lt k.1.lt
  have h4 := h3.setPtr (b := w.heap.size) hf k3 (TRow.nil _) hxl ⟨U8.zero, U8.zero⟩ (by simp)
  have hbt : But2 kb ub w (((w.setCell ⟨ub, f, none⟩ (.bool false)).alloc (.cells chunkZ 46)).setCell ⟨kb, f, none⟩ (.pointer (some ⟨w.heap.size, 0, none⟩))) :=
    ((But2.right ((But.refl ub w).setCell f _) kb).trans (But2.of_below hA' kb ub)).trans (But2.left ((But.refl kb _).setCell f _) ub)
  have pk := h3.ptr hf
  have fk : ((w.setCell ⟨ub, f, none⟩ (.bool false)).alloc (.cells chunkZ 46)).frozen? ⟨kb, f, none⟩ = false := h3.ptrs.elim fun cs k => k.1.frozen f
  have hql := h.pool.lt
  have hul := h.take.lt
  have hkl := h.ptrs.elim fun cs k => k.1.lt
  have hqu := h.qu
  have hn64 := h.n64
  have hfz : (f : Int) < (n : Int) := by omega
  have q0b := h3.c0
  have hkne : ¬ kb = w.heap.size := by omega
  generalize chunkZ = Z at *
  obtain ⟨W3, hW3⟩ : ∃ W3, (w.setCell ⟨ub, f, none⟩ (.bool false)).alloc (.cells Z 46) = W3 := ⟨_, rfl⟩
  rw [hW3] at h4 hbt pk fk q0b
  replace hc := Lib.hid hc
  replace h4 := Lib.hid h4
  replace hbt := Lib.hid hbt
  clear h h2 h3 k3 hA hA' hxl ht
  go_enter Try.func43, Try.ntmps43
  go_wp2_with fail
  refine hc.out.mono ?_
  rintro e w1 ⟨rfl, rfl⟩
  clear hc
  go_wp2_with fail
  go_ret
  exact ⟨rfl, h4.out, hbt.out⟩
set_option maxRecDepth 100000 in
set_option maxHeartbeats 4000000 in
theorem rgive_free (qb kb kc ub n : Nat) (tk : Nat → Bool) (f : Nat) (w : World) (q0 : w.cell? ⟨qb, 0, none⟩ = some (.slice (some ⟨kb, 0, none⟩) n kc)) (q1 : w.cell? ⟨qb, 1, none⟩ = some (.slice (some ⟨ub, 0, none⟩) n n)) (hn : n ≤ 64) (hu : Row1 w ub 4 n (fun i => .bool (tk i))) (hf : f < n) (ht : tk f = false) :
    Calls Try.prog 43 #[.pointer (some ⟨qb, 0, none⟩), .int .i64 f] w fun e w' => e = .returned (.int .i64 5) ∧ w' = w := by
  have hc := in_calls qb kb kc n f 0 w q0 hn
  rw [decide_eq_true (show inR n f 0 from by unfold inR; omega)] at hc
  have cu := hu.cell hf
  rw [ht] at cu
  have hfz : (f : Int) < (n : Int) := by omega
  replace hc := Lib.hid hc
  clear hu ht
  go_enter Try.func43, Try.ntmps43
  go_wp2_with fail
  refine hc.out.mono ?_
  rintro e w1 ⟨rfl, rfl⟩
  clear hc
  go_wp2_with fail
  go_ret
  exact ⟨rfl, rfl⟩
set_option maxRecDepth 100000 in
set_option maxHeartbeats 4000000 in
theorem rgive_out (qb kb kc n : Nat) (f : Int) (w : World) (q0 : w.cell? ⟨qb, 0, none⟩ = some (.slice (some ⟨kb, 0, none⟩) n kc)) (hn : n ≤ 64) (hf : ¬ (0 ≤ f ∧ f < n)) :
    Calls Try.prog 43 #[.pointer (some ⟨qb, 0, none⟩), .int .i64 f] w fun e w' => e = .returned (.int .i64 2) ∧ w' = w := by
  have hc := in_calls qb kb kc n f 0 w q0 hn
  rw [decide_eq_false (show ¬ inR n f 0 from fun h => hf ⟨h.1, h.2.1⟩)] at hc
  replace hc := Lib.hid hc
  clear hf
  go_enter Try.func43, Try.ntmps43
  go_wp2_with fail
  refine hc.out.mono ?_
  rintro e w1 ⟨rfl, rfl⟩
  clear hc
  go_wp2_with fail
  go_ret
  exact ⟨rfl, rfl⟩
end Go.Proofs.Ytlaodkolkoefgaa

/-
  The document's pool: SetCell, SetLight.
-/
namespace Go.Proofs.Ytlaodkolkoefgaa
open Go.RowKit
set_option linter.unusedSimpArgs false
set_option linter.unusedVariables false

theorem Rp.setCe {W : World} {qb kb kc ub n : Nat} {x : Nat → Nat} {CE LI : Nat → Nat → Int × Int} {T : Nat → List Tk} {tk : Nat → Bool} (h : Rp W qb kb kc ub n x CE LI T tk) {m j : Nat} (hm : m < n) (hj : j < 4096) {a b : Int} (ha : 0 ≤ a ∧ a ≤ 255) (hb : 0 ≤ b ∧ b ≤ 255) :
    Rp ((W.setCell ⟨x m, j * 2, none⟩ (.int .u8 a)).setCell ⟨x m, j * 2 + 1, none⟩ (.int .u8 b)) qb kb kc ub n x (atF CE m (updP (CE m) j (a, b))) LI T tk ∧ But (x m) W ((W.setCell ⟨x m, j * 2, none⟩ (.int .u8 a)).setCell ⟨x m, j * 2 + 1, none⟩ (.int .u8 b)) := by
  obtain ⟨s, k, t⟩ := h.ch m hm
  have hbt : But (x m) W ((W.setCell ⟨x m, j * 2, none⟩ (.int .u8 a)).setCell ⟨x m, j * 2 + 1, none⟩ (.int .u8 b)) := ((But.refl _ W).setCell _ _).setCell _ _
  have h2 := h.chunk hm hbt (k.setCell hj a b) (t.butOf hbt (k.noInt (row_slice t))) ⟨(h.u8 m).1.upd j ha hb, (h.u8 m).2⟩ (h.tl m)
  refine ⟨?_, hbt⟩
  have e1 : (fun g => if g = m then LI m else LI g) = LI := funext fun g => by by_cases e : g = m <;> simp [e]
  have e2 : (fun g => if g = m then T m else T g) = T := funext fun g => by by_cases e : g = m <;> simp [e]
  rw [e1, e2] at h2
  exact h2
theorem Rp.setLi {W : World} {qb kb kc ub n : Nat} {x : Nat → Nat} {CE LI : Nat → Nat → Int × Int} {T : Nat → List Tk} {tk : Nat → Bool} (h : Rp W qb kb kc ub n x CE LI T tk) {m j : Nat} (hm : m < n) (hj : j < 4096) {a b : Int} (ha : 0 ≤ a ∧ a ≤ 255) (hb : 0 ≤ b ∧ b ≤ 255) :
    Rp ((W.setCell ⟨x m, 8192 + j * 2, none⟩ (.int .u8 a)).setCell ⟨x m, 8192 + j * 2 + 1, none⟩ (.int .u8 b)) qb kb kc ub n x CE (atF LI m (updP (LI m) j (a, b))) T tk ∧ But (x m) W ((W.setCell ⟨x m, 8192 + j * 2, none⟩ (.int .u8 a)).setCell ⟨x m, 8192 + j * 2 + 1, none⟩ (.int .u8 b)) := by
  obtain ⟨s, k, t⟩ := h.ch m hm
  have hbt : But (x m) W ((W.setCell ⟨x m, 8192 + j * 2, none⟩ (.int .u8 a)).setCell ⟨x m, 8192 + j * 2 + 1, none⟩ (.int .u8 b)) := ((But.refl _ W).setCell _ _).setCell _ _
  have h2 := h.chunk hm hbt (k.setLight hj a b) (t.butOf hbt (k.noInt (row_slice t))) ⟨(h.u8 m).1, (h.u8 m).2.upd j ha hb⟩ (h.tl m)
  refine ⟨?_, hbt⟩
  have e1 : (fun g => if g = m then CE m else CE g) = CE := funext fun g => by by_cases e : g = m <;> simp [e]
  have e2 : (fun g => if g = m then T m else T g) = T := funext fun g => by by_cases e : g = m <;> simp [e]
  rw [e1, e2] at h2
  exact h2
set_option maxRecDepth 100000 in
set_option maxHeartbeats 8000000 in
theorem rset_yes (qb kb kc ub n : Nat) (x : Nat → Nat) (CE LI : Nat → Nat → Int × Int) (T : Nat → List Tk) (tk : Nat → Bool) (m j : Nat) (a b : Int) (w : World) (h : Rp w qb kb kc ub n x CE LI T tk) (hm : m < n) (hj : j < 4096) (ha : 0 ≤ a ∧ a ≤ 255) (hb : 0 ≤ b ∧ b ≤ 255) (hk : mayK a b = true) :
    Calls Try.prog 44 #[.pointer (some ⟨qb, 0, none⟩), .int .i64 m, .int .i64 j, .agg #[.int .u8 a, .int .u8 b]] w fun e w' => e = .returned (.bool true) ∧ Rp w' qb kb kc ub n x (atF CE m (updP (CE m) j (a, b))) LI T tk ∧ But (x m) w w' := by
  have hA : Below w.heap.size w (w.alloc (.cells #[.int .u8 a, .int .u8 b] 25)) := (Below.refl _ _).alloc (Nat.le_refl _) _
  have hbk := Blk.new w #[.int .u8 a, .int .u8 b] 25
  have h1 := h.keep hA
  have hxl : x m < w.heap.size := (h.ch m hm).elim fun s k => k.1.lt
  obtain ⟨W1, hW1⟩ : ∃ W1, w.alloc (.cells #[.int .u8 a, .int .u8 b] 25) = W1 := ⟨_, rfl⟩
  rw [hW1] at hA hbk h1
  have hc := in_calls qb kb kc n m j W1 h1.c0 h1.n64
  rw [decide_eq_true (show inR n m j from by unfold inR; omega)] at hc
  have hma := rmayk_calls a b W1 ha.1 ha.2 hb.1
  rw [hk] at hma
  have x0 := hbk.cell 0 rfl
  have x1 := hbk.cell 1 rfl
  have hn64 := h.n64
  have hmz : (m : Int) < (n : Int) := by omega
  have hjz : (j : Int) < 4096 := by omega
  replace hc := Lib.hid hc
  replace hma := Lib.hid hma
  replace hA := Lib.hid hA
  replace h1 := Lib.hid h1
  replace hbk := Lib.hid hbk
  clear h
  go_enter Try.func44, Try.ntmps44
  go_wp2_with fail
  refine hc.out.mono ?_
  rintro e w1 ⟨rfl, rfl⟩
  clear hc
  go_wp2_with fail
  refine hma.out.mono ?_
  rintro e W2 ⟨rfl, hb2⟩
  clear hma hW1 x0 x1
  have h2 := h1.out.keep hb2
  have hbb := hbk.out.below hb2 hbk.out.lt
  have x0 := hbb.cell 0 rfl
  have x1 := hbb.cell 1 rfl
  obtain ⟨s, kx, _⟩ := h2.ch m hm
  have s0 := kx.c0 hj
  have s1 := kx.c1 hj
  have z0 := kx.frozen (j * 2)
  have z1 := kx.frozen (j * 2 + 1)
  have hl2 := kx.lt
  have pm := h2.ptr hm
  have q0 := h2.c0
  obtain ⟨hfin, hbut⟩ := h2.setCe hm hj ha hb
  have hne : ¬ w.heap.size = x m := by omega
  have hbut2 := (But.of_below (b := x m) (hA.out.trans (hb2.mono hA.out.size))).trans hbut
  replace hfin := Lib.hid hfin
  replace hbut2 := Lib.hid hbut2
  clear h1 hbk hbb h2 hb2 hbut hA hk kx
  go_wp2_with fail
  go_region
  go_wp2_with fail
  go_ret
  exact ⟨rfl, hfin.out.keep (Below.refl _ _).drew, hbut2.out.drew⟩
set_option maxRecDepth 100000 in
set_option maxHeartbeats 4000000 in
theorem rset_not (qb kb kc n : Nat) (f i a b : Int) (w : World) (q0 : w.cell? ⟨qb, 0, none⟩ = some (.slice (some ⟨kb, 0, none⟩) n kc)) (hn : n ≤ 64) (hr : inR n f i) (ha : 0 ≤ a ∧ a ≤ 255) (hb : 0 ≤ b ∧ b ≤ 255) (hk : mayK a b = false) :
    Calls Try.prog 44 #[.pointer (some ⟨qb, 0, none⟩), .int .i64 f, .int .i64 i, .agg #[.int .u8 a, .int .u8 b]] w fun e w' => e = .returned (.bool false) ∧ Below w.heap.size w w' := by
  have hA : Below w.heap.size w (w.alloc (.cells #[.int .u8 a, .int .u8 b] 25)) := (Below.refl _ _).alloc (Nat.le_refl _) _
  have hbk := Blk.new w #[.int .u8 a, .int .u8 b] 25
  have q1 := (hA.cell (World.block_lt_of_cell? _ _ q0)).trans q0
  obtain ⟨W1, hW1⟩ : ∃ W1, w.alloc (.cells #[.int .u8 a, .int .u8 b] 25) = W1 := ⟨_, rfl⟩
  rw [hW1] at hA hbk q1
  have hc := in_calls qb kb kc n f i W1 q1 hn
  rw [decide_eq_true hr] at hc
  have hma := rmayk_calls a b W1 ha.1 ha.2 hb.1
  rw [hk] at hma
  have x0 := hbk.cell 0 rfl
  have x1 := hbk.cell 1 rfl
  replace hc := Lib.hid hc
  replace hma := Lib.hid hma
  replace hA := Lib.hid hA
  clear q0 q1 hbk hr
  go_enter Try.func44, Try.ntmps44
  go_wp2_with fail
  refine hc.out.mono ?_
  rintro e w1 ⟨rfl, rfl⟩
  clear hc
  go_wp2_with fail
  refine hma.out.mono ?_
  rintro e W2 ⟨rfl, hb2⟩
  clear hma hW1 x0 x1
  have hA2 := hA.out.trans (hb2.mono hA.out.size)
  replace hA2 := Lib.hid hA2
  clear hb2 hA hk
  go_wp2_with fail
  go_ret
  exact ⟨rfl, hA2.out⟩
set_option maxRecDepth 100000 in
set_option maxHeartbeats 4000000 in
theorem rset_out (qb kb kc n : Nat) (f i a b : Int) (w : World) (q0 : w.cell? ⟨qb, 0, none⟩ = some (.slice (some ⟨kb, 0, none⟩) n kc)) (hn : n ≤ 64) (hr : ¬ inR n f i) :
    Calls Try.prog 44 #[.pointer (some ⟨qb, 0, none⟩), .int .i64 f, .int .i64 i, .agg #[.int .u8 a, .int .u8 b]] w fun e w' => e = .returned (.bool false) ∧ Below w.heap.size w w' := by
  have hA : Below w.heap.size w (w.alloc (.cells #[.int .u8 a, .int .u8 b] 25)) := (Below.refl _ _).alloc (Nat.le_refl _) _
  have q1 := (hA.cell (World.block_lt_of_cell? _ _ q0)).trans q0
  obtain ⟨W1, hW1⟩ : ∃ W1, w.alloc (.cells #[.int .u8 a, .int .u8 b] 25) = W1 := ⟨_, rfl⟩
  rw [hW1] at hA q1
  have hc := in_calls qb kb kc n f i W1 q1 hn
  rw [decide_eq_false hr] at hc
  replace hc := Lib.hid hc
  replace hA := Lib.hid hA
  clear q0 q1 hr
  go_enter Try.func44, Try.ntmps44
  go_wp2_with fail
  refine hc.out.mono ?_
  rintro e w1 ⟨rfl, rfl⟩
  clear hc hW1
  go_wp2_with fail
  go_ret
  exact ⟨rfl, hA.out⟩
set_option maxRecDepth 100000 in
set_option maxHeartbeats 4000000 in
theorem rsetl_out (qb kb kc n : Nat) (f i a b : Int) (w : World) (q0 : w.cell? ⟨qb, 0, none⟩ = some (.slice (some ⟨kb, 0, none⟩) n kc)) (hn : n ≤ 64) (hr : ¬ inR n f i) :
    Calls Try.prog 45 #[.pointer (some ⟨qb, 0, none⟩), .int .i64 f, .int .i64 i, .agg #[.int .u8 a, .int .u8 b]] w fun e w' => e = .returned (.bool false) ∧ Below w.heap.size w w' := by
  have hA : Below w.heap.size w (w.alloc (.cells #[.int .u8 a, .int .u8 b] 42)) := (Below.refl _ _).alloc (Nat.le_refl _) _
  have q1 := (hA.cell (World.block_lt_of_cell? _ _ q0)).trans q0
  obtain ⟨W1, hW1⟩ : ∃ W1, w.alloc (.cells #[.int .u8 a, .int .u8 b] 42) = W1 := ⟨_, rfl⟩
  rw [hW1] at hA q1
  have hc := in_calls qb kb kc n f i W1 q1 hn
  rw [decide_eq_false hr] at hc
  replace hc := Lib.hid hc
  replace hA := Lib.hid hA
  clear q0 q1 hr
  go_enter Try.func45, Try.ntmps45
  go_wp2_with fail
  refine hc.out.mono ?_
  rintro e w1 ⟨rfl, rfl⟩
  clear hc hW1
  go_wp2_with fail
  go_ret
  exact ⟨rfl, hA.out⟩
set_option maxRecDepth 100000 in
set_option maxHeartbeats 8000000 in
theorem rsetl_yes (qb kb kc ub n : Nat) (x : Nat → Nat) (CE LI : Nat → Nat → Int × Int) (T : Nat → List Tk) (tk : Nat → Bool) (m j : Nat) (a b : Int) (w : World) (h : Rp w qb kb kc ub n x CE LI T tk) (hm : m < n) (hj : j < 4096) (ha : 0 ≤ a ∧ a ≤ 15) (hb : 0 ≤ b ∧ b ≤ 15) :
    Calls Try.prog 45 #[.pointer (some ⟨qb, 0, none⟩), .int .i64 m, .int .i64 j, .agg #[.int .u8 a, .int .u8 b]] w fun e w' => e = .returned (.bool true) ∧ Rp w' qb kb kc ub n x CE (atF LI m (updP (LI m) j (a, b))) T tk ∧ But (x m) w w' := by
  have hA : Below w.heap.size w (w.alloc (.cells #[.int .u8 a, .int .u8 b] 42)) := (Below.refl _ _).alloc (Nat.le_refl _) _
  have hbk := Blk.new w #[.int .u8 a, .int .u8 b] 42
  have h1 := h.keep hA
  have hxl : x m < w.heap.size := (h.ch m hm).elim fun s k => k.1.lt
  obtain ⟨W1, hW1⟩ : ∃ W1, w.alloc (.cells #[.int .u8 a, .int .u8 b] 42) = W1 := ⟨_, rfl⟩
  rw [hW1] at hA hbk h1
  have hc := in_calls qb kb kc n m j W1 h1.c0 h1.n64
  rw [decide_eq_true (show inR n m j from by unfold inR; omega)] at hc
  have x0 := hbk.cell 0 rfl
  have x1 := hbk.cell 1 rfl
  have hn64 := h.n64
  have hmz : (m : Int) < (n : Int) := by omega
  have hjz : (j : Int) < 4096 := by omega
  obtain ⟨s, kx, _⟩ := h1.ch m hm
  have s0 := kx.l0 hj
  have s1 := kx.l1 hj
  have z0 := kx.frozen (8192 + j * 2)
  have z1 := kx.frozen (8192 + j * 2 + 1)
  have hl2 := kx.lt
  have hl3 := hbk.lt
  have pm := h1.ptr hm
  have q0 := h1.c0
  obtain ⟨hfin, hbut⟩ := h1.setLi hm hj (a := a) (b := b) (by omega) (by omega)
  have hne : ¬ w.heap.size = x m := by omega
  have hbut2 := (But.of_below (b := x m) hA).trans hbut
  have g1 : decide (15 < a) = false := by simp; omega
  have g2 : decide (15 < b) = false := by simp; omega
  replace hc := Lib.hid hc
  replace hfin := Lib.hid hfin
  replace hbut2 := Lib.hid hbut2
  clear h h1 hbk hbut kx hA
  go_enter Try.func45, Try.ntmps45
  go_wp2_with fail
  refine hc.out.mono ?_
  rintro e w1 ⟨rfl, rfl⟩
  clear hc hW1
  go_wp2_with fail
  go_region
  go_wp2_with fail
  go_ret
  exact ⟨rfl, hfin.out.keep (Below.refl _ _).drew, hbut2.out.drew⟩
set_option maxRecDepth 100000 in
set_option maxHeartbeats 4000000 in
theorem rsetl_not (qb kb kc n : Nat) (f i a b : Int) (w : World) (q0 : w.cell? ⟨qb, 0, none⟩ = some (.slice (some ⟨kb, 0, none⟩) n kc)) (hn : n ≤ 64) (hr : inR n f i) (hk : ¬ (a ≤ 15 ∧ b ≤ 15)) :
    Calls Try.prog 45 #[.pointer (some ⟨qb, 0, none⟩), .int .i64 f, .int .i64 i, .agg #[.int .u8 a, .int .u8 b]] w fun e w' => e = .returned (.bool false) ∧ Below w.heap.size w w' := by
  have hA : Below w.heap.size w (w.alloc (.cells #[.int .u8 a, .int .u8 b] 42)) := (Below.refl _ _).alloc (Nat.le_refl _) _
  have hbk := Blk.new w #[.int .u8 a, .int .u8 b] 42
  have q1 := (hA.cell (World.block_lt_of_cell? _ _ q0)).trans q0
  obtain ⟨W1, hW1⟩ : ∃ W1, w.alloc (.cells #[.int .u8 a, .int .u8 b] 42) = W1 := ⟨_, rfl⟩
  rw [hW1] at hA hbk q1
  have hc := in_calls qb kb kc n f i W1 q1 hn
  rw [decide_eq_true hr] at hc
  have x0 := hbk.cell 0 rfl
  have x1 := hbk.cell 1 rfl
  replace hc := Lib.hid hc
  replace hA := Lib.hid hA
  clear q0 q1 hbk hr
  by_cases g1 : 15 < a
  · clear hk
    go_enter Try.func45, Try.ntmps45
    go_wp2_with fail
    refine hc.out.mono ?_
    rintro e w1 ⟨rfl, rfl⟩
    clear hc hW1
    go_wp2_with fail
    go_ret
    exact ⟨rfl, hA.out⟩
  · have g1' : decide (15 < a) = false := by simp; omega
    have g2 : 15 < b := by omega
    clear hk
    go_enter Try.func45, Try.ntmps45
    go_wp2_with fail
    refine hc.out.mono ?_
    rintro e w1 ⟨rfl, rfl⟩
    clear hc hW1
    go_wp2_with fail
    go_ret
    exact ⟨rfl, hA.out⟩
end Go.Proofs.Ytlaodkolkoefgaa
