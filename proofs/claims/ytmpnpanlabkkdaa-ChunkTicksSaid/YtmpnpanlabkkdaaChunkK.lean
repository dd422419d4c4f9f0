/-
  A chunk of the walk's own, in a new block: what each call leaves of it. The calls on no chunk.
-/
import Derived.Test.YtmpnpanlabkkdaaChunkAw
import Derived.Test.YtmpnpanlabkkdaaChunkZ
import Derived.Test.YtmpnpanlabkkdaaChunkE
namespace Go.Proofs.Ytmpnpanlabkkdaa
open Go.RowKit
set_option linter.unusedSimpArgs false
set_option linter.unusedVariables false

/-- At the world w's first new block lies a chunk with these ticks; below it nothing has changed. -/
def Kn (w W : World) (ce li : Nat → Int × Int) (ts : List Tk) : Prop := ∃ s, Ck W w.heap.size ce li s ∧ TRow W s ts ∧ Apart s w.heap.size ∧ Below w.heap.size w W
section
variable {w W W' : World} {ce li : Nat → Int × Int} {ts : List Tk}
theorem Kn.below (h : Kn w W ce li ts) : Below w.heap.size w W := h.elim fun _ h => h.2.2.2
theorem Kn.lt (h : Kn w W ce li ts) : w.heap.size < W.heap.size := h.elim fun _ h => h.1.lt
theorem Kn.keep (h : Kn w W ce li ts) (hb : Below W.heap.size W W') : Kn w W' ce li ts := h.elim fun s h => ⟨s, h.1.keep hb, h.2.1.keep hb, h.2.2.1, h.2.2.2.trans (hb.mono h.2.2.2.size)⟩
theorem Kn.alloc (h : Kn w W ce li ts) (o : Obj) : Kn w (W.alloc o) ce li ts := h.keep ((Below.refl _ _).alloc (Nat.le_refl _) o)
theorem Kn.drew (h : Kn w W ce li ts) : Kn w W.drew ce li ts := h.keep (Below.refl _ _).drew
theorem Kn.drewN (h : Kn w W ce li ts) (n : Nat) : Kn w (W.drewN n) ce li ts := h.keep (below_drewN (Below.refl _ _) n)
theorem Kn.woke {ts' : List Tk} {s : Value} (h : Kn w W ce li ts) (k : Woke w.heap.size ce li s ts' W W') : Kn w W' ce li ts' := by
  obtain ⟨_, h1, h2, h3, h4⟩ := h
  obtain ⟨s', k1, k2, k3, k4, _⟩ := k
  exact ⟨s', k1, k2, k3, But.step h4 k4 (Nat.le_refl _) h4.size⟩
theorem Kn.wake (h : Kn w W ce li ts) (x d : Int) (hlen : ts.length ≤ 800000) :
    Calls Try.prog 25 #[.pointer (some ⟨w.heap.size, 0, none⟩), .int .i64 x, .int .i64 d] W fun e w' => e = .returned (.tuple #[]) ∧ Kn w w' ce li (wakeL ts x d) := by
  have h' := h
  obtain ⟨s, h1, h2, h3, h4⟩ := h
  exact (wake_calls _ ce li s ts x d W h1 h2 h3 hlen).mono fun _ _ ⟨he, hw⟩ => ⟨he, h'.woke hw⟩
theorem Kn.drop (h : Kn w W ce li ts) (x : Int) (hlen : ts.length ≤ 800000) :
    Calls Try.prog 23 #[.pointer (some ⟨w.heap.size, 0, none⟩), .int .i64 x] W fun e w' => e = .returned (.tuple #[]) ∧ Kn w w' ce li (dropL ts x) := by
  have h' := h
  obtain ⟨s, h1, h2, h3, h4⟩ := h
  exact (drop_calls _ ce li s ts x W h1 h2 h3 hlen).mono fun _ _ ⟨he, hw⟩ => ⟨he, h'.woke hw⟩
theorem Kn.due (h : Kn w W ce li ts) (x : Int) :
    Calls Try.prog 27 #[.pointer (some ⟨w.heap.size, 0, none⟩), .int .i64 x] W fun e w' => e = .returned (.int .i64 (dueL ts x)) ∧ Kn w w' ce li ts ∧ Below W.heap.size W w' := by
  have h' := h
  obtain ⟨s, h1, h2, h3, h4⟩ := h
  exact (due_calls _ ce li s ts x W h1 h2).mono fun _ _ ⟨he, hw⟩ => ⟨he, h'.keep hw, hw⟩
theorem Kn.least (h : Kn w W ce li ts) :
    Calls Try.prog 19 #[.pointer (some ⟨w.heap.size, 0, none⟩)] W fun e w' => e = .returned (.int .i64 (leastL ts)) ∧ Kn w w' ce li ts ∧ Below W.heap.size W w' := by
  have h' := h
  obtain ⟨s, h1, h2, h3, h4⟩ := h
  exact (least_calls _ ce li s ts W h1 h2).mono fun _ _ ⟨he, hw⟩ => ⟨he, h'.keep hw, hw⟩
theorem Kn.movable (h : Kn w W ce li ts) (hu : U8 ce) :
    Calls Try.prog 13 #[.pointer (some ⟨w.heap.size, 0, none⟩)] W fun e w' => e = .returned (.int .i64 (movN ce 4096)) ∧ Kn w w' ce li ts ∧ Below W.heap.size W w' := by
  have h' := h
  obtain ⟨s, h1, h2, h3, h4⟩ := h
  exact (movable_calls _ ce li s W h1 hu).mono fun _ _ ⟨he, hw⟩ => ⟨he, h'.keep hw, hw⟩
theorem Kn.ready (h : Kn w W ce li ts) (now : Int) (hlen : ts.length ≤ 900000) :
    Calls Try.prog 21 #[.pointer (some ⟨w.heap.size, 0, none⟩), .int .i64 now] W fun e w' => ∃ v rs, e = .returned v ∧ TRow w' v rs ∧ rs.Perm (ts.filter (dueF now)) ∧ rs.Pairwise (fun x y => ltR y x = false) ∧ Kn w w' ce li ts ∧ Below W.heap.size W w' := by
  have h' := h
  obtain ⟨s, h1, h2, h3, h4⟩ := h
  exact (ready_calls _ ce li s ts now W h1 h2 hlen).mono fun _ _ ⟨v, rs, he, ho, hw, hp, hq⟩ => ⟨v, rs, he, ho.row, hp, hq, h'.keep hw, hw⟩
end

/-! No chunk. -/
set_option maxHeartbeats 1000000 in
theorem check_nil (w : World) : Calls Try.prog 11 #[.pointer none] w fun e w' => e = .returned (.int .i64 1) ∧ Below w.heap.size w w' := by
  go_enter Try.func11, Try.ntmps11
  go_wp2_with fail
  go_ret
  exact ⟨rfl, Below.refl _ _⟩
set_option maxHeartbeats 1000000 in
theorem copy_nil (w : World) : Calls Try.prog 16 #[.pointer none] w fun e w' => e = .returned (.pointer none) ∧ Below w.heap.size w w' := by
  go_enter Try.func16, Try.ntmps16
  go_wp2_with fail
  go_ret
  exact ⟨rfl, Below.refl _ _⟩
set_option maxHeartbeats 1000000 in
theorem place_nil (x : Int) (w : World) : Calls Try.prog 45 #[.pointer none, .int .i64 x] w fun e w' => e = .returned (.int .i64 (-1)) ∧ Below w.heap.size w w' := by
  go_enter Try.func45, Try.ntmps45
  go_wp2_with fail
  go_ret
  exact ⟨rfl, (Below.refl _ _).alloc (Nat.le_refl _) _⟩
set_option maxHeartbeats 1000000 in
theorem wake_nil (x d : Int) (w : World) : Calls Try.prog 25 #[.pointer none, .int .i64 x, .int .i64 d] w fun e w' => e = .returned (.tuple #[]) ∧ Below w.heap.size w w' := by
  go_enter Try.func25, Try.ntmps25
  go_wp2_with fail
  refine bodyPost_ret (results_none rfl _ _ _) rfl ?_
  exact ⟨rfl, (Below.refl _ _).alloc (Nat.le_refl _) _⟩
set_option maxHeartbeats 1000000 in
theorem drop_nil (x : Int) (w : World) : Calls Try.prog 23 #[.pointer none, .int .i64 x] w fun e w' => e = .returned (.tuple #[]) ∧ Below w.heap.size w w' := by
  have hp := place_nil x w
  replace hp := Lib.hid hp
  go_enter Try.func23, Try.ntmps23
  go_wp2_with fail
  refine hp.out.mono ?_
  rintro e W ⟨rfl, hb⟩
  replace hb := Lib.hid hb
  go_wp2_with fail
  refine bodyPost_end (results_none rfl _ _ _) rfl ?_
  exact ⟨rfl, hb.out⟩
set_option maxHeartbeats 1000000 in
theorem due_nil (x : Int) (w : World) : Calls Try.prog 27 #[.pointer none, .int .i64 x] w fun e w' => e = .returned (.int .i64 0) ∧ Below w.heap.size w w' := by
  have hp := place_nil x w
  replace hp := Lib.hid hp
  go_enter Try.func27, Try.ntmps27
  go_wp2_with fail
  refine hp.out.mono ?_
  rintro e W ⟨rfl, hb⟩
  replace hb := Lib.hid hb
  go_wp2_with fail
  go_ret
  exact ⟨rfl, hb.out⟩
set_option maxHeartbeats 1000000 in
theorem least_nil (w : World) : Calls Try.prog 19 #[.pointer none] w fun e w' => e = .returned (.int .i64 0) ∧ Below w.heap.size w w' := by
  go_enter Try.func19, Try.ntmps19
  go_wp2_with fail
  go_ret
  exact ⟨rfl, Below.refl _ _⟩
set_option maxHeartbeats 1000000 in
theorem movable_nil (w : World) : Calls Try.prog 13 #[.pointer none] w fun e w' => e = .returned (.int .i64 0) ∧ Below w.heap.size w w' := by
  go_enter Try.func13, Try.ntmps13
  go_wp2_with fail
  go_ret
  exact ⟨rfl, Below.refl _ _⟩

theorem erow_one {w : World} {b : Nat} {a x y u v : Int} {T : TypeId} (h : Blk w b [.int .i64 a, .int .u8 x, .int .u8 y, .int .u8 u, .int .u8 v] T) : ERow w (.slice (some ⟨b, 0, none⟩) 1 1) [(a, (x, y), (u, v))] := by
  refine ⟨some ⟨b, 0, none⟩, 1, rfl, ⟨Nat.le_refl _, fun e => by cases e⟩, by unfold maxLen; omega, fun _ => ⟨b, 0, rfl, fun j c hc i v hv => ?_⟩⟩
  match j, hc with
  | 0, hc =>
    obtain rfl := Option.some.inj hc
    rw [Nat.zero_mul, Nat.zero_add]
    exact h.cell i hv
set_option maxRecDepth 100000 in
set_option maxHeartbeats 1000000 in
/-- A chunk with one edit at 5. -/
theorem bad_calls (x y u v : Int) (s : Value) (ts : List Tk) (w : World) (ht : TRow w s ts) (hlen : ts.length ≤ 1000000) (hx : 0 ≤ x ∧ x ≤ 255) (hy : 0 ≤ y ∧ y ≤ 255) :
    Calls Try.prog 31 #[.agg #[.int .u8 x, .int .u8 y], .agg #[.int .u8 u, .int .u8 v], s] w fun e w' => e = .returned (.int .i64 (checkE (updP zeroP 5 (x, y)) (updP zeroP 5 (u, v)) ts)) ∧ Below w.heap.size w w' := by
  obtain ⟨base, cap, rfl, hnc, hcap, _⟩ := ht.open
  replace ht := Lib.hid ht
  go_enter Try.func31, Try.ntmps31
  go_wp2_with fail
  refine (ofe_calls _ _ [(5, (x, y), (u, v))] ts _ (erow_one (Blk.new_at _ _ (by simp))) (ht.out.keep ((((Below.refl _ _).alloc (Nat.le_refl _) _).alloc (by simp) _).alloc (by simp; omega) _)) (by omega)).mono ?_
  rintro e W ⟨he, hb, hz, s', k', o'⟩
  have hB : Below w.heap.size w W := ((((Below.refl _ _).alloc (Nat.le_refl _) _).alloc (by simp) _).alloc (by simp; omega) _).trans (hb.mono (by simp; omega))
  clear hz
  generalize (World.heap (World.alloc (World.alloc (World.alloc w _) _) _)).size = bb at he k' o'
  subst he
  have hce : edCe [(5, (x, y), (u, v))] = updP zeroP 5 (x, y) := rfl
  have hli : edLi [(5, (x, y), (u, v))] = updP zeroP 5 (u, v) := rfl
  rw [hce, hli] at k'
  have hc := check_calls _ _ _ _ _ _ k' o'.row (U8.zero.upd 5 hx hy)
  obtain ⟨C, hC⟩ : ∃ C, checkE (updP zeroP 5 (x, y)) (updP zeroP 5 (u, v)) ts = C := ⟨_, rfl⟩
  rw [hC] at hc
  replace hC := Lib.hid hC
  clear hb k' o' hce hli ht
  replace hc := Lib.hid hc
  replace hB := Lib.hid hB
  go_wp2_with fail
  refine hc.out.mono ?_
  rintro e W2 ⟨rfl, hb⟩
  have hB2 := hB.out.trans (hb.mono hB.out.size)
  replace hB2 := Lib.hid hB2
  clear hc hb hB
  go_wp2_with fail
  go_ret
  exact ⟨ret_int hC.out.symm, hB2.out⟩
end Go.Proofs.Ytmpnpanlabkkdaa
