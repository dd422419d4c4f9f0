/-
  Lists of ticks, in plain Lean: where an index's tick stands; what Wake, Drop, Due and Least make of a list.
-/
import Derived.Test.YtpdckjbknphelaaMg0
import Derived.Test.YtpdckjbknphelaaMg5
import Derived.Test.YtpdckjbknphelaaMg9
namespace Go.Proofs.Ytpdckjbknphelaa
set_option linter.unusedSimpArgs false
set_option linter.unusedVariables false

abbrev Tk := Int × Int

def placeL (ts : List Tk) (x : Int) : Option Nat := if 0 ≤ x ∧ x < 4096 then ts.findIdx? (fun t => t.1 == x) else none
def optI : Option Nat → Int
  | some k => k
  | none => -1

theorem findIdx?_first {ts : List Tk} {p : Tk → Bool} {k : Nat} {t : Tk} (ht : ts[k]? = some t) (hp : p t = true) (hb : ∀ (j : Nat) (t' : Tk), j < k → ts[j]? = some t' → p t' = false) : ts.findIdx? p = some k := by
  rw [List.findIdx?_eq_some_iff_getElem]
  obtain ⟨hk, e⟩ := List.getElem?_eq_some_iff.1 ht
  refine ⟨hk, by rw [e]; exact hp, fun j hj => ?_⟩
  have := hb j ts[j] hj (List.getElem?_eq_getElem (by omega))
  rw [this]; simp
theorem findIdx?_no {ts : List Tk} {p : Tk → Bool} (hb : ∀ (j : Nat) (t' : Tk), ts[j]? = some t' → p t' = false) : ts.findIdx? p = none := by
  rw [List.findIdx?_eq_none_iff]
  intro t ht
  obtain ⟨j, hj, e⟩ := List.getElem_of_mem ht
  exact hb j t (by rw [List.getElem?_eq_getElem hj, e])

theorem placeL_some {ts : List Tk} {x : Int} {k : Nat} {t : Tk} (h0 : 0 ≤ x) (h1 : x < 4096) (ht : ts[k]? = some t) (hx : t.1 = x) (hb : ∀ (j : Nat) (t' : Tk), j < k → ts[j]? = some t' → t'.1 ≠ x) : placeL ts x = some k := by
  unfold placeL
  rw [if_pos ⟨h0, h1⟩]
  exact findIdx?_first ht (by simp [hx]) (fun j t' hj h => by simpa using hb j t' hj h)
theorem placeL_none {ts : List Tk} {x : Int} (hb : ∀ (j : Nat) (t' : Tk), ts[j]? = some t' → t'.1 ≠ x) : placeL ts x = none := by
  unfold placeL
  split
  · exact findIdx?_no (fun j t' h => by simpa using hb j t' h)
  · rfl
theorem placeL_out {ts : List Tk} {x : Int} (h : ¬ (0 ≤ x ∧ x < 4096)) : placeL ts x = none := by unfold placeL; rw [if_neg h]
theorem placeL_inv {ts : List Tk} {x : Int} {k : Nat} (h : placeL ts x = some k) : 0 ≤ x ∧ x < 4096 ∧ k < ts.length ∧ ∃ t, ts[k]? = some t ∧ t.1 = x ∧ ∀ (j : Nat) (t' : Tk), j < k → ts[j]? = some t' → t'.1 ≠ x := by
  unfold placeL at h
  split at h
  · rename_i hx
    rw [List.findIdx?_eq_some_iff_getElem] at h
    obtain ⟨hk, hp, hb⟩ := h
    refine ⟨hx.1, hx.2, hk, ts[k], List.getElem?_eq_getElem hk, by simpa using hp, fun j t' hj h' => ?_⟩
    have := hb j hj
    obtain ⟨hj', e⟩ := List.getElem?_eq_some_iff.1 h'
    rw [e] at this
    simpa using this
  · cases h
theorem placeL_none_inv {ts : List Tk} {x : Int} (h0 : 0 ≤ x) (h1 : x < 4096) (h : placeL ts x = none) : ∀ (j : Nat) (t' : Tk), ts[j]? = some t' → t'.1 ≠ x := by
  unfold placeL at h
  rw [if_pos ⟨h0, h1⟩, List.findIdx?_eq_none_iff] at h
  intro j t' ht
  have := h t' (List.mem_of_getElem? ht)
  simpa using this
theorem optI_lt {ts : List Tk} {x : Int} : -1 ≤ optI (placeL ts x) ∧ optI (placeL ts x) < ts.length := by
  cases h : placeL ts x with
  | none => simp [optI]; omega
  | some k => have := (placeL_inv h).2.2.1; simp [optI]; omega

def dueL (ts : List Tk) (x : Int) : Int := match placeL ts x with
  | some k => (ts.getD k (0, 0)).2
  | none => 0
theorem dueL_some {ts : List Tk} {x : Int} {k : Nat} {t : Tk} (h : placeL ts x = some k) (ht : ts[k]? = some t) : dueL ts x = t.2 := by
  unfold dueL; rw [h]; simp [List.getD, ht]
theorem dueL_none {ts : List Tk} {x : Int} (h : placeL ts x = none) : dueL ts x = 0 := by unfold dueL; rw [h]

/-- Where a tick of index x would be put. -/
def upL (ts : List Tk) (x : Int) : Nat := (ts.findIdx? (fun t => decide (x < t.1))).getD ts.length
theorem upL_le (ts : List Tk) (x : Int) : upL ts x ≤ ts.length := by
  unfold upL
  cases h : ts.findIdx? (fun t => decide (x < t.1)) with
  | none => simp
  | some k =>
    rw [List.findIdx?_eq_some_iff_getElem] at h
    obtain ⟨hk, _⟩ := h
    simp; omega
theorem upL_before {ts : List Tk} {x : Int} {j : Nat} {t : Tk} (hj : j < upL ts x) (ht : ts[j]? = some t) : t.1 ≤ x := by
  unfold upL at hj
  cases h : ts.findIdx? (fun t => decide (x < t.1)) with
  | none =>
    rw [List.findIdx?_eq_none_iff] at h
    have := h t (List.mem_of_getElem? ht)
    simpa using this
  | some k =>
    rw [h] at hj
    rw [List.findIdx?_eq_some_iff_getElem] at h
    obtain ⟨hk, _, hb⟩ := h
    have := hb j (by simpa using hj)
    obtain ⟨hj', e⟩ := List.getElem?_eq_some_iff.1 ht
    rw [e] at this
    simpa using this
theorem upL_at {ts : List Tk} {x : Int} {t : Tk} (ht : ts[upL ts x]? = some t) : x < t.1 := by
  unfold upL at ht
  cases h : ts.findIdx? (fun t => decide (x < t.1)) with
  | none =>
    rw [h] at ht
    simp at ht
  | some k =>
    rw [h] at ht
    rw [List.findIdx?_eq_some_iff_getElem] at h
    obtain ⟨hk, hp, _⟩ := h
    simp only [Option.getD_some] at ht
    obtain ⟨hj', e⟩ := List.getElem?_eq_some_iff.1 ht
    rw [e] at hp
    simpa using hp
theorem upL_eq {ts : List Tk} {x : Int} {k : Nat} (hk : k ≤ ts.length) (hb : ∀ (j : Nat) (t' : Tk), j < k → ts[j]? = some t' → t'.1 ≤ x) (ha : ∀ (t : Tk), ts[k]? = some t → x < t.1) : upL ts x = k := by
  rcases Nat.lt_trichotomy (upL ts x) k with h | h | h
  · exfalso
    have hlt : upL ts x < ts.length := by omega
    have h1 := upL_at (List.getElem?_eq_getElem hlt)
    have h2 := hb _ _ h (List.getElem?_eq_getElem hlt)
    omega
  · exact h
  · exfalso
    have hlt : k < ts.length := by have := upL_le ts x; omega
    have h1 := upL_before h (List.getElem?_eq_getElem hlt)
    have h2 := ha _ (List.getElem?_eq_getElem hlt)
    omega

def insL (ts : List Tk) (k : Nat) (t : Tk) : List Tk := ts.take k ++ t :: ts.drop k
def minI (a b : Int) : Int := if b < a then b else a

def wakeOk (x d : Int) : Bool := decide (0 ≤ x ∧ x < 4096 ∧ 1 ≤ d)
def wakeL (ts : List Tk) (x d : Int) : List Tk :=
  if wakeOk x d then (match placeL ts x with
    | some k => ts.set k (x, minI (ts.getD k (0, 0)).2 d)
    | none => insL ts (upL ts x) (x, d)) else ts
theorem wakeL_no {ts : List Tk} {x d : Int} (h : ¬ (0 ≤ x ∧ x < 4096 ∧ 1 ≤ d)) : wakeL ts x d = ts := by unfold wakeL; rw [if_neg]; simpa [wakeOk] using h
theorem wakeL_set {ts : List Tk} {x d : Int} {k : Nat} {t : Tk} (hd : 1 ≤ d) (h : placeL ts x = some k) (ht : ts[k]? = some t) : wakeL ts x d = ts.set k (x, minI t.2 d) := by
  obtain ⟨h0, h1, _⟩ := placeL_inv h
  unfold wakeL
  rw [if_pos (by simp [wakeOk]; omega), h]
  simp [List.getD, ht]
theorem wakeL_ins {ts : List Tk} {x d : Int} (h0 : 0 ≤ x) (h1 : x < 4096) (hd : 1 ≤ d) (h : placeL ts x = none) : wakeL ts x d = insL ts (upL ts x) (x, d) := by
  unfold wakeL
  rw [if_pos (by simp [wakeOk]; omega), h]
theorem wakeL_len (ts : List Tk) (x d : Int) : (wakeL ts x d).length ≤ ts.length + 1 := by
  unfold wakeL
  split
  · split
    · simp
    · have := upL_le ts x
      simp [insL, List.length_take, List.length_drop]; omega
  · omega

def dropL (ts : List Tk) (x : Int) : List Tk := match placeL ts x with
  | some k => ts.eraseIdx k
  | none => ts
theorem dropL_len (ts : List Tk) (x : Int) : (dropL ts x).length ≤ ts.length := by
  unfold dropL
  split
  · rw [List.length_eraseIdx]; split <;> omega
  · omega

def leastL : List Tk → Int
  | [] => 0
  | t :: r => r.foldl (fun m u => if u.2 < m then u.2 else m) t.2
theorem leastL_step {ts : List Tk} {k : Nat} {t : Tk} (ht : ts[k]? = some t) : leastL (ts.take (k + 1)) = if k = 0 then t.2 else if t.2 < leastL (ts.take k) then t.2 else leastL (ts.take k) := by
  obtain ⟨hk, e⟩ := List.getElem?_eq_some_iff.1 ht
  rw [List.take_succ_eq_append_getElem hk, e]
  cases ts with
  | nil => simp at hk
  | cons u r =>
    cases k with
    | zero => simp [leastL] at *
    | succ k =>
      simp only [List.take_succ_cons, List.cons_append, leastL, List.foldl_append, List.foldl_cons, List.foldl_nil]
      rw [if_neg (show ¬ (k + 1 = 0) by omega)]
      rfl
end Go.Proofs.Ytpdckjbknphelaa

/-
  The document's answers of layer 7 that read a list of ticks: place, Due, Least, Ticks.
-/
namespace Go.Proofs.Ytpdckjbknphelaa
open Go.RowKit
set_option linter.unusedSimpArgs false
set_option linter.unusedVariables false

end Go.Proofs.Ytpdckjbknphelaa

/-
  A frame's ticks, by indexes.
-/
namespace Go.Proofs.Ytpdckjbknphelaa
open Go.RowKit
set_option linter.unusedSimpArgs false
set_option linter.unusedVariables false

/-- The ticks of the first k cells. -/
def tickD (g : Nat → Int) : Nat → List Tk
  | 0 => []
  | k + 1 => tickD g k ++ (if 0 < g k then [((k : Int), g k)] else [])
theorem tickD_len (g : Nat → Int) : ∀ k, (tickD g k).length ≤ k
  | 0 => Nat.le_refl _
  | k + 1 => by
    have := tickD_len g k
    unfold tickD
    rw [List.length_append]
    split <;> simp <;> omega

set_option maxRecDepth 100000 in
set_option maxHeartbeats 4000000 in
theorem pticks_in (pb sb tb n : Nat) (ce li : Nat → Int × Int) (du : Nat → Int) (tk : Nat → Bool) (f : Nat) (w : World) (h : Po w pb sb tb n ce li du tk) (hf : f < n) :
    Calls Try.prog 63 #[.pointer (some ⟨pb, 0, none⟩), .int .i64 f] w fun e w' => ∃ v, e = .returned v ∧ TOwn w' w.heap.size v (tickD (fun i => du (f * 4096 + i)) 4096) ∧ Below w.heap.size w w' := by
  have hc := frame_in pb sb tb n f w h.pool h.n64 hf
  have hn64 := h.n64
  obtain ⟨g, hg⟩ : ∃ g : Nat → Int, (fun i => du (f * 4096 + i)) = g := ⟨_, rfl⟩
  have hgb : ∀ i, 0 ≤ g i ∧ g i ≤ 2199023255552 := fun i => by rw [← hg]; exact h.dub _
  have hu : ∀ (W : World) (k C : Nat), Below w.heap.size w W → k < 4096 → 10 ≤ C → C ≤ 40960 → Calls Try.prog 69 #[.slice (some ⟨sb, f * 40960 + k * 10, none⟩) 10 C] W fun e w' => e = .returned (.int .i64 (g k)) ∧ w' = W := fun W k C hb hk h10 hC =>
    fdue_calls sb (f * 40960 + k * 10) 10 C (g k) W (hgb k).1 (by have := (hgb k).2; omega) (Nat.le_refl _) (by omega) h10 (fun b hb6 => by
      rw [(h.keep hb).slab.cell (by omega), show f * 40960 + k * 10 + (4 + b) = (f * 4096 + k) * 10 + (4 + b) by omega, slabF_4 _ hb6, ← hg])
  rw [hg]
  replace hc := Lib.hid hc
  replace hu := Lib.hid hu
  replace hgb := Lib.hid hgb
  clear h hg
  go_enter Try.func63, Try.ntmps63
  go_wp2_with fail
  refine hc.out.mono ?_
  rintro e w1 ⟨rfl, rfl⟩
  clear hc
  go_wp2_with fail
  go_loopw [4, 6] (fun v i W => ∃ k : Nat, k ≤ 4096 ∧ i = .int .i64 ((k : Int) * 10) ∧ TOwn W w1.heap.size v (tickD g k) ∧ Below w1.heap.size w1 W) (fun _ i _ => 40960 - (intOf i).toNat)
  case atStart => exact ⟨0, by omega, rfl, TOwn.nil _ _, Below.refl _ _⟩
  case round =>
    obtain ⟨k, hk, rfl, hown, HB⟩ := hrel
    have hz := HB.size
    have hlen := tickD_len g k
    have hwb : IntKind.i64.wrap ((k : Int) * 10 + 10) = (k : Int) * 10 + 10 := IntWalk.i64_in _ (by omega)
    by_cases hlt : k < 4096
    · have hcal := hu.out wr k (40960 - k * 10) HB hlt (by omega) (by omega)
      have hst : tickD g (k + 1) = tickD g k ++ (if 0 < g k then [((k : Int), g k)] else []) := rfl
      have hgk := hgb.out k
      obtain ⟨G, hG⟩ : ∃ G, g k = G := ⟨_, rfl⟩
      rw [hG] at hcal hst hgk
      have hkz : (k : Int) * 10 < 40960 := by omega
      have hkn : ((k : Int) * 10).toNat = k * 10 := by omega
      have hkn2 : ((k : Int) * 10 + 10).toNat = k * 10 + 10 := by omega
      replace hcal := Lib.hid hcal
      replace hst := Lib.hid hst
      replace hown := Lib.hid hown
      replace HB := Lib.hid HB
      clear hG
      go_wp2_with fail
      refine hcal.out.mono ?_
      rintro e W2 ⟨rfl, rfl⟩
      clear hcal
      have hq1 : (k : Int) * 10 / 10 = k := by omega
      have hq2 : ((k : Int) * 10).tdiv 10 = k := by rw [Int.tdiv_eq_ediv_of_nonneg (by omega)]; exact hq1
      by_cases hp : 0 < G
      · have hst2 := hst.out
        rw [if_pos hp] at hst2
        clear hst
        replace hst2 := Lib.hid hst2
        go_wp2_with (at_builtin; refine wpList_append_ticks rfl (.tmp 25) (.tmp 30) rfl rfl rfl (hown.out.alloc _) (trow_one (Blk.new_at _ _ (by simp))) (by simp; omega) (by simp; omega) ?_)
        intro v' w' h4 h5 h6
        have HB2 := below_own (HB.out.alloc hz _) (hown.out.alloc _) h5 (by simp; omega)
        rw [← hst2.out] at h4
        replace h4 := Lib.hid h4
        replace HB2 := Lib.hid HB2
        clear h5 h6
        go_wp2_with fail
        go_roundw
        case rel => exact ⟨k + 1, by omega, by go_num, h4.out, HB2.out⟩
        case measure => simp [intOf]; omega
      · have hst2 := hst.out
        rw [if_neg hp, List.append_nil] at hst2
        clear hst
        have hG0 : G = 0 := by omega
        have hpd : decide (0 < G) = false := by simp; omega
        replace hst2 := Lib.hid hst2
        replace hG0 := Lib.hid hG0
        go_wp2_with fail
        go_roundw
        case rel => exact ⟨k + 1, by omega, by go_num, by rw [hst2.out]; exact hown.out, HB.out⟩
        case measure => simp [intOf]; omega
    · obtain rfl : k = 4096 := by omega
      replace hown := Lib.hid hown
      replace HB := Lib.hid HB
      go_wp2_with fail
      go_ret
      exact ⟨_, rfl, hown.out, HB.out⟩
set_option maxRecDepth 100000 in
set_option maxHeartbeats 4000000 in
theorem pticks_none (p : Option Addr) (f : Int) (w : World) (hc : Calls Try.prog 51 #[.pointer p, .int .i64 f] w fun e w' => e = .returned (.slice none 0 0) ∧ w' = w) :
    Calls Try.prog 63 #[.pointer p, .int .i64 f] w fun e w' => e = .returned (.slice none 0 0) ∧ w' = w := by
  replace hc := Lib.hid hc
  go_enter Try.func63, Try.ntmps63
  go_wp2_with fail
  refine hc.out.mono ?_
  rintro e w1 ⟨rfl, rfl⟩
  clear hc
  go_wp2_with fail
  go_loop [4, 6] (fun v i => v = .slice none 0 0 ∧ i = .int .i64 0) (fun _ _ => 1)
  case atStart => exact ⟨rfl, rfl⟩
  case round =>
    obtain ⟨rfl, rfl⟩ := hrel
    go_wp2_with fail
    go_ret
    exact ⟨rfl, rfl⟩
/-- What a frame's ticks are. -/
def tickF (n : Nat) (du : Nat → Int) (f : Int) : List Tk := if 0 ≤ f ∧ f < n then tickD (fun i => du (f.toNat * 4096 + i)) 4096 else []
theorem pticks_calls (pb sb tb n : Nat) (ce li : Nat → Int × Int) (du : Nat → Int) (tk : Nat → Bool) (f : Int) (w : World) (h : Po w pb sb tb n ce li du tk) :
    Calls Try.prog 63 #[.pointer (some ⟨pb, 0, none⟩), .int .i64 f] w fun e w' => ∃ v, e = .returned v ∧ TOwn w' w.heap.size v (tickF n du f) ∧ Below w.heap.size w w' := by
  unfold tickF
  by_cases hf : 0 ≤ f ∧ f < n
  · rw [if_pos hf]
    obtain ⟨m, rfl⟩ : ∃ m : Nat, f = (m : Int) := ⟨f.toNat, by omega⟩
    simp only [Int.toNat_natCast]
    exact pticks_in pb sb tb n ce li du tk m w h (by omega)
  · rw [if_neg hf]
    exact (pticks_none _ f w (frame_out pb n n _ f w h.c1 (by have := h.n64; omega) (Nat.le_refl _) hf)).mono fun _ _ ⟨he, hw⟩ => ⟨_, he, TOwn.nil _ _, by rw [hw]; exact Below.refl _ _⟩
end Go.Proofs.Ytpdckjbknphelaa
