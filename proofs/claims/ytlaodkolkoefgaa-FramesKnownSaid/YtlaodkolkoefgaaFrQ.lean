/-
  What a frame keeps while another one is changed: in plain Lean. Stored chunks beside a pool.
-/
import Derived.Test.YtlaodkolkoefgaaFrN
import Derived.Test.YtlaodkolkoefgaaChunkE
namespace Go.Proofs.Ytlaodkolkoefgaa
open Go.RowKit
set_option linter.unusedSimpArgs false
set_option linter.unusedVariables false

theorem partP_congr {g h : Nat → Int × Int} {k : Nat} (e : ∀ i, i < k → g i = h i) : partP k g = partP k h := by
  funext i
  unfold partP
  by_cases hi : i < k
  · rw [if_pos hi, if_pos hi, e i hi]
  · rw [if_neg hi, if_neg hi]
theorem partP_at {g : Nat → Int × Int} {k i : Nat} (hi : i < k) : partP k g i = g i := if_pos hi
theorem partP_zeroP (k f : Nat) : partP k (shP f zeroP) = zeroP := by funext i; unfold partP shP zeroP; split <;> rfl
theorem U8.part {g : Nat → Int × Int} (h : U8 g) (k : Nat) : U8 (partP k g) := fun i => by
  unfold partP
  split
  · exact h i
  · simp
theorem tickD_zero : ∀ k, tickD (fun _ => 0) k = []
  | 0 => rfl
  | k + 1 => by unfold tickD; rw [tickD_zero k]; rfl
theorem sh_putP (f : Nat) (g h : Nat → Int × Int) {i : Nat} (hi : i < 4096) : shP f (putP f g h) i = g i := by
  unfold shP putP
  rw [if_pos (by omega), show f * 4096 + i - f * 4096 = i by omega]
theorem sh_putD (f : Nat) (g h : Nat → Int) {i : Nat} (hi : i < 4096) : shD f (putD f g h) i = g i := by
  unfold shD putD
  rw [if_pos (by omega), show f * 4096 + i - f * 4096 = i by omega]
theorem sh_setP {n f : Nat} {ok : Bool} {ce : Nat → Int × Int} {g i : Int} {v : Int × Int} (hg : g ≠ f) {j : Nat} (hj : j < 4096) : shP f (setP n ok ce g i v) j = shP f ce j := by
  unfold shP setP
  split
  · rename_i h
    have h1 := h.1
    unfold inR at h1
    rw [updP_other (by omega)]
  · rfl
theorem sh_wakeD {n f : Nat} {du : Nat → Int} {g i d : Int} (hg : g ≠ f) {j : Nat} (hj : j < 4096) : shD f (wakeD n du g i d) j = shD f du j := by
  unfold shD wakeD
  split
  · rename_i h
    have h1 := h.1
    unfold inR at h1
    rw [updD_other (by omega)]
  · rfl
theorem allN_congr {p q : Nat → Bool} : ∀ {n : Nat}, (∀ i, i < n → p i = q i) → allN p n = allN q n
  | 0, _ => rfl
  | n + 1, h => by
    unfold allN
    rw [allN_congr (fun i hi => h i (by omega)), h n (by omega)]
theorem checkE_part (ce li : Nat → Int × Int) (ts : List Tk) : checkE (partP 4096 ce) (partP 4096 li) ts = checkE ce li ts := by
  unfold checkE
  rw [allN_congr (p := mayC (partP 4096 ce)) (q := mayC ce) (fun i hi => by unfold mayC; rw [partP_at hi]), allN_congr (p := litC (partP 4096 li)) (q := litC li) (fun i hi => by unfold litC; rw [partP_at hi])]
theorem sameB_part (ce li : Nat → Int × Int) (ts : List Tk) : sameB (partP 4096 ce) ce (partP 4096 li) li ts ts = true := sameB_iff.2 ⟨fun i hi => ⟨partP_at hi, partP_at hi⟩, rfl⟩

/-- A chunk beside the slab in block sb. -/
def Sk (sb : Nat) (W : World) (b : Nat) (ce li : Nat → Int × Int) (ts : List Tk) : Prop := ∃ s, Ck W b ce li s ∧ TRow W s ts ∧ b ≠ sb ∧ Apart s sb
section
variable {sb b b' : Nat} {W W' : World} {ce li ce' li' : Nat → Int × Int} {ts us : List Tk}
theorem Sk.keep (h : Sk sb W b ce li ts) (hb : Below W.heap.size W W') : Sk sb W' b ce li ts := h.elim fun s h => ⟨s, h.1.keep hb, h.2.1.keep hb, h.2.2⟩
theorem Sk.but (h : Sk sb W b ce li ts) (hb : But sb W W') : Sk sb W' b ce li ts := h.elim fun s h => ⟨s, h.1.but hb h.2.2.1, SRow.but h.2.1 hb (Or.inr h.2.2.2), h.2.2⟩
theorem Sk.lt (h : Sk sb W b ce li ts) : b < W.heap.size := h.elim fun s h => h.1.lt
theorem Sk.same (h : Sk sb W b ce li ts) (k : Sk sb W b' ce' li' us) :
    Calls Try.prog 11 #[.pointer (some ⟨b, 0, none⟩), .pointer (some ⟨b', 0, none⟩)] W fun e w' => e = .returned (.bool (sameB ce ce' li li' ts us)) ∧ Below W.heap.size W w' := by
  obtain ⟨s, h1, h2, _⟩ := h
  obtain ⟨s', k1, k2, _⟩ := k
  exact (same_calls b b' ce ce' li li' s s' ts us W h1 k1 h2 k2).mono fun _ _ ⟨he, q, hw⟩ => ⟨he, by rw [hw]; exact below_drewN (Below.refl _ _) q⟩
theorem Sk.check (h : Sk sb W b ce li ts) (hu : U8 ce) :
    Calls Try.prog 10 #[.pointer (some ⟨b, 0, none⟩)] W fun e w' => e = .returned (.int .i64 (checkE ce li ts)) ∧ Below W.heap.size W w' := by
  obtain ⟨s, h1, h2, _⟩ := h
  exact check_calls b ce li s ts W h1 h2 hu
end
/-- A stored chunk is beside the slab. -/
theorem Sk.of_own {sb b : Nat} {W W' : World} {ce li : Nat → Int × Int} {s : Value} {ts : List Tk} (hs : sb < W.heap.size) (hb : W.heap.size ≤ b) (h1 : Ck W' b ce li s) (h2 : TOwn W' (b + 1) s ts) : Sk sb W' b ce li ts := ⟨s, h1, h2.row, by omega, h2.apart (by omega)⟩
section
variable {w W : World} {pb sb tb n : Nat} {ce li : Nat → Int × Int} {du : Nat → Int} {tk : Nat → Bool}
theorem Fp.storeS (h : Fp w W pb sb tb n ce li du tk) {f : Nat} (hf : f < n) {CE LI : Nat → Int × Int} {ts : List Tk} (h1 : partP 4096 (shP f ce) = CE) (h2 : partP 4096 (shP f li) = LI) (h3 : tickD (shD f du) 4096 = ts) :
    Calls Try.prog 12 #[.pointer (some ⟨pb, 0, none⟩), .int .i64 f] W fun e w' => ∃ b, e = .returned (.pointer (some ⟨b, 0, none⟩)) ∧ W.heap.size ≤ b ∧ Sk sb w' b CE LI ts ∧ Fp w w' pb sb tb n ce li du tk ∧ Below W.heap.size W w' := by
  have := h.store hf
  rw [h1, h2, h3] at this
  exact this.mono fun _ _ ⟨b, s, he, hb, hk, ho, hF, hB⟩ => ⟨b, he, hb, Sk.of_own h.lt hb hk ho, hF, hB⟩
theorem Fp.loadS (h : Fp w W pb sb tb n ce li du tk) {f cb : Nat} {cce cli : Nat → Int × Int} {ts : List Tk} (hf : f < n) (hk : Sk sb W cb cce cli ts) (hu : U8 cce) (hul : U8 cli) (hok : checkE cce cli ts = 0) :
    Calls Try.prog 9 #[.pointer (some ⟨pb, 0, none⟩), .int .i64 f, .pointer (some ⟨cb, 0, none⟩)] W fun e w' => e = .returned (.int .i64 0) ∧ Fp w w' pb sb tb n (putP f cce ce) (putP f cli li) (putD f (duF ts) du) tk ∧ But sb W w' := by
  obtain ⟨s, h1, h2, _⟩ := hk
  exact h.load hf h1 h2 hu hul hok
theorem Fp.loadBadS (h : Fp w W pb sb tb n ce li du tk) {f cb : Nat} {cce cli : Nat → Int × Int} {ts : List Tk} (hf : f < n) (hk : Sk sb W cb cce cli ts) (hu : U8 cce) (hok : checkE cce cli ts ≠ 0) :
    Calls Try.prog 9 #[.pointer (some ⟨pb, 0, none⟩), .int .i64 f, .pointer (some ⟨cb, 0, none⟩)] W fun e w' => e = .returned (.int .i64 (checkE cce cli ts)) ∧ Fp w w' pb sb tb n ce li du tk ∧ Below W.heap.size W w' := by
  obtain ⟨s, h1, h2, _⟩ := hk
  exact h.loadBad hf h1 h2 hu hok
end
/-- The last looks of FramesBack. -/
theorem back_7 (ce : Nat → Int × Int) : atP 3 (setP 3 (mayK 2 0) ce 1 7 (2, 0)) 1 7 = (2, 0) := by
  have h1 : inR 3 1 7 := by unfold inR; omega
  have h2 : mayK 2 0 = true := by decide
  unfold atP setP
  rw [if_pos h1, if_pos ⟨h1, h2⟩]
  exact updP_same _ _ _
theorem back_8 (CE : Nat → Int × Int) (ok : Bool) (at' : Int) (v : Int × Int) : atP 3 (setP 3 (mayK 2 0) (setP 3 ok (putP 1 CE zeroP) 0 at' v) 1 7 (2, 0)) 1 8 = CE 8 := by
  have h1 : inR 3 1 8 := by unfold inR; omega
  have h2 : inR 3 1 7 := by unfold inR; omega
  have h3 : mayK 2 0 = true := by decide
  have h4 := sh_setP (n := 3) (f := 1) (ok := ok) (ce := putP 1 CE zeroP) (g := 0) (i := at') (v := v) (by omega) (j := 8) (by omega)
  rw [sh_putP 1 CE zeroP (by omega)] at h4
  unfold atP
  rw [if_pos h1]
  conv => lhs; unfold setP
  rw [if_pos ⟨h2, h3⟩]
  show updP _ 4103 _ 4104 = _
  rw [updP_other (by omega)]
  exact h4
theorem back_due (du : Nat → Int) (h : 0 ≤ du 4096) : atD 3 (wakeD 3 du 1 0 1) 1 0 = 1 := by
  have h1 : inR 3 1 0 := by unfold inR; omega
  unfold atD
  rw [if_pos h1]
  show wakeD 3 du 1 0 1 4096 = 1
  unfold wakeD
  by_cases hc : du 4096 = 0 ∨ 1 < du 4096
  · rw [if_pos ⟨h1, by omega, hc⟩]
    exact updD_same _ _ _
  · rw [if_neg (fun h => hc h.2.2)]
    omega
end Go.Proofs.Ytlaodkolkoefgaa
