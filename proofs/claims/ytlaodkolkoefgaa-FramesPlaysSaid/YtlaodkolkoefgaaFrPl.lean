/-
  The walk of FramesPlays.
-/
import Derived.Test.YtlaodkolkoefgaaFrPo
namespace Go.Proofs.Ytlaodkolkoefgaa
open Go.RowKit
set_option linter.unusedSimpArgs false
set_option linter.unusedVariables false

def fs0 : FS := ⟨zeroP, zeroP, fun _ => 0, fun _ => false⟩
def rs0 (x : Nat → Nat) : RS := ⟨x, fun _ => zeroP, fun _ => zeroP, fun _ => [], fun _ => false⟩
/-- Both pools are new. -/
theorem Pr.start {w W W' : World} {pb sb tb n kb kc qb ub : Nat} {x : Nat → Nat} (hF : Fp w W pb sb tb n zeroP zeroP (fun _ => 0) (fun _ => false)) (hub : ub = W.heap.size) (hR : Rp W' qb kb kc ub n x (fun _ => zeroP) (fun _ => zeroP) (fun _ => []) (fun _ => false)) (h1 : W.heap.size ≤ kb) (h2 : ∀ f, f < n → W.heap.size ≤ x f) (hb : Below W.heap.size W W') :
    Pr w W' ⟨pb, sb, tb, n, qb, kb, kc, ub⟩ fs0 (rs0 x) := by
  have hs := hF.below.size
  have ht := hF.1.take.lt
  refine { F := hF.keep hb, R := hR, tu := ?_, lk := ?_, lu := ?_, lx := fun f hf => ?_ }
  · show tb ≠ ub
    omega
  · show w.heap.size ≤ kb
    omega
  · show w.heap.size ≤ ub
    omega
  · exact Nat.le_trans hs (h2 f hf)
theorem Ld.start (n : Nat) (x : Nat → Nat) : Ld n fs0 (rs0 x) := ⟨Lk.zero n, rfl⟩
/-- What is stored of a frame is as its chunk. -/
theorem Pr.same {w W : World} {B : Bx} {s : FS} {r : RS} (h : Pr w W B s r) (hl : Ld B.n s r) {m b : Nat} (hm : m < B.n) (hc : Ch W b (partP 4096 (shP m s.ce)) (partP 4096 (shP m s.li)) (r.T m)) :
    Calls Try.prog 28 #[.pointer (some ⟨b, 0, none⟩), .pointer (some ⟨r.x m, 0, none⟩)] W fun e w' => e = .returned (.bool true) ∧ ∃ q, w' = W.drewN q := by
  obtain ⟨v1, k1, t1⟩ := hc
  obtain ⟨v2, k2, t2⟩ := h.R.ch m hm
  have hq := rsame_calls _ _ _ _ _ _ _ _ _ _ _ k1 k2 t1 t2
  rw [sameB_of (fun i hi => (partP_sh hi).trans (hl.l.c m hm i hi).symm) (fun i hi => (partP_sh hi).trans (hl.l.l m hm i hi).symm)] at hq
  exact hq
set_option maxRecDepth 100000 in
set_option maxHeartbeats 8000000 in
theorem plays_walk (n : Int) (va : Value) (xs : List PA) (w : World) (hx : PaRow w va xs) (hok : ∀ x ∈ xs, x.Ok w) :
    Calls Try.prog 5 #[.int .i64 n, va] w fun e w' => e = .returned (.bool true) ∧ Below w.heap.size w w' := by
  have haw := fun W => fawake_calls W
  replace haw := Lib.hid haw
  obtain ⟨bs, cs, hs, hcm, hrow⟩ := hx.open
  obtain ⟨L, hL⟩ : ∃ L, xs.length = L := ⟨_, rfl⟩
  rw [hL] at hs
  unfold maxLen at hcm
  subst hs
  replace hrow := Lib.hid hrow
  replace hok := Lib.hid hok
  replace hL := Lib.hid hL
  clear hx
  by_cases h60 : 60 < L
  · go_enter Try.func5, Try.ntmps5
    go_wp2_with fail
    refine (haw.out _).mono ?_
    rintro e w1 ⟨rfl, hb⟩
    replace hb := Lib.hid hb
    go_wp2_with fail
    go_ret
    exact ⟨rfl, hb.out⟩
  have h60' : decide (60 < (L : Int)) = false := by simp; omega
  have h60n : L ≤ 60 := by omega
  clear h60
  by_cases hn : ¬ (1 ≤ n ∧ n ≤ 64)
  · have hf := fnew_no n w hn
    replace hf := Lib.hid hf
    by_cases hn1 : n < 1
    · clear hn
      go_enter Try.func5, Try.ntmps5
      go_wp2_with fail
      refine hf.out.mono ?_
      rintro e w1 ⟨rfl, rfl⟩
      go_wp2_with fail
      refine (haw.out _).mono ?_
      rintro e w2 ⟨rfl, hb⟩
      replace hb := Lib.hid hb
      go_wp2_with fail
      go_ret
      exact ⟨rfl, hb.out⟩
    · have hn1' : decide (n < 1) = false := by simp; omega
      have hn2 : 64 < n := by omega
      clear hn hn1
      go_enter Try.func5, Try.ntmps5
      go_wp2_with fail
      refine hf.out.mono ?_
      rintro e w1 ⟨rfl, rfl⟩
      go_wp2_with fail
      refine (haw.out _).mono ?_
      rintro e w2 ⟨rfl, hb⟩
      replace hb := Lib.hid hb
      go_wp2_with fail
      go_ret
      exact ⟨rfl, hb.out⟩
  have hn1' : decide (n < 1) = false := by simp; omega
  have hn2' : decide (64 < n) = false := by simp; omega
  obtain ⟨m, rfl⟩ : ∃ m : Nat, n = (m : Int) := ⟨n.toNat, by omega⟩
  have hm1 : 1 ≤ m := by omega
  have hm2 : m ≤ 64 := by omega
  clear hn
  have hf := fnew_calls m w hm1 hm2
  replace hf := Lib.hid hf
  go_enter Try.func5, Try.ntmps5
  go_wp2_with fail
  refine hf.out.mono ?_
  rintro e w1 ⟨pb, sb, tb, rfl, hP, hFr⟩
  have hF1 := Fp.start hP hFr
  have hmd := rmade_calls m w1 hm1 hm2
  replace hF1 := Lib.hid hF1
  replace hmd := Lib.hid hmd
  clear hf hP hFr
  go_wp2_with fail
  refine hmd.out.mono ?_
  rintro e w2 ⟨rfl, ⟨x, kb, kc, hR, hkb, hxb⟩, hb2⟩
  have hP2 := Pr.start hF1.out rfl hR hkb hxb hb2
  obtain ⟨qb, hqb⟩ : ∃ qb, w1.heap.size + 1 = qb := ⟨_, rfl⟩
  rw [hqb] at hP2 ⊢
  have hl2 := Ld.start m x
  clear hmd hR hkb hxb hb2 hF1 hqb
  obtain ⟨B, hB, e1, e2, e3⟩ : ∃ B : Bx, B = ⟨pb, sb, tb, m, qb, kb, kc, w1.heap.size⟩ ∧ B.pb = pb ∧ B.qb = qb ∧ B.n = m := ⟨_, rfl, rfl, rfl, rfl⟩
  rw [← hB] at hP2
  clear hB
  subst e1 e2
  rw [← e3] at hl2
  generalize fs0 = s0 at *
  generalize rs0 x = r0 at *
  replace hP2 := Lib.hid hP2
  replace hl2 := Lib.hid hl2
  replace e3 := Lib.hid e3
  go_wp2_with fail
  go_loopw [8] (fun i W => ∃ (k : Nat) (s : FS) (r : RS), k ≤ L ∧ i = .int .i64 k ∧ Pr w W B s r ∧ Ld B.n s r) (fun i _ => L + 1 - (intOf i).toNat)
  case atStart => exact ⟨0, s0, r0, by omega, rfl, hP2.out, hl2.out⟩
  case round =>
    obtain ⟨k, s, r, hk, rfl, P, D⟩ := hrel
    clear hP2 hl2
    by_cases hkL : k = L
    · subst hkL
      replace P := Lib.hid P
      replace D := Lib.hid D
      clear hrow hok hL h60' hn1' hn2'
      go_wp2_with fail
      go_loopw [9, 10] (fun i v W => ∃ (k : Nat), k ≤ m ∧ i = .int .i64 k ∧ Pr w W B s r) (fun i _ _ => m + 1 - (intOf i).toNat)
      case atStart => exact ⟨0, by omega, rfl, P.out⟩
      case round =>
        obtain ⟨k, hk, rfl, P⟩ := hrel
        by_cases hkm : k = m
        · subst hkm
          have hkk : decide ((k : Int) < (k : Int)) = false := by simp
          have h1 := fun W (h : Pr w W B s r) => h.F.storeOut (f := (k : Int)) (by rw [e3.out]; omega)
          have h2 := fun W (h : Pr w W B s r) => h.F.storeOut (f := -1) (by omega)
          replace h1 := Lib.hid h1
          replace h2 := Lib.hid h2
          replace P := Lib.hid P
          go_wp2_with fail
          refine (h1.out _ P.out).mono ?_
          rintro e w3 ⟨rfl, _, hb⟩
          have P3 := P.out.keep hb
          replace P3 := Lib.hid P3
          clear hb
          go_wp2_with fail
          refine (h2.out _ P3.out).mono ?_
          rintro e w4 ⟨rfl, _, hb⟩
          have P4 := P3.out.keep hb
          replace P4 := Lib.hid P4
          clear hb
          go_wp2_with fail
          refine (haw.out _).mono ?_
          rintro e w5 ⟨rfl, hb⟩
          have P5 := P4.out.keep hb
          replace P5 := Lib.hid P5
          clear hb
          go_wp2_with fail
          go_ret
          exact ⟨rfl, P5.out.F.below⟩
        · have hkm' : k < B.n := by rw [e3.out]; omega
          have hkz : (k : Int) < (m : Int) := by omega
          have h1 := fun W (h : Pr w W B s r) => h.store D.out hkm'
          have h2 := fun W b (h : Pr w W B s r) => h.same (b := b) D.out hkm'
          replace h1 := Lib.hid h1
          replace h2 := Lib.hid h2
          replace P := Lib.hid P
          go_wp2_with fail
          refine (h1.out _ P.out).mono ?_
          rintro e w3 ⟨b, rfl, hc, hb⟩
          have P3 := P.out.keep hb
          have q0 := P3.R.c0
          have p0 := P3.R.ptr hkm'
          have n64 := P3.R.n64
          rw [e3.out] at q0 n64
          have hq := h2.out _ _ P3 hc
          replace hq := Lib.hid hq
          replace P3 := Lib.hid P3
          clear hb hc
          go_wp2_with fail
          refine hq.out.mono ?_
          rintro e w4 ⟨rfl, q, rfl⟩
          have P4 := P3.out.keep (below_drewN (Below.refl _ _) q)
          generalize w3.drewN q = w4 at *
          replace P4 := Lib.hid P4
          clear q0 p0
          go_wp2_with fail
          go_round
          case rel => exact ⟨k + 1, by omega, by go_num, P4.out⟩
          case measure => simp [intOf]; omega
    · have hlt : k < L := by omega
      have hkz : (k : Int) < (L : Int) := by omega
      have hne : xs ≠ [] := fun e => by have := hL.out; rw [e] at this; simp at this; omega
      obtain ⟨tb', off, rfl, hcell⟩ := hrow.out hne
      obtain ⟨a, hka⟩ : ∃ a, xs[k]? = some a := ⟨_, List.getElem?_eq_getElem (by rw [hL.out]; exact hlt)⟩
      have hao := hok.out a (List.mem_of_getElem? hka)
      obtain ⟨eb, ec, hes, _⟩ := hao.e.open
      obtain ⟨tb2, tc, hts, _⟩ := hao.t.open
      obtain ⟨en, hen⟩ : ∃ en, a.es.length = en := ⟨_, rfl⟩
      obtain ⟨tn, htn⟩ : ∃ tn, a.ts.length = tn := ⟨_, rfl⟩
      rw [hen] at hes
      rw [htn] at hts
      have hdo := fun (hlen : tn ≤ 100000) => do_calls a hao (by rw [htn]; exact hlen) P D
      have hlo := fun W s r (P : Pr w W B s r) (D : Ld B.n s r) => looks_calls a hao P D
      have hc := hcell k a hka
      unfold paV at hc hdo hlo
      rw [hes, hts] at hc hdo hlo
      unfold actC at hc hdo hlo
      have d0 := hc 0 _ rfl
      have d1 := hc 1 _ rfl
      have d2 := hc 2 _ rfl
      have d3 := hc 3 _ rfl
      have d4 := hc 4 _ rfl
      have d5 := hc 5 _ rfl
      have d6 := hc 6 _ rfl
      have d7 := hc 7 _ rfl
      have d8 := hc 8 _ rfl
      have d9 := hc 9 _ rfl
      have hlb : tb' < w.heap.size := World.block_lt_of_cell? _ _ d0
      clear hc hcell
      replace hdo := Lib.hid hdo
      replace hlo := Lib.hid hlo
      replace hen := Lib.hid hen
      replace htn := Lib.hid htn
      clear hes hts hka hao
      have z0 : wr.cell? ⟨tb', off + k * 10 , none⟩ = some _ := (P.F.below.cell (p := ⟨tb', _, none⟩) hlb).trans d0
      have z1 : wr.cell? ⟨tb', off + k * 10 + 1, none⟩ = some _ := (P.F.below.cell (p := ⟨tb', _, none⟩) hlb).trans d1
      have z2 : wr.cell? ⟨tb', off + k * 10 + 2, none⟩ = some _ := (P.F.below.cell (p := ⟨tb', _, none⟩) hlb).trans d2
      have z3 : wr.cell? ⟨tb', off + k * 10 + 3, none⟩ = some _ := (P.F.below.cell (p := ⟨tb', _, none⟩) hlb).trans d3
      have z4 : wr.cell? ⟨tb', off + k * 10 + 4, none⟩ = some _ := (P.F.below.cell (p := ⟨tb', _, none⟩) hlb).trans d4
      have z5 : wr.cell? ⟨tb', off + k * 10 + 5, none⟩ = some _ := (P.F.below.cell (p := ⟨tb', _, none⟩) hlb).trans d5
      have z6 : wr.cell? ⟨tb', off + k * 10 + 6, none⟩ = some _ := (P.F.below.cell (p := ⟨tb', _, none⟩) hlb).trans d6
      have z7 : wr.cell? ⟨tb', off + k * 10 + 7, none⟩ = some _ := (P.F.below.cell (p := ⟨tb', _, none⟩) hlb).trans d7
      have z8 : wr.cell? ⟨tb', off + k * 10 + 8, none⟩ = some _ := (P.F.below.cell (p := ⟨tb', _, none⟩) hlb).trans d8
      have z9 : wr.cell? ⟨tb', off + k * 10 + 9, none⟩ = some _ := (P.F.below.cell (p := ⟨tb', _, none⟩) hlb).trans d9
      replace P := Lib.hid P
      replace D := Lib.hid D
      by_cases hE : 100 < en
      · have hEz : (100 : Int) < (en : Int) := by omega
        clear hdo hlo
        go_wp2_with fail
        go_round
        case rel => exact ⟨k + 1, s, r, by omega, by go_num, P.out, D.out⟩
        case measure => simp [intOf]; omega
      · have hEz : decide ((100 : Int) < (en : Int)) = false := by simp; omega
        by_cases hT : 100 < tn
        · have hTz : (100 : Int) < (tn : Int) := by omega
          clear hdo hlo
          go_wp2_with fail
          go_round
          case rel => exact ⟨k + 1, s, r, by omega, by go_num, P.out, D.out⟩
          case measure => simp [intOf]; omega
        · have hTz : decide ((100 : Int) < (tn : Int)) = false := by simp; omega
          have hd := hdo.out (by omega)
          replace hd := Lib.hid hd
          clear hdo
          go_wp2_with fail
          refine hd.out.mono ?_
          rintro e w3 ⟨rfl, s', r', P3, D3⟩
          have y0 : w3.cell? ⟨tb', off + k * 10 , none⟩ = some _ := (P3.F.below.cell (p := ⟨tb', _, none⟩) hlb).trans d0
          have y1 : w3.cell? ⟨tb', off + k * 10 + 1, none⟩ = some _ := (P3.F.below.cell (p := ⟨tb', _, none⟩) hlb).trans d1
          have y2 : w3.cell? ⟨tb', off + k * 10 + 2, none⟩ = some _ := (P3.F.below.cell (p := ⟨tb', _, none⟩) hlb).trans d2
          have y3 : w3.cell? ⟨tb', off + k * 10 + 3, none⟩ = some _ := (P3.F.below.cell (p := ⟨tb', _, none⟩) hlb).trans d3
          have y4 : w3.cell? ⟨tb', off + k * 10 + 4, none⟩ = some _ := (P3.F.below.cell (p := ⟨tb', _, none⟩) hlb).trans d4
          have y5 : w3.cell? ⟨tb', off + k * 10 + 5, none⟩ = some _ := (P3.F.below.cell (p := ⟨tb', _, none⟩) hlb).trans d5
          have y6 : w3.cell? ⟨tb', off + k * 10 + 6, none⟩ = some _ := (P3.F.below.cell (p := ⟨tb', _, none⟩) hlb).trans d6
          have y7 : w3.cell? ⟨tb', off + k * 10 + 7, none⟩ = some _ := (P3.F.below.cell (p := ⟨tb', _, none⟩) hlb).trans d7
          have y8 : w3.cell? ⟨tb', off + k * 10 + 8, none⟩ = some _ := (P3.F.below.cell (p := ⟨tb', _, none⟩) hlb).trans d8
          have y9 : w3.cell? ⟨tb', off + k * 10 + 9, none⟩ = some _ := (P3.F.below.cell (p := ⟨tb', _, none⟩) hlb).trans d9
          replace P3 := Lib.hid P3
          replace D3 := Lib.hid D3
          clear P D hd z0 z1 z2 z3 z4 z5 z6 z7 z8 z9
          go_wp2_with fail
          refine (hlo.out w3 s' r' P3.out D3.out).mono ?_
          rintro e w4 ⟨rfl, P4⟩
          replace P4 := Lib.hid P4
          clear y0 y1 y2 y3 y4 y5 y6 y7 y8 y9 P3
          go_wp2_with fail
          go_round
          case rel => exact ⟨k + 1, s', r', by omega, by go_num, P4.out, D3.out⟩
          case measure => simp [intOf]; omega
end Go.Proofs.Ytlaodkolkoefgaa
