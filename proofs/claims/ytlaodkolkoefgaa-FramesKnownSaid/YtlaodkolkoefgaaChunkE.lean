/-
  A chunk made of edits and ticks: the document's Of.
-/
import Derived.Test.YtlaodkolkoefgaaChunkS
import Derived.Test.YtlaodkolkoefgaaBits
namespace Go.Proofs.Ytlaodkolkoefgaa
open Go.RowKit
set_option linter.unusedSimpArgs false
set_option linter.unusedVariables false

abbrev Ed := Int × (Int × Int) × (Int × Int)
def editV (e : Ed) : List Value := [.int .i64 e.1, .int .u8 e.2.1.1, .int .u8 e.2.1.2, .int .u8 e.2.2.1, .int .u8 e.2.2.2]
def ERow (w : World) (s : Value) (es : List Ed) : Prop := SRow w 5 s (es.map editV)
theorem ERow.keep {w w' : World} {s : Value} {es : List Ed} (h : ERow w s es) (hb : Below w.heap.size w w') : ERow w' s es := SRow.keep h hb
theorem ERow.open {w : World} {s : Value} {es : List Ed} (h : ERow w s es) : ∃ base cap, s = .slice base es.length cap ∧ es.length ≤ cap ∧ cap ≤ maxLen ∧
    (es ≠ [] → ∃ b off, base = some ⟨b, off, none⟩ ∧ ∀ j e, es[j]? = some e → w.cell? ⟨b, off + j * 5, none⟩ = some (.int .i64 e.1) ∧ w.cell? ⟨b, off + j * 5 + 1, none⟩ = some (.int .u8 e.2.1.1) ∧ w.cell? ⟨b, off + j * 5 + 2, none⟩ = some (.int .u8 e.2.1.2) ∧
      w.cell? ⟨b, off + j * 5 + 3, none⟩ = some (.int .u8 e.2.2.1) ∧ w.cell? ⟨b, off + j * 5 + 4, none⟩ = some (.int .u8 e.2.2.2)) := by
  obtain ⟨base, cap, e, h1, h2, h3⟩ := h
  rw [List.length_map] at e h1
  refine ⟨base, cap, e, h1.1, h2, fun hne => ?_⟩
  obtain ⟨b, off, hb, h4⟩ := h3 (by simpa using hne)
  exact ⟨b, off, hb, fun j t ht => by
    have hj : (es.map editV)[j]? = some (editV t) := by rw [List.getElem?_map, ht]; rfl
    exact ⟨h4 j _ hj 0 _ rfl, h4 j _ hj 1 _ rfl, h4 j _ hj 2 _ rfl, h4 j _ hj 3 _ rfl, h4 j _ hj 4 _ rfl⟩⟩
/-- Each number of the edits fits in a byte. -/
def EdOk (es : List Ed) : Prop := ∀ e ∈ es, 0 ≤ e.2.1.1 ∧ e.2.1.1 ≤ 255 ∧ 0 ≤ e.2.1.2 ∧ e.2.1.2 ≤ 255 ∧ 0 ≤ e.2.2.1 ∧ e.2.2.1 ≤ 255 ∧ 0 ≤ e.2.2.2 ∧ e.2.2.2 ≤ 255

def edCe (es : List Ed) : Nat → Int × Int := es.foldl (fun f e => updP f (e.1 % 4096).toNat e.2.1) zeroP
def edLi (es : List Ed) : Nat → Int × Int := es.foldl (fun f e => updP f (e.1 % 4096).toNat e.2.2) zeroP
theorem edCe_snoc (es : List Ed) (e : Ed) : edCe (es ++ [e]) = updP (edCe es) (e.1 % 4096).toNat e.2.1 := by simp [edCe, List.foldl_append]
theorem edLi_snoc (es : List Ed) (e : Ed) : edLi (es ++ [e]) = updP (edLi es) (e.1 % 4096).toNat e.2.2 := by simp [edLi, List.foldl_append]
theorem ed_U8 {es : List Ed} (h : EdOk es) : U8 (edCe es) ∧ U8 (edLi es) := by
  have key : ∀ (es : List Ed) (f g : Nat → Int × Int), EdOk es → U8 f → U8 g → U8 (es.foldl (fun f e => updP f (e.1 % 4096).toNat e.2.1) f) ∧ U8 (es.foldl (fun f e => updP f (e.1 % 4096).toNat e.2.2) g) := by
    intro es
    induction es with
    | nil => intro f g _ hf hg; exact ⟨hf, hg⟩
    | cons e r ih =>
      intro f g ho hf hg
      have h1 := ho e List.mem_cons_self
      exact ih _ _ (fun x hx => ho x (List.mem_cons_of_mem _ hx)) (hf.upd _ ⟨h1.1, h1.2.1⟩ ⟨h1.2.2.1, h1.2.2.2.1⟩) (hg.upd _ ⟨h1.2.2.2.2.1, h1.2.2.2.2.2.1⟩ ⟨h1.2.2.2.2.2.2.1, h1.2.2.2.2.2.2.2⟩)
  exact key es _ _ h U8.zero U8.zero

set_option maxRecDepth 100000 in
set_option maxHeartbeats 4000000 in
theorem ofe_calls (s st : Value) (es : List Ed) (ts : List (Int × Int)) (w : World) (he : ERow w s es) (ht : TRow w st ts) (hlen : ts.length ≤ 1000000) :
    Calls Try.prog 8 #[s, st] w fun e w' => e = .returned (.pointer (some ⟨w.heap.size, 0, none⟩)) ∧ Below w.heap.size w w' ∧ w.heap.size < w'.heap.size ∧ ∃ s', Ck w' w.heap.size (edCe es) (edLi es) s' ∧ TOwn w' (w.heap.size + 1) s' ts := by
  have hz : ∀ w, (zeroValue 46).run Try.prog w = .ok (.agg chunkZ) w := zero_chunk
  have hk := ck_new w
  have hbel : Below w.heap.size w (w.alloc (.cells chunkZ 46)) := (Below.refl _ _).alloc (Nat.le_refl _) _
  have hsz : w.heap.size < (w.alloc (.cells chunkZ 46)).heap.size := by simp
  generalize chunkZ = Z at *
  obtain ⟨base, cap, rfl, hn, hc, hr⟩ := he.open
  obtain ⟨n, hnn⟩ : ∃ n, es.length = n := ⟨_, rfl⟩
  rw [hnn] at hn ⊢
  replace hnn := Lib.hid hnn
  replace hr := Lib.hid hr
  replace hlen := Lib.hid hlen
  replace ht := Lib.hid ht
  replace hk := Lib.hid hk
  replace hbel := Lib.hid hbel
  replace hsz := Lib.hid hsz
  unfold maxLen at hc
  clear he
  go_enter Try.func8, Try.ntmps8
  go_wp2_with fail
  go_loopw [6] (fun i W => ∃ k : Nat, k ≤ n ∧ i = .int .i64 k ∧ Ck W w.heap.size (edCe (es.take k)) (edLi (es.take k)) (.slice none 0 0) ∧ Below w.heap.size w W) (fun i _ => n - (intOf i).toNat)
  case atStart => exact ⟨0, by omega, rfl, hk.out, hbel.out⟩
  case round =>
    obtain ⟨k, hk', rfl, hck, HB⟩ := hrel
    clear hk hbel hsz hz
    by_cases hlt : k < n
    · have hne : es ≠ [] := fun e => by have := hnn.out; rw [e] at this; simp at this; omega
      obtain ⟨tb, off, rfl, hcell⟩ := hr.out hne
      obtain ⟨e, hke⟩ : ∃ t, es[k]? = some t := ⟨_, List.getElem?_eq_getElem (by rw [hnn.out]; exact hlt)⟩
      obtain ⟨d0, d1, d2, d3, d4⟩ := hcell k e hke
      have htake : es.take (k + 1) = es.take k ++ [e] := by
        have hkl : k < es.length := by rw [hnn.out]; exact hlt
        rw [List.take_succ_eq_append_getElem hkl]
        rw [List.getElem?_eq_getElem hkl] at hke
        rw [Option.some.inj hke]
      have hce := edCe_snoc (es.take k) e
      have hli := edLi_snoc (es.take k) e
      rw [← htake] at hce hli
      have hb0 : tb < w.heap.size := World.block_lt_of_cell? _ _ d0
      replace d0 := (HB.cell (World.block_lt_of_cell? _ _ d0)).trans d0
      replace d1 := (HB.cell (World.block_lt_of_cell? _ _ d1)).trans d1
      replace d2 := (HB.cell (World.block_lt_of_cell? _ _ d2)).trans d2
      replace d3 := (HB.cell (World.block_lt_of_cell? _ _ d3)).trans d3
      replace d4 := (HB.cell (World.block_lt_of_cell? _ _ d4)).trans d4
      replace hcell := Lib.hid hcell
      replace hke := Lib.hid hke
      replace htake := Lib.hid htake
      obtain ⟨at', ⟨x, y⟩, ⟨u, v⟩⟩ := e
      simp only at d0 d1 d2 d3 d4 hce hli
      obtain ⟨m, hm⟩ : ∃ m : Nat, (at' % 4096).toNat = m := ⟨_, rfl⟩
      have hm1 : m < 4096 := by omega
      have hand : bits .and .i64 at' 4095 = (m : Int) := by rw [i64_and4095]; omega
      rw [hm] at hce hli
      clear hm
      replace hce := Lib.hid hce
      replace hli := Lib.hid hli
      have f0 := hck.frozen (m * 2)
      have f1 := hck.frozen (m * 2 + 1)
      have f2 := hck.frozen (8192 + m * 2)
      have f3 := hck.frozen (8192 + m * 2 + 1)
      have c0 := hck.c0 hm1
      have c1 := hck.c1 hm1
      have c2 := hck.l0 hm1
      have c3 := hck.l1 hm1
      have hz1 := hck.lt
      have hnb : ¬ tb = w.heap.size := by omega
      replace HB := Lib.hid HB
      replace hck := Lib.hid hck
      go_wp2_with fail
      go_region
      go_wp2_with fail
      go_region
      go_wp2_with fail
      go_roundw
      case rel =>
        refine ⟨k + 1, by omega, by go_num, ?_, ?_⟩
        · rw [hce.out, hli.out]
          exact (hck.out.setCell hm1 x y).setLight hm1 u v
        · exact ((((HB.out.setCell (p := ⟨w.heap.size, _, none⟩) (Nat.le_refl _) _).setCell (p := ⟨w.heap.size, _, none⟩) (Nat.le_refl _) _).setCell (p := ⟨w.heap.size, _, none⟩) (Nat.le_refl _) _).setCell (p := ⟨w.heap.size, _, none⟩) (Nat.le_refl _) _).drew.drew
      case measure => simp [intOf]; omega
    · obtain rfl : k = n := by omega
      rw [List.take_of_length_le (by rw [hnn.out]; omega)] at hck
      have ct := hck.tk
      have hrow := ht.out.keep HB
      have hlt2 := hck.lt
      have f0 := hck.frozen 16384
      have hnil := TOwn.nil wr (w.heap.size + 1)
      replace HB := Lib.hid HB
      replace hck := Lib.hid hck
      replace hrow := Lib.hid hrow
      replace hnil := Lib.hid hnil
      clear hr
      go_wp2_with (at_builtin; refine wpList_append_ticks rfl (.tmp 46) (.tmp 47) rfl rfl rfl hnil.out hrow.out (by simpa using hlen.out) (by omega) ?_)
      intro v' w' h4 h5 h6
      obtain ⟨vb, vc, rfl, _⟩ := h4.row.open
      have hb5 : Below (w.heap.size + 1) wr w' := below_own (Below.refl _ _) hnil.out h5 (by omega)
      have hck2 := hck.out.below hb5 (by omega)
      have ct2 := hck2.tk
      have f2 := hck2.frozen 16384
      have hend : Below w.heap.size w (w'.setCell ⟨w.heap.size, 16384, none⟩ (.slice vb ts.length vc)) := (HB.out.trans (hb5.mono (by omega))).setCell (p := ⟨w.heap.size, 16384, none⟩) (Nat.le_refl _) _
      have h7 : TOwn (w'.setCell ⟨w.heap.size, 16384, none⟩ (.slice vb ts.length vc)) (w.heap.size + 1) (.slice vb ts.length vc) ts := h4.setBelow (a := ⟨w.heap.size, 16384, none⟩) (Nat.lt_succ_self _) _
      have h8 := hck2.setTicks (.slice vb ts.length vc)
      have h9 := hck2.lt
      replace hend := Lib.hid hend
      replace h7 := Lib.hid h7
      replace h8 := Lib.hid h8
      clear h4 h5 h6 hb5 hck2 HB hck hrow hnil
      go_wp2_with fail
      go_ret
      exact ⟨rfl, hend.out, by simp; omega, _, h8.out, h7.out⟩
end Go.Proofs.Ytlaodkolkoefgaa
