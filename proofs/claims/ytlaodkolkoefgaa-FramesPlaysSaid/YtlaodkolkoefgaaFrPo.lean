/-
  How acts read; what each act does, and what is looked at.
-/
import Derived.Test.YtlaodkolkoefgaaFrDo2
import Derived.Test.YtlaodkolkoefgaaFrDo7
import Derived.Test.YtlaodkolkoefgaaFrLo
import Derived.Test.YtlaodkolkoefgaaMg48
namespace Go.Proofs.Ytlaodkolkoefgaa
open Go.ChangeShapes Go.WideShapes Go.ChangeAt Go.RowKit
set_option linter.unusedSimpArgs false
set_option linter.unusedVariables false
set_option linter.constructorNameAsVariable false

section
variable {H : Type} {enc : TypeId × Value → H} {P : Program} {w : World} {base : Nat} {held : Bool}
theorem rows_trod {f fuel : Nat} {t e : TypeId} {ks : List Prim} {v : Value} {x : DataW H × List MemPlace} (ht : P.underlying t = some (.slice e)) (hf : flat P f e = some ks) (hz : P.cellsOf e = ks.length) (hz0 : 0 < ks.length)
    (h : DataW.trod enc P w base (fun _ => true) held fuel t [v] = some x) :
    ∃ xs : List (List Value), SRow w ks.length v xs ∧ ∀ x ∈ xs, conf enc P w base (fun _ => true) held ks x := by
  rcases Go.Deep.open_slice ht h with ⟨hcs, _⟩ | ⟨a, len, cap, m, n, D, Pl, hcs, hb, hl, hm, hmm, _, hx⟩
  · obtain rfl : v = .slice none 0 0 := by simpa using hcs
    exact ⟨[], ⟨none, 0, rfl, ⟨Nat.le_refl _, fun _ => rfl⟩, Nat.zero_le _, fun h => absurd rfl h⟩, fun x hx => by cases hx⟩
  · obtain rfl : v = .slice (some a) len cap := by simpa using hcs
    rw [hz] at hx
    have hx' : ∀ i, i < len → ∃ cs', (∀ j u, cs'[j]? = some u → w.cell? ((a.add (i * ks.length)).add j) = some u) ∧ cs'.length = ks.length ∧ conf enc P w base (fun _ => true) held ks cs' := fun i hi => by
      obtain ⟨cs', h1, h2⟩ := hx i (by rw [hmm]; simp; omega)
      obtain ⟨_, hlen, hc⟩ := World.cells?_some h1
      exact ⟨cs', fun j u hu => (hc j (by have := (List.getElem?_eq_some_iff.1 hu).1; omega)).trans hu, hlen, flat_trod f n e _ _ ks h2 hf⟩
    obtain ⟨F, hF⟩ := Go.Deep.choose_lt hx'
    refine ⟨(List.range len).map F, ⟨some a, cap, by simp, ⟨by simpa using hl, fun e => by cases e⟩, hm, fun hne => ?_⟩, fun x hx => ?_⟩
    · have h0 : 0 < len := by
        rcases Nat.eq_zero_or_pos len with h | h
        · subst h; simp at hne
        · exact h
      obtain ⟨h1, h2, _⟩ := hF 0 h0
      have h3 := h1 0 _ (List.getElem?_eq_getElem (by omega))
      rw [Nat.zero_mul] at h3
      have ha : (a.add 0).add 0 = a := by simp [Addr.add]
      rw [ha] at h3
      obtain ⟨b, off, rfl⟩ := addr_plain h3
      refine ⟨b, off, rfl, fun j x hx i v hv => ?_⟩
      rw [List.getElem?_map] at hx
      have hj : j < len := by
        rcases Nat.lt_or_ge j len with h | h
        · exact h
        · rw [List.getElem?_eq_none (by simpa using h)] at hx; cases hx
      rw [List.getElem?_range hj] at hx
      obtain rfl := Option.some.inj hx
      have := (hF j hj).1 i v hv
      rw [Addr.add_mid, Addr.add_mid] at this
      exact this
    · obtain ⟨i, hi, rfl⟩ := List.mem_map.1 hx
      exact (hF i (List.mem_range.1 hi)).2.2
end
structure PA where
  k : Int
  f : Int
  a : Int
  c0 : Int
  c1 : Int
  l0 : Int
  l1 : Int
  d : Int
  se : Value
  st : Value
  es : List Ed
  ts : List Tk
def paV (x : PA) : List Value := actC x.k x.f x.a x.c0 x.c1 x.l0 x.l1 x.d x.se x.st
structure PA.Ok (w : World) (x : PA) : Prop where
  c0 : 0 ≤ x.c0 ∧ x.c0 ≤ 255
  c1 : 0 ≤ x.c1 ∧ x.c1 ≤ 255
  l0 : 0 ≤ x.l0 ∧ x.l0 ≤ 255
  l1 : 0 ≤ x.l1 ∧ x.l1 ≤ 255
  e : ERow w x.se x.es
  ed : EdOk x.es
  t : TRow w x.st x.ts
def PaRow (w : World) (v : Value) (xs : List PA) : Prop := SRow w 10 v (xs.map paV)
theorem PaRow.keep {w w' : World} {s : Value} {xs : List PA} (h : PaRow w s xs) (hb : Below w.heap.size w w') : PaRow w' s xs := SRow.keep h hb
theorem PaRow.open {w : World} {s : Value} {xs : List PA} (h : PaRow w s xs) : ∃ base cap, s = .slice base xs.length cap ∧ cap ≤ maxLen ∧
    (xs ≠ [] → ∃ b off, base = some ⟨b, off, none⟩ ∧ ∀ j x, xs[j]? = some x → ∀ i v, (paV x)[i]? = some v → w.cell? ⟨b, off + j * 10 + i, none⟩ = some v) := by
  obtain ⟨base, cap, e, h1, h2, h3⟩ := h
  rw [List.length_map] at e h1
  refine ⟨base, cap, e, h2, fun hne => ?_⟩
  obtain ⟨b, off, hb, h4⟩ := h3 (by simpa using hne)
  exact ⟨b, off, hb, fun j x hx i v hv => h4 j (paV x) (by rw [List.getElem?_map, hx]; rfl) i v hv⟩
section
variable {H : Type} {enc : TypeId × Value → H} {w : World} {base : Nat} {held : Bool} {r : Reach} {b0 : Nat} {v : Value} {d : DataW H} {p : List MemPlace}
set_option maxRecDepth 100000 in
theorem edits_trod {fuel : Nat} {x : DataW H × List MemPlace} (h : DataW.trod enc Try.prog w base (fun _ => true) held fuel 22 [v] = some x) : ∃ es : List Ed, ERow w v es ∧ EdOk es := by
  obtain ⟨xs, hx, hc⟩ := rows_trod (f := 8) (ks := [.i .i64, .i .u8, .i .u8, .i .u8, .i .u8]) Try.underlying22 (by kernel_rfl) (by kernel_rfl) (by decide) h
  obtain ⟨es, rfl, hok⟩ := list_of (g := editV) (ok := fun e => 0 ≤ e.2.1.1 ∧ e.2.1.1 ≤ 255 ∧ 0 ≤ e.2.1.2 ∧ e.2.1.2 ≤ 255 ∧ 0 ≤ e.2.2.1 ∧ e.2.2.1 ≤ 255 ∧ 0 ≤ e.2.2.2 ∧ e.2.2.2 ≤ 255) (fun x hx => by
    obtain ⟨_, _, rfl, ⟨a, rfl, wa⟩, hx_0⟩ := conf_cons hx
    obtain ⟨_, _, rfl, ⟨k, rfl, wk⟩, hx_1⟩ := conf_cons hx_0
    obtain ⟨_, _, rfl, ⟨l, rfl, wl⟩, hx_2⟩ := conf_cons hx_1
    obtain ⟨_, _, rfl, ⟨s, rfl, ws⟩, hx_3⟩ := conf_cons hx_2
    obtain ⟨_, _, rfl, ⟨m, rfl, wm⟩, hx_4⟩ := conf_cons hx_3
    obtain rfl := conf_nil hx_4
    have h1 := u8_of_wf wk
    have h2 := u8_of_wf wl
    have h3 := u8_of_wf ws
    have h4 := u8_of_wf wm
    exact ⟨(a, (k, l), (s, m)), rfl, h1.1, h1.2, h2.1, h2.2, h3.1, h3.2, h4.1, h4.2⟩) xs hc
  exact ⟨es, hx, hok⟩
set_option maxRecDepth 100000 in
theorem ticks_trod {fuel : Nat} {x : DataW H × List MemPlace} (h : DataW.trod enc Try.prog w base (fun _ => true) held fuel 23 [v] = some x) : ∃ ts : List Tk, TRow w v ts := by
  obtain ⟨xs, hx, hc⟩ := rows_trod (f := 8) (ks := [.i .i64, .i .i64]) Try.underlying23 (by kernel_rfl) (by kernel_rfl) (by decide) h
  obtain ⟨ts, rfl, hok⟩ := list_of (g := tickV) (ok := fun t => True) (fun x hx => by
    obtain ⟨_, _, rfl, ⟨a, rfl, wa⟩, hx_0⟩ := conf_cons hx
    obtain ⟨_, _, rfl, ⟨k, rfl, wk⟩, hx_1⟩ := conf_cons hx_0
    obtain rfl := conf_nil hx_1
    exact ⟨(a, k), rfl, trivial⟩) xs hc
  exact ⟨ts, hx⟩
set_option maxRecDepth 100000 in
theorem open_plays (hv : Value.okWide Try.prog w r b0 63 v) (h : DataW.Trod enc Try.prog w base (fun _ => true) held 63 v d p) : ∃ xs : List PA, PaRow w v xs ∧ ∀ x ∈ xs, x.Ok w := by
  obtain ⟨xs, hx, hc⟩ := open_rows (f := 8) (ks := [.i .i64, .i .i64, .i .i64, .i .u8, .i .u8, .i .u8, .i .u8, .i .i64, .o 22, .o 23]) Try.underlying63 (by kernel_rfl) (by kernel_rfl) (by decide) hv h
  obtain ⟨zs, rfl, hok⟩ := list_of (g := paV) (ok := PA.Ok w) (fun x hx => by
    obtain ⟨_, _, rfl, ⟨k, rfl, wk⟩, hx_0⟩ := conf_cons hx
    obtain ⟨_, _, rfl, ⟨f, rfl, wf⟩, hx_1⟩ := conf_cons hx_0
    obtain ⟨_, _, rfl, ⟨a, rfl, wa⟩, hx_2⟩ := conf_cons hx_1
    obtain ⟨_, _, rfl, ⟨c0, rfl, wc0⟩, hx_3⟩ := conf_cons hx_2
    obtain ⟨_, _, rfl, ⟨c1, rfl, wc1⟩, hx_4⟩ := conf_cons hx_3
    obtain ⟨_, _, rfl, ⟨l0, rfl, wl0⟩, hx_5⟩ := conf_cons hx_4
    obtain ⟨_, _, rfl, ⟨l1, rfl, wl1⟩, hx_6⟩ := conf_cons hx_5
    obtain ⟨_, _, rfl, ⟨d, rfl, wd⟩, hx_7⟩ := conf_cons hx_6
    obtain ⟨se, _, rfl, ⟨nse, yse, rse⟩, hx_8⟩ := conf_cons hx_7
    obtain ⟨st, _, rfl, ⟨nst, yst, rst⟩, hx_9⟩ := conf_cons hx_8
    obtain rfl := conf_nil hx_9
    obtain ⟨es, he, ho⟩ := edits_trod rse
    obtain ⟨ts, ht⟩ := ticks_trod rst
    exact ⟨⟨k, f, a, c0, c1, l0, l1, d, se, st, es, ts⟩, rfl, u8_of_wf wc0, u8_of_wf wc1, u8_of_wf wl0, u8_of_wf wl1, he, ho, ht⟩) xs hc
  exact ⟨zs, hx, hok⟩
end
section
variable {w W : World} {B : Bx} {s : FS} {r : RS}
theorem do_calls (x : PA) (hx : x.Ok w) (hlen : x.ts.length ≤ 100000) (h : Pr w W B s r) (hl : Ld B.n s r) :
    Calls Try.prog 26 #[.pointer (some ⟨B.pb, 0, none⟩), .pointer (some ⟨B.qb, 0, none⟩), .agg (paV x).toArray] W fun e w' => e = .returned (.bool true) ∧ ∃ s' r', Pr w w' B s' r' ∧ Ld B.n s' r' := by
  obtain ⟨k, f, a, c0, c1, l0, l1, d, se, st, es, ts⟩ := x
  obtain ⟨g0, g1, g2, g3, he, ho, ht⟩ := hx
  have hse : ∃ b n c, se = .slice b n c := by
    obtain ⟨b, c, e, _⟩ := he.open
    exact ⟨_, _, _, e⟩
  have hst : ∃ b n c, st = .slice b n c := by
    obtain ⟨b, c, e, _⟩ := ht.open
    exact ⟨_, _, _, e⟩
  have hk : k % 8 = 0 ∨ k % 8 = 1 ∨ k % 8 = 2 ∨ k % 8 = 3 ∨ k % 8 = 4 ∨ k % 8 = 5 ∨ k % 8 = 6 ∨ k % 8 = 7 := by omega
  rcases hk with hk | hk | hk | hk | hk | hk | hk | hk
  · exact do_load k f a c0 c1 l0 l1 d se st W h hl hk g0 g1 g2 g3 he ht ho hlen
  · exact do_give k f a c0 c1 l0 l1 d se st W h hl hk g0 g1 g2 g3 hse hst
  · exact do_set k f a c0 c1 l0 l1 d se st W h hl hk g0 g1 g2 g3 hse hst
  · exact do_setL k f a c0 c1 l0 l1 d se st W h hl hk g0 g1 g2 g3 hse hst
  · exact do_wake k f a c0 c1 l0 l1 d se st W h hl hk g0 g1 g2 g3 hse hst
  · exact do_drop k f a c0 c1 l0 l1 d se st W h hl hk g0 g1 g2 g3 hse hst
  · exact do_take k f a c0 c1 l0 l1 d se st W h hl hk g0 g1 g2 g3 hse hst
  · by_cases ha : 0 ≤ a ∧ a < B.n
    · exact do_otherIn k f a c0 c1 l0 l1 d se st W h hl hk ha hse hst
    · by_cases ha0 : 0 ≤ a
      · exact do_otherHigh k f a c0 c1 l0 l1 d se st W h hl hk (by omega) hse hst
      · exact do_otherLow k f a c0 c1 l0 l1 d se st W h hl hk (by omega) hse hst
theorem looks_calls (x : PA) (hx : x.Ok w) (h : Pr w W B s r) (hl : Ld B.n s r) :
    Calls Try.prog 27 #[.pointer (some ⟨B.pb, 0, none⟩), .pointer (some ⟨B.qb, 0, none⟩), .agg (paV x).toArray] W fun e w' => e = .returned (.bool true) ∧ Pr w w' B s r := by
  obtain ⟨k, f, a, c0, c1, l0, l1, d, se, st, es, ts⟩ := x
  obtain ⟨g0, g1, g2, g3, he, ho, ht⟩ := hx
  have hse : ∃ b n c, se = .slice b n c := by
    obtain ⟨b, c, e, _⟩ := he.open
    exact ⟨_, _, _, e⟩
  have hst : ∃ b n c, st = .slice b n c := by
    obtain ⟨b, c, e, _⟩ := ht.open
    exact ⟨_, _, _, e⟩
  by_cases ha : 0 ≤ a ∧ a < 4096
  · exact looks_in k f a c0 c1 l0 l1 d se st W h hl ha hse hst
  · by_cases ha0 : 0 ≤ a
    · exact looks_high k f a c0 c1 l0 l1 d se st W h hl (by omega) hse hst
    · exact looks_low k f a c0 c1 l0 l1 d se st W h hl (by omega) hse hst
end
end Go.Proofs.Ytlaodkolkoefgaa
