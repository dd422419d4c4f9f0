/-
  The document's pool: Made.
-/
import Derived.Test.YtlaodkolkoefgaaFrZ
namespace Go.Proofs.Ytlaodkolkoefgaa
open Go.RowKit
set_option linter.unusedSimpArgs false
set_option linter.unusedVariables false

theorem info_ptr : (Try.prog.info? 31).map (fun i => (i.zero, i.size, i.bytes)) = some (some (.pointer none), 1, 8) := by kernel_rfl
theorem under_ptrs : Try.prog.underlying 69 = some (.slice 31) := by kernel_rfl
/-- A row of k pointers of one's own. -/
def PRow (w : World) (B : Nat) (v : Value) (k : Nat) (X : Nat → Nat) : Prop :=
  (v = .slice none 0 0 ∧ k = 0) ∨ ∃ g cap cs, v = .slice (some ⟨g, 0, none⟩) k cap ∧ B ≤ g ∧ Blk w g cs 31 ∧ k ≤ cap ∧ cap ≤ maxLen ∧ cs.length = cap ∧ (∀ f, f < k → cs[f]? = some (.pointer (some ⟨X f, 0, none⟩))) ∧ ∀ (o : Nat) (u : Value), cs[o]? = some u → ∃ p, u = .pointer p
theorem PRow.keep {w W : World} {B k : Nat} {v : Value} {X : Nat → Nat} (h : PRow w B v k X) (hb : Below w.heap.size w W) : PRow W B v k X := by
  rcases h with h | ⟨g, cap, cs, h1, h2, h3, h4⟩
  · exact .inl h
  · exact .inr ⟨g, cap, cs, h1, h2, h3.below hb h3.lt, h4⟩
theorem PRow.but {w W : World} {B k b : Nat} {T : TypeId} {cs' : List Value} {v : Value} {X : Nat → Nat} (h : PRow w B v k X) (hb : But b w W) (k' : Blk w b cs' T) (hT : T ≠ 31) : PRow W B v k X := by
  rcases h with h | ⟨g, cap, cs, h1, h2, h3, h4⟩
  · exact .inl h
  · exact .inr ⟨g, cap, cs, h1, h2, h3.but hb (h3.ne k' hT.symm), h4⟩
theorem zero_cells_ptr (m : Nat) : (Builtin.zeroCells (Value.pointer none).cells m).toList = List.replicate m (.pointer none) := by
  refine List.ext_getElem? fun j => ?_
  simp [Builtin.zeroCells, Value.cells]
  by_cases h : j < m
  · simp [h, Nat.mod_one]
  · simp [h]
theorem run_append_ptr {w : World} {B k x : Nat} {v : Value} {X : Nat → Nat} (h : PRow w B v k X) (hB : B ≤ w.heap.size) (hk : k ≤ 1000) (a : Addr) (c : Nat) (hc : w.cell? a = some (.pointer (some ⟨x, 0, none⟩))) (ty : TypeId) :
    ∃ v' w', (Builtin.append_ #[69, 69] ty #[v, .slice (some a) 1 c]).run Try.prog w = .ok v' w' ∧ PRow w' B v' (k + 1) (fun f => if f = k then x else X f) ∧ w.grownBy w' v.ownBlock := by
  obtain ⟨i, hi, hz0, hz1, hz2⟩ := info_parts info_ptr
  have hnews : ∀ (j : Nat) (u : Value), [Value.pointer (some ⟨x, 0, none⟩)][j]? = some u → w.cell? (a.add j) = some u := fun j u hj => by
    cases j with
    | zero => obtain rfl := Option.some.inj hj
              simpa [Addr.add] using hc
    | succ j => simp at hj
  have hgr : ∀ (xs : List Value) (cap : Nat), xs.length = k → (∀ f, f < k → xs[f]? = some (.pointer (some ⟨X f, 0, none⟩))) → k + 1 ≤ cap → cap ≤ maxLen →
      PRow (w.drew.alloc (.cells (xs.toArray ++ [Value.pointer (some ⟨x, 0, none⟩)].toArray ++ Builtin.zeroCells (Value.pointer none).cells (cap - (k + 1))) 31)) B (.slice (some ⟨w.heap.size, 0, none⟩) (k + 1) cap) (k + 1) (fun f => if f = k then x else X f) := by
    intro xs cap hl hx h1 h2
    have e := Blk.new w.drew (xs.toArray ++ [Value.pointer (some ⟨x, 0, none⟩)].toArray ++ Builtin.zeroCells (Value.pointer none).cells (cap - (k + 1))) 31
    rw [Array.toList_append, Array.toList_append, zero_cells_ptr] at e
    refine .inr ⟨w.heap.size, cap, _, rfl, hB, e, h1, h2, by simp [hl]; omega, fun f hf => ?_, fun o u hu => ?_⟩
    · rw [List.append_assoc, List.getElem?_append]
      simp only [List.toList_toArray, hl]
      by_cases e : f < k
      · rw [if_pos e, if_neg (by omega), hx f e]
      · rw [if_neg e, if_pos (by omega), show f - k = 0 by omega]
        rfl
    · have hm := List.mem_of_getElem? hu
      simp only [List.toList_toArray, List.mem_append, List.mem_singleton, List.mem_replicate] at hm
      rcases hm with (hm | hm) | hm
      · obtain ⟨f, hf, e⟩ := List.getElem_of_mem hm
        have := hx f (by omega)
        rw [List.getElem?_eq_getElem hf, e] at this
        exact ⟨_, Option.some.inj this⟩
      · exact ⟨_, hm⟩
      · exact ⟨_, hm.2⟩
  have hgb : ∀ o row, w.grownBy (w.drew.alloc o) row := fun o row => ⟨rfl, rfl, rfl, by simp, fun k hk _ => heap_alloc_old w.drew _ hk⟩
  rcases h with ⟨rfl, rfl⟩ | ⟨g, cap, cs, rfl, h1, h2, h3, h4, h5, h6, h7⟩
  · have hr := run_append_nil (P := Try.prog) w 69 ty 31 i _ under_ptrs hi hz0 a 1 c [Value.pointer (some ⟨x, 0, none⟩)] (by rw [hz1]; rfl) hnews (by omega) (by omega) (by rw [hz2]; omega)
    refine ⟨_, _, hr, ?_, hgb _ _⟩
    have := hgr [] (grownCap w 1 0 31) rfl (fun f hf => absurd hf (Nat.not_lt_zero _)) (grownCap_ge _ _ _ _) (grownCap_le_maxLen _ _ _ _ (by unfold maxLen; omega))
    simpa using this
  · by_cases hroom : k + 1 ≤ cap
    · have hfit : k * i.size + [Value.pointer (some ⟨x, 0, none⟩)].length ≤ cs.toArray.size := by rw [hz1]; simp; omega
      have hr := run_append_room (P := Try.prog) w 69 ty 31 i under_ptrs hi g k cap cs.toArray h2 a 1 c [Value.pointer (some ⟨x, 0, none⟩)] (by rw [hz1]; rfl) hnews (fun u hu => by simp at hu; subst hu; rfl) hroom hfit
      refine ⟨_, _, hr, ?_, ⟨rfl, rfl, rfl, by simp, fun k _ hk => setRow_other w g k _ (fun e => hk (by simp [Value.ownBlock, e]))⟩⟩
      refine .inr ⟨g, cap, _, rfl, h1, setRow_heap w g cs.toArray _ 31 _ h2, hroom, h4, ?_, fun f hf => ?_, fun o u hu => ?_⟩
      · simp [hz1]; omega
      · rw [hz1, Nat.mul_one, List.append_assoc, List.getElem?_append]
        have hl : (cs.take k).length = k := by simp; omega
        simp only [hl]
        by_cases e : f < k
        · rw [if_pos e, if_neg (by omega), List.getElem?_take, if_pos e, h6 f e]
        · rw [if_neg e, if_pos (by omega), show f - k = 0 by omega]
          rfl
      · have hm := List.mem_of_getElem? hu
        simp only [List.mem_append, List.mem_singleton] at hm
        rcases hm with (hm | hm) | hm
        · obtain ⟨j, hj, e⟩ := List.getElem_of_mem (List.mem_of_mem_take hm)
          exact h7 j u (by rw [List.getElem?_eq_getElem hj, e])
        · exact ⟨_, hm⟩
        · obtain ⟨j, hj, e⟩ := List.getElem_of_mem (List.mem_of_mem_drop hm)
          exact h7 j u (by rw [List.getElem?_eq_getElem hj, e])
    · have hkc : k = cap := by omega
      have holds : ∀ (j : Nat) (u : Value), cs[j]? = some u → w.cell? ((⟨g, 0, none⟩ : Addr).add j) = some u := fun j u hj => by
        have hadd : (⟨g, 0, none⟩ : Addr).add j = ⟨g, j, none⟩ := by unfold Addr.add; split <;> simp_all
        rw [hadd]; exact h2.cell j hj
      have hr := run_append_grow (P := Try.prog) w 69 ty 31 i _ under_ptrs hi hz0 ⟨g, 0, none⟩ k cap cs (by rw [hz1]; omega) holds a 1 c [Value.pointer (some ⟨x, 0, none⟩)] (by rw [hz1]; rfl) hnews (by omega) (by omega) (growslice_fits (by omega) (by rw [hz2]; omega))
      exact ⟨_, _, hr, hgr cs _ (by omega) h6 (grownCap_ge _ _ _ _) (grownCap_le_maxLen _ _ _ _ (by unfold maxLen; omega)), hgb _ _⟩
theorem wpList_append_ptr {w : World} {ops : Array Oper} {rest : List Oper} {o : Oper} {a : Act} {Q : Exit → Act → World → Prop} (hgd : o.guard = none) (s x : Operand)
    (ho : o.op = .call { callee := .builtin .append, args := #[s, x], argTypes := #[69, 69] }) {B k b c : Nat} {ad : Addr} {v : Value} {X : Nat → Nat} (hs : a.eval s = v) (hx : a.eval x = .slice (some ad) 1 c)
    (h : PRow w B v k X) (hB : B ≤ w.heap.size) (hk : k ≤ 1000) (hc : w.cell? ad = some (.pointer (some ⟨b, 0, none⟩)))
    (hq : ∀ v' w', PRow w' B v' (k + 1) (fun f => if f = k then b else X f) → w.grownBy w' v.ownBlock → wpList Try.prog ops Q rest (a.put o.dst v') w') : wpList Try.prog ops Q (o :: rest) a w :=
  wpList_plain hgd fun _ hK => by
    obtain ⟨v', w', hr, h2, h3⟩ := run_append_ptr h hB hk ad c hc o.type
    unfold Oper.wp execOp
    simp only [ho, resolve, invoke, builtin, Sem.run_bind, Sem.run_pure, Result.andThen_ok, List.map_toArray, List.map_cons, List.map_nil, hs, hx, hr]
    exact hK _ _ (hq v' w' h2 h3)
theorem Blk.grown {w W : World} {b k B : Nat} {cs : List Value} {T : TypeId} {v : Value} {X : Nat → Nat} (h : Blk w b cs T) (hg : w.grownBy W v.ownBlock) (hp : PRow w B v k X) (hT : T ≠ 31) : Blk W b cs T := by
  refine (hg.block b h.lt fun e => ?_).trans h
  rcases hp with ⟨rfl, _⟩ | ⟨g, cap, cs', rfl, _, hb, _⟩
  · cases e
  · injection e with e
    subst e
    exact hT (h.ty hb)
theorem below_grownP {w W : World} {k B : Nat} {v : Value} {X : Nat → Nat} (hg : w.grownBy W v.ownBlock) (hp : PRow w B v k X) (hB : B ≤ w.heap.size) : Below B w W :=
  ⟨hg.os, hg.tape, hg.output, hg.size, fun j hj => hg.block j (by omega) fun e => by
    rcases hp with ⟨rfl, _⟩ | ⟨g, cap, cs', rfl, h1, _⟩
    · cases e
    · injection e with e
      subst e
      exact absurd h1 (by omega)⟩
/-- k chunks of the new pool stand. -/
structure Mk (w W : World) (n k : Nat) (v : Value) (x : Nat → Nat) : Prop where
  bel : Below w.heap.size w W
  pool : Blk W (w.heap.size + 1) [v, .slice (some ⟨w.heap.size, 0, none⟩) n n] 71
  row : PRow W w.heap.size v k x
  take : Row1 W w.heap.size 4 n (fun _ => .bool false)
  ch : ∀ f, f < k → Ck W (x f) zeroP zeroP (.slice none 0 0)
  inj : ∀ f g, f < k → g < k → x f = x g → f = g
  low : ∀ f, f < k → w.heap.size ≤ x f
theorem Mk.open {w W : World} {n k : Nat} {v : Value} {x : Nat → Nat} (h : Mk w W n k v x) : ∃ base cap, v = .slice base k cap := by
  rcases h.row with ⟨rfl, rfl⟩ | ⟨g, cap, cs', rfl, _⟩
  · exact ⟨_, _, rfl⟩
  · exact ⟨_, _, rfl⟩
theorem Mk.step {w W W3 : World} {n k : Nat} {v v' : Value} {x : Nat → Nat} (h : Mk w W n k v x)
    (hp : PRow W3 w.heap.size v' (k + 1) (fun f => if f = k then W.heap.size else x f)) (hg : ((W.alloc (.cells chunkZ 46)).alloc (.cells #[.pointer (some ⟨W.heap.size, 0, none⟩)] 31)).grownBy W3 v.ownBlock) :
    Mk w (W3.setCell ⟨w.heap.size + 1, 0, none⟩ v') n (k + 1) v' (fun f => if f = k then W.heap.size else x f) := by
  obtain ⟨W2, hW2⟩ : ∃ W2, (W.alloc (.cells chunkZ 46)).alloc (.cells #[.pointer (some ⟨W.heap.size, 0, none⟩)] 31) = W2 := ⟨_, rfl⟩
  have hA : Below W.heap.size W W2 := by
    rw [← hW2]
    exact ((Below.refl _ _).alloc (Nat.le_refl _) _).alloc (by simp) _
  have hnew : Ck W2 W.heap.size zeroP zeroP (.slice none 0 0) := by
    rw [← hW2]
    exact (ck_new W).keep ((Below.refl _ _).alloc (Nat.le_refl _) _)
  rw [hW2] at hg
  have hr2 := h.row.keep hA
  have hB2 : w.heap.size ≤ W2.heap.size := Nat.le_trans h.bel.size hA.size
  have b3 := below_grownP hg hr2 hB2
  have p3 := (h.pool.below hA h.pool.lt).grown hg hr2 (by decide)
  have ckg : ∀ {b : Nat}, Ck W2 b zeroP zeroP (.slice none 0 0) → Ck W3 b zeroP zeroP (.slice none 0 0) := fun k => k.elim fun cs k => ⟨cs, k.1.grown hg hr2 (by decide), k.2⟩
  have t3 : Row1 W3 w.heap.size 4 n (fun _ => .bool false) := (h.take.keep hA).elim fun cs k => ⟨cs, k.1.grown hg hr2 (by decide), k.2⟩
  have hb4 : But (w.heap.size + 1) W3 (W3.setCell ⟨w.heap.size + 1, 0, none⟩ v') := (But.refl _ _).setCell 0 _
  have hold : ∀ f, f < k → x f < W.heap.size := fun f hf => (h.ch f hf).lt
  refine ⟨(h.bel.trans (hA.mono h.bel.size)).trans b3 |>.setCell (p := ⟨w.heap.size + 1, 0, none⟩) (Nat.le_succ _) _, p3.set 0 v', hp.but hb4 p3 (by decide), t3.but hb4 (by omega), fun f hf => ?_, fun f g hf hg' e => ?_, fun f hf => ?_⟩
  · by_cases e : f = k
    · subst e
      rw [if_pos rfl]
      have := ckg hnew
      exact this.but hb4 (this.elim fun cs k => k.1.ne p3 (by decide))
    · rw [if_neg e]
      have := ckg ((h.ch f (by omega)).keep hA)
      exact this.but hb4 (this.elim fun cs k => k.1.ne p3 (by decide))
  · by_cases e1 : f = k
    · by_cases e2 : g = k
      · rw [e1, e2]
      · rw [if_pos e1, if_neg e2] at e
        have := hold g (by omega)
        omega
    · by_cases e2 : g = k
      · rw [if_neg e1, if_pos e2] at e
        have := hold f (by omega)
        omega
      · rw [if_neg e1, if_neg e2] at e
        exact h.inj f g (by omega) (by omega) e
  · by_cases e : f = k
    · rw [if_pos e]; exact h.bel.size
    · rw [if_neg e]; exact h.low f (by omega)
theorem Mk.done {w W : World} {n : Nat} {v : Value} {x : Nat → Nat} (h : Mk w W n n v x) (h1 : 1 ≤ n) (h64 : n ≤ 64) : ∃ kb kc, Rp W (w.heap.size + 1) kb kc w.heap.size n x (fun _ => zeroP) (fun _ => zeroP) (fun _ => []) (fun _ => false) ∧ w.heap.size ≤ kb ∧ ∀ f, f < n → w.heap.size ≤ x f := by
  have hx := h.low
  rcases h.row with ⟨_, e⟩ | ⟨g, cap, cs, rfl, hg, hb, hn, hc, hl, hp, hq⟩
  · omega
  · exact ⟨g, cap, { pool := h.pool, ptrs := ⟨cs, hb, hp, hq⟩, take := h.take, ch := fun f hf => ⟨_, h.ch f hf, TRow.nil _⟩, inj := h.inj, n1 := h1, n64 := h64, kcn := hn, kcm := hc, u8 := fun _ => ⟨U8.zero, U8.zero⟩, tl := fun _ => by simp }, hg, hx⟩
set_option maxRecDepth 100000 in
set_option maxHeartbeats 8000000 in
theorem rmade_calls (n : Nat) (w : World) (h1 : 1 ≤ n) (h64 : n ≤ 64) :
    Calls Try.prog 25 #[.int .i64 (n : Int)] w fun e w' => e = .returned (.pointer (some ⟨w.heap.size + 1, 0, none⟩)) ∧ (∃ x kb kc, Rp w' (w.heap.size + 1) kb kc w.heap.size n x (fun _ => zeroP) (fun _ => zeroP) (fun _ => []) (fun _ => false) ∧ w.heap.size ≤ kb ∧ ∀ f, f < n → w.heap.size ≤ x f) ∧ Below w.heap.size w w' := by
  have hz : ∀ w, (zeroValue 46).run Try.prog w = .ok (.agg chunkZ) w := zero_chunk
  have hmk := make_bools n (by omega)
  have hst := fun (W W3 : World) (k : Nat) (v v' : Value) (x : Nat → Nat) (h : Mk w W n k v x) => h.step (W3 := W3) (v' := v')
  have h0 : Mk w ((w.alloc (.cells (madeCells #[.bool false] n) 4)).alloc (.cells #[.slice none 0 0, .slice (some ⟨w.heap.size, 0, none⟩) n n] 71)) n 0 (.slice none 0 0) (fun _ => 0) :=
    ⟨((Below.refl _ _).alloc (Nat.le_refl _) _).alloc (by simp) _, Blk.new_at _ _ (by simp), .inl ⟨rfl, rfl⟩, (made_row _ n w _).keep ((Below.refl _ _).alloc (Nat.le_refl _) _), fun f hf => absurd hf (Nat.not_lt_zero _), fun f g hf => absurd hf (Nat.not_lt_zero _), fun f hf => absurd hf (Nat.not_lt_zero _)⟩
  generalize chunkZ = Z at *
  replace hst := Lib.hid hst
  replace h0 := Lib.hid h0
  go_enter Try.func25, Try.ntmps25
  go_wp2_with fail
  go_loopw [4] (fun i W => ∃ k v x, k ≤ n ∧ i = .int .i64 k ∧ Mk w W n k v x) (fun i _ => n - (intOf i).toNat)
  case atStart => exact ⟨0, _, _, by omega, rfl, h0.out⟩
  case round =>
    obtain ⟨k, v, x, hk, rfl, H⟩ := hrel
    clear h0
    by_cases hlt : k < n
    · obtain ⟨base, cap, rfl⟩ := H.open
      have hkn : (k : Int) < (n : Int) := by omega
      have c0 := H.pool.cell 0 rfl
      have f0 := H.pool.frozen 0
      have hwl := H.pool.lt
      have hrow := H.row.keep (((Below.refl wr.heap.size wr).alloc (Nat.le_refl _) (.cells Z 46)).alloc (by simp) (.cells #[.pointer (some ⟨wr.heap.size, 0, none⟩)] 31))
      have hnc := (Blk.new_at (w := wr.alloc (.cells Z 46)) (n := wr.heap.size + 1) #[.pointer (some ⟨wr.heap.size, 0, none⟩)] 31 (by simp)).cell 0 rfl
      have hws := H.bel.size
      replace H := Lib.hid H
      replace hrow := Lib.hid hrow
      replace hnc := Lib.hid hnc
      go_wp2_with (at_builtin; refine wpList_append_ptr rfl (.tmp 18) (.tmp 21) rfl rfl rfl hrow.out (by simp; omega) (by omega) hnc.out ?_)
      intro v' W3 h4 h5
      have hv' : ∃ b c, v' = .slice b (k + 1) c := by
        rcases h4 with ⟨_, e⟩ | ⟨g, cap, cs', e, _⟩
        · omega
        · exact ⟨_, _, e⟩
      obtain ⟨b', c', e⟩ := hv'
      subst e
      have H3 := hst.out _ _ _ _ _ _ H.out h4 h5
      have p3 := H3.pool.lt
      have hrow2 := hrow.out
      have hp3 := (((H.out.pool.alloc (.cells Z 46)).alloc (.cells #[.pointer (some ⟨wr.heap.size, 0, none⟩)] 31))).grown h5 hrow2 (by decide)
      have c3 := hp3.cell 0 rfl
      have f3 := hp3.frozen 0
      replace H3 := Lib.hid H3
      clear h4 h5 hrow2 hp3 c0 f0
      go_wp2_with fail
      go_round
      case rel => exact ⟨k + 1, _, _, by omega, by go_num, H3.out⟩
      case measure => simp [intOf]; omega
    · obtain rfl : k = n := by omega
      have hd := H.done h1 h64
      have hb := H.bel
      replace hd := Lib.hid hd
      replace hb := Lib.hid hb
      clear H
      go_wp2_with fail
      go_ret
      obtain ⟨kb, kc, h3, h4, h5⟩ := hd.out
      exact ⟨rfl, ⟨x, kb, ⟨kc, h3⟩, h4, h5⟩, hb.out⟩
end Go.Proofs.Ytlaodkolkoefgaa
