/- The cache's Dirty and Clean, walked: the blocks of which something is true, rising. The keys are of 64 bits; at most 1000000. -/
import Derived.Test.YtbcjcfjbdjdajaaC4
import Derived.IntWalk
namespace Go.Proofs.Ytbcjcfjbdjdajaa
open Go.RowKit
attribute [local go_sem ↓] loadAtB storeAtB loadAtH storeAtH buildAtH buildAtB
attribute [local irreducible] ha
theorem range_one {W : World} {g o : Nat} {x : Value} (h : W.rangeAt g o [x]) : W.cell? ⟨g, o, none⟩ = some x := h 0 x rfl
def BPost (v : Value) (w : World) (e : Ending) (w' : World) : Prop := e = .returned v ∧ Below w.heap.size w w'
theorem dirty1_any (b : Int) (x : Hd) (W : World) : Calls Try.prog 33 #[.int .i64 b, .agg (ha x)] W (BPost (.bool x.2) W) := by
  have cd := cellHd (Whole.new W (ha x) 78)
  go_enter Try.func33, Try.ntmps33
  go_wp2_with fail
  go_ret
  exact ⟨rfl, (Below.refl _ _).alloc (Nat.le_refl _) _⟩
theorem clean1_any (b : Int) (x : Hd) (g : Nat) {W : World} {c : Cf} {vw : Value} {C : Ck} (h : CAt W c vw C) (hg : W.cell? ⟨g, 0, none⟩ = some (.pointer (some ⟨c.rc, 0, none⟩))) (hl : g < W.heap.size) :
    Calls Try.prog 34 #[.int .i64 b, .agg (ha x), .pointer (some ⟨g, 0, none⟩)] W (BPost (.bool (!x.2 && !pinned C b)) W) := by
  have H := Lib.hid (h.later ((Below.refl _ _).alloc (Nat.le_refl _) (.cells (ha x) 78)))
  have cd := cellHd (Whole.new W (ha x) 78)
  have cg : (W.alloc (.cells (ha x) 78)).cell? ⟨g, 0, none⟩ = some (.pointer (some ⟨c.rc, 0, none⟩)) := (World.cell?_of_block (Below.heap_alloc _ _ _ hl)).trans hg
  obtain ⟨_, _, k2⟩ := H.out.cells
  clear h hg
  obtain ⟨x, d⟩ := x
  cases d with
  | true =>
    go_enter Try.func34, Try.ntmps34
    go_wp2_with fail
    go_ret
    exact ⟨rfl, (Below.refl _ _).alloc (Nat.le_refl _) _⟩
  | false =>
    obtain ⟨q, hq⟩ : ∃ q, Hid (pinned C b = q) := ⟨_, rfl⟩
    rw [hq.out]
    go_enter Try.func34, Try.ntmps34
    go_wp2_with (at_lookup; refine wpl_lookG (f := pval) Try.underlying3 rfl _ _ 56 rfl 4 Try.underlying56 run_zeroBool _ c.pm C.pin b rfl rfl H.out.pin (.bool q) (by rw [pinned_val, hq.out]) ?_)
    go_ret
    exact ⟨by simp, (Below.refl _ _).alloc (Nat.le_refl _) _⟩
def isD (C : Ck) (b : Int) : Bool := ((lookD C.has b).getD zH).2
def isC (C : Ck) (b : Int) : Bool := !isD C b && !pinned C b
def keysC (C : Ck) : List Int := sortI (C.has.map (·.1))
def cDirty (C : Ck) : List Int := (keysC C).filter (isD C)
def cClean (C : Ck) : List Int := (keysC C).filter (isC C)
theorem keysC_len (C : Ck) : (keysC C).length = C.has.length := by unfold keysC; rw [sortI_len, List.length_map]
def SomePost (out : List Int) (w : World) (e : Ending) (w' : World) : Prop := ∃ a k, e = .returned (.slice a out.length k) ∧ w'.ownsRow w.heap.size 3 1 (.slice a out.length k) out.length (flat ic out) ∧ Below w.heap.size w w'
theorem info3 : (Try.prog.info? 3).map (fun i => (i.zero, i.size, i.bytes)) = some (some (.int .i64 0), 1, 8) := by kernel_rfl
/-- Between two rounds: what has come so far. -/
structure SR (W1 : World) (v : Value) (out : List Int) (W : World) : Prop where
  bel : Below W1.heap.size W1 W
  own : W.ownsRow W1.heap.size 3 1 v out.length (flat ic out)
theorem SR.later {W1 : World} {v : Value} {out : List Int} {W W' : World} (h : SR W1 v out W) (hb : Below W.heap.size W W') : SR W1 v out W' := ⟨h.bel.trans (hb.mono h.bel.size), own_later h.own hb⟩
theorem SR.app {W1 : World} {v v' : Value} {out : List Int} {W W5 : World} {o : Obj} {b : Int} (h : SR W1 v out W) (ho : W5.ownsRow W1.heap.size 3 1 v' (out.length + 1) (flat ic out ++ ic b)) (hg : (W.alloc o).grownBy W5 v.ownBlock) : SR W1 v' (out ++ [b]) W5 :=
  ⟨(h.bel.alloc h.bel.size o).grown hg (by have := h.bel.size; simp; omega) (fun k hk => (h.own.lt k hk).1), by rw [List.length_append, flat_snoc]; exact ho⟩
theorem filter_step (p : Int → Bool) {ks : List Int} {i : Nat} {x : Int} (h : ks[i]? = some x) : (ks.take (i + 1)).filter p = (ks.take i).filter p ++ if p x then [x] else [] := by
  rw [List.take_add_one, h, List.filter_append]
  cases hp : p x <;> simp [hp]
set_option maxRecDepth 100000 in
set_option maxHeartbeats 2000000 in
theorem some_d {W : World} {c : Cf} {vw : Value} {C : Ck} (hwf : ∀ p ∈ C.has, wf64 p.1) (hn : C.has.length ≤ 1000000) (h : CAt W c vw C) :
    Calls Try.prog 32 #[.pointer (some ⟨c.rc, 0, none⟩), .func (.func 33) #[] #[]] W (SomePost ((keysC C).filter (isD C)) W) := by
  have H := Lib.hid h
  have hnone := Lib.hid (none_c h)
  obtain ⟨_, k1, _⟩ := h.cells
  have hkeys := Lib.hid (keysH (some c.hm) W)
  have hsort := sortedH (m := lift hval C.has) h.has (fun p hp => by obtain ⟨q, hq, rfl⟩ := List.mem_map.1 hp; exact hwf q hq) (by rw [lift_len]; exact hn)
  rw [lift_len, lift_keys] at hsort
  have hl := keysC_len C
  have hsort : Hid (Calls Try.prog 45 #[.func (.func 50) #[] #[.pointer (some ⟨W.heap.size, 0, none⟩)]] (W.alloc (.cells #[.map (some c.hm)] 55)) (fun e w' => ∃ a k, e = .returned (.slice a (keysC C).length k) ∧ w'.ownsRow W.heap.size 3 1 (.slice a (keysC C).length k) (keysC C).length (flat ic (keysC C)) ∧ Below W.heap.size W w')) := by
    unfold Hid
    rw [hl]
    exact hsort
  obtain ⟨i0, hi0, hz0, hz1, hz2⟩ := info_parts info3
  have hlen : (keysC C).length ≤ 1000000 := by rw [hl]; exact hn
  have hv : Hid (∀ b, (((lookD C.has b).map hval).getD (hval zH)) = .agg (ha ((lookD C.has b).getD zH))) := fun b => held_val C b rfl
  have hpC : Hid (∀ b, isD C b = ((lookD C.has b).getD zH).2) := fun b => rfl
  clear h hwf hn hl
  generalize keysC C = ks at hsort hlen
  go_enter Try.func32, Try.ntmps32
  go_wp2_with (first
    | (go_at_call 36; refine hnone.out.mono ?_; rintro e w1 ⟨rfl, e1⟩; have e1H := Lib.hid e1; subst e1)
    | (go_at_call 46; refine hkeys.out.mono ?_; rintro e w2 ⟨rfl, rfl⟩)
    | (go_at_call 45; refine hsort.out.mono ?_; rintro e w3 ⟨a3, c3, rfl, ho3, hb3⟩; have O3 := Lib.hid ho3; have B3 := Lib.hid hb3; clear ho3 hb3))
  have S0 : Hid (SR w3 (.slice none 0 0) ((ks.take 0).filter (isD C)) w3) := ⟨Below.refl _ _, World.ownsRow_nil _ _ _ _⟩
  have hc3 : c3 ≤ 9223372036854775807 := by obtain ⟨ao, cap, e, _, h2, _⟩ := (Sl.own O3.out).ex; cases e; exact h2
  have hk3 : ks.length ≤ c3 := by obtain ⟨ao, cap, e, h1, _, _⟩ := (Sl.own O3.out).ex; cases e; exact h1
  go_loopw [5, 17] (fun v5 v17 W => ∃ i, v17 = .int .i64 (i : Nat) ∧ i ≤ ks.length ∧ SR w3 v5 ((ks.take i).filter (isD C)) W) (fun _ v17 _ => (ks.length - intOf v17).toNat)
  case atStart => exact ⟨0, rfl, by omega, S0.out⟩
  case round =>
    obtain ⟨i, rfl, hi, hS⟩ := hrel
    have SH := Lib.hid hS
    clear hS S0
    by_cases hin : i < ks.length
    · obtain ⟨g3, rfl, _, _, _⟩ := own_head O3.out (by omega)
      obtain ⟨x, hx⟩ : ∃ x, ks[i]? = some x := ⟨_, List.getElem?_eq_getElem hin⟩
      have hg3 := (O3.out.lt g3 rfl).2
      have c0 := range_one (rangeAt_sub (own_range O3.out) (k := i * 1) (ys := [.int .i64 x]) (fun j v hv => by rw [flat_get ic_len hx j (by have := (List.getElem?_eq_some_iff.1 hv).1; simpa using this)]; exact hv))
      rw [Nat.zero_add, Nat.mul_one] at c0
      have cx : wr.cell? ⟨g3, i, none⟩ = some (.int .i64 x) := (World.cell?_of_block (SH.out.bel.block _ hg3)).trans c0
      have Bw : Hid (Below w1.heap.size w1 wr) := B3.out.trans (SH.out.bel.mono B3.out.size)
      have Hw := Lib.hid (H.out.later Bw.out)
      obtain ⟨_, k1w, _⟩ := Hw.out.cells
      have hstep := Lib.hid (filter_step (isD C) hx)
      have wi : IntKind.i64.wrap ((i : Int) + 1) = (i : Int) + 1 := IntWalk.i64_in _ (by omega)
      have hol : Hid (((ks.take i).filter (isD C)).length ≤ 1000000) := Nat.le_trans (List.length_filter_le _ _) (by rw [List.length_take]; omega)
      have hp := hpC.out x
      clear c0 hx
      cases hpx : isD C x with
      | false =>
        rw [hpx] at hp
        have hcl' : Hid (Calls Try.prog 33 #[.int .i64 x, .agg (ha ((lookD C.has x).getD zH))] wr (BPost (.bool false) wr)) := by unfold Hid; rw [hp]; exact dirty1_any _ _ _
        rw [hpx] at hstep
        replace hpx := Lib.hid hpx
        replace hp := Lib.hid hp
        go_wp2_with (first
          | (at_lookup; refine wpl_lookV (f := hval) Try.underlying3 rfl _ _ 55 rfl 78 Try.underlying55 run_zeroH _ c.hm C.has x rfl rfl Hw.out.has _ (hv.out x) ?_)
          | (go_at_call 33; refine hcl'.out.mono ?_; rintro e w4 ⟨rfl, hb4⟩; have S4 := Lib.hid (SH.out.later hb4); clear hb4))
        refine ⟨⟨i + 1, rfl, by omega, ?_⟩, by simp [intOf]; omega⟩
        rw [hstep.out, if_neg (by decide), List.append_nil]
        exact S4.out
      | true =>
        rw [hpx] at hp
        have hcl' : Hid (Calls Try.prog 33 #[.int .i64 x, .agg (ha ((lookD C.has x).getD zH))] wr (BPost (.bool true) wr)) := by unfold Hid; rw [hp]; exact dirty1_any _ _ _
        rw [hpx] at hstep
        replace hpx := Lib.hid hpx
        replace hp := Lib.hid hp
        go_wp2_with (first
          | (at_lookup; refine wpl_lookV (f := hval) Try.underlying3 rfl _ _ 55 rfl 78 Try.underlying55 run_zeroH _ c.hm C.has x rfl rfl Hw.out.has _ (hv.out x) ?_)
          | (go_at_call 33; refine hcl'.out.mono ?_; rintro e w4 ⟨rfl, hb4⟩; have S4 := Lib.hid (SH.out.later hb4); clear hb4)
          | (at_builtin; refine wpList_append_own_at _ rfl _ _ 28 rfl w3.heap.size 3 i0 (.int .i64 0) 1 8 Try.underlying28 hi0 hz0 hz1 hz2 rfl (by decide) _ _ _ rfl (S4.out.own.alloc _) ⟨w4.heap.size, 0, none⟩ 1 1 (ic x) rfl rfl (cell_one_new _ _ _) (fun u hu => by simp [ic] at hu; subst hu; rfl) (by have := hol.out; unfold maxLen; omega) (by have := hol.out; omega) (by have := S4.out.bel.size; simp; omega) ?_; intro v6 w6 hown hgrow _ _; have S6 := Lib.hid (S4.out.app hown hgrow); clear hown hgrow))
        refine ⟨⟨i + 1, rfl, by omega, ?_⟩, by simp [intOf]; omega⟩
        rw [hstep.out, if_pos trivial]
        exact S6.out
    · obtain rfl : i = ks.length := by omega
      go_wp2_with fail
      go_ret
      have S := SH.out
      rw [List.take_length] at S
      obtain ⟨a, k, rfl⟩ := own_shape S.own
      exact ⟨a, k, rfl, own_mono S.own B3.out.size, B3.out.trans (S.bel.mono B3.out.size)⟩
set_option maxRecDepth 100000 in
set_option maxHeartbeats 2000000 in
theorem some_c {W : World} {c : Cf} {vw : Value} {C : Ck} (g : Nat) (hwf : ∀ p ∈ C.has, wf64 p.1) (hn : C.has.length ≤ 1000000) (h : CAt W c vw C) (hg : W.cell? ⟨g, 0, none⟩ = some (.pointer (some ⟨c.rc, 0, none⟩))) (hlg : g < W.heap.size) :
    Calls Try.prog 32 #[.pointer (some ⟨c.rc, 0, none⟩), .func (.func 34) #[] #[.pointer (some ⟨g, 0, none⟩)]] W (SomePost ((keysC C).filter (isC C)) W) := by
  have H := Lib.hid h
  have hnone := Lib.hid (none_c h)
  obtain ⟨_, k1, _⟩ := h.cells
  have hkeys := Lib.hid (keysH (some c.hm) W)
  have hsort := sortedH (m := lift hval C.has) h.has (fun p hp => by obtain ⟨q, hq, rfl⟩ := List.mem_map.1 hp; exact hwf q hq) (by rw [lift_len]; exact hn)
  rw [lift_len, lift_keys] at hsort
  have hl := keysC_len C
  have hsort : Hid (Calls Try.prog 45 #[.func (.func 50) #[] #[.pointer (some ⟨W.heap.size, 0, none⟩)]] (W.alloc (.cells #[.map (some c.hm)] 55)) (fun e w' => ∃ a k, e = .returned (.slice a (keysC C).length k) ∧ w'.ownsRow W.heap.size 3 1 (.slice a (keysC C).length k) (keysC C).length (flat ic (keysC C)) ∧ Below W.heap.size W w')) := by
    unfold Hid
    rw [hl]
    exact hsort
  obtain ⟨i0, hi0, hz0, hz1, hz2⟩ := info_parts info3
  have hlen : (keysC C).length ≤ 1000000 := by rw [hl]; exact hn
  have hv : Hid (∀ b, (((lookD C.has b).map hval).getD (hval zH)) = .agg (ha ((lookD C.has b).getD zH))) := fun b => held_val C b rfl
  have hpC : Hid (∀ b, isC C b = (!((lookD C.has b).getD zH).2 && !pinned C b)) := fun b => rfl
  have hgH := Lib.hid hg
  clear h hwf hn hl hg
  generalize keysC C = ks at hsort hlen
  go_enter Try.func32, Try.ntmps32
  go_wp2_with (first
    | (go_at_call 36; refine hnone.out.mono ?_; rintro e w1 ⟨rfl, e1⟩; have e1H := Lib.hid e1; subst e1)
    | (go_at_call 46; refine hkeys.out.mono ?_; rintro e w2 ⟨rfl, rfl⟩)
    | (go_at_call 45; refine hsort.out.mono ?_; rintro e w3 ⟨a3, c3, rfl, ho3, hb3⟩; have O3 := Lib.hid ho3; have B3 := Lib.hid hb3; clear ho3 hb3))
  have S0 : Hid (SR w3 (.slice none 0 0) ((ks.take 0).filter (isC C)) w3) := ⟨Below.refl _ _, World.ownsRow_nil _ _ _ _⟩
  have hc3 : c3 ≤ 9223372036854775807 := by obtain ⟨ao, cap, e, _, h2, _⟩ := (Sl.own O3.out).ex; cases e; exact h2
  have hk3 : ks.length ≤ c3 := by obtain ⟨ao, cap, e, h1, _, _⟩ := (Sl.own O3.out).ex; cases e; exact h1
  go_loopw [5, 17] (fun v5 v17 W => ∃ i, v17 = .int .i64 (i : Nat) ∧ i ≤ ks.length ∧ SR w3 v5 ((ks.take i).filter (isC C)) W) (fun _ v17 _ => (ks.length - intOf v17).toNat)
  case atStart => exact ⟨0, rfl, by omega, S0.out⟩
  case round =>
    obtain ⟨i, rfl, hi, hS⟩ := hrel
    have SH := Lib.hid hS
    clear hS S0
    by_cases hin : i < ks.length
    · obtain ⟨g3, rfl, _, _, _⟩ := own_head O3.out (by omega)
      obtain ⟨x, hx⟩ : ∃ x, ks[i]? = some x := ⟨_, List.getElem?_eq_getElem hin⟩
      have hg3 := (O3.out.lt g3 rfl).2
      have c0 := range_one (rangeAt_sub (own_range O3.out) (k := i * 1) (ys := [.int .i64 x]) (fun j v hv => by rw [flat_get ic_len hx j (by have := (List.getElem?_eq_some_iff.1 hv).1; simpa using this)]; exact hv))
      rw [Nat.zero_add, Nat.mul_one] at c0
      have cx : wr.cell? ⟨g3, i, none⟩ = some (.int .i64 x) := (World.cell?_of_block (SH.out.bel.block _ hg3)).trans c0
      have Bw : Hid (Below w1.heap.size w1 wr) := B3.out.trans (SH.out.bel.mono B3.out.size)
      have Hw := Lib.hid (H.out.later Bw.out)
      obtain ⟨_, k1w, _⟩ := Hw.out.cells
      have hstep := Lib.hid (filter_step (isC C) hx)
      have wi : IntKind.i64.wrap ((i : Int) + 1) = (i : Int) + 1 := IntWalk.i64_in _ (by omega)
      have hol : Hid (((ks.take i).filter (isC C)).length ≤ 1000000) := Nat.le_trans (List.length_filter_le _ _) (by rw [List.length_take]; omega)
      have hp := hpC.out x
      have cgw := (World.cell?_of_block (Bw.out.block _ hlg)).trans hgH.out
      have hlw : g < wr.heap.size := Nat.lt_of_lt_of_le hlg Bw.out.size
      clear c0 hx
      cases hpx : isC C x with
      | false =>
        rw [hpx] at hp
        have hcl' : Hid (Calls Try.prog 34 #[.int .i64 x, .agg (ha ((lookD C.has x).getD zH)), .pointer (some ⟨g, 0, none⟩)] wr (BPost (.bool false) wr)) := by unfold Hid; rw [hp]; exact clean1_any _ _ g Hw.out cgw hlw
        rw [hpx] at hstep
        replace hpx := Lib.hid hpx
        replace hp := Lib.hid hp
        go_wp2_with (first
          | (at_lookup; refine wpl_lookV (f := hval) Try.underlying3 rfl _ _ 55 rfl 78 Try.underlying55 run_zeroH _ c.hm C.has x rfl rfl Hw.out.has _ (hv.out x) ?_)
          | (go_at_call 34; refine hcl'.out.mono ?_; rintro e w4 ⟨rfl, hb4⟩; have S4 := Lib.hid (SH.out.later hb4); clear hb4))
        refine ⟨⟨i + 1, rfl, by omega, ?_⟩, by simp [intOf]; omega⟩
        rw [hstep.out, if_neg (by decide), List.append_nil]
        exact S4.out
      | true =>
        rw [hpx] at hp
        have hcl' : Hid (Calls Try.prog 34 #[.int .i64 x, .agg (ha ((lookD C.has x).getD zH)), .pointer (some ⟨g, 0, none⟩)] wr (BPost (.bool true) wr)) := by unfold Hid; rw [hp]; exact clean1_any _ _ g Hw.out cgw hlw
        rw [hpx] at hstep
        replace hpx := Lib.hid hpx
        replace hp := Lib.hid hp
        go_wp2_with (first
          | (at_lookup; refine wpl_lookV (f := hval) Try.underlying3 rfl _ _ 55 rfl 78 Try.underlying55 run_zeroH _ c.hm C.has x rfl rfl Hw.out.has _ (hv.out x) ?_)
          | (go_at_call 34; refine hcl'.out.mono ?_; rintro e w4 ⟨rfl, hb4⟩; have S4 := Lib.hid (SH.out.later hb4); clear hb4)
          | (at_builtin; refine wpList_append_own_at _ rfl _ _ 28 rfl w3.heap.size 3 i0 (.int .i64 0) 1 8 Try.underlying28 hi0 hz0 hz1 hz2 rfl (by decide) _ _ _ rfl (S4.out.own.alloc _) ⟨w4.heap.size, 0, none⟩ 1 1 (ic x) rfl rfl (cell_one_new _ _ _) (fun u hu => by simp [ic] at hu; subst hu; rfl) (by have := hol.out; unfold maxLen; omega) (by have := hol.out; omega) (by have := S4.out.bel.size; simp; omega) ?_; intro v6 w6 hown hgrow _ _; have S6 := Lib.hid (S4.out.app hown hgrow); clear hown hgrow))
        refine ⟨⟨i + 1, rfl, by omega, ?_⟩, by simp [intOf]; omega⟩
        rw [hstep.out, if_pos trivial]
        exact S6.out
    · obtain rfl : i = ks.length := by omega
      go_wp2_with fail
      go_ret
      have S := SH.out
      rw [List.take_length] at S
      obtain ⟨a, k, rfl⟩ := own_shape S.own
      exact ⟨a, k, rfl, own_mono S.own B3.out.size, B3.out.trans (S.bel.mono B3.out.size)⟩
theorem dirty_c {W : World} {c : Cf} {vw : Value} {C : Ck} (hwf : ∀ p ∈ C.has, wf64 p.1) (hn : C.has.length ≤ 1000000) (h : CAt W c vw C) : Calls Try.prog 10 #[.pointer (some ⟨c.rc, 0, none⟩)] W (SomePost (cDirty C) W) := by
  have hs := Lib.hid (some_d hwf hn h)
  unfold cDirty
  clear h hwf hn
  go_enter Try.func10, Try.ntmps10
  go_wp2_with (go_at_call 32; refine hs.out.mono ?_; rintro e w1 ⟨a, k, rfl, ho, hb⟩; have O := Lib.hid ho; have B := Lib.hid hb; clear ho hb)
  go_ret
  exact ⟨a, k, rfl, O.out, B.out⟩
theorem clean_c {W : World} {c : Cf} {vw : Value} {C : Ck} (hwf : ∀ p ∈ C.has, wf64 p.1) (hn : C.has.length ≤ 1000000) (h : CAt W c vw C) : Calls Try.prog 11 #[.pointer (some ⟨c.rc, 0, none⟩)] W (SomePost (cClean C) W) := by
  have hb0 : Hid (Below W.heap.size W (W.alloc (.cells #[.pointer (some ⟨c.rc, 0, none⟩)] 23))) := (Below.refl _ _).alloc (Nat.le_refl _) _
  have hg := (Whole.new W #[.pointer (some ⟨c.rc, 0, none⟩)] 23).cell 0
  have hs := Lib.hid (some_c W.heap.size hwf hn (h.later hb0.out) hg (by simp))
  unfold cClean
  clear h hwf hn
  go_enter Try.func11, Try.ntmps11
  go_wp2_with (go_at_call 32; refine hs.out.mono ?_; rintro e w1 ⟨a, k, rfl, ho, hb⟩; have O := Lib.hid ho; have B := Lib.hid hb; clear ho hb)
  go_ret
  exact ⟨a, k, rfl, own_mono O.out hb0.out.size, hb0.out.trans (B.out.mono hb0.out.size)⟩
end Go.Proofs.Ytbcjcfjbdjdajaa
