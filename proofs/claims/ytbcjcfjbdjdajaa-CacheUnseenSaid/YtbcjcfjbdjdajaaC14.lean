/- quernlaw11.CachePicks, walked. -/
import Derived.Test.YtbcjcfjbdjdajaaC12
import Derived.Test.YtbcjcfjbdjdajaaTree
namespace Go.Proofs.Ytbcjcfjbdjdajaa
open Go.RowKit
attribute [local go_sem ↓] loadAtB storeAtB loadAtH storeAtH
def WbPost (c : Cf) (vw : Value) (r : Int × Bool × Int) (C' : Ck) (w : World) (e : Ending) (w' : World) : Prop := e = .returned (.tuple #[.int .i64 r.1, .bool r.2.1, .int .i64 r.2.2]) ∧ ∃ vw', CS c vw w vw' w' C'
theorem wb_d {W : World} {c : Cf} {vw : Value} {C C' : Ck} {n : Int} {r : Int × Bool × Int} (hE : cWb C n = (r, C')) (hl : C.D.left = -1) (ha1 : C.D.acts < 1000000000) (hf : C.D.wait.length < 1000000) (hwf : ∀ p ∈ C.has, wf64 p.1) (hn : C.has.length ≤ 1000000) (h : CAt W c vw C) :
    Calls Try.prog 15 #[.pointer (some ⟨c.rc, 0, none⟩), .int .i64 n] W (WbPost c vw r C' W) := by
  have := wb_c n hl ha1 hf hwf hn h
  rw [hE] at this
  exact this
set_option maxRecDepth 100000 in
set_option maxHeartbeats 2000000 in
theorem cachePicks_any (n : Int) (l : List Dx) (k : Int) (hk : wf64 k) (hok : OkDx l) (v : Value) (w : World) (h : Dxs w v l) : Calls Try.prog 4 #[.int .i64 n, v, .int .i64 k] w (BPost (.bool true) w) := by
  have H := Lib.hid h
  obtain ⟨ao, cap, rfl, hc1, hc2, _⟩ := h.ex
  unfold maxLen at hc2
  clear h
  by_cases hl : 200 < l.length
  · have d1 : decide (200 < l.length) = true := by simpa using hl
    have d2 : decide ((200 : Int) < (l.length : Int)) = true := by simp; omega
    go_enter Try.func4, Try.ntmps4
    go_wp2_with fail
    go_ret
    exact ⟨rfl, Below.refl _ _⟩
  · have d1 : decide (200 < l.length) = false := by simpa using hl
    have d2 : decide ((200 : Int) < (l.length : Int)) = false := by simp; omega
    have hran := Lib.hid (ran_any n l (by omega) hok _ w H.out)
    obtain ⟨N, hN⟩ : ∃ N, Hid (nOf n = N) := ⟨_, rfl⟩
    rw [hN.out] at hran
    have hN1 : Hid (1 ≤ N ∧ N ≤ 64) := by have := hN.out; unfold nOf at this; unfold Hid; omega
    have hkH := Lib.hid hk
    clear hok hl hk
    go_enter Try.func4, Try.ntmps4
    go_wp2_with (first
      | (go_at_call 9; refine hran.out.mono ?_; rintro e w2 ⟨c, vw, g, m, C, rfl, hrs⟩; have R2 := Lib.hid hrs; have iv := Lib.hid hrs.inv; have hwf := Lib.hid (hrs.inv.wf (by have := hN1.out; omega)); have hln : Hid (C.has.length ≤ 1000000) := (by have := hrs.inv.hasl; unfold Hid; omega); have hlt := Lib.hid (fun k hk => (hrs.q.at_.lt k hk).2); clear hrs; obtain ⟨ds, cs, hdl⟩ : ∃ ds cs, Hid (DL N C ds cs) := ⟨_, _, rfl, rfl⟩))
    have hwb := Lib.hid (fun (w : World) (hw : CAt w c vw C) (r : Int × Bool × Int) (C' : Ck) (hE : cWb C k = (r, C')) => wb_d hE iv.out.left (by have := iv.out.acts; omega) (by have := iv.out.wait; omega) hwf.out hln.out hw)
    by_cases hne : ds = []
    · have hE : Hid (cWb C k = ((0, false, 0), C)) := wb_none k (hdl.out.d.trans hne)
      subst hne
      go_wp2_with (first
        | (go_at_call 10; refine (dirty_d hdl.out hwf.out hln.out R2.out.q.at_).mono ?_; rintro e w3 ⟨a3, k3, rfl, ho, hb⟩; have K3 : k3 ≤ 9223372036854775807 := (by obtain ⟨ao, cap, e, _, h2, _⟩ := (Sl.own ho).ex; cases e; exact h2); have Q3 := Lib.hid (R2.out.q.later hb); clear ho hb)
        | (go_at_call 15; refine (hwb.out w3 Q3.out.at_ _ _ hE.out).mono ?_; rintro e w4 ⟨rfl, vw4, hs⟩; have Q4 := Lib.hid (Q3.out.cache hs); clear hs))
      go_ret
      exact ⟨rfl, Q4.out.bel⟩
    · have hpos : 0 < ds.length := List.length_pos_iff.2 hne
      have hp := Lib.hid (wb_plain iv.out R2.out.pin k (by rw [hdl.out.d]; exact hne))
      obtain ⟨C', hC'⟩ : ∃ C', Hid ((cWb C k).2 = C') := ⟨_, rfl⟩
      obtain ⟨b, hb⟩ : ∃ b, Hid (ds.getD (k.toNat % ds.length) 0 = b) := ⟨_, rfl⟩
      rw [hdl.out.d, hC'.out, hb.out] at hp
      have iv2 : Hid (Inv N m 201 C') := by unfold Hid; rw [← hC'.out]; exact inv_wb iv.out k
      have hwf2 := Lib.hid (iv2.out.wf (by have := hN1.out; omega))
      have hln2 : Hid (C'.has.length ≤ 1000000) := by have := iv2.out.hasl; unfold Hid; omega
      obtain ⟨ds2, cs2, hdl2⟩ : ∃ ds cs, Hid (DL N C' ds cs) := ⟨_, _, rfl, rfl⟩
      obtain ⟨q, hq⟩ : ∃ q : Nat, b = q := ⟨b.toNat, by have := hp.out.b0; omega⟩
      subst hq
      have hqN : q < N := by have := hp.out.b1; omega
      obtain ⟨x, hx⟩ : ∃ x, Hid (m.getD q zB = x) := ⟨_, rfl⟩
      have hnow : Hid (C'.D.now.getD q zB = x) := by have := hp.out.now; unfold Hid; rw [← hx.out]; exact this
      have hmx : Hid (m[q]? = some x) := by unfold Hid; rw [← hx.out]; exact iv.out.getM hqN
      have hrd := Lib.hid (fun (w : World) (hw : CAt w c vw C') => hw)
      clear hrd
      have hread := Lib.hid (fun (w : World) (vw : Value) (hw : CAt w c vw C') => read_at (q : Int) hw.disk)
      unfold ReadPost at hread
      rw [(iv2.out.readD hqN).1, (iv2.out.readD hqN).2, hnow.out] at hread
      have hlen : Hid (ds2.length + 1 = ds.length) := by have := hp.out.len; rw [hdl.out.d, hdl2.out.d] at this; exact this
      have h2a : Hid (∀ (v : Value) (w : World), Ints w v ds2 → Calls Try.prog 14 #[v, .int .i64 (q : Int)] w (SamePost (.bool false) w)) := fun v w hi => by
        have := has_any ds2 v (q : Int) w hi
        rw [show decide ((q : Int) ∈ ds2) = false by have := hp.out.dirty; rw [hdl2.out.d] at this; simpa using this] at this
        exact this
      have h2b : Hid (∀ (v : Value) (w : World), Ints w v cs2 → Calls Try.prog 14 #[v, .int .i64 (q : Int)] w (SamePost (.bool true) w)) := fun v w hi => by
        have := has_any cs2 v (q : Int) w hi
        rw [show decide ((q : Int) ∈ cs2) = true by have := hp.out.clean; rw [hdl2.out.c] at this; simpa using this] at this
        exact this
      have hz : Try.zeroCells32 = blk fun _ => 0 := zcB
      have hq0 : ∀ w, (binOp .eql 32 (.agg (blk x)) (.agg (blk x))).run Try.prog w = .ok (.bool true) w := fun w => by rw [eqlB, blkEq_refl]
      have dne : ((ds.length : Int) == 0) = false := by simp; exact hne
      have wl : IntKind.i64.wrap ((ds.length : Int) - 1) = (ds2.length : Int) := by
        have h64 : ds.length ≤ 64 := by
          have := rise_len iv.out.dirtyIn (dirty_lt iv.out.nd)
          rw [hdl.out.d] at this
          have := hN1.out
          omega
        have := hlen.out
        rw [IntWalk.i64_in _ (by omega)]; omega
      have hgets : Hid (∀ (W : World) (a : Option Addr) (k3 : Nat) (j : Nat), W.ownsRow w2.heap.size 3 1 (.slice a ds.length k3) ds.length (flat ic ds) → j < ds.length → ∃ g3, a = some ⟨g3, 0, none⟩ ∧ W.cell? ⟨g3, j, none⟩ = some (.int .i64 (ds.getD j 0))) := fun W a k3 j hW hj => by
        obtain ⟨g3, rfl, _, _, _⟩ := own_head hW hpos
        obtain ⟨y, hy⟩ : ∃ y, ds[j]? = some y := ⟨_, List.getElem?_eq_getElem hj⟩
        have c0 := range_one (rangeAt_sub (own_range hW) (k := j * 1) (ys := [.int .i64 y]) (fun j v hv => by rw [flat_get ic_len hy j (by have := (List.getElem?_eq_some_iff.1 hv).1; simpa using this)]; exact hv))
        rw [Nat.zero_add, Nat.mul_one] at c0
        exact ⟨g3, rfl, by rw [c0, List.getD_eq_getElem?_getD, hy]; rfl⟩
      rcases Int.lt_or_le 0 k with hk0 | hk0
      · obtain ⟨K, rfl⟩ : ∃ K : Nat, k = K := ⟨k.toNat, by omega⟩
        have hj : K % ds.length < ds.length := Nat.mod_lt _ hpos
        obtain ⟨j, hjj⟩ : ∃ j, Hid (K % ds.length = j) := ⟨_, rfl⟩
        rw [hjj.out] at hj
        have hb' : Hid (ds.getD j 0 = (q : Int)) := by rw [← hjj.out]; exact hb.out
        have t1 : Int.tmod (K : Int) (ds.length : Int) = (j : Int) := by rw [← hjj.out]; rfl
        have t2 : decide ((0 : Int) < (K : Int)) = true := by simpa using hk0
        have t3 : decide (0 < K) = true := by simp; omega
        have hjK : j ≤ K := by rw [← hjj.out]; exact Nat.mod_le _ _
        have t4 : IntKind.i64.wrap (j : Int) = (j : Int) := IntWalk.i64_in _ (by have := hkH.out; unfold wf64 at this; omega)
        replace hjK := Lib.hid hjK
        clear hk0 hne hb
        go_wp2_with (first
          | (go_at_call 10; refine (dirty_d hdl.out hwf.out hln.out R2.out.q.at_).mono ?_; rintro e w3 ⟨a3, k3, rfl, ho, hb⟩; have O3 := Lib.hid ho; have Q3 := Lib.hid (R2.out.q.later hb); clear ho hb)
          | (go_at_call 15; refine (hwb.out w3 Q3.out.at_ _ _ (by have := hp.out.wb; exact this)).mono ?_; rintro e w4 ⟨rfl, vw4, hs⟩; have O4 := Lib.hid (own_ch O3.out hs.ch (fun q hq f => by have := (O3.out.lt q hq).1; have := hlt.out q f; omega)); have Q4 := Lib.hid (Q3.out.cache hs); clear hs; have hk3 : ds.length ≤ k3 ∧ k3 ≤ 9223372036854775807 := (by obtain ⟨ao, cap, e, h1, h2, _⟩ := (Sl.own O4.out).ex; cases e; exact ⟨h1, h2⟩); obtain ⟨hk31, hk32⟩ := hk3; obtain ⟨g3, rfl, c0⟩ := hgets.out w4 a3 k3 0 O4.out hpos; obtain ⟨g3', e3, c1⟩ := hgets.out w4 _ k3 j O4.out hj; cases e3; rw [hb'.out] at c1)
          | (go_at_call 13; refine (hread.out w4 vw4 Q4.out.at_).mono ?_; rintro e w5 ⟨rfl, hb⟩; have Q5 := Lib.hid (Q4.out.later hb); have st5 := stRow x (Whole.new w5 (blk fun _ => 0) 32); clear hb))
        obtain ⟨wa, hwa⟩ : ∃ wa, wa = (w5.alloc (.cells (blk fun _ => 0) 32)).setRow w5.heap.size (blk x) := ⟨_, rfl⟩
        have hba : Hid (Below w5.heap.size w5 wa) := by subst hwa; exact below_setRow' ((Below.refl _ _).alloc (Nat.le_refl _) _) (Nat.le_refl _) _
        have Xa : Hid (Whole wa w5.heap.size (blk x) 32) := by subst hwa; exact (Whole.new w5 _ 32).setRow _
        rw [← hwa]
        clear hwa st5 c0 c1
        have Qa := Lib.hid (Q5.out.later hba.out)
        have hra := Qa.out.range hmx.out
        have hga := (Qa.out.row.lt g rfl).2
        have f0 : ∀ p : Kept (fun w' => Below wa.heap.size wa w'), (bigLoadAt 32 (.pointer (some ⟨w5.heap.size, 0, none⟩))).run Try.prog p.x = .ok (.agg (blk x)) p.x := fun p => ldRow (Xa.out.later p.h)
        have f1 : ∀ p : Kept (fun w' => Below wa.heap.size wa w'), (bigLoadAt 32 (.pointer (some ⟨g, q * 256, none⟩))).run Try.prog p.x = .ok (.agg (blk x)) p.x := fun p => ldB (rangeAt_block hra (p.h.block _ hga))
        have hne : Nonempty (Kept (fun w' => Below wa.heap.size wa w')) := ⟨⟨wa, Below.refl _ _⟩⟩
        have Qd := Lib.hid (Qa.out.later (Below.refl _ _).drew)
        clear hra
        refine wp_region_tree2 (fun w' => Below wa.heap.size wa w') (.one 0 0 (.one 0 1 (.one 0 2 (.one 0 3 (.one 0 4 (.one 0 5 (.one 0 6 (.one 0 7 (.one 0 8 (.one 0 9 (.one 0 10 (.one 0 11 (.one 0 12 (.one 0 13 (.one 0 14 (.one 1 15 (.one 0 16 (.one 0 17 (.one 0 18 (.one 1 19 (.one 0 20 (.one 0 21 (.one 0 22 (.one 0 23 (.one 0 25 (.one 3 24 (.one 3 26 (.one 0 27 (.one 0 28 (.one 0 29 (.one 0 30 (.one 0 32 (.one 3 31 (.one 3 33 (.one 0 34 (.one 0 35 (.one 0 36 (.one 0 39 (.one 0 40 (.one 0 41 (.one 3 37 (.one 0 38 (.one 0 42 (.one 0 43 (.one 0 44 .done))))))))))))))))))))))))))))))))))))))))))))) (by kernel_rfl) (by kernel_rfl) (Below.refl _ _).drew ?_
        repeat (first | (refine wpT_pure rfl (fun K hK => ?_); go_simp; refine hK _ ?_; clear hK K) | (refine wpT_held rfl (fun K hK => ?_); go_simp; refine hK _ ?_; clear hK K))
        refine wpT_last rfl (fun K hK => ?_)
        go_wp2_with (go_at_call 10; refine (dirty_d hdl2.out hwf2.out hln2.out Qd.out.at_).mono ?_; rintro e w6 ⟨a6, k6, rfl, ho, hb⟩; have I6 := Lib.hid (Sl.own ho); have Q6 := Lib.hid (Qd.out.later hb); clear ho hb)
        refine hK.out _ _ ?_
        clear hK K
        refine wpT_last rfl (fun K hK => ?_)
        go_wp2_with (go_at_call 14; refine (h2a.out _ _ I6.out).mono ?_; rintro e w7 ⟨rfl, e7⟩; have e7H := Lib.hid e7; subst e7)
        refine hK.out _ _ ?_
        clear hK K
        repeat (first | (refine wpT_pure rfl (fun K hK => ?_); go_simp; refine hK _ ?_; clear hK K) | (refine wpT_held rfl (fun K hK => ?_); go_simp; refine hK _ ?_; clear hK K))
        refine wpT_last rfl (fun K hK => ?_)
        go_wp2_with (go_at_call 11; refine (clean_d hdl2.out hwf2.out hln2.out Q6.out.at_).mono ?_; rintro e w8 ⟨a8, k8, rfl, ho, hb⟩; have I8 := Lib.hid (Sl.own ho); have Q8 := Lib.hid (Q6.out.later hb); clear ho hb)
        refine hK.out _ _ ?_
        clear hK K
        refine wpT_last rfl (fun K hK => ?_)
        go_wp2_with (go_at_call 14; refine (h2b.out _ _ I8.out).mono ?_; rintro e w9 ⟨rfl, e9⟩; have e9H := Lib.hid e9; subst e9)
        refine hK.out _ _ ?_
        clear hK K
        repeat (first | (refine wpT_pure rfl (fun K hK => ?_); go_simp; refine hK _ ?_; clear hK K) | (refine wpT_held rfl (fun K hK => ?_); go_simp; refine hK _ ?_; clear hK K))
        refine wpT_last rfl (fun K hK => ?_)
        go_wp2_with (go_at_call 10; refine (dirty_d hdl2.out hwf2.out hln2.out Q8.out.at_).mono ?_; rintro e w10 ⟨a10, k10, rfl, ho, hb⟩; have hk10 : ds2.length ≤ k10 ∧ k10 ≤ 9223372036854775807 := (by obtain ⟨ao, cap, e, h1, h2, _⟩ := (Sl.own ho).ex; cases e; exact ⟨h1, h2⟩); have Q10 := Lib.hid (Q8.out.later hb); clear ho hb)
        refine hK.out _ _ ?_
        clear hK K f0 f1 hne
        obtain ⟨hk101, hk102⟩ := hk10
        repeat (first | (refine wpT_pure rfl (fun K hK => ?_); go_simp; refine hK _ ?_; clear hK K))
        refine wpT_done ?_
        go_wp2_with fail
        go_ret
        exact ⟨rfl, Q10.out.bel⟩
      · have hb' : Hid (ds.getD 0 0 = (q : Int)) := by have := hb.out; rw [show k.toNat = 0 by omega, Nat.zero_mod] at this; exact this
        have t2 : decide ((0 : Int) < k) = false := by simp; omega
        clear hk0 hne hb
        go_wp2_with (first
          | (go_at_call 10; refine (dirty_d hdl.out hwf.out hln.out R2.out.q.at_).mono ?_; rintro e w3 ⟨a3, k3, rfl, ho, hb⟩; have O3 := Lib.hid ho; have Q3 := Lib.hid (R2.out.q.later hb); clear ho hb)
          | (go_at_call 15; refine (hwb.out w3 Q3.out.at_ _ _ (by have := hp.out.wb; exact this)).mono ?_; rintro e w4 ⟨rfl, vw4, hs⟩; have O4 := Lib.hid (own_ch O3.out hs.ch (fun q hq f => by have := (O3.out.lt q hq).1; have := hlt.out q f; omega)); have Q4 := Lib.hid (Q3.out.cache hs); clear hs; have hk3 : ds.length ≤ k3 ∧ k3 ≤ 9223372036854775807 := (by obtain ⟨ao, cap, e, h1, h2, _⟩ := (Sl.own O4.out).ex; cases e; exact ⟨h1, h2⟩); obtain ⟨hk31, hk32⟩ := hk3; obtain ⟨g3, rfl, c1⟩ := hgets.out w4 a3 k3 0 O4.out hpos; rw [hb'.out] at c1)
          | (go_at_call 13; refine (hread.out w4 vw4 Q4.out.at_).mono ?_; rintro e w5 ⟨rfl, hb⟩; have Q5 := Lib.hid (Q4.out.later hb); have st5 := stRow x (Whole.new w5 (blk fun _ => 0) 32); clear hb))
        obtain ⟨wa, hwa⟩ : ∃ wa, wa = (w5.alloc (.cells (blk fun _ => 0) 32)).setRow w5.heap.size (blk x) := ⟨_, rfl⟩
        have hba : Hid (Below w5.heap.size w5 wa) := by subst hwa; exact below_setRow' ((Below.refl _ _).alloc (Nat.le_refl _) _) (Nat.le_refl _) _
        have Xa : Hid (Whole wa w5.heap.size (blk x) 32) := by subst hwa; exact (Whole.new w5 _ 32).setRow _
        rw [← hwa]
        clear hwa st5 c1
        have Qa := Lib.hid (Q5.out.later hba.out)
        have hra := Qa.out.range hmx.out
        have hga := (Qa.out.row.lt g rfl).2
        have f0 : ∀ p : Kept (fun w' => Below wa.heap.size wa w'), (bigLoadAt 32 (.pointer (some ⟨w5.heap.size, 0, none⟩))).run Try.prog p.x = .ok (.agg (blk x)) p.x := fun p => ldRow (Xa.out.later p.h)
        have f1 : ∀ p : Kept (fun w' => Below wa.heap.size wa w'), (bigLoadAt 32 (.pointer (some ⟨g, q * 256, none⟩))).run Try.prog p.x = .ok (.agg (blk x)) p.x := fun p => ldB (rangeAt_block hra (p.h.block _ hga))
        have hne : Nonempty (Kept (fun w' => Below wa.heap.size wa w')) := ⟨⟨wa, Below.refl _ _⟩⟩
        have Qd := Lib.hid (Qa.out.later (Below.refl _ _).drew)
        clear hra
        refine wp_region_tree2 (fun w' => Below wa.heap.size wa w') (.one 0 0 (.one 0 1 (.one 0 2 (.one 0 3 (.one 0 4 (.one 0 5 (.one 0 6 (.one 0 7 (.one 0 8 (.one 0 9 (.one 0 10 (.one 0 11 (.one 0 12 (.one 0 13 (.one 0 14 (.one 1 15 (.one 0 16 (.one 0 17 (.one 0 18 (.one 1 19 (.one 0 20 (.one 0 21 (.one 0 22 (.one 0 23 (.one 0 25 (.one 3 24 (.one 3 26 (.one 0 27 (.one 0 28 (.one 0 29 (.one 0 30 (.one 0 32 (.one 3 31 (.one 3 33 (.one 0 34 (.one 0 35 (.one 0 36 (.one 0 39 (.one 0 40 (.one 0 41 (.one 3 37 (.one 0 38 (.one 0 42 (.one 0 43 (.one 0 44 .done))))))))))))))))))))))))))))))))))))))))))))) (by kernel_rfl) (by kernel_rfl) (Below.refl _ _).drew ?_
        repeat (first | (refine wpT_pure rfl (fun K hK => ?_); go_simp; refine hK _ ?_; clear hK K) | (refine wpT_held rfl (fun K hK => ?_); go_simp; refine hK _ ?_; clear hK K))
        refine wpT_last rfl (fun K hK => ?_)
        go_wp2_with (go_at_call 10; refine (dirty_d hdl2.out hwf2.out hln2.out Qd.out.at_).mono ?_; rintro e w6 ⟨a6, k6, rfl, ho, hb⟩; have I6 := Lib.hid (Sl.own ho); have Q6 := Lib.hid (Qd.out.later hb); clear ho hb)
        refine hK.out _ _ ?_
        clear hK K
        refine wpT_last rfl (fun K hK => ?_)
        go_wp2_with (go_at_call 14; refine (h2a.out _ _ I6.out).mono ?_; rintro e w7 ⟨rfl, e7⟩; have e7H := Lib.hid e7; subst e7)
        refine hK.out _ _ ?_
        clear hK K
        repeat (first | (refine wpT_pure rfl (fun K hK => ?_); go_simp; refine hK _ ?_; clear hK K) | (refine wpT_held rfl (fun K hK => ?_); go_simp; refine hK _ ?_; clear hK K))
        refine wpT_last rfl (fun K hK => ?_)
        go_wp2_with (go_at_call 11; refine (clean_d hdl2.out hwf2.out hln2.out Q6.out.at_).mono ?_; rintro e w8 ⟨a8, k8, rfl, ho, hb⟩; have I8 := Lib.hid (Sl.own ho); have Q8 := Lib.hid (Q6.out.later hb); clear ho hb)
        refine hK.out _ _ ?_
        clear hK K
        refine wpT_last rfl (fun K hK => ?_)
        go_wp2_with (go_at_call 14; refine (h2b.out _ _ I8.out).mono ?_; rintro e w9 ⟨rfl, e9⟩; have e9H := Lib.hid e9; subst e9)
        refine hK.out _ _ ?_
        clear hK K
        repeat (first | (refine wpT_pure rfl (fun K hK => ?_); go_simp; refine hK _ ?_; clear hK K) | (refine wpT_held rfl (fun K hK => ?_); go_simp; refine hK _ ?_; clear hK K))
        refine wpT_last rfl (fun K hK => ?_)
        go_wp2_with (go_at_call 10; refine (dirty_d hdl2.out hwf2.out hln2.out Q8.out.at_).mono ?_; rintro e w10 ⟨a10, k10, rfl, ho, hb⟩; have hk10 : ds2.length ≤ k10 ∧ k10 ≤ 9223372036854775807 := (by obtain ⟨ao, cap, e, h1, h2, _⟩ := (Sl.own ho).ex; cases e; exact ⟨h1, h2⟩); have Q10 := Lib.hid (Q8.out.later hb); clear ho hb)
        refine hK.out _ _ ?_
        clear hK K f0 f1 hne
        obtain ⟨hk101, hk102⟩ := hk10
        repeat (first | (refine wpT_pure rfl (fun K hK => ?_); go_simp; refine hK _ ?_; clear hK K))
        refine wpT_done ?_
        go_wp2_with fail
        go_ret
        exact ⟨rfl, Q10.out.bel⟩
end Go.Proofs.Ytbcjcfjbdjdajaa
