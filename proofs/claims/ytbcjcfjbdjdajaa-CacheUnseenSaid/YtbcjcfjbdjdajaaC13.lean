/- quernlaw11.CacheEvicts, walked. -/
import Derived.Test.YtbcjcfjbdjdajaaC12
namespace Go.Proofs.Ytbcjcfjbdjdajaa
open Go.RowKit
attribute [local go_sem ↓] loadAtB storeAtB loadAtH storeAtH
def EvPost (c : Cf) (vw : Value) (out : List Int) (C' : Ck) (w : World) (e : Ending) (w' : World) : Prop := ∃ a k, e = .returned (.slice a out.length k) ∧ w'.ownsRow w.heap.size 3 1 (.slice a out.length k) out.length (flat ic out) ∧ CS c vw w vw w' C'
theorem evicted_d {W : World} {c : Cf} {vw : Value} {C C' : Ck} {out : List Int} (hE : evN C 64 = (out, C')) (hwf : ∀ p ∈ C.has, wf64 p.1) (hn : C.has.length ≤ 1000000) (h : CAt W c vw C) :
    Calls Try.prog 16 #[.pointer (some ⟨c.rc, 0, none⟩)] W (EvPost c vw out C' W) := by
  have := evicted_c hwf hn h
  rw [hE] at this
  exact this
set_option maxRecDepth 100000 in
set_option maxHeartbeats 2000000 in
theorem cacheEvicts_any (n : Int) (l : List Dx) (hok : OkDx l) (v : Value) (w : World) (h : Dxs w v l) : Calls Try.prog 5 #[.int .i64 n, v] w (BPost (.bool true) w) := by
  have H := Lib.hid h
  obtain ⟨ao, cap, rfl, hc1, hc2, _⟩ := h.ex
  unfold maxLen at hc2
  clear h
  by_cases hl : 200 < l.length
  · have d1 : decide (200 < l.length) = true := by simpa using hl
    have d2 : decide ((200 : Int) < (l.length : Int)) = true := by simp; omega
    go_enter Try.func5, Try.ntmps5
    go_wp2_with fail
    go_ret
    exact ⟨rfl, Below.refl _ _⟩
  · have d1 : decide (200 < l.length) = false := by simpa using hl
    have d2 : decide ((200 : Int) < (l.length : Int)) = false := by simp; omega
    have hran := Lib.hid (ran_any n l (by omega) hok _ w H.out)
    obtain ⟨N, hN⟩ : ∃ N, Hid (nOf n = N) := ⟨_, rfl⟩
    rw [hN.out] at hran
    have hN1 : Hid (1 ≤ N ∧ N ≤ 64) := by have := hN.out; unfold nOf at this; unfold Hid; omega
    clear hok hl
    have tokA : True := trivial
    have tokB : True := trivial
    go_enter Try.func5, Try.ntmps5
    go_wp2_with (first
      | (go_at_call 9; refine hran.out.mono ?_; rintro e w2 ⟨c, vw, g, m, C, rfl, hrs⟩; have R2 := Lib.hid hrs; have iv := Lib.hid hrs.inv; have hwf := Lib.hid (hrs.inv.wf (by have := hN1.out; omega)); have hln : Hid (C.has.length ≤ 1000000) := (by have := hrs.inv.hasl; unfold Hid; omega); have hlt := Lib.hid (fun k hk => (hrs.q.at_.lt k hk).2); clear hrs; obtain ⟨ds, cs, hdl⟩ : ∃ ds cs, Hid (DL N C ds cs) := ⟨_, _, rfl, rfl⟩; obtain ⟨C', hC'⟩ : ∃ C', Hid ((evN C 64).2 = C') := ⟨_, rfl⟩; have hE : Hid (evN C 64 = (cs, C')) := (by unfold Hid; rw [← hC'.out, ← hdl.out.c, ← (ev_all iv.out hN1.out.2).1]); have hdl2 : Hid (DL N C' ds []) := ⟨by rw [← hC'.out, (ev_all iv.out hN1.out.2).2.2]; exact hdl.out.d, by rw [← hC'.out]; exact (ev_all iv.out hN1.out.2).2.1⟩; have iv2 : Hid (Inv N m 200 C') := (by unfold Hid; rw [← hC'.out]; exact evN_inv iv.out 64); have hwf2 := Lib.hid (iv2.out.wf (by have := hN1.out; omega)); have hln2 : Hid (C'.has.length ≤ 1000000) := (by have := iv2.out.hasl; unfold Hid; omega); have hdn : Hid (∀ x ∈ ds, 0 ≤ x ∧ x < (N : Int)) := hdl.out.d ▸ iv.out.dirtyIn)
      | (go_at_call 10; clear tokA; refine (dirty_d hdl.out hwf.out hln.out R2.out.q.at_).mono ?_; rintro e w3 ⟨a3, k3, rfl, ho, hb⟩; have O3 := Lib.hid ho; have Q3 := Lib.hid (R2.out.q.later hb); have S3 := Lib.hid hb.size; clear ho hb)
      | (go_at_call 11; clear tokB; refine (clean_d hdl.out hwf.out hln.out Q3.out.at_).mono ?_; rintro e w4 ⟨a4, k4, rfl, ho, hb⟩; have P4 := Lib.hid (own_mono ho S3.out); have O4 := Lib.hid (own_later O3.out hb); have Q4 := Lib.hid (Q3.out.later hb); have S4 := Lib.hid (Nat.le_trans S3.out hb.size); clear ho hb)
      | (go_at_call 16; refine (evicted_d hE.out hwf.out hln.out Q4.out.at_).mono ?_; rintro e w5 ⟨a5, k5, rfl, ho, hs⟩; have G5 := Lib.hid (own_mono ho S4.out); have P5 := Lib.hid (own_ch P4.out hs.ch (fun q hq f => by have := (P4.out.lt q hq).1; have := hlt.out q f; omega)); have O5 := Lib.hid (own_ch O4.out hs.ch (fun q hq f => by have := (O4.out.lt q hq).1; have := hlt.out q f; omega)); have Q5 := Lib.hid (Q4.out.cache hs); clear ho hs)
      | (go_at_call 11; refine (clean_d hdl2.out hwf2.out hln2.out Q5.out.at_).mono ?_; rintro e w6 ⟨a6, k6, rfl, ho, hb⟩; have K6 : k6 ≤ 9223372036854775807 := (by obtain ⟨ao, cap, e, _, h2, _⟩ := (Sl.own ho).ex; cases e; exact h2); have G6 := Lib.hid (own_later G5.out hb); have P6 := Lib.hid (own_later P5.out hb); have O6 := Lib.hid (own_later O5.out hb); have Q6 := Lib.hid (Q5.out.later hb); clear ho hb)
      | (go_at_call 10; refine (dirty_d hdl2.out hwf2.out hln2.out Q6.out.at_).mono ?_; rintro e w7 ⟨a7, k7, rfl, ho, hb⟩; have I7 := Lib.hid (Sl.own ho); have G7 := Lib.hid (own_later G6.out hb); have P7 := Lib.hid (own_later P6.out hb); have O7 := Lib.hid (own_later O6.out hb); have Q7 := Lib.hid (Q6.out.later hb); clear ho hb)
      | (go_at_call 17; refine (same_any ds _ _ _ I7.out (Sl.own O7.out)).mono ?_; rintro e w8 ⟨rfl, hb⟩; have G8 := Lib.hid (Sl.later (Sl.own G7.out) hb); have P8 := Lib.hid (Sl.later (Sl.own P7.out) hb); have O8 := Lib.hid (own_later O7.out hb); have Q8 := Lib.hid (Q7.out.later hb); clear hb))
    have hk4 : cs.length ≤ k4 ∧ k4 ≤ 9223372036854775807 := by obtain ⟨ao, cap, e, h1, h2, _⟩ := P8.out.ex; cases e; exact ⟨h1, h2⟩
    have hk3 : ds.length ≤ k3 ∧ k3 ≤ 9223372036854775807 := by obtain ⟨ao, cap, e, h1, h2, _⟩ := (Sl.own O8.out).ex; cases e; exact ⟨h1, h2⟩
    obtain ⟨hk41, hk42⟩ := hk4
    obtain ⟨hk31, hk32⟩ := hk3
    clear O3 O4 O5 O6 O7 P4 P5 P6 P7 G5 G6 G7 Q3 Q4 Q5 Q6 Q7 I7 R2 hran
    go_loopw [12] (fun v12 W => ∃ i, v12 = .int .i64 (i : Nat) ∧ i ≤ cs.length ∧ w8 = W) (fun v12 _ => (cs.length - intOf v12).toNat)
    case atStart => exact ⟨0, rfl, by omega, rfl⟩
    case round =>
      obtain ⟨i, rfl, hi, hW⟩ := hrel
      subst hW
      by_cases hin : i < cs.length
      · obtain ⟨gq, oq, rfl, _, _, _, hat⟩ := Sl.at P8.out ic_len (by omega) hin
        obtain ⟨y, hy⟩ : ∃ y, cs[i]? = some y := ⟨_, List.getElem?_eq_getElem hin⟩
        have c0 := range_one (hat i y hy)
        rw [Nat.mul_one] at c0
        have hm : decide (y ∈ cs) = true := by simpa using List.mem_of_getElem? hy
        have hh := has_any cs _ y w8 G8.out
        rw [hm] at hh
        have hhH := Lib.hid hh
        have wi : IntKind.i64.wrap ((i : Int) + 1) = (i : Int) + 1 := IntWalk.i64_in _ (by omega)
        clear hat hy hm hh
        go_wp2_with (go_at_call 14; refine hhH.out.mono ?_; rintro e w9 ⟨rfl, e9⟩; have e9H := Lib.hid e9; subst e9)
        exact ⟨⟨i + 1, rfl, by omega, trivial⟩, by simp [intOf]; omega⟩
      · obtain rfl : i = cs.length := by omega
        go_wp2_with fail
        have R8 : Hid (∃ C'', Inv N m (200 + 0) C'' ∧ RQ w.heap.size w N c vw g m C'' w8 ∧ w8.ownsRow w2.heap.size 3 1 (.slice a3 ds.length k3) ds.length (flat ic ds)) := ⟨C', iv2.out, Q8.out, O8.out⟩
        clear Q8 O8 G8 P8
        go_loopw [13] (fun v13 W => ∃ i, v13 = .int .i64 (i : Nat) ∧ i ≤ ds.length ∧ ∃ C'', Inv N m (200 + i) C'' ∧ RQ w.heap.size w N c vw g m C'' W ∧ W.ownsRow w2.heap.size 3 1 (.slice a3 ds.length k3) ds.length (flat ic ds)) (fun v13 _ => (ds.length - intOf v13).toNat)
        case atStart => exact ⟨0, rfl, by omega, R8.out⟩
        case round =>
          obtain ⟨i, rfl, hi, C2, hI, hQ, hO⟩ := hrel
          have I := Lib.hid hI
          have Q := Lib.hid hQ
          have O := Lib.hid hO
          clear hI hQ hO R8
          by_cases hin : i < ds.length
          · obtain ⟨g3, rfl, _, _, _⟩ := own_head O.out (by omega)
            obtain ⟨y, hy⟩ : ∃ y, ds[i]? = some y := ⟨_, List.getElem?_eq_getElem hin⟩
            obtain ⟨y0, y1⟩ := hdn.out y (List.mem_of_getElem? hy)
            obtain ⟨q, rfl⟩ : ∃ q : Nat, y = q := ⟨y.toNat, by omega⟩
            have hq : q < N := by omega
            have hcell : Hid (∀ W : World, W.ownsRow w2.heap.size 3 1 (.slice (some ⟨g3, 0, none⟩) ds.length k3) ds.length (flat ic ds) → W.cell? ⟨g3, i, none⟩ = some (.int .i64 (q : Int))) := fun W hW => by
              have c0 := range_one (rangeAt_sub (own_range hW) (k := i * 1) (ys := [.int .i64 (q : Int)]) (fun j v hv => by rw [flat_get ic_len hy j (by have := (List.getElem?_eq_some_iff.1 hv).1; simpa using this)]; exact hv))
              rw [Nat.zero_add, Nat.mul_one] at c0
              exact c0
            have c0 := hcell.out wr O.out
            obtain ⟨x, hx⟩ : ∃ x, Hid (m.getD q zB = x) := ⟨_, rfl⟩
            have hri := Lib.hid (inv_read I.out hq)
            have hrd := Lib.hid (read_c (q : Int) I.out.left Q.out.at_)
            rw [hri.out.1, hx.out, I.out.ref0.2 ⟨by omega, by omega⟩] at hrd
            have hmx : Hid (m[q]? = some x) := by unfold Hid; rw [← hx.out]; exact I.out.getM hq
            have wi : IntKind.i64.wrap ((i : Int) + 1) = (i : Int) + 1 := IntWalk.i64_in _ (by omega)
            have hz : Try.zeroCells32 = blk fun _ => 0 := zcB
            have hq0 : ∀ w, (binOp .neq 32 (.agg (blk x)) (.agg (blk x))).run Try.prog w = .ok (.bool false) w := fun w => by rw [neqB, blkEq_refl]; rfl
            clear hy y0 y1
            go_wp2_with (go_at_call 18; refine hrd.out.mono ?_; rintro e w5 ⟨rfl, hs5⟩; have Q5 := Lib.hid (Q.out.cache hs5); have O5 := Lib.hid (own_ch O.out hs5.ch (fun q hq f => by have := (O.out.lt q hq).1; have := hlt.out q f; omega)); have st5 := stRow x (Whole.new w5 (blk fun _ => 0) 32); clear hs5)
            obtain ⟨wa, hwa⟩ : ∃ wa, wa = (w5.alloc (.cells (blk fun _ => 0) 32)).setRow w5.heap.size (blk x) := ⟨_, rfl⟩
            have hba : Hid (Below w5.heap.size w5 wa) := by subst hwa; exact below_setRow' ((Below.refl _ _).alloc (Nat.le_refl _) _) (Nat.le_refl _) _
            have Xa : Hid (Whole wa w5.heap.size (blk x) 32) := by subst hwa; exact (Whole.new w5 _ 32).setRow _
            rw [← hwa]
            clear hwa st5
            have Qa := Lib.hid (Q5.out.later hba.out)
            have Oa := Lib.hid (own_later O5.out hba.out)
            have hra := Qa.out.range hmx.out
            have hga := (Qa.out.row.lt g rfl).2
            have hg3 := (Oa.out.lt g3 rfl).2
            have ca := hcell.out wa Oa.out
            have f0 : ∀ p : Kept (fun w' => Below wa.heap.size wa w'), (bigLoadAt 32 (.pointer (some ⟨w5.heap.size, 0, none⟩))).run Try.prog p.x = .ok (.agg (blk x)) p.x := fun p => ldRow (Xa.out.later p.h)
            have f1 : ∀ p : Kept (fun w' => Below wa.heap.size wa w'), (bigLoadAt 32 (.pointer (some ⟨g, q * 256, none⟩))).run Try.prog p.x = .ok (.agg (blk x)) p.x := fun p => ldB (rangeAt_block hra (p.h.block _ hga))
            have f2 : ∀ p : Kept (fun w' => Below wa.heap.size wa w'), p.x.cell? ⟨g3, i, none⟩ = some (.int .i64 (q : Int)) := fun p => (World.cell?_of_block (p.h.block _ hg3)).trans ca
            have hne : Nonempty (Kept (fun w' => Below wa.heap.size wa w')) := ⟨⟨wa, Below.refl _ _⟩⟩
            clear hra ca
            refine wp_region_plan (fun w' => Below wa.heap.size wa w') [(0, 0), (0, 1), (0, 2), (1, 3), (0, 4), (0, 5), (0, 6), (0, 7), (1, 8), (0, 9), (1, 10), (0, 11), (0, 12)] (by kernel_rfl) (by kernel_rfl) (Below.refl _ _).drew ?_
            repeat (first | (refine wpPlan_pure rfl (fun K hK => ?_); go_simp; refine hK _ ?_; clear hK K) | (refine wpPlan_held rfl (fun K hK => ?_); go_simp; refine hK _ ?_; clear hK K))
            refine wpPlan_nil ?_
            clear f0 f1 f2 hne
            go_wp2_with fail
            exact ⟨⟨i + 1, rfl, by omega, _, hri.out.2, Qa.out.later (Below.refl _ _).drew, own_later Oa.out (Below.refl _ _).drew⟩, by simp [intOf]; omega⟩
          · obtain rfl : i = ds.length := by omega
            go_wp2_with fail
            go_ret
            exact ⟨rfl, Q.out.bel⟩
end Go.Proofs.Ytbcjcfjbdjdajaa
