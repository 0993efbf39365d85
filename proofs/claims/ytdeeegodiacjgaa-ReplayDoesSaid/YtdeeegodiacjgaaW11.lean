/- The document's list of copied blocks, walked. The transactions have at most 100000 copies. -/
import Derived.Test.YtdeeegodiacjgaaW10
namespace Go.Proofs.Ytdeeegodiacjgaa
open Go.RowKit
attribute [local go_sem ↓] loadAtB storeAtB loadAtC storeAtC buildAtC sliceAtC sliceAtB
set_option maxRecDepth 100000 in
set_option maxHeartbeats 4000000 in
theorem copied_any (l : List Tr) (hn : cpsN l ≤ 100000) (v : Value) (w : World) (h : Trs w v l) : Calls Try.prog 34 #[v] w (CopPost l w) := by
  have H := Lib.hid h
  obtain ⟨ao, cap, rfl, h1, h2⟩ := h.shape
  clear h
  unfold maxLen at h2
  obtain ⟨i0, hi0, hz0, hz1, hz2⟩ := info_parts info3
  have hbn : Hid (∀ i, (bks (l.take i)).length ≤ 100000) := fun i => by rw [bks_len]; exact Nat.le_trans (cpsN_take l i) hn
  go_enter Try.func34, Try.ntmps34
  go_wp2_with fail
  go_loopw [3, 4] (fun v3 v4 W => ∃ i ks, v4 = .int .i64 (i : Nat) ∧ i ≤ l.length ∧ CS ks (bks (l.take i)) ∧ CI w v3 ks W) (fun _ v4 _ => (l.length - intOf v4).toNat)
  case atStart => exact ⟨0, [], rfl, by omega, CS.nil, Below.refl _ _, World.ownsRow_nil _ _ _ _⟩
  case round =>
    obtain ⟨i, ks0, rfl, hi, hS, hI⟩ := hrel
    have S0 := Lib.hid hS
    have I0 := Lib.hid hI
    clear hS hI
    by_cases hin : i < l.length
    · obtain ⟨⟨s, cs, rs⟩, ht⟩ : ∃ t, l[i]? = some t := ⟨_, List.getElem?_eq_getElem hin⟩
      obtain ⟨g, off, ⟨cv, rv⟩, rfl, _, _, hg, b0, b1, b2, p1, p2⟩ := H.out.at ht
      obtain ⟨ac, cc1, rfl, x1, y1, _⟩ := p1.ex
      unfold maxLen at y1
      dsimp only at b0 b1 b2 x1
      have P1 := Lib.hid p1
      have hG := Lib.hid hg
      have B1 := Lib.hid b1
      have hnext : Hid (bks (l.take (i + 1)) = bks (l.take i) ++ cs.map (·.1)) := by
        unfold Hid
        rw [List.take_add_one, ht]
        exact bks_snoc _ _
      have hbl : Hid ((bks (l.take i)).length + cs.length ≤ 100000) := by
        have := hbn.out (i + 1)
        rw [hnext.out, List.length_append, List.length_map] at this
        exact this
      clear ht p1 p2 hg b0 b1 b2
      go_wp2_with fail
      obtain ⟨wo, rfl⟩ : ∃ wo : World, wo = wr := ⟨_, rfl⟩
      go_loopw [3, 5] (fun v3 v5 W => ∃ k ks, v5 = .int .i64 (k : Nat) ∧ k ≤ cs.length ∧ CS ks (bks (l.take i) ++ (cs.take k).map (·.1)) ∧ CI w v3 ks W) (fun _ v5 _ => (cs.length - intOf v5).toNat)
      case atStart => exact ⟨0, ks0, rfl, by omega, by simpa using S0.out, I0.out⟩
      case round =>
        obtain ⟨k, ks, rfl, hk, hS, hI⟩ := hrel
        have S1 := Lib.hid hS
        have I1 := Lib.hid hI
        clear hS hI
        have c1 := (World.cell?_of_block (I1.out.bel.block g hG.out)).trans B1.out
        by_cases hkn : k < cs.length
        · obtain ⟨gc, oc, rfl, _, _, hgc, hatc⟩ := Sl.at (Sl.later P1.out I1.out.bel) cc_len (by omega) hkn
          obtain ⟨⟨b, d⟩, hcx⟩ : ∃ c, cs[k]? = some c := ⟨_, List.getElem?_eq_getElem hkn⟩
          have c0 := (hatc k _ hcx) 0 _ rfl
          rw [Nat.add_zero] at c0
          have hnk : Hid (bks (l.take i) ++ (cs.take (k + 1)).map (·.1) = (bks (l.take i) ++ (cs.take k).map (·.1)) ++ [b]) := by
            unfold Hid
            rw [List.take_add_one, hcx]
            simp
          have hkl : ks.length ≤ 100000 := by
            have := S1.out.len
            rw [List.length_append, List.length_map, List.length_take] at this
            have := hbl.out
            omega
          clear hatc hcx
          have hnm := Lib.hid (names_any ks u3 b wr (Sl.own I1.out.own))
          by_cases hbk : b ∈ ks
          · go_wp2_with (go_at_call 35; refine hnm.out.mono ?_; rintro e w1 ⟨rfl, rfl⟩; rw [decide_eq_true hbk])
            refine ⟨⟨k + 1, ks, rfl, by omega, ?_, I1.out⟩, by simp [intOf]; omega⟩
            rw [hnk.out]
            exact S1.out.old hbk
          · have hcell := cell_one_new
            go_wp2_with (first
              | (go_at_call 35; refine hnm.out.mono ?_; rintro e w1 ⟨rfl, rfl⟩; rw [decide_eq_false hbk])
              | (at_builtin; refine wpList_append_own_at _ rfl _ _ 53 rfl w.heap.size 3 i0 (.int .i64 0) 1 8 Try.underlying53 hi0 hz0 hz1 hz2 rfl (by decide) _ _ _ rfl (I1.out.own.alloc _) ⟨wr.heap.size, 0, none⟩ 1 1 (ic b) rfl rfl (cell_one_new _ _ _) (fun u hu => by simp [ic] at hu; subst hu; rfl) (by unfold maxLen; omega) (by omega) (by have := I1.out.bel.size; simp; omega) ?_; intro v5 w5 hown hgrow hx1 hx2; clear hx1 hx2; have I5 := Lib.hid (I1.out.app hown hgrow); obtain ⟨a5, cap5, rfl⟩ := own_shape hown; obtain ⟨g5, rfl, _, hcap5, hcap6⟩ := own_some hown (by omega); clear hown hgrow))
            unfold maxLen at hcap6
            have J0 : Hid (CI w (.slice (some ⟨g5, 0, none⟩) (ks.length + 1) cap5) (ins ks b ks.length) w5) := by
              have := I5.out
              rw [← ins_last] at this
              exact this
            clear I5
            obtain ⟨wi, rfl⟩ : ∃ wi : World, wi = wr := ⟨_, rfl⟩
            go_loopw [7] (fun v7 W => ∃ j, v7 = .int .i64 (j : Nat) ∧ j ≤ ks.length ∧ CI w (.slice (some ⟨g5, 0, none⟩) (ks.length + 1) cap5) (ins ks b j) W ∧ ∀ y ∈ ks.drop j, b < y) (fun v7 _ => (intOf v7).toNat)
            case atStart => exact ⟨ks.length, rfl, by omega, J0.out, by simp⟩
            case round =>
              obtain ⟨j, rfl, hj, hJ, hgt⟩ := hrel
              have J := Lib.hid hJ
              have GT := Lib.hid hgt
              clear hJ hgt J0
              have hne : Nonempty (Kept (fun w' => Below wr.heap.size wr w')) := ⟨⟨wr, Below.refl _ _⟩⟩
              by_cases hj0 : 0 < j
              · obtain ⟨q, rfl⟩ : ∃ q, j = q + 1 := ⟨j - 1, by omega⟩
                obtain ⟨y, hy⟩ : ∃ y, ks[q]? = some y := ⟨_, List.getElem?_eq_getElem (by omega)⟩
                have hyH := Lib.hid hy
                have e0 := J.out.cell ((ins_before hj).trans hy)
                have e1 := J.out.cell (ins_at hj)
                have hg5 : g5 < wr.heap.size := (J.out.own.lt g5 rfl).2
                have f0 : ∀ p : Kept (fun w' => Below wr.heap.size wr w'), p.x.cell? ⟨g5, q, none⟩ = some (.int .i64 y) := fun p => (World.cell?_of_block (p.h.block _ hg5)).trans e0
                have f1 : ∀ p : Kept (fun w' => Below wr.heap.size wr w'), p.x.cell? ⟨g5, q + 1, none⟩ = some (.int .i64 b) := fun p => (World.cell?_of_block (p.h.block _ hg5)).trans e1
                clear hy
                have hq1 : q < ks.length + 1 := by omega
                have hq2 : q + 1 < ks.length + 1 := by omega
                have hq3 : (q : Int) < (ks.length : Int) + 1 := by omega
                have hq4 : (q : Int) < (ks.length : Int) := by omega
                have hq5 : q < ks.length := by omega
                have hq6 : (q : Int) + 1 < (ks.length : Int) + 1 := by omega
                have hq7 : (0 : Int) ≤ (q : Int) + 1 := by omega
                have hq8 : ((q : Int) + 1).toNat = q + 1 := by omega
                have hwq : IntKind.i64.wrap (q : Int) = (q : Int) := IntWalk.i64_in _ (by omega)
                have hd0 : decide ((0 : Int) < ((q + 1 : Nat) : Int)) = true := by simp
                by_cases hyb : b < y
                · have hd1 : decide (b < y) = true := decide_eq_true hyb
                  go_wp2_with fail
                  refine wp_region_plan (fun w' => Below wr.heap.size wr w') [(0, 0), (0, 1), (0, 2), (0, 3), (0, 4), (0, 5), (0, 6), (1, 7), (0, 8), (0, 9), (0, 10), (1, 11), (0, 12), (0, 13)] (by kernel_rfl) (by kernel_rfl) (Below.refl _ _).drew ?_
                  repeat (first | (refine wpPlan_pure rfl (fun K hK => ?_); go_simp; refine hK _ ?_; clear hK K) | (refine wpPlan_held rfl (fun K hK => ?_); go_simp; refine hK _ ?_; clear hK K))
                  refine wpPlan_nil ?_
                  go_wp2_with fail
                  have I2 := J
                  have I3 := Lib.hid (I2.out.put (i := q) (by rw [ins_len]; omega) b)
                  have I4 := Lib.hid (I3.out.put (i := q + 1) (by rw [List.length_set, ins_len]; omega) y)
                  have i2c := I2.out.cell ((ins_before hj).trans hyH.out)
                  have i2f := I2.out.free (i := q) (by rw [ins_len]; omega)
                  have i3c := I3.out.cell (i := q + 1) (b := b) (by rw [List.getElem?_set, if_neg (by omega)]; exact ins_at hj)
                  have i3f := I3.out.free (i := q + 1) (by rw [List.length_set, ins_len]; omega)
                  refine wp_region_plan (fun w' => Below wr.heap.size wr w') [(0, 0), (0, 1), (0, 2), (0, 3), (0, 4), (0, 5), (0, 6), (0, 7), (1, 8), (0, 9), (0, 10), (0, 11), (0, 12), (1, 13), (0, 14), (3, 15), (0, 16), (3, 17)] (by kernel_rfl) (by kernel_rfl) (Below.refl _ _).drew.drew ?_
                  repeat (first | (refine wpPlan_pure rfl (fun K hK => ?_); go_simp; refine hK _ ?_; clear hK K) | (refine wpPlan_held rfl (fun K hK => ?_); go_simp; refine hK _ ?_; clear hK K))
                  refine wpPlan_last rfl (fun K hK => ?_)
                  go_wp2_with fail
                  refine hK.out _ _ ?_
                  clear hK K
                  repeat (first | (refine wpPlan_pure rfl (fun K hK => ?_); go_simp; refine hK _ ?_; clear hK K) | (refine wpPlan_held rfl (fun K hK => ?_); go_simp; refine hK _ ?_; clear hK K))
                  refine wpPlan_last rfl (fun K hK => ?_)
                  go_wp2_with fail
                  refine hK.out _ _ ?_
                  clear hK K
                  refine wpPlan_nil ?_
                  go_wp2_with fail
                  have i4 := I4.out.later ((Below.refl _ _).drew.drew)
                  rw [ins_swap hj hyH.out] at i4
                  refine ⟨⟨q, by simp, by omega, i4, fun z hz => ?_⟩, by simp [intOf]⟩
                  rw [List.drop_eq_getElem_cons (by omega), List.mem_cons] at hz
                  rcases hz with rfl | hz
                  · have := (List.getElem?_eq_some_iff.1 hyH.out).2
                    rw [this]
                    exact hyb
                  · exact GT.out z hz
                · have hd1 : decide (b < y) = false := decide_eq_false hyb
                  go_wp2_with fail
                  refine wp_region_plan (fun w' => Below wr.heap.size wr w') [(0, 0), (0, 1), (0, 2), (0, 3), (0, 4), (0, 5), (0, 6), (1, 7), (0, 8), (0, 9), (0, 10), (1, 11), (0, 12), (0, 13)] (by kernel_rfl) (by kernel_rfl) (Below.refl _ _).drew ?_
                  repeat (first | (refine wpPlan_pure rfl (fun K hK => ?_); go_simp; refine hK _ ?_; clear hK K) | (refine wpPlan_held rfl (fun K hK => ?_); go_simp; refine hK _ ?_; clear hK K))
                  refine wpPlan_nil ?_
                  go_wp2_with fail
                  refine ⟨⟨k + 1, _, rfl, by omega, ?_, J.out.later ((Below.refl wr.heap.size wr).drew)⟩, by simp [intOf]; omega⟩
                  rw [hnk.out]
                  have hny : y ≠ b := fun e => hbk (by subst e; exact List.mem_of_getElem? hyH.out)
                  exact S1.out.new hj GT.out (S1.out.below hyH.out (by omega))
              · obtain rfl : j = 0 := by omega
                go_wp2_with fail
                refine wp_region_plan (fun w' => Below wr.heap.size wr w') [(0, 0), (0, 1), (0, 2), (0, 3), (0, 4), (0, 5), (0, 6), (1, 7), (0, 8), (0, 9), (0, 10), (1, 11), (0, 12), (0, 13)] (by kernel_rfl) (by kernel_rfl) (Below.refl _ _).drew ?_
                repeat (first | (refine wpPlan_pure rfl (fun K hK => ?_); go_simp; refine hK _ ?_; clear hK K) | (refine wpPlan_held rfl (fun K hK => ?_); go_simp; refine hK _ ?_; clear hK K))
                refine wpPlan_nil ?_
                go_wp2_with fail
                refine ⟨⟨k + 1, _, rfl, by omega, ?_, J.out.later ((Below.refl wr.heap.size wr).drew)⟩, by simp [intOf]; omega⟩
                rw [hnk.out]
                exact S1.out.new hj GT.out (by simp)
        · obtain rfl : k = cs.length := by omega
          go_wp2_with fail
          refine ⟨⟨i + 1, ks, rfl, by omega, ?_, I1.out⟩, by simp [intOf]; omega⟩
          rw [hnext.out]
          have := S1.out
          rw [List.take_length] at this
          exact this
    · obtain rfl : i = l.length := by omega
      go_wp2_with fail
      go_ret
      have := S0.out
      rw [List.take_length] at this
      exact ⟨_, _, rfl, this, I0.out⟩
end Go.Proofs.Ytdeeegodiacjgaa
