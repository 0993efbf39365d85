/- The given statement ReplayOverlay, walked. The rows' bytes are below 256. -/
import Derived.Test.YtdeeegodiacjgaaW14
namespace Go.Proofs.Ytdeeegodiacjgaa
open Go.RowKit
attribute [local go_sem ↓] loadAtB storeAtB loadAtC storeAtC buildAtC sliceAtC sliceAtB
def TruePost (w : World) (e : Ending) (w' : World) : Prop := e = .returned (.bool true) ∧ Below w.heap.size w w'
set_option maxRecDepth 100000 in
set_option maxHeartbeats 1000000 in
theorem replayOverlay_any (l : List Lt) (im : List Rw) (hok : OkLt l) (him : ∀ x ∈ im, x.2.1 < 256) (v vi : Value) (w : World) (h : Lts w v l) (hi : Rws w vi im) :
    Calls Try.prog 3 #[v, vi] w (TruePost w) := by
  have H := Lib.hid h
  have HI := Lib.hid hi
  have OK := Lib.hid hok
  have HIM := Lib.hid him
  obtain ⟨ai, icap, rfl, i1, i2, _⟩ := hi.ex
  unfold maxLen at i2
  clear h hi hok him
  have hmany := Lib.hid (many19 l v w H.out)
  by_cases hm : tooMany l 1000 = true
  · go_enter Try.func3, Try.ntmps3
    go_wp2_with (go_at_call 10; refine hmany.out.mono ?_; rintro e w1 ⟨rfl, hw⟩; have HW := Lib.hid hw; clear hw; rw [hm])
    go_ret
    exact ⟨rfl, HW.out⟩
  · have hm' : tooMany l 1000 = false := by simpa using hm
    by_cases hbig : 300 < im.length
    · have hd : decide ((300 : Int) < (im.length : Int)) = true := by simp; omega
      go_enter Try.func3, Try.ntmps3
      go_wp2_with (go_at_call 10; refine hmany.out.mono ?_; rintro e w1 ⟨rfl, hw⟩; have HW := Lib.hid hw; clear hw; rw [hm'])
      go_ret
      exact ⟨rfl, HW.out⟩
    · have hd : decide ((300 : Int) < (im.length : Int)) = false := by simp; omega
      have hsm : l.length ≤ 60 ∧ szs l ≤ 1000 := by
        unfold tooMany at hm'
        have := of_decide_eq_false hm'
        omega
      obtain ⟨hl60, hsz⟩ := hsm
      have tok : True := trivial
      have hb0 := run_bsB0
      obtain ⟨j0, hj0, jz0, jz1, jz2⟩ := info_parts zeroB
      clear hm
      go_enter Try.func3, Try.ntmps3
      go_wp2_with (first
        | (go_at_call 10; refine hmany.out.mono ?_; rintro e w1 ⟨rfl, hw⟩; have HW := Lib.hid hw; clear hw; rw [hm'])
        | (go_at_call 11; clear tok; refine (short_any l hl60 hsz OK.out v w1 (H.out.later HW.out)).mono ?_; rintro e w2 ⟨v5, vs5, rfl, hs5⟩; have S5 := Lib.hid hs5; clear hs5)
        | (go_at_call 11; refine (short_any l hl60 hsz OK.out v w2 (H.out.later (HW.out.trans (S5.out.bel.mono HW.out.size)))).mono ?_; rintro e w3 ⟨v6, vs6, rfl, hs6⟩; have S6 := Lib.hid hs6; clear hs6))
      have B3 : Hid (Below w.heap.size w w3) := HW.out.trans ((S5.out.bel.trans (S6.out.bel.mono S5.out.bel.size)).mono HW.out.size)
      have W0 : Hid (OW w3 (.slice none 0 0) (imgB (im.take 0)) w3) := ⟨Below.refl _ _, World.ownsRow_nil _ _ _ _⟩
      go_loopw [7, 8] (fun v7 v8 W => ∃ i, v8 = .int .i64 (i : Nat) ∧ i ≤ im.length ∧ OW w3 v7 (imgB (im.take i)) W) (fun _ v8 _ => (im.length - intOf v8).toNat)
      case atStart => exact ⟨0, rfl, by omega, W0.out⟩
      case round =>
        obtain ⟨i, rfl, hi, hW⟩ := hrel
        have WH := Lib.hid hW
        clear hW
        by_cases hin : i < im.length
        · obtain ⟨ga, oa, hai, _, _, hga, hat⟩ := Sl.at (Sl.later HI.out (B3.out.trans (WH.out.bel.mono B3.out.size))) rwc_len (by omega) hin
          subst hai
          obtain ⟨x, hx⟩ : ∃ x, im[i]? = some x := ⟨_, List.getElem?_eq_getElem hin⟩
          obtain ⟨d0, d1, d2⟩ := range_three (hat i x hx)
          have hx256 := Lib.hid (HIM.out x (List.mem_of_getElem? hx))
          have hnext := Lib.hid (imgB_snoc hx)
          have hlen : (imgB (im.take i)).length ≤ 300 := by rw [imgB_len, List.length_take]; omega
          have hbs := run_bsB (rowB x)
          clear hat hx
          go_wp2_with (first
            | (go_at_call 12; refine (block_any x hx256.out _).mono ?_; rintro e w4 ⟨rfl, hw4⟩; have W4 := Lib.hid (WH.out.later hw4); clear hw4)
            | (at_builtin; refine wpList_append_own_at _ rfl _ _ 27 rfl w3.heap.size 29 j0 (.agg (blk fun _ => 0)) 256 256 Try.underlying27 hj0 jz0 jz1 jz2 zB_size (by decide) _ _ _ rfl (W4.out.own.alloc _) ⟨w4.heap.size, 0, none⟩ 1 1 (bc (rowB x)) rfl (by rw [bc_len]) (bk_new w4 (rowB x)) (bc_one _) (by unfold maxLen; omega) (by omega) (by have := W4.out.bel.size; simp; omega) ?_; intro v9 w9 hown hgrow hx1 hx2; clear hx1 hx2; have W9 := Lib.hid (W4.out.app hown hgrow); clear hown hgrow))
          have w9h := W9.out
          rw [← hnext.out] at w9h
          exact ⟨⟨i + 1, rfl, by omega, w9h⟩, by simp [intOf]; omega⟩
        · obtain rfl : i = im.length := by omega
          have wt := WH.out
          rw [List.take_length] at wt
          have hBl : (imgB im).length = im.length := imgB_len im
          generalize imgB im = B at wt hBl
          have hBlH := Lib.hid hBl
          have hB300 : B.length ≤ 300 := by omega
          clear hBl
          have WT := Lib.hid wt
          clear wt WH
          obtain ⟨ab, bcap, hsh⟩ := own_shape WT.out.own
          subst hsh
          have hBk : Hid (Bks wr (.slice ab B.length bcap) B) := Sl.own WT.out.own
          obtain ⟨_, _, hsh, k1, k2, _⟩ := hBk.out.ex
          cases hsh
          unfold maxLen at k2
          have hln : (flat bc B).length = B.length * 256 := flat_len bc_len B
          have hlit := Lib.hid (bkLit wr)
          have hsrc : Hid (Sl (wr.alloc (.cells #[] 29)) (.slice ab B.length bcap) B.length (flat bc B)) := Sl.later hBk.out ((Below.refl _ _).alloc (Nat.le_refl _) _)
          have hcn : cpsN (shortL l) ≤ 100000 := by have := cpsN_short l; omega
          obtain ⟨T, hT⟩ : ∃ T, Hid (shortL l = T) := ⟨_, rfl⟩
          have S5t : Hid (Trs wr v5 T) := by rw [← hT.out]; exact S5.out.trs.later (S6.out.bel.trans (WT.out.bel.mono S6.out.bel.size))
          have S6t : Hid (Trs wr v6 T) := by rw [← hT.out]; exact S6.out.trs.later WT.out.bel
          have B4 : Hid (Below w.heap.size w wr) := B3.out.trans (WT.out.bel.mono B3.out.size)
          rw [hT.out] at hcn
          obtain ⟨wa, rfl⟩ : ∃ wa : World, wa = wr := ⟨_, rfl⟩
          clear W0 hT
          go_wp2_with (first
            | (at_builtin; refine wpl_append_sl rfl _ _ 27 rfl wa.heap.size 29 j0 (.agg (blk fun _ => 0)) 256 256 Try.underlying27 hj0 jz0 jz1 jz2 zB_size (by decide) _ 0 [] rfl hlit.out _ B.length (flat bc B) rfl hsrc.out hln (bc_one' _) (by unfold maxLen; omega) (by omega) (by simp) ?_; intro v9 w9 hown9 hgrow9; have O9 := Lib.hid hown9; have B9 : Hid (Below wa.heap.size wa w9) := below_app ((Below.refl _ _).alloc (by simp) _) (by simp) hlit.out (Below.refl _ _) hgrow9; clear hown9 hgrow9)
            | (go_at_call 13; refine (refOverlay_any T hcn v5 w9 (S5t.out.later B9.out)).mono ?_; rintro e wk ⟨v10, ks, rfl, hcs, hro, hbk⟩; have CSH := Lib.hid hcs; have RO10 := Lib.hid hro; have BK := Lib.hid hbk; clear hcs hro hbk))
          have hC := out_eq CSH.out
          have hCl := refOut_len T ks
          have hkl := CSH.out.len
          rw [bks_len] at hkl
          generalize refOut T ks = C at hC hCl RO10
          have hCH := Lib.hid hC
          clear hC
          have hBl3 : B.length ≤ 300 := by have := hBlH.out; omega
          have hCl3 : C.length ≤ 100000 := by omega
          have hB1 : B.length ≤ 100000 := by omega
          have hC1 : C.length ≤ 1000000 := by omega
          obtain ⟨X, hX⟩ : ∃ X, Hid (overL B C = X) := ⟨_, rfl⟩
          have hov := Lib.hid (fun v vc w (h1 : Bks w v B) (h2 : Cps w vc C) => over_any B C hB1 hC1 v vc w h1 h2)
          have hro := Lib.hid (fun v vc w (h1 : Bks w v B) (h2 : Cps w vc C) => refOver_any B C hB1 hC1 v vc w h1 h2)
          have hXl : Hid (X.length = B.length) := by rw [← hX.out]; exact overL_len _ _
          rw [hX.out] at hov hro
          have O9k : Hid (Bks wk v9 B) := by
            have := O9.out
            rw [Nat.zero_add, List.nil_append] at this
            exact Sl.own (own_later this BK.out)
          have O7k : Hid (Bks wk (.slice ab B.length bcap) B) := Sl.later hBk.out (B9.out.trans (BK.out.mono B9.out.size))
          have C10 : Hid (Cps wk v10 C) := Sl.own RO10.out
          have S5k : Hid (Trs wk v5 T) := S5t.out.later (B9.out.trans (BK.out.mono B9.out.size))
          have S6k : Hid (Trs wk v6 T) := S6t.out.later (B9.out.trans (BK.out.mono B9.out.size))
          have BKw : Hid (Below w.heap.size w wk) := B4.out.trans ((B9.out.trans (BK.out.mono B9.out.size)).mono B4.out.size)
          clear O9 B9 BK RO10 CSH hBk hsrc hlit S5t S6t B4 S5 S6 HW B3
          go_loopw [11] (fun v11 W => ∃ q, v11 = .int .i64 (q : Nat) ∧ q ≤ 2 ∧ Below wk.heap.size wk W) (fun v11 _ => ((2 : Int) - intOf v11).toNat)
          case atStart => exact ⟨0, rfl, by omega, Below.refl _ _⟩
          case round =>
            obtain ⟨q, rfl, hq, hR⟩ := hrel
            have BR := Lib.hid hR
            clear hR
            by_cases hq2 : q < 2
            · have tok : True := trivial
              have hqd : decide ((q : Int) < 2) = true := by simp; omega
              go_wp2_with (first
                | (go_at_call 14; refine (overlay_any T hcn v6 wr (S6k.out.later BR.out)).mono ?_; rintro e wc ⟨v12, rfl, hown, hbel⟩; rw [hCH.out] at hown; obtain ⟨a12, c12, hs12⟩ := own_shape hown; subst hs12; have O12 := Lib.hid hown; have BC := Lib.hid hbel; clear hown hbel)
                | (go_at_call 15; refine (hov.out v9 _ wc (Sl.later O9k.out (BR.out.trans (BC.out.mono BR.out.size))) (Sl.own O12.out)).mono ?_; rintro e wx ⟨v13, rfl, hown, hbel⟩; obtain ⟨a13, c13, hs13⟩ := own_shape hown; subst hs13; have O13 := Lib.hid hown; have BX := Lib.hid hbel; clear hown hbel)
                | (go_at_call 16; have BXk : Hid (Below wk.heap.size wk wx) := BR.out.trans ((BC.out.trans (BX.out.mono BC.out.size)).mono BR.out.size); refine (sameCps_any C _ v10 wx (Sl.own (own_later O12.out BX.out)) (Sl.later C10.out BXk.out)).mono ?_; rintro e wy ⟨rfl, hbel⟩; have BY := Lib.hid hbel; clear hbel)
                | (go_at_call 17; have BYk : Hid (Below wk.heap.size wk wy) := BXk.out.trans (BY.out.mono BXk.out.size); refine (sameAll_any T v6 v5 wy (S6k.out.later BYk.out) (S5k.out.later BYk.out)).mono ?_; rintro e wz ⟨rfl, hbel⟩; have BZ := Lib.hid hbel; clear hbel)
                | (go_at_call 19; have BZk : Hid (Below wk.heap.size wk wz) := BYk.out.trans (BZ.out.mono BYk.out.size); refine (hro.out (.slice ab B.length bcap) v10 wz (Sl.later O7k.out BZk.out) (Sl.later C10.out BZk.out)).mono ?_; rintro e wu ⟨v19, rfl, hown, hbel⟩; have O19 := Lib.hid hown; have BU := Lib.hid hbel; clear hown hbel)
                | (go_at_call 18; clear tok; have BUk : Hid (Below wk.heap.size wk wu) := BZk.out.trans (BU.out.mono BZk.out.size); refine (sameBks_any X _ v19 wu (Sl.later (Sl.own O13.out) (BY.out.trans ((BZ.out.trans (BU.out.mono BZ.out.size)).mono BY.out.size))) (Sl.own O19.out)).mono ?_; rintro e wv ⟨rfl, hbel⟩; have BV := Lib.hid hbel; clear hbel)
                | (go_at_call 18; have BVk : Hid (Below wk.heap.size wk wv) := BUk.out.trans (BV.out.mono BUk.out.size); refine (sameBks_any B v9 (.slice ab B.length bcap) wv (Sl.later O9k.out BVk.out) (Sl.later O7k.out BVk.out)).mono ?_; rintro e wt ⟨rfl, hbel⟩; have BT := Lib.hid hbel; clear hbel))
              have BXt : Hid (Below wx.heap.size wx wt) := BY.out.trans ((BZ.out.trans ((BU.out.trans ((BV.out.trans (BT.out.mono BV.out.size)).mono BU.out.size)).mono BZ.out.size)).mono BY.out.size)
              have A0 : Hid (AF wk wr.heap.size wc.heap.size (.slice a12 C.length c12) C.length (.slice a13 X.length c13) X.length wt) := by
                refine ⟨BVk.out.trans (BT.out.mono BVk.out.size), ⟨_, own_later O12.out (BX.out.trans (BXt.out.mono BX.out.size))⟩, ⟨_, own_later O13.out BXt.out, bc_u8 X⟩, fun k hk => (O12.out.lt k hk).2, BR.out.size, BC.out.size, ?_⟩
                exact Nat.le_trans BX.out.size BXt.out.size
              have c12l : Hid (C.length ≤ c12 ∧ c12 ≤ 2 ^ 63 - 1 ∨ C.length = 0) := by
                by_cases h0 : 0 < C.length
                · obtain ⟨_, _, _, h1, h2⟩ := own_some O12.out h0
                  exact .inl ⟨h1, h2⟩
                · exact .inr (by omega)
              obtain ⟨wq, rfl⟩ : ∃ wq : World, wq = wr := ⟨_, rfl⟩
              clear hmany S5k S6k O7k O9k C10 O12 O13 O19 BC BX BXk BY BYk BZ BZk BU BUk BV BVk BT BXt hov hro BR
              go_loopw [14] (fun v14 W => ∃ p, v14 = .int .i64 (p : Nat) ∧ p ≤ C.length ∧ AF wk wq.heap.size wc.heap.size (.slice a12 C.length c12) C.length (.slice a13 X.length c13) X.length W) (fun v14 _ => (C.length - intOf v14).toNat)
              case atStart => exact ⟨0, rfl, by omega, A0.out⟩
              case round =>
                obtain ⟨p, rfl, hp, hA⟩ := hrel
                have A1 := Lib.hid hA
                by_cases hpn : p < C.length
                · obtain ⟨xs, hxs⟩ := hA.c
                  obtain ⟨g, rfl, _, g1, g2⟩ := own_some hxs (by omega)
                  unfold maxLen at g2
                  obtain ⟨⟨u, e1⟩, e2⟩ := A1.out.cellc (p * 257) (by omega)
                  have A2 := Lib.hid (A1.out.setc (p * 257) (by omega) (.int .i64 (-5)))
                  clear hxs hA
                  go_wp2_with fail
                  exact ⟨⟨p + 1, rfl, by omega, A2.out⟩, by simp [intOf]; omega⟩
                · obtain rfl : p = C.length := by omega
                  clear hA
                  go_wp2_with fail
                  obtain ⟨wq2, rfl⟩ : ∃ wq2 : World, wq2 = wr := ⟨_, rfl⟩
                  go_loopw [15] (fun v15 W => ∃ r, v15 = .int .i64 (r : Nat) ∧ r ≤ X.length ∧ AF wk wq.heap.size wc.heap.size (.slice a12 C.length c12) C.length (.slice a13 X.length c13) X.length W) (fun v15 _ => (X.length - intOf v15).toNat)
                  case atStart => exact ⟨0, rfl, by omega, A1.out⟩
                  case round =>
                    obtain ⟨r, rfl, hr, hA⟩ := hrel
                    have A3 := Lib.hid hA
                    by_cases hrn : r < X.length
                    · obtain ⟨ys, hys, _⟩ := hA.x
                      obtain ⟨g, rfl, _, g1, g2⟩ := own_some hys (by omega)
                      unfold maxLen at g2
                      obtain ⟨⟨n, e1⟩, e2⟩ := A3.out.cellx (r * 256) (by omega)
                      have hgl : g < wr.heap.size := (hys.lt g rfl).2
                      have f0 : ∀ p : Kept (fun w' => Below wr.heap.size wr w'), p.x.cell? ⟨g, r * 256, none⟩ = some (.int .u8 n) := fun p => (World.cell?_of_block (p.h.block _ hgl)).trans e1
                      have hne : Nonempty (Kept (fun w' => Below wr.heap.size wr w')) := ⟨⟨wr, Below.refl _ _⟩⟩
                      have AD := Lib.hid (fun m => (A3.out.later ((Below.refl wr.heap.size wr).drew)).setx (r * 256) (by omega) m)
                      clear hys hA
                      go_wp2_with fail
                      refine wp_region_plan (fun w' => Below wr.heap.size wr w') [(0, 0), (0, 1), (0, 2), (0, 3), (1, 4), (0, 5), (0, 6), (0, 7), (3, 8)] (by kernel_rfl) (by kernel_rfl) (Below.refl _ _).drew ?_
                      repeat (first | (refine wpPlan_pure rfl (fun K hK => ?_); go_simp; refine hK _ ?_; clear hK K) | (refine wpPlan_held rfl (fun K hK => ?_); go_simp; refine hK _ ?_; clear hK K))
                      refine wpPlan_last rfl (fun K hK => ?_)
                      go_wp2_with fail
                      refine hK.out _ _ ?_
                      clear hK K
                      refine wpPlan_nil ?_
                      go_wp2_with fail
                      exact ⟨⟨r + 1, rfl, by omega, AD.out _⟩, by simp [intOf]; omega⟩
                    · obtain rfl : r = X.length := by omega
                      clear hA
                      go_wp2_with fail
                      exact ⟨⟨q + 1, rfl, by omega, A3.out.bel⟩, by simp [intOf]; omega⟩
            · obtain rfl : q = 2 := by omega
              have hqd : decide (((2 : Nat) : Int) < 2) = false := by simp
              go_wp2_with fail
              go_ret
              exact ⟨rfl, BKw.out.trans (BR.out.mono BKw.out.size)⟩
end Go.Proofs.Ytdeeegodiacjgaa
