/- replay.fits, walked, with the answer of scan.Outside as a hypothesis. -/
import Derived.Test.YtdeeegodiacjgaaM2
namespace Go.Proofs.Ytdeeegodiacjgaa
open Go.RowKit
attribute [local go_sem ↓] loadAtG loadAtC storeAtC
def fitsB (D : Dk) (g : Ge) (l : List Tr) : Bool := decide ((D.safe.length : Int) = gBlk g) && allOut g l
set_option maxRecDepth 100000 in
set_option maxHeartbeats 2000000 in
theorem fits_any (g : Ge) (hO : mayB g = true → ∀ (b : Int) (w : World), Calls Try.prog 59 #[.agg (ga g), .int .i64 b] w (GPost (.bool (outB g b)) w)) (l : List Tr) (v : Value) {W : World} {base r gs gn : Nat} {vw : Value} {D : Dk} (h : DAt W base r gs gn vw D) (ht : Trs W v l) :
    Calls Try.prog 42 #[.pointer (some ⟨r, 0, none⟩), .agg (ga g), v] W (GPost (.bool (fitsB D g l)) W) := by
  have cB : Hid (Below W.heap.size W (W.alloc (.cells (ga g) 43))) := (Below.refl _ _).alloc (Nat.le_refl _) _
  have hrow : Hid (Whole (W.alloc (.cells (ga g) 43)) W.heap.size (ga g) 43) := Whole.new W (ga g) 43
  have HA := Lib.hid (h.later cB.out)
  have T := Lib.hid (ht.later cB.out)
  have hpos := h.ok.pos
  have hgb := Lib.hid (gblocks_any g)
  have hu : ∀ r, fitsB D g l = r → Hid (fitsB D g l = r) := fun _ h => h
  obtain ⟨ao, cap, rfl, q1, q2⟩ := ht.shape
  unfold maxLen at q2
  clear h ht
  have hgg : gBlocks g = gBlk g := rfl
  rw [hgg] at hgb
  clear hgg
  go_enter Try.func42, Try.ntmps42
  go_wp2_with fail
  generalize W.alloc (.cells (ga g) 43) = wa at hrow HA cB T ⊢
  have hne : Nonempty (Kept (fun w' => Below wa.heap.size wa w')) := ⟨⟨wa, Below.refl _ _⟩⟩
  have f1 : ∀ p : Kept (fun w' => Below wa.heap.size wa w'), (bigLoadAt 43 (.pointer (some ⟨W.heap.size, 0, none⟩))).run Try.prog p.x = .ok (.agg (ga g)) p.x := fun p => ldG (hrow.out.later p.h)
  refine wp_region_plan (fun w' => Below wa.heap.size wa w') [(0, 0), (1, 2), (2, 1), (3, 3), (0, 4)] (by kernel_rfl) (by kernel_rfl) (Below.refl _ _).drew ?_
  repeat (first | (refine wpPlan_pure rfl (fun K hK => ?_); go_simp; refine hK _ ?_; clear hK K) | (refine wpPlan_held rfl (fun K hK => ?_); go_simp; refine hK _ ?_; clear hK K))
  refine wpPlan_turn rfl (fun K hK => ?_)
  go_wp2_with (go_at_call 39; refine (blocks_at (HA.out.later (Below.refl _ _).drew)).mono ?_; rintro e w1 ⟨rfl, rfl⟩)
  refine hK.out _ _ ((Below.refl _ _).drew) ?_
  clear hK K
  refine wpPlan_last rfl (fun K hK => ?_)
  go_wp2_with (go_at_call 58; refine (hgb.out _).mono ?_; rintro e w2 ⟨rfl, hb2⟩; have B2 : Hid (Below wa.heap.size wa w2) := ((Below.refl _ _).drew).trans hb2; clear hb2)
  refine hK.out _ _ ?_
  clear hK K f1 hne
  have b2 : Hid (Below W.heap.size W w2) := cB.out.trans (B2.out.mono cB.out.size)
  cases hb : decide ((D.safe.length : Int) = gBlk g) with
  | false =>
    have he := of_decide_eq_false hb
    have he2 : ((D.safe.length : Int) == gBlk g) = false := by simpa using he
    have hR := hu false (by unfold fitsB; rw [hb]; rfl)
    clear hb
    repeat (first | (refine wpPlan_pure rfl (fun K hK => ?_); go_simp; refine hK _ ?_; clear hK K) | (refine wpPlan_held rfl (fun K hK => ?_); go_simp; refine hK _ ?_; clear hK K))
    refine wpPlan_nil ?_
    go_wp2_with fail
    go_ret
    rw [hR.out]
    exact ⟨rfl, b2.out⟩
  | true =>
    have he := of_decide_eq_true hb
    have hm : mayB g = true := by
      cases hm : mayB g with
      | true => rfl
      | false =>
        have : gBlk g = 0 := by unfold gBlk; rw [hm]; rfl
        omega
    have hout := Lib.hid (hO hm)
    have hR := hu (allOut g l) (by unfold fitsB; rw [hb]; rfl)
    have T2 := Lib.hid (T.out.later B2.out)
    have R2 := Lib.hid (hrow.out.later B2.out)
    rw [← he]
    clear hb he hm hO hgb hrow HA T B2 cB
    repeat (first | (refine wpPlan_pure rfl (fun K hK => ?_); go_simp; refine hK _ ?_; clear hK K) | (refine wpPlan_held rfl (fun K hK => ?_); go_simp; refine hK _ ?_; clear hK K))
    refine wpPlan_nil ?_
    go_wp2_with fail
    obtain ⟨wz, hwz⟩ : ∃ wz : World, wz = w2 := ⟨_, rfl⟩
    subst hwz
    go_loopw [20] (fun v20 X => ∃ i, v20 = .int .i64 (i : Nat) ∧ i ≤ l.length ∧ allOut g (l.take i) = true ∧ Below wz.heap.size wz X) (fun v20 _ => (l.length - intOf v20).toNat)
    case atStart => exact ⟨0, rfl, by omega, rfl, Below.refl _ _⟩
    case round =>
      obtain ⟨i, rfl, hi, hall, hB⟩ := hrel
      have AL := Lib.hid hall
      have BB := Lib.hid hB
      clear hall hB
      by_cases hin : i < l.length
      · obtain ⟨t, htt⟩ : ∃ t, l[i]? = some t := ⟨_, List.getElem?_eq_getElem hin⟩
        obtain ⟨s0, cs, rs⟩ := t
        obtain ⟨g1, o1, ⟨cv, rv⟩, hao, _, _, hg1, d0, d1, d2, pc, pr⟩ := (T2.out.later BB.out).at htt
        subst hao
        obtain ⟨ac, cc1, hcv, m1, m2, _⟩ := pc.ex
        obtain ⟨ar, rc1, hrv, m3, m4, _⟩ := pr.ex
        simp only at hcv hrv pc pr d0 d1 d2
        subst hcv hrv
        unfold maxLen at m2 m4
        have hmem := Lib.hid (List.mem_of_getElem? htt)
        have hsn := Lib.hid (allOut_snoc (g := g) htt)
        have PC : Hid (Cps (wr.alloc (.cells #[.int .u32 s0, .slice ac cs.length cc1, .slice ar rs.length rc1] 55)) (.slice ac cs.length cc1) cs) := Sl.later pc ((Below.refl _ _).alloc (Nat.le_refl _) _)
        have PR : Hid (Ints (wr.alloc (.cells #[.int .u32 s0, .slice ac cs.length cc1, .slice ar rs.length rc1] 55)) (.slice ar rs.length rc1) rs) := Sl.later pr ((Below.refl _ _).alloc (Nat.le_refl _) _)
        have RT : Hid (Whole (wr.alloc (.cells #[.int .u32 s0, .slice ac cs.length cc1, .slice ar rs.length rc1] 55)) wr.heap.size #[.int .u32 s0, .slice ac cs.length cc1, .slice ar rs.length rc1] 55) := Whole.new wr _ 55
        have BT : Hid (Below wz.heap.size wz (wr.alloc (.cells #[.int .u32 s0, .slice ac cs.length cc1, .slice ar rs.length rc1] 55))) := BB.out.alloc BB.out.size _
        have wi : IntKind.i64.wrap ((i : Int) + 1) = (i : Int) + 1 := IntWalk.i64_in _ (by omega)
        clear htt pc pr
        go_wp2_with fail
        obtain ⟨wo, hwo⟩ : ∃ wo : World, wo = wr := ⟨_, rfl⟩
        subst hwo
        generalize wo.alloc (.cells #[.int .u32 s0, .slice ac cs.length cc1, .slice ar rs.length rc1] 55) = wt at PC PR RT BT ⊢
        go_loopw [27] (fun v27 X => ∃ k, v27 = .int .i64 (k : Nat) ∧ k ≤ cs.length ∧ (cs.take k).all (fun c => outB g c.1) = true ∧ Below wt.heap.size wt X) (fun v27 _ => (cs.length - intOf v27).toNat)
        case atStart => exact ⟨0, rfl, by omega, rfl, Below.refl _ _⟩
        case round =>
          obtain ⟨k, rfl, hk, hcs, hB⟩ := hrel
          have CL := Lib.hid hcs
          have BK := Lib.hid hB
          have BKz : Hid (Below wz.heap.size wz wr) := BT.out.trans (hB.mono BT.out.size)
          clear hcs hB
          by_cases hkn : k < cs.length
          · obtain ⟨gc, oc, hac, _, _, hgc, hatc⟩ := Sl.at (l := cs) (Sl.later PC.out BK.out) cc_len (by omega) hkn
            subst hac
            obtain ⟨c, hc⟩ : ∃ c, cs[k]? = some c := ⟨_, List.getElem?_eq_getElem hkn⟩
            have hl0 := ldC (hatc k c hc)
            have hst := fun z => stCnew wr z c
            have hzc := zcC
            have hc0 := ca_zero c
            have hcm := Lib.hid (List.mem_of_getElem? hc)
            have hcn := Lib.hid (outC_snoc (g := g) hc)
            have lg := ldG ((R2.out.later BKz.out).alloc (.cells (ca c) 40))
            have BA : Hid (Below wr.heap.size wr (wr.alloc (.cells (ca c) 40))) := (Below.refl _ _).alloc (Nat.le_refl _) _
            clear hatc hc
            cases eo : outB g c.1 with
            | false =>
              go_wp2_with (go_at_call 59; refine (hout.out _ _).mono ?_; rintro e wq ⟨rfl, hb⟩; rw [eo]; have BO : Hid (Below wr.heap.size wr wq) := BA.out.trans (hb.mono BA.out.size); clear hb)
              go_ret
              rw [hR.out, allOut_no hmem.out (outT_c hcm.out eo)]
              exact ⟨rfl, b2.out.trans ((BKz.out.trans (BO.out.mono BKz.out.size)).mono b2.out.size)⟩
            | true =>
              go_wp2_with (go_at_call 59; refine (hout.out _ _).mono ?_; rintro e wq ⟨rfl, hb⟩; rw [eo]; have BO : Hid (Below wr.heap.size wr wq) := BA.out.trans (hb.mono BA.out.size); clear hb)
              exact ⟨⟨k + 1, rfl, by omega, by rw [hcn.out, CL.out, eo]; rfl, BK.out.trans (BO.out.mono BK.out.size)⟩, by simp [intOf]; omega⟩
          · obtain rfl : k = cs.length := by omega
            have hcall : Hid (cs.all (fun c => outB g c.1) = true) := by have := CL.out; rw [List.take_length] at this; exact this
            have e2 := (RT.out.later BK.out).cell 2
            go_wp2_with fail
            clear e2
            obtain ⟨wp, hwp⟩ : ∃ wp : World, wp = wr := ⟨_, rfl⟩
            subst hwp
            go_loopw [40] (fun v40 X => ∃ k, v40 = .int .i64 (k : Nat) ∧ k ≤ rs.length ∧ (rs.take k).all (outB g) = true ∧ Below wt.heap.size wt X) (fun v40 _ => (rs.length - intOf v40).toNat)
            case atStart => exact ⟨0, rfl, by omega, rfl, BK.out⟩
            case round =>
              obtain ⟨k, rfl, hk2, hrs, hB⟩ := hrel
              have RL := Lib.hid hrs
              have BR := Lib.hid hB
              have BRz : Hid (Below wz.heap.size wz wr) := BT.out.trans (hB.mono BT.out.size)
              clear hrs hB
              by_cases hkn2 : k < rs.length
              · obtain ⟨gc, oc, hac, _, _, hgc, hatc⟩ := Sl.at (l := rs) (Sl.later PR.out BR.out) ic_len (by omega) hkn2
                subst hac
                obtain ⟨b, hc⟩ : ∃ b, rs[k]? = some b := ⟨_, List.getElem?_eq_getElem hkn2⟩
                have x0 := range_one (hatc k b hc)
                rw [Nat.mul_one] at x0
                have hcm := Lib.hid (List.mem_of_getElem? hc)
                have hcn := Lib.hid (outR_snoc (g := g) hc)
                have lg := ldG (R2.out.later BRz.out)
                clear hatc hc
                cases eo : outB g b with
                | false =>
                  go_wp2_with (go_at_call 59; refine (hout.out _ _).mono ?_; rintro e wq ⟨rfl, hb⟩; rw [eo]; have BO := Lib.hid hb; clear hb)
                  go_ret
                  rw [hR.out, allOut_no hmem.out (outT_r hcm.out eo)]
                  exact ⟨rfl, b2.out.trans ((BRz.out.trans (BO.out.mono BRz.out.size)).mono b2.out.size)⟩
                | true =>
                  go_wp2_with (go_at_call 59; refine (hout.out _ _).mono ?_; rintro e wq ⟨rfl, hb⟩; rw [eo]; have BO := Lib.hid hb; clear hb)
                  exact ⟨⟨k + 1, rfl, by omega, by rw [hcn.out, RL.out, eo]; rfl, BR.out.trans (BO.out.mono BR.out.size)⟩, by simp [intOf]; omega⟩
              · obtain rfl : k = rs.length := by omega
                have hrall : Hid (rs.all (outB g) = true) := by have := RL.out; rw [List.take_length] at this; exact this
                go_wp2_with fail
                exact ⟨⟨i + 1, rfl, by omega, by rw [hsn.out, AL.out]; unfold outT; show (true && (cs.all (fun c => outB g c.1) && rs.all (outB g))) = true; rw [hcall.out, hrall.out]; rfl, BRz.out⟩, by simp [intOf]; omega⟩
      · obtain rfl : i = l.length := by omega
        go_wp2_with fail
        go_ret
        have hal := AL.out
        rw [List.take_length] at hal
        rw [hR.out, hal]
        exact ⟨rfl, b2.out.trans (BB.out.mono b2.out.size)⟩
end Go.Proofs.Ytdeeegodiacjgaa
