/- quernref19.May, walked. At least one block. -/
import Derived.Test.YtdeeegodiacjgaaM1
namespace Go.Proofs.Ytdeeegodiacjgaa
open Go.RowKit
attribute [local go_sem ↓] loadAtG
def outT (g : Ge) (t : Tr) : Bool := t.2.1.all (fun c => outB g c.1) && t.2.2.all (outB g)
def allOut (g : Ge) (l : List Tr) : Bool := l.all (outT g)
theorem allOut_snoc {g : Ge} {l : List Tr} {i : Nat} {t : Tr} (h : l[i]? = some t) : allOut g (l.take (i + 1)) = (allOut g (l.take i) && outT g t) := by
  rw [List.take_add_one, h]
  simp [allOut]
theorem allOut_no {g : Ge} {l : List Tr} {t : Tr} (h : t ∈ l) (ht : outT g t = false) : allOut g l = false := by
  unfold allOut
  rw [List.all_eq_false]
  exact ⟨t, h, by rw [ht]; simp⟩
theorem outC_snoc {g : Ge} {cs : List Cp} {k : Nat} {c : Cp} (h : cs[k]? = some c) : (cs.take (k + 1)).all (fun c => outB g c.1) = ((cs.take k).all (fun c => outB g c.1) && outB g c.1) := by
  rw [List.take_add_one, h]
  simp
theorem outR_snoc {g : Ge} {rs : List Int} {k : Nat} {b : Int} (h : rs[k]? = some b) : (rs.take (k + 1)).all (outB g) = ((rs.take k).all (outB g) && outB g b) := by
  rw [List.take_add_one, h]
  simp
theorem outT_c {g : Ge} {s : Int} {cs : List Cp} {rs : List Int} {c : Cp} (h : c ∈ cs) (hc : outB g c.1 = false) : outT g (s, cs, rs) = false := by
  have : cs.all (fun c => outB g c.1) = false := by rw [List.all_eq_false]; exact ⟨c, h, by rw [hc]; simp⟩
  unfold outT
  rw [this]
  rfl
theorem outT_r {g : Ge} {s : Int} {cs : List Cp} {rs : List Int} {b : Int} (h : b ∈ rs) (hc : outB g b = false) : outT g (s, cs, rs) = false := by
  have : rs.all (outB g) = false := by rw [List.all_eq_false]; exact ⟨b, h, by rw [hc]; simp⟩
  unfold outT
  rw [this, Bool.and_false]
def mayR (n : Nat) (g : Ge) (l : List Tr) (next : Nat) : Int := if mayB g then if decide ((n : Int) = gBlk g) && numB next && allOut g l then 0 else 2 else 50
set_option maxRecDepth 100000 in
set_option maxHeartbeats 2000000 in
theorem rmay19_any (n : Nat) (hn : 1 ≤ n) (g : Ge) (l : List Tr) (next : Nat) (v : Value) (w : World) (ht : Trs w v l) :
    Calls Try.prog 27 #[.int .i64 (n : Int), .agg (ga g), v, .int .u32 (next : Int)] w (GPost (.int .i64 (mayR n g l next)) w) := by
  have hB0 : Hid (Below w.heap.size w (w.alloc (.cells (ga g) 43))) := (Below.refl _ _).alloc (Nat.le_refl _) _
  have T := Lib.hid (ht.later hB0.out)
  have hrow : Hid (Whole (w.alloc (.cells (ga g) 43)) w.heap.size (ga g) 43) := Whole.new w (ga g) 43
  have hmay := Lib.hid (rmay_any g)
  have hbl := Lib.hid (rblocks_any g)
  have hseq := Lib.hid (seq_any next)
  have hu : ∀ r, mayR n g l next = r → Hid (mayR n g l next = r) := fun _ h => h
  have hn0 : ¬ (n : Int) = 0 := by omega
  have hl0 := ldG hrow.out
  obtain ⟨ao, cap, rfl, q1, q2⟩ := ht.shape
  unfold maxLen at q2
  clear ht
  cases hm : mayB g with
  | false =>
    have he := hu 50 (by unfold mayR; rw [hm]; rfl)
    go_enter Try.func27, Try.ntmps27
    go_wp2_with (go_at_call 48; refine (hmay.out _).mono ?_; rintro e w1 ⟨rfl, hb⟩; rw [hm]; have B1 := Lib.hid hb; clear hb)
    go_ret
    rw [he.out]
    exact ⟨rfl, hB0.out.trans (B1.out.mono hB0.out.size)⟩
  | true =>
    have hout := Lib.hid (fun b => rout_any g b hm)
    cases d1 : decide ((n : Int) = gBlk g) with
    | false =>
      have he := hu 2 (by unfold mayR; rw [hm, d1]; rfl)
      have d2 : ((n : Int) == gBlk g) = false := by simpa using of_decide_eq_false d1
      have d3 := of_decide_eq_false d1
      go_enter Try.func27, Try.ntmps27
      go_wp2_with (first
        | (go_at_call 48; refine (hmay.out _).mono ?_; rintro e w1 ⟨rfl, hb⟩; rw [hm]; have B1 := Lib.hid hb; clear hb; have l1 := ldG (hrow.out.later B1.out))
        | (go_at_call 49; refine (hbl.out _).mono ?_; rintro e w2 ⟨rfl, hb⟩; have B2 := Lib.hid hb; clear hb))
      go_ret
      rw [he.out]
      have b1 := hB0.out.trans (B1.out.mono hB0.out.size)
      exact ⟨rfl, b1.trans (B2.out.mono b1.size)⟩
    | true =>
      have d2 := of_decide_eq_true d1
      have d2H := Lib.hid d2
      rw [← d2] at hbl
      cases hs : numB next with
      | false =>
        have he := hu 2 (by unfold mayR; rw [hm, d1, hs]; rfl)
        clear d1 d2
        go_enter Try.func27, Try.ntmps27
        go_wp2_with (first
          | (go_at_call 48; refine (hmay.out _).mono ?_; rintro e w1 ⟨rfl, hb⟩; rw [hm]; have B1 := Lib.hid hb; clear hb; have l1 := ldG (hrow.out.later B1.out))
          | (go_at_call 49; refine (hbl.out _).mono ?_; rintro e w2 ⟨rfl, hb⟩; have B2 := Lib.hid hb; clear hb)
          | (go_at_call 50; refine (hseq.out _).mono ?_; rintro e w3 ⟨rfl, rfl⟩; rw [hs]))
        go_ret
        rw [he.out]
        have b1 := hB0.out.trans (B1.out.mono hB0.out.size)
        exact ⟨rfl, b1.trans (B2.out.mono b1.size)⟩
      | true =>
        have he := hu (if allOut g l then 0 else 2) (by unfold mayR; rw [hm, d1, hs]; rfl)
        clear d1 d2
        go_enter Try.func27, Try.ntmps27
        go_wp2_with (first
          | (go_at_call 48; refine (hmay.out _).mono ?_; rintro e w1 ⟨rfl, hb⟩; rw [hm]; have B1 := Lib.hid hb; clear hb; have l1 := ldG (hrow.out.later B1.out))
          | (go_at_call 49; refine (hbl.out _).mono ?_; rintro e w2 ⟨rfl, hb⟩; have B2 := Lib.hid hb; clear hb)
          | (go_at_call 50; refine (hseq.out _).mono ?_; rintro e w3 ⟨rfl, rfl⟩; rw [hs]))
        have Bw2 : Hid (Below (w.alloc (.cells (ga g) 43)).heap.size (w.alloc (.cells (ga g) 43)) w3) := B1.out.trans (B2.out.mono B1.out.size)
        have T2 := Lib.hid (T.out.later Bw2.out)
        have R2 := Lib.hid (hrow.out.later Bw2.out)
        have hsz2 : Hid (w.heap.size < w3.heap.size) := R2.out.lt
        have Bz : Hid (Below w.heap.size w w3) := hB0.out.trans (Bw2.out.mono hB0.out.size)
        clear hmay hbl hseq l1 hl0 B1 B2 Bw2 T hrow
        obtain ⟨wz, hwz⟩ : ∃ wz : World, wz = w3 := ⟨_, rfl⟩
        subst hwz
        go_loopw [9] (fun v9 W => ∃ i, v9 = .int .i64 (i : Nat) ∧ i ≤ l.length ∧ allOut g (l.take i) = true ∧ Below wz.heap.size wz W) (fun v9 _ => (l.length - intOf v9).toNat)
        case atStart => exact ⟨0, rfl, by omega, rfl, Below.refl _ _⟩
        case round =>
          obtain ⟨i, rfl, hi, hall, hB⟩ := hrel
          have AL := Lib.hid hall
          have BB := Lib.hid hB
          clear hall hB
          by_cases hin : i < l.length
          · obtain ⟨t, htt⟩ : ∃ t, l[i]? = some t := ⟨_, List.getElem?_eq_getElem hin⟩
            obtain ⟨s0, cs, rs⟩ := t
            obtain ⟨g1, o1, ⟨cv, rv⟩, hao, _, _, hg1, _, d1, d2, pc, pr⟩ := T2.out.at htt
            subst hao
            obtain ⟨ac, cc1, hcv, m1, m2, _⟩ := pc.ex
            obtain ⟨ar, rc1, hrv, m3, m4, _⟩ := pr.ex
            simp only at hcv hrv pc pr
            subst hcv hrv
            unfold maxLen at m2 m4
            have PC := Lib.hid pc
            have PR := Lib.hid pr
            have D1 := Lib.hid d1
            have D2 := Lib.hid d2
            have hmem := Lib.hid (List.mem_of_getElem? htt)
            have hsn := Lib.hid (allOut_snoc (g := g) htt)
            have wi : IntKind.i64.wrap ((i : Int) + 1) = (i : Int) + 1 := IntWalk.i64_in _ (by omega)
            clear htt pc pr d1 d2
            have e1 := (World.cell?_of_block (a := ⟨g1, o1 + i * 3 + 1, none⟩) (BB.out.block g1 hg1)).trans D1.out
            go_wp2_with fail
            clear e1
            go_loopw [10] (fun v10 W => ∃ k, v10 = .int .i64 (k : Nat) ∧ k ≤ cs.length ∧ (cs.take k).all (fun c => outB g c.1) = true ∧ Below wz.heap.size wz W) (fun v10 _ => (cs.length - intOf v10).toNat)
            case atStart => exact ⟨0, rfl, by omega, rfl, BB.out⟩
            case round =>
              obtain ⟨k, rfl, hk, hcs, hB⟩ := hrel
              have CL := Lib.hid hcs
              have BK := Lib.hid hB
              clear hcs hB
              have e1 := (World.cell?_of_block (a := ⟨g1, o1 + i * 3 + 1, none⟩) (BK.out.block g1 hg1)).trans D1.out
              by_cases hkn : k < cs.length
              · obtain ⟨gc, oc, hac, _, _, hgc, hatc⟩ := Sl.at (l := cs) (Sl.later PC.out BK.out) cc_len (by omega) hkn
                subst hac
                obtain ⟨c, hc⟩ : ∃ c, cs[k]? = some c := ⟨_, List.getElem?_eq_getElem hkn⟩
                have x0 : wr.cell? ⟨gc, oc + k * 257, none⟩ = some (.int .i64 c.1) := by
                  have := hatc k c hc 0 (.int .i64 c.1) rfl
                  rwa [Nat.add_zero] at this
                have hne : Nonempty (Kept (fun w' => Below wr.heap.size wr w')) := ⟨⟨wr, Below.refl _ _⟩⟩
                have f0 : ∀ p : Kept (fun w' => Below wr.heap.size wr w'), p.x.cell? ⟨gc, oc + k * 257, none⟩ = some (.int .i64 c.1) := fun p => (World.cell?_of_block (p.h.block _ hgc)).trans x0
                have f1 : ∀ p : Kept (fun w' => Below wr.heap.size wr w'), p.x.cell? ⟨g1, o1 + i * 3 + 1, none⟩ = some (.slice (some ⟨gc, oc, none⟩) cs.length cc1) := fun p => (World.cell?_of_block ((BK.out.trans (p.h.mono BK.out.size)).block g1 hg1)).trans D1.out
                have f2 : ∀ p : Kept (fun w' => Below wr.heap.size wr w'), (bigLoadAt 43 (.pointer (some ⟨w.heap.size, 0, none⟩))).run Try.prog p.x = .ok (.agg (ga g)) p.x := fun p => ldG (R2.out.later (BK.out.trans (p.h.mono BK.out.size)))
                have hcm := Lib.hid (List.mem_of_getElem? hc)
                have hcn := Lib.hid (outC_snoc (g := g) hc)
                have wk : IntKind.i64.wrap ((k : Int) + 1) = (k : Int) + 1 := IntWalk.i64_in _ (by omega)
                clear hatc hc x0
                cases eo : outB g c.1 with
                | false =>
                  go_wp2_with fail
                  refine wp_region_plan (fun w' => Below wr.heap.size wr w') [(1, 0), (0, 1), (0, 2), (0, 3), (0, 4), (1, 5), (0, 6), (0, 7), (0, 8), (1, 9), (3, 10), (0, 11)] (by kernel_rfl) (by kernel_rfl) (Below.refl _ _).drew ?_
                  repeat (first | (refine wpPlan_pure rfl (fun K hK => ?_); go_simp; refine hK _ ?_; clear hK K) | (refine wpPlan_held rfl (fun K hK => ?_); go_simp; refine hK _ ?_; clear hK K))
                  refine wpPlan_last rfl (fun K hK => ?_)
                  go_wp2_with (go_at_call 51; refine (hout.out _ _).mono ?_; rintro e wo ⟨rfl, hb⟩; rw [eo]; have BO : Hid (Below wr.heap.size wr wo) := ((Below.refl _ _).drew).trans hb; clear hb)
                  refine hK.out _ _ ?_
                  clear hK K
                  repeat (first | (refine wpPlan_pure rfl (fun K hK => ?_); go_simp; refine hK _ ?_; clear hK K) | (refine wpPlan_held rfl (fun K hK => ?_); go_simp; refine hK _ ?_; clear hK K))
                  refine wpPlan_nil ?_
                  go_wp2_with fail
                  go_ret
                  rw [he.out, allOut_no hmem.out (outT_c hcm.out eo)]
                  exact ⟨rfl, Bz.out.trans ((BK.out.trans (BO.out.mono BK.out.size)).mono Bz.out.size)⟩
                | true =>
                  go_wp2_with fail
                  refine wp_region_plan (fun w' => Below wr.heap.size wr w') [(1, 0), (0, 1), (0, 2), (0, 3), (0, 4), (1, 5), (0, 6), (0, 7), (0, 8), (1, 9), (3, 10), (0, 11)] (by kernel_rfl) (by kernel_rfl) (Below.refl _ _).drew ?_
                  repeat (first | (refine wpPlan_pure rfl (fun K hK => ?_); go_simp; refine hK _ ?_; clear hK K) | (refine wpPlan_held rfl (fun K hK => ?_); go_simp; refine hK _ ?_; clear hK K))
                  refine wpPlan_last rfl (fun K hK => ?_)
                  go_wp2_with (go_at_call 51; refine (hout.out _ _).mono ?_; rintro e wo ⟨rfl, hb⟩; rw [eo]; have BO : Hid (Below wr.heap.size wr wo) := ((Below.refl _ _).drew).trans hb; clear hb)
                  refine hK.out _ _ ?_
                  clear hK K
                  repeat (first | (refine wpPlan_pure rfl (fun K hK => ?_); go_simp; refine hK _ ?_; clear hK K) | (refine wpPlan_held rfl (fun K hK => ?_); go_simp; refine hK _ ?_; clear hK K))
                  refine wpPlan_nil ?_
                  go_wp2_with fail
                  exact ⟨⟨k + 1, rfl, by omega, by rw [hcn.out, CL.out, eo]; rfl, BK.out.trans (BO.out.mono BK.out.size)⟩, by simp [intOf]; omega⟩
              · obtain rfl : k = cs.length := by omega
                have hcall : Hid (cs.all (fun c => outB g c.1) = true) := by have := CL.out; rw [List.take_length] at this; exact this
                have e2 := (World.cell?_of_block (a := ⟨g1, o1 + i * 3 + 2, none⟩) (BK.out.block g1 hg1)).trans D2.out
                go_wp2_with fail
                clear e1 e2
                obtain ⟨wq, hwq⟩ : ∃ wq : World, wq = wr := ⟨_, rfl⟩
                subst hwq
                go_loopw [11] (fun v11 W => ∃ k, v11 = .int .i64 (k : Nat) ∧ k ≤ rs.length ∧ (rs.take k).all (outB g) = true ∧ Below wz.heap.size wz W) (fun v11 _ => (rs.length - intOf v11).toNat)
                case atStart => exact ⟨0, rfl, by omega, rfl, BK.out⟩
                case round =>
                  obtain ⟨k, rfl, hk2, hrs, hB⟩ := hrel
                  have RL := Lib.hid hrs
                  have BR := Lib.hid hB
                  clear hrs hB
                  have e2 := (World.cell?_of_block (a := ⟨g1, o1 + i * 3 + 2, none⟩) (BR.out.block g1 hg1)).trans D2.out
                  by_cases hkn2 : k < rs.length
                  · obtain ⟨gc, oc, hac, _, _, hgc, hatc⟩ := Sl.at (l := rs) (Sl.later PR.out BR.out) ic_len (by omega) hkn2
                    subst hac
                    obtain ⟨b, hc⟩ : ∃ b, rs[k]? = some b := ⟨_, List.getElem?_eq_getElem hkn2⟩
                    have x0 := range_one (hatc k b hc)
                    rw [Nat.mul_one] at x0
                    have hne : Nonempty (Kept (fun w' => Below wr.heap.size wr w')) := ⟨⟨wr, Below.refl _ _⟩⟩
                    have f0 : ∀ p : Kept (fun w' => Below wr.heap.size wr w'), p.x.cell? ⟨gc, oc + k, none⟩ = some (.int .i64 b) := fun p => (World.cell?_of_block (p.h.block _ hgc)).trans x0
                    have f1 : ∀ p : Kept (fun w' => Below wr.heap.size wr w'), p.x.cell? ⟨g1, o1 + i * 3 + 2, none⟩ = some (.slice (some ⟨gc, oc, none⟩) rs.length rc1) := fun p => (World.cell?_of_block ((BR.out.trans (p.h.mono BR.out.size)).block g1 hg1)).trans D2.out
                    have f2 : ∀ p : Kept (fun w' => Below wr.heap.size wr w'), (bigLoadAt 43 (.pointer (some ⟨w.heap.size, 0, none⟩))).run Try.prog p.x = .ok (.agg (ga g)) p.x := fun p => ldG (R2.out.later (BR.out.trans (p.h.mono BR.out.size)))
                    have hcm := Lib.hid (List.mem_of_getElem? hc)
                    have hcn := Lib.hid (outR_snoc (g := g) hc)
                    have wk : IntKind.i64.wrap ((k : Int) + 1) = (k : Int) + 1 := IntWalk.i64_in _ (by omega)
                    clear hatc hc x0
                    cases eo : outB g b with
                    | false =>
                      go_wp2_with fail
                      refine wp_region_plan (fun w' => Below wr.heap.size wr w') [(1, 0), (0, 1), (0, 2), (0, 3), (0, 4), (1, 5), (0, 6), (0, 7), (1, 8), (3, 9), (0, 10)] (by kernel_rfl) (by kernel_rfl) (Below.refl _ _).drew ?_
                      repeat (first | (refine wpPlan_pure rfl (fun K hK => ?_); go_simp; refine hK _ ?_; clear hK K) | (refine wpPlan_held rfl (fun K hK => ?_); go_simp; refine hK _ ?_; clear hK K))
                      refine wpPlan_last rfl (fun K hK => ?_)
                      go_wp2_with (go_at_call 51; refine (hout.out _ _).mono ?_; rintro e wo ⟨rfl, hb⟩; rw [eo]; have BO : Hid (Below wr.heap.size wr wo) := ((Below.refl _ _).drew).trans hb; clear hb)
                      refine hK.out _ _ ?_
                      clear hK K
                      repeat (first | (refine wpPlan_pure rfl (fun K hK => ?_); go_simp; refine hK _ ?_; clear hK K) | (refine wpPlan_held rfl (fun K hK => ?_); go_simp; refine hK _ ?_; clear hK K))
                      refine wpPlan_nil ?_
                      go_wp2_with fail
                      go_ret
                      rw [he.out, allOut_no hmem.out (outT_r hcm.out eo)]
                      exact ⟨rfl, Bz.out.trans ((BR.out.trans (BO.out.mono BR.out.size)).mono Bz.out.size)⟩
                    | true =>
                      go_wp2_with fail
                      refine wp_region_plan (fun w' => Below wr.heap.size wr w') [(1, 0), (0, 1), (0, 2), (0, 3), (0, 4), (1, 5), (0, 6), (0, 7), (1, 8), (3, 9), (0, 10)] (by kernel_rfl) (by kernel_rfl) (Below.refl _ _).drew ?_
                      repeat (first | (refine wpPlan_pure rfl (fun K hK => ?_); go_simp; refine hK _ ?_; clear hK K) | (refine wpPlan_held rfl (fun K hK => ?_); go_simp; refine hK _ ?_; clear hK K))
                      refine wpPlan_last rfl (fun K hK => ?_)
                      go_wp2_with (go_at_call 51; refine (hout.out _ _).mono ?_; rintro e wo ⟨rfl, hb⟩; rw [eo]; have BO : Hid (Below wr.heap.size wr wo) := ((Below.refl _ _).drew).trans hb; clear hb)
                      refine hK.out _ _ ?_
                      clear hK K
                      repeat (first | (refine wpPlan_pure rfl (fun K hK => ?_); go_simp; refine hK _ ?_; clear hK K) | (refine wpPlan_held rfl (fun K hK => ?_); go_simp; refine hK _ ?_; clear hK K))
                      refine wpPlan_nil ?_
                      go_wp2_with fail
                      exact ⟨⟨k + 1, rfl, by omega, by rw [hcn.out, RL.out, eo]; rfl, BR.out.trans (BO.out.mono BR.out.size)⟩, by simp [intOf]; omega⟩
                  · obtain rfl : k = rs.length := by omega
                    have hrall : Hid (rs.all (outB g) = true) := by have := RL.out; rw [List.take_length] at this; exact this
                    go_wp2_with fail
                    exact ⟨⟨i + 1, rfl, by omega, by rw [hsn.out, AL.out]; unfold outT; show (true && (cs.all (fun c => outB g c.1) && rs.all (outB g))) = true; rw [hcall.out, hrall.out]; rfl, BR.out⟩, by simp [intOf]; omega⟩
          · obtain rfl : i = l.length := by omega
            go_wp2_with fail
            go_ret
            have hal := AL.out
            rw [List.take_length] at hal
            rw [he.out, hal]
            exact ⟨rfl, Bz.out.trans (BB.out.mono Bz.out.size)⟩
end Go.Proofs.Ytdeeegodiacjgaa
