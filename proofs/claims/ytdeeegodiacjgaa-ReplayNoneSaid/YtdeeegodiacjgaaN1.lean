/- The given statement ReplayNone, walked. The rows' bytes are below 256. -/
import Derived.Test.YtdeeegodiacjgaaA1
import Derived.Test.YtdeeegodiacjgaaW14
import Derived.Test.YtdeeegodiacjgaaFork
namespace Go.Proofs.Ytdeeegodiacjgaa
open Go.RowKit
attribute [local go_sem ↓] loadAtB storeAtB loadAtC storeAtC buildAtC sliceAtC sliceAtB loadAtG
theorem builtC0 : Try.prog.built 40 [] = some (ca (0, fun _ => 0)) := by kernel_rfl
theorem run_buildC0 : ∀ w, (bigBuild 40 #[]).run Try.prog w = .ok (.agg (ca (0, fun _ => 0))) w := fun w => run_build w 40 _ _ builtC0
set_option maxRecDepth 100000 in
set_option maxHeartbeats 1000000 in
theorem replayNone_any (g : Ge) (l : List Lt) (next : Nat) (hok : OkLt l) (v : Value) (w : World) (h : Lts w v l) :
    Calls Try.prog 4 #[.agg (ga g), v, .int .u32 (next : Int)] w (GPost (.bool true) w) := by
  have H := Lib.hid (h.later ((Below.refl _ _).alloc (Nat.le_refl _) (.cells (ga g) 43)))
  have OK := Lib.hid hok
  clear h hok
  have B0 : Hid (Below w.heap.size w (w.alloc (.cells (ga g) 43))) := (Below.refl _ _).alloc (Nat.le_refl _) _
  have G0 := Lib.hid (Whole.new w (ga g) 43)
  have hsz : w.heap.size < (w.alloc (.cells (ga g) 43)).heap.size := by simp
  have hmany := Lib.hid (many19 l v)
  by_cases hm : tooMany l 1000 = true
  · go_enter Try.func4, Try.ntmps4
    go_wp2_with (go_at_call 10; refine (hmany.out _ H.out).mono ?_; rintro e w2 ⟨rfl, hw⟩; have HW2 := Lib.hid hw; clear hw; rw [hm])
    go_ret
    exact ⟨rfl, B0.out.trans (HW2.out.mono B0.out.size)⟩
  · have hm' : tooMany l 1000 = false := by simpa using hm
    have hsm : l.length ≤ 60 ∧ szs l ≤ 1000 := by
      unfold tooMany at hm'
      have := of_decide_eq_false hm'
      omega
    obtain ⟨hl60, hsz'⟩ := hsm
    have hshort : Hid (∀ w, Lts w v l → Calls Try.prog 11 #[v] w (fun e w' => ∃ u, e = .returned u ∧ Below w.heap.size w w')) := fun w h => by
      refine (short_any l hl60 hsz' OK.out _ w h).mono ?_
      rintro e w' ⟨v5, vs5, rfl, hs5⟩
      exact ⟨v5, rfl, hs5.bel⟩
    have hz := run_buildC0
    have hbs := run_bsC (0, fun _ => 0)
    clear hm
    go_enter Try.func4, Try.ntmps4
    go_wp2_with (go_at_call 10; refine (hmany.out _ H.out).mono ?_; rintro e w2 ⟨rfl, hw⟩; have HW2 := Lib.hid hw; clear hw; rw [hm'])
    have B2 : Hid (Below w.heap.size w w2) := B0.out.trans (HW2.out.mono B0.out.size)
    have L2 := Lib.hid (H.out.later HW2.out)
    have G2 := Lib.hid (G0.out.later HW2.out)
    clear H HW2 hsz
    have f0 : ∀ p : Kept (fun w' => Below w2.heap.size w2 w'), (bigLoadAt 43 (.pointer (some ⟨w.heap.size, 0, none⟩))).run Try.prog p.x = .ok (.agg (ga g)) p.x := fun p => ldG (G2.out.later p.h)
    have hne : Nonempty (Kept (fun w' => Below w2.heap.size w2 w')) := ⟨⟨w2, Below.refl _ _⟩⟩
    refine wp_region_tree (fun w' => Below w2.heap.size w2 w') (.one 1 0 (.one 0 1 (.one 0 3 (.one 2 2 (.one 2 4 (.one 0 5 (.one 0 6 (.one 0 7 (.one 1 9 (.one 0 10 (.one 0 12 (.fork 8 11 (.one 3 13 (.one 0 14 (.one 0 15 (.one 0 16 (.one 3 17 (.one 0 18 (.one 0 19 (.one 0 20 (.one 0 21 (.one 0 22 (.one 3 23 (.one 3 24 (.one 0 25 (.one 0 26 (.one 0 27 (.one 0 28 .done)))))))))))))))))))))))))))) (by kernel_rfl) (by kernel_rfl) (Below.refl _ _).drew ?_
    repeat (first | (refine wpT_pure rfl (fun K hK => ?_); go_simp; refine hK _ ?_; clear hK K) | (refine wpT_held rfl (fun K hK => ?_); go_simp; refine hK _ ?_; clear hK K))
    refine wpT_turn rfl (fun K hK => ?_)
    go_wp2_with (go_at_call 11; refine (hshort.out _ (L2.out.later (Below.refl _ _).drew)).mono ?_; rintro e w3 ⟨u3, rfl, hb⟩; have B3 : Hid (Below w2.heap.size w2 w3) := ((Below.refl _ _).drew).trans hb; clear hb)
    refine hK.out _ _ B3.out ?_
    clear hK K
    refine wpT_turn rfl (fun K hK => ?_)
    go_wp2_with (go_at_call 20; refine (do_nil w3 u3 g next).mono ?_; rintro e w4 ⟨rfl, hb⟩; have B4 : Hid (Below w2.heap.size w2 w4) := B3.out.trans (hb.mono B3.out.size); clear hb)
    refine hK.out _ _ B4.out ?_
    clear hK K
    repeat (first | (refine wpT_pure rfl (fun K hK => ?_); go_simp; refine hK _ ?_; clear hK K) | (refine wpT_held rfl (fun K hK => ?_); go_simp; refine hK _ ?_; clear hK K))
    refine wpT_fork rfl rfl (fun vi _ w' => (∃ r, vi = .pointer (some ⟨r, 0, none⟩) ∧ w'.cell? ⟨r, 0, none⟩ = some (.slice none 0 0)) ∧ Below w2.heap.size w2 w') (fun K hK => ?_) (fun K hK => ?_) ?_
    · go_wp2_with fail
      have B5 : Hid (Below w2.heap.size w2 (w4.alloc (.cells #[.slice none 0 0, .slice none 0 0, .slice none 0 0, .int .i64 0, .int .i64 0] 50))) := B4.out.alloc B4.out.size _
      have c5 : Hid ((w4.alloc (.cells #[.slice none 0 0, .slice none 0 0, .slice none 0 0, .int .i64 0, .int .i64 0] 50)).cell? ⟨w4.heap.size, 0, none⟩ = some (.slice none 0 0)) := (Whole.new w4 _ 50).cell 0
      have z5 : w4.heap.size < (w4.alloc (.cells #[.slice none 0 0, .slice none 0 0, .slice none 0 0, .int .i64 0, .int .i64 0] 50)).heap.size := by simp
      refine hK.out _ _ B5.out ?_
      clear hK K
      refine wpOp_fork rfl (fun K hK => ?_)
      go_wp2_with (go_at_call 11; refine (hshort.out _ (L2.out.later B5.out)).mono ?_; rintro e w6 ⟨u6, rfl, hb⟩; have B6 := Lib.hid hb; clear hb)
      have b6 := B5.out.trans (B6.out.mono B5.out.size)
      exact hK.out _ _ b6 ⟨_, _, rfl, ⟨_, rfl, (World.cell?_of_block (B6.out.block _ z5)).trans c5.out⟩, b6⟩
    · go_wp2_with (go_at_call 11; refine (hshort.out _ (L2.out.later B4.out)).mono ?_; rintro e w6 ⟨u6, rfl, hb⟩; have B6 : Hid (Below w2.heap.size w2 w6) := B4.out.trans (hb.mono B4.out.size); clear hb)
      refine hK.out _ _ B6.out ?_
      clear hK K
      refine wpOp_fork rfl (fun K hK => ?_)
      go_wp2_with fail
      have b6 := B6.out.alloc B6.out.size (.cells #[.slice none 0 0, .slice none 0 0, .slice none 0 0, .int .i64 0, .int .i64 0] 50)
      exact hK.out _ _ b6 ⟨_, _, rfl, ⟨_, rfl, (Whole.new w6 _ 50).cell 0⟩, b6⟩
    · rintro vi vj w6 ⟨⟨r, rfl, hc⟩, hb⟩
      have B6 := Lib.hid hb
      have hdz := Lib.hid (do_zero w6 vj g next r 0 0 hc)
      clear hb hc f0 hne
      refine wpT_last rfl (fun K hK => ?_)
      go_wp2_with (go_at_call 20; refine hdz.out.mono ?_; rintro e w7 ⟨rfl, hb⟩; have B7 : Hid (Below w2.heap.size w2 w7) := B6.out.trans (hb.mono B6.out.size); clear hb)
      refine hK.out _ _ ?_
      clear hK K
      repeat (first | (refine wpT_pure rfl (fun K hK => ?_); go_simp; refine hK _ ?_; clear hK K) | (refine wpT_held rfl (fun K hK => ?_); go_simp; refine hK _ ?_; clear hK K))
      refine wpT_last rfl (fun K hK => ?_)
      go_wp2_with (go_at_call 14; refine (overlay_any [] (by simp [cpsN]) _ w7 (trs_nil w7)).mono ?_; rintro e w8 ⟨u8, rfl, hown, hb⟩; rw [ov0] at hown; obtain ⟨a8, c8, hsh⟩ := own_shape hown; subst hsh; have B8 : Hid (Below w2.heap.size w2 w8) := B7.out.trans (hb.mono B7.out.size); clear hb hown)
      refine hK.out _ _ ?_
      clear hK K
      repeat (first | (refine wpT_pure rfl (fun K hK => ?_); go_simp; refine hK _ ?_; clear hK K) | (refine wpT_held rfl (fun K hK => ?_); go_simp; refine hK _ ?_; clear hK K))
      refine wpT_last rfl (fun K hK => ?_)
      go_wp2_with fail
      have B9 : Hid (Below w2.heap.size w2 (w8.alloc (.cells (ca (0, fun _ => 0)) 40))) := B8.out.alloc B8.out.size _
      have C9 : Hid (Cps (w8.alloc (.cells (ca (0, fun _ => 0)) 40)) (.slice (some ⟨w8.heap.size, 0, none⟩) 1 1) [(0, fun _ => 0)]) := cps_one (Whole.new w8 _ 40)
      refine hK.out _ _ ?_
      clear hK K
      have hover : Hid (∀ (vc : Value) (w : World), Cps w vc [(0, fun _ => 0)] → Calls Try.prog 15 #[.slice none 0 0, vc] w (fun e w' => ∃ a c, e = .returned (.slice a 0 c) ∧ Below w.heap.size w w')) := fun vc w hc => by
        refine (over_any [] [(0, fun _ => 0)] (by simp) (by simp) _ vc w (Sl.nil w) hc).mono ?_
        rintro e w' ⟨u, rfl, hown, hb⟩
        rw [overL_len] at hown
        obtain ⟨a, c, rfl⟩ := own_shape hown
        exact ⟨a, c, rfl, hb⟩
      refine wpT_last rfl (fun K hK => ?_)
      go_wp2_with (go_at_call 15; refine (hover.out _ _ C9.out).mono ?_; rintro e wa ⟨aa, ca', rfl, hb⟩; have BA : Hid (Below w2.heap.size w2 wa) := B9.out.trans (hb.mono B9.out.size); clear hb)
      refine hK.out _ _ ?_
      clear hK K
      repeat (first | (refine wpT_pure rfl (fun K hK => ?_); go_simp; refine hK _ ?_; clear hK K) | (refine wpT_held rfl (fun K hK => ?_); go_simp; refine hK _ ?_; clear hK K))
      refine wpT_done ?_
      go_wp2_with fail
      go_ret
      exact ⟨rfl, B2.out.trans (BA.out.mono B2.out.size)⟩
end Go.Proofs.Ytdeeegodiacjgaa
