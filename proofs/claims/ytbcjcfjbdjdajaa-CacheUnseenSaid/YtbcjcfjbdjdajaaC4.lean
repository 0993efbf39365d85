/- The cache's Write, Back, Drop, Pin, walked. The disk's power doesn't go. -/
import Derived.Test.YtbcjcfjbdjdajaaC3
import Derived.Maps.OwnSet
namespace Go.Proofs.Ytbcjcfjbdjdajaa
open Go.RowKit
attribute [local go_sem ↓] loadAtB storeAtB loadAtH storeAtH buildAtH buildAtB
attribute [local irreducible] ha
def cWrite (C : Ck) (b : Int) (x : Blk) : Ck := if cRef C b = 0 then { C with has := updD C.has b (x, true) } else C
set_option maxRecDepth 100000 in
set_option maxHeartbeats 1000000 in
theorem write_c {W : World} {c : Cf} {vw : Value} {C : Ck} (b : Int) (x : Blk) (h : CAt W c vw C) :
    Calls Try.prog 24 #[.pointer (some ⟨c.rc, 0, none⟩), .int .i64 b, .agg (blk x)] W (fun e w' => e = .returned (.int .i64 (cRef C b)) ∧ CS c vw W vw w' (cWrite C b x)) := by
  have H := Lib.hid (h.later ((Below.refl _ _).alloc (Nat.le_refl _) (.cells (blk x) 32)))
  have h0 := Lib.hid h
  have hbb : Hid (Below W.heap.size W (W.alloc (.cells (blk x) 32))) := (Below.refl _ _).alloc (Nat.le_refl _) _
  have hwh := Lib.hid (Whole.new W (blk x) 32)
  have hcall := Lib.hid (refuse_c b H.out)
  clear h
  by_cases hr : cRef C b = 0
  · have hrd : Hid (cWrite C b x = { C with has := updD C.has b (x, true) }) := by unfold cWrite Hid; rw [if_pos hr]
    rw [hrd.out]
    rw [hr] at hcall ⊢
    clear hr hrd
    obtain ⟨wa, hwa⟩ : ∃ wa, wa = W.alloc (.cells (blk x) 32) := ⟨_, rfl⟩
    go_enter Try.func24, Try.ntmps24
    go_wp2_with (go_at_call 38; refine hcall.out.mono ?_; rintro e w1 ⟨rfl, rfl⟩)
    rw [← hwa] at H hbb hwh ⊢
    obtain ⟨_, k1, _⟩ := H.out.cells
    have hrc := H.out.obj.lt
    have f0 : ∀ p : Kept (fun w' => Below wa.heap.size wa w'), p.x.cell? ⟨c.rc, 1, none⟩ = some (.map (some c.hm)) := fun p => (World.cell?_of_block (p.h.block _ hrc)).trans k1
    have f1 : ∀ p : Kept (fun w' => Below wa.heap.size wa w'), (bigLoadAt 32 (.pointer (some ⟨W.heap.size, 0, none⟩))).run Try.prog p.x = .ok (.agg (blk x)) p.x := fun p => ldRow (hwh.out.later p.h)
    have hne : Nonempty (Kept (fun w' => Below wa.heap.size wa w')) := ⟨⟨wa, Below.refl _ _⟩⟩
    have hbl := run_buildH1 x true
    have Hd := Lib.hid (H.out.later (Below.refl _ _).drew)
    refine wp_region_plan (fun w' => Below wa.heap.size wa w') [(0, 0), (0, 1), (0, 2), (1, 3), (0, 4), (1, 5), (0, 6), (3, 7)] (by kernel_rfl) (by kernel_rfl) (Below.refl _ _).drew ?_
    repeat (first | (refine wpPlan_pure rfl (fun K hK => ?_); go_simp; refine hK _ ?_; clear hK K) | (refine wpPlan_held rfl (fun K hK => ?_); go_simp; refine hK _ ?_; clear hK K))
    refine wpPlan_last rfl (fun K hK => ?_)
    go_wp2_with (at_mapUpdate; refine wpl_updateD (f := hval) Try.underlying3 rfl _ _ _ 55 rfl 78 Try.underlying55 _ c.hm C.has b (x, true) rfl rfl rfl Hd.out.has ?_; intro w5 hm5 hc5; have T5 := Lib.hid (Hd.out.turnHas hm5 hc5); clear hm5 hc5)
    refine hK.out _ _ ?_
    clear hK K
    refine wpPlan_nil ?_
    clear f0 f1 hne
    go_wp2_with fail
    go_ret
    exact ⟨rfl, ((CS.refl h0.out).later hbb.out.drew).trans T5.out⟩
  · have hrd : Hid (cWrite C b x = C) := by unfold cWrite Hid; rw [if_neg hr]
    rw [hrd.out]
    have h2 := cRef_out hr
    rw [h2] at hcall ⊢
    clear hr h2
    go_enter Try.func24, Try.ntmps24
    go_wp2_with (go_at_call 38; refine hcall.out.mono ?_; rintro e w1 ⟨rfl, rfl⟩)
    go_ret
    exact ⟨rfl, (CS.refl h0.out).later hbb.out⟩
def pinned (C : Ck) (b : Int) : Bool := (lookD C.pin b).getD false
theorem pinned_val (C : Ck) (b : Int) : ((lookD C.pin b).map pval).getD (pval false) = .bool (pinned C b) := by
  unfold pinned
  cases lookD C.pin b <;> rfl
def cDrop (C : Ck) (b : Int) : Int × Ck := if cRef C b = 0 then if pinned C b then (110, C) else (0, { C with has := delD C.has b }) else (2, C)
set_option maxRecDepth 100000 in
set_option maxHeartbeats 1000000 in
theorem drop_c {W : World} {c : Cf} {vw : Value} {C : Ck} (b : Int) (h : CAt W c vw C) :
    Calls Try.prog 20 #[.pointer (some ⟨c.rc, 0, none⟩), .int .i64 b] W (fun e w' => e = .returned (.int .i64 (cDrop C b).1) ∧ CS c vw W vw w' (cDrop C b).2) := by
  have H := Lib.hid h
  have hcall := Lib.hid (refuse_c b h)
  obtain ⟨_, k1, k2⟩ := h.cells
  clear h
  by_cases hr : cRef C b = 0
  · rw [hr] at hcall
    by_cases hp : pinned C b = true
    · have hrd : Hid (cDrop C b = (110, C)) := by unfold cDrop Hid; rw [if_pos hr, if_pos hp]
      rw [hrd.out]
      clear hr hrd
      replace hp := Lib.hid hp
      go_enter Try.func20, Try.ntmps20
      go_wp2_with (first
        | (go_at_call 38; refine hcall.out.mono ?_; rintro e w1 ⟨rfl, rfl⟩)
        | (at_lookup; refine wpl_lookG (f := pval) Try.underlying3 rfl _ _ 56 rfl 4 Try.underlying56 run_zeroBool _ c.pm C.pin b rfl rfl H.out.pin (.bool true) (by rw [pinned_val, hp.out]) ?_))
      go_ret
      exact ⟨rfl, CS.refl H.out⟩
    · have hrd : Hid (cDrop C b = (0, { C with has := delD C.has b })) := by unfold cDrop Hid; rw [if_pos hr, if_neg hp]
      rw [hrd.out]
      have hp' : Hid (pinned C b = false) := Lib.hid (by simpa using hp)
      clear hr hrd hp
      go_enter Try.func20, Try.ntmps20
      go_wp2_with (first
        | (go_at_call 38; refine hcall.out.mono ?_; rintro e w1 ⟨rfl, rfl⟩)
        | (at_lookup; refine wpl_lookG (f := pval) Try.underlying3 rfl _ _ 56 rfl 4 Try.underlying56 run_zeroBool _ c.pm C.pin b rfl rfl H.out.pin (.bool false) (by rw [pinned_val, hp'.out]) ?_)
        | (at_delete; refine wpl_deleteD (f := hval) Try.underlying3 rfl _ _ 55 3 rfl 78 Try.underlying55 _ c.hm C.has b rfl rfl H.out.has ?_; intro w5 hm5 hc5; have T5 := Lib.hid (H.out.turnHas hm5 hc5); clear hm5 hc5))
      go_ret
      exact ⟨rfl, T5.out⟩
  · have hrd : Hid (cDrop C b = (2, C)) := by unfold cDrop Hid; rw [if_neg hr]
    rw [hrd.out]
    have h2 := cRef_out hr
    rw [h2] at hcall
    clear hr h2
    go_enter Try.func20, Try.ntmps20
    go_wp2_with (go_at_call 38; refine hcall.out.mono ?_; rintro e w1 ⟨rfl, rfl⟩)
    go_ret
    exact ⟨rfl, CS.refl H.out⟩
def cPin (C : Ck) (b : Int) (on : Bool) : Ck := if cRef C b = 0 then if on then { C with pin := updD C.pin b true } else { C with pin := delD C.pin b } else C
set_option maxRecDepth 100000 in
set_option maxHeartbeats 1000000 in
theorem pin_c {W : World} {c : Cf} {vw : Value} {C : Ck} (b : Int) (on : Bool) (h : CAt W c vw C) :
    Calls Try.prog 19 #[.pointer (some ⟨c.rc, 0, none⟩), .int .i64 b, .bool on] W (fun e w' => e = .returned (.tuple #[]) ∧ CS c vw W vw w' (cPin C b on)) := by
  have H := Lib.hid h
  have hcall := Lib.hid (refuse_c b h)
  obtain ⟨_, k1, k2⟩ := h.cells
  clear h
  by_cases hr : cRef C b = 0
  · rw [hr] at hcall
    cases on with
    | true =>
      have hrd : Hid (cPin C b true = { C with pin := updD C.pin b true }) := by unfold cPin Hid; rw [if_pos hr, if_pos rfl]
      rw [hrd.out]
      clear hr hrd
      go_enter Try.func19, Try.ntmps19
      go_wp2_with (first
        | (go_at_call 38; refine hcall.out.mono ?_; rintro e w1 ⟨rfl, rfl⟩)
        | (at_mapUpdate; refine wpl_updateD (f := pval) Try.underlying3 rfl _ _ _ 56 rfl 4 Try.underlying56 _ c.pm C.pin b true rfl rfl rfl H.out.pin ?_; intro w5 hm5 hc5; have T5 := Lib.hid (H.out.turnPin hm5 hc5); clear hm5 hc5))
      refine bodyPost_end (results_none rfl _ _ _) rfl ⟨rfl, T5.out⟩
    | false =>
      have hrd : Hid (cPin C b false = { C with pin := delD C.pin b }) := by unfold cPin Hid; rw [if_pos hr]; rfl
      rw [hrd.out]
      clear hr hrd
      go_enter Try.func19, Try.ntmps19
      go_wp2_with (first
        | (go_at_call 38; refine hcall.out.mono ?_; rintro e w1 ⟨rfl, rfl⟩)
        | (at_delete; refine wpl_deleteD (f := pval) Try.underlying3 rfl _ _ 56 3 rfl 4 Try.underlying56 _ c.pm C.pin b rfl rfl H.out.pin ?_; intro w5 hm5 hc5; have T5 := Lib.hid (H.out.turnPin hm5 hc5); clear hm5 hc5))
      refine bodyPost_end (results_none rfl _ _ _) rfl ⟨rfl, T5.out⟩
  · have hrd : Hid (cPin C b on = C) := by unfold cPin Hid; rw [if_neg hr]
    rw [hrd.out]
    have h2 := cRef_out hr
    rw [h2] at hcall
    clear hr h2
    go_enter Try.func19, Try.ntmps19
    go_wp2_with (go_at_call 38; refine hcall.out.mono ?_; rintro e w1 ⟨rfl, rfl⟩)
    refine bodyPost_end (results_none rfl _ _ _) rfl ⟨rfl, CS.refl H.out⟩
def backD (C : Ck) (b : Int) (x : Blk) : Ck := { D := dWrite C.D b x, has := updD C.has b (x, false), pin := C.pin }
def cBack (C : Ck) (b : Int) : Ck := if cRef C b = 0 then match lookD C.has b with
    | some (x, true) => backD C b x
    | _ => C
  else C
theorem held_val (C : Ck) (b : Int) {h : Hd} (hh : (lookD C.has b).getD zH = h) : ((lookD C.has b).map hval).getD (hval zH) = .agg (ha h) := by
  subst hh
  cases lookD C.has b <;> rfl
set_option maxRecDepth 100000 in
set_option maxHeartbeats 2000000 in
theorem back_c {W : World} {c : Cf} {vw : Value} {C : Ck} (b : Int) (hl : C.D.left = -1) (ha1 : C.D.acts < 1000000000) (hf : C.D.wait.length < 1000000) (h : CAt W c vw C) :
    Calls Try.prog 25 #[.pointer (some ⟨c.rc, 0, none⟩), .int .i64 b] W (fun e w' => e = .returned (.int .i64 (cRef C b)) ∧ ∃ vw', CS c vw W vw' w' (cBack C b)) := by
  have H := Lib.hid h
  have hcall := Lib.hid (refuse_c b h)
  obtain ⟨k0, k1, _⟩ := h.cells
  have hlh := Lib.hid hl
  have hzh := zcH
  clear h hl
  by_cases hr : cRef C b = 0
  · have hR := Lib.hid hr
    rw [hr] at hcall ⊢
    obtain ⟨hd, hhd⟩ : ∃ hd, Hid ((lookD C.has b).getD zH = hd) := ⟨_, rfl⟩
    have st78 := stHnew W zH hd
    have X2 := Lib.hid (Whole.new W (ha hd) 78)
    have cd := cellHd X2.out
    have H2 := Lib.hid (H.out.later ((Below.refl _ _).alloc (Nat.le_refl _) (.cells (ha hd) 78)))
    have hbb : Hid (Below W.heap.size W (W.alloc (.cells (ha hd) 78))) := (Below.refl _ _).alloc (Nat.le_refl _) _
    obtain ⟨x, dt⟩ := hd
    cases dt with
    | false =>
      have hrd : Hid (cBack C b = C) := by
        unfold cBack Hid
        rw [if_pos hr]
        have := hhd.out
        cases hlk : lookD C.has b with
        | none => rfl
        | some y => rw [hlk] at this; obtain ⟨y1, y2⟩ := y; simp at this; rw [this.2]
      rw [hrd.out]
      clear hr hrd
      go_enter Try.func25, Try.ntmps25
      go_wp2_with (first
        | (go_at_call 38; refine hcall.out.mono ?_; rintro e w1 ⟨rfl, rfl⟩)
        | (at_lookup; refine wpl_lookV (f := hval) Try.underlying3 rfl _ _ 55 rfl 78 Try.underlying55 run_zeroH _ c.hm C.has b rfl rfl H.out.has (.agg (ha (x, false))) (held_val C b hhd.out) ?_))
      go_ret
      exact ⟨rfl, vw, (CS.refl H.out).later hbb.out⟩
    | true =>
      have hrd : Hid (cBack C b = backD C b x) := by
        unfold cBack Hid
        rw [if_pos hr]
        have := hhd.out
        cases hlk : lookD C.has b with
        | none => rw [hlk] at this; simp [zH] at this
        | some y => rw [hlk] at this; simp at this; subst this; rfl
      rw [hrd.out]
      have hd0 := Lib.hid (dRef_live hlh.out hr)
      have hwrite := Lib.hid (fun (w : World) (hw : CAt w c vw C) => write_at b x ha1 hf hw.disk)
      unfold DPost at hwrite
      rw [hd0.out] at hwrite
      clear hr hrd ha1 hf
      obtain ⟨wa, hwa⟩ : ∃ wa, wa = W.alloc (.cells (ha (x, true)) 78) := ⟨_, rfl⟩
      go_enter Try.func25, Try.ntmps25
      go_wp2_with (first
        | (go_at_call 38; refine hcall.out.mono ?_; rintro e w1 ⟨rfl, rfl⟩)
        | (at_lookup; refine wpl_lookV (f := hval) Try.underlying3 rfl _ _ 55 rfl 78 Try.underlying55 run_zeroH _ c.hm C.has b rfl rfl H.out.has (.agg (ha (x, true))) (held_val C b hhd.out) ?_))
      rw [← hwa] at H2 hbb X2 ⊢
      clear hwa
      obtain ⟨k0', _, _⟩ := H2.out.cells
      have hrc := H2.out.obj.lt
      have hxl := X2.out.lt
      have f0 : ∀ p : Kept (fun w' => Below wa.heap.size wa w'), p.x.cell? ⟨c.rc, 0, none⟩ = some (.pointer (some ⟨c.r, 0, none⟩)) := fun p => (World.cell?_of_block (p.h.block _ hrc)).trans k0'
      have f1 : ∀ p : Kept (fun w' => Below wa.heap.size wa w'), (bigLoadAt 32 (.pointer (some ⟨w1.heap.size, 0, none⟩))).run Try.prog p.x = .ok (.agg (blk x)) p.x := fun p => ldHb (h := (x, true)) (X2.out.later p.h)
      have hne : Nonempty (Kept (fun w' => Below wa.heap.size wa w')) := ⟨⟨wa, Below.refl _ _⟩⟩
      have Hd := Lib.hid (H2.out.later (Below.refl _ _).drew)
      have hlt1 := H.out.lt
      have hrc1 := H.out.obj.lt
      refine wp_region_plan (fun w' => Below wa.heap.size wa w') [(0, 0), (0, 1), (0, 2), (1, 3), (0, 4), (0, 5), (1, 6), (3, 7), (0, 8)] (by kernel_rfl) (by kernel_rfl) (Below.refl _ _).drew ?_
      repeat (first | (refine wpPlan_pure rfl (fun K hK => ?_); go_simp; refine hK _ ?_; clear hK K) | (refine wpPlan_held rfl (fun K hK => ?_); go_simp; refine hK _ ?_; clear hK K))
      refine wpPlan_last rfl (fun K hK => ?_)
      go_wp2_with (go_at_call 40; refine (hwrite.out _ Hd.out).mono ?_; rintro e w5 ⟨vw5, rfl, hd5, hc5, ho5⟩; have T5 := Lib.hid (Hd.out.turnDisk hd5 hc5 ho5); have Y5 := Lib.hid ((X2.out.later (Below.refl _ _).drew).ch hc5 (fun f => by have := (hlt1 _ (.inl f)).2; omega)); clear hd5 hc5 ho5)
      refine hK.out _ _ ?_
      clear hK K
      refine wpPlan_pure rfl (fun K hK => ?_)
      go_simp
      refine hK _ ?_
      clear hK K
      refine wpPlan_nil ?_
      clear f0 f1 hne
      go_wp2_with fail
      obtain ⟨_, k5, _⟩ := T5.out.at_.cells
      have hrc5 := T5.out.at_.obj.lt
      have hx5 := Y5.out.lt
      have f0 : ∀ p : Kept (fun w' => Below w5.heap.size w5 w'), p.x.cell? ⟨c.rc, 1, none⟩ = some (.map (some c.hm)) := fun p => (World.cell?_of_block (p.h.block _ hrc5)).trans k5
      have f1 : ∀ p : Kept (fun w' => Below w5.heap.size w5 w'), (bigLoadAt 32 (.pointer (some ⟨w1.heap.size, 0, none⟩))).run Try.prog p.x = .ok (.agg (blk x)) p.x := fun p => ldHb (h := (x, true)) (Y5.out.later p.h)
      have hne : Nonempty (Kept (fun w' => Below w5.heap.size w5 w')) := ⟨⟨w5, Below.refl _ _⟩⟩
      have Hd5 := Lib.hid (T5.out.at_.later (Below.refl _ _).drew)
      have hbl := run_buildH0 x
      refine wp_region_plan (fun w' => Below w5.heap.size w5 w') [(0, 0), (0, 1), (0, 2), (1, 3), (0, 4), (0, 5), (1, 6), (0, 7), (3, 8)] (by kernel_rfl) (by kernel_rfl) (Below.refl _ _).drew ?_
      repeat (first | (refine wpPlan_pure rfl (fun K hK => ?_); go_simp; refine hK _ ?_; clear hK K) | (refine wpPlan_held rfl (fun K hK => ?_); go_simp; refine hK _ ?_; clear hK K))
      refine wpPlan_last rfl (fun K hK => ?_)
      go_wp2_with (at_mapUpdate; refine wpl_updateD (f := hval) Try.underlying3 rfl _ _ _ 55 rfl 78 Try.underlying55 _ c.hm C.has b (x, false) rfl rfl rfl Hd5.out.has ?_; intro w6 hm6 hc6; have T6 := Lib.hid (Hd5.out.turnHas hm6 hc6); clear hm6 hc6)
      refine hK.out _ _ ?_
      clear hK K
      refine wpPlan_nil ?_
      clear f0 f1 hne
      go_wp2_with fail
      go_ret
      exact ⟨rfl, vw5, (((CS.refl H.out).later hbb.out.drew).trans (T5.out.later (Below.refl _ _).drew)).trans T6.out⟩
  · have hrd : Hid (cBack C b = C) := by unfold cBack Hid; rw [if_neg hr]
    rw [hrd.out]
    have h2 := cRef_out hr
    rw [h2] at hcall ⊢
    clear hr h2
    go_enter Try.func25, Try.ntmps25
    go_wp2_with (go_at_call 38; refine hcall.out.mono ?_; rintro e w1 ⟨rfl, rfl⟩)
    go_ret
    exact ⟨rfl, vw, CS.refl H.out⟩
end Go.Proofs.Ytbcjcfjbdjdajaa
