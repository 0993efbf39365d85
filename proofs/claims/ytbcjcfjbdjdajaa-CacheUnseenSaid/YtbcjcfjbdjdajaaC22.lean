/- quernlaw11.CacheUnseen, walked. -/
import Derived.Test.YtbcjcfjbdjdajaaC21
import Derived.Deep.CutRange
import Derived.Deep.CutBlock
namespace Go.Proofs.Ytbcjcfjbdjdajaa
open Go.RowKit
attribute [local go_sem ↓] loadAtB storeAtB loadAtH storeAtH loadAtA storeAtA
attribute [local irreducible] aa
set_option maxRecDepth 100000 in
theorem unseen_away (n : Int) (l : List Ax) (v : Value) (w : World) (h : Axs w v l) (hno : n < 1 ∨ 64 < n ∨ 200 < l.length) : Calls Try.prog 8 #[.int .i64 n, v] w (BPost (.bool true) w) := by
  obtain ⟨ao, cap, rfl, hc1, hc2, _⟩ := h.ex
  clear h
  by_cases h1 : n < 1
  · go_enter Try.func8, Try.ntmps8
    go_wp2_with (go_at_call 27; refine (awake_any w).mono ?_; rintro e w9 ⟨rfl, hb⟩; have B9 := Lib.hid hb; clear hb)
    go_ret
    exact ⟨rfl, B9.out⟩
  · by_cases h2 : 64 < n
    · go_enter Try.func8, Try.ntmps8
      go_wp2_with (go_at_call 27; refine (awake_any w).mono ?_; rintro e w9 ⟨rfl, hb⟩; have B9 := Lib.hid hb; clear hb)
      go_ret
      exact ⟨rfl, B9.out⟩
    · have h3 : 200 < l.length := by omega
      have d1 : decide (200 < l.length) = true := by simpa using h3
      have d2 : decide ((200 : Int) < (l.length : Int)) = true := by simp; omega
      go_enter Try.func8, Try.ntmps8
      go_wp2_with (go_at_call 27; refine (awake_any w).mono ?_; rintro e w9 ⟨rfl, hb⟩; have B9 := Lib.hid hb; clear hb)
      go_ret
      exact ⟨rfl, B9.out⟩
set_option maxRecDepth 100000 in
set_option maxHeartbeats 4000000 in
theorem unseen_walk (N : Nat) (hN1 : 1 ≤ N) (hN2 : N ≤ 64) (l : List Ax) (hl : l.length ≤ 200) (hok : OkAx l) (v : Value) (w : World) (h : Axs w v l) : Calls Try.prog 8 #[.int .i64 (N : Int), v] w (BPost (.bool true) w) := by
  have H := Lib.hid h
  obtain ⟨ao, cap, rfl, hc1, hc2, _⟩ := h.ex
  unfold maxLen at hc2
  clear h
  have hokH := Lib.hid hok
  clear hok
  have d0 : decide ((N : Int) < 1) = false := by simp; omega
  have d0' : decide ((64 : Int) < (N : Int)) = false := by simp; omega
  have d0n : decide (64 < N) = false := by simp; omega
  have d1 : decide (200 < l.length) = false := by simpa using hl
  have d2 : decide ((200 : Int) < (l.length : Int)) = false := by simp; omega
  have hnew := Lib.hid (new_any N hN1 (by omega))
  have hzl : Hid ((zeros N).length = N) := List.length_replicate
  go_enter Try.func8, Try.ntmps8
  go_wp2_with (first
    | (go_at_call 28; refine (hnew.out _).mono ?_; rintro e w2 ⟨r, gs, gn, rfl, hd, hb⟩; have D2 := Lib.hid hd; have B2 := Lib.hid hb; clear hd hb)
    | (go_at_call 21; refine (newc_ex D2.out).mono ?_; rintro e w3 ⟨c, rfl, hr, hcb, hca, hb⟩; have C3 := Lib.hid hca; have B3 := Lib.hid (B2.out.trans (hb.mono B2.out.size)); have Hcb := Lib.hid hcb; clear hcb; subst hr; clear hca hb)
    | (refine wpl_makeB rfl _ _ rfl N rfl rfl (by omega) ?_; intro w4 ho4 hb4; have O4 := Lib.hid ho4; have C4 := Lib.hid (C3.out.later hb4); have B4 := Lib.hid (B3.out.trans (hb4.mono B3.out.size)); have L4 := Lib.hid C3.out.lt; have R4 := Lib.hid C3.out.obj.lt; clear ho4 hb4))
  obtain ⟨g, hg⟩ : ∃ g, w3.heap.size = g := ⟨_, rfl⟩
  rw [hg] at O4 ⊢
  have S0 : Hid (US w.heap.size w N c (.slice none 0 0) g (zeros N) 0 (newC (newD (zeros N))) w4) := by
    refine ⟨⟨C4.out, own_mono O4.out (by rw [← hg]; exact B3.out.size), B4.out, B4.out.size, Nat.le_of_eq Hcb.out.symm, fun k hk => ?_⟩, inv_new hN1 (by omega), sy_new _⟩
    rcases hk with hk | hk
    · have := (L4.out k hk).2; omega
    · have := R4.out; omega
  clear O4 C3 C4 D2 B2 B3 B4 L4 R4 Hcb hg hnew d0 d0' d0n d1 d2
  go_loopw [10] (fun v10 W => ∃ i vw m C, v10 = .int .i64 (i : Nat) ∧ i ≤ l.length ∧ US w.heap.size w N c vw g m (70 * i) C W) (fun v10 _ => (l.length - intOf v10).toNat)
  case atStart => exact ⟨0, _, _, _, rfl, by omega, S0.out⟩
  case round =>
    obtain ⟨i, vw, m, C, rfl, hi, hS⟩ := hrel
    have SH := Lib.hid hS
    clear hS S0
    by_cases hin : i < l.length
    · obtain ⟨gl, off, rfl, _, _, hgl, hat⟩ := Sl.at H.out axc_len (by omega) hin
      obtain ⟨⟨k, b, f, kv⟩, hx⟩ : ∃ x, l[i]? = some x := ⟨_, List.getElem?_eq_getElem hin⟩
      have hokx := Lib.hid (hokH.out _ (List.mem_of_getElem? hx))
      have ld0 := ldA (rangeAt_block (hat i _ hx) (SH.out.q.bel.block _ hgl))
      have st0 := stA0 wr _ hokx.out.2.2.2
      clear hat hx
      go_upto_region 14 with fail
      have SA : Hid (US w.heap.size w N c vw g m (70 * i) C (wr.alloc (.cells (aa (k, b, f, kv)) 49))) := SH.out.later ((Below.refl _ _).alloc (Nat.le_refl _) _)
      have hcell : Hid (∀ W, Below (wr.alloc (.cells (aa (k, b, f, kv)) 49)).heap.size (wr.alloc (.cells (aa (k, b, f, kv)) 49)) W → W.cell? ⟨wr.heap.size, 0, none⟩ = some (.int .u8 (k : Int)) ∧ W.cell? ⟨wr.heap.size, 1, none⟩ = some (.int .i64 b) ∧ W.cell? ⟨wr.heap.size, 2, none⟩ = some (.int .u32 (f : Int))) := fun W hb =>
        ⟨((Whole.new wr (aa (k, b, f, kv)) 49).later hb).cell 0 |>.trans (aa0 _), ((Whole.new wr (aa (k, b, f, kv)) 49).later hb).cell 1 |>.trans (aa1 _), ((Whole.new wr (aa (k, b, f, kv)) 49).later hb).cell 2 |>.trans (aa2 _)⟩
      have hfar : Hid (∀ q, CFoot c vw q ∨ q = g → q ≠ wr.heap.size) := fun q hq => by rcases hq with hq | rfl; have := (SH.out.q.at_.lt q hq).2; omega; have := (SH.out.q.row.lt q rfl).2; omega
      have hga : Hid (wr.heap.size < (wr.alloc (.cells (aa (k, b, f, kv)) 49)).heap.size) := by unfold Hid; simp
      clear SH ld0 st0
      generalize wr.alloc (.cells (aa (k, b, f, kv)) 49) = wa at SA hcell hga ⊢
      generalize wr.heap.size = ga at hcell hfar hga ⊢
      obtain ⟨ca, cb, cf⟩ := hcell.out wa (Below.refl _ _)
      obtain ⟨t, ht⟩ : ∃ t : Int, (k : Int).tmod 12 = t := ⟨_, rfl⟩
      have ht2 : (k : Int) % 12 = t := by rw [← ht, Int.tmod_eq_emod_of_nonneg (by omega)]
      have ht3 : 0 ≤ t ∧ t < 12 := by omega
      have ht4 : IntKind.u8.wrap t = t := IntWalk.u8_in _ (by omega)
      have hf := Lib.hid hokx.out.2.1
      have hiH : Hid (i ≤ 200) := by unfold Hid; omega
      go_upto_block 2 with fail
      go_cut [] from 54 to 119 (fun wx => ∃ vw m C, US w.heap.size w N c vw g m (70 * i + 66) C wx)
      case first =>
        clear ht ht2 ht4
        have iv := Lib.hid SA.out.inv
        rcases (show t = 0 ∨ t = 1 ∨ t = 2 ∨ t = 3 ∨ t = 4 ∨ t = 5 ∨ t = 6 ∨ t = 7 ∨ t = 8 ∨ t = 9 ∨ t = 10 ∨ t = 11 by omega) with rfl | rfl | rfl | rfl | rfl | rfl | rfl | rfl | rfl | rfl | rfl | rfl
        · by_cases hb : 0 ≤ b ∧ b < (N : Int)
          · obtain ⟨q, rfl⟩ : ∃ q : Nat, b = q := ⟨b.toNat, by omega⟩
            have hqN : q < N := by omega
            have hr0 : Hid (cRef C (q : Int) = 0) := iv.out.ref0.2 hb
            go_upto_region 17 with fail
            have f1 : ∀ p : Kept (fun w' => Below wa.heap.size wa w'), p.x.cell? ⟨ga, 1, none⟩ = some (.int .i64 (q : Int)) := fun p => (hcell.out _ p.h).2.1
            have f2 : ∀ p : Kept (fun w' => Below wa.heap.size wa w'), p.x.cell? ⟨ga, 2, none⟩ = some (.int .u32 (f : Int)) := fun p => (hcell.out _ p.h).2.2
            have hne : Nonempty (Kept (fun w' => Below wa.heap.size wa w')) := ⟨⟨wa, Below.refl _ _⟩⟩
            refine wp_region_plan (fun w' => Below wa.heap.size wa w') [(0, 0), (0, 1), (1, 2), (0, 3), (1, 4), (2, 5), (3, 6), (0, 7)] (by kernel_rfl) (by kernel_rfl) (Below.refl _ _).drew ?_
            repeat (first | (refine wpPlan_pure rfl (fun K hK => ?_); go_simp; refine hK _ ?_; clear hK K) | (refine wpPlan_held rfl (fun K hK => ?_); go_simp; refine hK _ ?_; clear hK K))
            refine wpPlan_turn rfl (fun K hK => ?_)
            go_wp2_with (go_at_call 29; refine (fill_any f hf.out _).mono ?_; rintro e w5 ⟨rfl, hb5⟩; have BN : Hid (Below wa.heap.size wa w5) := ((Below.refl _ _).drew).trans hb5; clear hb5)
            refine hK.out _ _ BN.out ?_
            clear hK K f1 f2 hne
            have S5 := Lib.hid (SA.out.later BN.out)
            refine wpPlan_last rfl (fun K hK => ?_)
            go_wp2_with (go_at_call 24; refine (write_c (q : Int) (tellB f) S5.out.q.at_).mono ?_; rintro e w6 ⟨rfl, hs6⟩; rw [hr0.out]; have Q6 := Lib.hid (S5.out.q.cache hs6); have C6 := Lib.hid hs6.ch; clear hs6)
            refine hK.out _ _ ?_
            clear hK K
            repeat (first | (refine wpPlan_pure rfl (fun K hK => ?_); go_simp; refine hK _ ?_; clear hK K))
            refine wpPlan_nil ?_
            have hlt5 : Hid (ga < w5.heap.size) := Nat.lt_of_lt_of_le hga.out BN.out.size
            have hblk6 : Hid (∀ W, Below w6.heap.size w6 W → W.heap[ga]? = w5.heap[ga]?) := fun W hb => (hb.block _ (Nat.lt_of_lt_of_le hlt5.out C6.out.size)).trans (C6.out.block ga hlt5.out (fun hq => hfar.out _ (.inl hq) rfl))
            go_upto_region 19 with fail
            have f3 : ∀ p : Kept (fun w' => Below w6.heap.size w6 w'), p.x.cell? ⟨ga, 1, none⟩ = some (.int .i64 (q : Int)) := fun p => (World.cell?_of_block (hblk6.out _ p.h)).trans (hcell.out _ BN.out).2.1
            have f4 : ∀ p : Kept (fun w' => Below w6.heap.size w6 w'), p.x.cell? ⟨ga, 2, none⟩ = some (.int .u32 (f : Int)) := fun p => (World.cell?_of_block (hblk6.out _ p.h)).trans (hcell.out _ BN.out).2.2
            have hne : Nonempty (Kept (fun w' => Below w6.heap.size w6 w')) := ⟨⟨w6, Below.refl _ _⟩⟩
            refine wp_region_plan (fun w' => Below w6.heap.size w6 w') [(0, 0), (0, 1), (1, 2), (0, 3), (1, 4), (2, 5), (0, 6), (3, 7)] (by kernel_rfl) (by kernel_rfl) (Below.refl _ _).drew ?_
            repeat (first | (refine wpPlan_pure rfl (fun K hK => ?_); go_simp; refine hK _ ?_; clear hK K) | (refine wpPlan_held rfl (fun K hK => ?_); go_simp; refine hK _ ?_; clear hK K))
            refine wpPlan_turn rfl (fun K hK => ?_)
            go_wp2_with (go_at_call 29; refine (fill_any f hf.out _).mono ?_; rintro e w7 ⟨rfl, hb7⟩; have B7 : Hid (Below w6.heap.size w6 w7) := ((Below.refl _ _).drew).trans hb7; clear hb7)
            refine hK.out _ _ B7.out ?_
            clear hK K
            have Q7 := Lib.hid (Q6.out.later B7.out)
            repeat (first | (refine wpPlan_pure rfl (fun K hK => ?_); go_simp; refine hK _ ?_; clear hK K))
            have st7 := stB (W := w7) (g := g) (o := q * 256) (tellB f) (own_there Q7.out.row _ _ (by omega))
            have P7 := Lib.hid (Q7.out.put iv.out.mlen hqN (tellB f))
            refine wpPlan_last rfl (fun K hK => ?_)
            clear f3 f4 hne
            go_wp2_with fail
            refine hK.out _ _ ?_
            clear hK K
            refine wpPlan_nil ?_
            go_wp2_with fail
            go_meet
            exact ⟨_, _, _, P7.out, (inv_write iv.out hqN _).more (by omega), by rw [cWrite_D]; exact SA.out.sy⟩
          · have hr0 : Hid (cRef C b = 2) := by unfold Hid; rw [iv.out.ref b, if_pos (by omega)]
            have hcw : Hid (cWrite C b (tellB f) = C) := by have := hr0.out; unfold Hid; unfold cWrite; rw [if_neg (by omega)]
            go_upto_region 17 with fail
            have f1 : ∀ p : Kept (fun w' => Below wa.heap.size wa w'), p.x.cell? ⟨ga, 1, none⟩ = some (.int .i64 b) := fun p => (hcell.out _ p.h).2.1
            have f2 : ∀ p : Kept (fun w' => Below wa.heap.size wa w'), p.x.cell? ⟨ga, 2, none⟩ = some (.int .u32 (f : Int)) := fun p => (hcell.out _ p.h).2.2
            have hne : Nonempty (Kept (fun w' => Below wa.heap.size wa w')) := ⟨⟨wa, Below.refl _ _⟩⟩
            refine wp_region_plan (fun w' => Below wa.heap.size wa w') [(0, 0), (0, 1), (1, 2), (0, 3), (1, 4), (2, 5), (3, 6), (0, 7)] (by kernel_rfl) (by kernel_rfl) (Below.refl _ _).drew ?_
            repeat (first | (refine wpPlan_pure rfl (fun K hK => ?_); go_simp; refine hK _ ?_; clear hK K) | (refine wpPlan_held rfl (fun K hK => ?_); go_simp; refine hK _ ?_; clear hK K))
            refine wpPlan_turn rfl (fun K hK => ?_)
            go_wp2_with (go_at_call 29; refine (fill_any f hf.out _).mono ?_; rintro e w5 ⟨rfl, hb5⟩; have BN : Hid (Below wa.heap.size wa w5) := ((Below.refl _ _).drew).trans hb5; clear hb5)
            refine hK.out _ _ BN.out ?_
            clear hK K f1 f2 hne
            have S5 := Lib.hid (SA.out.later BN.out)
            refine wpPlan_last rfl (fun K hK => ?_)
            go_wp2_with (go_at_call 24; refine (write_c b (tellB f) S5.out.q.at_).mono ?_; rintro e w6 ⟨rfl, hs6⟩; rw [hr0.out]; have Q6 := Lib.hid (S5.out.q.cache hs6); clear hs6)
            refine hK.out _ _ ?_
            clear hK K
            repeat (first | (refine wpPlan_pure rfl (fun K hK => ?_); go_simp; refine hK _ ?_; clear hK K))
            refine wpPlan_nil ?_
            go_wp2_with fail
            go_meet
            exact ⟨_, _, _, by have := Q6.out; rw [hcw.out] at this; exact this, iv.out.more (by omega), SA.out.sy⟩
        · by_cases hb : 0 ≤ b ∧ b < (N : Int)
          · obtain ⟨q, rfl⟩ : ∃ q : Nat, b = q := ⟨b.toNat, by omega⟩
            have hqN : q < N := by omega
            have hr0 : Hid (cRef C (q : Int) = 0) := iv.out.ref0.2 hb
            go_upto_region 17 with fail
            have f1 : ∀ p : Kept (fun w' => Below wa.heap.size wa w'), p.x.cell? ⟨ga, 1, none⟩ = some (.int .i64 (q : Int)) := fun p => (hcell.out _ p.h).2.1
            have f2 : ∀ p : Kept (fun w' => Below wa.heap.size wa w'), p.x.cell? ⟨ga, 2, none⟩ = some (.int .u32 (f : Int)) := fun p => (hcell.out _ p.h).2.2
            have hne : Nonempty (Kept (fun w' => Below wa.heap.size wa w')) := ⟨⟨wa, Below.refl _ _⟩⟩
            refine wp_region_plan (fun w' => Below wa.heap.size wa w') [(0, 0), (0, 1), (1, 2), (0, 3), (1, 4), (2, 5), (3, 6), (0, 7)] (by kernel_rfl) (by kernel_rfl) (Below.refl _ _).drew ?_
            repeat (first | (refine wpPlan_pure rfl (fun K hK => ?_); go_simp; refine hK _ ?_; clear hK K) | (refine wpPlan_held rfl (fun K hK => ?_); go_simp; refine hK _ ?_; clear hK K))
            refine wpPlan_turn rfl (fun K hK => ?_)
            go_wp2_with (go_at_call 29; refine (fill_any f hf.out _).mono ?_; rintro e w5 ⟨rfl, hb5⟩; have BN : Hid (Below wa.heap.size wa w5) := ((Below.refl _ _).drew).trans hb5; clear hb5)
            refine hK.out _ _ BN.out ?_
            clear hK K f1 f2 hne
            have S5 := Lib.hid (SA.out.later BN.out)
            refine wpPlan_last rfl (fun K hK => ?_)
            go_wp2_with (go_at_call 24; refine (write_c (q : Int) (tellB f) S5.out.q.at_).mono ?_; rintro e w6 ⟨rfl, hs6⟩; rw [hr0.out]; have Q6 := Lib.hid (S5.out.q.cache hs6); have C6 := Lib.hid hs6.ch; clear hs6)
            refine hK.out _ _ ?_
            clear hK K
            repeat (first | (refine wpPlan_pure rfl (fun K hK => ?_); go_simp; refine hK _ ?_; clear hK K))
            refine wpPlan_nil ?_
            have hlt5 : Hid (ga < w5.heap.size) := Nat.lt_of_lt_of_le hga.out BN.out.size
            have hblk6 : Hid (∀ W, Below w6.heap.size w6 W → W.heap[ga]? = w5.heap[ga]?) := fun W hb => (hb.block _ (Nat.lt_of_lt_of_le hlt5.out C6.out.size)).trans (C6.out.block ga hlt5.out (fun hq => hfar.out _ (.inl hq) rfl))
            go_upto_region 19 with fail
            have f3 : ∀ p : Kept (fun w' => Below w6.heap.size w6 w'), p.x.cell? ⟨ga, 1, none⟩ = some (.int .i64 (q : Int)) := fun p => (World.cell?_of_block (hblk6.out _ p.h)).trans (hcell.out _ BN.out).2.1
            have f4 : ∀ p : Kept (fun w' => Below w6.heap.size w6 w'), p.x.cell? ⟨ga, 2, none⟩ = some (.int .u32 (f : Int)) := fun p => (World.cell?_of_block (hblk6.out _ p.h)).trans (hcell.out _ BN.out).2.2
            have hne : Nonempty (Kept (fun w' => Below w6.heap.size w6 w')) := ⟨⟨w6, Below.refl _ _⟩⟩
            refine wp_region_plan (fun w' => Below w6.heap.size w6 w') [(0, 0), (0, 1), (1, 2), (0, 3), (1, 4), (2, 5), (0, 6), (3, 7)] (by kernel_rfl) (by kernel_rfl) (Below.refl _ _).drew ?_
            repeat (first | (refine wpPlan_pure rfl (fun K hK => ?_); go_simp; refine hK _ ?_; clear hK K) | (refine wpPlan_held rfl (fun K hK => ?_); go_simp; refine hK _ ?_; clear hK K))
            refine wpPlan_turn rfl (fun K hK => ?_)
            go_wp2_with (go_at_call 29; refine (fill_any f hf.out _).mono ?_; rintro e w7 ⟨rfl, hb7⟩; have B7 : Hid (Below w6.heap.size w6 w7) := ((Below.refl _ _).drew).trans hb7; clear hb7)
            refine hK.out _ _ B7.out ?_
            clear hK K
            have Q7 := Lib.hid (Q6.out.later B7.out)
            repeat (first | (refine wpPlan_pure rfl (fun K hK => ?_); go_simp; refine hK _ ?_; clear hK K))
            have st7 := stB (W := w7) (g := g) (o := q * 256) (tellB f) (own_there Q7.out.row _ _ (by omega))
            have P7 := Lib.hid (Q7.out.put iv.out.mlen hqN (tellB f))
            refine wpPlan_last rfl (fun K hK => ?_)
            clear f3 f4 hne
            go_wp2_with fail
            refine hK.out _ _ ?_
            clear hK K
            refine wpPlan_nil ?_
            go_wp2_with fail
            go_meet
            exact ⟨_, _, _, P7.out, (inv_write iv.out hqN _).more (by omega), by rw [cWrite_D]; exact SA.out.sy⟩
          · have hr0 : Hid (cRef C b = 2) := by unfold Hid; rw [iv.out.ref b, if_pos (by omega)]
            have hcw : Hid (cWrite C b (tellB f) = C) := by have := hr0.out; unfold Hid; unfold cWrite; rw [if_neg (by omega)]
            go_upto_region 17 with fail
            have f1 : ∀ p : Kept (fun w' => Below wa.heap.size wa w'), p.x.cell? ⟨ga, 1, none⟩ = some (.int .i64 b) := fun p => (hcell.out _ p.h).2.1
            have f2 : ∀ p : Kept (fun w' => Below wa.heap.size wa w'), p.x.cell? ⟨ga, 2, none⟩ = some (.int .u32 (f : Int)) := fun p => (hcell.out _ p.h).2.2
            have hne : Nonempty (Kept (fun w' => Below wa.heap.size wa w')) := ⟨⟨wa, Below.refl _ _⟩⟩
            refine wp_region_plan (fun w' => Below wa.heap.size wa w') [(0, 0), (0, 1), (1, 2), (0, 3), (1, 4), (2, 5), (3, 6), (0, 7)] (by kernel_rfl) (by kernel_rfl) (Below.refl _ _).drew ?_
            repeat (first | (refine wpPlan_pure rfl (fun K hK => ?_); go_simp; refine hK _ ?_; clear hK K) | (refine wpPlan_held rfl (fun K hK => ?_); go_simp; refine hK _ ?_; clear hK K))
            refine wpPlan_turn rfl (fun K hK => ?_)
            go_wp2_with (go_at_call 29; refine (fill_any f hf.out _).mono ?_; rintro e w5 ⟨rfl, hb5⟩; have BN : Hid (Below wa.heap.size wa w5) := ((Below.refl _ _).drew).trans hb5; clear hb5)
            refine hK.out _ _ BN.out ?_
            clear hK K f1 f2 hne
            have S5 := Lib.hid (SA.out.later BN.out)
            refine wpPlan_last rfl (fun K hK => ?_)
            go_wp2_with (go_at_call 24; refine (write_c b (tellB f) S5.out.q.at_).mono ?_; rintro e w6 ⟨rfl, hs6⟩; rw [hr0.out]; have Q6 := Lib.hid (S5.out.q.cache hs6); clear hs6)
            refine hK.out _ _ ?_
            clear hK K
            repeat (first | (refine wpPlan_pure rfl (fun K hK => ?_); go_simp; refine hK _ ?_; clear hK K))
            refine wpPlan_nil ?_
            go_wp2_with fail
            go_meet
            exact ⟨_, _, _, by have := Q6.out; rw [hcw.out] at this; exact this, iv.out.more (by omega), SA.out.sy⟩
        · go_wp2_with (go_at_call 18; refine (read_c b iv.out.left SA.out.q.at_).mono ?_; rintro e w5 ⟨rfl, hs5⟩; have Q5 := Lib.hid (SA.out.q.cache hs5); clear hs5)
          go_meet
          exact ⟨_, _, _, Q5.out, (inv_readA iv.out b).more (by omega), by rw [cRead_D]; exact SA.out.sy⟩
        · go_wp2_with (go_at_call 25; refine (back_c b iv.out.left (by have := iv.out.acts; have := hiH.out; omega) (by have := iv.out.wait; have := hiH.out; omega) SA.out.q.at_).mono ?_; rintro e w5 ⟨rfl, vw5, hs5⟩; have Q5 := Lib.hid (SA.out.q.cache hs5); clear hs5)
          go_meet
          exact ⟨_, _, _, Q5.out, (inv_back iv.out b).more (by omega), sy_back SA.out.sy _⟩
        · go_wp2_with fail
          go_meet
          exact ⟨_, _, _, SA.out.q, iv.out.more (by omega), SA.out.sy⟩
        · go_wp2_with (go_at_call 19; refine (pin_c b true SA.out.q.at_).mono ?_; rintro e w5 ⟨rfl, hs5⟩; have Q5 := Lib.hid (SA.out.q.cache hs5); clear hs5)
          go_meet
          exact ⟨_, _, _, Q5.out, (inv_pin iv.out b true).more (by omega), by rw [cPin_D]; exact SA.out.sy⟩
        · go_wp2_with (go_at_call 19; refine (pin_c b false SA.out.q.at_).mono ?_; rintro e w5 ⟨rfl, hs5⟩; have Q5 := Lib.hid (SA.out.q.cache hs5); clear hs5)
          go_meet
          exact ⟨_, _, _, Q5.out, (inv_pin iv.out b false).more (by omega), by rw [cPin_D]; exact SA.out.sy⟩
        · go_wp2_with (go_at_call 15; refine (wb_c b iv.out.left (by have := iv.out.acts; have := hiH.out; omega) (by have := iv.out.wait; have := hiH.out; omega) (iv.out.wf (by omega)) (by have := iv.out.hasl; have := hiH.out; omega) SA.out.q.at_).mono ?_; rintro e w5 ⟨rfl, vw5, hs5⟩; have Q5 := Lib.hid (SA.out.q.cache hs5); clear hs5)
          go_meet
          exact ⟨_, _, _, Q5.out, (inv_wb iv.out b).more (by omega), sy_wb SA.out.sy _⟩
        · go_wp2_with (go_at_call 22; refine (ev_c b (iv.out.wf (by omega)) (by have := iv.out.hasl; have := hiH.out; omega) SA.out.q.at_).mono ?_; rintro e w5 ⟨rfl, hs5⟩; have Q5 := Lib.hid (SA.out.q.cache hs5); clear hs5)
          go_meet
          exact ⟨_, _, _, Q5.out, (inv_ev iv.out b).more (by omega), by rw [cEv_D]; exact SA.out.sy⟩
        · go_wp2_with (go_at_call 26; refine (sync_c iv.out.left (by have := iv.out.acts; have := hiH.out; omega) (by have := iv.out.wait; have := hiH.out; omega) (iv.out.wf (by omega)) (by have := iv.out.hasl; have := hiH.out; omega) (dirty_ref iv.out) SA.out.q.at_).mono ?_; rintro e w5 ⟨rfl, vw5, hs5⟩; have Q5 := Lib.hid (SA.out.q.cache hs5); clear hs5)
          go_meet
          exact ⟨_, _, _, Q5.out, (inv_sync iv.out hN2).more (by omega), sy_sync SA.out.sy⟩
        · go_wp2_with fail
          go_meet
          exact ⟨_, _, _, SA.out.q, iv.out.more (by omega), SA.out.sy⟩
        · go_wp2_with fail
          go_meet
          exact ⟨_, _, _, SA.out.q, iv.out.more (by omega), SA.out.sy⟩
      case rest =>
        obtain ⟨vw', m', C', hS'⟩ := hcut
        have SC := Lib.hid hS'
        clear hS' SA hcell hfar hga ca cb cf ht ht2 ht4 hf
        have wi : IntKind.i64.wrap ((i : Int) + 1) = (i : Int) + 1 := IntWalk.i64_in _ (by omega)
        obtain ⟨s, hs⟩ : ∃ s : Int, (i : Int).tmod 9 = s := ⟨_, rfl⟩
        have hs2 : (i : Int) % 9 = s := by rw [← hs, Int.tmod_eq_emod_of_nonneg (by omega)]
        have hs3 : 0 ≤ s ∧ s < 9 := by omega
        have hs4 : IntKind.i64.wrap s = s := IntWalk.i64_in _ (by omega)
        have hs5 : wrap64 s = s := by rw [← IntWalk.i64_left]; exact hs4
        by_cases h0 : s = 0
        · subst h0
          obtain ⟨q, hq⟩ : ∃ q, Hid (i % N = q) := ⟨_, rfl⟩
          have hqN : q < N := by rw [← hq.out]; exact Nat.mod_lt _ (by omega)
          have eq1 : (i : Int).tmod (N : Int) = (q : Int) := by rw [Int.tmod_eq_emod_of_nonneg (by omega), ← hq.out]; simp
          have wq : IntKind.i64.wrap (q : Int) = (q : Int) := IntWalk.i64_in _ (by omega)
          have wq5 : wrap64 (q : Int) = (q : Int) := by rw [← IntWalk.i64_left]; exact wq
          have iv := Lib.hid SC.out.inv
          have hr0 : Hid (cRef C' (q : Int) = 0) := iv.out.ref0.2 ⟨Int.natCast_nonneg q, Int.ofNat_lt.2 hqN⟩
          obtain ⟨x, hxx⟩ : ∃ x, Hid (m'.getD q zB = x) := ⟨_, rfl⟩
          have hri := Lib.hid (inv_read iv.out hqN)
          have hrd := Lib.hid (read_c (q : Int) iv.out.left SC.out.q.at_)
          rw [hri.out.1, hxx.out, hr0.out] at hrd
          have hmq : m'[q]? = some x := by
            have := hxx.out
            rw [List.getD_eq_getElem?_getD, List.getElem?_eq_getElem (by rw [iv.out.mlen]; exact hqN)] at this
            rw [List.getElem?_eq_getElem (by rw [iv.out.mlen]; exact hqN)]
            simpa using this
          replace hmq := Lib.hid hmq
          have hz : Try.zeroCells32 = blk fun _ => 0 := zcB
          have hq0 : ∀ w, (binOp .neq 32 (.agg (blk x)) (.agg (blk x))).run Try.prog w = .ok (.bool false) w := fun w => by rw [neqB, blkEq_refl]; rfl
          go_wp2_with (go_at_call 18; refine hrd.out.mono ?_; rintro e w5 ⟨rfl, hs5⟩; have Q5 := Lib.hid (SC.out.q.cache hs5); have st5 := stRow x (Whole.new w5 (blk fun _ => 0) 32); clear hs5)
          obtain ⟨wb, hwb⟩ : ∃ wb, wb = (w5.alloc (.cells (blk fun _ => 0) 32)).setRow w5.heap.size (blk x) := ⟨_, rfl⟩
          have hba : Hid (Below w5.heap.size w5 wb) := by subst hwb; exact below_setRow' ((Below.refl _ _).alloc (Nat.le_refl _) _) (Nat.le_refl _) _
          have Xa : Hid (Whole wb w5.heap.size (blk x) 32) := by subst hwb; exact (Whole.new w5 _ 32).setRow _
          rw [← hwb]
          clear hwb st5
          have Qa := Lib.hid (Q5.out.later hba.out)
          have hra : wb.rangeAt g (q * 256) (bc x) := by
            have := rangeAt_sub (own_range Qa.out.row) (k := q * 256) (ys := bc x) fun j v hv => by
              rw [flat_get bc_len hmq.out j (by have := (List.getElem?_eq_some_iff.1 hv).1; rw [bc_len] at this; exact this)]; exact hv
            rw [Nat.zero_add] at this
            exact this
          have hgb := (Qa.out.row.lt g rfl).2
          have f0 : ∀ p : Kept (fun w' => Below wb.heap.size wb w'), (bigLoadAt 32 (.pointer (some ⟨w5.heap.size, 0, none⟩))).run Try.prog p.x = .ok (.agg (blk x)) p.x := fun p => ldRow (Xa.out.later p.h)
          have f1 : ∀ p : Kept (fun w' => Below wb.heap.size wb w'), (bigLoadAt 32 (.pointer (some ⟨g, q * 256, none⟩))).run Try.prog p.x = .ok (.agg (blk x)) p.x := fun p => ldB (rangeAt_block hra (p.h.block _ hgb))
          have hne : Nonempty (Kept (fun w' => Below wb.heap.size wb w')) := ⟨⟨wb, Below.refl _ _⟩⟩
          clear hra
          have hz0 : ((N : Int) == 0) = false := by simp; omega
          have hz1 : ¬ ((N : Int) = 0) := by omega
          have hz2 : decide ((N : Int) = 0) = false := by simp; omega
          have hz3 : ¬ (N = 0) := by omega
          refine wp_region_plan (fun w' => Below wb.heap.size wb w') [(0, 0), (0, 1), (0, 2), (1, 3), (0, 4), (0, 5), (0, 6), (0, 7), (0, 8), (1, 9), (0, 10), (0, 11)] (by kernel_rfl) (by kernel_rfl) (Below.refl _ _).drew ?_
          repeat (first | (refine wpPlan_pure rfl (fun K hK => ?_); go_simp; refine hK _ ?_; clear hK K) | (refine wpPlan_held rfl (fun K hK => ?_); go_simp; refine hK _ ?_; clear hK K))
          refine wpPlan_nil ?_
          clear f0 f1 hne
          go_wp2_with fail
          go_roundw
          case rel =>
            exact ⟨i + 1, _, _, _, rfl, by omega, Qa.out.later (Below.refl _ _).drew, hri.out.2.more (by omega), by rw [cRead_D]; exact SC.out.sy⟩
          all_goals (simp [intOf]; omega)
        · have h0b : (s == 0) = false := by simpa using h0
          have h0d : decide (s = 0) = false := by simpa using h0
          go_wp2_with fail
          go_roundw
          case rel =>
            exact ⟨i + 1, _, _, _, rfl, by omega, SC.out.more (by omega)⟩
          all_goals (simp [intOf]; omega)
    · obtain rfl : i = l.length := by omega
      have SE := Lib.hid SH.out
      clear SH
      have iv := Lib.hid SE.out.inv
      have hsy := Lib.hid (sync_c iv.out.left (by have := iv.out.acts; omega) (by have := iv.out.wait; omega) (iv.out.wf (by omega)) (by have := iv.out.hasl; omega) (dirty_ref iv.out) SE.out.q.at_)
      have P := Lib.hid (sync_plain iv.out SE.out.sy hN2 hN1)
      have ivS := Lib.hid (inv_sync iv.out hN2)
      generalize cSync C = D at hsy P ivS
      have hwf := Lib.hid (ivS.out.wf (by omega))
      have hln : Hid (D.has.length ≤ 1000000) := by have := ivS.out.hasl; unfold Hid; omega
      have hsl : Hid (D.D.safe.length = N) := P.out.len
      go_wp2_with (first
        | (go_at_call 26; refine hsy.out.mono ?_; rintro e w5 ⟨rfl, vw5, hs5⟩; have Q5 := Lib.hid (SE.out.q.cache hs5); clear hs5)
        | (go_at_call 30; refine (safe_at Q5.out.at_.disk).mono ?_; rintro e w6 ⟨sv, rfl, ho, hb⟩; rw [hsl.out] at ho; obtain ⟨a6, k6, rfl, hk61, hk62, _⟩ := (Sl.own ho).ex; unfold maxLen at hk62; have O6 := Lib.hid ho; have Q6 := Lib.hid (Q5.out.later hb); have Z6 := Lib.hid Q5.out.lt; clear ho hb)
        | (go_at_call 10; refine (dirty_c hwf.out (by have := hln.out; omega) Q6.out.at_).mono ?_; rintro e w7 ⟨a7, k7, rfl, ho, hb⟩; have O7 := Lib.hid (own_later O6.out hb); have Q7 := Lib.hid (Q6.out.later hb); clear ho hb; rw [P.out.dirty])
        | (go_at_call 31; refine (waiting_at Q7.out.at_.disk).mono ?_; rintro e w8 ⟨rfl, e8⟩; have e8H := Lib.hid e8; subst e8; rw [P.out.wait]))
      obtain ⟨g6, rfl, _, _, _⟩ := own_head O7.out (by omega)
      have F8 : Hid (Below w.heap.size w w8 ∧ w.heap.size ≤ w8.heap.size) := ⟨Q7.out.bel, Q7.out.lt⟩
      have V8 : Hid (∀ q, CFoot c vw5 q ∨ q = c.rc → q ≠ g6) := fun q hq => by
        have h1 := (O6.out.lt g6 rfl).1
        rcases hq with hq | rfl
        · have := (Q5.out.at_.lt q hq).2; omega
        · have := Q5.out.at_.obj.lt; omega
      have U8 : Hid (RQ w.heap.size w N c vw5 g m D w8) := Q7.out
      have hsafe := Lib.hid P.out.safe
      have O8 := Lib.hid O7.out
      clear hsy Q5 Q6 Q7 O6 O7 iv SE
      go_loopw [17] (fun v17 W => ∃ i C, v17 = .int .i64 (i : Nat) ∧ i ≤ N ∧ RQ w.heap.size w N c vw5 g m C W ∧ Inv N m (70 * l.length + 65 + i) C ∧ W.ownsRow w5.heap.size 32 256 (.slice (some ⟨g6, 0, none⟩) N k6) N (flat bc D.D.safe)) (fun v17 _ => (N - intOf v17).toNat)
      case atStart => exact ⟨0, D, rfl, by omega, U8.out, ivS.out, O8.out⟩
      case round =>
        obtain ⟨i, C1, rfl, hi1, hQ, hI, hO⟩ := hrel
        have QH := Lib.hid hQ
        have IH := Lib.hid hI
        have OH := Lib.hid hO
        clear hQ hI hO U8 O8
        by_cases hin : i < N
        · have hr0 : Hid (cRef C1 (i : Int) = 0) := IH.out.ref0.2 ⟨Int.natCast_nonneg i, Int.ofNat_lt.2 hin⟩
          obtain ⟨x, hxx⟩ : ∃ x, Hid (m.getD i zB = x) := ⟨_, rfl⟩
          have hri := Lib.hid (inv_read IH.out hin)
          have hrd := Lib.hid (read_c (i : Int) IH.out.left QH.out.at_)
          rw [hri.out.1, hxx.out, hr0.out] at hrd
          have hmq : Hid (m[i]? = some x) := by
            have := hxx.out
            unfold Hid
            rw [List.getD_eq_getElem?_getD, List.getElem?_eq_getElem (by rw [IH.out.mlen]; exact hin)] at this
            rw [List.getElem?_eq_getElem (by rw [IH.out.mlen]; exact hin)]
            simpa using this
          have hsq : Hid (D.D.safe[i]? = some x) := by
            have := (hsafe.out i hin).trans hxx.out
            unfold Hid
            rw [List.getD_eq_getElem?_getD, List.getElem?_eq_getElem (by rw [hsl.out]; exact hin)] at this
            rw [List.getElem?_eq_getElem (by rw [hsl.out]; exact hin)]
            simpa using this
          have hz : Try.zeroCells32 = blk fun _ => 0 := zcB
          have wi : IntKind.i64.wrap ((i : Int) + 1) = (i : Int) + 1 := IntWalk.i64_in _ (by omega)
          have hq0 : ∀ w, (binOp .neq 32 (.agg (blk x)) (.agg (blk x))).run Try.prog w = .ok (.bool false) w := fun w => by rw [neqB, blkEq_refl]; rfl
          go_wp2_with (go_at_call 18; refine hrd.out.mono ?_; rintro e w9 ⟨rfl, hs9⟩; have Q9 := Lib.hid (QH.out.cache hs9); have O9 := Lib.hid (own_ch OH.out hs9.ch (fun q hq f => by cases hq; exact V8.out _ (.inl f) rfl)); have st9 := stRow x (Whole.new w9 (blk fun _ => 0) 32); clear hs9)
          obtain ⟨wb, hwb⟩ : ∃ wb, wb = (w9.alloc (.cells (blk fun _ => 0) 32)).setRow w9.heap.size (blk x) := ⟨_, rfl⟩
          have hba : Hid (Below w9.heap.size w9 wb) := by subst hwb; exact below_setRow' ((Below.refl _ _).alloc (Nat.le_refl _) _) (Nat.le_refl _) _
          have Xa : Hid (Whole wb w9.heap.size (blk x) 32) := by subst hwb; exact (Whole.new w9 _ 32).setRow _
          rw [← hwb]
          clear hwb st9
          have Qa := Lib.hid (Q9.out.later hba.out)
          have Oa := Lib.hid (own_later O9.out hba.out)
          have hra : wb.rangeAt g (i * 256) (bc x) := by
            have := rangeAt_sub (own_range Qa.out.row) (k := i * 256) (ys := bc x) fun j v hv => by
              rw [flat_get bc_len hmq.out j (by have := (List.getElem?_eq_some_iff.1 hv).1; rw [bc_len] at this; exact this)]; exact hv
            rw [Nat.zero_add] at this
            exact this
          have hrs : wb.rangeAt g6 (i * 256) (bc x) := by
            have := rangeAt_sub (own_range Oa.out) (k := i * 256) (ys := bc x) fun j v hv => by
              rw [flat_get bc_len hsq.out j (by have := (List.getElem?_eq_some_iff.1 hv).1; rw [bc_len] at this; exact this)]; exact hv
            rw [Nat.zero_add] at this
            exact this
          have hgb := (Qa.out.row.lt g rfl).2
          have hgs := (Oa.out.lt g6 rfl).2
          have f0 : ∀ p : Kept (fun w' => Below wb.heap.size wb w'), (bigLoadAt 32 (.pointer (some ⟨w9.heap.size, 0, none⟩))).run Try.prog p.x = .ok (.agg (blk x)) p.x := fun p => ldRow (Xa.out.later p.h)
          have f1 : ∀ p : Kept (fun w' => Below wb.heap.size wb w'), (bigLoadAt 32 (.pointer (some ⟨g, i * 256, none⟩))).run Try.prog p.x = .ok (.agg (blk x)) p.x := fun p => ldB (rangeAt_block hra (p.h.block _ hgb))
          have f2 : ∀ p : Kept (fun w' => Below wb.heap.size wb w'), (bigLoadAt 32 (.pointer (some ⟨g6, i * 256, none⟩))).run Try.prog p.x = .ok (.agg (blk x)) p.x := fun p => ldB (rangeAt_block hrs (p.h.block _ hgs))
          have hne : Nonempty (Kept (fun w' => Below wb.heap.size wb w')) := ⟨⟨wb, Below.refl _ _⟩⟩
          clear hra hrs
          refine wp_region_plan (fun w' => Below wb.heap.size wb w') [(0, 0), (0, 1), (0, 2), (1, 3), (0, 4), (0, 5), (0, 6), (1, 7), (0, 8), (0, 9), (0, 10), (0, 11), (0, 12), (0, 13), (1, 14), (0, 15), (0, 16), (0, 17), (1, 18), (0, 19), (0, 20)] (by kernel_rfl) (by kernel_rfl) (Below.refl _ _).drew ?_
          repeat (first | (refine wpPlan_pure rfl (fun K hK => ?_); go_simp; refine hK _ ?_; clear hK K) | (refine wpPlan_held rfl (fun K hK => ?_); go_simp; refine hK _ ?_; clear hK K))
          refine wpPlan_nil ?_
          clear f0 f1 f2 hne
          go_wp2_with fail
          exact ⟨⟨i + 1, _, rfl, by omega, Qa.out.later (Below.refl _ _).drew, hri.out.2, own_later Oa.out (Below.refl _ _).drew⟩, by simp [intOf]; omega⟩
        · obtain rfl : i = N := by omega
          go_wp2_with (go_at_call 27; refine (awake_any wr).mono ?_; rintro e w9 ⟨rfl, hb⟩; have B9 := Lib.hid (QH.out.bel.trans (hb.mono QH.out.lt)); clear hb)
          go_ret
          exact ⟨rfl, B9.out⟩
theorem cacheUnseen_any (n : Int) (l : List Ax) (hok : OkAx l) (v : Value) (w : World) (h : Axs w v l) : Calls Try.prog 8 #[.int .i64 n, v] w (BPost (.bool true) w) := by
  by_cases hno : n < 1 ∨ 64 < n ∨ 200 < l.length
  · exact unseen_away n l v w h hno
  · obtain ⟨N, rfl⟩ : ∃ N : Nat, n = N := ⟨n.toNat, by omega⟩
    exact unseen_walk N (by omega) (by omega) l (by omega) hok v w h
end Go.Proofs.Ytbcjcfjbdjdajaa
