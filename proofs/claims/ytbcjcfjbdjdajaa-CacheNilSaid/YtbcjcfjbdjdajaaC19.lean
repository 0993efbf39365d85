/- quernlaw11.CacheNil, walked. -/
import Derived.Test.YtbcjcfjbdjdajaaC17
import Derived.Test.YtbcjcfjbdjdajaaC18
namespace Go.Proofs.Ytbcjcfjbdjdajaa
open Go.RowKit
attribute [local go_sem ↓] loadAtB storeAtB loadAtH storeAtH buildAtB
set_option maxRecDepth 100000 in
set_option maxHeartbeats 4000000 in
theorem cacheNil_any (k b f : Int) (kv : Value) (w : World) : Calls Try.prog 7 #[.agg #[.int .u8 k, .int .i64 b, .int .u32 f, kv]] w (BPost (.bool true) w) := by
  obtain ⟨A, hA⟩ : ∃ A, A = (#[.int .u8 k, .int .i64 b, .int .u32 f, kv] : Array Value) := ⟨_, rfl⟩
  have hZ : ((w.alloc (.cells #[.int .u8 k, .int .i64 b, .int .u32 f, kv] 49)).alloc (.cells #[.slice none 0 0, .slice none 0 0, .slice none 0 0, .int .i64 0, .int .i64 0] 54)).cell? ⟨w.heap.size + 1, 0, none⟩ = some (.slice none 0 0) := by
    have := (Whole.new (w.alloc (.cells #[.int .u8 k, .int .i64 b, .int .u32 f, kv] 49)) #[.slice none 0 0, .slice none 0 0, .slice none 0 0, .int .i64 0, .int .i64 0] 54).cell 0
    rw [show (w.alloc (.cells #[.int .u8 k, .int .i64 b, .int .u32 f, kv] 49)).heap.size = w.heap.size + 1 by simp] at this
    exact this
  replace hZ := Lib.hid hZ
  have tok : True := trivial
  go_enter Try.func7, Try.ntmps7
  go_wp2_with (first
    | (go_at_call 21; clear tok; refine (newc_nil _).mono ?_; rintro e w1 ⟨rfl, rfl⟩)
    | (go_at_call 21; refine (newc_zero hZ.out).mono ?_; rintro e w2 ⟨rfl, rfl⟩))
  obtain ⟨w3, hw3⟩ : ∃ w3, w3 = ((((w.alloc (.cells #[.int .u8 k, .int .i64 b, .int .u32 f, kv] 49)).alloc (.cells #[.slice none 0 0, .slice none 0 0, .slice none 0 0, .int .i64 0, .int .i64 0] 54)).alloc (.cells #[.pointer none, .map none, .map none] 58)).alloc (.cells #[.pointer none, .pointer (some ⟨w.heap.size + 1 + 1, 0, none⟩)] 23)) := ⟨_, rfl⟩
  have hB3 : Hid (Below w.heap.size w w3) := by subst hw3; exact ((((Below.refl _ _).alloc (Nat.le_refl _) _).alloc (by simp) _).alloc (by simp; omega) _).alloc (by simp; omega) _
  have W0 : Hid (Whole w3 w.heap.size #[.int .u8 k, .int .i64 b, .int .u32 f, kv] 49) := by subst hw3; exact (((Whole.new w _ 49).alloc _).alloc _).alloc _
  have W2 : Hid (Whole w3 (w.heap.size + 1 + 1) #[.pointer none, .map none, .map none] 58) := by
    subst hw3
    have := Whole.new ((w.alloc (.cells #[.int .u8 k, .int .i64 b, .int .u32 f, kv] 49)).alloc (.cells #[.slice none 0 0, .slice none 0 0, .slice none 0 0, .int .i64 0, .int .i64 0] 54)) #[.pointer none, .map none, .map none] 58
    rw [show ((w.alloc (.cells #[.int .u8 k, .int .i64 b, .int .u32 f, kv] 49)).alloc (.cells #[.slice none 0 0, .slice none 0 0, .slice none 0 0, .int .i64 0, .int .i64 0] 54)).heap.size = w.heap.size + 1 + 1 by simp] at this
    exact this.alloc _
  have W3 : Hid (Whole w3 (w.heap.size + 1 + 1 + 1) #[.pointer none, .pointer (some ⟨w.heap.size + 1 + 1, 0, none⟩)] 23) := by
    subst hw3
    have := Whole.new (((w.alloc (.cells #[.int .u8 k, .int .i64 b, .int .u32 f, kv] 49)).alloc (.cells #[.slice none 0 0, .slice none 0 0, .slice none 0 0, .int .i64 0, .int .i64 0] 54)).alloc (.cells #[.pointer none, .map none, .map none] 58)) #[.pointer none, .pointer (some ⟨w.heap.size + 1 + 1, 0, none⟩)] 23
    rw [show (((w.alloc (.cells #[.int .u8 k, .int .i64 b, .int .u32 f, kv] 49)).alloc (.cells #[.slice none 0 0, .slice none 0 0, .slice none 0 0, .int .i64 0, .int .i64 0] 54)).alloc (.cells #[.pointer none, .map none, .map none] 58)).heap.size = w.heap.size + 1 + 1 + 1 by simp] at this
    exact this
  have hcells : Hid (∀ W, Below w3.heap.size w3 W → W.cell? ⟨w.heap.size, 1, none⟩ = some (.int .i64 b) ∧ W.cell? ⟨w.heap.size + 1 + 1 + 1, 0, none⟩ = some (.pointer none) ∧ W.cell? ⟨w.heap.size + 1 + 1 + 1, 1, none⟩ = some (.pointer (some ⟨w.heap.size + 1 + 1, 0, none⟩))) := fun W hb =>
    ⟨(W0.out.later hb).cell 1, (W3.out.later hb).cell 0, (W3.out.later hb).cell 1⟩
  rw [← hw3]
  clear hw3 hZ hA
  have hz : Try.zeroCells32 = blk zB := zcB
  have hbd : ∀ w, (bigBuild 32 #[]).run Try.prog w = .ok (.agg (blk zB)) w := run_buildB0
  have hnq : ∀ w, (binOp .neq 32 (.agg (blk zB)) (.agg (blk zB))).run Try.prog w = .ok (.bool false) w := fun w => by rw [neqB, blkEq_refl]; rfl
  go_loopw [10] (fun v10 W => ∃ i, v10 = .int .i64 (i : Nat) ∧ i ≤ 2 ∧ Below w3.heap.size w3 W) (fun v10 _ => (2 - intOf v10).toNat)
  case atStart => exact ⟨0, rfl, by omega, Below.refl _ _⟩
  case round =>
    obtain ⟨i, rfl, hi, hB⟩ := hrel
    have BH := Lib.hid hB
    clear hB
    rcases (show i = 0 ∨ i = 1 ∨ i = 2 by omega) with rfl | rfl | rfl
    · skip
      have NC : Hid (∀ W, Below w3.heap.size w3 W → NoC W (.pointer none)) := fun W hb => .inl rfl
      obtain ⟨ca, cl0, cl1⟩ := hcells.out wr BH.out
      go_wp2_with (first
        | (go_at_call 18; refine (read_no _ b wr (NC.out _ BH.out)).mono ?_; rintro e w4 ⟨rfl, hb⟩; have B4 := Lib.hid (BH.out.trans (hb.mono BH.out.size)); clear hb; have st4 := stRow zB (Whole.new w4 (blk zB) 32); have Y4 := Lib.hid ((Whole.new w4 (blk zB) 32).setRow (blk zB)); have L4 : Hid (Below w4.heap.size w4 ((w4.alloc (.cells (blk zB) 32)).setRow w4.heap.size (blk zB))) := below_setRow' ((Below.refl _ _).alloc (Nat.le_refl _) _) (Nat.le_refl _) _; obtain ⟨da, dl0, dl1⟩ := hcells.out _ (B4.out.trans (L4.out.mono B4.out.size)))
        | (go_at_call 19; generalize hwa : (w4.alloc (.cells (blk zB) 32)).setRow w4.heap.size (blk zB) = wa at Y4 L4 da dl0 dl1 ⊢; clear st4 hwa; have B5 := Lib.hid (B4.out.trans (L4.out.mono B4.out.size)); refine (pin_no _ b true wa (NC.out _ B5.out)).mono ?_; rintro e w6 ⟨rfl, e6⟩; have e6H := Lib.hid e6; subst e6)
        | (go_at_call 15; refine (wb_no _ b w6 (NC.out _ B5.out)).mono ?_; rintro e w7 ⟨rfl, e7⟩; have e7H := Lib.hid e7; subst e7)
        | (go_at_call 22; refine (ev_no _ b w7 (NC.out _ B5.out)).mono ?_; rintro e w8 ⟨rfl, hb⟩; have B8 := Lib.hid (B5.out.trans (hb.mono B5.out.size)); have Y8 := Lib.hid (Y4.out.later hb); clear hb da dl0 dl1; have ld8 := ldRow Y8.out; obtain ⟨fa, fl0, fl1⟩ := hcells.out _ B8.out)
        | (go_at_call 23; refine (disk_no _ w8 (NC.out _ B8.out)).mono ?_; rintro e w9 ⟨rfl, e9⟩; have e9H := Lib.hid e9; subst e9)
        | (go_at_call 10; refine (dirty_no _ w9 (NC.out _ B8.out)).mono ?_; rintro e w10 ⟨rfl, e10⟩; have e10H := Lib.hid e10; subst e10)
        | (go_at_call 11; refine (clean_no _ w10 (NC.out _ B8.out)).mono ?_; rintro e w11 ⟨rfl, hb⟩; have B11 := Lib.hid (B8.out.trans (hb.mono B8.out.size)); have Y11 := Lib.hid (Y8.out.later hb); clear hb fa fl0 fl1 ld8; have ld11 := ldRow Y11.out; obtain ⟨ga, gl0, gl1⟩ := hcells.out _ B11.out)
        | (go_at_call 24; refine (write_no _ b zB w11 (NC.out _ B11.out)).mono ?_; rintro e w12 ⟨rfl, hb⟩; have B12 := Lib.hid (B11.out.trans (hb.mono B11.out.size)); clear hb ga gl0 gl1 ld11; obtain ⟨ka, kl0, kl1⟩ := hcells.out _ B12.out)
        | (go_at_call 25; refine (back_no _ b w12 (NC.out _ B12.out)).mono ?_; rintro e w13 ⟨rfl, e13⟩; have e13H := Lib.hid e13; subst e13)
        | (go_at_call 20; refine (drop_no _ b w13 (NC.out _ B12.out)).mono ?_; rintro e w14 ⟨rfl, e14⟩; have e14H := Lib.hid e14; subst e14)
        | (go_at_call 26; refine (sync_no _ w14 (NC.out _ B12.out)).mono ?_; rintro e w15 ⟨rfl, e15⟩; have e15H := Lib.hid e15; subst e15))
      exact ⟨⟨1, rfl, by omega, B12.out⟩, by simp [intOf]⟩
    · skip
      have NC : Hid (∀ W, Below w3.heap.size w3 W → NoC W (.pointer (some ⟨w.heap.size + 1 + 1, 0, none⟩))) := fun W hb => .inr ⟨_, rfl, (W2.out.later hb).cell 0, (W2.out.later hb).lt⟩
      obtain ⟨ca, cl0, cl1⟩ := hcells.out wr BH.out
      go_wp2_with (first
        | (go_at_call 18; refine (read_no _ b wr (NC.out _ BH.out)).mono ?_; rintro e w4 ⟨rfl, hb⟩; have B4 := Lib.hid (BH.out.trans (hb.mono BH.out.size)); clear hb; have st4 := stRow zB (Whole.new w4 (blk zB) 32); have Y4 := Lib.hid ((Whole.new w4 (blk zB) 32).setRow (blk zB)); have L4 : Hid (Below w4.heap.size w4 ((w4.alloc (.cells (blk zB) 32)).setRow w4.heap.size (blk zB))) := below_setRow' ((Below.refl _ _).alloc (Nat.le_refl _) _) (Nat.le_refl _) _; obtain ⟨da, dl0, dl1⟩ := hcells.out _ (B4.out.trans (L4.out.mono B4.out.size)))
        | (go_at_call 19; generalize hwa : (w4.alloc (.cells (blk zB) 32)).setRow w4.heap.size (blk zB) = wa at Y4 L4 da dl0 dl1 ⊢; clear st4 hwa; have B5 := Lib.hid (B4.out.trans (L4.out.mono B4.out.size)); refine (pin_no _ b true wa (NC.out _ B5.out)).mono ?_; rintro e w6 ⟨rfl, e6⟩; have e6H := Lib.hid e6; subst e6)
        | (go_at_call 15; refine (wb_no _ b w6 (NC.out _ B5.out)).mono ?_; rintro e w7 ⟨rfl, e7⟩; have e7H := Lib.hid e7; subst e7)
        | (go_at_call 22; refine (ev_no _ b w7 (NC.out _ B5.out)).mono ?_; rintro e w8 ⟨rfl, hb⟩; have B8 := Lib.hid (B5.out.trans (hb.mono B5.out.size)); have Y8 := Lib.hid (Y4.out.later hb); clear hb da dl0 dl1; have ld8 := ldRow Y8.out; obtain ⟨fa, fl0, fl1⟩ := hcells.out _ B8.out)
        | (go_at_call 23; refine (disk_no _ w8 (NC.out _ B8.out)).mono ?_; rintro e w9 ⟨rfl, e9⟩; have e9H := Lib.hid e9; subst e9)
        | (go_at_call 10; refine (dirty_no _ w9 (NC.out _ B8.out)).mono ?_; rintro e w10 ⟨rfl, e10⟩; have e10H := Lib.hid e10; subst e10)
        | (go_at_call 11; refine (clean_no _ w10 (NC.out _ B8.out)).mono ?_; rintro e w11 ⟨rfl, hb⟩; have B11 := Lib.hid (B8.out.trans (hb.mono B8.out.size)); have Y11 := Lib.hid (Y8.out.later hb); clear hb fa fl0 fl1 ld8; have ld11 := ldRow Y11.out; obtain ⟨ga, gl0, gl1⟩ := hcells.out _ B11.out)
        | (go_at_call 24; refine (write_no _ b zB w11 (NC.out _ B11.out)).mono ?_; rintro e w12 ⟨rfl, hb⟩; have B12 := Lib.hid (B11.out.trans (hb.mono B11.out.size)); clear hb ga gl0 gl1 ld11; obtain ⟨ka, kl0, kl1⟩ := hcells.out _ B12.out)
        | (go_at_call 25; refine (back_no _ b w12 (NC.out _ B12.out)).mono ?_; rintro e w13 ⟨rfl, e13⟩; have e13H := Lib.hid e13; subst e13)
        | (go_at_call 20; refine (drop_no _ b w13 (NC.out _ B12.out)).mono ?_; rintro e w14 ⟨rfl, e14⟩; have e14H := Lib.hid e14; subst e14)
        | (go_at_call 26; refine (sync_no _ w14 (NC.out _ B12.out)).mono ?_; rintro e w15 ⟨rfl, e15⟩; have e15H := Lib.hid e15; subst e15))
      exact ⟨⟨2, rfl, by omega, B12.out⟩, by simp [intOf]⟩
    · go_wp2_with (go_at_call 27; refine (awake_any wr).mono ?_; rintro e w9 ⟨rfl, hb⟩; have B9 := Lib.hid (BH.out.trans (hb.mono BH.out.size)); clear hb)
      go_ret
      exact ⟨rfl, hB3.out.trans (B9.out.mono hB3.out.size)⟩
end Go.Proofs.Ytbcjcfjbdjdajaa
