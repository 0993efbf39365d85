/- quernlaw03.Fill, walked: a block told by a number below 2 to the 32. -/
import Derived.Test.YtbcjcfjbdjdajaaBlk
import Derived.IntWalk
namespace Go.Proofs.Ytbcjcfjbdjdajaa
open Go.RowKit
attribute [local go_sem ↓] loadAtB storeAtB
def byteAt (n j : Nat) : Nat := n / 2 ^ (8 * j) % 256
def fillTo3 (n i : Nat) : Blk := fun j => if j < i then byteAt n j else 0
/-- The block that Fill tells of a number. -/
def tellB (n : Nat) : Blk := fun j => if j = 255 then n % 256 else fillTo3 n 4 j
theorem zcBf : Try.zeroCells32 = blk (fillTo3 0 0) := by kernel_rfl
theorem fillTo3_zero (n : Nat) : fillTo3 n 0 = fillTo3 0 0 := by funext j; simp [fillTo3]
theorem fill3_set (n i : Nat) (h : i < 256) : (blk (fillTo3 n i)).setIfInBounds i (.int .u8 (byteAt n i : Int)) = blk (fillTo3 n (i + 1)) := by
  rw [blk_set _ _ _ h]
  refine blk_ext fun j hj => ?_
  unfold fillTo3
  by_cases e : j = i
  · subst e; simp
  · rw [if_neg e]
    by_cases hl : j < i
    · rw [if_pos hl, if_pos (by omega)]
    · rw [if_neg hl, if_neg (by omega)]
structure FIL (w : World) (n i : Nat) (W : World) : Prop where
  res : Whole W w.heap.size (blk (fillTo3 0 0)) 32
  at_ : Whole W (w.heap.size + 1) (blk (fillTo3 n i)) 32
  bel : Below w.heap.size w W
theorem FIL.put {w : World} {n i : Nat} {W : World} (h : FIL w n i W) (hi : i < 256) : FIL w n (i + 1) (W.setCell ⟨w.heap.size + 1, i, none⟩ (.int .u8 (byteAt n i : Int))) :=
  ⟨h.res.set_other _ _ (by simp), by rw [← fill3_set n i hi]; exact h.at_.set i _, h.bel.trans ⟨rfl, rfl, rfl, by simp [World.setCell], fun k hk => heap_setCell_other W _ k _ (by simp; omega)⟩⟩
set_option maxRecDepth 100000 in
set_option maxHeartbeats 1000000 in
theorem fill_any (n : Nat) (hn : n < 4294967296) (w : World) : Calls Try.prog 29 #[.int .u32 (n : Int)] w (fun e w' => e = .returned (.agg (blk (tellB n))) ∧ Below w.heap.size w w') := by
  have hz := zcBf
  go_enter Try.func29, Try.ntmps29
  go_wp2_with fail
  have F0 : Hid (FIL w n 0 ((w.alloc (.cells (blk (fillTo3 0 0)) 32)).alloc (.cells (blk (fillTo3 0 0)) 32))) := by
    refine ⟨(Whole.new w _ _).alloc _, ?_, ((Below.refl _ _).alloc (Nat.le_refl _) _).alloc (by simp) _⟩
    rw [fillTo3_zero]
    have := Whole.new (w.alloc (.cells (blk (fillTo3 0 0)) 32)) (blk (fillTo3 0 0)) 32
    rw [show (w.alloc (.cells (blk (fillTo3 0 0)) 32)).heap.size = w.heap.size + 1 by simp] at this
    exact this
  go_loopw [4] (fun v4 W => ∃ i, v4 = .int .i64 (i : Nat) ∧ i ≤ 4 ∧ FIL w n i W) (fun v4 _ => (4 - intOf v4).toNat)
  case atStart => exact ⟨0, rfl, by omega, F0.out⟩
  case round =>
    obtain ⟨i, rfl, hi, hF⟩ := hrel
    have FH := Lib.hid hF
    clear hF F0
    clear hz
    rcases (show i = 0 ∨ i = 1 ∨ i = 2 ∨ i = 3 ∨ i = 4 by omega) with rfl | rfl | rfl | rfl | rfl
    · have c0 := FH.out.at_.cell 0
      rw [blk_get _ _ (by omega)] at c0
      have f0 := FH.out.at_.free 0
      have P := Lib.hid (FH.out.put (by omega))
      go_wp2_with fail
      have p := P.out
      rw [show ((byteAt n 0 : Nat) : Int) = (n : Int) % 256 by unfold byteAt; omega] at p
      exact ⟨⟨1, rfl, by omega, p⟩, by simp [intOf]⟩
    · have c0 := FH.out.at_.cell 1
      rw [blk_get _ _ (by omega)] at c0
      have f0 := FH.out.at_.free 1
      have P := Lib.hid (FH.out.put (by omega))
      go_wp2_with fail
      have p := P.out
      rw [show ((byteAt n 1 : Nat) : Int) = (n : Int) / 256 % 256 by unfold byteAt; omega] at p
      exact ⟨⟨2, rfl, by omega, p⟩, by simp [intOf]⟩
    · have c0 := FH.out.at_.cell 2
      rw [blk_get _ _ (by omega)] at c0
      have f0 := FH.out.at_.free 2
      have P := Lib.hid (FH.out.put (by omega))
      go_wp2_with fail
      have p := P.out
      rw [show ((byteAt n 2 : Nat) : Int) = (n : Int) / 65536 % 256 by unfold byteAt; omega] at p
      exact ⟨⟨3, rfl, by omega, p⟩, by simp [intOf]⟩
    · have c0 := FH.out.at_.cell 3
      rw [blk_get _ _ (by omega)] at c0
      have f0 := FH.out.at_.free 3
      have P := Lib.hid (FH.out.put (by omega))
      go_wp2_with fail
      have p := P.out
      rw [show ((byteAt n 3 : Nat) : Int) = (n : Int) / 16777216 by unfold byteAt; omega] at p
      exact ⟨⟨4, rfl, by omega, p⟩, by simp [intOf]⟩
    · have c0 := FH.out.at_.cell 255
      rw [blk_get _ _ (by omega)] at c0
      have f0 := FH.out.at_.free 255
      have P : Hid (Whole (wr.setCell ⟨w.heap.size + 1, 255, none⟩ (.int .u8 ((n : Int) % 256))) (w.heap.size + 1) (blk (tellB n)) 32) := by
        have h1 := FH.out.at_.set 255 (.int .u8 ((n : Int) % 256))
        rw [show (n : Int) % 256 = ((n % 256 : Nat) : Int) by omega] at h1 ⊢
        rw [blk_set _ _ _ (by omega)] at h1
        exact h1
      have R : Hid (Whole (wr.setCell ⟨w.heap.size + 1, 255, none⟩ (.int .u8 ((n : Int) % 256))) w.heap.size (blk (fillTo3 0 0)) 32) := FH.out.res.set_other _ _ (by simp)
      have B : Hid (Below w.heap.size w (wr.setCell ⟨w.heap.size + 1, 255, none⟩ (.int .u8 ((n : Int) % 256)))) := FH.out.bel.trans ⟨rfl, rfl, rfl, by simp [World.setCell], fun k hk => heap_setCell_other wr _ k _ (by simp; omega)⟩
      have hL := ldRow P.out
      have hS := stRow (tellB n) R.out
      go_wp2_with fail
      refine bodyPost_ret (results_cell_row rfl _ _ w.heap.size 32 (blk (tellB n)) (0, 0) _ rfl (setRow_heap _ _ _ _ _ _ R.out) Try.underlying32 rfl (sB _)) rfl ⟨rfl, below_setRow' B.out (Nat.le_refl _) _⟩
end Go.Proofs.Ytbcjcfjbdjdajaa
