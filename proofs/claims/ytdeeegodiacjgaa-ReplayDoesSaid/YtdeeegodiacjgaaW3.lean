/- A row's bytes, as the given statements lay them. The row's byte is below 256. -/
import Derived.Test.YtdeeegodiacjgaaW2
import Derived.Laws.Rows
namespace Go.Proofs.Ytdeeegodiacjgaa
open Go.RowKit
attribute [local go_sem ↓] loadAtB storeAtB
/-- A row told in short: block, byte, whether it begins as a journal block. -/
abbrev Rw := Int × Nat × Bool
def fillTo (f i : Nat) : Blk := fun j => if j < i then f else 0
def magic (b : Blk) : Blk := fun j => if j = 0 then 81 else if j = 1 then 74 else if j = 2 then 78 else if j = 3 then 76 else b j
def rowB (x : Rw) : Blk := if x.2.2 then magic (fillTo x.2.1 256) else fillTo x.2.1 256
theorem fill_set (f i : Nat) (h : i < 256) : (blk (fillTo f i)).setIfInBounds i (.int .u8 (f : Int)) = blk (fillTo f (i + 1)) := by
  rw [blk_set _ _ _ h]
  apply blk_ext
  intro j _
  unfold fillTo
  by_cases e : j = i
  · subst e; simp
  · by_cases h1 : j < i
    · simp [e, h1, show j < i + 1 by omega]
    · simp [e, h1, show ¬ j < i + 1 by omega]
theorem zcB : Try.zeroCells29 = blk fun _ => 0 := by kernel_rfl
/-- What stands in the loop that fills a block. -/
structure FI (w : World) (b : Int) (f : Nat) (m : Bool) (c : Blk) (W : World) : Prop where
  row : Whole W w.heap.size #[.int .i64 b, .int .u8 (f : Int), .bool m] 32
  res : Whole W (w.heap.size + 1) (blk fun _ => 0) 29
  blk : Whole W (w.heap.size + 1 + 1) (blk c) 29
  bel : Below w.heap.size w W
theorem FI.put {w : World} {b : Int} {f : Nat} {m : Bool} {c : Blk} {W : World} (h : FI w b f m c W) (i v : Nat) (hi : i < 256) : FI w b f m (fun j => if j = i then v else c j) (W.setCell ⟨w.heap.size + 1 + 1, i, none⟩ (.int .u8 (v : Int))) :=
  ⟨h.row.set_other _ _ (by simp; omega), h.res.set_other _ _ (by simp), by rw [← blk_set c i v hi]; exact h.blk.set i _, h.bel.setCell (by simp; omega) _⟩
theorem FI.cast {w : World} {b : Int} {f : Nat} {m : Bool} {c d : Blk} {W : World} (h : FI w b f m c W) (e : Ytdeeegodiacjgaa.blk c = Ytdeeegodiacjgaa.blk d) : FI w b f m d W := ⟨h.row, h.res, e ▸ h.blk, h.bel⟩
theorem v81 : Value.int .u8 81 = .int .u8 ((81 : Nat) : Int) := rfl
theorem v74 : Value.int .u8 74 = .int .u8 ((74 : Nat) : Int) := rfl
theorem v78 : Value.int .u8 78 = .int .u8 ((78 : Nat) : Int) := rfl
theorem v76 : Value.int .u8 76 = .int .u8 ((76 : Nat) : Int) := rfl
theorem FI.magic {w : World} {b : Int} {f : Nat} {m : Bool} {c : Blk} {W : World} (h : FI w b f m c W) :
    FI w b f m (magic c) ((((W.setCell ⟨w.heap.size + 1 + 1, 0, none⟩ (.int .u8 81)).setCell ⟨w.heap.size + 1 + 1, 1, none⟩ (.int .u8 74)).setCell ⟨w.heap.size + 1 + 1, 2, none⟩ (.int .u8 78)).setCell ⟨w.heap.size + 1 + 1, 3, none⟩ (.int .u8 76)) := by
  have h4 := (((h.put 0 81 (by omega)).put 1 74 (by omega)).put 2 78 (by omega)).put 3 76 (by omega)
  rw [v81, v74, v78, v76]
  refine h4.cast (blk_ext fun j _ => ?_)
  unfold Ytdeeegodiacjgaa.magic
  by_cases h0 : j = 0
  · simp [h0]
  · by_cases h1 : j = 1
    · simp [h1]
    · by_cases h2 : j = 2
      · simp [h2]
      · simp [h0, h1, h2]
set_option maxRecDepth 100000 in
set_option maxHeartbeats 1000000 in
theorem block_any (x : Rw) (hx : x.2.1 < 256) (w : World) :
    Calls Try.prog 12 #[.agg #[.int .i64 x.1, .int .u8 (x.2.1 : Int), .bool x.2.2]] w fun e w' => e = .returned (.agg (blk (rowB x))) ∧ Below w.heap.size w w' := by
  obtain ⟨b, f, m⟩ := x
  dsimp only at hx ⊢
  have hz := zcB
  go_enter Try.func12, Try.ntmps12
  go_wp2_with fail
  go_loopw [4] (fun v4 W => ∃ i : Nat, v4 = .int .i64 (i : Nat) ∧ i ≤ 256 ∧ FI w b f m (fillTo f i) W) (fun v4 _ => (256 - intOf v4).toNat)
  case atStart =>
    have e0 : fillTo f 0 = fun _ => 0 := by funext j; simp [fillTo]
    refine ⟨0, rfl, by omega, ?_⟩
    rw [e0]
    exact ⟨((Whole.new _ _ _).alloc _).alloc _, by simpa using (Whole.new (w.alloc (.cells #[.int .i64 b, .int .u8 (f : Int), .bool m] 32)) (blk fun _ => 0) 29).alloc (.cells (blk fun _ => 0) 29), by simpa using Whole.new ((w.alloc (.cells #[.int .i64 b, .int .u8 (f : Int), .bool m] 32)).alloc (.cells (blk fun _ => 0) 29)) (blk fun _ => 0) 29, (((Below.refl _ _).alloc (Nat.le_refl _) _).alloc (by simp) _).alloc (by simp; omega) _⟩
  case round =>
    obtain ⟨i, rfl, hi, hF⟩ := hrel
    have F := Lib.hid hF
    have r1 := hF.row.cell 1
    have r2 := hF.row.cell 2
    simp at r1 r2
    clear hF hz
    by_cases hin : i < 256
    · have c0 := F.out.blk.cell i
      rw [blk_get _ _ hin] at c0
      have c1 := F.out.blk.free i
      go_wp2_with fail
      refine ⟨⟨i + 1, rfl, by omega, (F.out.put i f hin).cast ?_⟩, by simp [intOf]; omega⟩
      rw [← fill_set f i hin, blk_set _ _ _ hin]
    · obtain rfl : i = 256 := by omega
      cases m with
      | false =>
        have hL := ldRow F.out.blk
        have hS := stRow (fillTo f 256) F.out.res
        go_wp2_with fail
        refine bodyPost_ret (results_cell_row rfl _ _ (w.heap.size + 1) 29 (blk (fillTo f 256)) (0, 0) _ rfl (setRow_heap _ _ _ _ _ _ F.out.res) Try.underlying29 rfl (sB _)) rfl ⟨rfl, below_setRow' F.out.bel (by omega) _⟩
      | true =>
        have g0 := F.out.blk.cell 0
        have g1 := F.out.blk.cell 1
        have g2 := F.out.blk.cell 2
        have g3 := F.out.blk.cell 3
        rw [blk_get _ _ (by omega)] at g0 g1 g2 g3
        have k0 := F.out.blk.free 0
        have k1 := F.out.blk.free 1
        have k2 := F.out.blk.free 2
        have k3 := F.out.blk.free 3
        have F4 := Lib.hid (FI.magic F.out)
        have hL := ldRow F4.out.blk
        have hS := stRow (magic (fillTo f 256)) F4.out.res
        go_wp2_with fail
        refine bodyPost_ret (results_cell_row rfl _ _ (w.heap.size + 1) 29 (blk (magic (fillTo f 256))) (0, 0) _ rfl (setRow_heap _ _ _ _ _ _ F4.out.res) Try.underlying29 rfl (sB _)) rfl ⟨rfl, below_setRow' F4.out.bel (by omega) _⟩
end Go.Proofs.Ytdeeegodiacjgaa
