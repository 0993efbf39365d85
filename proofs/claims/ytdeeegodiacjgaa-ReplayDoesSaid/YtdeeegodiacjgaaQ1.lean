/- geo.parts and the contract of its iterator. A geometry that may be. -/
import Derived.Test.YtdeeegodiacjgaaM1
import Derived.RangeFuncNested
import Derived.RangeFuncBound
import Derived.RangeFuncCalls
import Derived.RangeFuncLeaves
import Derived.Shelf.Abstract
import Derived.Shelf.RegionOpen
import Derived.OwnWalkIn
import Derived.TacticsInMore
import Derived.LoopNIn
import Derived.LoopIn
namespace Go.Proofs.Ytdeeegodiacjgaa
open Go.RowKit Go.Shelf
attribute [local go_sem] Oper.semAt_some
abbrev Pt := Int × Int × Int
def ptv (x : Pt) : Array Value := #[.agg #[.int .i64 x.1, .int .i64 x.2.1, .int .u8 x.2.2]]
/-- The parts of a group: I blocks of inodes, S blocks. -/
def pts (I S : Nat) : List Pt := [(0, 1, 4), (1, 2, 5), (2, 2 + (I : Int), 6), (2 + (I : Int), (S : Int), 7)]
theorem pts_len (I S : Nat) : (pts I S).length = 4 := rfl
theorem parts_fn (g : Ge) (w : World) : Calls Try.prog 81 #[.agg (ga g)] w fun e w' => e = .returned (.func (.func 90) #[] #[.pointer (some ⟨w.heap.size, 0, none⟩)]) ∧ w.alloc (.cells (ga g) 43) = w' := by
  go_enter Try.func81, Try.ntmps81
  go_wp2
  go_ret
  exact ⟨rfl, rfl⟩
/-- The block B is kept. -/
def KBlk (B : Nat) (W W' : World) : Prop := W.heap.size ≤ W'.heap.size ∧ ∀ o, W.heap[B]? = some o → W'.heap[B]? = some o
theorem KBlk.refl (B : Nat) (W : World) : KBlk B W W := ⟨Nat.le_refl _, fun _ h => h⟩
theorem KBlk.trans {B : Nat} {X Y Z : World} (h : KBlk B X Y) (k : KBlk B Y Z) : KBlk B X Z := ⟨Nat.le_trans h.1 k.1, fun o ho => k.2 o (h.2 o ho)⟩
theorem KBlk.alloc (B : Nat) (W : World) (o : Obj) : KBlk B W (W.alloc o) := ⟨by simp, fun _ h => heap_past_alloc h⟩
theorem KBlk.setCell {B : Nat} (W : World) {p : Addr} (h : p.block ≠ B) (v : Value) : KBlk B W (W.setCell p v) := ⟨by simp [World.setCell], fun _ ho => (heap_setCell_other W p B v (fun e => h e.symm)).trans ho⟩
theorem KBlk.of_below {B n : Nat} {W W' : World} (h : Below n W W') (hB : B < n) : KBlk B W W' := ⟨h.size, fun _ ho => heap_below h hB ho⟩
theorem kblk_b {B : Nat} {w : World} (hB : B < w.heap.size) (W : World) (l : Nat) (o o' : Obj) (hl : w.heap.size ≤ l) (_ : W.heap[l]? = some o) (_ : o.isCells = false) (_ : o.isWalk = false) : KBlk B W (W.putObj l o') :=
  ⟨by simp, fun _ ho => (World.putObj_heap_other (by omega)).trans ho⟩
def atK (I S : Nat) : Nat → Int
  | 0 => 0
  | 1 => 1
  | 2 => 2
  | 3 => 2 + (I : Int)
  | _ => S
set_option maxRecDepth 100000 in
set_option maxHeartbeats 2000000 in
theorem parts1_in (n : Nat) (hn : 1 ≤ n) (G S I J : Nat) (k2 : S ≤ 512) (k3 : I ≤ 16) (l Bs : Nat) (Jp Jx : List Pt → World → Prop)
    (hY : ∀ pre x W, Jp pre W → pre.length < 4 → YieldAt Fence.wide (n - 1) Try.prog l (ptv x) W fun e W' =>
      (e = .returned (.bool true) ∧ Jp (pre ++ [x]) W' ∧ KBlk Bs W W') ∨ (e = .returned (.bool false) ∧ Jx (pre ++ [x]) W'))
    (W : World) (hBc : Whole W Bs #[.int .i64 G, .int .i64 S, .int .i64 (4 * (I : Int)), .int .i64 J] 43) (h0 : Jp [] W) :
    CallsIn Fence.wide n Try.prog 90 #[.func (.yield l) #[] #[], .pointer (some ⟨Bs, 0, none⟩)] W fun e W' => (∃ v, e = .returned v) ∧
      ((∃ ys, ys = pts I S ∧ Jp ys W') ∨ (∃ pre, (∃ k, k ≤ 4 ∧ pre = (pts I S).take k) ∧ Jx pre W')) := by
  refine callsIn_of_wp Try.func90 rfl trivial ?_ rfl
  simp only [Try.ntmps90, List.size_toArray, List.length_cons, List.length_nil, Nat.reduceAdd, Nat.reduceSub, Array.replicate_succ, Array.replicate_zero, List.push_toArray, List.append_toArray, List.nil_append, List.cons_append]
  gi_wp2
  gi_loopw [3, 4] (fun v3 v4 wr => ∃ k : Nat, k ≤ 4 ∧ v4 = .int .u8 (4 + (k : Int)) ∧ v3 = .int .i64 (atK I S k) ∧ Jp ((pts I S).take k) wr ∧ KBlk Bs W wr) (fun _ v4 _ => ((8 : Int) - intOf v4).toNat)
  case atStart => exact ⟨0, by omega, rfl, rfl, h0, KBlk.refl _ _⟩
  case round =>
    obtain ⟨k, hk, rfl, rfl, hJs, hnx⟩ := hrel
    have hg : Whole wr Bs #[.int .i64 G, .int .i64 S, .int .i64 (4 * (I : Int)), .int .i64 J] 43 := hnx.2 _ hBc
    have c1 := hg.cell 1
    have c2 := hg.cell 2
    have w1 : IntKind.i64.wrap (I : Int) = (I : Int) := IntWalk.i64_in _ (by omega)
    have w2 : IntKind.i64.wrap (2 + (I : Int)) = 2 + (I : Int) := IntWalk.i64_in _ (by omega)
    have w3 : IntKind.i64.wrap (2 + (I : Int) + 1) = 2 + (I : Int) + 1 := IntWalk.i64_in _ (by omega)
    have hYH := Lib.hid hY
    have HNX := Lib.hid hnx
    clear hg hY hBc hnx
    have hk4 : k = 0 ∨ k = 1 ∨ k = 2 ∨ k = 3 ∨ k = 4 := by omega
    rcases hk4 with rfl | rfl | rfl | rfl | rfl
    · rw [show ((4 : Int) + ((0 : Nat) : Int)) = 4 from rfl]
      have hb : Hid ((pts I S).take 0 ++ [(0, 1, 4)] = (pts I S).take 1) := rfl
      obtain ⟨fn, tmps, assign, body, hy, hR⟩ : YieldAt Fence.wide (n - 1) Try.prog l #[.agg #[.int .i64 (0), .int .i64 (1), .int .u8 4]] wr _ := hYH.out _ (0, 1, 4) wr hJs (by simp [pts])
      simp only [atK]
      gi_wp2
      refine hR.mono ?_
      rintro e W3 (⟨rfl, hJ3, hk3⟩ | ⟨rfl, hJx3⟩)
      · have hb3 := Lib.hid (HNX.out.trans hk3)
        rw [hb.out] at hJ3
        clear hk3
        gi_wp2
        exact ⟨⟨1, by omega, rfl, rfl, hJ3, hb3.out⟩, by simp [intOf]⟩
      · rw [hb.out] at hJx3
        gi_wp2
        refine bodyPost_ret (results_none rfl _ _ _) rfl ?_
        exact ⟨⟨_, rfl⟩, .inr ⟨_, ⟨1, by omega, rfl⟩, hJx3⟩⟩
    · rw [show ((4 : Int) + ((1 : Nat) : Int)) = 5 from rfl]
      have hb : Hid ((pts I S).take 1 ++ [(1, 2, 5)] = (pts I S).take 2) := rfl
      obtain ⟨fn, tmps, assign, body, hy, hR⟩ : YieldAt Fence.wide (n - 1) Try.prog l #[.agg #[.int .i64 (1), .int .i64 (2), .int .u8 5]] wr _ := hYH.out _ (1, 2, 5) wr hJs (by simp [pts])
      simp only [atK]
      gi_wp2
      refine hR.mono ?_
      rintro e W3 (⟨rfl, hJ3, hk3⟩ | ⟨rfl, hJx3⟩)
      · have hb3 := Lib.hid (HNX.out.trans hk3)
        rw [hb.out] at hJ3
        clear hk3
        gi_wp2
        exact ⟨⟨2, by omega, rfl, rfl, hJ3, hb3.out⟩, by simp [intOf]⟩
      · rw [hb.out] at hJx3
        gi_wp2
        refine bodyPost_ret (results_none rfl _ _ _) rfl ?_
        exact ⟨⟨_, rfl⟩, .inr ⟨_, ⟨2, by omega, rfl⟩, hJx3⟩⟩
    · rw [show ((4 : Int) + ((2 : Nat) : Int)) = 6 from rfl]
      have hb : Hid ((pts I S).take 2 ++ [(2, 2 + (I : Int), 6)] = (pts I S).take 3) := rfl
      obtain ⟨fn, tmps, assign, body, hy, hR⟩ : YieldAt Fence.wide (n - 1) Try.prog l #[.agg #[.int .i64 (2), .int .i64 (2 + (I : Int)), .int .u8 6]] wr _ := hYH.out _ (2, 2 + (I : Int), 6) wr hJs (by simp [pts])
      simp only [atK]
      gi_wp2
      refine hR.mono ?_
      rintro e W3 (⟨rfl, hJ3, hk3⟩ | ⟨rfl, hJx3⟩)
      · have hb3 := Lib.hid (HNX.out.trans hk3)
        rw [hb.out] at hJ3
        clear hk3
        gi_wp2
        exact ⟨⟨3, by omega, rfl, rfl, hJ3, hb3.out⟩, by simp [intOf]⟩
      · rw [hb.out] at hJx3
        gi_wp2
        refine bodyPost_ret (results_none rfl _ _ _) rfl ?_
        exact ⟨⟨_, rfl⟩, .inr ⟨_, ⟨3, by omega, rfl⟩, hJx3⟩⟩
    · rw [show ((4 : Int) + ((3 : Nat) : Int)) = 7 from rfl]
      have hb : Hid ((pts I S).take 3 ++ [(2 + (I : Int), (S : Int), 7)] = (pts I S).take 4) := rfl
      obtain ⟨fn, tmps, assign, body, hy, hR⟩ : YieldAt Fence.wide (n - 1) Try.prog l #[.agg #[.int .i64 (2 + (I : Int)), .int .i64 ((S : Int)), .int .u8 7]] wr _ := hYH.out _ (2 + (I : Int), (S : Int), 7) wr hJs (by simp [pts])
      simp only [atK]
      gi_wp2
      refine hR.mono ?_
      rintro e W3 (⟨rfl, hJ3, hk3⟩ | ⟨rfl, hJx3⟩)
      · have hb3 := Lib.hid (HNX.out.trans hk3)
        rw [hb.out] at hJ3
        clear hk3
        gi_wp2
        exact ⟨⟨4, by omega, rfl, rfl, hJ3, hb3.out⟩, by simp [intOf]⟩
      · rw [hb.out] at hJx3
        gi_wp2
        refine bodyPost_ret (results_none rfl _ _ _) rfl ?_
        exact ⟨⟨_, rfl⟩, .inr ⟨_, ⟨4, by omega, rfl⟩, hJx3⟩⟩
    · rw [show ((4 : Int) + ((4 : Nat) : Int)) = 8 from rfl]
      gi_wp2
      go_end0
      exact ⟨⟨_, rfl⟩, .inl ⟨_, rfl, hJs⟩⟩
/-- The contract of the iterator. -/
theorem parts_stops (n : Nat) (hn : 1 ≤ n) (G S I J : Nat) (k2 : S ≤ 512) (k3 : I ≤ 16) (Bs : Nat) (w : World) (hBc : Whole w Bs #[.int .i64 G, .int .i64 S, .int .i64 (4 * (I : Int)), .int .i64 J] 43) :
    SeqStopsK Fence.wide n Try.prog 90 #[.pointer (some ⟨Bs, 0, none⟩)] ptv (KBlk Bs) (fun xs => xs = pts I S) (fun pre => ∃ k, k ≤ 4 ∧ pre = (pts I S).take k) 4 w := by
  intro l Jp Jx W hW hJ hJx hY h0
  exact parts1_in n hn G S I J k2 k3 l Bs Jp Jx hY W (heap_below hW (lt_of_heap hBc) hBc) h0
end Go.Proofs.Ytdeeegodiacjgaa
