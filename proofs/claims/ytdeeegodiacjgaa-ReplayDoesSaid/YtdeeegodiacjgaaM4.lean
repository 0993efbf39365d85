/- The document's numbers in blocks, and its journal head, walked. No condition but those written in each law. -/
import Derived.Test.YtdeeegodiacjgaaM1
import Derived.Test.YtdeeegodiacjgaaPlan
namespace Go.Proofs.Ytdeeegodiacjgaa
open Go.RowKit
attribute [local go_sem ↓] loadAtB storeAtB buildAtB
def GetPost (w : World) (e : Ending) (w' : World) : Prop := ∃ z : Int, e = .returned (.tuple #[.int .u32 z, .bool true]) ∧ Below w.heap.size w w'
set_option maxRecDepth 100000 in
set_option maxHeartbeats 1000000 in
theorem rget_any (g a : Nat) (c : Blk) (ha : a + 4 ≤ 256) (w : World) (h : Whole w g (blk c) 29) :
    Calls Try.prog 82 #[.slice (some ⟨g, 0, none⟩) 256 256, .int .i64 (a : Int)] w (GetPost w) := by
  have H := Lib.hid h
  have cell : ∀ j, j < 256 → ∀ p : Kept (fun w' => Below w.heap.size w w'), p.x.cell? ⟨g, j, none⟩ = some (.int .u8 ((c j : Nat) : Int)) := fun j hj p => by
    rw [(h.later p.h).cell j, blk_get _ _ hj]
  have f0 := cell a (by omega)
  have f1 := cell (a + 1) (by omega)
  have f2 := cell (a + 2) (by omega)
  have f3 := cell (a + 3) (by omega)
  clear cell h
  have d1 : decide ((a : Int) < 0) = false := by simp
  have d2 : decide ((252 : Int) < (a : Int)) = false := by simp; omega
  have w1 : IntKind.i64.wrap ((a : Int) + 1) = (a : Int) + 1 := IntWalk.i64_in _ (by omega)
  have t1 : ((a : Int) + 1).toNat = a + 1 := by omega
  have p1 : (0 : Int) ≤ (a : Int) + 1 := by omega
  have q1 : (a : Int) + 1 < 256 := by omega
  have r1 : a + 1 < 256 := by omega
  have w2 : IntKind.i64.wrap ((a : Int) + 2) = (a : Int) + 2 := IntWalk.i64_in _ (by omega)
  have t2 : ((a : Int) + 2).toNat = a + 2 := by omega
  have p2 : (0 : Int) ≤ (a : Int) + 2 := by omega
  have q2 : (a : Int) + 2 < 256 := by omega
  have r2 : a + 2 < 256 := by omega
  have w3 : IntKind.i64.wrap ((a : Int) + 3) = (a : Int) + 3 := IntWalk.i64_in _ (by omega)
  have t3 : ((a : Int) + 3).toNat = a + 3 := by omega
  have p3 : (0 : Int) ≤ (a : Int) + 3 := by omega
  have q3 : (a : Int) + 3 < 256 := by omega
  have r3 : a + 3 < 256 := by omega
  have q0 : (a : Int) < 256 := by omega
  have r0 : a < 256 := by omega
  have hne : Nonempty (Kept (fun w' => Below w.heap.size w w')) := ⟨⟨w, Below.refl _ _⟩⟩
  go_enter Try.func82, Try.ntmps82
  go_wp2_with fail
  refine wp_region_plan (fun w' => Below w.heap.size w w') [(0, 0), (0, 1), (0, 2), (1, 3), (0, 4), (0, 5), (0, 6), (0, 7), (0, 8), (1, 9), (0, 10), (0, 11), (0, 12), (0, 13), (0, 14), (0, 15), (0, 16), (1, 17), (0, 18), (0, 19), (0, 20), (0, 21), (0, 22), (0, 23), (0, 24), (1, 25), (0, 26), (0, 27), (0, 28), (0, 29), (0, 30)] (by kernel_rfl) (by kernel_rfl) (Below.refl _ _).drew ?_
  repeat (first | (refine wpPlan_pure rfl (fun K hK => ?_); go_simp; refine hK _ ?_; clear hK K) | (refine wpPlan_held rfl (fun K hK => ?_); go_simp; refine hK _ ?_; clear hK K))
  refine wpPlan_nil ?_
  go_wp2_with fail
  refine bodyPost_end (results_tmp2 rfl _ _ _) rfl ?_
  exact ⟨_, rfl, (Below.refl _ _).drew⟩
theorem byteOf_pow (v k : Nat) : v / 256 ^ k % 256 = byteOf v k := by
  unfold byteOf
  rw [show (256 : Nat) ^ k = 2 ^ (8 * k) by rw [Nat.pow_mul]]
set_option maxRecDepth 100000 in
set_option maxHeartbeats 1000000 in
theorem rput_any (g a v : Nat) (c : Blk) (ha : a + 4 ≤ 256) (hv : v < 4294967296) (w : World) (h : Whole w g (blk c) 29) :
    Calls Try.prog 68 #[.slice (some ⟨g, 0, none⟩) 256 256, .int .i64 (a : Int), .int .u32 (v : Int)] w (PutPost (.bool true) g (putK c a v 4) w) := by
  have hget := Lib.hid (rget_any g a c ha w h)
  have H := Lib.hid h
  clear h
  go_enter Try.func68, Try.ntmps68
  go_wp2_with (go_at_call 82; refine hget.out.mono ?_; rintro e w1 ⟨z, rfl, hb⟩; have B1 := Lib.hid hb; clear hb)
  have P0 : Hid (PI w1 g (putK c a v 0) w1) := ⟨by rw [show putK c a v 0 = c by funext j; unfold putK; rw [if_neg (by omega)]]; exact H.out.later B1.out, Ch.refl _ _⟩
  go_loopw [2, 9] (fun v2 v9 W => ∃ i x : Nat, v9 = .int .i64 (i : Nat) ∧ i ≤ 4 ∧ v2 = .int .u32 (x : Nat) ∧ x = v / 256 ^ i ∧ PI w1 g (putK c a v i) W) (fun _ v9 _ => ((4 : Int) - intOf v9).toNat)
  case atStart => exact ⟨0, v, rfl, by omega, rfl, by simp, P0.out⟩
  case round =>
    obtain ⟨i, x, rfl, hi, rfl, hx, hP⟩ := hrel
    have PP := Lib.hid hP
    have HX := Lib.hid hx
    have hxb : x < 4294967296 := by rw [hx]; exact Nat.lt_of_le_of_lt (Nat.div_le_self _ _) hv
    clear hP hx
    by_cases hin : i < 4
    · have c0 := PP.out.at_.cell (a + i)
      rw [blk_get _ _ (by omega)] at c0
      have e0 := PP.out.at_.free (a + i)
      have hnext := Lib.hid (putK_step c a v i)
      have w1 : IntKind.i64.wrap ((a : Int) + (i : Int)) = ((a + i : Nat) : Int) := by rw [IntWalk.i64_in _ (by omega)]; simp
      have w2 : IntKind.u32.wrap ((x : Int) % 256) = (x : Int) % 256 := IntWalk.u32_in _ (by omega)
      have w3 : IntKind.u32.wrap ((x : Int) / 256) = (x : Int) / 256 := IntWalk.u32_in _ (by omega)
      go_wp2_with fail
      have hb : ((x : Int) % 256) = ((byteOf v i : Nat) : Int) := by rw [← byteOf_pow, ← HX.out]; simp
      rw [hb]
      refine ⟨⟨i + 1, x / 256, rfl, by omega, by simp, by rw [HX.out, Nat.div_div_eq_div_mul, Nat.pow_succ], ?_, PP.out.ch.same (Ch.cell rfl)⟩, by simp [intOf]; omega⟩
      rw [← hnext.out, ← blk_set _ _ _ (by omega)]
      exact PP.out.at_.set _ _
    · obtain rfl : i = 4 := by omega
      go_wp2_with fail
      go_ret
      exact ⟨rfl, PP.out.at_, (Ch.of_below B1.out).same PP.out.ch⟩
theorem rput_is {g a v : Nat} {c : Blk} {ai : Int} (ea : ai = (a : Nat)) (ha : a + 4 ≤ 256) (hv : v < 4294967296) {w : World} (h : Whole w g (blk c) 29) :
    Calls Try.prog 68 #[.slice (some ⟨g, 0, none⟩) 256 256, .int .i64 ai, .int .u32 (v : Int)] w (PutPost (.bool true) g (putK c a v 4) w) := by
  rw [ea]
  exact rput_any g a v c ha hv w h
def u32s (ns : List Nat) : List Value := ns.map fun n => .int .u32 ((n : Nat) : Int)
/-- A block whose first numbers these are. -/
def blkK (ns : List Nat) : Nat → Blk
  | 0 => fun _ => 0
  | k + 1 => putK (blkK ns k) (4 * k) (ns.getD k 0) 4
set_option maxRecDepth 100000 in
set_option maxHeartbeats 1000000 in
theorem rblock_any (ns : List Nat) (hn : ns.length = 4) (hb : ∀ n ∈ ns, n < 4294967296) (gl : Nat) (w : World) (h : Whole w gl (u32s ns).toArray 44) :
    Calls Try.prog 63 #[.slice (some ⟨gl, 0, none⟩) 4 4] w (GPost (.agg (blk (blkK ns 4))) w) := by
  have H := Lib.hid h
  have HN := Lib.hid hn
  have HB := Lib.hid hb
  clear h hn hb
  have hz := zcB
  have H0 : Hid (Whole ((w.alloc (.cells (blk fun _ => 0) 29)).alloc (.cells (blk fun _ => 0) 29)) (w.heap.size + 1) (blk fun _ => 0) 29) := by have := Whole.new (w.alloc (.cells (blk fun _ => 0) 29)) (blk fun _ => 0) 29; unfold Hid; simpa using this
  have K0 : Hid (Whole ((w.alloc (.cells (blk fun _ => 0) 29)).alloc (.cells (blk fun _ => 0) 29)) w.heap.size (blk fun _ => 0) 29) := (Whole.new w (blk fun _ => 0) 29).alloc _
  have L0 : Hid (Whole ((w.alloc (.cells (blk fun _ => 0) 29)).alloc (.cells (blk fun _ => 0) 29)) gl (u32s ns).toArray 44) := (H.out.alloc _).alloc _
  have B0 : Hid (Below w.heap.size w ((w.alloc (.cells (blk fun _ => 0) 29)).alloc (.cells (blk fun _ => 0) 29))) := ((Below.refl _ _).alloc (Nat.le_refl _) _).alloc (by simp) _
  have hglt : gl < w.heap.size := H.out.lt
  have s2 : w.heap.size + 1 < ((w.alloc (.cells (blk fun _ => 0) 29)).alloc (.cells (blk fun _ => 0) 29)).heap.size := by simp
  go_enter Try.func63, Try.ntmps63
  go_wp2_with fail
  generalize (w.alloc (.cells (blk fun _ => 0) 29)).alloc (.cells (blk fun _ => 0) 29) = wa at H0 K0 L0 B0 s2 ⊢
  go_loopw [4] (fun v4 W => ∃ i, v4 = .int .i64 (i : Nat) ∧ i ≤ 4 ∧ PI wa (w.heap.size + 1) (blkK ns i) W) (fun v4 _ => ((4 : Int) - intOf v4).toNat)
  case atStart => exact ⟨0, rfl, by omega, H0.out, Ch.refl _ _⟩
  case round =>
    obtain ⟨i, rfl, hi, hP⟩ := hrel
    have PP := Lib.hid hP
    clear hP
    have BW : Hid (Below w.heap.size w wr) := B0.out.trans (PP.out.ch.below (fun k hk => by rw [hk]; omega) (by omega))
    by_cases hin : i < 4
    · have hne : Nonempty (Kept (fun w' => Below wr.heap.size wr w')) := ⟨⟨wr, Below.refl _ _⟩⟩
      have hLr : Whole wr gl (u32s ns).toArray 44 := L0.out.ch PP.out.ch (by show ¬ (gl = w.heap.size + 1); omega)
      obtain ⟨n, hni⟩ : ∃ n, ns[i]? = some n := ⟨_, List.getElem?_eq_getElem (by rw [HN.out]; omega)⟩
      have hcell : (u32s ns).toArray[i]? = some (.int .u32 ((n : Nat) : Int)) := by simp [u32s, hni]
      have f0 : ∀ p : Kept (fun w' => Below wr.heap.size wr w'), p.x.cell? ⟨gl, i, none⟩ = some (.int .u32 ((n : Nat) : Int)) := fun p => by rw [(hLr.later p.h).cell i]; exact hcell
      have hnb := HB.out n (List.mem_of_getElem? hni)
      have hnbH := Lib.hid hnb
      have hnext : Hid (blkK ns (i + 1) = putK (blkK ns i) (4 * i) n 4) := by
        unfold Hid
        show putK (blkK ns i) (4 * i) (ns.getD i 0) 4 = _
        rw [List.getD_eq_getElem?_getD, hni]
        rfl
      have w1 : IntKind.i64.wrap (4 * (i : Int)) = ((4 * i : Nat) : Int) := by rw [IntWalk.i64_in _ (by omega)]; simp
      clear hLr hcell hni hnb
      go_wp2_with fail
      refine wp_region_plan (fun w' => Below wr.heap.size wr w') [(0, 0), (0, 1), (0, 2), (0, 3), (0, 4), (0, 5), (1, 6), (3, 7)] (by kernel_rfl) (by kernel_rfl) (Below.refl _ _).drew ?_
      repeat (first | (refine wpPlan_pure rfl (fun K hK => ?_); go_simp; refine hK _ ?_; clear hK K) | (refine wpPlan_held rfl (fun K hK => ?_); go_simp; refine hK _ ?_; clear hK K))
      refine wpPlan_last rfl (fun K hK => ?_)
      go_wp2_with (go_at_call 68; refine (rput_is (a := 4 * i) (by simp) (by omega) hnbH.out (PP.out.at_.later (Below.refl _ _).drew)).mono ?_; rintro e wq ⟨rfl, hw, hch⟩; have PQ : Hid (PI wa (w.heap.size + 1) (blkK ns (i + 1)) wq) := ⟨by rw [hnext.out]; exact hw, (PP.out.ch.same (Ch.of_below (Below.refl _ _).drew)).same hch⟩; clear hw hch)
      refine hK.out _ _ ?_
      clear hK K
      refine wpPlan_nil ?_
      go_wp2_with fail
      exact ⟨⟨i + 1, rfl, by omega, PQ.out⟩, by simp [intOf]; omega⟩
    · obtain rfl : i = 4 := by omega
      have hl := ldRow PP.out.at_
      have K4 : Hid (Whole wr w.heap.size (blk fun _ => 0) 29) := K0.out.ch PP.out.ch (by show ¬ (w.heap.size = w.heap.size + 1); omega)
      have hs := stRow (blkK ns 4) K4.out
      go_wp2_with fail
      refine bodyPost_ret (results_cell_row rfl _ _ w.heap.size 29 (blk (blkK ns 4)) (0, 0) _ rfl (setRow_heap _ _ _ _ _ _ K4.out) Try.underlying29 rfl (sB _)) rfl ⟨rfl, ?_⟩
      exact below_setRow' BW.out (Nat.le_refl _) _
theorem whole_n {w : World} {n : Nat} (hn : w.heap.size = n) (cs : Array Value) (t : TypeId) : Whole (w.alloc (.cells cs t)) n cs t := by subst hn; exact Whole.new w cs t
theorem blkK_begun (s : Nat) : blkK [1280199249, 4, s, 0] 4 = begunB 4 s 0 := rfl
theorem u32s_begun (s : Nat) : (u32s [1280199249, 4, s, 0]).toArray = #[.int .u32 1280199249, .int .u32 4, .int .u32 (s : Int), .int .u32 0] := by simp [u32s]
theorem rblock_begun (s : Nat) (hs : s < 4294967296) (w : World) (gl : Nat) (h : Whole w gl #[.int .u32 1280199249, .int .u32 4, .int .u32 (s : Int), .int .u32 0] 44) : Calls Try.prog 63 #[.slice (some ⟨gl, 0, none⟩) 4 4] w (GPost (.agg (blk (begunB 4 s 0))) w) := by
  rw [← u32s_begun] at h
  have := rblock_any [1280199249, 4, s, 0] rfl (fun n hn => by simp at hn; omega) gl w h
  rw [blkK_begun] at this
  exact this
set_option maxRecDepth 100000 in
set_option maxHeartbeats 400000 in
theorem rhead_any (s : Nat) (hsb : s < 4294967296) (w : World) : Calls Try.prog 52 #[.agg #[.int .u32 (s : Int), .int .i64 0]] w (GPost (.tuple #[.agg (blk (headB s)), .int .i64 (headE s)]) w) := by
  have hz := zcB
  have hbd := run_buildB0
  have hnum := Lib.hid (seq_any s)
  have K0 : Hid (Whole ((w.alloc (.cells #[.int .u32 (s : Int), .int .i64 0] 82)).alloc (.cells (blk fun _ => 0) 29)) (w.heap.size + 1) (blk fun _ => 0) 29) := by have := Whole.new (w.alloc (.cells #[.int .u32 (s : Int), .int .i64 0] 82)) (blk fun _ => 0) 29; unfold Hid; simpa using this
  have hB0 : Hid (Below w.heap.size w ((w.alloc (.cells #[.int .u32 (s : Int), .int .i64 0] 82)).alloc (.cells (blk fun _ => 0) 29))) := ((Below.refl _ _).alloc (Nat.le_refl _) _).alloc (by simp) _
  cases hn : numB s with
  | true =>
    have hB : Hid (headB s = begunB 4 s 0) := by unfold Hid headB; rw [hn]; rfl
    have hE : Hid (headE s = 0) := by unfold Hid headE; rw [hn]; rfl
    have hbeg : Hid (∀ (w : World) (gl : Nat), Whole w gl #[.int .u32 1280199249, .int .u32 4, .int .u32 (s : Int), .int .u32 0] 44 → Calls Try.prog 63 #[.slice (some ⟨gl, 0, none⟩) 4 4] w (GPost (.agg (blk (begunB 4 s 0))) w)) := fun w gl h => rblock_begun s hsb w gl h
    generalize begunB 4 s 0 = bb at hB hbeg
    go_enter Try.func52, Try.ntmps52
    go_wp2_with (first
      | (go_at_call 50; refine (hnum.out _).mono ?_; rintro e w1 ⟨rfl, rfl⟩; rw [hn])
      | (go_at_call 63; refine (hbeg.out _ (w.heap.size + 1 + 1) (whole_n (by simp) _ 44)).mono ?_; rintro e w2 ⟨rfl, hb⟩; have B2 := Lib.hid hb; clear hb; have K2 := Lib.hid ((K0.out.alloc _).later B2.out); have hs := stRow bb K2.out))
    refine bodyPost_ret (results_cellB rfl rfl (K2.out.setRow (blk bb))) rfl ⟨?_, below_setRow' ((hB0.out.alloc hB0.out.size _).trans (B2.out.mono (by have := hB0.out.size; simp; omega))) (by omega) _⟩
    rw [hB.out, hE.out]
    rfl
  | false =>
    have hB : Hid (headB s = fun _ => 0) := by unfold Hid headB; rw [hn]; rfl
    have hE : Hid (headE s = 2) := by unfold Hid headE; rw [hn]; rfl
    have hs := stRow (fun _ => 0) K0.out
    go_enter Try.func52, Try.ntmps52
    go_wp2_with (go_at_call 50; refine (hnum.out _).mono ?_; rintro e w1 ⟨rfl, rfl⟩; rw [hn])
    refine bodyPost_ret (results_cellB rfl rfl (K0.out.setRow (blk fun _ => 0))) rfl ⟨?_, below_setRow' hB0.out (by omega) _⟩
    rw [hB.out, hE.out]
    rfl
end Go.Proofs.Ytdeeegodiacjgaa
