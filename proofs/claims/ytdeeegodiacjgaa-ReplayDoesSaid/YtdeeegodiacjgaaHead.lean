/- Numbers put into blocks, and a journal's head, of the given program, walked. No condition but those written in each law. -/
import Derived.Test.YtdeeegodiacjgaaDiskE
import Derived.Test.YtdeeegodiacjgaaGeo
namespace Go.Proofs.Ytdeeegodiacjgaa
open Go.RowKit
attribute [local go_sem ↓] loadAtB storeAtB buildAtB
theorem lies_any (g n cap : Nat) (a m : Int) (hn : n ≤ 100000) (hm : 0 ≤ m ∧ m ≤ 100) (w : World) : Calls Try.prog 92 #[.slice (some ⟨g, 0, none⟩) n cap, .int .i64 a, .int .i64 m] w (fun e w' => e = .returned (.bool (decide (0 ≤ a) && decide (a ≤ (n : Int) - m))) ∧ w' = w) := by
  have w1 : IntKind.i64.wrap ((n : Int) - m) = (n : Int) - m := IntWalk.i64_in _ (by omega)
  by_cases h1 : 0 ≤ a
  · have d1 : decide (0 ≤ a) = true := by simpa using h1
    go_enter Try.func92, Try.ntmps92
    go_wp2_with fail
    go_ret
    refine ⟨?_, rfl⟩
    rw [d1]
    rfl
  · have d1 : decide (0 ≤ a) = false := by simpa using h1
    go_enter Try.func92, Try.ntmps92
    go_wp2_with fail
    go_ret
    exact ⟨rfl, rfl⟩
def byteOf (v k : Nat) : Nat := v / 2 ^ (8 * k) % 256
theorem byteOf_int (v k : Nat) : (v : Int) / 2 ^ (8 * k) % 256 = ((byteOf v k : Nat) : Int) := by unfold byteOf; simp
def putK (c : Blk) (a v k : Nat) : Blk := fun j => if a ≤ j ∧ j < a + k then byteOf v (j - a) else c j
theorem putK_step (c : Blk) (a v k : Nat) : (fun j => if j = a + k then byteOf v k else putK c a v k j) = putK c a v (k + 1) := by
  funext j
  unfold putK
  by_cases h : j = a + k
  · subst h
    rw [if_pos rfl, if_pos (by omega)]
    congr 1
    omega
  · rw [if_neg h]
    by_cases h2 : a ≤ j ∧ j < a + k
    · rw [if_pos h2, if_pos (by omega)]
    · rw [if_neg h2, if_neg (by omega)]
def PutPost (v : Value) (g : Nat) (c : Blk) (w : World) (e : Ending) (w' : World) : Prop := e = .returned v ∧ Whole w' g (blk c) 29 ∧ Ch (fun k => k = g) w w'
structure PI (w : World) (g : Nat) (c : Blk) (W : World) : Prop where
  at_ : Whole W g (blk c) 29
  ch : Ch (fun k => k = g) w W
set_option maxRecDepth 100000 in
theorem nput_any (g a v : Nat) (c : Blk) (ha : a + 4 ≤ 256) (w : World) (h : Whole w g (blk c) 29) :
    Calls Try.prog 89 #[.slice (some ⟨g, 0, none⟩) 256 256, .int .i64 (a : Int), .int .i64 4, .int .u32 (v : Int)] w (PutPost (.bool true) g (putK c a v 4) w) := by
  have H := Lib.hid h
  clear h
  have hlies := Lib.hid (lies_any g 256 256 a 4 (by omega) (by omega) w)
  have d0 : (decide ((0 : Int) ≤ (a : Int)) && decide ((a : Int) ≤ ((256 : Nat) : Int) - 4)) = true := by simp; omega
  go_enter Try.func89, Try.ntmps89
  go_wp2_with (go_at_call 92; refine hlies.out.mono ?_; rintro e w1 ⟨rfl, rfl⟩; rw [d0])
  obtain ⟨wo, rfl⟩ : ∃ wo : World, wo = w1 := ⟨_, rfl⟩
  have P0 : Hid (PI wo g (putK c a v 0) wo) := ⟨by rw [show putK c a v 0 = c by funext j; unfold putK; rw [if_neg (by omega)]]; exact H.out, Ch.refl _ _⟩
  go_loopw [16] (fun v16 W => ∃ i, v16 = .int .i64 (i : Nat) ∧ i ≤ 4 ∧ PI wo g (putK c a v i) W) (fun v16 _ => ((4 : Int) - intOf v16).toNat)
  case atStart => exact ⟨0, rfl, by omega, P0.out⟩
  case round =>
    obtain ⟨i, rfl, hi, hP⟩ := hrel
    have PP := Lib.hid hP
    clear hP
    by_cases hin : i < 4
    · have c0 := PP.out.at_.cell (a + i)
      rw [blk_get _ _ (by omega)] at c0
      have e0 := PP.out.at_.free (a + i)
      have hnext := Lib.hid (putK_step c a v i)
      have w1 : IntKind.i64.wrap ((a : Int) + (i : Int)) = ((a + i : Nat) : Int) := by rw [IntWalk.i64_in _ (by omega)]; simp
      have w2 : IntKind.i64.wrap (8 * (i : Int)) = 8 * (i : Int) := IntWalk.i64_in _ (by omega)
      go_wp2_with fail
      rw [byteOf_int]
      refine ⟨⟨i + 1, rfl, by omega, ?_, PP.out.ch.same (Ch.cell rfl)⟩, by simp [intOf]; omega⟩
      rw [← hnext.out, ← blk_set _ _ _ (by omega)]
      exact PP.out.at_.set _ _
    · obtain rfl : i = 4 := by omega
      go_wp2_with fail
      go_ret
      exact ⟨rfl, PP.out.at_, PP.out.ch⟩
set_option maxRecDepth 100000 in
theorem put32_any (g a v : Nat) (c : Blk) (ha : a + 4 ≤ 256) (w : World) (h : Whole w g (blk c) 29) :
    Calls Try.prog 80 #[.slice (some ⟨g, 0, none⟩) 256 256, .int .i64 (a : Int), .int .u32 (v : Int)] w (PutPost (.bool true) g (putK c a v 4) w) := by
  have hc := Lib.hid (nput_any g a v c ha w h)
  clear h
  go_enter Try.func80, Try.ntmps80
  go_wp2_with (go_at_call 89; refine hc.out.mono ?_; rintro e w1 ⟨rfl, hw, hch⟩; have HW := Lib.hid hw; have HC := Lib.hid hch; clear hw hch)
  go_ret
  exact ⟨rfl, HW.out, HC.out⟩
set_option maxRecDepth 100000 in
theorem jput_any (g a v : Nat) (c : Blk) (ha : a + 4 ≤ 256) (w : World) (h : Whole w g (blk c) 29) :
    Calls Try.prog 66 #[.pointer (some ⟨g, 0, none⟩), .int .i64 (a : Int), .int .u32 (v : Int)] w (PutPost (.tuple #[]) g (putK c a v 4) w) := by
  have hc := Lib.hid (put32_any g a v c ha w h)
  clear h
  go_enter Try.func66, Try.ntmps66
  go_wp2_with (go_at_call 80; refine hc.out.mono ?_; rintro e w1 ⟨rfl, hw, hch⟩; have HW := Lib.hid hw; have HC := Lib.hid hch; clear hw hch)
  exact bodyPost_end (results_none rfl _ _ _) rfl ⟨rfl, HW.out, HC.out⟩
theorem jput_is {g a v : Nat} {c : Blk} {ai vi : Int} (ea : ai = (a : Nat)) (ev : vi = (v : Nat)) (ha : a + 4 ≤ 256) {w : World} (h : Whole w g (blk c) 29) :
    Calls Try.prog 66 #[.pointer (some ⟨g, 0, none⟩), .int .i64 ai, .int .u32 vi] w (PutPost (.tuple #[]) g (putK c a v 4) w) := by
  rw [ea, ev]
  exact jput_any g a v c ha w h
/-- A block with its first four numbers. -/
def begunB (k s v : Nat) : Blk := putK (putK (putK (putK (fun _ => 0) 0 1280199249 4) 4 k 4) 8 s 4) 12 v 4
set_option maxRecDepth 100000 in
set_option maxHeartbeats 400000 in
theorem begun_any (k s v : Nat) (hk : k < 256) (w : World) : Calls Try.prog 57 #[.int .u8 (k : Int), .int .u32 (s : Int), .int .u32 (v : Int)] w (GPost (.agg (blk (begunB k s v))) w) := by
  have hz := zcB
  have w1 : IntKind.u32.wrap (k : Int) = (k : Int) := IntWalk.u32_in _ (by omega)
  have t0 : True := trivial
  have H0 : Hid (Whole ((w.alloc (.cells (blk fun _ => 0) 29)).alloc (.cells (blk fun _ => 0) 29)) (w.heap.size + 1) (blk fun _ => 0) 29) := by have := Whole.new (w.alloc (.cells (blk fun _ => 0) 29)) (blk fun _ => 0) 29; unfold Hid; simpa using this
  have K0 : Hid (Whole ((w.alloc (.cells (blk fun _ => 0) 29)).alloc (.cells (blk fun _ => 0) 29)) w.heap.size (blk fun _ => 0) 29) := (Whole.new w (blk fun _ => 0) 29).alloc _
  go_enter Try.func57, Try.ntmps57
  go_wp2_with (go_at_call 66; first
    | (clear t0; refine (jput_is (a := 0) (v := 1280199249) (by simp) (by simp) (by omega) H0.out).mono ?_; rintro e w1 ⟨rfl, hw, hch⟩; have H1 := Lib.hid hw; have C1 := Lib.hid hch; clear hw hch; have t1 : True := trivial)
    | (clear t1; refine (jput_is (a := 4) (v := k) (by simp) rfl (by omega) H1.out).mono ?_; rintro e w2 ⟨rfl, hw, hch⟩; have H2 := Lib.hid hw; have C2 := Lib.hid hch; clear hw hch; have t2 : True := trivial)
    | (clear t2; refine (jput_is (a := 8) (v := s) (by simp) rfl (by omega) H2.out).mono ?_; rintro e w3 ⟨rfl, hw, hch⟩; have H3 := Lib.hid hw; have C3 := Lib.hid hch; clear hw hch; have t3 : True := trivial)
    | (clear t3; refine (jput_is (a := 12) (v := v) (by simp) rfl (by omega) H3.out).mono ?_; rintro e w4 ⟨rfl, hw, hch⟩; have H4 : Hid (Whole w4 (w.heap.size + 1) (blk (begunB k s v)) 29) := hw; have C4 := Lib.hid hch; clear hw hch; have K4 : Hid (Whole w4 w.heap.size (blk fun _ => 0) 29) := K0.out.ch (((C1.out.same C2.out).same C3.out).same C4.out) (by show ¬ (w.heap.size = w.heap.size + 1); omega); have hl := ldRow H4.out; have hs := stRow (begunB k s v) K4.out))
  refine bodyPost_ret (results_cell_row rfl _ _ w.heap.size 29 (blk (begunB k s v)) (0, 0) _ rfl (setRow_heap _ _ _ _ _ _ K4.out) Try.underlying29 rfl (sB _)) rfl ⟨rfl, ?_⟩
  refine below_setRow' ?_ (Nat.le_refl _) _
  exact (((Below.refl _ _).alloc (Nat.le_refl _) _).alloc (by simp) _).trans ((((C1.out.same C2.out).same C3.out).same C4.out).below (fun k hk => by rw [hk]; omega) (by simp; omega))
def numB (s : Nat) : Bool := decide (1 ≤ s) && decide (s ≤ 2147483648)
theorem numbered_any (s : Nat) (w : World) : Calls Try.prog 56 #[.int .u32 (s : Int)] w (fun e w' => e = .returned (.bool (numB s)) ∧ w' = w) := by
  by_cases h1 : 1 ≤ s
  · have d1 : decide ((1 : Int) ≤ (s : Int)) = true := by simp; omega
    have d2 : decide ((s : Int) ≤ 2147483648) = decide (s ≤ 2147483648) := by congr 1; exact propext (by omega)
    have d3 : decide (1 ≤ s) = true := by simpa using h1
    go_enter Try.func56, Try.ntmps56
    go_wp2_with fail
    go_ret
    refine ⟨?_, rfl⟩
    unfold numB
    first | (rw [d3]; rfl) | (rw [d3, ← d2]; rfl) | (simp only [d3, d2]; rfl)
  · have d1 : decide ((1 : Int) ≤ (s : Int)) = false := by simp; omega
    have d3 : decide (1 ≤ s) = false := by simpa using h1
    go_enter Try.func56, Try.ntmps56
    go_wp2_with fail
    go_ret
    refine ⟨?_, rfl⟩
    unfold numB
    rw [d3]
    rfl
def headB (s : Nat) : Blk := if numB s then begunB 4 s 0 else fun _ => 0
def headE (s : Nat) : Int := if numB s then 0 else 2
set_option maxRecDepth 100000 in
set_option maxHeartbeats 400000 in
theorem writeHead_any (s : Nat) (w : World) : Calls Try.prog 41 #[.agg #[.int .u32 (s : Int), .int .i64 0]] w (GPost (.tuple #[.agg (blk (headB s)), .int .i64 (headE s)]) w) := by
  have hz := zcB
  have hbd := run_buildB0
  have hnum := Lib.hid (numbered_any s)
  have K0 : Hid (Whole ((w.alloc (.cells #[.int .u32 (s : Int), .int .i64 0] 82)).alloc (.cells (blk fun _ => 0) 29)) (w.heap.size + 1) (blk fun _ => 0) 29) := by have := Whole.new (w.alloc (.cells #[.int .u32 (s : Int), .int .i64 0] 82)) (blk fun _ => 0) 29; unfold Hid; simpa using this
  have hB0 : Hid (Below w.heap.size w ((w.alloc (.cells #[.int .u32 (s : Int), .int .i64 0] 82)).alloc (.cells (blk fun _ => 0) 29))) := ((Below.refl _ _).alloc (Nat.le_refl _) _).alloc (by simp) _
  cases hn : numB s with
  | true =>
    have hB : Hid (headB s = begunB 4 s 0) := by unfold Hid headB; rw [hn]; rfl
    have hE : Hid (headE s = 0) := by unfold Hid headE; rw [hn]; rfl
    have hbeg : Hid (∀ w, Calls Try.prog 57 #[.int .u8 4, .int .u32 (s : Int), .int .u32 0] w (GPost (.agg (blk (begunB 4 s 0))) w)) := fun w => begun_any 4 s 0 (by omega) w
    have hsz : w.heap.size + 1 < ((w.alloc (.cells #[.int .u32 (s : Int), .int .i64 0] 82)).alloc (.cells (blk fun _ => 0) 29)).heap.size := by simp
    generalize begunB 4 s 0 = bb at hB hbeg
    go_enter Try.func41, Try.ntmps41
    go_wp2_with (first
      | (go_at_call 56; refine (hnum.out _).mono ?_; rintro e w1 ⟨rfl, rfl⟩; rw [hn])
      | (go_at_call 57; refine (hbeg.out _).mono ?_; rintro e w2 ⟨rfl, hb⟩; have B2 := Lib.hid hb; clear hb; have K2 := Lib.hid (K0.out.later B2.out); have hs := stRow bb K2.out))
    refine bodyPost_ret (results_cellB rfl rfl (K2.out.setRow (blk bb))) rfl ⟨?_, below_setRow' (hB0.out.trans (B2.out.mono (by simp; omega))) (by omega) _⟩
    rw [hB.out, hE.out]
    rfl
  | false =>
    have hB : Hid (headB s = fun _ => 0) := by unfold Hid headB; rw [hn]; rfl
    have hE : Hid (headE s = 2) := by unfold Hid headE; rw [hn]; rfl
    have hs := stRow (fun _ => 0) K0.out
    go_enter Try.func41, Try.ntmps41
    go_wp2_with (go_at_call 56; refine (hnum.out _).mono ?_; rintro e w1 ⟨rfl, rfl⟩; rw [hn])
    refine bodyPost_ret (results_cellB rfl rfl (K0.out.setRow (blk fun _ => 0))) rfl ⟨?_, below_setRow' hB0.out (by omega) _⟩
    rw [hB.out, hE.out]
    rfl
end Go.Proofs.Ytdeeegodiacjgaa
