/- What bits.turn does at a nil pointer, and at a pointer to any block. Each byte is below 256. -/
import Derived.Test.YtcheogbijioadaaW3
namespace Go.Proofs.Ytcheogbijioadaa
open Go.RowKit

theorem one5 : ∀ w, (sizeOf 5).run Try.prog w = .ok 1 w := by intro w; kernel_rfl
theorem noEq23 : Try.prog.eqGuardType Try.prog.depth 23 = false := by kernel_rfl
theorem eql23 (b c : Nat → Nat) : ∀ w, (binOp .eql 23 (.agg (blk b)) (.agg (blk c))).run Try.prog w = .ok (.bool (blkEq b c)) w :=
  fun w => run_eql_blk w 23 5 Try.underlying23 Try.underlying5 one5 b c

theorem flip_ne (b : Nat → Nat) (n : Nat) (hn : n < 2048) : blkEq (flip b n) b = false := by
  rw [Bool.eq_false_iff]
  intro h
  rw [blkEq_iff] at h
  have h1 := h (n / 8) (by omega)
  simp only [flip, if_true] at h1
  have h2 : (b (n / 8) ^^^ 2 ^ (n % 8)).testBit (n % 8) = (b (n / 8)).testBit (n % 8) := by rw [h1]
  rw [Nat.testBit_xor, Nat.testBit_two_pow_self] at h2
  simp at h2
theorem turn_nil (i : Int) (s : Bool) (w : World) :
    Calls Try.prog 24 #[.pointer none, .int .i64 i, .bool s] w fun e w' => e = .returned (.bool false) ∧ w = w' := by
  go_enter Try.func24, Try.ntmps24
  go_wp2
  go_ret
  exact ⟨rfl, rfl⟩
theorem turn_out (g : Nat) (i : Int) (s : Bool) (w : World) (hi : i < 0 ∨ 2048 ≤ i) :
    Calls Try.prog 24 #[.pointer (some ⟨g, 0, none⟩), .int .i64 i, .bool s] w fun e w' => e = .returned (.bool false) ∧ w = w' := by
  rcases hi with hi | hi
  all_goals
    go_enter Try.func24, Try.ntmps24
    go_wp2
    go_ret
    exact ⟨rfl, rfl⟩

theorem has_is (b : Nat → Nat) (hb : ∀ i, b i < 256) (i : Int) (w : World) (v : Bool) (h : hasB b i = v) :
    Calls Try.prog 17 #[.agg (blk b), .int .i64 i] w fun e w' => e = .returned (.bool v) ∧ w' = w.alloc (.cells (blk b) 23) := by
  rw [← h]; exact has_any b hb i w

set_option maxRecDepth 100000 in
set_option maxHeartbeats 400000 in
theorem turn_no (b : Nat → Nat) (hb : ∀ i, b i < 256) (g t : Nat) (i : Int) (s : Bool) (w : World) (h0 : 0 ≤ i) (h1 : i < 2048) (hg : w.heap[g]? = some (.cells (blk b) t (0, 0))) (hs : hasB b i = !s) :
    Calls Try.prog 24 #[.pointer (some ⟨g, 0, none⟩), .int .i64 i, .bool s] w fun e w' => e = .returned (.bool false) ∧ Below w.heap.size w w' := by
  have hbH := Lib.hid hb
  have hG := Lib.hid hg
  have hS := Lib.hid hs
  have d0 : decide (i < 0) = false := by simpa using h0
  have d1 : decide (2048 ≤ i) = false := by simpa using h1
  clear hb hg hs
  cases s
  all_goals
    go_enter Try.func24, Try.ntmps24
    go_wp2_with (first | (refine wpl_load_arr 23 _ rfl rfl _ rfl t (blk b) (0, 0) hG.out _ _ Try.underlying23 (info23b b) ?_) | (go_at_call 17; refine (has_is b hbH.out _ _ _ hS.out).mono ?_; rintro e w' ⟨rfl, hw⟩))
    go_ret
    exact ⟨rfl, by subst hw; exact (Below.refl _ _).alloc (Nat.le_refl _) _⟩

set_option maxRecDepth 100000 in
set_option maxHeartbeats 400000 in
theorem turn_yes (b : Nat → Nat) (hb : ∀ i, b i < 256) (g t : Nat) (i : Int) (s : Bool) (w : World) (h0 : 0 ≤ i) (h1 : i < 2048) (hg : w.heap[g]? = some (.cells (blk b) t (0, 0))) (hs : hasB b i = s) :
    Calls Try.prog 24 #[.pointer (some ⟨g, 0, none⟩), .int .i64 i, .bool s] w fun e w' => e = .returned (.bool true) ∧ Below w.heap.size (w.setRow g (blk (flip b i.toNat))) w' := by
  have hbH := Lib.hid hb
  have hG := Lib.hid hg
  have hS := Lib.hid hs
  have d0 : decide (i < 0) = false := by simpa using h0
  have d1 : decide (2048 ≤ i) = false := by simpa using h1
  clear hb hg hs
  have hz := run_zero23
  have hfb : blkEq (flip b i.toNat) b = false := flip_ne b i.toNat (by omega)
  cases s
  all_goals
    go_enter Try.func24, Try.ntmps24
    go_wp2_with (first | (refine wpl_load_arr 23 _ rfl rfl _ rfl t (blk b) (0, 0) hG.out _ _ Try.underlying23 (info23b b) ?_) | (go_at_call 17; refine (has_is b hbH.out _ _ _ hS.out).mono ?_; rintro e w' ⟨rfl, hw⟩) | (refine wpl_load_arr 23 _ rfl rfl _ rfl t (blk b) (0, 0) (heap_past_alloc hG.out) _ _ Try.underlying23 (info23b b) ?_) | (go_at_call 26; refine (with_any b hbH.out _ h0 h1 _).mono ?_; rintro e w2 ⟨rfl, hw2⟩) | (refine wpl_store_arr 23 _ _ rfl rfl _ (blk (flip b i.toNat)) rfl rfl 23 _ (heap_at_alloc _ _ _ rfl) (info23b _) (by rw [blk_size, blk_size]) (blk_one _) ?_))
    rw [World.setRow_alloc_new]
    have f1 : (w2.alloc (.cells (blk (flip b i.toNat)) 23)).heap[w2.heap.size]? = some (.cells (blk (flip b i.toNat)) 23 (0, 0)) := heap_at_alloc _ _ _ rfl
    have f2 : (w2.alloc (.cells (blk (flip b i.toNat)) 23)).heap[g]? = some (.cells (blk b) t (0, 0)) := by
      refine heap_past_alloc (heap_below hw2 ?_ ?_)
      · exact Nat.lt_of_lt_of_le (lt_of_heap hG.out) (by subst hw; simp)
      · subst hw; exact heap_past_alloc hG.out
    obtain ⟨w3, hw3⟩ : ∃ w3, w3 = w2.alloc (.cells (blk (flip b i.toNat)) 23) := ⟨_, rfl⟩
    have hq := eql23 (flip b i.toNat) b
    have hn := noEq23
    have hb3 : Below w2.heap.size w2 w3 := by rw [hw3]; exact (Below.refl _ _).alloc (Nat.le_refl _) _
    rw [← hw3] at f1 f2 ⊢
    have hW := Lib.hid hw
    clear hz hw3 hw
    go_frame
    have hg3 : g < w3.heap.size := lt_of_heap f2
    have hg2 : w2.heap.size < w3.heap.size := lt_of_heap f1
    have F1 := Lib.hid f1
    have F2 := Lib.hid f2
    clear f1 f2
    refine wp_region_later (by kernel_rfl) (by kernel_rfl) ?_
    repeat (first | (refine wpq_load_arr 23 _ rfl rfl _ rfl 23 _ (0, 0) (by rintro _ ⟨p, rfl⟩; exact heap_below p.h hg2 F1.out) _ _ Try.underlying23 (info23b _) ?_) | (refine wpq_load_arr 23 _ rfl rfl _ rfl t _ (0, 0) (by rintro _ ⟨p, rfl⟩; exact heap_below p.h hg3 F2.out) _ _ Try.underlying23 (info23b _) ?_) | quiet_step (fail))
    refine wpQuiet_nil ?_
    rintro ⟨w4, hw4⟩
    dsimp only
    have hn4 : w3.heap.size ≤ w4.heap.size := hw4.size
    have f3 := heap_below hw4 hg2 F1.out
    have f4 := heap_below hw4 hg3 F2.out
    have F3 := Lib.hid f3
    have F4 := Lib.hid f4
    clear f3 f4
    go_wp2_with (first | (refine wpl_load_arr 23 _ rfl rfl _ rfl 23 _ (0, 0) F3.out _ _ Try.underlying23 (info23b _) ?_) | (refine wpl_store_arr 23 _ _ rfl rfl _ (blk (flip b i.toNat)) rfl rfl t _ F4.out (info23b _) (by rw [blk_size, blk_size]) (blk_one _) ?_))
    go_ret
    have hbw : Below w.heap.size w w2 := by
      have := hW.out
      subst this
      exact ((Below.refl _ _).alloc (Nat.le_refl _) _).trans (hw2.mono (by simp))
    exact ⟨rfl, below_setRow_both ((hbw.trans (hb3.mono hbw.size)).trans (hw4.mono (Nat.le_trans hbw.size hb3.size))) (lt_of_heap hG.out) _⟩
end Go.Proofs.Ytcheogbijioadaa
