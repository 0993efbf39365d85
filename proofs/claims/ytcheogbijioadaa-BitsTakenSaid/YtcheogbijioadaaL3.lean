/- quernlaw04.BitsBack returns true at every block and two numbers. Each byte is below 256. -/
import Derived.Test.YtcheogbijioadaaL2
namespace Go.Proofs.Ytcheogbijioadaa
open Go.RowKit
attribute [local go_sem ↓] loadAt23 storeAt23
attribute [local go_sem] run_big23 run_bigst23 isFree_alloc rowOf_alloc freeObj_cells objRow_cells isFree_drew rowOf_drew isFree_set rowOf_set okRow_blk nn1 nn1' nn2 nn2'

theorem flip_flip (b : Nat → Nat) (n : Nat) : flip (flip b n) n = b := by
  funext j
  unfold flip
  by_cases h : j = n / 8
  · subst h
    simp only [if_true]
    rw [Nat.xor_assoc, Nat.xor_self, Nat.xor_zero]
  · rw [if_neg h, if_neg h]
theorem hasB_flip_same (b : Nat → Nat) (n : Nat) (hn : n < 2048) : hasB (flip b n) n = !hasB b n := by
  rw [hasB_nat _ _ hn, hasB_nat _ _ hn, bv_flip, if_pos rfl]
theorem hasB_flip_other (b : Nat → Nat) (n : Nat) (k : Int) (h : ¬ (n : Int) = k) : hasB (flip b n) k = hasB b k := by
  unfold hasB
  by_cases hk : 0 ≤ k ∧ k < 2048
  · rw [bv_flip, if_neg (by omega)]
  · simp [hk]
theorem set_v (b : Nat → Nat) (hb : ∀ i, b i < 256) (g : Nat) (i : Int) (w : World) (hg : HoldsB w g b) (c : Nat → Nat) (r : Bool) (h1 : turned b i true = c) (h2 : doesTurn b i true = r) :
    Calls Try.prog 14 #[.pointer (some ⟨g, 0, none⟩), .int .i64 i] w fun e w' => e = .returned (.bool r) ∧ Below w.heap.size (w.setRow g (blk c)) w' := by
  subst h1; subst h2; exact set_u b hb g i w hg
theorem clear_v (b : Nat → Nat) (hb : ∀ i, b i < 256) (g : Nat) (i : Int) (w : World) (hg : HoldsB w g b) (c : Nat → Nat) (r : Bool) (h1 : turned b i false = c) (h2 : doesTurn b i false = r) :
    Calls Try.prog 15 #[.pointer (some ⟨g, 0, none⟩), .int .i64 i] w fun e w' => e = .returned (.bool r) ∧ Below w.heap.size (w.setRow g (blk c)) w' := by
  subst h1; subst h2; exact clear_u b hb g i w hg
/-- What the law holds: the block and a copy. -/
def T2 (w : World) (b c : Nat → Nat) (gc : Nat) (W : World) : Prop :=
  HoldsB W w.heap.size b ∧ HoldsB W gc c ∧ Below w.heap.size w W ∧ w.heap.size < gc
theorem T2.set {w W W' : World} {b c d : Nat → Nat} {gc : Nat} (h : T2 w b c gc W) (hb : Below W.heap.size (W.setRow gc (blk d)) W') : T2 w b d gc W' := by
  obtain ⟨h1, h2, h4, h5⟩ := h
  exact ⟨(h1.set_other (by omega) _).later hb h1.lt, (h2.set d).later hb h2.lt, (below_setRow' h4 (by omega) _).trans (hb.mono h4.size), h5⟩
theorem T2.later {w W W' : World} {b c : Nat → Nat} {gc : Nat} (h : T2 w b c gc W) (hb : Below W.heap.size W W') : T2 w b c gc W' := by
  obtain ⟨h1, h2, h4, h5⟩ := h
  exact ⟨h1.later hb h1.lt, h2.later hb h2.lt, h4.trans (hb.mono h4.size), h5⟩
theorem T2.same {w W : World} {b c : Nat → Nat} {gc : Nat} (h : T2 w b c gc W) : isFree W w.heap.size = true ∧ rowOf W w.heap.size = blk b ∧ isFree W gc = true ∧ rowOf W gc = blk c :=
  ⟨h.1.arr, h.1.row, h.2.1.arr, h.2.1.row⟩
theorem T2.start {w w1 : World} {b : Nat → Nat} (h : Below (w.alloc (.cells (blk b) 23)).heap.size (w.alloc (.cells (blk b) 23)) w1) : T2 w b b w1.heap.size ((w1.alloc (.cells (blk fun _ => 0) 23)).setRow w1.heap.size (blk b)) := by
  have h1 : HoldsB w1 w.heap.size b := (HoldsB.new w b 23).later h (by simp)
  have h2 : Below w.heap.size w w1 := ((Below.refl _ _).alloc (Nat.le_refl _) _).trans (h.mono (by simp))
  have h3 := h1.lt
  exact ⟨(h1.alloc _).set_other (by omega) _, grow_new _ _ _ _, below_setRow' (h2.alloc h2.size _) h2.size _, h3⟩
theorem start_facts {w w1 : World} {b : Nat → Nat} (h : Below (w.alloc (.cells (blk b) 23)).heap.size (w.alloc (.cells (blk b) 23)) w1) : isFree w1 w.heap.size = true ∧ rowOf w1 w.heap.size = blk b ∧ ¬ w.heap.size = w1.heap.size := by
  have h1 : HoldsB w1 w.heap.size b := (HoldsB.new w b 23).later h (by simp)
  exact ⟨h1.arr, h1.row, by have := h1.lt; omega⟩
theorem neq23 (b : Nat → Nat) : ∀ w, (binOp .neq 23 (.agg (blk b)) (.agg (blk b))).run Try.prog w = .ok (.bool false) w := by
  intro w
  have h := run_equalIn_blk (P := Try.prog) w 9998 23 5 Try.underlying23 Try.underlying5 one5 b b
  rw [run_neq_struct, h, blkEq_refl]
  rfl

set_option maxRecDepth 100000 in
set_option maxHeartbeats 2000000 in
theorem back_a (b : Nat → Nat) (hb : ∀ i, b i < 256) (i k : Int) (ik : Bool) (hik : (i != k) = ik) (h : ¬ (0 ≤ i ∧ i < 2048)) (w : World) :
    Calls Try.prog 10 #[.agg (blk b), .int .i64 i, .int .i64 k] w fun e w' => e = .returned (.bool true) ∧ Below w.heap.size w w' := by
  have hbH := Lib.hid hb
  clear hb
  have hz := run_zero23
  have eq1 := eql23 b b
  rw [blkEq_refl] at eq1
  have eq2 := neq23 b
  have hn := noEq23
  have hv : hasB b i = false := by unfold hasB; simp; omega
  have hs1 : Hid (turned b i true = b) := (turned_false b i false (by omega)).1
  have hs2 : Hid (doesTurn b i true = false) := (turned_false b i false (by omega)).2
  have ht1 : Hid (turned b i false = b) := (turned_false b i true (by omega)).1
  have ht2 : Hid (doesTurn b i false = false) := (turned_false b i true (by omega)).2
  have hc1 : Hid (∀ j, b j < 256) := hbH
  cases ik
  all_goals
    go_enter Try.func10, Try.ntmps10
    go_wp2_with (go_at_call 22; refine (awake_any _).mono ?_; rintro e w1 ⟨rfl, hw1⟩; have T := Lib.hid (T2.start hw1); obtain ⟨s1, s2, s3⟩ := start_facts hw1; clear hw1)
    refine (set_v b hbH.out _ _ _ T.out.2.1 _ _ hs1.out hs2.out).mono ?_
    rintro e w2 ⟨rfl, hw2⟩
    replace T := Lib.hid (T.out.set hw2)
    clear hw2 s1 s2 s3
    go_wp2
    have fa : ∀ p : Later w2, isFree p.x w.heap.size = true := fun p => (T.out.later p.h).same.1
    have fb : ∀ p : Later w2, rowOf p.x w.heap.size = blk b := fun p => (T.out.later p.h).same.2.1
    have fc : ∀ p : Later w2, isFree p.x w1.heap.size = true := fun p => (T.out.later p.h).same.2.2.1
    have fd : ∀ p : Later w2, rowOf p.x w1.heap.size = blk b := fun p => (T.out.later p.h).same.2.2.2
    refine wp_region_later (by kernel_rfl) (by kernel_rfl) ?_
    repeat (first | go_big_quiet_step ((first | (go_at_call 17; with_reducible exact Calls.later (has_b b hbH.out _ _)) | (go_at_call 17; exact Calls.later (has_b (b) hc1.out _ _)))) | quiet_step ((first | (go_at_call 17; with_reducible exact Calls.later (has_b b hbH.out _ _)) | (go_at_call 17; exact Calls.later (has_b (b) hc1.out _ _)))))
    refine wpQuiet_nil ?_
    rintro ⟨w3, hw3⟩
    dsimp only
    replace T := Lib.hid (T.out.later hw3)
    obtain ⟨t1, t2, t3, t4⟩ := T.out.same
    clear hw3 fa fb fc fd
    go_wp2_with (first | (go_at_call 15; refine (clear_v b hbH.out _ _ _ T.out.2.1 _ _ ht1.out ht2.out).mono ?_; rintro e w4 ⟨rfl, hw4⟩; replace T := Lib.hid (T.out.set hw4); obtain ⟨t1, t2, t3, t4⟩ := T.out.same; clear hw4) | (go_at_call 17; refine (has_b b hbH.out _ _).mono ?_; rintro e w4 ⟨rfl, hw4⟩; replace T := Lib.hid (T.out.later hw4); obtain ⟨t1, t2, t3, t4⟩ := T.out.same; clear hw4))
    go_ret
    exact ⟨rfl, T.out.2.2.1⟩

set_option maxRecDepth 100000 in
set_option maxHeartbeats 2000000 in
theorem back_b (b : Nat → Nat) (hb : ∀ i, b i < 256) (i k : Int) (ik : Bool) (hik : (i != k) = ik) (n : Nat) (hin : i = n) (hnn : n < 2048) (hv : hasB b i = false) (w : World) :
    Calls Try.prog 10 #[.agg (blk b), .int .i64 i, .int .i64 k] w fun e w' => e = .returned (.bool true) ∧ Below w.heap.size w w' := by
  have hbH := Lib.hid hb
  clear hb
  have hz := run_zero23
  have eq1 := eql23 b b
  rw [blkEq_refl] at eq1
  have eq2 := neq23 b
  have hn := noEq23
  subst hin
  have hs1 : Hid (turned b n true = flip b n) := (turned_true b n false ⟨by omega, by omega, hv⟩).1
  have hs2 : Hid (doesTurn b n true = true) := (turned_true b n false ⟨by omega, by omega, hv⟩).2
  have hf : hasB (flip b n) n = true := by rw [hasB_flip_same _ _ hnn, hv]; rfl
  have hfk : ik = true → hasB (flip b n) k = hasB b k := by intro h; rw [h] at hik; exact hasB_flip_other b n k (by simpa using hik)
  have hu1 : Hid (turned (flip b n) n false = b) := (turned_true (flip b n) n true ⟨by omega, by omega, hf⟩).1.trans (flip_flip b n)
  have hu2 : Hid (doesTurn (flip b n) n false = true) := (turned_true (flip b n) n true ⟨by omega, by omega, hf⟩).2
  have ht1 : Hid (turned b n false = b) := (turned_false b n true (by rw [hv]; simp)).1
  have ht2 : Hid (doesTurn b n false = false) := (turned_false b n true (by rw [hv]; simp)).2
  have hc1 : Hid (∀ j, flip b n j < 256) := flip_lt b hbH.out n
  cases ik
  all_goals
    go_enter Try.func10, Try.ntmps10
    go_wp2_with (go_at_call 22; refine (awake_any _).mono ?_; rintro e w1 ⟨rfl, hw1⟩; have T := Lib.hid (T2.start hw1); obtain ⟨s1, s2, s3⟩ := start_facts hw1; clear hw1)
    refine (set_v b hbH.out _ _ _ T.out.2.1 _ _ hs1.out hs2.out).mono ?_
    rintro e w2 ⟨rfl, hw2⟩
    replace T := Lib.hid (T.out.set hw2)
    clear hw2 s1 s2 s3
    go_wp2
    have fa : ∀ p : Later w2, isFree p.x w.heap.size = true := fun p => (T.out.later p.h).same.1
    have fb : ∀ p : Later w2, rowOf p.x w.heap.size = blk b := fun p => (T.out.later p.h).same.2.1
    have fc : ∀ p : Later w2, isFree p.x w1.heap.size = true := fun p => (T.out.later p.h).same.2.2.1
    have fd : ∀ p : Later w2, rowOf p.x w1.heap.size = blk (flip b n) := fun p => (T.out.later p.h).same.2.2.2
    refine wp_region_later (by kernel_rfl) (by kernel_rfl) ?_
    repeat (first | go_big_quiet_step ((first | (go_at_call 17; with_reducible exact Calls.later (has_b b hbH.out _ _)) | (go_at_call 17; exact Calls.later (has_b ((flip b n)) hc1.out _ _)))) | quiet_step ((first | (go_at_call 17; with_reducible exact Calls.later (has_b b hbH.out _ _)) | (go_at_call 17; exact Calls.later (has_b ((flip b n)) hc1.out _ _)))))
    refine wpQuiet_nil ?_
    rintro ⟨w3, hw3⟩
    dsimp only
    replace T := Lib.hid (T.out.later hw3)
    obtain ⟨t1, t2, t3, t4⟩ := T.out.same
    clear hw3 fa fb fc fd
    have tok : True := trivial
    go_wp2_with (first | (go_at_call 15; clear tok; refine (clear_v (flip b n) hc1.out _ _ _ T.out.2.1 _ _ hu1.out hu2.out).mono ?_; rintro e w4 ⟨rfl, hw4⟩; replace T := Lib.hid (T.out.set hw4); obtain ⟨t1, t2, t3, t4⟩ := T.out.same; clear hw4) | (go_at_call 15; refine (clear_v b hbH.out _ _ _ T.out.2.1 _ _ ht1.out ht2.out).mono ?_; rintro e w4 ⟨rfl, hw4⟩; replace T := Lib.hid (T.out.set hw4); obtain ⟨t1, t2, t3, t4⟩ := T.out.same; clear hw4) | (go_at_call 17; refine (has_b b hbH.out _ _).mono ?_; rintro e w4 ⟨rfl, hw4⟩; replace T := Lib.hid (T.out.later hw4); obtain ⟨t1, t2, t3, t4⟩ := T.out.same; clear hw4))
    go_ret
    exact ⟨rfl, T.out.2.2.1⟩

set_option maxRecDepth 100000 in
set_option maxHeartbeats 2000000 in
theorem back_c (b : Nat → Nat) (hb : ∀ i, b i < 256) (i k : Int) (ik : Bool) (hik : (i != k) = ik) (n : Nat) (hin : i = n) (hnn : n < 2048) (hv : hasB b i = true) (w : World) :
    Calls Try.prog 10 #[.agg (blk b), .int .i64 i, .int .i64 k] w fun e w' => e = .returned (.bool true) ∧ Below w.heap.size w w' := by
  have hbH := Lib.hid hb
  clear hb
  have hz := run_zero23
  have eq1 := eql23 b b
  rw [blkEq_refl] at eq1
  have eq2 := neq23 b
  have hn := noEq23
  subst hin
  have hs1 : Hid (turned b n true = b) := (turned_false b n false (by rw [hv]; simp)).1
  have hs2 : Hid (doesTurn b n true = false) := (turned_false b n false (by rw [hv]; simp)).2
  have hf : hasB (flip b n) n = false := by rw [hasB_flip_same _ _ hnn, hv]; rfl
  have ht1 : Hid (turned b n false = flip b n) := (turned_true b n true ⟨by omega, by omega, hv⟩).1
  have ht2 : Hid (doesTurn b n false = true) := (turned_true b n true ⟨by omega, by omega, hv⟩).2
  have hu1 : Hid (turned (flip b n) n true = b) := (turned_true (flip b n) n false ⟨by omega, by omega, hf⟩).1.trans (flip_flip b n)
  have hu2 : Hid (doesTurn (flip b n) n true = true) := (turned_true (flip b n) n false ⟨by omega, by omega, hf⟩).2
  have hc1 : Hid (∀ j, b j < 256) := hbH
  have hfl : Hid (∀ j, flip b n j < 256) := flip_lt b hbH.out n
  cases ik
  all_goals
    go_enter Try.func10, Try.ntmps10
    go_wp2_with (go_at_call 22; refine (awake_any _).mono ?_; rintro e w1 ⟨rfl, hw1⟩; have T := Lib.hid (T2.start hw1); obtain ⟨s1, s2, s3⟩ := start_facts hw1; clear hw1)
    refine (set_v b hbH.out _ _ _ T.out.2.1 _ _ hs1.out hs2.out).mono ?_
    rintro e w2 ⟨rfl, hw2⟩
    replace T := Lib.hid (T.out.set hw2)
    clear hw2 s1 s2 s3
    go_wp2
    have fa : ∀ p : Later w2, isFree p.x w.heap.size = true := fun p => (T.out.later p.h).same.1
    have fb : ∀ p : Later w2, rowOf p.x w.heap.size = blk b := fun p => (T.out.later p.h).same.2.1
    have fc : ∀ p : Later w2, isFree p.x w1.heap.size = true := fun p => (T.out.later p.h).same.2.2.1
    have fd : ∀ p : Later w2, rowOf p.x w1.heap.size = blk b := fun p => (T.out.later p.h).same.2.2.2
    refine wp_region_later (by kernel_rfl) (by kernel_rfl) ?_
    repeat (first | go_big_quiet_step ((first | (go_at_call 17; with_reducible exact Calls.later (has_b b hbH.out _ _)) | (go_at_call 17; exact Calls.later (has_b (b) hc1.out _ _)))) | quiet_step ((first | (go_at_call 17; with_reducible exact Calls.later (has_b b hbH.out _ _)) | (go_at_call 17; exact Calls.later (has_b (b) hc1.out _ _)))))
    refine wpQuiet_nil ?_
    rintro ⟨w3, hw3⟩
    dsimp only
    replace T := Lib.hid (T.out.later hw3)
    obtain ⟨t1, t2, t3, t4⟩ := T.out.same
    clear hw3 fa fb fc fd
    have tok : True := trivial
    go_wp2_with (first | (go_at_call 15; refine (clear_v b hbH.out _ _ _ T.out.2.1 _ _ ht1.out ht2.out).mono ?_; rintro e w4 ⟨rfl, hw4⟩; replace T := Lib.hid (T.out.set hw4); obtain ⟨t1, t2, t3, t4⟩ := T.out.same; clear hw4) | (go_at_call 14; refine (set_v (flip b n) hfl.out _ _ _ T.out.2.1 _ _ hu1.out hu2.out).mono ?_; rintro e w4 ⟨rfl, hw4⟩; replace T := Lib.hid (T.out.set hw4); obtain ⟨t1, t2, t3, t4⟩ := T.out.same; clear hw4) | (go_at_call 17; clear tok; refine (has_b b hbH.out _ _).mono ?_; rintro e w4 ⟨rfl, hw4⟩; replace T := Lib.hid (T.out.later hw4); obtain ⟨t1, t2, t3, t4⟩ := T.out.same; clear hw4) | (go_at_call 17; refine (has_b (flip b n) hfl.out _ _).mono ?_; rintro e w4 ⟨rfl, hw4⟩; replace T := Lib.hid (T.out.later hw4); obtain ⟨t1, t2, t3, t4⟩ := T.out.same; clear hw4))
    go_ret
    exact ⟨rfl, T.out.2.2.1⟩

theorem back_walk (b : Nat → Nat) (hb : ∀ i, b i < 256) (i k : Int) (w : World) :
    Calls Try.prog 10 #[.agg (blk b), .int .i64 i, .int .i64 k] w fun e w' => e = .returned (.bool true) ∧ Below w.heap.size w w' := by
  by_cases h : 0 ≤ i ∧ i < 2048
  · obtain ⟨n, hn⟩ := Int.eq_ofNat_of_zero_le h.1
    cases hv : hasB b i with
    | false => exact back_b b hb i k _ rfl n hn (by omega) hv w
    | true => exact back_c b hb i k _ rfl n hn (by omega) hv w
  · exact back_a b hb i k _ rfl h w
end Go.Proofs.Ytcheogbijioadaa
