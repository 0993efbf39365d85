/- What quernref04.Block and Turn do at any bits and any block. Each byte is below 256. -/
import Derived.Test.YtcheogbijioadaaW7
namespace Go.Proofs.Ytcheogbijioadaa
open Go.RowKit

/-- The number that m bits of byte i make, the highest first. -/
def bb (f : Nat → Bool) (i : Nat) : Nat → Nat
  | 0 => 0
  | m + 1 => 2 * bb f i m + if f (8 * i + (7 - m)) = true then 1 else 0
theorem bb_lt (f : Nat → Bool) (i : Nat) : ∀ m, bb f i m < 2 ^ m
  | 0 => by simp [bb]
  | m + 1 => by
    have := bb_lt f i m
    unfold bb
    rw [Nat.pow_succ]
    split <;> omega
theorem bb_bit (f : Nat → Bool) (i : Nat) : ∀ m, m ≤ 8 → ∀ j, j < m → (bb f i m).testBit j = f (8 * i + (8 - m + j))
  | 0, _, j, h => by omega
  | m + 1, hm, j, h => by
    have ih := bb_bit f i m (by omega)
    unfold bb
    cases j with
    | zero =>
      rw [Nat.testBit_zero]
      have e : 8 * i + (8 - (m + 1) + 0) = 8 * i + (7 - m) := by omega
      rw [e]
      cases hf : f (8 * i + (7 - m)) <;> simp
    | succ j =>
      rw [Nat.testBit_succ]
      have e : 8 * i + (8 - (m + 1) + (j + 1)) = 8 * i + (8 - m + j) := by omega
      rw [e, ← ih j (by omega)]
      congr 1
      split <;> omega
theorem bb_of_bits (b : Nat → Nat) (hb : ∀ i, b i < 256) (i : Nat) : bb (bv b) i 8 = b i := by
  apply Nat.eq_of_testBit_eq
  intro j
  by_cases hj : j < 8
  · rw [bb_bit _ _ 8 (by omega) j hj]
    unfold bv
    have e1 : (8 * i + (8 - 8 + j)) / 8 = i := by omega
    have e2 : (8 * i + (8 - 8 + j)) % 8 = j := by omega
    rw [e1, e2]
  · have h1 : bb (bv b) i 8 < 2 ^ j := Nat.lt_of_lt_of_le (bb_lt _ _ 8) (Nat.pow_le_pow_right (by omega) (by omega))
    have h2 : b i < 2 ^ j := Nat.lt_of_lt_of_le (show b i < 2 ^ 8 from hb i) (Nat.pow_le_pow_right (by omega) (by omega))
    rw [Nat.testBit_lt_two_pow h1, Nat.testBit_lt_two_pow h2]
theorem flip_lt (b : Nat → Nat) (hb : ∀ i, b i < 256) (n : Nat) : ∀ i, flip b n i < 256 := by
  intro i
  unfold flip
  split
  · exact Nat.xor_lt_two_pow (n := 8) (hb _) (pow_lt8 _ (by omega))
  · exact hb i
theorem bv_flip (b : Nat → Nat) (n i : Nat) : bv (flip b n) i = if i = n then !bv b n else bv b i := by
  unfold bv flip
  by_cases h : i / 8 = n / 8
  · rw [if_pos h, Nat.testBit_xor, Nat.testBit_two_pow]
    by_cases e : i = n
    · subst e; simp
    · have : ¬ n % 8 = i % 8 := by omega
      simp [e, this, h]
  · have e : ¬ i = n := fun e => h (by rw [e])
    rw [if_neg h, if_neg e]
theorem bb_congr {f g : Nat → Bool} (i : Nat) : ∀ m, m ≤ 8 → (∀ j, j < 8 → f (8 * i + j) = g (8 * i + j)) → bb f i m = bb g i m
  | 0, _, _ => rfl
  | m + 1, hm, h => by
    unfold bb
    rw [bb_congr i m (by omega) h, h (7 - m) (by omega)]

def BBRel (f : Nat → Bool) (i : Nat) (x k : Value) : Prop := ∃ m : Nat, m ≤ 8 ∧ k = .int .i64 (7 - (m : Int)) ∧ x = .int .i64 (bb f i m : Nat)
theorem BBRel.next {f : Nat → Bool} {i m : Nat} {x : Int} (hm : m < 8) (hx : x = (bb f i (m + 1) : Nat)) : BBRel f i (.int .i64 x) (.int .i64 (7 - (m : Int) - 1)) :=
  ⟨m + 1, by omega, by congr 1; omega, by rw [hx]⟩
def BlkInv (f : Nat → Bool) (B : Nat) (w wr : World) (n : Nat) : Prop :=
  wr.heap[B]? = some (.cells (bools f) 4 (0, 0)) ∧ wr.heap[w.heap.size]? = some (.cells (blk fun _ => 0) 23 (0, 0)) ∧ wr.heap[w.heap.size + 1]? = some (.cells (blk fun j => if j < n then bb f j 8 else 0) 23 (0, 0)) ∧ Below w.heap.size w wr
def BlkRel (f : Nat → Bool) (B : Nat) (w : World) (v : Value) (wr : World) : Prop := ∃ n : Nat, v = .int .i64 n ∧ n ≤ 256 ∧ BlkInv f B w wr n
theorem BlkInv.step {f : Nat → Bool} {B n : Nat} {w wr : World} (h : BlkInv f B w wr n) (hB : B < w.heap.size) (hn : n < 256) : BlkInv f B w (wr.setCell ⟨w.heap.size + 1, n, none⟩ (.int .u8 ((bb f n 8 : Nat) : Int))) (n + 1) := by
  obtain ⟨h1, h2, h3, h4⟩ := h
  refine ⟨?_, ?_, ?_, h4.setCell (by simp) _⟩
  · rw [heap_setCell_other _ _ _ _ (show B ≠ w.heap.size + 1 by omega)]; exact h1
  · rw [heap_setCell_other _ _ _ _ (show w.heap.size ≠ w.heap.size + 1 by omega)]; exact h2
  · rw [heap_setCell_same _ _ _ _ _ _ h3, blk_set _ _ _ hn]
    refine congrArg (fun c => some (Obj.cells c 23 (0, 0))) (blk_ext fun i hi => ?_)
    by_cases e : i = n
    · subst e; simp
    · have : (i < n + 1) = (i < n) := by rw [eq_iff_iff]; omega
      simp [e, this]

set_option maxRecDepth 100000 in
set_option maxHeartbeats 1000000 in
theorem block_any (f : Nat → Bool) (B : Nat) (w : World) (hg : w.heap[B]? = some (.cells (bools f) 4 (0, 0))) :
    Calls Try.prog 25 #[.slice (some ⟨B, 0, none⟩) 2048 2048] w fun e w' => e = .returned (.agg (blk fun j => bb f j 8)) ∧ Below w.heap.size w w' := by
  have hBlt : Hid (B < w.heap.size) := lt_of_heap hg
  have hG := Lib.hid hg
  clear hg
  have hz := run_zero23
  go_enter Try.func25, Try.ntmps25
  go_wp2
  clear hz
  go_loopw [4] (fun v wr => BlkRel f B w v wr) (fun v _ => (256 - intOf v).toNat)
  case atStart =>
    refine ⟨0, rfl, by omega, ?_, ?_, ?_, ((Below.refl _ _).alloc (Nat.le_refl _) _).alloc (by simp) _⟩
    · exact heap_past_alloc (heap_past_alloc hG.out)
    · exact heap_past_alloc (heap_at_alloc _ _ _ rfl)
    · exact heap_at_alloc _ _ _ (by simp)
  case round =>
    obtain ⟨n, rfl, hn, hI⟩ := hrel
    have hIH := Lib.hid hI
    clear hI
    by_cases hlt : n < 256
    · have hc2 : wr.cell? ⟨w.heap.size + 1, n, none⟩ = some (.int .u8 (((if n < n then bb f n 8 else 0 : Nat)) : Int)) := by
        rw [cell_of_row wr _ _ _ _ _ hIH.out.2.2.1, blk_get _ _ hlt]
      have hf2 : wr.frozen? ⟨w.heap.size + 1, n, none⟩ = false := frozen_of_row wr _ _ _ _ hIH.out.2.2.1
      go_wp2
      go_loop [5, 6] (fun x k => BBRel f n x k) (fun _ k => (intOf k + 1).toNat)
      case atStart => exact ⟨0, by omega, rfl, rfl⟩
      case round =>
        obtain ⟨m, hm, rfl, rfl⟩ := hrel
        have hlt2 : bb f n m < 2 ^ m := bb_lt f n m
        have hle : bb f n m ≤ 256 := by
          have : 2 ^ m ≤ 2 ^ 8 := Nat.pow_le_pow_right (by omega) hm
          omega
        clear hlt2
        by_cases hm8 : m < 8
        · have hcell : wr.cell? ⟨B, 8 * n + (7 - m), none⟩ = some (.bool (f (8 * n + (7 - m)))) := by
            rw [cell_of_row wr _ _ _ _ _ hIH.out.1, bools_get _ _ (by omega)]
          have hs : bb f n (m + 1) = 2 * bb f n m + if f (8 * n + (7 - m)) = true then 1 else 0 := rfl
          have hS := Lib.hid hs
          clear hs
          have hidx : (8 * (n : Int) + (7 - (m : Int))).toNat = 8 * n + (7 - m) := by omega
          go_wp2
          · exact ⟨BBRel.next hm8 (by rw [hS.out, if_pos (by assumption)]; rfl), by simp [intOf]; omega⟩
          · exact ⟨BBRel.next hm8 (by rw [hS.out, if_neg (by simp_all)]; simp), by simp [intOf]; omega⟩
        · obtain rfl : m = 8 := by omega
          have h256 : Hid (bb f n 8 < 256) := bb_lt f n 8
          have hwr : IntKind.u8.wrap ((bb f n 8 : Nat) : Int) = ((bb f n 8 : Nat) : Int) := wrap_u8 _ h256.out
          have hst := Lib.hid (hIH.out.step hBlt.out hlt)
          go_wp2
          exact ⟨⟨n + 1, by go_num, by omega, hst.out⟩, by simp [intOf]; omega⟩
    · obtain rfl : n = 256 := by omega
      obtain ⟨h1, h2, h3, h4⟩ := hIH.out
      have h3' : wr.heap[w.heap.size + 1]? = some (.cells (blk fun j => bb f j 8) 23 (0, 0)) := by
        rw [h3]; exact congrArg (fun c => some (Obj.cells c 23 (0, 0))) (blk_ext fun i hi => by simp [hi])
      have H2 := Lib.hid h2
      have H3 := Lib.hid h3'
      have H4 := Lib.hid h4
      clear h1 h2 h3 h4 h3' hIH
      go_wp2_with (first | (refine wpl_load_arr 23 _ rfl rfl _ rfl 23 _ (0, 0) H3.out _ _ Try.underlying23 (info23b _) ?_) | (refine wpl_store_arr 23 _ _ rfl rfl _ (blk fun j => bb f j 8) rfl rfl 23 _ H2.out (info23b _) (by rw [blk_size, blk_size]) (blk_one _) ?_))
      refine bodyPost_ret (results_cell_row rfl _ _ w.heap.size 23 _ (0, 0) _ rfl (setRow_heap _ _ _ _ _ _ H2.out) Try.underlying23 rfl (info23b _)) rfl ⟨rfl, below_setRow' H4.out (by omega) _⟩

theorem results_cell_tmp_arr {P : Program} {fn : Func} {p u : Tmp} {ty : TypeId} (h : fn.results = #[.cell p ty, .tmp u]) (tmps : Array Value) (w : World) (g : Nat) (t : TypeId) (cs : Array Value) (fr : Nat × Nat) (d : TypeDesc)
    (hp : tmps.getD p undef = .pointer (some ⟨g, 0, none⟩)) (hg : w.heap[g]? = some (.cells cs t fr))
    (hu : P.underlying ty = some d) (hd : (match d with | .struct _ | .array _ _ => true | _ => false) = true) (hi : (P.info? ty).map (·.size) = some cs.size) :
    (results fn tmps).run P w = .ok (.tuple #[.agg cs, tmps.getD u undef]) w := by
  have hp' : tmps[p]?.getD undef = .pointer (some ⟨g, 0, none⟩) := by simpa using hp
  simp [results, h, hp', asAddr, run_loadVar_row w g t ty cs fr d hg hu hd hi]

/-- The block that Turn answers, and whether it was turned. -/
def turned (b : Nat → Nat) (i : Int) (s : Bool) : Nat → Nat := if 0 ≤ i ∧ i < 2048 ∧ hasB b i = !s then flip b i.toNat else b
def doesTurn (b : Nat → Nat) (i : Int) (s : Bool) : Bool := decide (0 ≤ i ∧ i < 2048) && (hasB b i == !s)
def RTPost (b : Nat → Nat) (i : Int) (s : Bool) (w : World) (e : Ending) (w' : World) : Prop :=
  e = .returned (.tuple #[.agg (blk (turned b i s)), .bool (doesTurn b i s)]) ∧ Below w.heap.size w w'
theorem rt_no {b : Nat → Nat} {i : Int} {s : Bool} {w w' : World} (h : ¬ (0 ≤ i ∧ i < 2048 ∧ hasB b i = !s)) (hw : Below w.heap.size w w') :
    RTPost b i s w (.returned (.tuple #[.agg (blk b), .bool false])) w' := by
  refine ⟨?_, hw⟩
  unfold turned
  rw [if_neg h]
  have : doesTurn b i s = false := by
    unfold doesTurn
    rw [Bool.eq_false_iff]
    intro h2
    simp only [Bool.and_eq_true, decide_eq_true_eq, beq_iff_eq] at h2
    exact h ⟨h2.1.1, h2.1.2, h2.2⟩
  rw [this]
theorem rt_yes {b : Nat → Nat} {hb : ∀ i, b i < 256} {n : Nat} {s : Bool} {w w' : World} (h1 : n < 2048) (h2 : bv b n = !s) (hw : Below w.heap.size w w') :
    RTPost b n s w (.returned (.tuple #[.agg (blk fun j => bb (fun i => if i = n then s else bv b i) j 8), .bool true])) w' := by
  have hh : hasB b n = !s := by rw [hasB_nat _ _ h1, h2]
  refine ⟨?_, hw⟩
  unfold turned
  rw [if_pos ⟨by omega, by omega, hh⟩]
  have e : doesTurn b n s = true := by
    unfold doesTurn
    simp [hh]
    omega
  rw [e]
  have e2 : blk (fun j => bb (fun i => if i = n then s else bv b i) j 8) = blk (flip b ((n : Int).toNat)) := by
    refine blk_ext fun j hj => ?_
    have hf := bb_of_bits (flip b n) (flip_lt b hb n) j
    have e3 : ((n : Int).toNat) = n := by omega
    rw [e3]
    refine Eq.trans (bb_congr j 8 (by omega) fun k hk => ?_) hf
    rw [bv_flip]
    by_cases e : 8 * j + k = n
    · rw [if_pos e, if_pos e, h2]; simp
    · rw [if_neg e, if_neg e]
  rw [e2]

theorem rt_facts {b c : Nat → Nat} {w w1 : World} (hw : Below ((w.alloc (.cells (blk b) 23)).alloc (.cells (blk c) 23)).heap.size ((w.alloc (.cells (blk b) 23)).alloc (.cells (blk c) 23)) w1) :
    w1.heap[w.heap.size]? = some (.cells (blk b) 23 (0, 0)) ∧ w1.heap[w.heap.size + 1]? = some (.cells (blk c) 23 (0, 0)) ∧ Below w.heap.size w w1 :=
  ⟨heap_below hw (by simp; omega) (heap_past_alloc (heap_at_alloc _ _ _ rfl)), heap_below hw (by simp) (heap_at_alloc _ _ _ (by simp)), (((Below.refl _ _).alloc (Nat.le_refl _) _).alloc (by simp) _).trans (hw.mono (by simp; omega))⟩
theorem rt_le {w : World} {o o' : Obj} {B : Nat} (h : ((w.alloc o).alloc o').heap.size ≤ B) : w.heap.size + 1 + 1 ≤ B := by simpa using h
theorem rt_cell {w1 : World} {f : Nat → Bool} {B n : Nat} (hc : w1.heap[B]? = some (.cells (bools f) 4 (0, 0))) (hn : n < 2048) : w1.cell? ⟨B, n, none⟩ = some (.bool (f n)) := by
  rw [cell_of_row _ _ _ _ _ _ hc, bools_get _ _ hn]
theorem rt_facts2 {b c : Nat → Nat} {w w1 w2 : World} {B n : Nat} {v : Value} (F : w1.heap[w.heap.size]? = some (.cells (blk b) 23 (0, 0)) ∧ w1.heap[w.heap.size + 1]? = some (.cells (blk c) 23 (0, 0)) ∧ Below w.heap.size w w1)
    (hB : w.heap.size + 1 + 1 ≤ B) (hw2 : Below (w1.setCell ⟨B, n, none⟩ v).heap.size (w1.setCell ⟨B, n, none⟩ v) w2) : w2.heap[w.heap.size + 1]? = some (.cells (blk c) 23 (0, 0)) ∧ Below w.heap.size w w2 := by
  have h1 : (w1.setCell ⟨B, n, none⟩ v).heap[w.heap.size + 1]? = some (.cells (blk c) 23 (0, 0)) := by
    rw [heap_setCell_other _ _ _ _ (show w.heap.size + 1 ≠ B by omega)]; exact F.2.1
  have h2 : Below w.heap.size w (w1.setCell ⟨B, n, none⟩ v) := F.2.2.setCell (show w.heap.size ≤ B by omega) _
  exact ⟨heap_below hw2 (lt_of_heap h1) h1, h2.trans (hw2.mono h2.size)⟩

set_option maxRecDepth 100000 in
set_option maxHeartbeats 1000000 in
theorem refTurn_any (b : Nat → Nat) (hb : ∀ i, b i < 256) (i : Int) (s : Bool) (w : World) :
    Calls Try.prog 16 #[.agg (blk b), .int .i64 i, .bool s] w (RTPost b i s w) := by
  have hbH := Lib.hid hb
  clear hb
  have hz := run_zero23
  have hcase : i < 0 ∨ (0 ≤ i ∧ 2048 ≤ i) ∨ (0 ≤ i ∧ i < 2048) := by omega
  rcases hcase with h0 | ⟨h0, h1⟩ | ⟨h0, h1⟩
  · have d0 : decide (i < 0) = true := by simpa using h0
    go_enter Try.func16, Try.ntmps16
    go_wp2_with (first | (refine wpl_load_arr 23 _ rfl rfl _ rfl 23 _ (0, 0) (heap_past_alloc (heap_at_alloc _ _ _ rfl)) _ _ Try.underlying23 (info23b _) ?_) | (go_at_call 12; refine (of_any b hbH.out _).mono ?_; rintro e w1 ⟨B, rfl, hB, hc, hw⟩; have hc1 := Lib.hid hc; have F := Lib.hid (rt_facts hw); have hBB := Lib.hid hB; clear hc hw hB) | (refine wpl_load_arr 23 _ rfl rfl _ rfl 23 _ (0, 0) F.out.1 _ _ Try.underlying23 (info23b _) ?_) | (refine wpl_store_arr 23 _ _ rfl rfl _ (blk b) rfl rfl 23 _ F.out.2.1 (info23b _) (by rw [blk_size, blk_size]) (blk_one _) ?_))
    refine bodyPost_ret (results_cell_tmp_arr rfl _ _ (w.heap.size + 1) 23 (blk b) (0, 0) _ rfl (setRow_heap _ _ _ _ _ _ F.out.2.1) Try.underlying23 rfl (info23b _)) rfl ?_
    exact rt_no (by omega) (below_setRow' F.out.2.2 (by omega) _)
  · have d0 : decide (i < 0) = false := by simpa using h0
    have d1 : decide (2048 ≤ i) = true := by simpa using h1
    go_enter Try.func16, Try.ntmps16
    go_wp2_with (first | (refine wpl_load_arr 23 _ rfl rfl _ rfl 23 _ (0, 0) (heap_past_alloc (heap_at_alloc _ _ _ rfl)) _ _ Try.underlying23 (info23b _) ?_) | (go_at_call 12; refine (of_any b hbH.out _).mono ?_; rintro e w1 ⟨B, rfl, hB, hc, hw⟩; have hc1 := Lib.hid hc; have F := Lib.hid (rt_facts hw); have hBB := Lib.hid hB; clear hc hw hB) | (refine wpl_load_arr 23 _ rfl rfl _ rfl 23 _ (0, 0) F.out.1 _ _ Try.underlying23 (info23b _) ?_) | (refine wpl_store_arr 23 _ _ rfl rfl _ (blk b) rfl rfl 23 _ F.out.2.1 (info23b _) (by rw [blk_size, blk_size]) (blk_one _) ?_))
    refine bodyPost_ret (results_cell_tmp_arr rfl _ _ (w.heap.size + 1) 23 (blk b) (0, 0) _ rfl (setRow_heap _ _ _ _ _ _ F.out.2.1) Try.underlying23 rfl (info23b _)) rfl ?_
    exact rt_no (by omega) (below_setRow' F.out.2.2 (by omega) _)
  · have d0 : decide (i < 0) = false := by simpa using h0
    have d1 : decide (2048 ≤ i) = false := by simpa using h1
    obtain ⟨n, rfl⟩ := Int.eq_ofNat_of_zero_le h0
    have hn : n < 2048 := by omega
    by_cases hv : bv b n = s
    · have hS := Lib.hid hv
      have hs2 : (bv b n == s) = true := by simpa using hv
      clear hv
      go_enter Try.func16, Try.ntmps16
      go_wp2_with (first | (refine wpl_load_arr 23 _ rfl rfl _ rfl 23 _ (0, 0) (heap_past_alloc (heap_at_alloc _ _ _ rfl)) _ _ Try.underlying23 (info23b _) ?_) | (go_at_call 12; refine (of_any b hbH.out _).mono ?_; rintro e w1 ⟨B, rfl, hB, hc, hw⟩; have F := Lib.hid (rt_facts hw); have hcell := rt_cell hc hn; clear hc hw hB) | (refine wpl_load_arr 23 _ rfl rfl _ rfl 23 _ (0, 0) F.out.1 _ _ Try.underlying23 (info23b _) ?_) | (refine wpl_store_arr 23 _ _ rfl rfl _ (blk b) rfl rfl 23 _ F.out.2.1 (info23b _) (by rw [blk_size, blk_size]) (blk_one _) ?_))
      refine bodyPost_ret (results_cell_tmp_arr rfl _ _ (w.heap.size + 1) 23 (blk b) (0, 0) _ rfl (setRow_heap _ _ _ _ _ _ F.out.2.1) Try.underlying23 rfl (info23b _)) rfl ?_
      exact rt_no (by rw [hasB_nat _ _ hn, hS.out]; simp) (below_setRow' F.out.2.2 (by omega) _)
    · have hv' : bv b n = !s := by cases s <;> simpa using hv
      have hS := Lib.hid hv'
      have hs2 : (bv b n == s) = false := by simpa using hv
      clear hv hv'
      go_enter Try.func16, Try.ntmps16
      go_wp2_with (first | (refine wpl_load_arr 23 _ rfl rfl _ rfl 23 _ (0, 0) (heap_past_alloc (heap_at_alloc _ _ _ rfl)) _ _ Try.underlying23 (info23b _) ?_) | (go_at_call 12; refine (of_any b hbH.out _).mono ?_; rintro e w1 ⟨B, rfl, hB, hc, hw⟩; have hc1 := Lib.hid hc; have F := Lib.hid (rt_facts hw); have hBB := Lib.hid (rt_le hB); have hcell := rt_cell hc hn; have hfz := frozen_of_row _ _ n _ _ hc; clear hc hw hB))
      refine (block_any (fun i => if i = n then s else bv b i) B _ (by rw [heap_setCell_same _ _ _ _ _ _ hc1.out, bools_set _ _ _ hn])).mono ?_
      rintro e w2 ⟨rfl, hw2⟩
      have G := Lib.hid (rt_facts2 F.out hBB.out hw2)
      go_wp2_with (refine wpl_store_arr 23 _ _ rfl rfl _ (blk _) rfl rfl 23 _ G.out.1 (info23b _) (by rw [blk_size, blk_size]) (blk_one _) ?_)
      refine bodyPost_ret (results_cell_tmp_arr rfl _ _ (w.heap.size + 1) 23 (blk _) (0, 0) _ rfl (setRow_heap _ _ _ _ _ _ G.out.1) Try.underlying23 rfl (info23b _)) rfl ?_
      exact rt_yes (hb := hbH.out) hn hS.out (below_setRow' G.out.2 (by omega) _)
end Go.Proofs.Ytcheogbijioadaa
