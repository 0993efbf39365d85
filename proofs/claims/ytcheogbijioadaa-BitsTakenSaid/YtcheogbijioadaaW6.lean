/- What quernref04.Of does at any block. Each byte is below 256. -/
import Derived.Test.YtcheogbijioadaaW5
namespace Go.Proofs.Ytcheogbijioadaa
open Go.RowKit

def bools (f : Nat → Bool) : Array Value := Array.ofFn (n := 2048) fun i => .bool (f i)
theorem bools_size (f : Nat → Bool) : (bools f).size = 2048 := by simp [bools]
theorem bools_get (f : Nat → Bool) (i : Nat) (h : i < 2048) : (bools f)[i]? = some (.bool (f i)) := by simp [bools, h]
theorem bools_set (f : Nat → Bool) (i : Nat) (v : Bool) (_h : i < 2048) : (bools f).setIfInBounds i (.bool v) = bools (fun j => if j = i then v else f j) := by
  apply Array.ext_getElem?
  intro j
  rw [Array.getElem?_setIfInBounds]
  by_cases hj : j < 2048
  · by_cases e : i = j
    · subst e; simp [bools, hj]
    · have e' : ¬ j = i := fun x => e x.symm
      simp [bools, hj, e, e']
  · by_cases e : i = j
    · subst e; omega
    · simp [bools, hj, e]
theorem bools_ext {f g : Nat → Bool} (h : ∀ i, i < 2048 → f i = g i) : bools f = bools g := by
  unfold bools
  congr 1
  funext i
  rw [h i i.2]
theorem info4 : (Try.prog.info? 4).map (fun i => (i.zero, i.size, i.bytes)) = some (some (.bool false), 1, 1) := by kernel_rfl
theorem mk27 : ∀ w, (Instr.makeSlice 27 (.int .i64 2048) (.int .i64 2048)).run Try.prog w = .ok (.slice (some ⟨w.heap.size, 0, none⟩) 2048 2048) (w.alloc (.cells (bools fun _ => false) 4)) := by
  intro w
  obtain ⟨i0, hi, hz0, hz1, hz2⟩ := info_parts info4
  have := run_makeSlice (P := Try.prog) (w := w) 27 4 i0 (.bool false) Try.underlying27 hi hz0 .i64 .i64 2048 2048 (by omega) (by omega) (by rw [hz1]; omega) (by rw [hz2]; omega) (by omega)
  rw [this, hz1]
  have e : madeCells (Value.bool false).cells 2048 = bools fun _ => false := by
    apply Array.ext_getElem?
    intro j
    by_cases hj : j < 2048
    · rw [bools_get _ _ hj]
      simp [madeCells, Value.cells, hj, Nat.mod_one]
    · simp [madeCells, bools, hj]
  have e1 : (2048 : Int).toNat = 2048 := rfl
  rw [e1, Nat.mul_one, e]

theorem bv_div (b : Nat → Nat) (n : Nat) : (((b (n / 8) / 2 ^ (n % 8) : Nat) : Int) % 2 == 1) = bv b n := by
  unfold bv
  rw [Nat.testBit_eq_decide_div_mod_eq]
  generalize b (n / 8) / 2 ^ (n % 8) = x
  rw [Bool.eq_iff_iff, beq_iff_eq, decide_eq_true_eq]
  omega

def OfPost (b : Nat → Nat) (w : World) (e : Ending) (w' : World) : Prop :=
  ∃ B, e = .returned (.slice (some ⟨B, 0, none⟩) 2048 2048) ∧ w.heap.size ≤ B ∧ w'.heap[B]? = some (.cells (bools (bv b)) 4 (0, 0)) ∧ Below w.heap.size w w'
def OfInv (b : Nat → Nat) (w : World) (n : Nat) (wr : World) : Prop :=
  wr.heap[w.heap.size]? = some (.cells (blk b) 23 (0, 0)) ∧ wr.heap[w.heap.size + 1]? = some (.cells (bools fun j => decide (j < n) && bv b j) 4 (0, 0)) ∧ Below w.heap.size w wr
theorem OfInv.step {b : Nat → Nat} {w wr : World} {n : Nat} (h : OfInv b w n wr) (hn : n < 2048) : OfInv b w (n + 1) (wr.setCell ⟨w.heap.size + 1, n, none⟩ (.bool (bv b n))) := by
  obtain ⟨h1, h2, h3⟩ := h
  refine ⟨?_, ?_, h3.setCell (by simp) _⟩
  · rw [heap_setCell_other _ _ _ _ (by simp)]; exact h1
  · rw [heap_setCell_same _ _ _ _ _ _ h2, bools_set _ _ _ hn]
    refine congrArg (fun c => some (Obj.cells c 4 (0, 0))) (bools_ext fun i hi => ?_)
    by_cases e : i = n
    · subst e; simp
    · have : (i < n + 1) = (i < n) := by rw [eq_iff_iff]; omega
      simp [e, this]
def OfRel (b : Nat → Nat) (w : World) (v : Value) (wr : World) : Prop := ∃ n : Nat, v = .int .i64 n ∧ n ≤ 2048 ∧ OfInv b w n wr
def HalfRel (x : Nat) (m : Nat) (v k : Value) : Prop := ∃ j : Nat, k = .int .i64 j ∧ j ≤ m ∧ v = .int .i64 ((x / 2 ^ j : Nat) : Int)

set_option maxRecDepth 100000 in
set_option maxHeartbeats 1000000 in
theorem of_any (b : Nat → Nat) (hb : ∀ i, b i < 256) (w : World) :
    Calls Try.prog 12 #[.agg (blk b)] w (OfPost b w) := by
  have hbH := Lib.hid hb
  clear hb
  have hmk := mk27
  go_enter Try.func12, Try.ntmps12
  go_wp2
  clear hmk
  go_loopw [4] (fun v wr => OfRel b w v wr) (fun v _ => (2048 - intOf v).toNat)
  case atStart =>
    exact ⟨0, rfl, by omega, heap_past_alloc (heap_at_alloc _ _ _ rfl), by
      have := heap_at_alloc (w.alloc (.cells (blk b) 23)) (.cells (bools fun _ => false) 4) (w.heap.size + 1) (by simp)
      simpa using this, ((Below.refl _ _).alloc (Nat.le_refl _) _).alloc (by simp) _⟩
  case round =>
    obtain ⟨n, rfl, hn, hI⟩ := hrel
    have hIH := Lib.hid hI
    clear hI
    by_cases hlt : n < 2048
    · have hcell : wr.cell? ⟨w.heap.size, n / 8, none⟩ = some (.int .u8 ((b (n / 8) : Nat) : Int)) := by
        rw [cell_of_row wr _ _ _ _ _ hIH.out.1, blk_get _ _ (by omega)]
      have hc2 : wr.cell? ⟨w.heap.size + 1, n, none⟩ = some (.bool (decide (n < n) && bv b n)) := by
        rw [cell_of_row wr _ _ _ _ _ hIH.out.2.1, bools_get _ _ hlt]
      have hf2 : wr.frozen? ⟨w.heap.size + 1, n, none⟩ = false := frozen_of_row wr _ _ _ _ hIH.out.2.1
      have e1 : ((n : Int) / 8).toNat = n / 8 := by omega
      have hx1 : b (n / 8) < 256 := hbH.out _
      obtain ⟨x, hx⟩ : ∃ x, x = b (n / 8) := ⟨_, rfl⟩
      rw [← hx] at hcell hx1
      have hX := Lib.hid hx
      clear hx
      go_wp2
      go_loop [5, 6] (fun v k => HalfRel x (n % 8) v k) (fun _ k => (8 - intOf k).toNat)
      case atStart => exact ⟨0, rfl, by omega, by simp⟩
      case round =>
        obtain ⟨j, rfl, hj, rfl⟩ := hrel
        have hy : x / 2 ^ j < 256 := Nat.lt_of_le_of_lt (Nat.div_le_self _ _) hx1
        have hdiv : x / 2 ^ (j + 1) = x / 2 ^ j / 2 := by rw [Nat.pow_succ, Nat.div_div_eq_div_mul]
        obtain ⟨y, hyy⟩ : ∃ y, y = x / 2 ^ j := ⟨_, rfl⟩
        rw [← hyy] at hy hdiv ⊢
        have hD := Lib.hid hdiv
        have hY := Lib.hid hyy
        clear hdiv hyy
        by_cases hl : j < n % 8
        · have hl' : (j : Int) < (n : Int) % 8 := by omega
          go_wp2
          all_goals
            go_round
            case rel => exact ⟨j + 1, by go_num, by omega, by rw [hD.out]; go_num⟩
            case measure => simp [intOf]; omega
        · have hl' : (n : Int) % 8 ≤ (j : Int) := by omega
          obtain rfl : j = n % 8 := by omega
          go_wp2
          refine ⟨?_, by simp [intOf]; omega⟩
          have h1 : x / 2 ^ (n % 8) = b (n / 8) / 2 ^ (n % 8) := by rw [hX.out]
          have h2 : ((y : Int) % 2 == 1) = bv b n := by rw [hY.out, h1]; exact bv_div b n
          rw [h2]
          exact ⟨n + 1, by go_num, by omega, hIH.out.step hlt⟩
    · obtain rfl : n = 2048 := by omega
      go_wp2
      go_ret
      have h := hIH.out
      refine ⟨w.heap.size + 1, rfl, by omega, ?_, h.2.2⟩
      rw [h.2.1]
      exact congrArg (fun c => some (Obj.cells c 4 (0, 0))) (bools_ext fun i hi => by simp [hi])
end Go.Proofs.Ytcheogbijioadaa
