/- What quernref04.Has, Count and First do at any block and any numbers. Each byte is below 256. -/
import Derived.Test.YtcheogbijioadaaW6
namespace Go.Proofs.Ytcheogbijioadaa
open Go.RowKit

theorem refHas_any (b : Nat → Nat) (hb : ∀ i, b i < 256) (i : Int) (w : World) :
    Calls Try.prog 18 #[.agg (blk b), .int .i64 i] w fun e w' => e = .returned (.bool (hasB b i)) ∧ Below w.heap.size w w' := by
  by_cases h : 0 ≤ i ∧ i < 2048
  · obtain ⟨n, rfl⟩ := Int.eq_ofNat_of_zero_le h.1
    obtain ⟨_, h2⟩ := h
    have hn : n < 2048 := by omega
    have hv : Hid (hasB b n = bv b n) := by unfold Hid hasB; simp; omega
    have hbH := Lib.hid hb
    have d0 : decide (0 ≤ (n : Int)) = true := by simp
    have d1 : decide ((n : Int) < 2048) = true := by simpa using h2
    clear hb
    go_enter Try.func18, Try.ntmps18
    go_wp2_with (first | (refine wpl_load_arr 23 _ rfl rfl _ rfl 23 _ (0, 0) (heap_at_alloc _ _ _ rfl) _ _ Try.underlying23 (info23b _) ?_) | (go_at_call 12; refine (of_any b hbH.out _).mono ?_; rintro e w' ⟨B, rfl, hB, hc, hw⟩; have hcell : w'.cell? ⟨B, n, none⟩ = some (.bool (bv b n)) := (by rw [cell_of_row _ _ _ _ _ _ hc, bools_get _ _ hn])))
    go_ret
    exact ⟨ret_bool hv.out.symm, ((Below.refl _ _).alloc (Nat.le_refl _) _).trans (hw.mono (by simp))⟩
  · have hv : Hid (hasB b i = false) := by unfold Hid hasB; simp; omega
    by_cases h0 : 0 ≤ i
    · have h1 : 2048 ≤ i := by omega
      have d0 : decide (0 ≤ i) = true := by simpa using h0
      have d1 : decide (i < 2048) = false := by simpa using h1
      go_enter Try.func18, Try.ntmps18
      go_wp2
      go_ret
      exact ⟨ret_bool hv.out.symm, (Below.refl _ _).alloc (Nat.le_refl _) _⟩
    · have h1 : i < 0 := by omega
      have d0 : decide (0 ≤ i) = false := by simpa using h1
      go_enter Try.func18, Try.ntmps18
      go_wp2
      go_ret
      exact ⟨ret_bool hv.out.symm, (Below.refl _ _).alloc (Nat.le_refl _) _⟩

/-- How many bits i below k are set, with i < n. -/
def cnt (b : Nat → Nat) (n : Int) : Nat → Nat
  | 0 => 0
  | k + 1 => cnt b n k + if (k : Int) < n ∧ bv b k = true then 1 else 0
theorem cnt_le (b : Nat → Nat) (n : Int) : ∀ k, cnt b n k ≤ k
  | 0 => Nat.le_refl _
  | k + 1 => by have := cnt_le b n k; unfold cnt; split <;> omega

def RCInv (b : Nat → Nat) (n : Int) (w wr : World) (s v : Value) : Prop := ∃ k : Nat, v = .int .i64 k ∧ k ≤ 2048 ∧ s = .int .i64 (cnt b n k : Nat) ∧ wr = w
theorem RCInv.mk' {b : Nat → Nat} {n : Int} {w : World} {k : Nat} {s : Int} (h : k < 2048) (hs : s = (cnt b n (k + 1) : Nat)) : RCInv b n w w (.int .i64 s) (.int .i64 ((k : Int) + 1)) := ⟨k + 1, by go_num, by omega, by rw [hs], rfl⟩

def SomeIntAt (r : Int) (w : World) (e : Ending) (w' : World) : Prop := e = .returned (.int .i64 r) ∧ Below w.heap.size w w'
set_option maxRecDepth 100000 in
set_option maxHeartbeats 1000000 in
theorem refCount_any (b : Nat → Nat) (hb : ∀ i, b i < 256) (n : Int) (w : World) :
    Calls Try.prog 13 #[.agg (blk b), .int .i64 n] w (SomeIntAt (cnt b n 2048 : Nat) w) := by
  have hbH := Lib.hid hb
  clear hb
  go_enter Try.func13, Try.ntmps13
  go_wp2_with (first | (refine wpl_load_arr 23 _ rfl rfl _ rfl 23 _ (0, 0) (heap_at_alloc _ _ _ rfl) _ _ Try.underlying23 (info23b _) ?_) | (go_at_call 12; refine (of_any b hbH.out _).mono ?_; rintro e w1 ⟨B, rfl, hB, hc, hw⟩))
  have hB1 : Hid (Below w.heap.size w w1) := ((Below.refl _ _).alloc (Nat.le_refl _) _).trans (hw.mono (by simp))
  have hc1 := Lib.hid hc
  clear hw hc hB
  go_loop [6, 7] (fun s v => RCInv b n w1 w1 s v) (fun _ v => (2048 - intOf v).toNat)
  case atStart => exact ⟨0, rfl, by omega, rfl, rfl⟩
  case round =>
    obtain ⟨k, rfl, hk, rfl, -⟩ := hrel
    have hcl := cnt_le b n k
    by_cases hlt : k < 2048
    · have hcell : w1.cell? ⟨B, k, none⟩ = some (.bool (bv b k)) := by rw [cell_of_row _ _ _ _ _ _ hc1.out, bools_get _ _ hlt]
      have hs : cnt b n (k + 1) = cnt b n k + if (k : Int) < n ∧ bv b k = true then 1 else 0 := rfl
      have hS := Lib.hid hs
      clear hs
      by_cases hkn : (k : Int) < n
      · have d : decide ((k : Int) < n) = true := by simpa using hkn
        go_wp2
        · exact ⟨RCInv.mk' hlt (by rw [hS.out, if_pos ⟨hkn, by assumption⟩]; rfl), by simp [intOf]; omega⟩
        · exact ⟨RCInv.mk' hlt (by rw [hS.out, if_neg (by rintro ⟨_, h2⟩; simp_all)]; rfl), by simp [intOf]; omega⟩
      · have d : decide ((k : Int) < n) = false := by simpa using hkn
        go_wp2
        exact ⟨RCInv.mk' hlt (by rw [hS.out, if_neg (by omega)]; rfl), by simp [intOf]; omega⟩
    · obtain rfl : k = 2048 := by omega
      go_wp2
      go_ret
      exact ⟨rfl, hB1.out⟩

def RFInv (b : Nat → Nat) (lo hi : Int) (w wr : World) (v : Value) : Prop := ∃ k : Nat, v = .int .i64 k ∧ k ≤ 2048 ∧ (∀ i : Nat, i < k → lo ≤ i → (i : Int) < hi → bv b i = true) ∧ wr = w
theorem RFInv.next {b : Nat → Nat} {lo hi : Int} {w wr : World} {k : Nat} (h : ∀ i : Nat, i < k → lo ≤ i → (i : Int) < hi → bv b i = true) (hk : k < 2048) (h2 : lo ≤ k → (k : Int) < hi → bv b k = true) (hw : wr = w) :
    RFInv b lo hi w wr (.int .i64 ((k : Int) + 1)) :=
  ⟨k + 1, by go_num, by omega, fun i hi' hlo hhi => by
    by_cases e : i = k
    · subst e; exact h2 hlo hhi
    · exact h i (by omega) hlo hhi, hw⟩
theorem hasB_nat (b : Nat → Nat) (i : Nat) (h : i < 2048) : hasB b i = bv b i := by unfold hasB; simp; omega

set_option maxRecDepth 100000 in
set_option maxHeartbeats 1000000 in
theorem refFirst_any (b : Nat → Nat) (hb : ∀ i, b i < 256) (lo hi : Int) (w : World) :
    Calls Try.prog 20 #[.agg (blk b), .int .i64 lo, .int .i64 hi] w (FirstPost b lo hi w) := by
  have hbH := Lib.hid hb
  clear hb
  go_enter Try.func20, Try.ntmps20
  go_wp2_with (first | (refine wpl_load_arr 23 _ rfl rfl _ rfl 23 _ (0, 0) (heap_at_alloc _ _ _ rfl) _ _ Try.underlying23 (info23b _) ?_) | (go_at_call 12; refine (of_any b hbH.out _).mono ?_; rintro e w1 ⟨B, rfl, hB, hc, hw⟩))
  have hB1 : Hid (Below w.heap.size w w1) := ((Below.refl _ _).alloc (Nat.le_refl _) _).trans (hw.mono (by simp))
  have hc1 := Lib.hid hc
  clear hw hc hB
  go_loop [8] (fun v => RFInv b lo hi w1 w1 v) (fun v => (2048 - intOf v).toNat)
  case atStart => exact ⟨0, rfl, by omega, fun i h => by omega, rfl⟩
  case round =>
    obtain ⟨k, rfl, hk, hA, -⟩ := hrel
    have hA' := Lib.hid hA
    clear hA
    by_cases hlt : k < 2048
    · have hcell : w1.cell? ⟨B, k, none⟩ = some (.bool (bv b k)) := by rw [cell_of_row _ _ _ _ _ _ hc1.out, bools_get _ _ hlt]
      by_cases h1 : lo ≤ (k : Int)
      · have d1 : decide (lo ≤ (k : Int)) = true := by simpa using h1
        by_cases h2 : (k : Int) < hi
        · have d2 : decide ((k : Int) < hi) = true := by simpa using h2
          go_wp2
          · go_ret
            have hv : bv b k = false := by simpa using ‹(!bv b k) = true›
            exact ⟨k, rfl, .inr ⟨by omega, h1, h2, by omega, by rw [hasB_nat _ _ hlt]; exact hv, fun i a c d => by
              obtain ⟨n, rfl⟩ := Int.eq_ofNat_of_zero_le a
              rw [hasB_nat _ _ (by omega)]
              exact hA'.out n (by omega) c (by omega)⟩, hB1.out⟩
          · have hv : bv b k = true := by simpa using ‹(!bv b k) = false›
            exact ⟨RFInv.next hA'.out hlt (fun _ _ => hv) rfl, by simp [intOf]; omega⟩
        · have d2 : decide ((k : Int) < hi) = false := by simpa using h2
          go_wp2
          exact ⟨RFInv.next hA'.out hlt (fun _ h => by omega) rfl, by simp [intOf]; omega⟩
      · have d1 : decide (lo ≤ (k : Int)) = false := by simpa using h1
        go_wp2
        exact ⟨RFInv.next hA'.out hlt (fun h _ => by omega) rfl, by simp [intOf]; omega⟩
    · obtain rfl : k = 2048 := by omega
      go_wp2
      go_ret
      exact ⟨-1, rfl, .inl ⟨rfl, fun i a c d e => by
        obtain ⟨n, rfl⟩ := Int.eq_ofNat_of_zero_le a
        rw [hasB_nat _ _ (by omega)]
        exact hA'.out n (by omega) c (by omega)⟩, hB1.out⟩
end Go.Proofs.Ytcheogbijioadaa
