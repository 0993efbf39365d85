/- Plain laws on the clear bits of a block that are taken and given back. No program in sight; no condition but those written. -/
import Derived.Test.YtcheogbijioadaaL7
namespace Go.Proofs.Ytcheogbijioadaa

/-- The clear bits below k, within lo and hi, rising. -/
def clears (b : Nat → Nat) (lo hi : Int) (k : Nat) : List Nat := (List.range k).filter fun i => decide (lo ≤ (i : Int) ∧ (i : Int) < hi) && !bv b i
theorem clears_yes {b : Nat → Nat} {lo hi : Int} {k : Nat} (h1 : lo ≤ (k : Int)) (h2 : (k : Int) < hi) (h : bv b k = false) : clears b lo hi (k + 1) = clears b lo hi k ++ [k] := by
  unfold clears; rw [List.range_succ, List.filter_append]; simp [h, h1, h2]
theorem clears_no {b : Nat → Nat} {lo hi : Int} {k : Nat} (h : lo ≤ (k : Int) → (k : Int) < hi → bv b k = true) : clears b lo hi (k + 1) = clears b lo hi k := by
  unfold clears
  rw [List.range_succ, List.filter_append]
  by_cases h1 : lo ≤ (k : Int) ∧ (k : Int) < hi
  · simp [h h1.1 h1.2]
  · simp [h1]
theorem clears_add {b : Nat → Nat} {lo hi : Int} {k m : Nat} (h : ∀ j, k ≤ j → j < k + m → lo ≤ (j : Int) → (j : Int) < hi → bv b j = true) : clears b lo hi (k + m) = clears b lo hi k := by
  induction m with
  | zero => rfl
  | succ m ih =>
    rw [← Nat.add_assoc, clears_no (h (k + m) (by omega) (by omega))]
    exact ih fun j h1 h2 => h j h1 (by omega)
theorem mem_clears {b : Nat → Nat} {lo hi : Int} {k i : Nat} : i ∈ clears b lo hi k ↔ i < k ∧ lo ≤ (i : Int) ∧ (i : Int) < hi ∧ bv b i = false := by
  unfold clears
  rw [List.mem_filter, List.mem_range]
  simp [and_assoc]
theorem clears_len (b : Nat → Nat) (lo hi : Int) (k : Nat) : (clears b lo hi k).length ≤ k := by
  unfold clears; have := List.length_filter_le (fun i : Nat => decide (lo ≤ (i : Int) ∧ (i : Int) < hi) && !bv b i) (List.range k); simpa using this
theorem clears_nodup (b : Nat → Nat) (lo hi : Int) (k : Nat) : (clears b lo hi k).Nodup := (List.nodup_range).filter _

/-- x is b with the bits of l set. -/
def With (b : Nat → Nat) (l : List Nat) (x : Nat → Nat) : Prop := (∀ i, x i < 256) ∧ ∀ i, i < 2048 → bv x i = (bv b i || decide (i ∈ l))
theorem With.nil {b : Nat → Nat} (hb : ∀ i, b i < 256) : With b [] b := ⟨hb, fun i _ => by simp⟩
/-- The next one that First tells. -/
theorem taken_next {b x : Nat → Nat} {lo hi r : Int} {k : Nat} (hx : With b (clears b lo hi k) x) (hr : FirstIs x lo hi r) (h0 : 0 ≤ r) :
    ∃ n : Nat, r = n ∧ k ≤ n ∧ n < 2048 ∧ bv b n = false ∧ bv x n = false ∧ lo ≤ (n : Int) ∧ (n : Int) < hi ∧ clears b lo hi (n + 1) = clears b lo hi k ++ [n] ∧ With b (clears b lo hi (n + 1)) (flip x n) := by
  rcases hr with ⟨h, _⟩ | ⟨_, h1, h2, h3, h4, hall⟩
  · omega
  · obtain ⟨n, rfl⟩ := Int.eq_ofNat_of_zero_le h0
    have hn : n < 2048 := by omega
    rw [hasB_nat _ _ hn] at h4
    have h5 := hx.2 n hn
    rw [h4] at h5
    have h6 : bv b n = false := by
      cases h : bv b n with
      | false => rfl
      | true => rw [h] at h5; cases h5
    have h7 : n ∉ clears b lo hi k := by
      intro hm
      rw [h6] at h5
      simp [hm] at h5
    have hkn : k ≤ n := by
      rcases Nat.lt_or_ge n k with h | h
      · exact absurd (mem_clears.2 ⟨h, h1, h2, h6⟩) h7
      · exact h
    have hsame : clears b lo hi n = clears b lo hi k := by
      obtain ⟨m, rfl⟩ := Nat.exists_eq_add_of_le hkn
      refine clears_add fun j a1 a2 a3 a4 => ?_
      have h8 := hall j (by omega) a3 (by omega)
      rw [hasB_nat _ _ (by omega), hx.2 j (by omega)] at h8
      have h9 : j ∉ clears b lo hi k := fun hm => by have := (mem_clears.1 hm).1; omega
      simpa [h9] using h8
    have hc := clears_yes h1 h2 h6
    rw [hsame] at hc
    refine ⟨n, rfl, hkn, hn, h6, h4, h1, h2, hc, flip_lt x hx.1 n, fun i hi' => ?_⟩
    rw [bv_flip, hc]
    by_cases e : i = n
    · subst e; simp [h4]
    · rw [if_neg e, hx.2 i hi']; simp [e]
theorem taken_end {b x : Nat → Nat} {lo hi r : Int} {k : Nat} (hk : k ≤ 2048) (hx : With b (clears b lo hi k) x) (hr : FirstIs x lo hi r) (h0 : r < 0) : clears b lo hi 2048 = clears b lo hi k := by
  rcases hr with ⟨_, hall⟩ | ⟨h, _⟩
  · obtain ⟨m, hm⟩ := Nat.exists_eq_add_of_le hk
    rw [hm]
    refine clears_add fun j a1 a2 a3 a4 => ?_
    have h8 := hall j (by omega) a3 (by omega) (by omega)
    rw [hasB_nat _ _ (by omega), hx.2 j (by omega)] at h8
    have h9 : j ∉ clears b lo hi k := fun hm => by have := (mem_clears.1 hm).1; omega
    simpa [h9] using h8
  · omega

/-- How many are set, of those that are within. -/
theorem slen_full {x : Nat → Nat} (lo m : Nat) (h : ∀ i, lo ≤ i → i < lo + m → bv x i = true) : slen x (lo + m) = slen x lo + m := by
  induction m with
  | zero => rfl
  | succ m ih =>
    rw [← Nat.add_assoc, slen_yes (h (lo + m) (by omega) (by omega)), ih fun i a c => h i a (by omega)]
    omega
theorem clears_count (b : Nat → Nat) (lo hi : Int) (l m : Nat) (hl : lo ≤ (l : Int)) (hm : ((l + m : Nat) : Int) ≤ hi) : (clears b lo hi (l + m)).length + slen b (l + m) = (clears b lo hi l).length + slen b l + m := by
  induction m with
  | zero => rfl
  | succ m ih =>
    have := ih (by omega)
    rw [← Nat.add_assoc]
    cases h : bv b (l + m) with
    | true => rw [clears_no (fun _ _ => h), slen_yes h]; omega
    | false =>
      rw [clears_yes (by omega) (by omega) h, slen_no h, List.length_append]
      simp
      omega
theorem clears_before {b : Nat → Nat} {lo hi : Int} {l : Nat} (hl : ∀ i : Nat, i < l → (i : Int) < lo) : clears b lo hi l = [] := by
  rw [List.eq_nil_iff_forall_not_mem]
  intro i hi'
  have h := mem_clears.1 hi'
  have := hl i h.1
  omega
theorem clears_after {b : Nat → Nat} {lo hi : Int} {h m : Nat} (hh : hi ≤ (h : Int)) : clears b lo hi (h + m) = clears b lo hi h :=
  clears_add fun j a1 _ _ a4 => by omega

/-- x is b with those of l set that are not yet given back; those ahead of k, from s on, are. -/
def Back (b : Nat → Nat) (l : List Nat) (s k : Nat) (x : Nat → Nat) : Prop := (∀ i, x i < 256) ∧ ∀ i, i < 2048 → bv x i = (bv b i || (decide (i ∈ l) && !decide (∃ j, j < k ∧ l[(j + s) % l.length]? = some i)))
theorem mod_inj {j k s n : Nat} (hj : j < k) (hk : k < n) : (j + s) % n ≠ (k + s) % n := by
  intro h
  have h1 := Nat.div_add_mod (j + s) n
  have h2 := Nat.div_add_mod (k + s) n
  rw [h] at h1
  have h3 : n * ((k + s) / n) - n * ((j + s) / n) = k - j := by omega
  rw [← Nat.mul_sub] at h3
  have h5 : (k + s) / n - (j + s) / n = 0 ∨ 1 ≤ (k + s) / n - (j + s) / n := by omega
  rcases h5 with h5 | h5
  · rw [h5] at h3; simp at h3; omega
  · have : n * 1 ≤ n * ((k + s) / n - (j + s) / n) := Nat.mul_le_mul_left n h5
    omega
theorem nodup_at {l : List Nat} (h : l.Nodup) {i j x : Nat} (hi : l[i]? = some x) (hj : l[j]? = some x) : i = j := by
  have a1 := (List.getElem?_eq_some_iff.1 hi).1
  exact (List.getElem?_inj a1 h).1 (hi.trans hj.symm)
theorem Back.start {b x : Nat → Nat} {l : List Nat} {s : Nat} (h : With b l x) : Back b l s 0 x := ⟨h.1, fun i hi => by rw [h.2 i hi]; simp⟩
/-- What is given back in one round: it is set, and will be clear. -/
theorem Back.next {b x : Nat → Nat} {l : List Nat} {s k n : Nat} (hl : l.Nodup) (hall : ∀ i ∈ l, i < 2048 ∧ bv b i = false) (h : Back b l s k x) (hk : k < l.length) (hn : l[(k + s) % l.length]? = some n) :
    n < 2048 ∧ bv x n = true ∧ Back b l s (k + 1) (flip x n) := by
  have hm : n ∈ l := List.mem_of_getElem? hn
  obtain ⟨h1, h2⟩ := hall n hm
  have hno : ¬ ∃ j, j < k ∧ l[(j + s) % l.length]? = some n := by
    rintro ⟨j, hj, e⟩
    exact mod_inj hj hk (nodup_at hl e hn)
  have hx : bv x n = true := by rw [h.2 n h1, h2]; simp only [Bool.false_or, hm, decide_true, Bool.true_and, hno, decide_false, Bool.not_false]
  refine ⟨h1, hx, flip_lt x h.1 n, fun i hi => ?_⟩
  rw [bv_flip]
  by_cases e : i = n
  · subst e
    have hyes : ∃ j, j < k + 1 ∧ l[(j + s) % l.length]? = some i := ⟨k, by omega, hn⟩
    rw [if_pos rfl, hx, h2]
    simp only [hyes, decide_true, Bool.not_true, Bool.and_false, Bool.or_false]
  · rw [if_neg e, h.2 i hi]
    have : (∃ j, j < k ∧ l[(j + s) % l.length]? = some i) ↔ ∃ j, j < k + 1 ∧ l[(j + s) % l.length]? = some i := by
      constructor
      · rintro ⟨j, hj, e'⟩; exact ⟨j, by omega, e'⟩
      · rintro ⟨j, hj, e'⟩
        by_cases hjk : j = k
        · subst hjk
          rw [hn] at e'
          simp at e'
          exact absurd e'.symm e
        · exact ⟨j, by omega, e'⟩
    simp only [this]
theorem Back.done {b x : Nat → Nat} (hb : ∀ i, b i < 256) {l : List Nat} {s : Nat} (h : Back b l s l.length x) : blkEq x b = true := by
  rw [blkEq_iff]
  have hbits : ∀ i, i < 2048 → bv x i = bv b i := by
    intro i hi
    rw [h.2 i hi]
    by_cases hm : i ∈ l
    · obtain ⟨m, hm', e⟩ := List.getElem_of_mem hm
      have hyes : ∃ j, j < l.length ∧ l[(j + s) % l.length]? = some i := by
        have hpos : 0 < l.length := by omega
        have hs := Nat.mod_lt s hpos
        refine ⟨(m + (l.length - s % l.length)) % l.length, Nat.mod_lt _ hpos, ?_⟩
        have : ((m + (l.length - s % l.length)) % l.length + s) % l.length = m := by
          rw [Nat.mod_add_mod, ← Nat.add_mod_mod]
          rw [show m + (l.length - s % l.length) + s % l.length = m + l.length by omega, Nat.add_mod_right]
          exact Nat.mod_eq_of_lt hm'
        rw [this, List.getElem?_eq_some_iff]
        exact ⟨hm', e⟩
      simp only [hyes, decide_true, Bool.not_true, Bool.and_false, Bool.or_false]
    · simp [hm]
  intro i hi
  rw [← bb_of_bits x h.1 i, ← bb_of_bits b hb i]
  exact bb_congr i 8 (by omega) fun j hj => hbits _ (by omega)
/-- The counts of the second look. -/
theorem taken_counts {b x : Nat → Nat} {lo hi : Int} {L H : Nat} (hL : (L : Int) = min (max lo 0) 2048) (hH : (H : Int) = min (max hi 0) 2048) (hlt : L < H) (hx : With b (clears b lo hi 2048) x) :
    slen x H = slen x L + (H - L) ∧ (clears b lo hi 2048).length + slen b H = slen b L + (H - L) ∧ H ≤ 2048 := by
  have hH2 : H ≤ 2048 := by omega
  obtain ⟨m, rfl⟩ := Nat.exists_eq_add_of_le (Nat.le_of_lt hlt)
  have h1 : clears b lo hi 2048 = clears b lo hi (L + m) := by
    obtain ⟨d, hd⟩ := Nat.exists_eq_add_of_le hH2
    by_cases hc : d = 0
    · subst hc; rw [hd]; rfl
    · rw [hd]; exact clears_after (by omega)
  have h2 := clears_count b lo hi L m (by omega) (by omega)
  have h0 : clears b lo hi L = [] := clears_before (fun i hi' => by omega)
  rw [h0, List.length_nil] at h2
  refine ⟨?_, ?_, hH2⟩
  · rw [slen_full L m fun i a c => ?_]
    · omega
    · rw [hx.2 i (by omega)]
      cases hb : bv b i with
      | true => rfl
      | false =>
        have : i ∈ clears b lo hi 2048 := mem_clears.2 ⟨by omega, by omega, by omega, hb⟩
        simp [this]
  · rw [h1]; omega
end Go.Proofs.Ytcheogbijioadaa
