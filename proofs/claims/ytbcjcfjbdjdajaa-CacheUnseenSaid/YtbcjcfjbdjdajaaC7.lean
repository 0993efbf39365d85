/- What the given statements ask of lists of numbers; the disk's Safe and Waiting; what goes when one thing after the other is evicted; walked. -/
import Derived.Test.YtbcjcfjbdjdajaaC6
import Derived.Test.YtbcjcfjbdjdajaaFill
namespace Go.Proofs.Ytbcjcfjbdjdajaa
open Go.RowKit
attribute [local go_sem ↓] loadAtB storeAtB loadAtH storeAtH
theorem has_any (l : List Int) (v : Value) (x : Int) (w : World) (h : Ints w v l) :
    Calls Try.prog 14 #[v, .int .i64 x] w (SamePost (.bool (decide (x ∈ l))) w) := by
  have H := Lib.hid h
  obtain ⟨ao, cap, rfl, hc1, hc2, _⟩ := h.ex
  clear h
  unfold maxLen at hc2
  go_enter Try.func14, Try.ntmps14
  go_wp2_with fail
  go_loop [5] (fun v5 => ∃ i, v5 = .int .i64 (i : Nat) ∧ i ≤ l.length ∧ x ∉ l.take i) (fun v5 => (l.length - intOf v5).toNat)
  case atStart => exact ⟨0, rfl, by omega, by simp⟩
  case round =>
    obtain ⟨i, rfl, hi, hn⟩ := hrel
    have HN := Lib.hid hn
    clear hn
    by_cases hin : i < l.length
    · obtain ⟨g, off, rfl, _, _, _, hat⟩ := Sl.at H.out ic_len (by omega) hin
      obtain ⟨y, hy⟩ : ∃ y, l[i]? = some y := ⟨_, List.getElem?_eq_getElem hin⟩
      have c0 := range_one (hat i y hy)
      rw [Nat.mul_one] at c0
      have hyH := Lib.hid hy
      clear hat hy
      by_cases hyx : y = x
      · subst hyx
        go_wp2_with fail
        go_ret
        have := List.mem_of_getElem? hyH.out
        unfold SamePost
        simp [this]
      · go_wp2_with fail
        refine ⟨⟨i + 1, rfl, by omega, ?_⟩, by simp [intOf]; omega⟩
        rw [List.take_add_one, hyH.out]
        have := HN.out
        simp only [Option.toList_some, List.mem_append, List.mem_singleton, not_or]
        exact ⟨this, fun e => hyx e.symm⟩
    · obtain rfl : i = l.length := by omega
      go_wp2_with fail
      go_ret
      have := HN.out
      rw [List.take_length] at this
      unfold SamePost
      simp [this]
/-- Numbers that are the same are found so. -/
theorem same_any (l : List Int) (va vc : Value) (w : World) (ha : Ints w va l) (hc : Ints w vc l) :
    Calls Try.prog 17 #[va, vc] w (BPost (.bool true) w) := by
  have HA := Lib.hid ha
  have HC := Lib.hid hc
  obtain ⟨aa, acap, rfl, ha1, ha2, _⟩ := ha.ex
  obtain ⟨ac, ccap, rfl, hc1, hc2, _⟩ := hc.ex
  clear ha hc
  unfold maxLen at ha2 hc2
  go_enter Try.func17, Try.ntmps17
  go_wp2_with fail
  go_loopw [5] (fun v5 W => ∃ i, v5 = .int .i64 (i : Nat) ∧ i ≤ l.length ∧ Below w.heap.size w W) (fun v5 _ => (l.length - intOf v5).toNat)
  case atStart => exact ⟨0, rfl, by omega, Below.refl _ _⟩
  case round =>
    obtain ⟨i, rfl, hi, hB⟩ := hrel
    have BH := Lib.hid hB
    clear hB
    by_cases hin : i < l.length
    · obtain ⟨ga, oa, rfl, _, _, hga, hata⟩ := Sl.at (Sl.later HA.out BH.out) ic_len (by omega) hin
      obtain ⟨gc, oc, rfl, _, _, hgc, hatc⟩ := Sl.at (Sl.later HC.out BH.out) ic_len (by omega) hin
      obtain ⟨y, hy⟩ : ∃ y, l[i]? = some y := ⟨_, List.getElem?_eq_getElem hin⟩
      have c0 := range_one (hata i y hy)
      have c1 := range_one (hatc i y hy)
      rw [Nat.mul_one] at c0 c1
      have f0 : ∀ q : Later wr, q.x.cell? ⟨ga, oa + i, none⟩ = some (.int .i64 y) := fun q => (World.cell?_of_block (q.h.block _ hga)).trans c0
      have f1 : ∀ q : Later wr, q.x.cell? ⟨gc, oc + i, none⟩ = some (.int .i64 y) := fun q => (World.cell?_of_block (q.h.block _ hgc)).trans c1
      clear hata hatc hy
      clear c0 c1
      go_wp2_with fail
      refine wp_region_later (by kernel_rfl) (by kernel_rfl) ?_
      repeat (first | go_big_quiet_step (fail) | quiet_step (fail))
      refine wpQuiet_nil ?_
      rintro ⟨W9, hW9⟩
      dsimp only
      have H9 := Lib.hid hW9
      clear hW9 f0 f1
      go_wp2_with fail
      exact ⟨⟨i + 1, rfl, by omega, BH.out.trans (H9.out.mono BH.out.size)⟩, by simp [intOf]; omega⟩
    · obtain rfl : i = l.length := by omega
      go_wp2_with fail
      go_ret
      exact ⟨rfl, BH.out⟩
theorem safe_at {W : World} {base r gs gn : Nat} {vw : Value} {D : Dk} (h : DAt W base r gs gn vw D) : Calls Try.prog 30 #[.pointer (some ⟨r, 0, none⟩)] W (ClPost D.safe W) := by
  have hn := Lib.hid (none_at h)
  obtain ⟨cs, cn, c0, _⟩ := h.cells
  have hl : D.safe.length ≤ 100000 := by have := h.ok.most; omega
  obtain ⟨cs', cn', hr, hsafe, _⟩ := h.obj
  have e1 : some (Value.slice (some ⟨gs, 0, none⟩) D.safe.length cs') = some (.slice (some ⟨gs, 0, none⟩) D.safe.length cs) := (hr.cell 0).symm.trans c0
  cases e1
  have hs : Hid (Sl W (.slice (some ⟨gs, 0, none⟩) D.safe.length cs) D.safe.length (flat bc D.safe)) := Sl.own hsafe
  have hc := Lib.hid (cloneB_any D.safe hl _ W hs.out)
  clear h hr hsafe
  go_enter Try.func30, Try.ntmps30
  go_wp2_with (first
    | (go_at_call 43; refine hn.out.mono ?_; rintro e w1 ⟨rfl, rfl⟩)
    | (go_at_call 44; refine hc.out.mono ?_; rintro e w2 ⟨u, rfl, hown, hb⟩; have O := Lib.hid hown; have B := Lib.hid hb; clear hown hb))
  go_ret
  exact ⟨u, rfl, O.out, B.out⟩
theorem waiting_at {W : World} {base r gs gn : Nat} {vw : Value} {D : Dk} (h : DAt W base r gs gn vw D) : Calls Try.prog 31 #[.pointer (some ⟨r, 0, none⟩)] W (SamePost (.int .i64 (D.wait.length : Int)) W) := by
  have hn := Lib.hid (none_at h)
  obtain ⟨cs, cn, _, _, c2, _⟩ := h.cells
  obtain ⟨ao, cap, rfl, h1, h2, _⟩ := (Sl.own h.wait).ex
  unfold maxLen at h2
  clear h
  go_enter Try.func31, Try.ntmps31
  go_wp2_with (go_at_call 43; refine hn.out.mono ?_; rintro e w1 ⟨rfl, rfl⟩)
  go_ret
  exact ⟨rfl, rfl⟩
/-- Numbers that rise, below a number, are found so. -/
theorem rises_any (l : List Int) (n : Int) (v : Value) (w : World) (hr : ∀ x ∈ l, 0 ≤ x ∧ x < n) (hp : l.Pairwise (· < ·)) (h : Ints w v l) :
    Calls Try.prog 12 #[v, .int .i64 n] w (BPost (.bool true) w) := by
  have H := Lib.hid h
  obtain ⟨ao, cap, rfl, hc1, hc2, _⟩ := h.ex
  have hrH := Lib.hid hr
  have hpH := Lib.hid hp
  clear h hr hp
  unfold maxLen at hc2
  go_enter Try.func12, Try.ntmps12
  go_wp2_with fail
  go_loopw [5] (fun v5 W => ∃ i, v5 = .int .i64 (i : Nat) ∧ i ≤ l.length ∧ Below w.heap.size w W) (fun v5 _ => (l.length - intOf v5).toNat)
  case atStart => exact ⟨0, rfl, by omega, Below.refl _ _⟩
  case round =>
    obtain ⟨i, rfl, hi, hB⟩ := hrel
    have BH := Lib.hid hB
    clear hB
    by_cases hin : i < l.length
    · obtain ⟨g, o, rfl, _, _, hg, hat⟩ := Sl.at (Sl.later H.out BH.out) ic_len (by omega) hin
      obtain ⟨y, hy⟩ : ∃ y, l[i]? = some y := ⟨_, List.getElem?_eq_getElem hin⟩
      have c0 := range_one (hat i y hy)
      rw [Nat.mul_one] at c0
      have f0 : ∀ q : Later wr, q.x.cell? ⟨g, o + i, none⟩ = some (.int .i64 y) := fun q => (World.cell?_of_block (q.h.block _ hg)).trans c0
      obtain ⟨y0, y1⟩ := hrH.out y (List.mem_of_getElem? hy)
      have d0 : decide (y < 0) = false := by simp; omega
      have d1 : decide (n ≤ y) = false := by simp; omega
      have wi : IntKind.i64.wrap ((i : Int) + 1) = (i : Int) + 1 := IntWalk.i64_in _ (by omega)
      have c0 := Lib.hid c0
      rcases Nat.eq_zero_or_pos i with rfl | hpos
      · simp only [Nat.add_zero] at f0
        clear hat hy y0 y1 wi
        go_wp2_with fail
        refine wp_region_later (by kernel_rfl) (by kernel_rfl) ?_
        repeat (first | go_big_quiet_step (fail) | quiet_step (fail))
        refine wpQuiet_nil ?_
        rintro ⟨W9, hW9⟩
        dsimp only
        have H9 := Lib.hid hW9
        clear hW9 f0
        go_wp2_with fail
        exact ⟨⟨1, rfl, by omega, BH.out.trans (H9.out.mono BH.out.size)⟩, by simp [intOf]; omega⟩
      · obtain ⟨j, hj⟩ : ∃ j, i = j + 1 := ⟨i - 1, by omega⟩
        obtain ⟨z, hz⟩ : ∃ z, l[j]? = some z := ⟨_, List.getElem?_eq_getElem (by omega)⟩
        have hzy : z < y := by
          obtain ⟨hj1, hj2⟩ := List.getElem?_eq_some_iff.1 hz
          obtain ⟨hi1, hi2⟩ := List.getElem?_eq_some_iff.1 hy
          have := List.pairwise_iff_getElem.1 hpH.out j i hj1 hi1 (by omega)
          rw [hj2, hi2] at this
          exact this
        have c1 := range_one (hat j z hz)
        rw [Nat.mul_one] at c1
        have f1 : ∀ q : Later wr, q.x.cell? ⟨g, o + j, none⟩ = some (.int .i64 z) := fun q => (World.cell?_of_block (q.h.block _ hg)).trans c1
        have d2 : decide (y ≤ z) = false := by simp; omega
        have hjl : j < l.length := by omega
        have wj : IntKind.i64.wrap ((i : Int) - 1) = (j : Int) := by rw [IntWalk.i64_in _ (by omega)]; omega
        have d3 : decide (0 < i) = true := by simpa using hpos
        have d4 : decide ((0 : Int) < (i : Int)) = true := by simpa using hpos
        replace hj := Lib.hid hj
        clear hat hy hz y0 y1 hzy c1
        go_wp2_with fail
        refine wp_region_later (by kernel_rfl) (by kernel_rfl) ?_
        repeat (first | go_big_quiet_step (fail) | quiet_step (fail))
        refine wpQuiet_nil ?_
        rintro ⟨W9, hW9⟩
        dsimp only
        have H9 := Lib.hid hW9
        clear hW9 f0 f1
        go_wp2_with fail
        exact ⟨⟨i + 1, rfl, by omega, BH.out.trans (H9.out.mono BH.out.size)⟩, by simp [intOf]; omega⟩
    · obtain rfl : i = l.length := by omega
      go_wp2_with fail
      go_ret
      exact ⟨rfl, BH.out⟩
end Go.Proofs.Ytbcjcfjbdjdajaa
