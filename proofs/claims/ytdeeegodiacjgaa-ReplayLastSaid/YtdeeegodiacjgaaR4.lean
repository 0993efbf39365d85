/- copies, revokes, named of the given statements, walked. No condition. -/
import Derived.Test.YtdeeegodiacjgaaR3
import Derived.Test.YtdeeegodiacjgaaW14
namespace Go.Proofs.Ytdeeegodiacjgaa
open Go.RowKit
attribute [local go_sem ↓] loadAtB storeAtB loadAtC storeAtC buildAtC sliceAtC sliceAtB
theorem hasC_snoc {l : List Cp} {i : Nat} {c : Cp} (h : l[i]? = some c) (x : Int) : hasC (l.take (i + 1)) x = (hasC (l.take i) x || decide (c.1 = x)) := by
  rw [List.take_add_one, h]
  simp [hasC]
theorem copies_any (l : List Cp) (v : Value) (x : Int) (w : World) (h : Cps w v l) :
    Calls Try.prog 23 #[v, .int .i64 x] w fun e w' => e = .returned (.bool (hasC l x)) ∧ w = w' := by
  have H := Lib.hid h
  obtain ⟨ao, cap, rfl, hc1, hc2, _⟩ := h.ex
  clear h
  unfold maxLen at hc2
  go_enter Try.func23, Try.ntmps23
  go_wp2_with fail
  go_loop [5] (fun v5 => ∃ i, v5 = .int .i64 (i : Nat) ∧ i ≤ l.length ∧ hasC (l.take i) x = false) (fun v5 => (l.length - intOf v5).toNat)
  case atStart => exact ⟨0, rfl, by omega, rfl⟩
  case round =>
    obtain ⟨i, rfl, hi, hn⟩ := hrel
    have HN := Lib.hid hn
    clear hn
    by_cases hin : i < l.length
    · obtain ⟨g, off, rfl, _, _, _, hat⟩ := Sl.at H.out cc_len (by omega) hin
      obtain ⟨c, hc⟩ : ∃ c, l[i]? = some c := ⟨_, List.getElem?_eq_getElem hin⟩
      have c0 : w.cell? ⟨g, off + i * 257, none⟩ = some (.int .i64 c.1) := by
        have := hat i c hc 0 (.int .i64 c.1) rfl
        rwa [Nat.add_zero] at this
      have hs := Lib.hid (hasC_snoc hc x)
      have hm := Lib.hid (List.mem_of_getElem? hc)
      clear hat hc
      by_cases hyx : c.1 = x
      · subst hyx
        go_wp2_with fail
        go_ret
        have : hasC l c.1 = true := by unfold hasC; rw [List.any_eq_true]; exact ⟨c, hm.out, by simp⟩
        rw [this]
        exact ⟨rfl, rfl⟩
      · have hne : (c.1 == x) = false := by simpa using hyx
        go_wp2_with fail
        refine ⟨⟨i + 1, rfl, by omega, ?_⟩, by simp [intOf]; omega⟩
        rw [hs.out, HN.out]
        simpa using hyx
    · obtain rfl : i = l.length := by omega
      go_wp2_with fail
      go_ret
      have := HN.out
      rw [List.take_length] at this
      rw [this]
      exact ⟨rfl, rfl⟩
set_option maxRecDepth 100000 in
theorem revokes_any (l : List Int) (s : Int) (cv v : Value) (x : Int) (w : World) (h : Ints w v l) :
    Calls Try.prog 24 #[.agg #[.int .u32 s, cv, v], .int .i64 x] w fun e w' => e = .returned (.bool (decide (x ∈ l))) ∧ Below w.heap.size w w' := by
  have H : Hid (Ints (w.alloc (.cells #[.int .u32 s, cv, v] 55)) v l) := Sl.later h ((Below.refl _ _).alloc (Nat.le_refl _) _)
  have R := Lib.hid (Whole.new w #[.int .u32 s, cv, v] 55)
  have e2 : (w.alloc (.cells #[.int .u32 s, cv, v] 55)).cell? ⟨w.heap.size, 2, none⟩ = some v := R.out.cell 2
  clear R
  obtain ⟨ao, cap, rfl, hc1, hc2, _⟩ := h.ex
  clear h
  unfold maxLen at hc2
  have hb : Hid (Below w.heap.size w (w.alloc (.cells #[.int .u32 s, cv, .slice ao l.length cap] 55))) := (Below.refl _ _).alloc (Nat.le_refl _) _
  go_enter Try.func24, Try.ntmps24
  go_wp2_with fail
  generalize w.alloc (.cells #[.int .u32 s, cv, .slice ao l.length cap] 55) = wa at H e2 hb ⊢
  go_loop [5] (fun v5 => ∃ i, v5 = .int .i64 (i : Nat) ∧ i ≤ l.length ∧ x ∉ l.take i) (fun v5 => (l.length - intOf v5).toNat)
  case atStart => exact ⟨0, rfl, by omega, by simp⟩
  case round =>
    obtain ⟨i, rfl, hi, hn⟩ := hrel
    have HN := Lib.hid hn
    clear hn
    by_cases hin : i < l.length
    · obtain ⟨g, off, rfl, _, _, _, hat⟩ := Sl.at H.out ic_len (by omega) hin
      obtain ⟨y, hy⟩ : ∃ y, l[i]? = some y := ⟨_, List.getElem?_eq_getElem hin⟩
      have c0 := range_one (hat i y hy)
      rw [Nat.mul_one] at c0
      have hyH := Lib.hid hy
      clear hat hy
      by_cases hyx : y = x
      · subst hyx
        go_wp2_with fail
        go_ret
        have := List.mem_of_getElem? hyH.out
        refine ⟨?_, hb.out⟩
        simp [this]
      · have hne : (y == x) = false := by simpa using hyx
        go_wp2_with fail
        refine ⟨⟨i + 1, rfl, by omega, ?_⟩, by simp [intOf]; omega⟩
        rw [List.take_add_one, hyH.out, List.mem_append]
        rintro (h | h)
        · exact HN.out h
        · simp at h; exact hyx h.symm
    · obtain rfl : i = l.length := by omega
      go_wp2_with fail
      go_ret
      have := HN.out
      rw [List.take_length] at this
      refine ⟨?_, hb.out⟩
      simp [this]
def namedB (l : List Tr) (b : Int) : Bool := l.any (nm b)
theorem named_snoc {l : List Tr} {i : Nat} {t : Tr} (h : l[i]? = some t) (x : Int) : (l.take (i + 1)).any (nm x) = ((l.take i).any (nm x) || nm x t) := by
  rw [List.take_add_one, h]
  simp
set_option maxRecDepth 100000 in
theorem named_any (l : List Tr) (v : Value) (x : Int) (w : World) (h : Trs w v l) :
    Calls Try.prog 22 #[v, .int .i64 x] w fun e w' => e = .returned (.bool (l.any (nm x))) ∧ Below w.heap.size w w' := by
  have H := Lib.hid h
  obtain ⟨ao, cap, rfl, hc1, hc2⟩ := h.shape
  clear h
  unfold maxLen at hc2
  go_enter Try.func22, Try.ntmps22
  go_wp2_with fail
  go_loopw [5] (fun v5 W => ∃ i, v5 = .int .i64 (i : Nat) ∧ i ≤ l.length ∧ (l.take i).any (nm x) = false ∧ Below w.heap.size w W) (fun v5 _ => (l.length - intOf v5).toNat)
  case atStart => exact ⟨0, rfl, by omega, rfl, Below.refl _ _⟩
  case round =>
    obtain ⟨i, rfl, hi, hn, hB⟩ := hrel
    have HN := Lib.hid hn
    have BB := Lib.hid hB
    clear hn hB
    by_cases hin : i < l.length
    · obtain ⟨t, ht⟩ : ∃ t, l[i]? = some t := ⟨_, List.getElem?_eq_getElem hin⟩
      obtain ⟨g, off, ⟨cv, rv⟩, hao, _, _, hg, d0, d1, d2, p1, p2⟩ := (H.out.later BB.out).at ht
      subst hao
      have P1 := Lib.hid p1
      have P2 := Lib.hid p2
      have hs := Lib.hid (named_snoc ht x)
      have hm := Lib.hid (List.mem_of_getElem? ht)
      have hnm := Lib.hid (nm_eq x t)
      have hc := Lib.hid (copies_any t.2.1 cv x wr P1.out)
      have hr := Lib.hid (revokes_any t.2.2 t.1 cv rv x wr P2.out)
      obtain ⟨s0, s1, s2⟩ := t
      clear ht p1 p2
      cases e1 : hasC s1 x with
      | true =>
        go_wp2_with (go_at_call 23; refine hc.out.mono ?_; rintro e w1 ⟨rfl, rfl⟩; rw [e1])
        go_ret
        have : l.any (nm x) = true := by rw [List.any_eq_true]; exact ⟨_, hm.out, by rw [hnm.out]; show (hasC s1 x || _) = true; rw [e1]; rfl⟩
        rw [this]
        exact ⟨rfl, BB.out⟩
      | false =>
        cases e2 : decide (x ∈ s2) with
        | true =>
          go_wp2_with (first
            | (go_at_call 23; refine hc.out.mono ?_; rintro e w1 ⟨rfl, rfl⟩; rw [e1])
            | (go_at_call 24; refine hr.out.mono ?_; rintro e w2 ⟨rfl, hb⟩; rw [e2]; have B2 := Lib.hid hb; clear hb))
          go_ret
          have : l.any (nm x) = true := by rw [List.any_eq_true]; exact ⟨_, hm.out, by rw [hnm.out]; show (hasC s1 x || decide (x ∈ s2)) = true; rw [e1, e2]; rfl⟩
          rw [this]
          exact ⟨rfl, BB.out.trans (B2.out.mono BB.out.size)⟩
        | false =>
          have hno : nm x (s0, s1, s2) = false := by rw [hnm.out]; show (hasC s1 x || decide (x ∈ s2)) = false; rw [e1, e2]; rfl
          have HNO := Lib.hid hno
          clear hno
          go_wp2_with (first
            | (go_at_call 23; refine hc.out.mono ?_; rintro e w1 ⟨rfl, rfl⟩; rw [e1])
            | (go_at_call 24; refine hr.out.mono ?_; rintro e w2 ⟨rfl, hb⟩; rw [e2]; have B2 := Lib.hid hb; clear hb))
          refine ⟨⟨i + 1, rfl, by omega, ?_, BB.out.trans (B2.out.mono BB.out.size)⟩, by simp [intOf]; omega⟩
          rw [hs.out, HN.out, HNO.out]
          rfl
    · obtain rfl : i = l.length := by omega
      go_wp2_with fail
      go_ret
      have := HN.out
      rw [List.take_length] at this
      rw [this]
      exact ⟨rfl, BB.out⟩
end Go.Proofs.Ytdeeegodiacjgaa
