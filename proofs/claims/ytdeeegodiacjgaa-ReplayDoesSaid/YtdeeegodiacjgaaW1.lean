/- Comparisons of the document's answer: numbers, copies, blocks, as the given statements ask them. Conditions are written in each. -/
import Derived.Test.YtdeeegodiacjgaaBlk
namespace Go.Proofs.Ytdeeegodiacjgaa
open Go.RowKit
attribute [local go_sem ↓] loadAtB storeAtB loadAtC storeAtC
def ic (x : Int) : List Value := [.int .i64 x]
theorem ic_len (x : Int) : (ic x).length = 1 := rfl
/-- A slice of numbers, of copies, of blocks. -/
def Ints (W : World) (v : Value) (l : List Int) : Prop := Sl W v l.length (flat ic l)
def Cps (W : World) (v : Value) (l : List Cp) : Prop := Sl W v l.length (flat cc l)
def Bks (W : World) (v : Value) (l : List Blk) : Prop := Sl W v l.length (flat bc l)
theorem range_one {W : World} {g o : Nat} {x : Value} (h : W.rangeAt g o [x]) : W.cell? ⟨g, o, none⟩ = some x := h 0 x rfl
theorem Later.rg {W : World} {g o : Nat} {xs : List Value} (h : W.rangeAt g o xs) (hg : g < W.heap.size) (q : Later W) : q.x.rangeAt g o xs := rangeAt_block h (q.h.block g hg)
theorem names_any (l : List Int) (v : Value) (x : Int) (w : World) (h : Ints w v l) :
    Calls Try.prog 35 #[v, .int .i64 x] w fun e w' => e = .returned (.bool (decide (x ∈ l))) ∧ w = w' := by
  have H := Lib.hid h
  obtain ⟨ao, cap, rfl, hc1, hc2, _⟩ := h.ex
  clear h
  unfold maxLen at hc2
  go_enter Try.func35, Try.ntmps35
  go_wp2_with fail
  go_loop [5] (fun v5 => ∃ i, v5 = .int .i64 (i : Nat) ∧ i ≤ l.length ∧ x ∉ l.take i) (fun v5 => (l.length - intOf v5).toNat)
  case atStart => exact ⟨0, rfl, by omega, by simp⟩
  case round =>
    obtain ⟨i, rfl, hi, hn⟩ := hrel
    have HN := Lib.hid hn
    clear hn
    by_cases hin : i < l.length
    · obtain ⟨g, off, rfl, _, _, _, hat⟩ := Sl.at H.out ic_len (by omega) hin
      obtain ⟨y, hy⟩ : ∃ y, l[i]? = some y := ⟨_, List.getElem?_eq_getElem hin⟩
      have c0 := range_one (hat i y hy)
      rw [Nat.mul_one] at c0
      have hyH := Lib.hid hy
      clear hat hy
      by_cases hyx : y = x
      · subst hyx
        go_wp2_with fail
        go_ret
        have := List.mem_of_getElem? hyH.out
        simp [this]
      · go_wp2_with fail
        refine ⟨⟨i + 1, rfl, by omega, ?_⟩, by simp [intOf]; omega⟩
        rw [List.take_add_one, hyH.out]
        have := HN.out
        simp only [Option.toList_some, List.mem_append, List.mem_singleton, not_or]
        exact ⟨this, fun e => hyx e.symm⟩
    · obtain rfl : i = l.length := by omega
      go_wp2_with fail
      go_ret
      have := HN.out
      rw [List.take_length] at this
      simp [this]
set_option maxRecDepth 100000 in
theorem sameCps_any (l : List Cp) (va vc : Value) (w : World) (ha : Cps w va l) (hc : Cps w vc l) :
    Calls Try.prog 16 #[va, vc] w fun e w' => e = .returned (.bool true) ∧ Below w.heap.size w w' := by
  have HA := Lib.hid ha
  have HC := Lib.hid hc
  obtain ⟨aa, acap, rfl, ha1, ha2, _⟩ := ha.ex
  obtain ⟨ac, ccap, rfl, hc1, hc2, _⟩ := hc.ex
  clear ha hc
  unfold maxLen at ha2 hc2
  have hq := neqC
  go_enter Try.func16, Try.ntmps16
  go_wp2_with fail
  go_loopw [5] (fun v5 W => Below w.heap.size w W ∧ ∃ i, v5 = .int .i64 (i : Nat) ∧ i ≤ l.length) (fun v5 _ => (l.length - intOf v5).toNat)
  case atStart => exact ⟨Below.refl _ _, 0, rfl, by omega⟩
  case round =>
    obtain ⟨hb, i, rfl, hi⟩ := hrel
    have HB := Lib.hid hb
    have A2 := Lib.hid (Sl.later HA.out hb)
    have C2 := Lib.hid (Sl.later HC.out hb)
    clear hb
    by_cases hin : i < l.length
    · obtain ⟨ga, oa, rfl, _, _, hga, hata⟩ := Sl.at A2.out cc_len (by omega) hin
      obtain ⟨gc, oc, rfl, _, _, hgc, hatc⟩ := Sl.at C2.out cc_len (by omega) hin
      obtain ⟨x, hx⟩ : ∃ x, l[i]? = some x := ⟨_, List.getElem?_eq_getElem hin⟩
      have q0 : ∀ q : Later wr, (bigLoadAt 40 (.pointer (some ⟨ga, oa + i * 257, none⟩))).run Try.prog q.x = .ok (.agg (ca x)) q.x := fun q => ldC (Later.rg (hata i x hx) hga q)
      have q1 : ∀ q : Later wr, (bigLoadAt 40 (.pointer (some ⟨gc, oc + i * 257, none⟩))).run Try.prog q.x = .ok (.agg (ca x)) q.x := fun q => ldC (Later.rg (hatc i x hx) hgc q)
      have e0 := hq x x
      rw [cpEq_refl] at e0
      clear hata hatc hx hq
      go_wp2_with fail
      refine wp_region_later (by kernel_rfl) (by kernel_rfl) ?_
      repeat (first | go_big_quiet_step (fail) | quiet_step (fail))
      refine wpQuiet_nil ?_
      rintro ⟨W9, hW9⟩
      dsimp only
      have H9 := Lib.hid hW9
      clear hW9 q0 q1
      go_wp2_with fail
      exact ⟨⟨HB.out.trans (H9.out.mono HB.out.size), i + 1, rfl, by omega⟩, by simp [intOf]; omega⟩
    · go_wp2_with fail
      go_ret
      exact ⟨rfl, HB.out⟩
set_option maxRecDepth 100000 in
theorem sameBks_any (l : List Blk) (va vc : Value) (w : World) (ha : Bks w va l) (hc : Bks w vc l) :
    Calls Try.prog 18 #[va, vc] w fun e w' => e = .returned (.bool true) ∧ Below w.heap.size w w' := by
  have HA := Lib.hid ha
  have HC := Lib.hid hc
  obtain ⟨aa, acap, rfl, ha1, ha2, _⟩ := ha.ex
  obtain ⟨ac, ccap, rfl, hc1, hc2, _⟩ := hc.ex
  clear ha hc
  unfold maxLen at ha2 hc2
  have hq := neqB
  go_enter Try.func18, Try.ntmps18
  go_wp2_with fail
  go_loopw [5] (fun v5 W => Below w.heap.size w W ∧ ∃ i, v5 = .int .i64 (i : Nat) ∧ i ≤ l.length) (fun v5 _ => (l.length - intOf v5).toNat)
  case atStart => exact ⟨Below.refl _ _, 0, rfl, by omega⟩
  case round =>
    obtain ⟨hb, i, rfl, hi⟩ := hrel
    have HB := Lib.hid hb
    have A2 := Lib.hid (Sl.later HA.out hb)
    have C2 := Lib.hid (Sl.later HC.out hb)
    clear hb
    by_cases hin : i < l.length
    · obtain ⟨ga, oa, rfl, _, _, hga, hata⟩ := Sl.at A2.out bc_len (by omega) hin
      obtain ⟨gc, oc, rfl, _, _, hgc, hatc⟩ := Sl.at C2.out bc_len (by omega) hin
      obtain ⟨x, hx⟩ : ∃ x, l[i]? = some x := ⟨_, List.getElem?_eq_getElem hin⟩
      have q0 : ∀ q : Later wr, (bigLoadAt 29 (.pointer (some ⟨ga, oa + i * 256, none⟩))).run Try.prog q.x = .ok (.agg (blk x)) q.x := fun q => ldB (Later.rg (hata i x hx) hga q)
      have q1 : ∀ q : Later wr, (bigLoadAt 29 (.pointer (some ⟨gc, oc + i * 256, none⟩))).run Try.prog q.x = .ok (.agg (blk x)) q.x := fun q => ldB (Later.rg (hatc i x hx) hgc q)
      have e0 := hq x x
      rw [blkEq_refl] at e0
      clear hata hatc hx hq
      go_wp2_with fail
      refine wp_region_later (by kernel_rfl) (by kernel_rfl) ?_
      repeat (first | go_big_quiet_step (fail) | quiet_step (fail))
      refine wpQuiet_nil ?_
      rintro ⟨W9, hW9⟩
      dsimp only
      have H9 := Lib.hid hW9
      clear hW9 q0 q1
      go_wp2_with fail
      exact ⟨⟨HB.out.trans (H9.out.mono HB.out.size), i + 1, rfl, by omega⟩, by simp [intOf]; omega⟩
    · go_wp2_with fail
      go_ret
      exact ⟨rfl, HB.out⟩
end Go.Proofs.Ytdeeegodiacjgaa
