/- Comparisons of transactions, as the given statements ask them. Conditions are written in each. -/
import Derived.Test.YtdeeegodiacjgaaW1
namespace Go.Proofs.Ytdeeegodiacjgaa
open Go.RowKit
attribute [local go_sem ↓] loadAtB storeAtB loadAtC storeAtC
/-- A transaction: its number, copies, revoked blocks. -/
abbrev Tr := Int × List Cp × List Int
abbrev Tv := Int × Value × Value
def tc (x : Tv) : List Value := [.int .u32 x.1, x.2.1, x.2.2]
theorem tc_len (x : Tv) : (tc x).length = 3 := rfl
structure TrAt (W : World) (x : Tv) (t : Tr) : Prop where
  seq : x.1 = t.1
  cps : Cps W x.2.1 t.2.1
  rvs : Ints W x.2.2 t.2.2
theorem TrAt.later {W W' : World} {x : Tv} {t : Tr} (h : TrAt W x t) (hb : Below W.heap.size W W') : TrAt W' x t := ⟨h.seq, Sl.later h.cps hb, Sl.later h.rvs hb⟩
/-- A slice of transactions. -/
structure Trs (W : World) (v : Value) (l : List Tr) : Prop where
  ex : ∃ vs : List Tv, vs.length = l.length ∧ Sl W v vs.length (flat tc vs) ∧ ∀ (i : Nat) (x : Tv) (t : Tr), vs[i]? = some x → l[i]? = some t → TrAt W x t
theorem Trs.later {W W' : World} {v : Value} {l : List Tr} (h : Trs W v l) (hb : Below W.heap.size W W') : Trs W' v l := by
  obtain ⟨vs, h1, h2, h3⟩ := h.ex
  exact ⟨vs, h1, h2.later hb, fun i x t hx ht => (h3 i x t hx ht).later hb⟩
theorem range_three {W : World} {g o : Nat} {x y z : Value} (h : W.rangeAt g o [x, y, z]) : W.cell? ⟨g, o, none⟩ = some x ∧ W.cell? ⟨g, o + 1, none⟩ = some y ∧ W.cell? ⟨g, o + 2, none⟩ = some z := ⟨h 0 x rfl, h 1 y rfl, h 2 z rfl⟩
theorem Trs.shape {W : World} {v : Value} {l : List Tr} (h : Trs W v l) : ∃ ao cap, v = .slice ao l.length cap ∧ l.length ≤ cap ∧ cap ≤ maxLen := by
  obtain ⟨vs, h1, h2, _⟩ := h.ex
  obtain ⟨ao, cap, e, h3, h4, _⟩ := h2.ex
  rw [h1] at e h3
  exact ⟨ao, cap, e, h3, h4⟩
theorem Trs.at {W : World} {ao : Option Addr} {cap : Nat} {l : List Tr} (h : Trs W (.slice ao l.length cap) l) {i : Nat} {t : Tr} (ht : l[i]? = some t) :
    ∃ (g off : Nat) (x : Value × Value), ao = some ⟨g, off, none⟩ ∧ l.length ≤ cap ∧ cap ≤ maxLen ∧ g < W.heap.size ∧ W.cell? ⟨g, off + i * 3, none⟩ = some (.int .u32 t.1) ∧ W.cell? ⟨g, off + i * 3 + 1, none⟩ = some x.1 ∧ W.cell? ⟨g, off + i * 3 + 2, none⟩ = some x.2 ∧ Cps W x.1 t.2.1 ∧ Ints W x.2 t.2.2 := by
  obtain ⟨vs, h1, h2, h3⟩ := h.ex
  rw [← h1] at h2
  have hi : i < vs.length := by rw [h1]; exact (List.getElem?_eq_some_iff.1 ht).1
  obtain ⟨g, off, e, h4, h5, h6, hat⟩ := Sl.at h2 tc_len (by omega) hi
  obtain ⟨x, hx⟩ : ∃ x, vs[i]? = some x := ⟨_, List.getElem?_eq_getElem hi⟩
  obtain ⟨c0, c1, c2⟩ := range_three (hat i x hx)
  have hT := h3 i x t hx ht
  rw [hT.seq] at c0
  rw [← h1]
  exact ⟨g, off, x.2, e, h4, h5, h6, c0, c1, c2, hT.cps, hT.rvs⟩
set_option maxRecDepth 100000 in
set_option maxHeartbeats 1000000 in
theorem same_any (s : Int) (cs : List Cp) (rs : List Int) (va ra vc rc : Value) (w : World) (h1 : Cps w va cs) (h2 : Cps w vc cs) (h3 : Ints w ra rs) (h4 : Ints w rc rs) :
    Calls Try.prog 38 #[.agg #[.int .u32 s, va, ra], .agg #[.int .u32 s, vc, rc]] w fun e w' => e = .returned (.bool true) ∧ Below w.heap.size w w' := by
  have H1 := Lib.hid h1
  have H2 := Lib.hid h2
  have H3 := Lib.hid h3
  have H4 := Lib.hid h4
  obtain ⟨a1, c1, rfl, x1, y1, _⟩ := h1.ex
  obtain ⟨a2, c2, rfl, x2, y2, _⟩ := h2.ex
  obtain ⟨a3, c3, rfl, x3, y3, _⟩ := h3.ex
  obtain ⟨a4, c4, rfl, x4, y4, _⟩ := h4.ex
  clear h1 h2 h3 h4
  unfold maxLen at y1 y2 y3 y4
  have hq := neqC
  go_enter Try.func38, Try.ntmps38
  go_wp2_with fail
  have hb0 : Hid (Below w.heap.size w ((w.alloc (.cells #[.int .u32 s, .slice a1 cs.length c1, .slice a3 rs.length c3] 55)).alloc (.cells #[.int .u32 s, .slice a2 cs.length c2, .slice a4 rs.length c4] 55))) := ((Below.refl _ _).alloc (Nat.le_refl _) _).alloc (by simp) _
  have hcell : Hid (∀ W, Below (w.heap.size + 2) ((w.alloc (.cells #[.int .u32 s, .slice a1 cs.length c1, .slice a3 rs.length c3] 55)).alloc (.cells #[.int .u32 s, .slice a2 cs.length c2, .slice a4 rs.length c4] 55)) W → W.cell? ⟨w.heap.size, 1, none⟩ = some (.slice a1 cs.length c1) ∧ W.cell? ⟨w.heap.size, 2, none⟩ = some (.slice a3 rs.length c3) ∧ W.cell? ⟨w.heap.size + 1, 1, none⟩ = some (.slice a2 cs.length c2) ∧ W.cell? ⟨w.heap.size + 1, 2, none⟩ = some (.slice a4 rs.length c4) ∧ w.heap.size + 2 ≤ W.heap.size) := by
    intro W hb
    have g0 : W.heap[w.heap.size]? = some (.cells #[.int .u32 s, .slice a1 cs.length c1, .slice a3 rs.length c3] 55 (0, 0)) := (hb.block _ (by omega)).trans (heap_past_alloc (heap_at_alloc _ _ _ rfl))
    have g1 : W.heap[w.heap.size + 1]? = some (.cells #[.int .u32 s, .slice a2 cs.length c2, .slice a4 rs.length c4] 55 (0, 0)) := (hb.block _ (by omega)).trans (heap_at_alloc _ _ _ (by simp))
    exact ⟨by rw [cell_of_row _ _ _ _ _ _ g0]; rfl, by rw [cell_of_row _ _ _ _ _ _ g0]; rfl, by rw [cell_of_row _ _ _ _ _ _ g1]; rfl, by rw [cell_of_row _ _ _ _ _ _ g1]; rfl, by have := hb.size; simpa using this⟩
  have hs0 : Hid (((w.alloc (.cells #[.int .u32 s, .slice a1 cs.length c1, .slice a3 rs.length c3] 55)).alloc (.cells #[.int .u32 s, .slice a2 cs.length c2, .slice a4 rs.length c4] 55)).heap.size = w.heap.size + 2) := by unfold Hid; simp
  generalize ((w.alloc (.cells #[.int .u32 s, .slice a1 cs.length c1, .slice a3 rs.length c3] 55)).alloc (.cells #[.int .u32 s, .slice a2 cs.length c2, .slice a4 rs.length c4] 55)) = W0 at *
  go_loopw [5] (fun v5 W => Below (w.heap.size + 2) W0 W ∧ ∃ i, v5 = .int .i64 (i : Nat) ∧ i ≤ cs.length) (fun v5 _ => (cs.length - intOf v5).toNat)
  case atStart => exact ⟨Below.refl _ _, 0, rfl, by omega⟩
  case round =>
    obtain ⟨hb, i, rfl, hi⟩ := hrel
    have HB := Lib.hid hb
    obtain ⟨f1, f2, f3, f4, f5⟩ := hcell.out wr hb
    have Bw : Hid (Below w.heap.size w wr) := hb0.out.trans (hb.mono (by omega))
    have A2 := Lib.hid (Sl.later H1.out Bw.out)
    have C2 := Lib.hid (Sl.later H2.out Bw.out)
    clear hb
    by_cases hin : i < cs.length
    · obtain ⟨ga, oa, rfl, _, _, hga, hata⟩ := Sl.at A2.out cc_len (by omega) hin
      obtain ⟨gc, oc, rfl, _, _, hgc, hatc⟩ := Sl.at C2.out cc_len (by omega) hin
      obtain ⟨x, hx⟩ : ∃ x, cs[i]? = some x := ⟨_, List.getElem?_eq_getElem hin⟩
      have q0 : ∀ q : Later wr, (bigLoadAt 40 (.pointer (some ⟨ga, oa + i * 257, none⟩))).run Try.prog q.x = .ok (.agg (ca x)) q.x := fun q => ldC (Later.rg (hata i x hx) hga q)
      have q1 : ∀ q : Later wr, (bigLoadAt 40 (.pointer (some ⟨gc, oc + i * 257, none⟩))).run Try.prog q.x = .ok (.agg (ca x)) q.x := fun q => ldC (Later.rg (hatc i x hx) hgc q)
      have q2 : ∀ q : Later wr, q.x.cell? ⟨w.heap.size, 1, none⟩ = some (.slice (some ⟨ga, oa, none⟩) cs.length c1) := fun q => (World.cell?_of_block (q.h.block (w.heap.size) (by omega))).trans f1
      have q3 : ∀ q : Later wr, q.x.cell? ⟨w.heap.size + 1, 1, none⟩ = some (.slice (some ⟨gc, oc, none⟩) cs.length c2) := fun q => (World.cell?_of_block (q.h.block (w.heap.size + 1) (by omega))).trans f3
      have e0 := hq x x
      rw [cpEq_refl] at e0
      clear hata hatc hx hq
      go_wp2_with fail
      refine wp_region_later (by kernel_rfl) (by kernel_rfl) ?_
      repeat (first | go_big_quiet_step (fail) | quiet_step (fail))
      refine wpQuiet_nil ?_
      rintro ⟨W9, hW9⟩
      dsimp only
      have H9 := Lib.hid hW9
      clear hW9 q0 q1 q2 q3
      go_wp2_with fail
      exact ⟨⟨HB.out.trans (H9.out.mono f5), i + 1, rfl, by omega⟩, by simp [intOf]; omega⟩
    · go_wp2_with fail
      obtain ⟨wo, rfl⟩ : ∃ wo : World, wo = wr := ⟨_, rfl⟩
      go_loopw [6] (fun v6 W => Below (w.heap.size + 2) W0 W ∧ ∃ k, v6 = .int .i64 (k : Nat) ∧ k ≤ rs.length) (fun v6 _ => (rs.length - intOf v6).toNat)
      case atStart => exact ⟨HB.out, 0, rfl, by omega⟩
      case round =>
        obtain ⟨hb, k, rfl, hk⟩ := hrel
        have HB2 := Lib.hid hb
        clear f1 f2 f3 f4 f5
        obtain ⟨f1, f2, f3, f4, f5⟩ := hcell.out wr hb
        have Bw2 : Hid (Below w.heap.size w wr) := hb0.out.trans (hb.mono (by omega))
        have A3 := Lib.hid (Sl.later H3.out Bw2.out)
        have C3 := Lib.hid (Sl.later H4.out Bw2.out)
        clear hb
        by_cases hkn : k < rs.length
        · obtain ⟨ga, oa, rfl, _, _, hga, hata⟩ := Sl.at A3.out ic_len (by omega) hkn
          obtain ⟨gc, oc, rfl, _, _, hgc, hatc⟩ := Sl.at C3.out ic_len (by omega) hkn
          obtain ⟨x, hx⟩ : ∃ x, rs[k]? = some x := ⟨_, List.getElem?_eq_getElem hkn⟩
          have d0 := range_one (hata k x hx)
          have d1 := range_one (hatc k x hx)
          rw [Nat.mul_one] at d0 d1
          have q0 : ∀ q : Later wr, q.x.cell? ⟨ga, oa + k, none⟩ = some (.int .i64 x) := fun q => (World.cell?_of_block (q.h.block _ hga)).trans d0
          have q1 : ∀ q : Later wr, q.x.cell? ⟨gc, oc + k, none⟩ = some (.int .i64 x) := fun q => (World.cell?_of_block (q.h.block _ hgc)).trans d1
          have q2 : ∀ q : Later wr, q.x.cell? ⟨w.heap.size, 2, none⟩ = some (.slice (some ⟨ga, oa, none⟩) rs.length c3) := fun q => (World.cell?_of_block (q.h.block (w.heap.size) (by omega))).trans f2
          have q3 : ∀ q : Later wr, q.x.cell? ⟨w.heap.size + 1, 2, none⟩ = some (.slice (some ⟨gc, oc, none⟩) rs.length c4) := fun q => (World.cell?_of_block (q.h.block (w.heap.size + 1) (by omega))).trans f4
          clear hata hatc hx hq d0 d1
          go_wp2_with fail
          refine wp_region_later (by kernel_rfl) (by kernel_rfl) ?_
          repeat (first | go_big_quiet_step (fail) | quiet_step (fail))
          refine wpQuiet_nil ?_
          rintro ⟨W9, hW9⟩
          dsimp only
          have H9 := Lib.hid hW9
          clear hW9 q0 q1 q2 q3
          go_wp2_with fail
          exact ⟨⟨HB2.out.trans (H9.out.mono f5), k + 1, rfl, by omega⟩, by simp [intOf]; omega⟩
        · go_wp2_with fail
          go_ret
          exact ⟨rfl, Bw2.out⟩
set_option maxRecDepth 100000 in
theorem sameAll_any (l : List Tr) (va vc : Value) (w : World) (ha : Trs w va l) (hc : Trs w vc l) :
    Calls Try.prog 17 #[va, vc] w fun e w' => e = .returned (.bool true) ∧ Below w.heap.size w w' := by
  have HA := Lib.hid ha
  have HC := Lib.hid hc
  obtain ⟨aa, acap, rfl, ha1, ha2⟩ := ha.shape
  obtain ⟨ac, ccap, rfl, hc1, hc2⟩ := hc.shape
  clear ha hc
  unfold maxLen at ha2 hc2
  go_enter Try.func17, Try.ntmps17
  go_wp2_with fail
  go_loopw [5] (fun v5 W => Below w.heap.size w W ∧ ∃ i, v5 = .int .i64 (i : Nat) ∧ i ≤ l.length) (fun v5 _ => (l.length - intOf v5).toNat)
  case atStart => exact ⟨Below.refl _ _, 0, rfl, by omega⟩
  case round =>
    obtain ⟨hb, i, rfl, hi⟩ := hrel
    have HB := Lib.hid hb
    have A2 := Lib.hid (HA.out.later hb)
    have C2 := Lib.hid (HC.out.later hb)
    clear hb
    by_cases hin : i < l.length
    · obtain ⟨⟨s, cs, rs⟩, ht⟩ : ∃ x, l[i]? = some x := ⟨_, List.getElem?_eq_getElem hin⟩
      obtain ⟨ga, oa, ⟨va, ra⟩, rfl, _, _, hga, d0, d1, d2, p1, p2⟩ := A2.out.at ht
      obtain ⟨gc, oc, ⟨vc, rc⟩, rfl, _, _, hgc, e0, e1, e2, p3, p4⟩ := C2.out.at ht
      dsimp only at d0 d1 d2 e0 e1 e2
      have q0 : ∀ q : Later wr, q.x.cell? ⟨ga, oa + i * 3, none⟩ = some (.int .u32 s) := fun q => (World.cell?_of_block (q.h.block _ hga)).trans d0
      have q1 : ∀ q : Later wr, q.x.cell? ⟨ga, oa + i * 3 + 1, none⟩ = some va := fun q => (World.cell?_of_block (q.h.block _ hga)).trans d1
      have q2 : ∀ q : Later wr, q.x.cell? ⟨ga, oa + i * 3 + 2, none⟩ = some ra := fun q => (World.cell?_of_block (q.h.block _ hga)).trans d2
      have q3 : ∀ q : Later wr, q.x.cell? ⟨gc, oc + i * 3, none⟩ = some (.int .u32 s) := fun q => (World.cell?_of_block (q.h.block _ hgc)).trans e0
      have q4 : ∀ q : Later wr, q.x.cell? ⟨gc, oc + i * 3 + 1, none⟩ = some vc := fun q => (World.cell?_of_block (q.h.block _ hgc)).trans e1
      have q5 : ∀ q : Later wr, q.x.cell? ⟨gc, oc + i * 3 + 2, none⟩ = some rc := fun q => (World.cell?_of_block (q.h.block _ hgc)).trans e2
      have P1 := Lib.hid p1
      have P2 := Lib.hid p2
      have P3 := Lib.hid p3
      have P4 := Lib.hid p4
      clear ht d0 d1 d2 e0 e1 e2 p1 p2 p3 p4
      go_wp2_with fail
      refine wp_region_later (by kernel_rfl) (by kernel_rfl) ?_
      repeat (first | go_big_quiet_step ((go_at_call 38; exact (same_any s cs rs va ra vc rc _ (Sl.later P1.out (Later.h _)) (Sl.later P3.out (Later.h _)) (Sl.later P2.out (Later.h _)) (Sl.later P4.out (Later.h _))).mono fun _ w' ⟨he, hb⟩ => ⟨he, ⟨w', (Later.h _).trans (hb.mono (Later.h _).size)⟩, rfl⟩)) | quiet_step ((go_at_call 38; exact (same_any s cs rs va ra vc rc _ (Sl.later P1.out (Later.h _)) (Sl.later P3.out (Later.h _)) (Sl.later P2.out (Later.h _)) (Sl.later P4.out (Later.h _))).mono fun _ w' ⟨he, hb⟩ => ⟨he, ⟨w', (Later.h _).trans (hb.mono (Later.h _).size)⟩, rfl⟩)))
      refine wpQuiet_nil ?_
      rintro ⟨W9, hW9⟩
      dsimp only
      have H9 := Lib.hid hW9
      clear hW9 q0 q1 q2 q3 q4 q5
      go_wp2_with fail
      exact ⟨⟨HB.out.trans (H9.out.mono HB.out.size), i + 1, rfl, by omega⟩, by simp [intOf]; omega⟩
    · go_wp2_with fail
      go_ret
      exact ⟨rfl, HB.out⟩
end Go.Proofs.Ytdeeegodiacjgaa
