/- The document's table: Add, Drop. The table holds at most 400 records. -/
import Derived.Test.YtlnfjcbhicdceaaQ3
namespace Go.Proofs.Ytlnfjcbhicdceaa
open Go.RowKit
theorem below_grown_some {w W : World} (g : Nat) (h : Below w.heap.size w W) : w.grownBy W (some g) := ⟨h.os, h.tape, h.output, h.size, fun k hk _ => h.block k hk⟩
set_option maxRecDepth 100000 in
theorem radd_any (r B : Nat) (v : Value) (ml : List K) (hlm : ml.length ≤ 400) (b s : Int) (w : World) (h : RT w r B v ml) (hB : B ≤ w.heap.size) :
    Calls Try.prog 28 #[.pointer (some ⟨r, 0, none⟩), .int .i64 b, .int .u32 s] w (RPost r B (refAdd ml b s) (.int .i64 (err b)) w) := by
  have H := Lib.hid h
  clear h
  obtain ⟨i0, hi0, hz0, hz1, hz2⟩ := info_parts info65
  by_cases hb : b < 0
  · go_enter Try.func28, Try.ntmps28
    go_wp2_with fail
    go_ret
    exact ⟨by simp [err, hb], ⟨v, by rw [refAdd, if_pos hb]; exact H.out⟩, World.grownBy.refl _ _⟩
  · have hlenS : (strike ml (b, s)).length ≤ 400 := by
      have h1 : (strike ml (b, s)).length ≤ ml.length := List.length_filter_le _ _
      omega
    go_enter Try.func28, Try.ntmps28
    have t0 := H.out.cell
    have t1 := H.out.free
    have hrlt : r < w.heap.size := World.block_lt_of_cell? w _ t0
    go_wp2_with (first
      | (go_at_call 32; refine (without_any r B v ml hlm b s _ H.out).mono ?_; rintro e w1 ⟨v', rfl, ho, hw⟩; have O := Lib.hid ho; have HW := Lib.hid hw; have H1 := Lib.hid (H.out.later hw); have hS : Hid (w.heap.size ≤ w1.heap.size) := hw.size; clear ho hw t0 t1)
      | (at_builtin; refine wpList_append_own_at _ rfl _ _ 40 rfl w.heap.size 65 i0 (.agg #[.int .i64 0, .int .u32 0]) 2 16 Try.underlying40 hi0 hz0 hz1 hz2 rfl (by decide) _ _ _ rfl (O.out.alloc _) ⟨w1.heap.size, 0, none⟩ 1 1 [.int .i64 b, .int .u32 s] rfl rfl (cell_two_new _ _ _ _) (fun x hx => by simp at hx; rcases hx with rfl | rfl <;> rfl) (by unfold maxLen; omega) (by omega) (by have := hS.out; simp; omega) ?_; intro v2 W2 hown hgrow _ _; have O2 := Lib.hid hown; have B2 : Hid (Below w.heap.size w W2) := below_app HW.out hS.out O.out ((Below.refl _ _).alloc (Nat.le_refl _) _) hgrow; obtain ⟨ao2, cap2, rfl⟩ := own_shape hown; have H2 := Lib.hid (H.out.later B2.out); have t2 := H2.out.cell; have t3 := H2.out.free; clear hown hgrow))
    go_ret
    refine ⟨by simp [err]; omega, ⟨_, H2.out.put (ml' := refAdd ml b s) (by rw [refAdd, if_neg (by omega), List.length_append, flat2_snoc]; exact own_mono O2.out hB)⟩, ?_⟩
    exact World.grownBy.andThen (row' := some r) (below_grown_some r B2.out) (grownBy_setCell _ _ _) (fun j e => .inr e)
set_option maxRecDepth 100000 in
theorem rdrop_any (r B : Nat) (v : Value) (ml : List K) (hlm : ml.length ≤ 400) (s : Int) (w : World) (h : RT w r B v ml) (hB : B ≤ w.heap.size) :
    Calls Try.prog 27 #[.pointer (some ⟨r, 0, none⟩), .int .u32 s] w (RPost r B (over ml s) (.tuple #[]) w) := by
  have H := Lib.hid h
  obtain ⟨ao, cap, rfl⟩ := own_shape h.own
  clear h
  obtain ⟨i0, hi0, hz0, hz1, hz2⟩ := info_parts info65
  go_enter Try.func27, Try.ntmps27
  go_wp2_with fail
  go_loopw [4, 5] (fun v4 v5 W => ∃ j, v5 = .int .i64 (j : Nat) ∧ j ≤ ml.length ∧ Below w.heap.size w W ∧ W.ownsRow w.heap.size 65 2 v4 (over (ml.take j) s).length (flat2 (over (ml.take j) s))) (fun _ v5 _ => (ml.length - intOf v5).toNat)
  case atStart => exact ⟨0, rfl, by omega, Below.refl _ _, by simpa [over, flat2] using World.ownsRow_nil _ w.heap.size 65 2⟩
  case round =>
    obtain ⟨j, rfl, hj, hbl, hown⟩ := hrel
    have HX := Lib.hid hbl
    have HO := Lib.hid hown
    have HR := Lib.hid (H.out.later hbl)
    have t0 := HR.out.cell
    have t1 := HR.out.free
    have hS : Hid (w.heap.size ≤ wr.heap.size) := hbl.size
    clear hbl hown
    by_cases hjn : j < ml.length
    · obtain ⟨gv, rfl, hc1, hc2, _, hgv, hcs⟩ := own_recs2 HR.out.own (by omega)
      obtain ⟨⟨yb, ys⟩, hy⟩ : ∃ y, ml[j]? = some y := ⟨_, List.getElem?_eq_getElem hjn⟩
      have htk : Hid (over (ml.take (j + 1)) s = if s < ys then over (ml.take j) s ++ [(yb, ys)] else over (ml.take j) s) := by
        unfold Hid
        rw [List.take_add_one, hy]; exact over_snoc _ _ _
      obtain ⟨c0, c1⟩ := hcs j _ hy
      clear hcs hy
      have hlenS : (over (ml.take j) s).length ≤ 400 := by
        have h1 : (over (ml.take j) s).length ≤ (ml.take j).length := List.length_filter_le _ _
        rw [List.length_take] at h1
        omega
      by_cases hd : s < ys
      · go_wp2_with (at_builtin; refine wpList_append_own_at _ rfl _ _ 40 rfl w.heap.size 65 i0 (.agg #[.int .i64 0, .int .u32 0]) 2 16 Try.underlying40 hi0 hz0 hz1 hz2 rfl (by decide) _ _ _ rfl (HO.out.alloc _) ⟨wr.heap.size, 0, none⟩ 1 1 [.int .i64 yb, .int .u32 ys] rfl rfl (cell_two_new _ _ _ _) (fun x hx => by simp at hx; rcases hx with rfl | rfl <;> rfl) (by unfold maxLen; omega) (by omega) (by have := hS.out; simp; omega) ?_; intro v' W10 hown hgrow _ _; have O10 := Lib.hid hown; have B10 : Hid (Below w.heap.size w W10) := below_app HX.out hS.out HO.out ((Below.refl _ _).alloc (Nat.le_refl _) _) hgrow; clear hown hgrow)
        refine ⟨⟨j + 1, rfl, by omega, B10.out, ?_⟩, by simp [intOf]; omega⟩
        rw [htk.out, if_pos hd, List.length_append, flat2_snoc]
        exact O10.out
      · go_wp2_with fail
        refine ⟨⟨j + 1, rfl, by omega, HX.out, ?_⟩, by simp [intOf]; omega⟩
        rw [htk.out, if_neg hd]
        exact HO.out
    · obtain rfl : j = ml.length := by omega
      obtain ⟨ao2, cap2, rfl⟩ := own_shape HO.out
      go_wp2_with fail
      refine bodyPost_end (results_none rfl _ _ _) rfl ⟨rfl, ⟨_, HR.out.put (ml' := over ml s) ?_⟩, ?_⟩
      · have := HO.out
        rw [List.take_length] at this
        rw [← List.take_length (l := over ml s)]
        simpa using own_mono this hB
      · exact World.grownBy.andThen (row' := some r) (below_grown_some r HX.out) (grownBy_setCell _ _ _) (fun j e => .inr e)
end Go.Proofs.Ytlnfjcbhicdceaa
