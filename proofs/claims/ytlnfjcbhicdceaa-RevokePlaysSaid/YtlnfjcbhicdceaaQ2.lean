/- The document's table: all records but one. The table holds at most 400 records. -/
import Derived.Test.YtlnfjcbhicdceaaQ1
namespace Go.Proofs.Ytlnfjcbhicdceaa
open Go.RowKit
set_option maxRecDepth 100000 in
theorem without_any (r B : Nat) (v : Value) (ml : List K) (hlm : ml.length ≤ 400) (b s : Int) (w : World) (h : RT w r B v ml) :
    Calls Try.prog 32 #[.pointer (some ⟨r, 0, none⟩), .agg #[.int .i64 b, .int .u32 s]] w fun e w' => ∃ v', e = .returned v' ∧ w'.ownsRow w.heap.size 65 2 v' (strike ml (b, s)).length (flat2 (strike ml (b, s))) ∧ Below w.heap.size w w' := by
  have H := Lib.hid h
  obtain ⟨ao, cap, rfl⟩ := own_shape h.own
  clear h
  obtain ⟨i0, hi0, hz0, hz1, hz2⟩ := info_parts info65
  go_enter Try.func32, Try.ntmps32
  go_wp2_with fail
  go_loopw [5, 6] (fun v5 v6 W => ∃ j, v6 = .int .i64 (j : Nat) ∧ j ≤ ml.length ∧ Below (w.alloc (.cells #[.int .i64 b, .int .u32 s] 65)).heap.size (w.alloc (.cells #[.int .i64 b, .int .u32 s] 65)) W ∧ W.ownsRow (w.heap.size + 1) 65 2 v5 (strike (ml.take j) (b, s)).length (flat2 (strike (ml.take j) (b, s)))) (fun _ v6 _ => (ml.length - intOf v6).toNat)
  case atStart => exact ⟨0, rfl, by omega, Below.refl _ _, by simpa [strike, flat2] using World.ownsRow_nil _ (w.heap.size + 1) 65 2⟩
  case round =>
    obtain ⟨j, rfl, hj, hbl, hown⟩ := hrel
    have HX := Lib.hid hbl
    have HO := Lib.hid hown
    have hb0 : Below w.heap.size w (w.alloc (.cells #[.int .i64 b, .int .u32 s] 65)) := (Below.refl _ _).alloc (Nat.le_refl _) _
    have HB : Hid (Below w.heap.size w wr) := hb0.trans (hbl.mono (by simp))
    have HR := Lib.hid (H.out.later HB.out)
    have x0 : wr.cell? ⟨w.heap.size, 0, none⟩ = some (.int .i64 b) := (World.cell?_of_block (hbl.block w.heap.size (by simp))).trans (by simp)
    have x1 : wr.cell? ⟨w.heap.size, 1, none⟩ = some (.int .u32 s) := (World.cell?_of_block (hbl.block w.heap.size (by simp))).trans (by simp)
    have hxlt : w.heap.size < wr.heap.size := World.block_lt_of_cell? wr _ x0
    have t0 := HR.out.cell
    have hrlt : r < wr.heap.size := World.block_lt_of_cell? wr _ t0
    clear hbl hown hb0
    by_cases hjn : j < ml.length
    · obtain ⟨gv, rfl, hc1, hc2, _, hgv, hcs⟩ := own_recs2 HR.out.own (by omega)
      obtain ⟨⟨yb, ys⟩, hy⟩ : ∃ y, ml[j]? = some y := ⟨_, List.getElem?_eq_getElem hjn⟩
      have hyH := Lib.hid hy
      obtain ⟨c0, c1⟩ := hcs j _ hy
      clear hcs hy
      have nq := neq65 yb ys b s
      have p0 : ∀ q : Later wr, q.x.cell? ⟨gv, j * 2, none⟩ = some (.int .i64 yb) := fun q => (World.cell?_of_block (q.h.block gv hgv)).trans c0
      have p1 : ∀ q : Later wr, q.x.cell? ⟨gv, j * 2 + 1, none⟩ = some (.int .u32 ys) := fun q => (World.cell?_of_block (q.h.block gv hgv)).trans c1
      have r0 : ∀ q : Later wr, q.x.cell? ⟨w.heap.size, 0, none⟩ = some (.int .i64 b) := fun q => (World.cell?_of_block (q.h.block _ hxlt)).trans x0
      have r1 : ∀ q : Later wr, q.x.cell? ⟨w.heap.size, 1, none⟩ = some (.int .u32 s) := fun q => (World.cell?_of_block (q.h.block _ hxlt)).trans x1
      have r2 : ∀ q : Later wr, q.x.cell? ⟨r, 0, none⟩ = some (.slice (some ⟨gv, 0, none⟩) ml.length cap) := fun q => (World.cell?_of_block (q.h.block r hrlt)).trans t0
      have hst := Lib.hid (strike_take (x := (b, s)) hyH.out)
      have hlenS : (strike (ml.take j) (b, s)).length ≤ 400 := by
        have h1 : (strike (ml.take j) (b, s)).length ≤ (ml.take j).length := List.length_filter_le _ _
        rw [List.length_take] at h1
        omega
      by_cases hyx : (yb, ys) = (b, s)
      · have nq2 : decide ((yb, ys) ≠ (b, s)) = false := by simpa using hyx
        rw [nq2] at nq
        go_wp2_with fail
        refine wp_region_later (by kernel_rfl) (by kernel_rfl) ?_
        repeat (first | go_big_quiet_step (fail) | quiet_step (fail))
        refine wpQuiet_nil ?_
        rintro ⟨W9, hW9⟩
        dsimp only
        have hWH := Lib.hid hW9
        clear hW9 p0 p1 r0 r1 r2
        go_wp2_with fail
        refine ⟨⟨j + 1, rfl, by omega, HX.out.trans (hWH.out.mono HX.out.size), ?_⟩, by simp [intOf]; omega⟩
        rw [hst.out, if_pos hyx]
        exact own_later HO.out hWH.out
      · have nq2 : decide ((yb, ys) ≠ (b, s)) = true := decide_eq_true hyx
        rw [nq2] at nq
        go_wp2_with fail
        refine wp_region_later (by kernel_rfl) (by kernel_rfl) ?_
        repeat (first | go_big_quiet_step (fail) | quiet_step (fail))
        refine wpQuiet_nil ?_
        rintro ⟨W9, hW9⟩
        dsimp only
        have hWH := Lib.hid hW9
        clear hW9 p0 p1 r0 r1 r2
        have HO9 := Lib.hid (own_later HO.out hWH.out)
        have e0 := (World.cell?_of_block (hWH.out.block gv hgv)).trans c0
        have e1 := (World.cell?_of_block (hWH.out.block gv hgv)).trans c1
        have e2 := (World.cell?_of_block (hWH.out.block r hrlt)).trans t0
        have hC9 : Hid (w.heap.size + 1 ≤ W9.heap.size) := by have := hWH.out.size; unfold Hid; omega
        go_wp2_with (at_builtin; refine wpList_append_own_at _ rfl _ _ 40 rfl (w.heap.size + 1) 65 i0 (.agg #[.int .i64 0, .int .u32 0]) 2 16 Try.underlying40 hi0 hz0 hz1 hz2 rfl (by decide) _ _ _ rfl (HO9.out.alloc _) ⟨W9.heap.size, 0, none⟩ 1 1 [.int .i64 yb, .int .u32 ys] rfl rfl (cell_two_new _ _ _ _) (fun x hx => by simp at hx; rcases hx with rfl | rfl <;> rfl) (by unfold maxLen; omega) (by omega) (by have := hC9.out; simp; omega) ?_; intro v' W10 hown hgrow _ _; have O10 := Lib.hid hown; have B10 : Hid (Below (w.alloc (.cells #[.int .i64 b, .int .u32 s] 65)).heap.size (w.alloc (.cells #[.int .i64 b, .int .u32 s] 65)) W10) := below_app (HX.out.trans (hWH.out.mono HX.out.size)) (by rw [World.size_alloc]; exact hC9.out) (by rw [World.size_alloc]; exact HO9.out) ((Below.refl _ _).alloc (Nat.le_refl _) _) hgrow; clear hown hgrow)
        refine ⟨⟨j + 1, rfl, by omega, B10.out, ?_⟩, by simp [intOf]; omega⟩
        rw [hst.out, if_neg hyx, List.length_append, flat2_snoc]
        exact O10.out
    · obtain rfl : j = ml.length := by omega
      go_wp2_with fail
      go_ret
      have := HO.out
      rw [List.take_length] at this
      exact ⟨_, rfl, own_mono this (by omega), HB.out⟩
end Go.Proofs.Ytlnfjcbhicdceaa
