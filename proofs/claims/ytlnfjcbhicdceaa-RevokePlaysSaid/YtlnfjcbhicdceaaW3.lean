/- The table of revoked blocks: Drop of the given program. The table holds a map; condition: the numbers are below 2 to the 32nd. -/
import Derived.Test.YtlnfjcbhicdceaaW2
import Derived.Test.YtlnfjcbhicdceaaHT
namespace Go.Proofs.Ytlnfjcbhicdceaa
open Go.RowKit
attribute [local go_sem] rk
def dropped (m : M) (s : Int) : M := m.filter fun p => decide (s < p.1.2)
def halfDropped (m left : M) (s : Int) : M := m.filter fun p => decide (p.1 ∈ left.map (·.1)) || decide (s < p.1.2)
theorem mem_del_keys {left : M} {x k : Int × Int} : k ∈ (del left x).map (·.1) ↔ k ∈ left.map (·.1) ∧ k ≠ x := by
  simp only [del, List.mem_map, List.mem_filter, decide_eq_true_eq]
  constructor
  · rintro ⟨a, ⟨h1, h2⟩, rfl⟩; exact ⟨⟨a, h1, rfl⟩, h2⟩
  · rintro ⟨⟨a, h1, rfl⟩, h2⟩; exact ⟨a, ⟨h1, h2⟩, rfl⟩
theorem half_start (m : M) (s : Int) : halfDropped m m s = m := by
  unfold halfDropped
  rw [List.filter_eq_self]
  intro p hp
  simp [List.mem_map_of_mem hp]
theorem half_end (m : M) (s : Int) : halfDropped m [] s = dropped m s := by simp [halfDropped, dropped]
theorem half_skip {m left : M} {s : Int} {p : (Int × Int) × Value} (h : s < p.1.2) : halfDropped m (del left p.1) s = halfDropped m left s := by
  unfold halfDropped
  refine List.filter_congr fun q _ => ?_
  by_cases e : q.1 = p.1
  · simp [e, h]
  · have : (q.1 ∈ (del left p.1).map (·.1)) ↔ q.1 ∈ left.map (·.1) := by rw [mem_del_keys]; exact and_iff_left e
    simp only [this]
theorem half_del {m left : M} {s : Int} {p : (Int × Int) × Value} (h : p.1.2 ≤ s) : halfDropped m (del left p.1) s = del (halfDropped m left s) p.1 := by
  unfold halfDropped
  rw [show ∀ f : (Int × Int) × Value → Bool, del (m.filter f) p.1 = (m.filter f).filter fun q => decide (q.1 ≠ p.1) from fun _ => rfl, List.filter_filter]
  refine List.filter_congr fun q _ => ?_
  by_cases e : q.1 = p.1
  · have : ¬ (q.1 ∈ (del left p.1).map (·.1)) := by rw [mem_del_keys]; exact fun x => x.2 e
    have h2 : ¬ s < q.1.2 := by rw [e]; omega
    have r : decide (q.1 ≠ p.1) = false := by simp [e]
    rw [r, decide_eq_false this, decide_eq_false h2]
    rfl
  · have : (q.1 ∈ (del left p.1).map (·.1)) ↔ q.1 ∈ left.map (·.1) := by rw [mem_del_keys]; exact and_iff_left e
    have r : decide (q.1 ≠ p.1) = true := by simpa using e
    rw [r, Bool.true_and]
    simp only [this]
theorem del_del {α : Type} [DecidableEq α] (m : List (α × Value)) (x : α) : del (del m x) x = del m x := by
  simp only [del, List.filter_filter]
  refine List.filter_congr fun q _ => by simp
/-- 'delete(m, x)' while it is ranged over. -/
theorem wpl_delete_ranging {ops : Array Oper} {rest : List Oper} {o : Oper} {a : Act} {Q : Exit → Act → World → Prop} (hg : o.guard = none) (mo xo : Operand) (hop : o.op = Op.call { callee := Callee.builtin Builtin.delete, args := #[mo, xo], argTypes := #[48, 61] }) (w : World) (it bm : Nat) (m left : M) (x : Int × Int)
    (hm : a.eval mo = .map (some bm)) (hx : a.eval xo = rk x) (h : Ranging rk w it bm m left)
    (hK : ∀ w', Ranging rk w' it bm (del m x) (del left x) → Chg w w' bm → wpList Try.prog ops Q rest (a.put o.dst (.tuple #[])) w') :
    wpList Try.prog ops Q (o :: rest) a w := by
  refine wpList_plain hg fun K' hK' => ?_
  obtain ⟨w', hrun, r1, r2⟩ := h.erase (ty := o.type) (tys := #[48, 61]) rkEnc Try.underlying48 rfl x
  unfold Oper.wp
  simp [execOp, hop, resolve, invoke, builtin, hm, hx, hrun, Result.andThen]
  exact hK' _ _ (hK w' r1 r2)
theorem rec_cells {W : World} {a b : Int} {t : TypeId} {p : Later (W.alloc (.cells #[.int .i64 a, .int .u32 b] t))} : p.x.cell? ⟨W.heap.size, 0, none⟩ = some (.int .i64 a) ∧ p.x.cell? ⟨W.heap.size, 1, none⟩ = some (.int .u32 b) := by
  have h0 : p.x.heap[W.heap.size]? = (W.alloc (.cells #[.int .i64 a, .int .u32 b] t)).heap[W.heap.size]? := p.h.block _ (by simp)
  exact ⟨(World.cell?_of_block h0).trans (by simp), (World.cell?_of_block h0).trans (by simp)⟩
/-- What stands in the loop. -/
structure DI (m : M) (s : Int) (g bm it : Nat) (w : World) (left : M) (W : World) : Prop where
  rng : Ranging rk W it bm (halfDropped m left s) left
  own : w.grownBy W (some bm)
  cell : W.cell? ⟨g, 0, none⟩ = some (.map (some bm))
theorem DI.alloc {m : M} {s : Int} {g bm it : Nat} {w W : World} {left : M} (h : DI m s g bm it w left W) (o : Obj) : DI m s g bm it w left (W.alloc o) :=
  ⟨h.rng.alloc o, (h.own.andThen (World.grownBy_alloc W o none) (fun j e => by cases e)), (World.cell?_of_block (Below.heap_alloc W o _ (World.block_lt_of_cell? W _ h.cell))).trans h.cell⟩
/-- A round that lays a record and passes on, or deletes it. -/
theorem DI.step {m : M} {s : Int} {g bm it : Nat} {w W W' : World} {left : M} (h : DI m s g bm it w left W) (hit : w.heap.size ≤ it) (hg : g ≠ it) (hc : Chg W W' it) :
    w.grownBy W' (some bm) ∧ W'.cell? ⟨g, 0, none⟩ = some (.map (some bm)) :=
  ⟨h.own.andThen hc.grown (fun j e => by cases e; exact .inl hit), (World.cell?_of_block (hc.other g hg)).trans h.cell⟩
theorem DI.pass {m : M} {s : Int} {g bm it : Nat} {w W W' : World} {left : M} {p : (Int × Int) × Value} {o : Obj} (h : DI m s g bm it w left W) (hit : w.heap.size ≤ it) (hg : g ≠ it) (hr : Ranging rk W' it bm (halfDropped m left s) (del left p.1)) (hc : Chg W W' it) (hp : p ∈ left) (hs : s < p.1.2) :
    (∃ left, DI m s g bm it w left (W'.alloc o)) ∧ (W'.alloc o).rangeLeft bm it < W.rangeLeft bm it := by
  have hst := h.step hit hg hc
  have hD : DI m s g bm it w (del left p.1) W' := ⟨by rw [half_skip hs]; exact hr, hst.1, hst.2⟩
  refine ⟨⟨_, hD.alloc o⟩, ?_⟩
  rw [(hr.alloc o).left_eq, h.rng.left_eq]
  exact del_length hp
theorem DI.strike {m : M} {s : Int} {g bm it : Nat} {w W W' W4 W5 : World} {left : M} {p : (Int × Int) × Value} {o : Obj} (h : DI m s g bm it w left W) (hit : w.heap.size ≤ it) (hg : g ≠ it) (hgb : g ≠ bm) (hr : Ranging rk W' it bm (halfDropped m left s) (del left p.1)) (hc : Chg W W' it) (hp : p ∈ left) (hs : p.1.2 ≤ s)
    (hb : Below (W'.alloc o).heap.size (W'.alloc o) W4) (hr5 : Ranging rk W5 it bm (del (halfDropped m left s) p.1) (del (del left p.1) p.1)) (hc5 : Chg W4 W5 bm) :
    (∃ left, DI m s g bm it w left W5) ∧ W5.rangeLeft bm it < W.rangeLeft bm it := by
  have hst := h.step hit hg hc
  rw [← half_del hs, del_del] at hr5
  have hcell : (W'.alloc o).cell? ⟨g, 0, none⟩ = some (.map (some bm)) := (World.cell?_of_block (Below.heap_alloc W' o _ (World.block_lt_of_cell? W' _ hst.2))).trans hst.2
  have hlt := World.block_lt_of_cell? _ _ hcell
  refine ⟨⟨_, hr5, ?_, ?_⟩, ?_⟩
  · have a1 : w.grownBy (W'.alloc o) (some bm) := hst.1.andThen (World.grownBy_alloc W' o none) (fun j e => by cases e)
    have a2 : w.grownBy W4 (some bm) := a1.andThen (row' := none) ⟨hb.os, hb.tape, hb.output, hb.size, fun k hk _ => hb.block k hk⟩ (fun j e => by cases e)
    exact a2.andThen hc5.grown (fun j e => by cases e; exact .inr rfl)
  · exact ((World.cell?_of_block (hc5.other g hgb)).trans (World.cell?_of_block (hb.block g hlt))).trans hcell
  · rw [hr5.left_eq, h.rng.left_eq]
    exact del_length hp
def DropPost (g bm : Nat) (m' : M) (w : World) (e : Ending) (w' : World) : Prop := e = .returned (.tuple #[]) ∧ Tab w' g bm m' ∧ w.grownBy w' (some bm)
set_option maxRecDepth 100000 in
theorem drop_tab (g bm : Nat) (m : M) (s : Int) (w : World) (h : Tab w g bm m) :
    Calls Try.prog 22 #[.pointer (some ⟨g, 0, none⟩), .int .u32 s] w (DropPost g bm (dropped m s) w) := by
  have c1 := h.cell
  have H := Lib.hid h
  have hlt := Lib.hid h.lt
  have hgit : Hid (g ≠ w.heap.size) := by have := h.lt.1; unfold Hid; omega
  clear h
  go_enter Try.func22, Try.ntmps22
  go_wp2_with (first
      | (go_at_call 24; refine (refuse_tab g bm m _ _ H.out).mono ?_; rintro e w1 ⟨rfl, rfl⟩; rw [if_neg (by omega)])
      | (at_range; refine wpl_range rfl _ 48 rfl 3 Try.underlying48 _ bm m rfl H.out.map ?_; intro w2 hr2 hb2 hz2; have R := Lib.hid hr2; have B := Lib.hid hb2; have hz := Lib.hid hz2; clear hr2 hb2 hz2; go_frame))
  go_loopw [4] (fun _ W => ∃ left, DI m s g bm w1.heap.size w1 left W) (fun _ W => W.rangeLeft bm w1.heap.size)
  case atStart =>
    refine ⟨m, ⟨by rw [half_start]; exact R.out, ⟨B.out.os, B.out.tape, B.out.output, B.out.size, fun k hk _ => B.out.block k hk⟩, (World.cell?_of_block (B.out.block g hlt.out.1)).trans c1⟩⟩
  case round =>
    obtain ⟨left, hI⟩ := hrel
    have hIH := Lib.hid hI
    have hms : Hid (wr.rangeLeft bm w1.heap.size = left.length) := hI.rng.left_eq
    clear hI
    go_wp2_with (first | (at_next; refine wpl_next rfl _ rfl _ w1.heap.size bm _ left rfl hIH.out.rng (fun hnil => ?_) (fun p w3 hp hr3 hc3 hen => ?_); (have hN := Lib.hid hnil; clear hnil; go_frame); rotate_left; (have hpH := Lib.hid hp; have hr3H := Lib.hid hr3; have hc3H := Lib.hid hc3; have he : (Instr.entry (.pointer (some ⟨w1.heap.size, 0, none⟩))).run Try.prog w3 = .ok (.tuple #[.agg #[.int .i64 p.1.1, .int .u32 p.1.2], p.2]) w3 := hen; clear hp hr3 hc3 hen; go_frame); rotate_left) | fail)
    · refine bodyPost_end (results_none rfl _ _ _) rfl ⟨rfl, ⟨hIH.out.cell, ?_, H.out.ne⟩, hIH.out.own⟩
      have := hIH.out.rng.map
      rw [hN.out, half_end] at this
      exact this
    · have hle : p.1.2 ≤ s := by assumption
      have hleH := Lib.hid hle
      have hst := Lib.hid (hIH.out.step (Nat.le_refl _) hgit.out hc3H.out)
      have q1 : ∀ q : Later (w3.alloc (.cells #[.int .i64 p.1.1, .int .u32 p.1.2] 61)), q.x.cell? ⟨g, 0, none⟩ = some (.map (some bm)) := fun q => by
        have hlt3 : g < w3.heap.size := World.block_lt_of_cell? _ _ hst.out.2
        exact (World.cell?_of_block ((q.h.block g (by simp; omega)).trans (Below.heap_alloc w3 _ _ hlt3))).trans hst.out.2
      have q2 : ∀ q : Later (w3.alloc (.cells #[.int .i64 p.1.1, .int .u32 p.1.2] 61)), q.x.cell? ⟨w3.heap.size, 0, none⟩ = some (.int .i64 p.1.1) := fun q => rec_cells.1
      have q3 : ∀ q : Later (w3.alloc (.cells #[.int .i64 p.1.1, .int .u32 p.1.2] 61)), q.x.cell? ⟨w3.heap.size, 1, none⟩ = some (.int .u32 p.1.2) := fun q => rec_cells.2
      refine wp_region_head 5 (by kernel_rfl) (by kernel_rfl) ?_
      simp only [List.take_succ_cons, List.take_zero, List.drop_succ_cons, List.drop_zero]
      repeat (first | go_big_quiet_step (fail) | quiet_step (fail))
      refine wpQuiet_nil ?_
      rintro ⟨w4, hw4⟩
      dsimp only
      have R4 : Hid (Ranging rk w4 w1.heap.size bm (halfDropped m left s) (del left p.1)) := (hr3H.out.alloc _).later hw4 (by simp; have := hr3H.out.lt.1; omega) (by simp; have := hr3H.out.lt.2.1; omega)
      have hw4H := Lib.hid hw4
      clear q1 q2 q3 hw4
      go_wp2_with (at_delete; refine wpl_delete_ranging rfl _ _ rfl _ w1.heap.size bm _ _ p.1 rfl rfl R4.out ?_; intro w5 hr5 hc5; have R5 := Lib.hid hr5; have C5 := Lib.hid hc5; clear hr5 hc5; go_frame)
      exact hIH.out.strike (Nat.le_refl _) hgit.out H.out.ne hr3H.out hc3H.out hpH.out hleH.out hw4H.out R5.out C5.out
    · have hle : s < p.1.2 := by assumption
      exact hIH.out.pass (Nat.le_refl _) hgit.out hr3H.out hc3H.out hpH.out hle
end Go.Proofs.Ytlnfjcbhicdceaa
