/- The disk's Read, Load and New, walked. -/
import Derived.Test.YtbcjcfjbdjdajaaDiskC
import Derived.Laws.ResultCell
import Derived.Laws.OwnMore
namespace Go.Proofs.Ytbcjcfjbdjdajaa
open Go.RowKit
attribute [local go_sem ↓] loadAtB storeAtB loadAtW storeAtW buildAtW sliceAtW
theorem results_cellB {fn : Func} {p u : Tmp} {g : Nat} {b : Blk} {t : TypeId} {tmps : Array Value} {w : World} (h : fn.results = #[.cell p 32, .tmp u]) (hp : tmps.getD p undef = .pointer (some ⟨g, 0, none⟩)) (hg : Whole w g (blk b) t) :
    (results fn tmps).run Try.prog w = .ok (.tuple #[.agg (blk b), tmps.getD u undef]) w := by
  rw [results_cell_tmp h, hp]
  simp only [asAddr, Sem.run_pure, Result.andThen_ok, run_loadVar_row w g t 32 (blk b) (0, 0) _ hg Try.underlying32 rfl (sB b)]
theorem buildAtB (p : Array (Nat × Value)) : Instr.build 32 p = bigBuild 32 p := rfl
attribute [local go_sem ↓] buildAtB
def dRead (D : Dk) (b : Int) : Blk := if dRefuse D b = 0 then D.now.getD b.toNat (fun _ => 0) else fun _ => 0
def ReadPost (b : Int) (D : Dk) (w : World) (e : Ending) (w' : World) : Prop := e = .returned (.tuple #[.agg (blk (dRead D b)), .int .i64 (dRefuse D b)]) ∧ Below w.heap.size w w'
theorem zeroAggB : Try.prog.built 32 [] = some (blk fun _ => 0) := by kernel_rfl
theorem run_buildB0 : ∀ w, (bigBuild 32 #[]).run Try.prog w = .ok (.agg (blk fun _ => 0)) w := fun w => run_build w 32 _ _ zeroAggB
theorem zcB : Try.zeroCells32 = blk fun _ => 0 := by kernel_rfl
set_option maxRecDepth 100000 in
set_option maxHeartbeats 1000000 in
theorem read_at {W : World} {base r gs gn : Nat} {vw : Value} {D : Dk} (b : Int) (h : DAt W base r gs gn vw D) :
    Calls Try.prog 13 #[.pointer (some ⟨r, 0, none⟩), .int .i64 b] W (ReadPost b D W) := by
  have H := Lib.hid (h.later ((Below.refl _ _).alloc (Nat.le_refl _) (.cells (blk fun _ => 0) 32)))
  clear h
  have hcall := Lib.hid (refuse_at b H.out)
  have hz := zcB
  have hbd := run_buildB0
  have hwh := Whole.new W (blk fun _ => 0) 32
  have hbb : Below W.heap.size W (W.alloc (.cells (blk fun _ => 0) 32)) := (Below.refl _ _).alloc (Nat.le_refl _) _
  by_cases hr : dRefuse D b = 0
  · have hbnd : 0 ≤ b ∧ b < D.safe.length := by
      unfold dRefuse at hr
      split at hr
      · cases hr
      · split at hr
        · cases hr
        · rename_i h1; omega
    obtain ⟨q, rfl⟩ : ∃ q : Nat, b = q := ⟨b.toNat, by omega⟩
    have hq : q < D.safe.length := by omega
    obtain ⟨x, hx⟩ : ∃ x, D.now[q]? = some x := ⟨_, List.getElem?_eq_getElem (by rw [H.out.ok.same]; exact hq)⟩
    have hD : Hid (dRead D q = x) := by unfold dRead Hid; rw [if_pos hr]; simp [hx]
    have hR := Lib.hid hr
    rw [hr] at hcall
    obtain ⟨_, cn, _, c1, _, _, _, _, _, k1, k2⟩ := H.out.cells
    unfold maxLen at k2
    obtain ⟨_, _, _, _, hn⟩ := H.out.obj
    have hlen : D.safe.length ≤ 2048 := H.out.ok.most
    have hl := ldB (rangeAt_sub (own_range hn) (k := q * 256) (ys := bc x) fun j v hv => by
      rw [flat_get bc_len hx j (by have := (List.getElem?_eq_some_iff.1 hv).1; rw [bc_len] at this; exact this)]; exact hv)
    rw [Nat.zero_add] at hl
    have hst := stRow x hwh
    clear hr hn hx
    go_enter Try.func13, Try.ntmps13
    go_wp2_with (go_at_call 35; refine hcall.out.mono ?_; rintro e w1 ⟨rfl, rfl⟩)
    refine bodyPost_ret (results_cellB rfl rfl (hwh.setRow (blk x))) rfl ⟨?_, below_setRow' hbb (Nat.le_refl _) _⟩
    rw [hD.out, hR.out]
    rfl
  · have hD : Hid (dRead D b = fun _ => 0) := by unfold dRead Hid; rw [if_neg hr]
    have hst := stRow (fun _ => 0) hwh
    obtain ⟨f, hf⟩ : ∃ f, Hid (dRefuse D b = f) := ⟨_, rfl⟩
    rw [hf.out] at hcall hr
    go_enter Try.func13, Try.ntmps13
    go_wp2_with (go_at_call 35; refine hcall.out.mono ?_; rintro e w1 ⟨rfl, rfl⟩)
    refine bodyPost_ret (results_cellB rfl rfl (hwh.setRow (blk fun _ => 0))) rfl ⟨?_, below_setRow' hbb (Nat.le_refl _) _⟩
    rw [hD.out, hf.out]
    rfl
end Go.Proofs.Ytbcjcfjbdjdajaa
