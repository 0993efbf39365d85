/- The document's table: Add, Cancel. The table holds at most 400 records. -/
import Derived.Test.YtlnfjcbhicdceaaQ2
namespace Go.Proofs.Ytlnfjcbhicdceaa
open Go.RowKit
def refAdd (ml : List K) (b s : Int) : List K := if b < 0 then ml else strike ml (b, s) ++ [(b, s)]
def refDel (ml : List K) (b s : Int) : List K := if b < 0 then ml else strike ml (b, s)
def RPost (r B : Nat) (ml' : List K) (x : Value) (w : World) (e : Ending) (w' : World) : Prop := e = .returned x ∧ (∃ v', RT w' r B v' ml') ∧ w.grownBy w' (some r)
theorem grownBy_setCell (w : World) (g : Nat) (v : Value) : w.grownBy (w.setCell ⟨g, 0, none⟩ v) (some g) :=
  ⟨rfl, rfl, rfl, by simp [World.setCell], fun k _ hk => heap_setCell_other w ⟨g, 0, none⟩ k v (fun e => hk (by rw [e]))⟩
theorem RT.put {W : World} {r B : Nat} {v v' : Value} {ml ml' : List K} (h : RT W r B v ml) (ho : W.ownsRow B 65 2 v' ml'.length (flat2 ml')) : RT (W.setCell ⟨r, 0, none⟩ v') r B v' ml' :=
  ⟨World.cell?_setCell_same' _ _ _ (by rw [h.cell]; rfl), by rw [World.frozen?_setCell]; exact h.free, ho.kept (grownBy_setCell W r v') (by
    cases hv : v'.ownBlock with
    | none => exact .inl rfl
    | some j => exact .inr (fun e => by have := (ho.lt j hv).1; cases e; have := h.lt; omega)), h.lt⟩
set_option maxRecDepth 100000 in
theorem rcancel_any (r B : Nat) (v : Value) (ml : List K) (hlm : ml.length ≤ 400) (b s : Int) (w : World) (h : RT w r B v ml) (hB : B ≤ w.heap.size) :
    Calls Try.prog 26 #[.pointer (some ⟨r, 0, none⟩), .int .i64 b, .int .u32 s] w (RPost r B (refDel ml b s) (.int .i64 (err b)) w) := by
  have H := Lib.hid h
  clear h
  by_cases hb : b < 0
  · go_enter Try.func26, Try.ntmps26
    go_wp2_with fail
    go_ret
    exact ⟨by simp [err, hb], ⟨v, by rw [refDel, if_pos hb]; exact H.out⟩, World.grownBy.refl _ _⟩
  · go_enter Try.func26, Try.ntmps26
    have t0 := H.out.cell
    have t1 := H.out.free
    have hrlt : r < w.heap.size := World.block_lt_of_cell? w _ t0
    go_wp2_with (go_at_call 32; refine (without_any r B v ml hlm b s _ H.out).mono ?_; rintro e w1 ⟨v', rfl, ho, hw⟩; obtain ⟨ao9, cap9, rfl⟩ := own_shape ho; have O := Lib.hid ho; have HW := Lib.hid hw; have H1 := Lib.hid (H.out.later hw); have t2 := H1.out.cell; have t3 := H1.out.free; clear ho hw t0 t1)
    go_ret
    refine ⟨by simp [err]; omega, ⟨_, H1.out.put (ml' := refDel ml b s) (by rw [refDel, if_neg (by omega)]; exact own_mono O.out hB)⟩, ?_⟩
    exact World.grownBy.andThen (row' := some r) ⟨HW.out.os, HW.out.tape, HW.out.output, HW.out.size, fun k hk _ => HW.out.block k hk⟩ (grownBy_setCell _ _ _) (fun j e => .inr e)
end Go.Proofs.Ytlnfjcbhicdceaa
