/- The table of revoked blocks: New, refuse, Add, Cancel, Len of the given program. The table holds a map; conditions are written in each. -/
import Derived.Test.YtlnfjcbhicdceaaKey
namespace Go.Proofs.Ytlnfjcbhicdceaa
open Go.RowKit
theorem mapSome (b : Nat) : ∀ w, (binOp .eql 48 (.map (some b)) (.map none)).run Try.prog w = .ok (.bool false) w := fun w => by kernel_rfl
theorem mapNone : ∀ w, (binOp .eql 48 (.map none) (.map none)).run Try.prog w = .ok (.bool true) w := fun w => by kernel_rfl
theorem mk48 : ∀ w, (Instr.makeMap 48 none).run Try.prog w = .ok (.map (some w.heap.size)) (w.alloc (.map #[] 0)) := fun w => by kernel_rfl
attribute [local go_sem] mapSome mapNone mk48
abbrev M := List ((Int × Int) × Value)
/-- A table at g: its map at bm. -/
structure Tab (W : World) (g bm : Nat) (m : M) : Prop where
  cell : W.cell? ⟨g, 0, none⟩ = some (.map (some bm))
  map : MapAt rk W bm m
  ne : g ≠ bm
theorem Tab.lt {W : World} {g bm : Nat} {m : M} (h : Tab W g bm m) : g < W.heap.size ∧ bm < W.heap.size := ⟨World.block_lt_of_cell? W _ h.cell, h.map.lt⟩
theorem Tab.later {W W' : World} {g bm B : Nat} {m : M} (h : Tab W g bm m) (hb : Below B W W') (h1 : g < B) (h2 : bm < B) : Tab W' g bm m :=
  ⟨(World.cell?_of_block (hb.block g h1)).trans h.cell, h.map.later hb h2, h.ne⟩
theorem Tab.chg {W W' : World} {g bm : Nat} {m m' : M} (h : Tab W g bm m) (hc : Chg W W' bm) (hm : MapAt rk W' bm m') : Tab W' g bm m' :=
  ⟨(World.cell?_of_block (hc.other g h.ne)).trans h.cell, hm, h.ne⟩
theorem Chg.grown {w w' : World} {r : Nat} (h : Chg w w' r) : w.grownBy w' (some r) := ⟨h.os, h.tape, h.output, Nat.le_of_eq h.size.symm, fun j _ hj => h.other j (fun e => hj (by rw [e]))⟩
theorem refuse_tab (g bm : Nat) (m : M) (b : Int) (w : World) (h : Tab w g bm m) :
    Calls Try.prog 24 #[.pointer (some ⟨g, 0, none⟩), .int .i64 b] w fun e w' => e = .returned (.int .i64 (if b < 0 then 2 else 0)) ∧ w' = w := by
  have c1 := h.cell
  by_cases hb : b < 0
  all_goals
    go_enter Try.func24, Try.ntmps24
    go_wp2
    go_ret
    exact ⟨by simp, rfl⟩
theorem refuse_nil (b : Int) (w : World) : Calls Try.prog 24 #[.pointer none, .int .i64 b] w fun e w' => e = .returned (.int .i64 1) ∧ w' = w := by
  go_enter Try.func24, Try.ntmps24
  go_wp2
  go_ret
  exact ⟨rfl, rfl⟩
theorem refuse_empty (g : Nat) (b : Int) (w : World) (h : w.cell? ⟨g, 0, none⟩ = some (.map none)) : Calls Try.prog 24 #[.pointer (some ⟨g, 0, none⟩), .int .i64 b] w fun e w' => e = .returned (.int .i64 1) ∧ w' = w := by
  go_enter Try.func24, Try.ntmps24
  go_wp2
  exact bodyPost_ret (results_tmp rfl _ _ _) rfl ⟨rfl, rfl⟩
def NewPost (w : World) (e : Ending) (w' : World) : Prop := ∃ g bm, e = .returned (.pointer (some ⟨g, 0, none⟩)) ∧ Tab w' g bm [] ∧ w.heap.size ≤ g ∧ w.heap.size ≤ bm ∧ Below w.heap.size w w'
theorem new_tab (w : World) : Calls Try.prog 14 #[] w (NewPost w) := by
  go_enter Try.func14, Try.ntmps14
  go_wp2
  go_ret
  have h1 : MapAt rk (w.alloc (.map #[] 0)) w.heap.size ([] : M) := MapAt.made w
  refine ⟨_, w.heap.size, rfl, ⟨?_, h1.later ((Below.refl _ _).alloc (Nat.le_refl _) _) (by simp), by simp⟩, by simp, Nat.le_refl _, ((Below.refl _ _).alloc (Nat.le_refl _) _).alloc (by simp) _⟩
  simp
def upd1 (m : M) (b s : Int) : M := if b < 0 then m else upd m (b, s) (.int .i64 1)
def del1 (m : M) (b s : Int) : M := if b < 0 then m else del m (b, s)
def err (b : Int) : Int := if b < 0 then 2 else 0
def AddPost (g bm : Nat) (m' : M) (b : Int) (w : World) (e : Ending) (w' : World) : Prop := e = .returned (.int .i64 (err b)) ∧ Tab w' g bm m' ∧ w.grownBy w' (some bm)
theorem add_tab (g bm : Nat) (m : M) (b s : Int) (w : World) (h : Tab w g bm m) :
    Calls Try.prog 20 #[.pointer (some ⟨g, 0, none⟩), .int .i64 b, .int .u32 s] w (AddPost g bm (upd1 m b s) b w) := by
  have c1 := h.cell
  have H := Lib.hid h
  clear h
  by_cases hb : b < 0
  · go_enter Try.func20, Try.ntmps20
    go_wp2_with (go_at_call 24; refine (refuse_tab g bm m _ _ H.out).mono ?_; rintro e w1 ⟨rfl, rfl⟩; rw [if_pos hb])
    go_ret
    exact ⟨by simp [err, hb], by rw [upd1, if_pos hb]; exact H.out, World.grownBy.refl _ _⟩
  · go_enter Try.func20, Try.ntmps20
    go_wp2_with (first
      | (go_at_call 24; refine (refuse_tab g bm m _ _ H.out).mono ?_; rintro e w1 ⟨rfl, rfl⟩; rw [if_neg hb])
      | (at_mapUpdate; refine wpl_update rkEnc rfl _ _ _ 48 rfl 3 Try.underlying48 _ bm m (b, s) (.int .i64 1) rfl rfl rfl H.out.map ?_; intro w2 hm2 hc2; have T2 := Lib.hid (H.out.chg hc2 hm2); have G2 := Lib.hid hc2.grown; clear hm2 hc2))
    go_ret
    exact ⟨by simp [err, hb], by rw [upd1, if_neg (by omega)]; exact T2.out, G2.out⟩
theorem cancel_tab (g bm : Nat) (m : M) (b s : Int) (w : World) (h : Tab w g bm m) :
    Calls Try.prog 21 #[.pointer (some ⟨g, 0, none⟩), .int .i64 b, .int .u32 s] w (AddPost g bm (del1 m b s) b w) := by
  have c1 := h.cell
  have H := Lib.hid h
  clear h
  by_cases hb : b < 0
  · go_enter Try.func21, Try.ntmps21
    go_wp2_with (go_at_call 24; refine (refuse_tab g bm m _ _ H.out).mono ?_; rintro e w1 ⟨rfl, rfl⟩; rw [if_pos hb])
    go_ret
    exact ⟨by simp [err, hb], by rw [del1, if_pos hb]; exact H.out, World.grownBy.refl _ _⟩
  · go_enter Try.func21, Try.ntmps21
    go_wp2_with (first
      | (go_at_call 24; refine (refuse_tab g bm m _ _ H.out).mono ?_; rintro e w1 ⟨rfl, rfl⟩; rw [if_neg hb])
      | (at_delete; refine wpl_delete rkEnc rfl _ _ 48 61 rfl 3 Try.underlying48 _ bm m (b, s) rfl rfl H.out.map ?_; intro w2 hm2 hc2; have T2 := Lib.hid (H.out.chg hc2 hm2); have G2 := Lib.hid hc2.grown; clear hm2 hc2))
    go_ret
    exact ⟨by simp [err, hb], by rw [del1, if_neg (by omega)]; exact T2.out, G2.out⟩
theorem len_tab (g bm : Nat) (m : M) (w : World) (h : Tab w g bm m) :
    Calls Try.prog 12 #[.pointer (some ⟨g, 0, none⟩)] w fun e w' => e = .returned (.int .i64 m.length) ∧ w' = w := by
  have c1 := h.cell
  have hl := fun ty => h.map.len (P := Try.prog) Try.underlying48 ty
  go_enter Try.func12, Try.ntmps12
  go_wp2_with (go_at_call 24; refine (refuse_tab g bm m _ _ h).mono ?_; rintro e w1 ⟨rfl, rfl⟩; rw [if_neg (by decide)])
  go_ret
  exact ⟨rfl, rfl⟩
end Go.Proofs.Ytlnfjcbhicdceaa
