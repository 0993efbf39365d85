/- Transactions laid as literals, and what becomes of the chapter's examples. No condition. -/
import Derived.Test.YtdeeegodiacjgaaD3
namespace Go.Proofs.Ytdeeegodiacjgaa
open Go.RowKit
def bA : Blk := fun j => if j = 0 then 1 else 0
def bB : Blk := fun j => if j = 0 then 2 else 0
theorem bA_set : (blk fun _ => 0).setIfInBounds 0 (.int .u8 1) = blk bA := blk_set _ 0 1 (by omega)
theorem bB_set : (blk fun _ => 0).setIfInBounds 0 (.int .u8 2) = blk bB := blk_set _ 0 2 (by omega)
abbrev WA (w : World) : World := (w.alloc (.cells (blk bA) 29)).alloc (.cells (blk bB) 29)
theorem WA_a (w : World) : Whole (WA w) w.heap.size (blk bA) 29 := (Whole.new w _ _).alloc _
theorem WA_b (w : World) : Whole (WA w) (w.heap.size + 1) (blk bB) 29 := by have := Whole.new (w.alloc (.cells (blk bA) 29)) (blk bB) 29; simpa using this
theorem sl_whole {W : World} {g : Nat} {cs : List Value} {t : TypeId} (h : Whole W g cs.toArray t) (n : Nat) (hn : n ≤ 1000) : Sl W (.slice (some ⟨g, 0, none⟩) n n) n cs :=
  ⟨_, n, rfl, Nat.le_refl _, by unfold maxLen; omega, fun _ => ⟨g, 0, rfl, h.lt, fun j v hv => by rw [Nat.zero_add, h.cell j]; simpa using hv⟩, fun h => by cases h⟩
theorem cps_one {W : World} {g : Nat} {c : Cp} {t : TypeId} (h : Whole W g (ca c) t) : Cps W (.slice (some ⟨g, 0, none⟩) 1 1) [c] := by
  have e : flat cc [c] = cc c := by simp [flat]
  unfold Cps
  rw [e]
  exact sl_whole h 1 (by omega)
theorem ints_one {W : World} {g : Nat} {b : Int} {t : TypeId} (h : Whole W g #[.int .i64 b] t) : Ints W (.slice (some ⟨g, 0, none⟩) 1 1) [b] := sl_whole (cs := [.int .i64 b]) h 1 (by omega)
theorem cps_none (W : World) : Cps W (.slice none 0 0) [] := Sl.nil W
theorem ints_none (W : World) : Ints W (.slice none 0 0) [] := Sl.nil W
theorem trs_nil (W : World) : Trs W (.slice none 0 0) [] := ⟨[], rfl, Sl.nil W, fun i x t h => by simp at h⟩
abbrev slV (g n : Nat) : Value := .slice (some ⟨g, 0, none⟩) n n
theorem whole_at {w : World} {n : Nat} (hn : w.heap.size = n) (cs : Array Value) (t : TypeId) : Whole (w.alloc (.cells cs t)) n cs t := by subst hn; exact Whole.new w cs t
theorem trs_lit3 {w0 : World} {n : Nat} (hn : w0.heap.size = n) (x : Int) (A B : Blk) : Trs ((((w0.alloc (.cells (ca (5, A)) 40)).alloc (.cells #[.int .i64 5] 3)).alloc (.cells (ca (x, B)) 40)).alloc (.cells #[.int .u32 0, slV n 1, .slice none 0 0, .int .u32 0, .slice none 0 0, slV (n + 1) 1, .int .u32 0, slV (n + 2) 1, .slice none 0 0] 55)) (slV (n + 3) 3)
    [(0, [(5, A)], []), (0, [], [5]), (0, [(x, B)], [])] := by
  have h1 := (((whole_at hn (ca (5, A)) 40).alloc (.cells #[.int .i64 5] 3)).alloc (.cells (ca (x, B)) 40)).alloc (.cells #[.int .u32 0, slV n 1, .slice none 0 0, .int .u32 0, .slice none 0 0, slV (n + 1) 1, .int .u32 0, slV (n + 2) 1, .slice none 0 0] 55)
  have h2 := ((whole_at (w := w0.alloc (.cells (ca (5, A)) 40)) (n := n + 1) (by simp [hn]) #[.int .i64 5] 3).alloc (.cells (ca (x, B)) 40)).alloc (.cells #[.int .u32 0, slV n 1, .slice none 0 0, .int .u32 0, .slice none 0 0, slV (n + 1) 1, .int .u32 0, slV (n + 2) 1, .slice none 0 0] 55)
  have h3 := (whole_at (w := (w0.alloc (.cells (ca (5, A)) 40)).alloc (.cells #[.int .i64 5] 3)) (n := n + 2) (by simp [hn]) (ca (x, B)) 40).alloc (.cells #[.int .u32 0, slV n 1, .slice none 0 0, .int .u32 0, .slice none 0 0, slV (n + 1) 1, .int .u32 0, slV (n + 2) 1, .slice none 0 0] 55)
  have h4 := whole_at (w := ((w0.alloc (.cells (ca (5, A)) 40)).alloc (.cells #[.int .i64 5] 3)).alloc (.cells (ca (x, B)) 40)) (n := n + 3) (by simp [hn]) #[.int .u32 0, slV n 1, .slice none 0 0, .int .u32 0, .slice none 0 0, slV (n + 1) 1, .int .u32 0, slV (n + 2) 1, .slice none 0 0] 55
  refine ⟨[(0, slV n 1, .slice none 0 0), (0, .slice none 0 0, slV (n + 1) 1), (0, slV (n + 2) 1, .slice none 0 0)], rfl, sl_whole (cs := [.int .u32 0, slV n 1, .slice none 0 0, .int .u32 0, .slice none 0 0, slV (n + 1) 1, .int .u32 0, slV (n + 2) 1, .slice none 0 0]) h4 3 (by omega), fun i y t hy ht => ?_⟩
  rcases i with _ | _ | _ | i
  · cases hy; cases ht; exact ⟨rfl, cps_one h1, ints_none _⟩
  · cases hy; cases ht; exact ⟨rfl, cps_none _, ints_one h2⟩
  · cases hy; cases ht; exact ⟨rfl, cps_one h3, ints_none _⟩
  · cases hy
theorem trs_lit1 {w0 : World} {n : Nat} (hn : w0.heap.size = n) (A : Blk) : Trs (((w0.alloc (.cells (ca (5, A)) 40)).alloc (.cells #[.int .i64 5] 3)).alloc (.cells #[.int .u32 0, slV n 1, slV (n + 1) 1] 55)) (slV (n + 2) 1) [(0, [(5, A)], [5])] := by
  have h1 := ((whole_at hn (ca (5, A)) 40).alloc (.cells #[.int .i64 5] 3)).alloc (.cells #[.int .u32 0, slV n 1, slV (n + 1) 1] 55)
  have h2 := (whole_at (w := w0.alloc (.cells (ca (5, A)) 40)) (n := n + 1) (by simp [hn]) #[.int .i64 5] 3).alloc (.cells #[.int .u32 0, slV n 1, slV (n + 1) 1] 55)
  have h4 := whole_at (w := (w0.alloc (.cells (ca (5, A)) 40)).alloc (.cells #[.int .i64 5] 3)) (n := n + 2) (by simp [hn]) #[.int .u32 0, slV n 1, slV (n + 1) 1] 55
  refine ⟨[(0, slV n 1, slV (n + 1) 1)], rfl, sl_whole (cs := [.int .u32 0, slV n 1, slV (n + 1) 1]) h4 1 (by omega), fun i y t hy ht => ?_⟩
  rcases i with _ | i
  · cases hy; cases ht; exact ⟨rfl, cps_one h1, ints_one h2⟩
  · cases hy
theorem ov1 : ovOut [(0, [(5, bA)], []), (0, [], [5]), (0, [(6, bB)], [])] = [(6, bB)] := by
  simp [ovOut, ovKeys, ovMap, ovStep, upds, dels, updD, delD, pick, lookD]
theorem ov2 : ovOut [(0, [(5, bA)], []), (0, [], [5]), (0, [(5, bB)], [])] = [(5, bB)] := by
  simp [ovOut, ovKeys, ovMap, ovStep, upds, dels, updD, delD, pick, lookD]
theorem ov3 : ovOut [(0, [(5, bA)], [5])] = [] := by
  simp [ovOut, ovKeys, ovMap, ovStep, upds, dels, updD, delD]
theorem ov0 : ovOut [] = [] := by
  simp [ovOut, ovKeys, ovMap]
def g0 : Ge := ⟨1, 16, 4, 40⟩
theorem may0 : mayB g0 = true := by decide
theorem gb0 : gBlocks g0 = 58 := by decide
def X0 (Z : List Blk) : Dk := dSync (dPut (dSync (newD Z)) 2 (headB 8))
theorem do0 {Z : List Blk} (hZ : Z.length = 58) : doD (newD Z) g0 (ovOut []) 8 true = (0, X0 Z) := by
  have e1 : (newD Z).safe.length = 58 := hZ
  have e2 : (dSync (newD Z)).safe.length = 58 := (overL_len _ _).trans hZ
  have e3 : (dPut (dSync (newD Z)) 2 (headB 8)).safe.length = 58 := e2
  have r1 : dRefuse (newD Z) 0 = 0 := by
    unfold dRefuse; rw [if_neg (by simp [newD]), if_neg (by rw [e1]; omega)]
  have r2 : dRefuse (dSync (newD Z)) 2 = 0 := by
    unfold dRefuse; rw [if_neg (by simp [dSync, dAct, newD]), if_neg (by rw [e2]; omega)]
  have r3 : dRefuse (dPut (dSync (newD Z)) 2 (headB 8)) 0 = 0 := by
    unfold dRefuse; rw [if_neg (by simp [dPut, dSync, dAct, newD]), if_neg (by rw [e3]; omega)]
  have n8 : numB 8 = true := by decide
  unfold doD
  rw [may0, n8, ov0]
  simp only [wrs, Bool.and_true, if_true]
  unfold finD dFlush
  rw [if_pos r1, if_pos r2, r3, if_pos rfl]
  rfl
theorem do1 {Z : List Blk} : doD (X0 Z) g0 (ovOut []) 0 true = (2, X0 Z) := by
  have n0 : numB 0 = false := by decide
  unfold doD
  rw [may0, n0]
  rfl
theorem X0_len {Z : List Blk} (hZ : Z.length = 58) : (X0 Z).safe.length = 58 := ((overL_len _ _).trans (overL_len _ _)).trans hZ
theorem X0_read {Z : List Blk} (hZ : Z.length = 58) : dRefuse (X0 Z) 2 = 0 ∧ dRead (X0 Z) 2 = headB 8 := by
  have r : dRefuse (X0 Z) 2 = 0 := by
    unfold dRefuse; rw [if_neg (by simp [X0, dPut, dSync, dAct, newD]), if_neg (by rw [X0_len hZ]; omega)]
  refine ⟨r, ?_⟩
  unfold dRead
  rw [if_pos r]
  show (Z.set 2 (headB 8)).getD 2 _ = _
  simp [hZ]
theorem head8 : headB 8 4 = 4 ∧ headB 8 8 = 8 := by decide
def LitPost (C : List Cp) (w0 : World) (e : Ending) (w' : World) : Prop := ∃ a c, e = .returned (.slice a C.length c) ∧ w'.ownsRow w0.heap.size 40 257 (.slice a C.length c) C.length (flat cc C) ∧ Below w0.heap.size w0 w'
theorem ov_lit {l : List Tr} {C : List Cp} (ho : ovOut l = C) (hn : cpsN l ≤ 100000) {w0 w1 : World} (hb : Below w0.heap.size w0 w1) {v : Value} (h : Trs w1 v l) : Calls Try.prog 14 #[v] w1 (LitPost C w0) := by
  refine (overlay_any l hn v w1 h).mono ?_
  rintro e w2 ⟨u, rfl, hown, hb2⟩
  rw [ho] at hown
  obtain ⟨a, c, rfl⟩ := own_shape hown
  exact ⟨a, c, rfl, own_mono hown hb.size, hb.trans (hb2.mono hb.size)⟩
theorem lit_one {w0 : World} {n : Nat} (hn : w0.heap.size = n) : Calls Try.prog 14 #[slV (n + 3) 3] ((((w0.alloc (.cells (ca (5, bA)) 40)).alloc (.cells #[.int .i64 5] 3)).alloc (.cells (ca (6, bB)) 40)).alloc (.cells #[.int .u32 0, slV n 1, .slice none 0 0, .int .u32 0, .slice none 0 0, slV (n + 1) 1, .int .u32 0, slV (n + 2) 1, .slice none 0 0] 55)) (LitPost [(6, bB)] w0) :=
  ov_lit ov1 (by simp [cpsN]) (((((Below.refl _ _).alloc (Nat.le_refl _) _).alloc (by simp) _).alloc (by simp; omega) _).alloc (by simp; omega) _) (trs_lit3 hn 6 bA bB)
theorem lit_two {w0 : World} {n : Nat} (hn : w0.heap.size = n) : Calls Try.prog 14 #[slV (n + 3) 3] ((((w0.alloc (.cells (ca (5, bA)) 40)).alloc (.cells #[.int .i64 5] 3)).alloc (.cells (ca (5, bB)) 40)).alloc (.cells #[.int .u32 0, slV n 1, .slice none 0 0, .int .u32 0, .slice none 0 0, slV (n + 1) 1, .int .u32 0, slV (n + 2) 1, .slice none 0 0] 55)) (LitPost [(5, bB)] w0) :=
  ov_lit ov2 (by simp [cpsN]) (((((Below.refl _ _).alloc (Nat.le_refl _) _).alloc (by simp) _).alloc (by simp; omega) _).alloc (by simp; omega) _) (trs_lit3 hn 5 bA bB)
theorem lit_three {w0 : World} {n : Nat} (hn : w0.heap.size = n) : Calls Try.prog 14 #[slV (n + 2) 1] (((w0.alloc (.cells (ca (5, bA)) 40)).alloc (.cells #[.int .i64 5] 3)).alloc (.cells #[.int .u32 0, slV n 1, slV (n + 1) 1] 55)) (LitPost [] w0) :=
  ov_lit ov3 (by simp [cpsN]) ((((Below.refl _ _).alloc (Nat.le_refl _) _).alloc (by simp) _).alloc (by simp; omega) _) (trs_lit1 hn bA)
theorem do_first {Z : List Blk} (hZ : Z.length = 58) {W : World} {base r gs gn : Nat} {vw : Value} (h : DAt W base r gs gn vw (newD Z)) :
    Calls Try.prog 20 #[.pointer (some ⟨r, 0, none⟩), .agg #[.int .i64 1, .int .i64 16, .int .i64 4, .int .i64 40], .slice none 0 0, .int .u32 8] W (DoPost (0, X0 Z) base r gs gn vw W) := by
  have := do_any (newD Z) g0 [] 8 true (by simp [cpsN]) (by simp [newD]) (by simp [newD]) base r gs gn vw (.slice none 0 0) W h (trs_nil W) (fun w1 hb => by
    have := fits_nil g0 (h.later hb)
    rw [gb0, show (newD Z).safe.length = 58 from hZ] at this
    exact this)
  rw [do0 hZ] at this
  exact this
theorem do_second {Z : List Blk} (hZ : Z.length = 58) {W : World} {base r gs gn : Nat} {vw : Value} (h : DAt W base r gs gn vw (X0 Z)) :
    Calls Try.prog 20 #[.pointer (some ⟨r, 0, none⟩), .agg #[.int .i64 1, .int .i64 16, .int .i64 4, .int .i64 40], .slice none 0 0, .int .u32 0] W (DoPost (2, X0 Z) base r gs gn vw W) := by
  have := do_any (X0 Z) g0 [] 0 true (by simp [cpsN]) (by simp [X0, dSync, dPut, dAct, newD]) (by simp [X0, dSync]) base r gs gn vw (.slice none 0 0) W h (trs_nil W) (fun w1 hb => by
    have := fits_nil g0 (h.later hb)
    rw [gb0, show (X0 Z).safe.length = 58 from X0_len hZ] at this
    exact this)
  rw [do1] at this
  exact this
def ReadOk (x : Blk) (w : World) (e : Ending) (w' : World) : Prop := e = .returned (.tuple #[.agg (blk x), .int .i64 0]) ∧ Below w.heap.size w w'
theorem read_first {Z : List Blk} (hZ : Z.length = 58) {W : World} {base r gs gn : Nat} {vw : Value} (h : DAt W base r gs gn vw (X0 Z)) :
    Calls Try.prog 45 #[.pointer (some ⟨r, 0, none⟩), .int .i64 2] W (ReadOk (headB 8) W) := by
  have := read_at 2 h
  unfold ReadPost at this
  rw [(X0_read hZ).1, (X0_read hZ).2] at this
  exact this
theorem new58 : ∃ Z : List Blk, Z.length = 58 ∧ ∀ w, Calls Try.prog 25 #[.int .i64 58] w (LoadPost Z w) := ⟨zeros 58, List.length_replicate, fun w => new_any 58 (by omega) (by omega) w⟩
end Go.Proofs.Ytdeeegodiacjgaa
