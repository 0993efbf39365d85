/- What bits.Count does at any block and any number. Each byte is below 256. -/
import Derived.Test.YtcheogbijioadaaW9
namespace Go.Proofs.Ytcheogbijioadaa
open Go.RowKit Go.Shelf
attribute [local go_sem] Oper.semAt_some

def lenBelow (b : Nat → Nat) (n : Int) (k : Nat) : Nat := ((sets b k).filter fun y : Nat => decide ((y : Int) < n)).length
theorem cnt_eq (b : Nat → Nat) (n : Int) : ∀ k, cnt b n k = lenBelow b n k
  | 0 => by simp [cnt, lenBelow, sets]
  | k + 1 => by
    unfold cnt
    rw [cnt_eq b n k]
    unfold lenBelow
    cases h : bv b k with
    | true =>
      rw [sets_yes h, List.filter_append]
      by_cases hk : (k : Int) < n <;> simp [hk]
    | false =>
      rw [sets_no h]
      simp
theorem all_below_len {l : List Nat} {n : Int} (h : ∀ y ∈ l, (y : Int) < n) : (l.filter fun y : Nat => decide ((y : Int) < n)).length = l.length := by
  rw [List.filter_eq_self.2 (by simpa using h)]
theorem sets_add (b : Nat → Nat) (k : Nat) : ∀ m, ∃ r, sets b (k + m) = sets b k ++ r ∧ ∀ y ∈ r, k ≤ y
  | 0 => ⟨[], by simp, by simp⟩
  | m + 1 => by
    obtain ⟨r, h1, h2⟩ := sets_add b k m
    cases h : bv b (k + m) with
    | true =>
      refine ⟨r ++ [k + m], by rw [← Nat.add_assoc, sets_yes h, h1, List.append_assoc], fun y hy => ?_⟩
      rcases List.mem_append.1 hy with hy | hy
      · exact h2 y hy
      · simp at hy; omega
    | false => exact ⟨r, by rw [← Nat.add_assoc, sets_no h, h1], h2⟩
theorem sets_mono (b : Nat → Nat) (k N : Nat) (hk : k ≤ N) : ∃ r, sets b N = sets b k ++ r ∧ ∀ y ∈ r, k ≤ y := by
  obtain ⟨m, rfl⟩ := Nat.exists_eq_add_of_le hk
  exact sets_add b k m
theorem sets_lt {b : Nat → Nat} {k y : Nat} (h : y ∈ sets b k) : y < k ∧ bv b y = true := by
  unfold sets at h
  rw [List.mem_filter, List.mem_range] at h
  exact h
/-- Stopped at the first bit that is not below n: what came ahead of it is what counts. -/
theorem cnt_stopped {b : Nat → Nat} {n : Int} {k x : Nat} {pre : List Nat} (hk : k ≤ 2048) (he : pre ++ [x] = sets b k) (hp : ∀ y ∈ pre, (y : Int) < n) (hx : n ≤ (x : Int)) : cnt b n 2048 = pre.length := by
  rw [cnt_eq]
  unfold lenBelow
  obtain ⟨r, hr, hry⟩ := sets_mono b k 2048 hk
  rw [hr, ← he, List.filter_append, List.filter_append]
  have hxk : x < k := (sets_lt (b := b) (k := k) (y := x) (by rw [← he]; simp)).1
  have h1 : r.filter (fun y : Nat => decide ((y : Int) < n)) = [] := by
    rw [List.filter_eq_nil_iff]
    intro y hy
    have := hry y hy
    simp
    omega
  have h2 : [x].filter (fun y : Nat => decide ((y : Int) < n)) = [] := by
    rw [List.filter_eq_nil_iff]
    intro y hy
    simp at hy
    subst hy
    simpa using hx
  rw [h1, h2, List.append_nil, List.append_nil]
  exact all_below_len hp
theorem cnt_all {b : Nat → Nat} {n : Int} (hp : ∀ y ∈ sets b 2048, (y : Int) < n) : cnt b n 2048 = (sets b 2048).length := by
  rw [cnt_eq]; exact all_below_len hp

/-- A cell of one's own: its value, not frozen. -/
def OwnCell (W : World) (B : Nat) (v : Value) : Prop := W.cell? ⟨B, 0, none⟩ = some v ∧ W.frozen? ⟨B, 0, none⟩ = false
theorem OwnCell.kept {W W' : World} {row : Option Nat} {B : Nat} {v : Value} (h : OwnCell W B v) (hg : W.grownBy W' row) (hr : ∀ r, row = some r → ∃ o : Obj, W.heap[r]? = some o ∧ o.isCells = false) : OwnCell W' B v :=
  ⟨cell_kept h.1 hg hr, (frozen_kept h.1 hg hr).trans h.2⟩
theorem OwnCell.alloc {W : World} {B : Nat} {v : Value} (h : OwnCell W B v) (o : Obj) : OwnCell (W.alloc o) B v :=
  h.kept (World.grownBy_alloc W o none) (fun r e => by cases e)
theorem OwnCell.new (W : World) (v : Value) (t : TypeId) : OwnCell (W.alloc (.cells #[v] t)) W.heap.size v := by
  have h : (W.alloc (.cells #[v] t)).heap[W.heap.size]? = some (.cells #[v] t (0, 0)) := heap_at_alloc _ _ _ rfl
  exact ⟨by rw [cell_of_row _ _ _ _ _ _ h]; rfl, frozen_of_row _ _ _ _ _ h⟩
theorem OwnCell.set {W : World} {B : Nat} {v : Value} (h : OwnCell W B v) (u : Value) : OwnCell (W.setCell ⟨B, 0, none⟩ u) B u :=
  ⟨World.cell?_setCell_same' _ _ _ (by rw [h.1]; rfl), by rw [World.frozen?_setCell]; exact h.2⟩
theorem OwnCell.set_other {W : World} {B C : Nat} {v : Value} (h : OwnCell W B v) (hne : B ≠ C) (u : Value) : OwnCell (W.setCell ⟨C, 0, none⟩ u) B v := by
  have e := heap_setCell_other W ⟨C, 0, none⟩ B u hne
  exact ⟨(World.cell?_of_block (w := W) e).trans h.1, (World.frozen?_of_block (w := W) e).trans h.2⟩

def CntI (n : Int) (w : World) (pre : List Nat) (W : World) : Prop :=
  (OwnCell W (w.heap.size + 1 + 1) (.int .i64 (pre.length : Nat)) ∧ OwnCell W (w.heap.size + 1) (.int .i64 n)) ∧ (∀ y ∈ pre, (y : Int) < n)
def CntIx (n : Int) (w : World) (c : Code) (pre : List Nat) (W : World) : Prop :=
  ∃ (p : List Nat) (x : Nat), c = .exit 0 ∧ pre = p ++ [x] ∧ (∀ y ∈ p, (y : Int) < n) ∧ n ≤ (x : Int) ∧ OwnCell W (w.heap.size + 1 + 1) (.int .i64 (p.length : Nat))

set_option maxRecDepth 100000 in
set_option maxHeartbeats 2000000 in
theorem count_any (b : Nat → Nat) (hb : ∀ i, b i < 256) (n : Int) (w : World) :
    Calls Try.prog 21 #[.agg (blk b), .int .i64 n] w (SomeIntAt (cnt b n 2048 : Nat) w) := by
  refine (callsIn_wide (n := 9)).1 ?_
  refine callsIn_of_wp_marks Try.func21 rfl trivial ?_ rfl
  simp only [Try.ntmps21, List.size_toArray, List.length_cons, List.length_nil, Nat.reduceAdd, Nat.reduceSub, Array.replicate_succ, Array.replicate_zero, List.push_toArray, List.append_toArray, List.nil_append, List.cons_append]
  gi_wp2_with (first | (refine wplIn_load_arr 23 _ rfl rfl _ rfl 23 (blk b) (0, 0) (heap_past_alloc (heap_past_alloc (heap_at_alloc _ _ _ rfl))) _ _ Try.underlying23 (info23b b) ?_) | (refine ⟨trivial, ?_⟩; gi_at_call 11; refine (callsIn_wide.2 (all_any b _)).mono ?_; rintro e w1 ⟨rfl, rfl⟩))
  have hB0 : Below w.heap.size w ((((w.alloc (.cells (blk b) 23)).alloc (.cells #[.int .i64 n] 3)).alloc (.cells #[.int .i64 0] 3)).alloc (.cells (blk b) 23)) :=
    (((((Below.refl _ w).alloc (Nat.le_refl _) _).alloc (by simp) _).alloc (by simp; omega) _).alloc (by simp; omega) _)
  have c1 := (OwnCell.new (w.alloc (.cells (blk b) 23)) (.int .i64 n) 3)
  have c2 := (OwnCell.new ((w.alloc (.cells (blk b) 23)).alloc (.cells #[.int .i64 n] 3)) (.int .i64 0) 3)
  simp only [World.size_alloc] at c1 c2
  have hcb := heap_at_alloc (((w.alloc (.cells (blk b) 23)).alloc (.cells #[.int .i64 n] 3)).alloc (.cells #[.int .i64 0] 3)) (.cells (blk b) 23) (w.heap.size + 1 + 1 + 1) (by simp)
  refine wpIn_rangeFunc_ownF rfl (by omega) (gf := 23) (lb := #[.pointer (some ⟨w.heap.size + 1 + 1 + 1, 0, none⟩)]) rfl trivial (enters_of Try.func23 (by kernel_rfl) rfl)
    (all_stops 8 (by omega) b hb (w.heap.size + 1 + 1 + 1) _ hcb) KBlk.trans (kblk_b (by simp)) (Below.refl _ _) (fun _ => rfl)
    (fun pre W => CntI n w pre W ∧ Below w.heap.size w W)
    (fun c pre W => CntIx n w c pre W ∧ Below w.heap.size w W)
    (OwnFrom.and (Own.from (fun s A B row hs hg hr => ⟨⟨hs.1.1.kept hg hr, hs.1.2.kept hg hr⟩, hs.2⟩) _) (ownFrom_below (Nat.le_refl _) (by simp; omega)))
    (fun c => OwnFrom.and (Own.from (fun s A B row hs hg hr => by
      obtain ⟨p, x, h1, h2, h3, h4, h5⟩ := hs
      exact ⟨p, x, h1, h2, h3, h4, h5.kept hg hr⟩) _) (ownFrom_below (Nat.le_refl _) (by simp; omega)))
    ⟨⟨⟨c2.alloc _, (c1.alloc _).alloc _⟩, by simp⟩, hB0⟩
    (fun x => { tmps := #[.agg (blk b), .int .i64 n, .pointer (some ⟨w.heap.size, 0, none⟩), .pointer (some ⟨w.heap.size + 1, 0, none⟩), .int .i64 0, .pointer (some ⟨w.heap.size + 1 + 1, 0, none⟩), .int .i64 x, .agg (blk b), .func (.func 23) #[] #[.pointer (some ⟨w.heap.size + 1 + 1 + 1, 0, none⟩)], .int .i64 x, undef, undef, undef, undef, undef, undef], defers := [] }) ?assign ?body ?done ?stop
  case assign =>
    intro l x W K hK
    gi_wp2
    exact hK
  case body =>
    rintro l pre x W ⟨⟨⟨⟨hs, hsf⟩, hn, hnf⟩, hall⟩, hB⟩ hlen
    have hA := Lib.hid hall
    clear hall
    by_cases hx : n ≤ (x : Int)
    · gi_wp2
      exact ⟨KeepsOthers.refl _, ⟨pre, x, rfl, rfl, hA.out, hx, hs, hsf⟩, hB⟩
    · have hx' : (x : Int) < n := by omega
      gi_wp2
      exact ⟨KeepsOthers.setCell _ _ _, KBlk.setCell W (by simp) _, ⟨⟨by have := (OwnCell.set ⟨hs, hsf⟩ (.int .i64 ((pre.length : Int) + 1))); simpa using this, OwnCell.set_other ⟨hn, hnf⟩ (by omega) _⟩, fun y hy => by
        rcases List.mem_append.1 hy with h | h
        · exact hA.out y h
        · simp at h; subst h; exact hx'⟩, hB.setCell (p := ⟨w.heap.size + 1 + 1, 0, none⟩) (by simp; omega) _⟩
  case done =>
    rintro D ys W hD rfl ⟨⟨⟨⟨hs, _⟩, hn⟩, hall⟩, hB⟩ hK
    have hA := Lib.hid (cnt_all hall)
    clear hall
    gi_wp2
    refine ⟨by simp, .inl ⟨_, _, rfl, run_takeDeferred hK, ?_⟩⟩
    exact ⟨_, results_tmp rfl _ _ _, (by rw [hA.out]; rfl), hB.trans (belowK_b (w := w) (Nat.le_refl _) W D _ _ (by simp at hD; omega) hK rfl rfl)⟩
  case stop =>
    rintro D c pre W hD ⟨k, hk, rfl⟩ ⟨⟨p, x, rfl, h2, h3, h4, ⟨hs, _⟩⟩, hB⟩ hK
    have hA := Lib.hid (cnt_stopped hk h2.symm h3 h4)
    clear h2 h3 h4
    gi_wp2
    refine ⟨by simp, .inl ⟨_, _, rfl, run_takeDeferred hK, ?_⟩⟩
    exact ⟨_, results_tmp rfl _ _ _, (by rw [hA.out]; rfl), hB.trans (belowK_b (w := w) (Nat.le_refl _) W D _ _ (by simp at hD; omega) hK rfl rfl)⟩
end Go.Proofs.Ytcheogbijioadaa
