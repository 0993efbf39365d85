/- The document's list of copied blocks. The transactions have at most 100000 copies. -/
import Derived.Test.YtdeeegodiacjgaaW9
namespace Go.Proofs.Ytdeeegodiacjgaa
open Go.RowKit
attribute [local go_sem ↓] loadAtB storeAtB loadAtC storeAtC buildAtC sliceAtC sliceAtB
def bks (l : List Tr) : List Int := l.flatMap fun t => t.2.1.map (·.1)
theorem bks_snoc (l : List Tr) (t : Tr) : bks (l ++ [t]) = bks l ++ t.2.1.map (·.1) := by simp [bks]
theorem bks_len (l : List Tr) : (bks l).length = cpsN l := by
  induction l with
  | nil => rfl
  | cons t l ih =>
    have h1 : bks (t :: l) = t.2.1.map (·.1) ++ bks l := by simp [bks]
    have h2 : cpsN (t :: l) = t.2.1.length + cpsN l := by simp [cpsN]
    rw [h1, h2, List.length_append, ih, List.length_map]
theorem cpsN_take (l : List Tr) (i : Nat) : cpsN (l.take i) ≤ cpsN l := by
  have h : cpsN (l.take i) + cpsN (l.drop i) = cpsN l := by
    unfold cpsN
    rw [← List.sum_append, ← List.map_append, List.take_append_drop]
  omega
/-- The list so far, after the copies of the blocks pre. -/
structure CS (ks pre : List Int) : Prop where
  srt : ks.Pairwise (· < ·)
  mem : ∀ x, x ∈ ks ↔ x ∈ pre
  len : ks.length ≤ pre.length
theorem CS.nil : CS [] [] := ⟨List.Pairwise.nil, by simp, Nat.le_refl _⟩
theorem CS.old {ks pre : List Int} {x : Int} (h : CS ks pre) (hx : x ∈ ks) : CS ks (pre ++ [x]) := by
  refine ⟨h.srt, fun y => ?_, by rw [List.length_append]; have := h.len; omega⟩
  rw [List.mem_append, List.mem_singleton, h.mem]
  exact ⟨.inl, fun e => e.elim id (fun e => by subst e; exact (h.mem _).1 hx)⟩
def ins (ks : List Int) (b : Int) (j : Nat) : List Int := ks.take j ++ b :: ks.drop j
theorem ins_len (ks : List Int) (b : Int) (j : Nat) : (ins ks b j).length = ks.length + 1 := by
  unfold ins
  rw [List.length_append, List.length_cons, List.length_take, List.length_drop]
  omega
theorem ins_at {ks : List Int} {b : Int} {j : Nat} (h : j ≤ ks.length) : (ins ks b j)[j]? = some b := by
  unfold ins
  rw [List.getElem?_append_right (by rw [List.length_take]; omega), List.length_take, Nat.min_eq_left h, Nat.sub_self]
  rfl
theorem ins_before {ks : List Int} {b : Int} {j : Nat} (h : j + 1 ≤ ks.length) : (ins ks b (j + 1))[j]? = ks[j]? := by
  unfold ins
  rw [List.getElem?_append_left (by rw [List.length_take]; omega), List.getElem?_take_of_lt (by omega)]
theorem ins_last (ks : List Int) (b : Int) : ins ks b ks.length = ks ++ [b] := by simp [ins]
theorem ins_swap {ks : List Int} {b y : Int} {j : Nat} (h : j + 1 ≤ ks.length) (hy : ks[j]? = some y) : ((ins ks b (j + 1)).set j b).set (j + 1) y = ins ks b j := by
  apply List.ext_getElem?
  intro i
  have e1 := ins_len ks b (j + 1)
  have e2 := ins_len ks b j
  have key : ∀ (m i : Nat), m ≤ ks.length → (ins ks b m)[i]? = if i < m then ks[i]? else if i = m then some b else ks[i - 1]? := by
    intro m i hm
    unfold ins
    have hl : (ks.take m).length = m := by rw [List.length_take]; omega
    by_cases h1 : i < m
    · rw [if_pos h1, List.getElem?_append_left (by omega), List.getElem?_take_of_lt h1]
    · rw [if_neg h1, List.getElem?_append_right (by omega), hl]
      by_cases h2 : i = m
      · subst h2; simp
      · rw [if_neg h2, show i - m = (i - m - 1) + 1 by omega, List.getElem?_cons_succ, List.getElem?_drop, show m + (i - m - 1) = i - 1 by omega]
  rw [List.getElem?_set, List.getElem?_set, List.length_set, e1, key _ _ h, key _ _ (by omega)]
  by_cases h1 : j + 1 = i
  · subst h1
    rw [if_pos rfl, if_pos (by omega), if_neg (by omega), if_neg (by omega), Nat.add_sub_cancel, hy]
  · rw [if_neg h1]
    by_cases h2 : j = i
    · subst h2
      rw [if_pos rfl, if_pos (by omega), if_neg (by omega), if_pos rfl]
    · rw [if_neg h2]
      by_cases h3 : i < j
      · rw [if_pos (by omega), if_pos h3]
      · rw [if_neg (by omega), if_neg (by omega), if_neg h3, if_neg (by omega)]
theorem CS.new {ks pre : List Int} {b : Int} {j : Nat} (h : CS ks pre) (_hj : j ≤ ks.length) (hgt : ∀ y ∈ ks.drop j, b < y) (hlt : ∀ y ∈ ks.take j, y < b) : CS (ins ks b j) (pre ++ [b]) := by
  have hs := h.srt
  rw [← List.take_append_drop j ks, List.pairwise_append] at hs
  refine ⟨?_, fun x => ?_, by rw [ins_len, List.length_append]; have := h.len; simp; omega⟩
  · unfold ins
    rw [List.pairwise_append, List.pairwise_cons]
    refine ⟨hs.1, ⟨hgt, hs.2.1⟩, fun x hx y hy => ?_⟩
    rcases List.mem_cons.1 hy with rfl | hy
    · exact hlt x hx
    · exact hs.2.2 x hx y hy
  · unfold ins
    rw [List.mem_append, List.mem_cons, List.mem_append, List.mem_singleton, ← h.mem]
    have : x ∈ ks ↔ x ∈ ks.take j ∨ x ∈ ks.drop j := by rw [← List.mem_append, List.take_append_drop]
    rw [this]
    constructor
    · rintro (h | h | h)
      · exact .inl (.inl h)
      · exact .inr h
      · exact .inl (.inr h)
    · rintro ((h | h) | h)
      · exact .inl h
      · exact .inr (.inr h)
      · exact .inr (.inl h)
/-- Below the place, all is smaller, when the one before it is. -/
theorem CS.below {ks pre : List Int} {b y : Int} {j : Nat} (h : CS ks pre) (hy : ks[j]? = some y) (hyb : y < b) : ∀ z ∈ ks.take (j + 1), z < b := by
  intro z hz
  obtain ⟨i, hi⟩ := List.mem_iff_getElem?.1 hz
  have hij : i < j + 1 := by
    have := (List.getElem?_eq_some_iff.1 hi).1
    rw [List.length_take] at this
    omega
  rw [List.getElem?_take_of_lt hij] at hi
  obtain ⟨hjl, rfl⟩ := List.getElem?_eq_some_iff.1 hy
  obtain ⟨hil, rfl⟩ := List.getElem?_eq_some_iff.1 hi
  by_cases e : i = j
  · subst e; exact hyb
  · have := List.pairwise_iff_getElem.1 h.srt i j hil hjl (by omega)
    omega
/-- The slice of numbers in the walk. -/
structure CI (w : World) (v : Value) (out : List Int) (W : World) : Prop where
  bel : Below w.heap.size w W
  own : W.ownsRow w.heap.size 3 1 v out.length (flat ic out)
theorem CI.later {w : World} {v : Value} {out : List Int} {W W' : World} (h : CI w v out W) (hb : Below W.heap.size W W') : CI w v out W' := ⟨h.bel.trans (hb.mono h.bel.size), own_later h.own hb⟩
theorem CI.app {w : World} {v v' : Value} {out : List Int} {W W' : World} {o : Obj} {b : Int} (h : CI w v out W) (hO : W'.ownsRow w.heap.size 3 1 v' (out.length + 1) (flat ic out ++ ic b)) (hg : (W.alloc o).grownBy W' v.ownBlock) : CI w v' (out ++ [b]) W' := by
  refine ⟨h.bel.trans (below_app (Below.refl _ _) h.bel.size h.own ((Below.refl _ _).alloc (Nat.le_refl _) _) hg), ?_⟩
  rw [flat_snoc, List.length_append]
  exact hO
theorem CI.put {w : World} {g cap m : Nat} {out : List Int} {W : World} (h : CI w (.slice (some ⟨g, 0, none⟩) m cap) out W) {i : Nat} (hi : i < out.length) (b : Int) : CI w (.slice (some ⟨g, 0, none⟩) m cap) (out.set i b) (W.setCell ⟨g, i, none⟩ (.int .i64 b)) := by
  have hg := (h.own.lt g rfl).1
  have e : W.setCell ⟨g, i, none⟩ (.int .i64 b) = W.setCells g (i * 1) (ic b) := by rw [Nat.mul_one]; rfl
  rw [e]
  refine ⟨h.bel.grown (grownBy_setCells _ _ _ _) h.bel.size (fun k hk => by cases hk; exact hg), ?_⟩
  rw [List.length_set]
  exact own_set ic_len h.own rfl i hi b
theorem CI.cell {w : World} {g cap m : Nat} {out : List Int} {W : World} (h : CI w (.slice (some ⟨g, 0, none⟩) m cap) out W) {i : Nat} {b : Int} (hb : out[i]? = some b) : W.cell? ⟨g, i, none⟩ = some (.int .i64 b) := by
  have := own_range h.own (i * 1) (.int .i64 b) (by have := flat_get ic_len hb 0 (by omega); simpa [ic] using this)
  simpa using this
theorem CI.free {w : World} {g cap m : Nat} {out : List Int} {W : World} (h : CI w (.slice (some ⟨g, 0, none⟩) m cap) out W) {i : Nat} (hi : i < out.length) : W.frozen? ⟨g, i, none⟩ = false := by
  have := (own_there h.own i 1 (by omega)) 0 (by omega)
  simpa using this.2
def CopPost (l : List Tr) (w : World) (e : Ending) (w' : World) : Prop := ∃ v ks, e = .returned v ∧ CS ks (bks l) ∧ CI w v ks w'
end Go.Proofs.Ytdeeegodiacjgaa
