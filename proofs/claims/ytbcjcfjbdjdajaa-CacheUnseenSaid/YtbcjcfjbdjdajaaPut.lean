/- Elements stored into a slice that the call owns, over any program. No condition but those written. -/
import Derived.Test.YtbcjcfjbdjdajaaRow
namespace Go.Proofs.Ytbcjcfjbdjdajaa
open Go.RowKit
def putL (cur : Array Value) : Nat → List Value → Array Value
  | _, [] => cur
  | o, v :: r => putL (cur.setIfInBounds o v) (o + 1) r
theorem putL_size (vs : List Value) : ∀ (cur : Array Value) (o : Nat), (putL cur o vs).size = cur.size := by
  induction vs with
  | nil => intro cur o; rfl
  | cons v r ih => intro cur o; show (putL _ _ r).size = _; rw [ih]; simp
theorem putL_list (vs : List Value) : ∀ (cur : Array Value) (o : Nat), o + vs.length ≤ cur.size → (putL cur o vs).toList = cur.toList.take o ++ vs ++ cur.toList.drop (o + vs.length) := by
  induction vs with
  | nil => intro cur o h; simp [putL]
  | cons v r ih =>
    intro cur o h
    simp only [List.length_cons] at h
    show (putL _ _ r).toList = _
    rw [ih _ _ (by simp; omega)]
    have hl : (cur.setIfInBounds o v).toList = cur.toList.take o ++ v :: cur.toList.drop (o + 1) := by
      have ho : o < cur.toList.length := by rw [Array.length_toList]; omega
      rw [Array.toList_setIfInBounds, List.set_eq_take_append_cons_drop, if_pos ho]
    have ht : (cur.toList.take o).length = o := by rw [List.length_take, Array.length_toList]; omega
    rw [hl]
    have e1 : (cur.toList.take o ++ v :: cur.toList.drop (o + 1)).take (o + 1) = cur.toList.take o ++ [v] := by
      rw [List.take_append, ht, List.take_of_length_le (by omega), show o + 1 - o = 1 by omega]
      rfl
    have e2 : (cur.toList.take o ++ v :: cur.toList.drop (o + 1)).drop (o + 1 + r.length) = cur.toList.drop (o + (v :: r).length) := by
      rw [List.drop_append, ht, List.drop_of_length_le (by omega), List.nil_append, show o + 1 + r.length - o = r.length + 1 by omega, List.drop_succ_cons, List.drop_drop]
      congr 1
      simp
      omega
    rw [e1, e2]
    simp
theorem heap_setCells {g : Nat} {e : TypeId} (vs : List Value) : ∀ {W : World} {cur : Array Value} (o : Nat), W.heap[g]? = some (.cells cur e (0, 0)) → (W.setCells g o vs).heap[g]? = some (.cells (putL cur o vs) e (0, 0)) := by
  induction vs with
  | nil => intro W cur o h; exact h
  | cons v r ih => intro W cur o h; exact ih (o + 1) (heap_setCell_same W g o cur e v h)
theorem grownBy_setCells (g : Nat) (vs : List Value) : ∀ (W : World) (o : Nat), W.grownBy (W.setCells g o vs) (some g) := by
  induction vs with
  | nil => intro W o; exact World.grownBy.refl _ _
  | cons v r ih =>
    intro W o
    have h1 : W.grownBy (W.setCell ⟨g, o, none⟩ v) (some g) := ⟨rfl, rfl, rfl, by simp [World.setCell], fun k _ hk => heap_setCell_other W ⟨g, o, none⟩ k v (fun e => hk (by rw [e]))⟩
    have h2 := ih (W.setCell ⟨g, o, none⟩ v) (o + 1)
    exact ⟨h2.os.trans h1.os, h2.tape.trans h1.tape, h2.output.trans h1.output, Nat.le_trans h1.size h2.size, fun k hk hn => (h2.block k (Nat.lt_of_lt_of_le hk h1.size) hn).trans (h1.block k hk hn)⟩
/-- The cells that a slice owns are there, and are written. -/
theorem own_there {W : World} {base e size n g cap m : Nat} {xs : List Value} (h : W.ownsRow base e size (.slice (some ⟨g, 0, none⟩) m cap) n xs) (o k : Nat) (hk : o + k ≤ n * size) : W.there g o k := by
  rcases h.2 with ⟨h0, _⟩ | ⟨g', cap', cur, hv, hb, hg, h1, h2, h3, h4⟩
  · cases h0
  · cases hv
    have : n * size ≤ cap * size := Nat.mul_le_mul_right _ h1
    intro j hj
    refine ⟨?_, ?_⟩
    · rw [cell_of_row W g (o + j) cur e (0, 0) hg, Array.getElem?_eq_getElem (by omega)]
      rfl
    · exact frozen_of_row W g (o + j) cur e hg
theorem own_put {W : World} {base e size n g cap m : Nat} {xs : List Value} (h : W.ownsRow base e size (.slice (some ⟨g, 0, none⟩) m cap) n xs) (o : Nat) (vs : List Value) (hk : o + vs.length ≤ n * size) :
    (W.setCells g o vs).ownsRow base e size (.slice (some ⟨g, 0, none⟩) m cap) n (xs.take o ++ vs ++ xs.drop (o + vs.length)) := by
  have hx := h.1
  refine ⟨?_, ?_⟩
  · rw [List.length_append, List.length_append, List.length_take, List.length_drop]
    omega
  · rcases h.2 with ⟨h0, _⟩ | ⟨g', cap', cur, hv, hb, hg, h1, h2, h3, h4⟩
    · cases h0
    · cases hv
      have hle : n * size ≤ cap * size := Nat.mul_le_mul_right _ h1
      refine .inr ⟨g, cap, _, rfl, hb, heap_setCells vs o hg, h1, h2, by rw [putL_size, h3], ?_⟩
      rw [putL_list _ _ _ (by omega)]
      have hL : n * size ≤ cur.toList.length := by rw [Array.length_toList]; omega
      subst h4
      clear hx
      generalize cur.toList = L at hL
      have e1 : (L.take (n * size)).take o = L.take o := by rw [List.take_take, Nat.min_eq_left (by omega)]
      have e2 : (L.take (n * size)).drop (o + vs.length) = (L.drop (o + vs.length)).take (n * size - (o + vs.length)) := List.drop_take ..
      have e3 : (L.take o ++ vs).length = o + vs.length := by rw [List.length_append, List.length_take, Nat.min_eq_left (by omega)]
      rw [e1, e2, List.take_append, e3, List.take_of_length_le (by omega)]
theorem own_set {α : Type} {f : α → List Value} {W : World} {base e size n g cap m : Nat} {l : List α} (hf : ∀ x, (f x).length = size) (h : W.ownsRow base e size (.slice (some ⟨g, 0, none⟩) m cap) n (flat f l)) (hn : l.length = n) (i : Nat) (hi : i < n) (x : α) :
    (W.setCells g (i * size) (f x)).ownsRow base e size (.slice (some ⟨g, 0, none⟩) m cap) n (flat f (l.set i x)) := by
  rw [flat_set hf l i x (by omega)]
  have hle : (i + 1) * size ≤ n * size := Nat.mul_le_mul_right _ hi
  rw [Nat.add_mul, Nat.one_mul] at hle
  have := own_put h (i * size) (f x) (by rw [hf]; omega)
  rw [hf] at this
  rw [Nat.add_mul, Nat.one_mul]
  exact this
end Go.Proofs.Ytbcjcfjbdjdajaa
