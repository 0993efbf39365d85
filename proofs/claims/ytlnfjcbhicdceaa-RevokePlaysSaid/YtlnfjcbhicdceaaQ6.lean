/- The document's table: Sorted. The list has at most 400 numbers. -/
import Derived.Test.YtlnfjcbhicdceaaQ4
import Derived.Test.YtlnfjcbhicdceaaQ5
namespace Go.Proofs.Ytlnfjcbhicdceaa
open Go.RowKit
/-- One number more, as Sorted lays it. -/
def insS (out : List Int) (x : Int) : List Int :=
  if out[(out.takeWhile fun y => decide (y < x)).length]? = some x then out else out.take (out.takeWhile fun y => decide (y < x)).length ++ [x] ++ out.drop (out.takeWhile fun y => decide (y < x)).length
def sortS (l : List Int) : List Int := l.foldl insS []
theorem sortS_snoc (l : List Int) (x : Int) : sortS (l ++ [x]) = insS (sortS l) x := by simp [sortS]
theorem insS_len (l : List Int) (x : Int) : (insS l x).length ≤ l.length + 1 := by
  unfold insS
  split
  · omega
  · simp; omega
theorem sortS_len (l : List Int) : (sortS l).length ≤ l.length := by
  suffices ∀ (l out : List Int), (l.foldl insS out).length ≤ out.length + l.length by
    have := this l []
    unfold sortS
    simpa using this
  intro l
  induction l with
  | nil => intro out; simp
  | cons x l ih =>
    intro out
    have := ih (insS out x)
    have := insS_len out x
    simp only [List.foldl_cons, List.length_cons]
    omega
theorem tw_at {out : List Int} {x : Int} {j : Nat} (hj : j ≤ out.length) (h1 : ∀ i y, i < j → out[i]? = some y → y < x) (h2 : ∀ y, out[j]? = some y → ¬ y < x) : (out.takeWhile fun y => decide (y < x)).length = j := by
  induction out generalizing j with
  | nil => simp at hj; simp [hj]
  | cons a l ih =>
    cases j with
    | zero =>
      have := h2 a rfl
      simp [this]
    | succ j =>
      have h0 : a < x := h1 0 a (by omega) rfl
      rw [List.takeWhile_cons_of_pos (by simpa using h0), List.length_cons]
      congr 1
      exact ih (by simpa using hj) (fun i y hi hy => h1 (i + 1) y (by omega) (by simpa using hy)) (fun y hy => h2 y (by simpa using hy))
theorem drop_tw (p : Int → Bool) : ∀ out : List Int, out.drop (out.takeWhile p).length = out.dropWhile p
  | [] => rfl
  | a :: l => by
    cases h : p a with
    | true => rw [List.takeWhile_cons_of_pos h, List.dropWhile_cons_of_pos h, List.length_cons, List.drop_succ_cons, drop_tw p l]
    | false => rw [List.takeWhile_cons_of_neg (by simp [h]), List.dropWhile_cons_of_neg (by simp [h])]; rfl
theorem mem_tw (p : Int → Bool) : ∀ (out : List Int) (y : Int), y ∈ out.takeWhile p → p y = true
  | [], _, h => by cases h
  | a :: l, y, h => by
    cases ha : p a with
    | true =>
      rw [List.takeWhile_cons_of_pos ha] at h
      rcases List.mem_cons.1 h with rfl | h
      · exact ha
      · exact mem_tw p l y h
    | false => rw [List.takeWhile_cons_of_neg (by simp [ha])] at h; cases h
/-- A rising list stays so, and has just the numbers of before, and the new one. -/
theorem insS_sorted {out : List Int} {x : Int} (h : out.Pairwise (· < ·)) : (insS out x).Pairwise (· < ·) ∧ ∀ y, y ∈ insS out x ↔ y ∈ out ∨ y = x := by
  have hsplit : out = (out.takeWhile fun y => decide (y < x)) ++ out.drop (out.takeWhile fun y => decide (y < x)).length := by
    rw [drop_tw, List.takeWhile_append_dropWhile]
  have htake : out.take (out.takeWhile fun y => decide (y < x)).length = out.takeWhile fun y => decide (y < x) := by
    have := congrArg (List.take (out.takeWhile fun y => decide (y < x)).length) hsplit
    rwa [List.take_left'] at this
    rfl
  have hlt : ∀ y ∈ (out.takeWhile fun y => decide (y < x)), y < x := fun y hy => by simpa using mem_tw _ _ _ hy
  have hge : ∀ y ∈ out.drop (out.takeWhile fun y => decide (y < x)).length, x ≤ y := by
    intro y hy
    have hd : out.drop (out.takeWhile fun y => decide (y < x)).length = out.dropWhile fun y => decide (y < x) := drop_tw _ _
    rw [hd] at hy
    cases hdw : out.dropWhile fun y => decide (y < x) with
    | nil => rw [hdw] at hy; cases hy
    | cons a l =>
      have ha : ¬ a < x := by
        have := List.head?_dropWhile_not (p := fun y => decide (y < x)) out
        rw [hdw] at this
        simpa using this
      have hs : (a :: l).Pairwise (· < ·) := by rw [← hdw]; exact h.sublist (List.dropWhile_sublist _)
      rw [hdw] at hy
      rcases List.mem_cons.1 hy with rfl | hy
      · omega
      · have := (List.pairwise_cons.1 hs).1 y hy
        omega
  generalize hn : (out.takeWhile fun y => decide (y < x)).length = n at *
  unfold insS
  rw [hn]
  split
  · rename_i hx
    refine ⟨h, fun y => ⟨.inl, fun hy => ?_⟩⟩
    rcases hy with hy | rfl
    · exact hy
    · exact List.mem_of_getElem? hx
  · rename_i hx
    have hgt : ∀ y ∈ out.drop n, x < y := by
      intro y hy
      have h1 := hge y hy
      rcases Int.lt_or_eq_of_le h1 with h2 | h2
      · exact h2
      · exfalso
        subst h2
        obtain ⟨i, hi, e⟩ := List.getElem_of_mem hy
        have hsd : (out.drop n).Pairwise (· < ·) := h.sublist (List.drop_sublist _ _)
        cases i with
        | zero =>
          apply hx
          rw [← e, List.getElem_drop]
          simp at hi ⊢
        | succ i =>
          have h3 := List.pairwise_iff_getElem.1 hsd 0 (i + 1) (by omega) hi (by omega)
          have h4 := hge ((out.drop n)[0]'(by omega)) (List.getElem_mem _)
          omega
    rw [htake]
    refine ⟨?_, fun y => ?_⟩
    · rw [List.append_assoc, List.pairwise_append]
      refine ⟨h.sublist (List.takeWhile_sublist _), ?_, ?_⟩
      · rw [List.singleton_append, List.pairwise_cons]
        exact ⟨hgt, h.sublist (List.drop_sublist _ _)⟩
      · intro a ha c hc
        have h1 := hlt a ha
        rcases List.mem_append.1 hc with h2 | h2
        · simp at h2; omega
        · have := hgt c h2; omega
    · conv => rhs; rw [hsplit]
      simp only [List.mem_append, List.mem_singleton]
      constructor
      · rintro ((h1 | h1) | h1)
        · exact .inl (.inl h1)
        · exact .inr h1
        · exact .inl (.inr h1)
      · rintro ((h1 | h1) | h1)
        · exact .inl (.inl h1)
        · exact .inr h1
        · exact .inl (.inr h1)
theorem sortS_spec (l : List Int) : (sortS l).Pairwise (· < ·) ∧ ∀ y, y ∈ sortS l ↔ y ∈ l := by
  suffices ∀ (l out : List Int), out.Pairwise (· < ·) → (l.foldl insS out).Pairwise (· < ·) ∧ ∀ y, y ∈ l.foldl insS out ↔ y ∈ out ∨ y ∈ l by
    have := this l [] .nil
    simpa [sortS] using this
  intro l
  induction l with
  | nil => intro out h; simp [h]
  | cons x l ih =>
    intro out h
    have h1 := insS_sorted (x := x) h
    have h2 := ih _ h1.1
    refine ⟨h2.1, fun y => ?_⟩
    rw [List.foldl_cons, h2.2, h1.2, List.mem_cons]
    constructor
    · rintro ((h | h) | h)
      · exact .inl h
      · exact .inr (.inl h)
      · exact .inr (.inr h)
    · rintro (h | h | h)
      · exact .inl (.inl h)
      · exact .inl (.inr h)
      · exact .inr h
theorem nodup_of_lt {l : List Int} (h : l.Pairwise (· < ·)) : l.Nodup := List.nodup_iff_pairwise_ne.2 (h.imp fun h => by omega)
/-- Sorted of a list without doubles is that list, sorted. -/
theorem sortS_eq {m : M} {ml : List K} (hp : (keys m).Perm ml) (hn : (keys m).Nodup) (s : Int) : sortS (numL ml s) = ofS m s := by
  have h1 := sortS_spec (numL ml s)
  have hnd := numL_nodup (hp.nodup_iff.1 hn) s
  have hperm : (sortS (numL ml s)).Perm (numL ml s) := (List.perm_ext_iff_of_nodup (nodup_of_lt h1.1) hnd).2 h1.2
  have hS : (sortS (numL ml s)).mergeSort (fun x y => decide (x ≤ y)) = sortS (numL ml s) := List.mergeSort_of_pairwise (h1.1.imp fun h => by simp; omega)
  rw [← hS]
  unfold ofS
  rw [ofL_keys]
  exact mergeSort_of_perm_i (hperm.trans (hp.filter _ |>.map _).symm)
end Go.Proofs.Ytlnfjcbhicdceaa
