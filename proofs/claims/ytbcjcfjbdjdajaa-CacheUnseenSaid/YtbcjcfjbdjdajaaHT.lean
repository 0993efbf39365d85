/- Regions that draw their order, whose first operations only read or call what lays blocks of its own, and whose last ones follow in order: walked once, in the text's order, over any program. No condition but those written. -/
import Derived.Test.YtbcjcfjbdjdajaaUtil
import Derived.StillTail
namespace Go.Proofs.Ytbcjcfjbdjdajaa
open Go.RowKit

section
variable {P : Program} {md : Region.Mode}

theorem Oper.wp_mono2 {o : Oper} {a : Act} {w : World} {K K' : Act → World → Prop} {Q Q' : Exit → Act → World → Prop} (hK : ∀ a w, K a w → K' a w) (hQ : ∀ e a w, e ≠ .normal → Q e a w → Q' e a w)
    (h : o.wp P a w K Q) : o.wp P a w K' Q' := by
  unfold Oper.wp at *
  generalize (execOp a.eval o).run P w = r at *
  have hL : LetsOut Q → LetsOut Q' := fun ⟨a, w, q⟩ => ⟨a, w, hQ _ _ _ (by simp) q⟩
  cases r with
  | ok x w' =>
    cases x <;> simp only [Oper.upon] at h ⊢
    case value v => exact hK _ _ h
    case skip => exact hK _ _ h
    case defer d => exact hK _ _ h
    case enter f args =>
      refine h.mono ?_
      intro e w'' he
      cases e with
      | returned v => exact hK _ _ he
      | panicked ch => exact hQ _ _ _ (by simp) he
      | outgrown => exact hL he
    case row s args => exact h.mono fun v w'' hv => hK _ _ hv
  | halt x w' =>
    cases x <;> simp only [Oper.upon] at h ⊢
    case panic v => exact hQ _ _ _ (by simp) h

theorem wpAny_more {ops : Array Oper} {Q : Exit → Act → World → Prop} : ∀ (f : Nat) (L : Array Bool) (a : Act) (w : World), wpAny P md ops Q f L a w → wpAny P md ops Q (f + 1) L a w
  | 0, L, a, w, h => ⟨fun _ => h.2, fun i hi => by rw [h.1] at hi; cases hi⟩
  | f + 1, L, a, w, h => ⟨h.1, fun i hi => wpOp_mono (fun a' w' h' => wpAny_more f _ a' w' h') (h.2 i hi)⟩
theorem wpAny_more' {ops : Array Oper} {Q : Exit → Act → World → Prop} (g : Nat) (L : Array Bool) (a : Act) (w : World) (h : wpAny P md ops Q g L a w) : ∀ k, wpAny P md ops Q (k + g) L a w
  | 0 => by rw [Nat.zero_add]; exact h
  | k + 1 => by rw [Nat.succ_add]; exact wpAny_more _ _ _ _ (wpAny_more' g L a w h k)

/-- The first n operations wait for earlier ones alone, and ask earlier ones alone whether they are wanted. -/
def backB (ops : Array Oper) (n : Nat) : Bool := (List.range n).all fun i => match ops[i]? with
  | some o => o.after.all (fun e => decide (e.on < i)) && (match o.guard with | some (j, _) => decide (j < i) | none => true)
  | none => false
theorem backB_spec {ops : Array Oper} {n i : Nat} (h : backB ops n = true) (hi : i < n) : ∃ o, ops[i]? = some o ∧ (∀ e ∈ o.after, e.on < i) ∧ ∀ j b, o.guard = some (j, b) → j < i := by
  have h1 := List.all_eq_true.1 h i (List.mem_range.2 hi)
  cases ho : ops[i]? with
  | none => rw [ho] at h1; cases h1
  | some o =>
    rw [ho] at h1
    simp only [Bool.and_eq_true] at h1
    refine ⟨o, rfl, fun e he => ?_, fun j b hg => ?_⟩
    · have := Array.all_eq_true'.1 h1.1 e he
      simpa using this
    · have := h1.2
      rw [hg] at this
      simpa using this
theorem wpOp_head {ops opsH : Array Oper} {n i : Nat} (hH : ∀ j, j < n → opsH[j]? = ops[j]?) (hb : backB ops n = true) (hi : i < n) {QH Q' : Exit → Act → World → Prop} (hx : ∀ e a w, e ≠ .normal → QH e a w → Q' e a w)
    {K K' : Act → World → Prop} (hK : ∀ a w, K a w → K' a w) {a : Act} {w : World} (h : wpOp P opsH QH i K a w) : wpOp P ops Q' i K' a w := by
  obtain ⟨o, ho, _, hg⟩ := backB_spec hb hi
  unfold wpOp at *
  rw [hH i hi, ho] at h
  rw [ho]
  simp only at h ⊢
  have hw : Region.wanted o (yielded opsH a.tmps) = Region.wanted o (yielded ops a.tmps) := by
    unfold Region.wanted
    cases hgd : o.guard with
    | none => rfl
    | some jb =>
      obtain ⟨j, b⟩ := jb
      have := hg j b hgd
      simp only [yielded, hH j (by omega)]
  rw [hw] at h
  split
  · rename_i hc
    rw [if_pos hc] at h
    rcases h with h | ⟨h1, a', w', h2⟩
    · exact .inl (Oper.wp_mono2 hK hx h)
    · exact .inr ⟨h1, a', w', hx _ _ _ (by simp) h2⟩
  · rename_i hc
    rw [if_neg hc] at h
    exact hK _ _ h

/-- Until all of the first n are done, one of them is ready. -/
theorem head_ready {opsH : Array Oper} {n : Nat} (hb : ∀ i, i < n → ∃ o, opsH[i]? = some o ∧ ∀ e ∈ o.after, e.on < i) {L : Array Bool} (hs : L.size = n) (hr : Region.ready md opsH L = []) : ∀ i, i < n → L.getD i false = true := by
  intro i
  induction i using Nat.strongRecOn with
  | _ i ih =>
    intro hi
    by_cases hl : L.getD i false = true
    · exact hl
    · exfalso
      have hl' : L.getD i false = false := by simpa using hl
      obtain ⟨o, ho, hb'⟩ := hb i hi
      have : i ∈ Region.ready md opsH L := mem_ready.2 ⟨getD_in (by omega) hl', o, ho, fun e he _ => ih e.on (hb' e he) (by have := hb' e he; omega)⟩
      rw [hr] at this
      cases this

theorem wpAny_head {ops opsH : Array Oper} {n : Nat} (hH : ∀ j, j < n → opsH[j]? = ops[j]?) (hz : opsH.size = n) (hn : n < ops.size) (hs : Region.sinkB md ops n = true) (hc : Region.chainB md ops n = true) (hb : backB ops n = true)
    {QH Q' : Exit → Act → World → Prop} (hx : ∀ e a w, e ≠ .normal → QH e a w → Q' e a w)
    (hQ : ∀ a w, QH .normal a w → wpAny P md ops Q' (ops.size - n) ((Array.range ops.size).map fun i => decide (i < n)) a w) :
    ∀ (f : Nat) (LH LF : Array Bool) (a : Act) (w : World), LH.size = n → HeadInv md ops n LF → (∀ i, i < n → LF.getD i false = LH.getD i false) → wpAny P md opsH QH f LH a w → wpAny P md ops Q' (f + (ops.size - n)) LF a w := by
  have hbH : ∀ i, i < n → ∃ o, opsH[i]? = some o ∧ ∀ e ∈ o.after, e.on < i := fun i hi => by
    obtain ⟨o, ho, h1, _⟩ := backB_spec hb hi
    exact ⟨o, (hH i hi).trans ho, h1⟩
  have hend : ∀ (LH LF : Array Bool), LH.size = n → HeadInv md ops n LF → (∀ i, i < n → LF.getD i false = LH.getD i false) → Region.ready md opsH LH = [] → LF = (Array.range ops.size).map fun i => decide (i < n) := by
    intro LH LF h1 h2 h3 h4
    have h5 := head_ready hbH h1 h4
    apply Array.ext_getElem?
    intro i
    by_cases hi : i < ops.size
    · have hi' : i < LF.size := by rw [h2.size]; exact hi
      by_cases hin : i < n
      · have := (h3 i hin).trans (h5 i hin)
        rw [Array.getElem?_eq_getElem hi']
        simp [hi'] at this
        simp [hi, hin, this]
      · have := h2.tail i (by omega) hi
        rw [Array.getElem?_eq_getElem hi']
        simp [hi'] at this
        simp [hi, hin, this]
    · rw [Array.getElem?_eq_none (by rw [h2.size]; omega), Array.getElem?_eq_none (by simp; omega)]
  intro f
  induction f with
  | zero =>
    intro LH LF a w h1 h2 h3 h
    rw [Nat.zero_add, hend LH LF h1 h2 h3 h.1]
    exact hQ a w h.2
  | succ f ih =>
    intro LH LF a w h1 h2 h3 h
    by_cases hr : Region.ready md opsH LH = []
    · rw [hend LH LF h1 h2 h3 hr]
      exact wpAny_more' _ _ _ _ (hQ a w (h.1 hr)) _
    · obtain ⟨i0, r0, hi0⟩ := List.exists_cons_of_ne_nil hr
      have hm0 : i0 ∈ Region.ready md opsH LH := by rw [hi0]; simp
      have to_full : ∀ i, i ∈ Region.ready md opsH LH → i < n ∧ i ∈ Region.ready md ops LF := by
        intro i hi
        obtain ⟨h5, o, ho, hall⟩ := mem_ready.1 hi
        have hin : i < n := by rw [← hz]; exact (Array.getElem?_eq_some_iff.1 ho).1
        refine ⟨hin, mem_ready.2 ⟨?_, o, (hH i hin).symm.trans ho, fun e he hbd => ?_⟩⟩
        · have := getD_both h5
          exact getD_in (by rw [h2.size]; omega) ((h3 i hin).trans this)
        · obtain ⟨o', ho', hbk⟩ := hbH i hin
          obtain rfl : o' = o := Option.some.inj (ho'.symm.trans ho)
          have hon := hbk e he
          exact (h3 e.on (by omega)).trans (hall e he hbd)
      have from_full : ∀ i, i ∈ Region.ready md ops LF → i < n ∧ i ∈ Region.ready md opsH LH := by
        intro i hi
        have hin : i < n := by
          rcases Nat.lt_or_ge i n with h | h
          · exact h
          · exfalso
            have h0 := to_full i0 hm0
            obtain ⟨h6, _⟩ := mem_ready.1 h0.2
            exact tail_waits hs hc hn h2 (n - i0) i0 rfl h0.1 h6 i h hi
        obtain ⟨h5, o, ho, hall⟩ := mem_ready.1 hi
        refine ⟨hin, mem_ready.2 ⟨?_, o, (hH i hin).trans ho, fun e he hbd => ?_⟩⟩
        · have := getD_both h5
          exact getD_in (by omega) ((h3 i hin).symm.trans this)
        · obtain ⟨o', ho', hbk, _⟩ := backB_spec hb hin
          obtain rfl : o' = o := Option.some.inj (ho'.symm.trans ho)
          have hon := hbk e he
          exact (h3 e.on (by omega)).symm.trans (hall e he hbd)
      rw [Nat.succ_add]
      refine ⟨fun he => ?_, fun i hi => ?_⟩
      · have := (to_full i0 hm0).2
        rw [he] at this
        cases this
      · obtain ⟨hin, hiH⟩ := from_full i hi
        refine wpOp_head hH hb hin hx (fun a' w' hk => ?_) (h.2 i hiH)
        refine ih _ _ a' w' (by simpa using h1) (h2.set hi hin) (fun j hj => ?_) hk
        by_cases e : i = j
        · subst e
          simp [h1, hin, h2.size, show i < ops.size by omega]
        · rw [getD_set_ne false e, getD_set_ne false e]
          exact h3 j hj

/-- The first n operations read, or call what lays blocks of its own; those behind them follow one another. -/
theorem wp_region_head {id : Nat} {Q : Exit → Act → World → Prop} {a : Act} {w : World} {l : List Oper} (n : Nat) (hm : P.follows .mixedOrders = true)
    (hB : (decide (n < l.length) && Region.sinkB .any l.toArray n && Region.chainB .any l.toArray n && backB l.toArray n && Region.lexB .any (l.take n).toArray && Region.seqB .any l.toArray (l.length - n) n ((Array.range l.length).map fun i => decide (i < n))) = true)
    (h : wpQuiet P (l.take n).toArray (fun w' => ∃ p : Later w, w' = p.x) (fun a' => ∀ p : Later w, wpList P l.toArray Q (l.drop n) a' p.x) (l.take n) a) : (Code.region id l.toArray true).wp P Q a w := by
  simp only [Bool.and_eq_true, decide_eq_true_eq] at hB
  obtain ⟨⟨⟨⟨⟨hn, hs⟩, hc⟩, hb⟩, hlex⟩, hseq⟩ := hB
  refine wp_region_any hm ?_
  have htk : (l.take n).length = n := by simp; omega
  let QH : Exit → Act → World → Prop := fun e a w => match e with | .normal => wpList P l.toArray Q (l.drop n) a w | e => Q e a w
  have hx : ∀ e a w, e ≠ .normal → QH e a w → Q e a w := by
    intro e a w he h
    cases e <;> first | exact h | exact absurd rfl he
  simp only [Region.lexB, Bool.and_eq_true] at hlex
  have hq := wpAnyQ_lex (C := fun w' => ∃ p : Later w, w' = p.x) (md := .any) hlex.1 (l.take n) 0 (Array.replicate (l.take n).toArray.size false) a (by simp) (by simpa using hlex.2) h
  have hw := wpAny_of_quiet (P := P) (Q' := QH) (fun a' w' hw' (hq' : ∀ p : Later w, wpList P l.toArray Q (l.drop n) a' p.x) => by obtain ⟨p, rfl⟩ := hw'; exact hq' p) _ _ _ { w with drawn := w.drawn + 1 } ⟨⟨_, (Below.refl _ _).drew⟩, rfl⟩ hq
  have := wpAny_head (P := P) (md := .any) (ops := l.toArray) (opsH := (l.take n).toArray) (n := n) (fun j hj => by simp [hj]) (by simpa using htk) (by simpa using hn) hs hc hb hx
    (fun a' w' hq' => by
      have h1 := wpAny_of_seq (P := P) (md := .any) (ops := l.toArray) (Q' := Q) (l.drop n) n ((Array.range l.length).map fun i => decide (i < n)) a' w' (fun j => by simp [List.getElem?_drop]) (by simpa using hseq) hq'
      simpa using h1) _ _ (Array.replicate l.toArray.size false) a _ (by simp [htk]) ⟨by simp, fun j oj _ hl => (by rw [getD_replicate_false] at hl; cases hl), fun t _ ht => getD_in (by simpa using ht) (getD_replicate_false _ _)⟩ (fun i _ => by rw [getD_replicate_false, getD_replicate_false]) hw
  rw [htk] at this
  have e : n + (l.toArray.size - n) = l.toArray.size := by simp; omega
  rw [e] at this
  exact this
end
end Go.Proofs.Ytbcjcfjbdjdajaa
