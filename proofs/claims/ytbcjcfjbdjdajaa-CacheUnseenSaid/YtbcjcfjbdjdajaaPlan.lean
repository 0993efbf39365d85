/- Regions that draw their order, walked once: what only reads cells that stay is taken first, whatever else follows one another. Over any program; conditions are written in each. -/
import Derived.Test.YtbcjcfjbdjdajaaHT
import Derived.OrdersHeld
namespace Go.Proofs.Ytbcjcfjbdjdajaa
open Go.RowKit

section
variable {P : Program} {ops : Array Oper} {Q : Exit → Act → World → Prop} {S : World → Prop}

/-- Which operations an operation waits for, near or far. -/
def depT (l : List Oper) : List (List Nat) := (l.foldl (fun (D : Array (List Nat)) o => D.push ((o.after.toList.filter fun e => Region.binds .any e).flatMap fun e => e.on :: D.getD e.on [])) #[]).toList
def depOf (T : List (List Nat)) (j k : Nat) : Bool := (T.getD j []).contains k
def depsB (ops : Array Oper) (T : List (List Nat)) : Bool := (List.range ops.size).all fun j => (T.getD j []).all fun k => match ops[j]? with
  | some o => o.after.any fun e => Region.binds .any e && decide (e.on < j) && (e.on == k || (T.getD e.on []).contains k)
  | none => false
def ClosedL (ops : Array Oper) (L : Array Bool) : Prop := ∀ j oj, ops[j]? = some oj → L.getD j false = true → ∀ e ∈ oj.after, Region.binds .any e = true → L.getD e.on false = true

theorem dep_listed {T : List (List Nat)} (hT : depsB ops T = true) {L : Array Bool} (hc : ClosedL ops L) : ∀ (j : Nat) (oj : Oper), ops[j]? = some oj → (∀ e ∈ oj.after, Region.binds .any e = true → L.getD e.on false = true) →
    ∀ k, depOf T j k = true → L.getD k false = true := by
  intro j
  induction j using Nat.strongRecOn with
  | _ j ih =>
    intro oj ho hall k hk
    have hj : j < ops.size := (Array.getElem?_eq_some_iff.1 ho).1
    have h1 := List.all_eq_true.1 hT j (List.mem_range.2 hj)
    have h2 := List.all_eq_true.1 h1 k (by unfold depOf at hk; simpa using hk)
    rw [ho] at h2
    obtain ⟨e, he, hb⟩ := Array.any_eq_true'.1 h2
    simp only [Bool.and_eq_true, Bool.or_eq_true, beq_iff_eq, decide_eq_true_eq] at hb
    obtain ⟨⟨hb1, hb2⟩, hb3⟩ := hb
    have hl := hall e he hb1
    rcases hb3 with rfl | hb3
    · exact hl
    · have hlt : e.on < ops.size := by omega
      obtain ⟨oe, hoe⟩ : ∃ oe, ops[e.on]? = some oe := ⟨_, Array.getElem?_eq_getElem hlt⟩
      exact ih e.on hb2 oe hoe (hc e.on oe hoe hl) k hb3

/-- Is there an operation among ks that no listed one of es waits for? -/
def needS (T : List (List Nat)) (ks es : List Nat) (L : Array Bool) : Bool := ks.any fun k => es.all fun j => !(L.getD j false) || !(depOf T j k)
theorem needS_float {T : List (List Nat)} {ks es : List Nat} {L : Array Bool} {i : Nat} (hi : i ∉ es) : needS T ks es (L.setIfInBounds i true) = needS T ks es L := by
  unfold needS
  congr 1
  funext k
  rw [Bool.eq_iff_iff]
  simp only [List.all_eq_true]
  constructor
  · intro h j hj
    have := h j hj
    rwa [getD_set_ne false (fun e => hi (by rw [e]; exact hj))] at this
  · intro h j hj
    rw [getD_set_ne false (fun e => hi (by rw [e]; exact hj))]
    exact h j hj
theorem needS_unlisted {T : List (List Nat)} (hT : depsB ops T = true) {ks es : List Nat} {L : Array Bool} (hc : ClosedL ops L) (hsz : L.size = ops.size) {i : Nat} (hi : i ∈ ks) (hu : L.getD i false = false) : needS T ks es L = true := by
  unfold needS
  rw [List.any_eq_true]
  refine ⟨i, hi, ?_⟩
  rw [List.all_eq_true]
  intro j _
  cases hl : L.getD j false with
  | false => rfl
  | true =>
    cases hd : depOf T j i with
    | false => rfl
    | true =>
      exfalso
      have hj : j < ops.size := by
        rw [← hsz]
        rcases Nat.lt_or_ge j L.size with h | h
        · exact h
        · simp [Array.getElem?_eq_none h] at hl
      obtain ⟨oj, hoj⟩ : ∃ oj, ops[j]? = some oj := ⟨_, Array.getElem?_eq_getElem hj⟩
      have := dep_listed hT hc j oj hoj (hc j oj hoj hl) i hd
      rw [hu] at this
      cases this

def wpAnyF (P : Program) (ops : Array Oper) (Q : Exit → Act → World → Prop) (S : World → Prop) (T : List (List Nat)) (ks es : List Nat) : Nat → Array Bool → Act → World → Prop
  | 0, L, a, w => Region.ready .any ops L = [] ∧ Q .normal a w
  | fuel + 1, L, a, w =>
    (Region.ready .any ops L = [] → Q .normal a w) ∧
    ∀ i ∈ Region.ready .any ops L, wpOp P ops Q i (fun a' w' => (needS T ks es (L.setIfInBounds i true) = true → S w') ∧ wpAnyF P ops Q S T ks es fuel (L.setIfInBounds i true) a' w') a w
theorem wpAny_of_F {T : List (List Nat)} {ks es : List Nat} : ∀ (fuel : Nat) (L : Array Bool) (a : Act) (w : World), wpAnyF P ops Q S T ks es fuel L a w → wpAny P .any ops Q fuel L a w
  | 0, _, _, _, h => h
  | fuel + 1, _, _, _, h => ⟨h.1, fun i hi => wpOp_mono (fun a' w' h' => wpAny_of_F fuel _ a' w' h'.2) (h.2 i hi)⟩
theorem ClosedL.set {L : Array Bool} (hc : ClosedL ops L) (_hsz : L.size = ops.size) {i : Nat} (hi : i ∈ Region.ready .any ops L) : ClosedL ops (L.setIfInBounds i true) := by
  intro j oj hoj hl e he hb
  obtain ⟨hu, oi, hoi, hall⟩ := mem_ready.1 hi
  by_cases hji : i = j
  · subst hji
    obtain rfl : oi = oj := Option.some.inj (hoi.symm.trans hoj)
    exact getD_set_true (hall e he hb)
  · rw [getD_set_ne false hji] at hl
    exact getD_set_true (hc j oj hoj hl e he hb)

/-- What is taken first: it yields in every world that meets S' (S, if it is among ks; any, else). -/
def Floats (P : Program) (ops : Array Oper) (S : World → Prop) (ks : List Nat) (i : Nat) (o : Oper) (v : Value) (a : Act) : Prop := YieldsIf P ops (fun w => i ∈ ks → S w) o v a

theorem wpAnyF_first {T : List (List Nat)} {ks es : List Nat} (hT : depsB ops T = true) {i : Nat} {oi : Oper} {v : Value} (hi : ops[i]? = some oi) (hies : i ∉ es) (hsel : ∀ (j : Nat) (o : Oper) cs b, ops[j]? = some o → o.op ≠ .select cs b)
    (hQ : ∀ c a w, Q (.panic c) (a.put oi.dst v) w → Q (.panic c) a w) :
    ∀ (fuel : Nat) (L : Array Bool) (a : Act) (w : World), ClosedL ops L → L.size = ops.size →
      (∀ j oj, ops[j]? = some oj → j ≠ i → L.getD j true = false → (∀ e ∈ oj.after, Region.binds .any e = true → e.on ≠ i) → oi.apart ops oj = true) →
      i ∈ Region.ready .any ops L → Floats P ops S ks i oi v a → (needS T ks es L = true → S w) →
      wpAnyF P ops Q S T ks es fuel (L.setIfInBounds i true) (a.put oi.dst v) w → wpAnyF P ops Q S T ks es (fuel + 1) L a w := by
  intro fuel
  induction fuel with
  | zero =>
    intro L a w hc hsz _ hr hy hS H
    refine ⟨fun h => (by rw [h] at hr; cases hr), fun j hj => ?_⟩
    by_cases hji : j = i
    · subst hji
      have hu := getD_both (mem_ready.1 hr).1
      exact hy.wpOp hi (fun hk => hS (needS_unlisted hT hc hsz hk hu)) ⟨fun hn => hS (by rwa [needS_float hies] at hn), H⟩
    · have := ready_mono hj hji
      rw [H.1] at this
      cases this
  | succ fuel ih =>
    intro L a w hc hsz hfree hr hy hS H
    refine ⟨fun h => (by rw [h] at hr; cases hr), fun j hj => ?_⟩
    by_cases hji : j = i
    · subst hji
      have hu := getD_both (mem_ready.1 hr).1
      exact hy.wpOp hi (fun hk => hS (needS_unlisted hT hc hsz hk hu)) ⟨fun hn => hS (by rwa [needS_float hies] at hn), H⟩
    · have h1 := H.2 j (ready_mono hj hji)
      obtain ⟨hjun, oj, hoj, hall⟩ := mem_ready.1 hj
      have hnot : ∀ e ∈ oj.after, Region.binds .any e = true → e.on ≠ i := fun e he hb heq => by
        have h1 := hall e he hb
        have h0 := (mem_ready.1 hr).1
        rw [heq] at h1
        rw [getD_both h0] at h1
        cases h1
      have h2 := wpOp_putIf hoj (hfree j oj hoj hji hjun hnot) (fun cs b => hsel i oi cs b hi) (fun cs b => hsel j oj cs b hoj) hQ hy h1
      have hfree' : ∀ k ok, ops[k]? = some ok → k ≠ i → (L.setIfInBounds j true).getD k true = false →
          (∀ e ∈ ok.after, Region.binds .any e = true → e.on ≠ i) → oi.apart ops ok = true := fun k ok hk hki hun hno => by
        refine hfree k ok hk hki ?_ hno
        by_cases hjk : j = k
        · subst hjk; exact hjun
        · rw [getD_set_ne true hjk] at hun; exact hun
      refine wpOp_mono (fun a' w' h3 => ?_) h2
      obtain ⟨h4, h5, h6⟩ := h3
      rw [Array.setIfInBounds_comm _ _ (Ne.symm hji), needS_float hies] at h5
      refine ⟨h5, ih (L.setIfInBounds j true) a' w' (hc.set hsz hj) (by simpa using hsz) hfree' (ready_mono hr (Ne.symm hji)) h4 h5 ?_⟩
      rw [Array.setIfInBounds_comm _ _ hji]
      exact h6

/-- The order in which a region is walked: number, and what it is: 0 taken first in any world, 1 taken first where S holds, 2 carried out, S shown anew behind it, 3 carried out. -/
def wpPlan (P : Program) (l : List Oper) (Q : Exit → Act → World → Prop) (S : World → Prop) : List (Nat × Nat) → Act → World → Prop
  | [], a, w => Q .normal a w
  | (0, i) :: r, a, w => ∃ o v, l[i]? = some o ∧ YieldsIf P l.toArray (fun _ => True) o v a ∧ wpPlan P l Q S r (a.put o.dst v) w
  | (1, i) :: r, a, w => ∃ o v, l[i]? = some o ∧ YieldsIf P l.toArray S o v a ∧ wpPlan P l Q S r (a.put o.dst v) w
  | (2, i) :: r, a, w => wpOp P l.toArray Q i (fun a' w' => S w' ∧ wpPlan P l Q S r a' w') a w
  | (_, i) :: r, a, w => wpOp P l.toArray Q i (fun a' w' => wpPlan P l Q S r a' w') a w
def planB (ops : Array Oper) (T : List (List Nat)) (ks es : List Nat) : List (Nat × Nat) → Array Bool → Bool
  | [], L => (Region.ready .any ops L).isEmpty
  | (0, i) :: r, L => (Region.ready .any ops L).contains i && Region.free .any ops L i && !(es.contains i) && planB ops T ks es r (L.setIfInBounds i true)
  | (1, i) :: r, L => (Region.ready .any ops L).contains i && Region.free .any ops L i && !(es.contains i) && ks.contains i && planB ops T ks es r (L.setIfInBounds i true)
  | (2, i) :: r, L => decide (Region.ready .any ops L = [i]) && planB ops T ks es r (L.setIfInBounds i true)
  | (_, i) :: r, L => decide (Region.ready .any ops L = [i]) && !(needS T ks es (L.setIfInBounds i true)) && planB ops T ks es r (L.setIfInBounds i true)

theorem wpAnyF_plan {l : List Oper} {T : List (List Nat)} {ks es : List Nat} (hT : depsB l.toArray T = true) (hs : Region.noSelect l.toArray = true) (hQ : ∀ c a a' w, Q (.panic c) a w → Q (.panic c) a' w) :
    ∀ (pl : List (Nat × Nat)) (L : Array Bool) (a : Act) (w : World), ClosedL l.toArray L → L.size = l.toArray.size → planB l.toArray T ks es pl L = true → (needS T ks es L = true → S w) → wpPlan P l Q S pl a w →
      wpAnyF P l.toArray Q S T ks es pl.length L a w
  | [], L, a, w, _, _, hB, _, h => ⟨by simpa [planB] using hB, h⟩
  | (0, i) :: r, L, a, w, hc, hsz, hB, hS, h => by
    simp only [planB, Bool.and_eq_true, Bool.not_eq_true', List.contains_eq_mem, decide_eq_true_eq, decide_eq_false_iff_not] at hB
    obtain ⟨⟨⟨hr, hf⟩, hne⟩, hB'⟩ := hB
    obtain ⟨o, v, ho, hy, hK⟩ := h
    have ho' : l.toArray[i]? = some o := by simpa using ho
    refine wpAnyF_first hT ho' hne (Region.noSelect_spec hs) (fun c a w => hQ c _ _ w) r.length L a w hc hsz (Region.free_spec ho' hf) hr ?_ hS
      (wpAnyF_plan hT hs hQ r _ _ w (hc.set hsz hr) (by simpa using hsz) hB' (fun hn => hS (by rwa [needS_float hne] at hn)) hK)
    exact hy.imp (fun ⟨h1, h2⟩ => ⟨h1, fun w _ => h2 w trivial⟩) id
  | (1, i) :: r, L, a, w, hc, hsz, hB, hS, h => by
    simp only [planB, Bool.and_eq_true, Bool.not_eq_true', List.contains_eq_mem, decide_eq_true_eq, decide_eq_false_iff_not] at hB
    obtain ⟨⟨⟨⟨hr, hf⟩, hne⟩, hk⟩, hB'⟩ := hB
    obtain ⟨o, v, ho, hy, hK⟩ := h
    have ho' : l.toArray[i]? = some o := by simpa using ho
    refine wpAnyF_first hT ho' hne (Region.noSelect_spec hs) (fun c a w => hQ c _ _ w) r.length L a w hc hsz (Region.free_spec ho' hf) hr ?_ hS
      (wpAnyF_plan hT hs hQ r _ _ w (hc.set hsz hr) (by simpa using hsz) hB' (fun hn => hS (by rwa [needS_float hne] at hn)) hK)
    exact hy.imp (fun ⟨h1, h2⟩ => ⟨h1, fun w hw => h2 w (hw hk)⟩) id
  | (2, i) :: r, L, a, w, hc, hsz, hB, hS, h => by
    simp only [planB, Bool.and_eq_true, decide_eq_true_eq] at hB
    have hri : i ∈ Region.ready .any l.toArray L := by rw [hB.1]; simp
    refine ⟨fun h1 => (by rw [hB.1] at h1; cases h1), fun j hj => ?_⟩
    rw [hB.1] at hj
    obtain rfl : j = i := by simpa using hj
    exact wpOp_mono (fun a' w' ⟨h1, h2⟩ => ⟨fun _ => h1, wpAnyF_plan hT hs hQ r _ a' w' (hc.set hsz hri) (by simpa using hsz) hB.2 (fun _ => h1) h2⟩) h
  | (n + 3, i) :: r, L, a, w, hc, hsz, hB, hS, h => by
    simp only [planB, Bool.and_eq_true, decide_eq_true_eq, Bool.not_eq_true'] at hB
    have hri : i ∈ Region.ready .any l.toArray L := by rw [hB.1.1]; simp
    refine ⟨fun h1 => (by rw [hB.1.1] at h1; cases h1), fun j hj => ?_⟩
    rw [hB.1.1] at hj
    obtain rfl : j = i := by simpa using hj
    exact wpOp_mono (fun a' w' h2 => ⟨fun hn => (by rw [hB.1.2] at hn; cases hn), wpAnyF_plan hT hs hQ r _ a' w' (hc.set hsz hri) (by simpa using hsz) hB.2 (fun hn => (by rw [hB.1.2] at hn; cases hn)) h2⟩) h

/-- The post without panics. -/
def Calm (Q : Exit → Act → World → Prop) : Exit → Act → World → Prop
  | .panic _, _, _ => False
  | e, a, w => Q e a w
theorem calm_mono : ∀ (e : Exit) (a : Act) (w : World), Calm Q e a w → Q e a w := fun e a w h => by
  cases e <;> first | exact h | exact (h : False).elim
def kindsOf (pl : List (Nat × Nat)) (ks : List Nat) : List Nat := (pl.filter fun p => ks.contains p.1).map (·.2)
/-- A region that draws its order, walked by a plan. -/
theorem wp_region_plan {id : Nat} {a : Act} {w : World} {l : List Oper} (S : World → Prop) (pl : List (Nat × Nat)) (hm : P.follows .mixedOrders = true)
    (hB : (Region.noSelect l.toArray && depsB l.toArray (depT l) && decide (pl.length = l.length) && planB l.toArray (depT l) (kindsOf pl [1]) (kindsOf pl [2, 3]) pl (Array.replicate l.length false)) = true)
    (hS : S w.drew) (h : wpPlan P l (Calm Q) S pl a w.drew) : (Code.region id l.toArray true).wp P Q a w := by
  simp only [Bool.and_eq_true, decide_eq_true_eq] at hB
  obtain ⟨⟨⟨h1, h2⟩, h3⟩, h4⟩ := hB
  refine Code.wp_mono calm_mono (wp_region_any (Q := Calm Q) hm ?_)
  have := wpAnyF_plan (P := P) (Q := Calm Q) (S := S) h2 h1 (fun c a a' w hq => hq.elim) pl (Array.replicate l.length false) a w.drew (fun j oj _ hl => by rw [getD_replicate_false] at hl; cases hl) (by simp) h4 (fun _ => hS) h
  rw [h3] at this
  simpa using wpAny_of_F _ _ _ _ this

/-- A world that meets S. -/
structure Kept (S : World → Prop) where
  x : World
  h : S x
/-- One that is taken first, in whatever world. -/
theorem wpPlan_pure {l : List Oper} {i : Nat} {r : List (Nat × Nat)} {a : Act} {w : World} {o : Oper} (ho : l[i]? = some o)
    (h : ∀ K : Act → Prop, (∀ a, wpPlan P l Q S r a w → K a) → if Region.wanted o (yielded l.toArray a.tmps) then ∃ v, (∀ w' : World, (execOp a.eval o).run P w' = .ok (.value v) w') ∧ K (a.put o.dst v) else K (a.put o.dst undef)) : wpPlan P l Q S ((0, i) :: r) a w := by
  have := h (fun a => wpPlan P l Q S r a w) (fun _ h => h)
  split at this
  · rename_i hw
    obtain ⟨v, h1, h2⟩ := this
    exact ⟨o, v, ho, .inl ⟨hw, fun w _ => h1 w⟩, h2⟩
  · rename_i hw
    exact ⟨o, undef, ho, .inr ⟨by simpa using hw, rfl⟩, this⟩
/-- One that is taken first, where S holds. -/
theorem wpPlan_held {l : List Oper} {i : Nat} {r : List (Nat × Nat)} {a : Act} {w : World} {o : Oper} (ho : l[i]? = some o)
    (h : ∀ K : Act → Prop, (∀ a, wpPlan P l Q S r a w → K a) → if Region.wanted o (yielded l.toArray a.tmps) then ∃ v, (∀ p : Kept S, (execOp a.eval o).run P p.x = .ok (.value v) p.x) ∧ K (a.put o.dst v) else K (a.put o.dst undef)) : wpPlan P l Q S ((1, i) :: r) a w := by
  have := h (fun a => wpPlan P l Q S r a w) (fun _ h => h)
  split at this
  · rename_i hw
    obtain ⟨v, h1, h2⟩ := this
    exact ⟨o, v, ho, .inl ⟨hw, fun w hw => h1 ⟨w, hw⟩⟩, h2⟩
  · rename_i hw
    exact ⟨o, undef, ho, .inr ⟨by simpa using hw, rfl⟩, this⟩
theorem wpOp_of_list {l : List Oper} {i : Nat} {a : Act} {w : World} {o : Oper} {K : Act → World → Prop} (ho : l[i]? = some o) (hQ : ∀ e a w, e ≠ .normal → Exit.then K Q e a w → Q e a w) (h : wpList P l.toArray (Exit.then K Q) [o] a w) : wpOp P l.toArray Q i K a w := by
  unfold wpOp
  rw [show l.toArray[i]? = some o by simpa using ho]
  unfold wpList at h
  simp only
  split at h
  · rename_i hw
    rw [if_pos hw]
    rcases h with h | ⟨h1, a', w', h2⟩
    · exact .inl (Oper.wp_mono2 (fun a w hk => hk) hQ h)
    · exact .inr ⟨h1, a', w', h2⟩
  · rename_i hw
    rw [if_neg hw]
    exact h
/-- One that is carried out; S is shown anew. -/
theorem wpPlan_turn {l : List Oper} {i : Nat} {r : List (Nat × Nat)} {a : Act} {w : World} {o : Oper} (ho : l[i]? = some o)
    (h : ∀ K : Act → World → Prop, Hid (∀ a w, S w → wpPlan P l Q S r a w → K a w) → wpList P l.toArray (Exit.then K Q) [o] a w) : wpPlan P l Q S ((2, i) :: r) a w :=
  wpOp_of_list ho (fun e a w he h => by cases e <;> first | exact h | exact absurd rfl he) (h (fun a' w' => S w' ∧ wpPlan P l Q S r a' w') (fun _ _ h1 h2 => ⟨h1, h2⟩))
/-- One that is carried out, when nothing that was taken first may be left. -/
theorem wpPlan_last {l : List Oper} {i : Nat} {r : List (Nat × Nat)} {a : Act} {w : World} {o : Oper} (ho : l[i]? = some o)
    (h : ∀ K : Act → World → Prop, Hid (∀ a w, wpPlan P l Q S r a w → K a w) → wpList P l.toArray (Exit.then K Q) [o] a w) : wpPlan P l Q S ((3, i) :: r) a w :=
  wpOp_of_list ho (fun e a w he h => by cases e <;> first | exact h | exact absurd rfl he) (h (fun a' w' => wpPlan P l Q S r a' w') (fun _ _ h2 => h2))
theorem wpPlan_nil {l : List Oper} {a : Act} {w : World} (h : Q .normal a w) : wpPlan P l (Calm Q) S [] a w := h
end
end Go.Proofs.Ytbcjcfjbdjdajaa
