/- Regions that draw their order, walked once by a plan that may hold a fork: two operations, either of which may be first. Over any program; conditions are written in each. -/
import Derived.Test.YtbcjcfjbdjdajaaPlan
namespace Go.Proofs.Ytbcjcfjbdjdajaa
open Go.RowKit
inductive PT where
  | done : PT
  | one : Nat → Nat → PT → PT
  | fork : Nat → Nat → PT → PT
def PT.len : PT → Nat
  | .done => 0
  | .one _ _ r => r.len + 1
  | .fork _ _ r => r.len + 2
section
variable {P : Program} {Q : Exit → Act → World → Prop} {S : World → Prop}
def wpT (P : Program) (l : List Oper) (Q : Exit → Act → World → Prop) (S : World → Prop) : PT → Act → World → Prop
  | .done, a, w => Q .normal a w
  | .one 0 i r, a, w => ∃ o v, l[i]? = some o ∧ YieldsIf P l.toArray (fun _ => True) o v a ∧ wpT P l Q S r (a.put o.dst v) w
  | .one 1 i r, a, w => ∃ o v, l[i]? = some o ∧ YieldsIf P l.toArray S o v a ∧ wpT P l Q S r (a.put o.dst v) w
  | .one 2 i r, a, w => wpOp P l.toArray Q i (fun a' w' => S w' ∧ wpT P l Q S r a' w') a w
  | .one _ i r, a, w => wpOp P l.toArray Q i (fun a' w' => wpT P l Q S r a' w') a w
  | .fork i j r, a, w => ∃ R : Act → World → Prop, wpOp P l.toArray Q i (fun a w => S w ∧ wpOp P l.toArray Q j (fun a w => S w ∧ R a w) a w) a w ∧ wpOp P l.toArray Q j (fun a w => S w ∧ wpOp P l.toArray Q i (fun a w => S w ∧ R a w) a w) a w ∧ ∀ a w, R a w → wpT P l Q S r a w
def treeB (ops : Array Oper) (T : List (List Nat)) (ks es : List Nat) : PT → Array Bool → Bool
  | .done, L => (Region.ready .any ops L).isEmpty
  | .one 0 i r, L => (Region.ready .any ops L).contains i && Region.free .any ops L i && !(es.contains i) && treeB ops T ks es r (L.setIfInBounds i true)
  | .one 1 i r, L => (Region.ready .any ops L).contains i && Region.free .any ops L i && !(es.contains i) && ks.contains i && treeB ops T ks es r (L.setIfInBounds i true)
  | .one 2 i r, L => decide (Region.ready .any ops L = [i]) && treeB ops T ks es r (L.setIfInBounds i true)
  | .one _ i r, L => decide (Region.ready .any ops L = [i]) && !(needS T ks es (L.setIfInBounds i true)) && treeB ops T ks es r (L.setIfInBounds i true)
  | .fork i j r, L => decide (Region.ready .any ops L = [i, j]) && decide (Region.ready .any ops (L.setIfInBounds i true) = [j]) && decide (Region.ready .any ops (L.setIfInBounds j true) = [i]) && decide (i ≠ j) && treeB ops T ks es r ((L.setIfInBounds i true).setIfInBounds j true)
theorem wpAnyF_tree {l : List Oper} {T : List (List Nat)} {ks es : List Nat} (hT : depsB l.toArray T = true) (hs : Region.noSelect l.toArray = true) (hQ : ∀ c a a' w, Q (.panic c) a w → Q (.panic c) a' w) :
    ∀ (pl : PT) (L : Array Bool) (a : Act) (w : World), ClosedL l.toArray L → L.size = l.toArray.size → treeB l.toArray T ks es pl L = true → (needS T ks es L = true → S w) → wpT P l Q S pl a w →
      wpAnyF P l.toArray Q S T ks es pl.len L a w
  | .done, L, a, w, _, _, hB, _, h => ⟨by simpa [treeB] using hB, h⟩
  | .one 0 i r, L, a, w, hc, hsz, hB, hS, h => by
    simp only [treeB, Bool.and_eq_true, Bool.not_eq_true', List.contains_eq_mem, decide_eq_true_eq, decide_eq_false_iff_not] at hB
    obtain ⟨⟨⟨hr, hf⟩, hne⟩, hB'⟩ := hB
    obtain ⟨o, v, ho, hy, hK⟩ := h
    have ho' : l.toArray[i]? = some o := by simpa using ho
    refine wpAnyF_first hT ho' hne (Region.noSelect_spec hs) (fun c a w => hQ c _ _ w) r.len L a w hc hsz (Region.free_spec ho' hf) hr ?_ hS
      (wpAnyF_tree hT hs hQ r _ _ w (hc.set hsz hr) (by simpa using hsz) hB' (fun hn => hS (by rwa [needS_float hne] at hn)) hK)
    exact hy.imp (fun ⟨h1, h2⟩ => ⟨h1, fun w _ => h2 w trivial⟩) id
  | .one 1 i r, L, a, w, hc, hsz, hB, hS, h => by
    simp only [treeB, Bool.and_eq_true, Bool.not_eq_true', List.contains_eq_mem, decide_eq_true_eq, decide_eq_false_iff_not] at hB
    obtain ⟨⟨⟨⟨hr, hf⟩, hne⟩, hk⟩, hB'⟩ := hB
    obtain ⟨o, v, ho, hy, hK⟩ := h
    have ho' : l.toArray[i]? = some o := by simpa using ho
    refine wpAnyF_first hT ho' hne (Region.noSelect_spec hs) (fun c a w => hQ c _ _ w) r.len L a w hc hsz (Region.free_spec ho' hf) hr ?_ hS
      (wpAnyF_tree hT hs hQ r _ _ w (hc.set hsz hr) (by simpa using hsz) hB' (fun hn => hS (by rwa [needS_float hne] at hn)) hK)
    exact hy.imp (fun ⟨h1, h2⟩ => ⟨h1, fun w hw => h2 w (hw hk)⟩) id
  | .one 2 i r, L, a, w, hc, hsz, hB, hS, h => by
    simp only [treeB, Bool.and_eq_true, decide_eq_true_eq] at hB
    have hri : i ∈ Region.ready .any l.toArray L := by rw [hB.1]; simp
    refine ⟨fun h1 => (by rw [hB.1] at h1; cases h1), fun j hj => ?_⟩
    rw [hB.1] at hj
    obtain rfl : j = i := by simpa using hj
    exact wpOp_mono (fun a' w' ⟨h1, h2⟩ => ⟨fun _ => h1, wpAnyF_tree hT hs hQ r _ a' w' (hc.set hsz hri) (by simpa using hsz) hB.2 (fun _ => h1) h2⟩) h
  | .one (n + 3) i r, L, a, w, hc, hsz, hB, hS, h => by
    simp only [treeB, Bool.and_eq_true, decide_eq_true_eq, Bool.not_eq_true'] at hB
    have hri : i ∈ Region.ready .any l.toArray L := by rw [hB.1.1]; simp
    refine ⟨fun h1 => (by rw [hB.1.1] at h1; cases h1), fun j hj => ?_⟩
    rw [hB.1.1] at hj
    obtain rfl : j = i := by simpa using hj
    exact wpOp_mono (fun a' w' h2 => ⟨fun hn => (by rw [hB.1.2] at hn; cases hn), wpAnyF_tree hT hs hQ r _ a' w' (hc.set hsz hri) (by simpa using hsz) hB.2 (fun hn => (by rw [hB.1.2] at hn; cases hn)) h2⟩) h
  | .fork i j r, L, a, w, hc, hsz, hB, hS, h => by
    simp only [treeB, Bool.and_eq_true, decide_eq_true_eq] at hB
    obtain ⟨⟨⟨⟨hL, hi⟩, hj⟩, hne⟩, hB'⟩ := hB
    obtain ⟨R, h1, h2, h3⟩ := h
    have hri : i ∈ Region.ready .any l.toArray L := by rw [hL]; simp
    have hrj : j ∈ Region.ready .any l.toArray L := by rw [hL]; simp
    have hrij : j ∈ Region.ready .any l.toArray (L.setIfInBounds i true) := by rw [hi]; simp
    have hrji : i ∈ Region.ready .any l.toArray (L.setIfInBounds j true) := by rw [hj]; simp
    have ci := hc.set hsz hri
    have cj := hc.set hsz hrj
    refine ⟨fun he => (by rw [hL] at he; cases he), fun k hk => ?_⟩
    rw [hL] at hk
    rcases List.mem_cons.1 hk with rfl | hk
    · refine wpOp_mono (fun a' w' ⟨s1, g1⟩ => ⟨fun _ => s1, fun he => (by rw [hi] at he; cases he), fun k' hk' => ?_⟩) h1
      rw [hi] at hk'
      obtain rfl : k' = j := by simpa using hk'
      exact wpOp_mono (fun a'' w'' ⟨s2, g2⟩ => ⟨fun _ => s2, wpAnyF_tree hT hs hQ r _ a'' w'' (ci.set (by simpa using hsz) hrij) (by simpa using hsz) hB' (fun _ => s2) (h3 _ _ g2)⟩) g1
    · obtain rfl : k = j := by simpa using hk
      refine wpOp_mono (fun a' w' ⟨s1, g1⟩ => ⟨fun _ => s1, fun he => (by rw [hj] at he; cases he), fun k' hk' => ?_⟩) h2
      rw [hj] at hk'
      obtain rfl : k' = i := by simpa using hk'
      rw [Array.setIfInBounds_comm _ _ hne] at hB'
      exact wpOp_mono (fun a'' w'' ⟨s2, g2⟩ => ⟨fun _ => s2, wpAnyF_tree hT hs hQ r _ a'' w'' (cj.set (by simpa using hsz) hrji) (by simpa using hsz) hB' (fun _ => s2) (h3 _ _ g2)⟩) g1
def PT.kinds (ks : List Nat) : PT → List Nat
  | .done => []
  | .one k i r => if ks.contains k then i :: r.kinds ks else r.kinds ks
  | .fork i j r => if ks.contains 2 then i :: j :: r.kinds ks else r.kinds ks
/-- A region that draws its order, walked by a plan that may hold a fork. -/
theorem wp_region_tree {id : Nat} {a : Act} {w : World} {l : List Oper} (S : World → Prop) (pl : PT) (hm : P.follows .mixedOrders = true)
    (hB : (Region.noSelect l.toArray && depsB l.toArray (depT l) && decide (pl.len = l.length) && treeB l.toArray (depT l) (pl.kinds [1]) (pl.kinds [2, 3]) pl (Array.replicate l.length false)) = true)
    (hS : S w.drew) (h : wpT P l (Calm Q) S pl a w.drew) : (Code.region id l.toArray true).wp P Q a w := by
  simp only [Bool.and_eq_true, decide_eq_true_eq] at hB
  obtain ⟨⟨⟨h1, h2⟩, h3⟩, h4⟩ := hB
  refine Code.wp_mono calm_mono (wp_region_any (Q := Calm Q) hm ?_)
  have := wpAnyF_tree (P := P) (Q := Calm Q) (S := S) h2 h1 (fun c a a' w hq => hq.elim) pl (Array.replicate l.length false) a w.drew (fun j oj _ hl => by rw [getD_replicate_false] at hl; cases hl) (by simp) h4 (fun _ => hS) h
  rw [h3] at this
  simpa using wpAny_of_F _ _ _ _ this
theorem wpT_pure {l : List Oper} {i : Nat} {r : PT} {a : Act} {w : World} {o : Oper} (ho : l[i]? = some o)
    (h : ∀ K : Act → Prop, (∀ a, wpT P l Q S r a w → K a) → if Region.wanted o (yielded l.toArray a.tmps) then ∃ v, (∀ w' : World, (execOp a.eval o).run P w' = .ok (.value v) w') ∧ K (a.put o.dst v) else K (a.put o.dst undef)) : wpT P l Q S (.one 0 i r) a w := by
  have := h (fun a => wpT P l Q S r a w) (fun _ h => h)
  split at this
  · rename_i hw
    obtain ⟨v, h1, h2⟩ := this
    exact ⟨o, v, ho, .inl ⟨hw, fun w _ => h1 w⟩, h2⟩
  · rename_i hw
    exact ⟨o, undef, ho, .inr ⟨by simpa using hw, rfl⟩, this⟩
theorem wpT_held {l : List Oper} {i : Nat} {r : PT} {a : Act} {w : World} {o : Oper} (ho : l[i]? = some o)
    (h : ∀ K : Act → Prop, (∀ a, wpT P l Q S r a w → K a) → if Region.wanted o (yielded l.toArray a.tmps) then ∃ v, (∀ p : Kept S, (execOp a.eval o).run P p.x = .ok (.value v) p.x) ∧ K (a.put o.dst v) else K (a.put o.dst undef)) : wpT P l Q S (.one 1 i r) a w := by
  have := h (fun a => wpT P l Q S r a w) (fun _ h => h)
  split at this
  · rename_i hw
    obtain ⟨v, h1, h2⟩ := this
    exact ⟨o, v, ho, .inl ⟨hw, fun w hw => h1 ⟨w, hw⟩⟩, h2⟩
  · rename_i hw
    exact ⟨o, undef, ho, .inr ⟨by simpa using hw, rfl⟩, this⟩
theorem wpT_turn {l : List Oper} {i : Nat} {r : PT} {a : Act} {w : World} {o : Oper} (ho : l[i]? = some o)
    (h : ∀ K : Act → World → Prop, Hid (∀ a w, S w → wpT P l Q S r a w → K a w) → wpList P l.toArray (Exit.then K Q) [o] a w) : wpT P l Q S (.one 2 i r) a w :=
  wpOp_of_list ho (fun e a w he h => by cases e <;> first | exact h | exact absurd rfl he) (h (fun a' w' => S w' ∧ wpT P l Q S r a' w') (fun _ _ h1 h2 => ⟨h1, h2⟩))
theorem wpT_last {l : List Oper} {i : Nat} {r : PT} {a : Act} {w : World} {o : Oper} (ho : l[i]? = some o)
    (h : ∀ K : Act → World → Prop, Hid (∀ a w, wpT P l Q S r a w → K a w) → wpList P l.toArray (Exit.then K Q) [o] a w) : wpT P l Q S (.one 3 i r) a w :=
  wpOp_of_list ho (fun e a w he h => by cases e <;> first | exact h | exact absurd rfl he) (h (fun a' w' => wpT P l Q S r a' w') (fun _ _ h2 => h2))
theorem wpT_done {l : List Oper} {a : Act} {w : World} (h : Q .normal a w) : wpT P l (Calm Q) S .done a w := h
/-- The fork: what holds behind both operations, of what they yielded and of the world. -/
theorem wpT_fork {l : List Oper} {i j : Nat} {r : PT} {a : Act} {w : World} {o o' : Oper} (ho : l[i]? = some o) (ho' : l[j]? = some o') (R : Value → Value → World → Prop)
    (h1 : ∀ K : Act → World → Prop, Hid (∀ a' w', S w' → wpOp P l.toArray Q j (fun a'' w'' => S w'' ∧ ∃ v v', a'' = (a.put o.dst v).put o'.dst v' ∧ R v v' w'') a' w' → K a' w') → wpList P l.toArray (Exit.then K Q) [o] a w)
    (h2 : ∀ K : Act → World → Prop, Hid (∀ a' w', S w' → wpOp P l.toArray Q i (fun a'' w'' => S w'' ∧ ∃ v v', a'' = (a.put o.dst v).put o'.dst v' ∧ R v v' w'') a' w' → K a' w') → wpList P l.toArray (Exit.then K Q) [o'] a w)
    (h3 : ∀ v v' w', R v v' w' → wpT P l Q S r ((a.put o.dst v).put o'.dst v') w') : wpT P l Q S (.fork i j r) a w := by
  refine ⟨fun a'' w'' => ∃ v v', a'' = (a.put o.dst v).put o'.dst v' ∧ R v v' w'', ?_, ?_, ?_⟩
  · exact wpOp_of_list ho (fun e a w he h => by cases e <;> first | exact h | exact absurd rfl he) (h1 _ fun _ _ s g => ⟨s, g⟩)
  · exact wpOp_of_list ho' (fun e a w he h => by cases e <;> first | exact h | exact absurd rfl he) (h2 _ fun _ _ s g => ⟨s, g⟩)
  · rintro a'' w'' ⟨v, v', rfl, hR⟩
    exact h3 v v' w'' hR
/-- The second of a fork. -/
theorem wpOp_fork {l : List Oper} {j : Nat} {R : Act → World → Prop} {a : Act} {w : World} {o : Oper} (ho : l[j]? = some o)
    (h : ∀ K : Act → World → Prop, Hid (∀ a w, S w → R a w → K a w) → wpList P l.toArray (Exit.then K Q) [o] a w) : wpOp P l.toArray Q j (fun a w => S w ∧ R a w) a w :=
  wpOp_of_list ho (fun e a w he h => by cases e <;> first | exact h | exact absurd rfl he) (h _ fun _ _ s g => ⟨s, g⟩)
end
end Go.Proofs.Ytbcjcfjbdjdajaa
