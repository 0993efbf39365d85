/- What replay.Do does to a disk, as a function of the disk's state; laws on it. -/
import Derived.Test.YtdeeegodiacjgaaD1
namespace Go.Proofs.Ytdeeegodiacjgaa
open Go.RowKit
def wrs : Dk → List Cp → Int × Dk
  | D, [] => (0, D)
  | D, c :: cs => if dRefuse D c.1 = 0 then wrs (dPut D c.1 c.2) cs else (dRefuse D c.1, D)
theorem wrs_snoc (c : Cp) (cs : List Cp) : ∀ (D D' : Dk), wrs D cs = (0, D') → wrs D (cs ++ [c]) = if dRefuse D' c.1 = 0 then (0, dPut D' c.1 c.2) else (dRefuse D' c.1, D') := by
  induction cs with
  | nil =>
    intro D D' h
    cases h
    rfl
  | cons x cs ih =>
    intro D D' h
    unfold wrs at h
    split at h
    · rename_i h0
      rw [List.cons_append]
      unfold wrs
      rw [if_pos h0]
      exact ih _ _ h
    · rename_i h0
      exact absurd (congrArg Prod.fst h) h0
theorem wrs_stop (b : List Cp) (a : List Cp) : ∀ (D D' : Dk) (e : Int), e ≠ 0 → wrs D a = (e, D') → wrs D (a ++ b) = (e, D') := by
  induction a with
  | nil =>
    intro D D' e he h
    cases h
    exact absurd rfl he
  | cons x a ih =>
    intro D D' e he h
    unfold wrs at h
    rw [List.cons_append]
    unfold wrs
    split at h
    · rename_i h0
      rw [if_pos h0]
      exact ih _ _ _ he h
    · rename_i h0
      rw [if_neg h0]
      exact h
theorem wrs_counts (cs : List Cp) : ∀ (D D' : Dk), wrs D cs = (0, D') → D'.acts = D.acts + cs.length ∧ D'.wait.length = D.wait.length + cs.length := by
  induction cs with
  | nil =>
    intro D D' h
    cases h
    simp
  | cons x cs ih =>
    intro D D' h
    unfold wrs at h
    split at h
    · have := ih _ _ h
      have e1 : (dPut D x.1 x.2).acts = D.acts + 1 := rfl
      have e2 : (dPut D x.1 x.2).wait.length = D.wait.length + 1 := by simp [dPut]
      rw [e1, e2] at this
      rw [List.length_cons]
      omega
    · rename_i h0
      exact absurd (congrArg Prod.fst h) h0
def finD (D : Dk) (h : Blk) : Int × Dk :=
  if dRefuse D 0 = 0 then
    if dRefuse (dSync D) 2 = 0 then (dRefuse (dPut (dSync D) 2 h) 0, dFlush (dPut (dSync D) 2 h))
    else (dRefuse (dSync D) 2, dSync D)
  else (dRefuse D 0, D)
def doD (D : Dk) (g : Ge) (cs : List Cp) (next : Nat) (F : Bool) : Int × Dk :=
  if mayB g then if numB next && F then if (wrs D cs).1 = 0 then finD (wrs D cs).2 (headB next) else wrs D cs else (2, D) else (50, D)
theorem ovOut_le (l : List Tr) : (ovOut l).length ≤ cpsN l := by
  have := ovMap_len l
  simpa [ovOut, ovKeys] using this
/-- What a call made of a disk. -/
structure DS (base r gs gn : Nat) (vw : Value) (w : World) (vw' : Value) (w' : World) (D : Dk) : Prop where
  at_ : DAt w' base r gs gn vw' D
  ch : Ch (Foot r gs gn vw) w w'
  own : ∀ k, vw'.ownBlock = some k → vw.ownBlock = some k ∨ w.heap.size ≤ k
theorem DS.later {base r gs gn : Nat} {vw vw' : Value} {w w' w'' : World} {D : Dk} (h : DS base r gs gn vw w vw' w' D) (hb : Below w'.heap.size w' w'') : DS base r gs gn vw w vw' w'' D :=
  ⟨h.at_.later hb, h.ch.same (Ch.of_below hb), h.own⟩
theorem DS.trans {base r gs gn : Nat} {v0 v1 v2 : Value} {w0 w1 w2 : World} {D1 D2 : Dk} (h : DS base r gs gn v0 w0 v1 w1 D1) (k : DS base r gs gn v1 w1 v2 w2 D2) : DS base r gs gn v0 w0 v2 w2 D2 :=
  ⟨k.at_, ch_foot h.ch k.ch h.own, fun j hj => by
    rcases k.own j hj with h1 | h1
    · exact h.own j h1
    · exact .inr (Nat.le_trans h.ch.size h1)⟩
def DoPost (R : Int × Dk) (base r gs gn : Nat) (vw : Value) (w : World) (e : Ending) (w' : World) : Prop := ∃ vw', e = .returned (.int .i64 R.1) ∧ DS base r gs gn vw w vw' w' R.2
end Go.Proofs.Ytdeeegodiacjgaa
