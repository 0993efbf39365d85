/- What quernlaw19.ReplayDoes does, where it is refused, and where the acts are cut off. No condition but those written in each law. -/
import Derived.Test.YtdeeegodiacjgaaAlt
import Derived.Laws.CopyRow
import Derived.Test.YtdeeegodiacjgaaQ4
import Derived.Test.YtdeeegodiacjgaaM5
import Derived.Test.YtdeeegodiacjgaaR3
import Derived.IntWalk
namespace Go.Proofs.Ytdeeegodiacjgaa
open Go.RowKit
theorem below_ch {F : Nat → Prop} {B : Nat} {a W W' : World} (h : Below B a W) (hc : Ch F W W') (hF : ∀ k, F k → B ≤ k) (hB : B ≤ W.heap.size) : Below B a W' :=
  h.trans ⟨hc.os, hc.tape, hc.output, hc.size, fun k hk => hc.block k (by omega) (fun f => by have := hF k f; omega)⟩
theorem run_copyB {W : World} {base base' gd gs n cd cs : Nat} {l m : List Blk} (hd : W.ownsRow base 29 256 (.slice (some ⟨gd, 0, none⟩) n cd) n (flat bc l)) (hs : W.ownsRow base' 29 256 (.slice (some ⟨gs, 0, none⟩) n cs) n (flat bc m)) (ty : TypeId) :
    ∃ W', (Builtin.copy_ #[27, 27] ty #[.slice (some ⟨gd, 0, none⟩) n cd, .slice (some ⟨gs, 0, none⟩) n cs]).run Try.prog W = .ok (.int .i64 (n : Int)) W' ∧ W'.ownsRow base 29 256 (.slice (some ⟨gd, 0, none⟩) n cd) n (flat bc m) ∧ Ch (fun k => k = gd) W W' := by
  have hl1 := hs.1
  have hsrc := @World.ownsRow.cells _ _ _ _ _ _ _ hs gs rfl
  rcases hd.2 with ⟨h0, _⟩ | ⟨g', cap', cur, hv, hb, hg, h1, h2, h3, h4⟩
  · cases h0
  · cases hv
    have hle : n * 256 ≤ cd * 256 := Nat.mul_le_mul_right _ h1
    have one := flat_one bc_one m
    generalize flat bc m = xs at hl1 hsrc one ⊢
    have hl := run_loadCells_list (P := Try.prog) W ⟨gs, 0, none⟩ xs hsrc
    have hst := run_storeCells_at Try.prog gd 0 29 xs 0 cur W hg (by omega) one
    obtain ⟨i, hi, hz, _⟩ := info_parts zeroB
    have hsz : i.size = 256 := by
      obtain ⟨i', hi', hz1, hz2, hz3⟩ := info_parts zeroB
      rw [hi] at hi'
      cases hi'
      first | exact hz2 | exact hz3 | (rw [hz2]; rfl)
    have hst' : (storeCells ⟨gd, 0, none⟩ xs).run Try.prog W = .ok () (W.setRow gd (xs ++ cur.toList.drop (n * 256)).toArray) := by
      rw [hst, Nat.add_zero, List.take_zero, List.nil_append, Nat.zero_add, hl1]
    have hgo : goInt n = .int .i64 (n : Int) := rfl
    have hcl : cur.toList.length = cd * 256 := by rw [Array.length_toList]; exact h3
    refine ⟨W.setRow gd (xs ++ cur.toList.drop (n * 256)).toArray, ?_, ?_, ?_⟩
    · simp [Builtin.copy_, run_underlying Try.underlying27, Builtin.lenOf, Builtin.firstCells, sizeOf, typeInfo, hi, hsz, ← hl1, hl, hgo]
      rw [hl1, hst']
      simp
    · exact ⟨hl1, .inr ⟨gd, cd, _, rfl, hb, setRow_heap W gd cur _ 29 _ hg, h1, h2, by simp [hl1, hcl]; omega, by rw [List.toList_toArray, ← hl1, List.take_left]⟩⟩
    · exact ⟨rfl, rfl, rfl, by simp [World.setRow], fun k _ hk => setRow_other W gd k _ hk⟩
/-- 'copy(x, y)' at two slices of n blocks. -/
theorem wpl_copyB {ops : Array Oper} {rest : List Oper} {o : Oper} {a : Act} {w : World} {Q : Exit → Act → World → Prop} (hgd : o.guard = none) (d s : Operand)
    (ho : o.op = .call { callee := .builtin .copy, args := #[d, s], argTypes := #[27, 27] }) {base base' gd gs n cd cs : Nat} {l m : List Blk} (hd : a.eval d = .slice (some ⟨gd, 0, none⟩) n cd) (hs : a.eval s = .slice (some ⟨gs, 0, none⟩) n cs)
    (hD : w.ownsRow base 29 256 (.slice (some ⟨gd, 0, none⟩) n cd) n (flat bc l)) (hS : w.ownsRow base' 29 256 (.slice (some ⟨gs, 0, none⟩) n cs) n (flat bc m))
    (h : ∀ w', w'.ownsRow base 29 256 (.slice (some ⟨gd, 0, none⟩) n cd) n (flat bc m) → Ch (fun k => k = gd) w w' → wpList Try.prog ops Q rest (a.put o.dst (.int .i64 (n : Int))) w') :
    wpList Try.prog ops Q (o :: rest) a w := by
  refine wpList_plain hgd fun K hK => ?_
  obtain ⟨w', hrun, h1, h2⟩ := run_copyB hD hS o.type
  unfold Oper.wp
  simp [execOp, ho, resolve, invoke, builtin, hd, hs, hrun, Result.andThen]
  exact hK _ _ (h w' h1 h2)
end Go.Proofs.Ytdeeegodiacjgaa
namespace Go.Proofs.Ytdeeegodiacjgaa
open Go.RowKit
theorem outB_in {g : Ge} {b : Int} (h : outB g b = true) : 0 ≤ b ∧ b < gBlk g := by
  unfold outB at h
  simp only [Bool.and_eq_true, decide_eq_true_eq] at h
  exact h.1
theorem ov_in {g : Ge} {l : List Tr} (h : allOut g l = true) {c : Cp} (hc : c ∈ ovOut l) : 0 ≤ c.1 ∧ c.1 < gBlk g := by
  have h1 := mem_ovOut.1 hc
  cases hn : l.any (nm c.1) with
  | false => rw [look_none hn] at h1; cases h1
  | true =>
    obtain ⟨t, ht, hb⟩ := List.any_eq_true.1 hn
    have h2 := List.all_eq_true.1 (show l.all (outT g) = true from h) t ht
    unfold outT at h2
    rw [Bool.and_eq_true] at h2
    have h3 := List.all_eq_true.1 h2.1
    have h4 := List.all_eq_true.1 h2.2
    unfold nm at hb
    rw [Bool.or_eq_true] at hb
    rcases hb with hb | hb
    · have hb' : c.1 ∈ t.2.2 := by simpa using hb
      exact outB_in (h4 _ hb')
    · obtain ⟨d, hd, he⟩ := List.any_eq_true.1 hb
      have he' : d.1 = c.1 := by simpa using he
      rw [← he']
      exact outB_in (h3 d hd)
theorem mayR_ok {n : Nat} {g : Ge} {l : List Tr} {next : Nat} (h : mayR n g l next = 0) : mayB g = true ∧ (n : Int) = gBlk g ∧ numB next = true ∧ allOut g l = true := by
  unfold mayR at h
  split at h
  · rename_i hm
    split at h
    · rename_i h1
      simp only [Bool.and_eq_true, decide_eq_true_eq] at h1
      exact ⟨hm, h1.1.1, h1.1.2, h1.2⟩
    · cases h
  · cases h
theorem mayR_cases (n : Nat) (g : Ge) (l : List Tr) (next : Nat) : mayR n g l next = 0 ∨ mayR n g l next = 2 ∨ mayR n g l next = 50 := by
  unfold mayR
  split
  · split <;> omega
  · omega
theorem do_refused {n : Nat} {g : Ge} {l : List Tr} {next : Nat} {D : Dk} (hD : D.safe.length = n) (h : mayR n g l next ≠ 0) : doD D g (ovOut l) next (fitsB D g l) = (mayR n g l next, D) := by
  unfold mayR at h ⊢
  unfold doD fitsB
  rw [hD]
  cases hm : mayB g with
  | false => rfl
  | true =>
    rw [hm] at h
    cases h1 : decide ((n : Int) = gBlk g) <;> cases h2 : numB next <;> cases h3 : allOut g l <;> first | rfl | (rw [h1, h2, h3] at h; exact absurd rfl h)
theorem do_done {n : Nat} {g : Ge} {l : List Tr} {next : Nat} {D : Dk} (hD : D.safe.length = n) (h : mayR n g l next = 0) : doD D g (ovOut l) next (fitsB D g l) = if (wrs D (ovOut l)).1 = 0 then finD (wrs D (ovOut l)).2 (headB next) else wrs D (ovOut l) := by
  obtain ⟨h1, h2, h3, h4⟩ := mayR_ok h
  unfold doD fitsB
  rw [hD, h1, h3, h4, ← h2]
  simp
def lessL (L : Int) (k : Nat) : Int := if L = -1 then -1 else L - k
def wrD (D : Dk) (C : List Cp) : Dk := { safe := D.safe, now := overL D.now C, wait := D.wait ++ C, acts := D.acts + (C.length : Nat), left := lessL D.left C.length }
theorem wrs_run (C : List Cp) : ∀ D : Dk, (∀ c ∈ C, 0 ≤ c.1 ∧ c.1 < D.safe.length) → D.now.length = D.safe.length → (D.left = -1 ∨ (C.length : Int) ≤ D.left) → wrs D C = (0, wrD D C) := by
  induction C with
  | nil =>
    intro D _ _ h
    obtain ⟨s, nw, wt, ac, lf⟩ := D
    unfold wrs wrD lessL overL
    simp only [List.foldl_nil, List.append_nil, List.length_nil, Int.natCast_zero, Int.add_zero, Int.sub_zero]
    congr 2
    split
    · rename_i h1; exact h1
    · rfl
  | cons c C ih =>
    intro D hr hn hl
    obtain ⟨h0, h1⟩ := hr c (by simp)
    have hre : dRefuse D c.1 = 0 := by
      unfold dRefuse
      rw [List.length_cons] at hl; rw [if_neg (by rcases hl with h | h <;> (try push_cast at h) <;> omega), if_neg (by omega)]
    unfold wrs
    rw [if_pos hre]
    have hL : (dPut D c.1 c.2).left = lessL D.left 1 := by
      show (if 0 < D.left then D.left - 1 else D.left) = _
      unfold lessL
      rcases hl with h | h
      · rw [h]; rfl
      · simp at h
        rw [if_pos (by omega), if_neg (by omega)]
        rfl
    rw [ih (dPut D c.1 c.2) (fun d hd => hr d (by simp [hd])) (by simp [dPut, dAct, hn]) (by
      rw [hL]
      unfold lessL
      rcases hl with h | h
      · left; rw [if_pos h]
      · right; simp at h; rw [if_neg (by omega)]; omega)]
    unfold wrD
    rw [hL]
    congr 2
    · show overL (D.now.set c.1.toNat c.2) C = overL (ovPut D.now c) C
      unfold ovPut
      rw [if_pos (by omega)]
    · show (D.wait ++ [(c.1, c.2)]) ++ C = _
      simp
    · show D.acts + 1 + (C.length : Int) = D.acts + ((C.length + 1 : Nat) : Int)
      push_cast; omega
    · unfold lessL
      rw [List.length_cons]
      rcases hl with h | h
      · rw [if_pos h, if_pos rfl, if_pos h]
      · simp at h
        rw [if_neg (by omega), if_neg (by omega), if_neg (by omega)]
        push_cast; omega
theorem wrs_short (C : List Cp) (D : Dk) (k : Nat) (hr : ∀ c ∈ C, 0 ≤ c.1 ∧ c.1 < D.safe.length) (hn : D.now.length = D.safe.length) (hk : D.left = k) (hC : k < C.length) : wrs D C = (30, wrD D (C.take k)) := by
  have hlen : (C.take k).length = k := by rw [List.length_take]; omega
  have h1 := wrs_run (C.take k) D (fun c hc => hr c (List.mem_of_mem_take hc)) hn (.inr (by rw [hlen, hk]; omega))
  have h0 : (wrD D (C.take k)).left = 0 := by
    show lessL D.left (C.take k).length = 0
    unfold lessL
    rw [hlen, hk, if_neg (by omega)]
    omega
  obtain ⟨c, r, hd⟩ : ∃ c r, C.drop k = c :: r := by
    cases h : C.drop k with
    | nil => have := congrArg List.length h; simp at this; omega
    | cons c r => exact ⟨c, r, rfl⟩
  have h2 := wrs_snoc c (C.take k) D _ h1
  have hre : dRefuse (wrD D (C.take k)) c.1 = 30 := by unfold dRefuse; rw [if_pos h0]
  rw [hre, if_neg (by decide)] at h2
  have h3 := wrs_stop r (C.take k ++ [c]) D _ 30 (by decide) h2
  rw [List.append_assoc, List.singleton_append, ← hd, List.take_append_drop] at h3
  exact h3
/-- How many acts are done. -/
def actsP (p : Int) (m : Nat) : Nat := if 0 ≤ p ∧ p < (m + 3 : Nat) then p.toNat else m + 3
structure DoesP (n : Nat) (C : List Cp) (h : Blk) (a : Nat) (R : Int × Dk) : Prop where
  err : R.1 = if a = C.length + 3 then 0 else 30
  acts : R.2.acts = a
  now : R.2.now = if C.length + 1 < a then (overL (zeros n) C).set 2 h else overL (zeros n) (C.take a)
  safe : R.2.safe = if C.length + 2 < a then (overL (zeros n) C).set 2 h else if C.length < a then overL (zeros n) C else zeros n
  le : a ≤ C.length + 3
theorem zeros_len (n : Nat) : (zeros n).length = n := List.length_replicate
theorem fin_plain (n : Nat) (hn : 3 ≤ n) (C : List Cp) (h : Blk) (p : Int) (hp : max p (-1) = -1 ∨ (C.length : Int) ≤ max p (-1)) :
    DoesP n C h (actsP p C.length) (finD (wrD (dPower (newD (zeros n)) p) C) h) := by
  have hz := zeros_len n
  have hol : (overL (zeros n) C).length = n := by rw [overL_len, hz]
  obtain ⟨D, hD⟩ : ∃ D, wrD (dPower (newD (zeros n)) p) C = D := ⟨_, rfl⟩
  have s0 : D.safe = zeros n := by rw [← hD]; rfl
  have n0 : D.now = overL (zeros n) C := by rw [← hD]; rfl
  have w0 : D.wait = C := by rw [← hD]; rfl
  have a0 : D.acts = (C.length : Nat) := by rw [← hD]; show (0 : Int) + (C.length : Nat) = _; omega
  have l0 : D.left = lessL (max p (-1)) C.length := by rw [← hD]; rfl
  rw [hD]
  clear hD
  obtain ⟨m, hm⟩ : ∃ m, C.length = m := ⟨_, rfl⟩
  rw [hm] at hp a0 l0 ⊢
  have len0 : D.safe.length = n := by rw [s0, hz]
  -- behind the first flush
  have s1 : (dSync D).safe = overL (zeros n) C := by show overL D.safe D.wait = _; rw [s0, w0]
  have n1 : (dSync D).now = overL (zeros n) C := n0
  have w1 : (dSync D).wait = [] := rfl
  have a1 : (dSync D).acts = (m : Int) + 1 := by show D.acts + 1 = _; rw [a0]
  have l1 : (dSync D).left = if 0 < D.left then D.left - 1 else D.left := rfl
  have len1 : (dSync D).safe.length = n := by rw [s1, hol]
  -- behind the head
  obtain ⟨E, hE⟩ : ∃ E, dPut (dSync D) 2 h = E := ⟨_, rfl⟩
  have s2 : E.safe = overL (zeros n) C := by rw [← hE]; exact s1
  have n2 : E.now = (overL (zeros n) C).set 2 h := by rw [← hE]; show (dSync D).now.set (2 : Int).toNat h = _; rw [n1]; rfl
  have w2 : E.wait = [(2, h)] := by rw [← hE]; rfl
  have a2 : E.acts = (m : Int) + 2 := by rw [← hE]; show (dSync D).acts + 1 = _; rw [a1]; omega
  have l2 : E.left = if 0 < (dSync D).left then (dSync D).left - 1 else (dSync D).left := by rw [← hE]; rfl
  have len2 : E.safe.length = n := by rw [s2, hol]
  -- behind the second flush
  have s3 : (dSync E).safe = (overL (zeros n) C).set 2 h := by
    show overL E.safe E.wait = _
    rw [s2, w2]
    show ovPut (overL (zeros n) C) (2, h) = _
    unfold ovPut
    rw [if_pos ⟨by simp, by rw [hol]; simp; omega⟩]
    rfl
  have n3 : (dSync E).now = (overL (zeros n) C).set 2 h := n2
  have a3 : (dSync E).acts = (m : Int) + 3 := by show E.acts + 1 = _; rw [a2]; omega
  have r0 : D.left ≠ 0 → dRefuse D 0 = 0 := fun hx => by unfold dRefuse; rw [if_neg hx, if_neg (by rw [len0]; omega)]
  have r0' : D.left = 0 → dRefuse D 0 = 30 := fun hx => by unfold dRefuse; rw [if_pos hx]
  have r1 : (dSync D).left ≠ 0 → dRefuse (dSync D) 2 = 0 := fun hx => by unfold dRefuse; rw [if_neg hx, if_neg (by rw [len1]; omega)]
  have r1' : (dSync D).left = 0 → dRefuse (dSync D) 2 = 30 := fun hx => by unfold dRefuse; rw [if_pos hx]
  have r2 : E.left ≠ 0 → dRefuse E 0 = 0 := fun hx => by unfold dRefuse; rw [if_neg hx, if_neg (by rw [len2]; omega)]
  have r2' : E.left = 0 → dRefuse E 0 = 30 := fun hx => by unfold dRefuse; rw [if_pos hx]
  have tk : ∀ k, m ≤ k → C.take k = C := fun k hk => List.take_of_length_le (by omega)
  unfold lessL at l0
  obtain ⟨L, hLe⟩ : ∃ L, max p (-1) = L := ⟨_, rfl⟩
  rw [hLe] at l0 hp
  have eD : D.left = L - m ∨ (L = -1 ∧ D.left = -1) := by rw [l0]; split <;> omega
  have eS : (0 < D.left ∧ (dSync D).left = D.left - 1) ∨ (¬ 0 < D.left ∧ (dSync D).left = D.left) := by rw [l1]; split <;> omega
  have eE : (0 < (dSync D).left ∧ E.left = (dSync D).left - 1) ∨ (¬ 0 < (dSync D).left ∧ E.left = (dSync D).left) := by rw [l2]; split <;> omega
  clear l0 l1 l2
  have hact : ∀ k : Nat, L = k → k < m + 3 → actsP p m = k := fun k h1 h2 => by unfold actsP; rw [if_pos (by omega)]; omega
  by_cases hM : L = m
  · have hl : D.left = 0 := by omega
    have hR : finD D h = (30, D) := by unfold finD; rw [r0' hl, if_neg (by decide)]
    rw [hR, hact m hM (by omega)]
    exact ⟨by rw [hm, if_neg (by omega)], a0, by rw [hm, if_neg (by omega), tk m (by omega)]; exact n0, by rw [hm, if_neg (by omega), if_neg (by omega)]; exact s0, by omega⟩
  · have hl : D.left ≠ 0 := by omega
    by_cases hM1 : L = m + 1
    · have hl1 : (dSync D).left = 0 := by omega
      have hR : finD D h = (30, dSync D) := by unfold finD; rw [if_pos (r0 hl), r1' hl1, if_neg (by decide)]
      rw [hR, hact (m + 1) (by omega) (by omega)]
      exact ⟨by rw [hm, if_neg (by omega)], by rw [a1]; push_cast; rfl, by rw [hm, if_neg (by omega), tk _ (by omega)]; exact n1, by rw [hm, if_neg (by omega), if_pos (by omega)]; exact s1, by omega⟩
    · have hl1 : (dSync D).left ≠ 0 := by omega
      by_cases hM2 : L = m + 2
      · have hl2 : E.left = 0 := by omega
        have hR : finD D h = (30, E) := by unfold finD; rw [if_pos (r0 hl), if_pos (r1 hl1), hE, r2' hl2]; unfold dFlush; rw [r2' hl2, if_neg (by decide)]
        rw [hR, hact (m + 2) (by omega) (by omega)]
        exact ⟨by rw [hm, if_neg (by omega)], by rw [a2]; push_cast; rfl, by rw [hm, if_pos (by omega)]; exact n2, by rw [hm, if_neg (by omega), if_pos (by omega)]; exact s2, by omega⟩
      · have hl2 : E.left ≠ 0 := by omega
        have hR : finD D h = (0, dSync E) := by unfold finD; rw [if_pos (r0 hl), if_pos (r1 hl1), hE, r2 hl2]; unfold dFlush; rw [r2 hl2, if_pos rfl]
        have ha : actsP p m = m + 3 := by unfold actsP; rw [if_neg (by omega)]
        rw [hR, ha]
        exact ⟨by rw [hm, if_pos rfl], by rw [a3]; push_cast; rfl, by rw [hm, if_pos (by omega)]; exact n3, by rw [hm, if_pos (by omega)]; exact s3, by omega⟩
theorem does_plain {n : Nat} {g : Ge} {l : List Tr} {next : Nat} (p : Int) (h : mayR n g l next = 0) : 3 ≤ n ∧
    DoesP n (ovOut l) (headB next) (actsP p (ovOut l).length) (doD (dPower (newD (zeros n)) p) g (ovOut l) next (fitsB (dPower (newD (zeros n)) p) g l)) := by
  have hlen : (dPower (newD (zeros n)) p).safe.length = n := zeros_len n
  rw [do_done hlen h]
  obtain ⟨h1, h2, h3, h4⟩ := mayR_ok h
  have hn : 3 ≤ n := by
    obtain ⟨m1, m2, m3, m4, m5, m6, m7⟩ := mayB_true h1
    have : gBlk g = geAll g := by unfold gBlk; rw [h1]; rfl
    rw [this] at h2
    unfold geAll at h2
    have := Int.mul_nonneg (show 0 ≤ g.groups by omega) (show 0 ≤ g.size by omega)
    omega
  refine ⟨hn, ?_⟩
  have hr : ∀ c ∈ ovOut l, 0 ≤ c.1 ∧ c.1 < (dPower (newD (zeros n)) p).safe.length := fun c hc => by rw [hlen, h2]; exact ov_in h4 hc
  have hnow : (dPower (newD (zeros n)) p).now.length = (dPower (newD (zeros n)) p).safe.length := rfl
  generalize ovOut l = C at hr ⊢
  have hleft : (dPower (newD (zeros n)) p).left = max p (-1) := rfl
  by_cases hp : max p (-1) = -1 ∨ (C.length : Int) ≤ max p (-1)
  · rw [wrs_run C _ hr hnow (by rw [hleft]; exact hp), if_pos rfl]
    exact fin_plain n hn C (headB next) p hp
  · have hk : max p (-1) = (p.toNat : Int) := by omega
    rw [wrs_short C _ p.toNat hr hnow (by rw [hleft]; exact hk) (by omega), if_neg (show ¬ (30 : Int) = 0 by decide)]
    have ea : actsP p C.length = p.toNat := by unfold actsP; rw [if_pos (by omega)]
    rw [ea]
    have hl : (C.take p.toNat).length = p.toNat := by rw [List.length_take]; omega
    exact ⟨by rw [if_neg (by omega)], by show (0 : Int) + ((C.take p.toNat).length : Nat) = _; rw [hl]; omega, by rw [if_neg (by omega)]; rfl, by rw [if_neg (by omega), if_neg (by omega)]; rfl, by omega⟩
end Go.Proofs.Ytdeeegodiacjgaa
namespace Go.Proofs.Ytdeeegodiacjgaa
open Go.RowKit
attribute [local go_sem ↓] loadAtB storeAtB loadAtC storeAtC loadAtG
theorem SI.ch {w : World} {v : Value} {vs : List Tv} {l : List Tr} {W W' : World} {F : Nat → Prop} (h : SI w v vs l W) (hc : Ch F W W') (hF : ∀ k, F k → k < w.heap.size) : Trs W' v l :=
  ⟨vs, h.len, Sl.own (own_ch h.own hc fun k hk f => by have := (h.own.lt k hk).1; have := hF k f; omega), fun i x t hx ht =>
    ⟨(h.each i x t hx ht).seq, Sl.own (own_ch (h.each i x t hx ht).cps hc fun k hk f => by have := ((h.each i x t hx ht).cps.lt k hk).1; have := hF k f; omega),
      Sl.own (own_ch (h.each i x t hx ht).rvs hc fun k hk f => by have := ((h.each i x t hx ht).rvs.lt k hk).1; have := hF k f; omega)⟩⟩
theorem short_si (l : List Lt) (hl : l.length ≤ 60) (hs : szs l ≤ 1000) (hok : OkLt l) (v : Value) (w : World) (h : Lts w v l) :
    Calls Try.prog 11 #[v] w (fun e w' => ∃ a c vs, e = .returned (.slice a (shortL l).length c) ∧ SI w (.slice a (shortL l).length c) vs (shortL l) w') := by
  refine (short_any l hl hs hok _ w h).mono ?_
  rintro e w' ⟨v5, vs5, rfl, hs5⟩
  obtain ⟨a, c, hsh⟩ := own_shape hs5.own
  rw [hs5.len] at hsh
  subst hsh
  exact ⟨a, c, vs5, rfl, hs5⟩
set_option maxRecDepth 100000 in
set_option maxHeartbeats 2000000 in
theorem does_out (g : Ge) (bs : Int) (l : List Lt) (next : Nat) (p : Int) (hx : tooMany l 1000 = true ∨ bs < 1 ∨ 2048 < bs) (v : Value) (w : World) (h : Lts w v l) :
    Calls Try.prog 9 #[.agg (ga g), .int .i64 bs, v, .int .u32 (next : Int), .int .i64 p] w (GPost (.bool true) w) := by
  have H := Lib.hid (h.later ((Below.refl _ _).alloc (Nat.le_refl _) (.cells (ga g) 43)))
  have B0 : Hid (Below w.heap.size w (w.alloc (.cells (ga g) 43))) := (Below.refl _ _).alloc (Nat.le_refl _) _
  have hmany := Lib.hid (many19 l v)
  clear h
  by_cases hm : tooMany l 1000 = true
  · clear hx
    go_enter Try.func9, Try.ntmps9
    go_wp2_with (go_at_call 10; refine (hmany.out _ H.out).mono ?_; rintro e w1 ⟨rfl, hw⟩; have HW2 := Lib.hid hw; clear hw; rw [hm])
    go_ret
    exact ⟨rfl, B0.out.trans (HW2.out.mono B0.out.size)⟩
  · have hm' : tooMany l 1000 = false := by simpa using hm
    have hx' : bs < 1 ∨ 2048 < bs := hx.resolve_left hm
    clear hm hx
    cases d1 : decide (bs < 1) with
    | true =>
      go_enter Try.func9, Try.ntmps9
      go_wp2_with (go_at_call 10; refine (hmany.out _ H.out).mono ?_; rintro e w1 ⟨rfl, hw⟩; have HW2 := Lib.hid hw; clear hw; rw [hm'])
      go_ret
      exact ⟨rfl, B0.out.trans (HW2.out.mono B0.out.size)⟩
    | false =>
      have d2 : decide (2048 < bs) = true := by simp at d1 ⊢; omega
      clear hx'
      go_enter Try.func9, Try.ntmps9
      go_wp2_with (go_at_call 10; refine (hmany.out _ H.out).mono ?_; rintro e w1 ⟨rfl, hw⟩; have HW2 := Lib.hid hw; clear hw; rw [hm'])
      go_ret
      exact ⟨rfl, B0.out.trans (HW2.out.mono B0.out.size)⟩
set_option maxRecDepth 100000 in
set_option maxHeartbeats 2000000 in
theorem does_refused (g : Ge) (n : Nat) (h1 : 1 ≤ n) (h2 : n ≤ 2048) (l : List Lt) (next : Nat) (hnx : next < 4294967296) (p : Int) (hp : p < 9223372036854775808) (hok : OkLt l) (hl60 : l.length ≤ 60) (hsz : szs l ≤ 1000) (hm' : tooMany l 1000 = false)
    (hM : mayR n g (shortL l) next ≠ 0) (v : Value) (w : World) (h : Lts w v l) :
    Calls Try.prog 9 #[.agg (ga g), .int .i64 (n : Int), v, .int .u32 (next : Int), .int .i64 p] w (GPost (.bool true) w) := by
  have H := Lib.hid (h.later ((Below.refl _ _).alloc (Nat.le_refl _) (.cells (ga g) 43)))
  have B0 : Hid (Below w.heap.size w (w.alloc (.cells (ga g) 43))) := (Below.refl _ _).alloc (Nat.le_refl _) _
  have G0 := Lib.hid (Whole.new w (ga g) 43)
  have hmany := Lib.hid (many19 l v)
  have hshort := Lib.hid (short_si l hl60 hsz hok v)
  have hnew := Lib.hid (new_any n h1 h2)
  have hcn : cpsN (shortL l) ≤ 1000 := by have := cpsN_short l; omega
  have d1 : decide ((n : Int) < 1) = false := by simp; omega
  have d2 : decide (2048 < (n : Int)) = false := by simp; omega
  clear h hok
  generalize shortL l = T at hshort hcn hM
  have hmr := Lib.hid (rmay19_any n h1 g T next)
  have hdo : Hid (doD (dPower (newD (zeros n)) p) g (ovOut T) next (fitsB (dPower (newD (zeros n)) p) g T) = (mayR n g T next, dPower (newD (zeros n)) p)) := do_refused (zeros_len n) hM
  obtain ⟨M, hMe⟩ : ∃ M, mayR n g T next = M := ⟨_, rfl⟩
  rw [hMe] at hmr hdo hM
  have hM0 : (M == 0) = false := by simpa using hM
  have hdoes : Hid (∀ (base r gs gn : Nat) (u : Value) (w : World), DAt w base r gs gn (.slice none 0 0) (dPower (newD (zeros n)) p) → Trs w u T → Calls Try.prog 20 #[.pointer (some ⟨r, 0, none⟩), .agg (ga g), u, .int .u32 (next : Int)] w (DoPost (M, dPower (newD (zeros n)) p) base r gs gn (.slice none 0 0) w)) := fun base r gs gn u w hd ht => by
    have := do_any (dPower (newD (zeros n)) p) g T next (fitsB (dPower (newD (zeros n)) p) g T) (by omega) (by simp [dPower, newD]) (by simp [dPower, newD]) base r gs gn (.slice none 0 0) u w hd ht (fun w1 hb => fits_all g T u (hd.later hb) (ht.later hb))
    rw [hdo.out] at this
    exact this
  have ha0 : (dPower (newD (zeros n)) p).acts = 0 := rfl
  have hpow : Hid (∀ {W : World} {base r gs gn : Nat}, DAt W base r gs gn (.slice none 0 0) (newD (zeros n)) → Calls Try.prog 26 #[.pointer (some ⟨r, 0, none⟩), .int .i64 p] W (fun e w' => e = .returned (.tuple #[]) ∧ DAt w' base r gs gn (.slice none 0 0) (dPower (newD (zeros n)) p) ∧ Ch (fun k => k = r) W w')) := fun {W base r gs gn} hd => power_at p hp hd
  generalize dPower (newD (zeros n)) p = DP at hdo hdoes ha0 hpow
  clear hdo hMe
  go_enter Try.func9, Try.ntmps9
  go_wp2_with (first
    | (go_at_call 10; refine (hmany.out _ H.out).mono ?_; rintro e w1 ⟨rfl, hb⟩; have B1 := Lib.hid hb; clear hb; rw [hm'])
    | (go_at_call 25; refine (hnew.out w1).mono ?_; rintro e w2 ⟨r, gs, gn, rfl, hd, hb⟩; have D2 := Lib.hid hd; have B2 := Lib.hid (B1.out.trans (hb.mono B1.out.size)); clear hd hb)
    | (go_at_call 26; go_loud (refine (hpow.out D2.out).mono ?_; rintro e w3 ⟨rfl, hd, hc⟩; have D3 := Lib.hid hd; have B3 := Lib.hid (below_ch B2.out hc (fun k e => by subst e; exact Nat.le_trans B1.out.size D2.out.base) B2.out.size)); clear hd hc)
    | (go_at_call 11; refine (hshort.out w3 (H.out.later B3.out)).mono ?_; rintro e w4 ⟨a4, c4, vs4, rfl, hs⟩; have S4 := Lib.hid hs; have D4 := Lib.hid (D3.out.later hs.bel); have B4 := Lib.hid (B3.out.trans (hs.bel.mono B3.out.size)); have q4 := ldG (G0.out.later B4.out); clear hs)
    | (go_at_call 20; refine (hdoes.out _ r gs gn _ w4 D4.out S4.out.trs).mono ?_; rintro e w5 ⟨vw', rfl, ds⟩; have D5 := Lib.hid ds.at_; have T5 := Lib.hid (S4.out.ch ds.ch (fun k f => (D3.out.lt k f).2)); have B5 := Lib.hid (below_ch B4.out ds.ch (fun k f => Nat.le_trans B1.out.size (D3.out.lt k f).1) B4.out.size); have q5 := ldG (G0.out.later B5.out); clear ds)
    | (go_at_call 27; refine (hmr.out _ w5 T5.out).mono ?_; rintro e w6 ⟨rfl, hb⟩; have D6 := Lib.hid (D5.out.later hb); have B6 := Lib.hid (B5.out.trans (hb.mono B5.out.size)); clear hb)
    | (go_at_call 28; refine (acts_at D6.out).mono ?_; rintro e w7 ⟨rfl, rfl⟩; rw [ha0]))
  go_ret
  exact ⟨rfl, B0.out.trans (B6.out.mono B0.out.size)⟩
end Go.Proofs.Ytdeeegodiacjgaa
namespace Go.Proofs.Ytdeeegodiacjgaa
open Go.RowKit
structure NI (w8 : World) (gs gn n : Nat) (safe now : List Blk) (W : World) : Prop where
  bel : Below w8.heap.size w8 W
  ls : safe.length = n
  ln : now.length = n
  os : W.ownsRow w8.heap.size 29 256 (.slice (some ⟨gs, 0, none⟩) n n) n (flat bc safe)
  on : W.ownsRow w8.heap.size 29 256 (.slice (some ⟨gn, 0, none⟩) n n) n (flat bc now)
  ne : gs ≠ gn
theorem NI.later {w8 : World} {gs gn n : Nat} {safe now : List Blk} {W W' : World} (h : NI w8 gs gn n safe now W) (hb : Below W.heap.size W W') : NI w8 gs gn n safe now W' :=
  ⟨h.bel.trans (hb.mono h.bel.size), h.ls, h.ln, own_later h.os hb, own_later h.on hb, h.ne⟩
theorem NI.put {w8 : World} {gs gn n : Nat} {safe now : List Blk} {W : World} (h : NI w8 gs gn n safe now W) (q : Nat) (hq : q < n) (x : Blk) : NI w8 gs gn n safe (now.set q x) (W.setCells gn (q * 256) (bc x)) := by
  have hg := (h.on.lt gn rfl).1
  have hc : Ch (fun k => k = gn) W (W.setCells gn (q * 256) (bc x)) := Ch.cells rfl
  exact ⟨h.bel.grown (grownBy_setCells _ _ _ _) h.bel.size (fun k hk => by cases hk; exact hg), h.ls, by rw [List.length_set]; exact h.ln, own_ch h.os hc (fun k hk => by cases hk; exact h.ne), own_set bc_len h.on h.ln q hq x, h.ne⟩
theorem NI.copied {w8 : World} {gs gn n : Nat} {safe now : List Blk} {W W' : World} (h : NI w8 gs gn n safe now W) (ho : W'.ownsRow w8.heap.size 29 256 (.slice (some ⟨gs, 0, none⟩) n n) n (flat bc now)) (hc : Ch (fun k => k = gs) W W') : NI w8 gs gn n now now W' := by
  have hg := (h.os.lt gs rfl).1
  exact ⟨h.bel.trans (hc.below (fun k e => by subst e; exact hg) h.bel.size), h.ln, h.ln, ho, own_ch h.on hc (fun k hk => by cases hk; exact fun e => h.ne e.symm), h.ne⟩
theorem NI.bksN {w8 : World} {gs gn n : Nat} {safe now : List Blk} {W : World} (h : NI w8 gs gn n safe now W) : Bks W (.slice (some ⟨gn, 0, none⟩) n n) now := by
  unfold Bks
  rw [h.ln]
  exact Sl.own h.on
theorem NI.bksS {w8 : World} {gs gn n : Nat} {safe now : List Blk} {W : World} (h : NI w8 gs gn n safe now W) : Bks W (.slice (some ⟨gs, 0, none⟩) n n) safe := by
  unfold Bks
  rw [h.ls]
  exact Sl.own h.os
theorem over_step {o : List Blk} {C : List Cp} {i : Nat} {q : Nat} {d : Blk} (hcx : C[i]? = some ((q : Int), d)) (hq : q < o.length) : overL o (C.take (i + 1)) = (overL o (C.take i)).set q d := by
  rw [List.take_add_one, hcx]
  show overL o (C.take i ++ [((q : Int), d)]) = _
  rw [overL_snoc]
  unfold ovPut
  rw [if_pos ⟨by simp, by rw [overL_len]; simpa using hq⟩]
  rfl
theorem actsP_cases {p : Int} {m a : Nat} (h : actsP p m = a) : (p = a ∧ a ≤ m) ∨ (p = a ∧ a = m + 1) ∨ (p = a ∧ a = m + 2) ∨ (p < 0 ∧ a = m + 3) ∨ ((m : Int) + 3 ≤ p ∧ a = m + 3) := by
  unfold actsP at h
  split at h <;> omega
end Go.Proofs.Ytdeeegodiacjgaa
namespace Go.Proofs.Ytdeeegodiacjgaa
open Go.RowKit
attribute [local go_sem ↓] loadAtB storeAtB loadAtC storeAtC loadAtG
set_option maxRecDepth 100000 in
set_option maxHeartbeats 4000000 in
theorem does_1 (g : Ge) (n : Nat) (h1 : 1 ≤ n) (h2 : n ≤ 2048) (l : List Lt) (next : Nat) (hnx : next < 4294967296) (p : Int) (hp : p < 9223372036854775808) (hok : OkLt l) (hl60 : l.length ≤ 60) (hsz : szs l ≤ 1000) (hm' : tooMany l 1000 = false)
    (hM : mayR n g (shortL l) next = 0) (a : Nat) (ha : actsP p (ovOut (shortL l)).length = a) (hc : p = a ∧ a ≤ (ovOut (shortL l)).length) (v : Value) (w : World) (h : Lts w v l) :
    Calls Try.prog 9 #[.agg (ga g), .int .i64 (n : Int), v, .int .u32 (next : Int), .int .i64 p] w (GPost (.bool true) w) := by
  have H := Lib.hid (h.later ((Below.refl _ _).alloc (Nat.le_refl _) (.cells (ga g) 43)))
  have B0 : Hid (Below w.heap.size w (w.alloc (.cells (ga g) 43))) := (Below.refl _ _).alloc (Nat.le_refl _) _
  have G0 := Lib.hid (Whole.new w (ga g) 43)
  have hmany := Lib.hid (many19 l v)
  have hshort := Lib.hid (short_si l hl60 hsz hok v)
  have hnew := Lib.hid (new_any n h1 h2)
  have hcn : cpsN (shortL l) ≤ 1000 := by have := cpsN_short l; omega
  have d1 : decide ((n : Int) < 1) = false := by simp; omega
  have d2 : decide (2048 < (n : Int)) = false := by simp; omega
  have hpl := does_plain p hM
  rw [ha] at hpl
  obtain ⟨hn3, hP⟩ := hpl
  have hrng : Hid (∀ c ∈ ovOut (shortL l), 0 ≤ c.1 ∧ c.1 < (n : Int)) := fun c hc => by obtain ⟨m1, m2, m3, m4⟩ := mayR_ok hM; rw [m2]; exact ov_in m4 hc
  have hCl : (ovOut (shortL l)).length ≤ 1000 := Nat.le_trans (ovOut_le _) hcn
  clear h hok ha
  generalize shortL l = T at hshort hcn hM hP hrng hCl hc
  have hmr := Lib.hid (rmay19_any n h1 g T next)
  rw [hM] at hmr
  have hwr : Hid (∀ (v : Value) (w : World), Trs w v T → Calls Try.prog 29 #[v, .int .u32 (next : Int)] w (WrPost (ovOut T) next w)) := fun v w h => writes_any T next hnx (by omega) v w h
  obtain ⟨⟨f, D9⟩, hR⟩ : ∃ R, doD (dPower (newD (zeros n)) p) g (ovOut T) next (fitsB (dPower (newD (zeros n)) p) g T) = R := ⟨_, rfl⟩
  have hdoes : Hid (∀ (base r gs gn : Nat) (u : Value) (w : World), DAt w base r gs gn (.slice none 0 0) (dPower (newD (zeros n)) p) → Trs w u T → Calls Try.prog 20 #[.pointer (some ⟨r, 0, none⟩), .agg (ga g), u, .int .u32 (next : Int)] w (DoPost (f, D9) base r gs gn (.slice none 0 0) w)) := fun base r gs gn u w hd ht => by
    have := do_any (dPower (newD (zeros n)) p) g T next (fitsB (dPower (newD (zeros n)) p) g T) (by omega) (by simp [dPower, newD]) (by simp [dPower, newD]) base r gs gn (.slice none 0 0) u w hd ht (fun w1 hb => fits_all g T u (hd.later hb) (ht.later hb))
    rw [hR] at this
    exact this
  rw [hR] at hP
  clear hR
  have hpow : Hid (∀ {W : World} {base r gs gn : Nat}, DAt W base r gs gn (.slice none 0 0) (newD (zeros n)) → Calls Try.prog 26 #[.pointer (some ⟨r, 0, none⟩), .int .i64 p] W (fun e w' => e = .returned (.tuple #[]) ∧ DAt w' base r gs gn (.slice none 0 0) (dPower (newD (zeros n)) p) ∧ Ch (fun k => k = r) W w')) := fun {W base r gs gn} hd => power_at p hp hd
  generalize dPower (newD (zeros n)) p = DP at hdoes hpow
  generalize ovOut T = C at hP hrng hCl hwr hc
  obtain ⟨hB, hBe⟩ : ∃ hB, Hid (headB next = hB) := ⟨_, rfl⟩
  obtain ⟨L, hLe⟩ : ∃ L, Hid (C.length = L) := ⟨_, rfl⟩
  obtain ⟨m, hme⟩ : ∃ m, Hid (C.length + 1 = m) := ⟨_, rfl⟩
  have hmL : Hid (m = L + 1) := by unfold Hid; rw [← hLe.out, ← hme.out]
  have wA : IntKind.i64.wrap ((m : Int) + 2) = (m : Int) + 2 := IntWalk.i64_in _ (by have := hme.out; omega)
  have wL : IntKind.i64.wrap ((m : Int) - 1) = (L : Int) := by rw [IntWalk.i64_in _ (by have := hme.out; omega)]; have := hmL.out; omega
  have wL1 : IntKind.i64.wrap ((L : Int) + 1) = (L : Int) + 1 := IntWalk.i64_in _ (by have := hLe.out; omega)
  have wL2 : IntKind.i64.wrap ((L : Int) + 2) = (L : Int) + 2 := IntWalk.i64_in _ (by have := hLe.out; omega)
  unfold WrPost at hwr
  rw [hme.out] at hwr
  rw [hLe.out] at hc hCl
  rw [hBe.out] at hP hwr
  have hz0 : (zeros n).length = n := zeros_len n
  obtain ⟨hpa, haL⟩ := hc
  replace haL := Lib.hid haL
  replace hpa := Lib.hid hpa
  replace hp := Lib.hid hp
  have d0 : decide (0 ≤ p) = true := by have := hpa.out; simp; omega
  have d3 : decide (p < (m : Int) + 2) = true := by have := hpa.out; have := haL.out; have := hmL.out; simp; omega
  have d4 : (p == (m : Int) + 2) = false := by have := hpa.out; have := haL.out; have := hmL.out; simp; omega
  have d5 : decide ((L : Int) < p) = false := by have := hpa.out; have := haL.out; have := hmL.out; simp; omega
  have d6 : decide ((L : Int) + 1 < p) = false := by have := hpa.out; have := haL.out; have := hmL.out; simp; omega
  have d7 : decide ((L : Int) + 2 < p) = false := by have := hpa.out; have := haL.out; have := hmL.out; simp; omega
  obtain rfl : f = 30 := by have := hP.err; rw [hLe.out, if_neg (by have := haL.out; omega)] at this; exact this
  have ea : Hid (D9.acts = p) := by have := hpa.out; rw [this]; exact hP.acts
  have enow : Hid (D9.now = overL (zeros n) (C.take a)) := by have := hP.now; rw [hLe.out, if_neg (by have := haL.out; omega)] at this; exact this
  have esafe : Hid (D9.safe = zeros n) := by have := hP.safe; rw [hLe.out, if_neg (by have := haL.out; omega), if_neg (by have := haL.out; omega)] at this; exact this
  replace hCl := Lib.hid hCl
  have hz0' : Hid ((zeros n).length = n) := hz0
  obtain ⟨hn3', _⟩ : n = n ∧ True := ⟨rfl, trivial⟩
  clear hn3'

  clear hP hz0
  have e0 : Hid (overL (zeros n) (C.take 0) = zeros n) := by unfold Hid; rw [List.take_zero]; rfl
  have tok : True := trivial
  go_enter Try.func9, Try.ntmps9
  go_wp2_with (first
    | (go_at_call 10; refine (hmany.out _ H.out).mono ?_; rintro e w1 ⟨rfl, hb⟩; have B1 := Lib.hid hb; clear hb; rw [hm'])
    | (go_at_call 25; refine (hnew.out w1).mono ?_; rintro e w2 ⟨r, gs, gn, rfl, hd, hb⟩; have D2 := Lib.hid hd; have B2 := Lib.hid (B1.out.trans (hb.mono B1.out.size)); clear hd hb)
    | (go_at_call 26; refine (hpow.out D2.out).mono ?_; rintro e w3 ⟨rfl, hd, hc⟩; have D3 := Lib.hid hd; have B3 := Lib.hid (below_ch B2.out hc (fun k e => by subst e; exact Nat.le_trans B1.out.size D2.out.base) B2.out.size); clear hd hc)
    | (go_at_call 11; refine (hshort.out w3 (H.out.later B3.out)).mono ?_; rintro e w4 ⟨a4, c4, vs4, rfl, hs⟩; have S4 := Lib.hid hs; have D4 := Lib.hid (D3.out.later hs.bel); have B4 := Lib.hid (B3.out.trans (hs.bel.mono B3.out.size)); have q4 := ldG (G0.out.later B4.out); clear hs)
    | (go_at_call 20; refine (hdoes.out _ r gs gn _ w4 D4.out S4.out.trs).mono ?_; rintro e w5 ⟨vw', rfl, ds⟩; have D5 := Lib.hid ds.at_; have T5 := Lib.hid (S4.out.ch ds.ch (fun k f => (D3.out.lt k f).2)); have B5 := Lib.hid (below_ch B4.out ds.ch (fun k f => Nat.le_trans B1.out.size (D3.out.lt k f).1) B4.out.size); have q5 := ldG (G0.out.later B5.out); clear ds)
    | (go_at_call 27; refine (hmr.out _ w5 T5.out).mono ?_; rintro e w6 ⟨rfl, hb⟩; have D6 := Lib.hid (D5.out.later hb); have T6 := Lib.hid (T5.out.later hb); have B6 := Lib.hid (B5.out.trans (hb.mono B5.out.size)); clear hb)
    | (go_at_call 29; refine (hwr.out _ w6 T6.out).mono ?_; rintro e w8 ⟨a8, c8, rfl, hcp, hb⟩; have D8 := Lib.hid (D6.out.later hb); have C8 := Lib.hid hcp; have B8 := Lib.hid (B6.out.trans (hb.mono B6.out.size)); clear hcp hb)
    | (go_at_call 28; refine (acts_at D8.out).mono ?_; rintro e w8 ⟨rfl, rfl⟩; rw [ea.out]))
  refine Alt.wp_region_alt (fun w' => Below w8.heap.size w8 w') (.one 0 0 (.one 0 2 (.alt 1 3 (.one 0 4 (.one 3 3 (.one 0 5 .done))) (.one 3 1 (.one 0 4 (.one 0 5 .done)))))) (fun a a' w' => ∃ gs gn, a' = ((((((a.put (some 100) (.int .i64 (n : Int))).put (some 102) (.int .i64 (n : Int))).put (some 101) (.slice (some ⟨gs, 0, none⟩) n n)).put (some 18) (.slice (some ⟨gs, 0, none⟩) n n)).put (some 103) (.slice (some ⟨gn, 0, none⟩) n n)).put (some 19) (.slice (some ⟨gn, 0, none⟩) n n)) ∧ NI w8 gs gn n (zeros n) (zeros n) w') (by kernel_rfl) (by kernel_rfl) (Below.refl _ _).drew ?_ ?_
  · repeat (first | (refine Alt.wpT_pure rfl (fun K hK => ?_); go_simp; refine hK _ ?_; clear hK K))
    refine Alt.wpT_alt rfl rfl (fun K hK => ?_) (fun K hK => ?_)
    · go_wp2_with (refine wpl_makeB rfl _ _ rfl n rfl rfl (by omega) ?_; intro w9 ho1 hb1; have O1 := Lib.hid ho1; have B9 : Hid (Below w8.heap.size w8 w9) := ((Below.refl _ _).drew).trans hb1; clear ho1 hb1)
      refine hK.out _ _ B9.out ?_
      clear hK K
      repeat (first | (refine Alt.wpT_pure rfl (fun K hK => ?_); go_simp; refine hK _ ?_; clear hK K))
      refine Alt.wpT_last rfl (fun K hK => ?_)
      go_wp2_with (refine wpl_makeB rfl _ _ rfl n rfl rfl (by omega) ?_; intro w10 ho2 hb2; have O2 := Lib.hid ho2; have O1' := Lib.hid (own_later O1.out hb2); have B10 : Hid (Below w8.heap.size w8 w10) := B9.out.trans (hb2.mono B9.out.size); clear ho2 hb2)
      refine hK.out _ _ ?_
      clear hK K
      repeat (first | (refine Alt.wpT_pure rfl (fun K hK => ?_); go_simp; refine hK _ ?_; clear hK K))
      refine Alt.wpT_done ?_
      exact Exists.intro _ (Exists.intro _ ⟨rfl, B10.out, hz0'.out, hz0'.out, own_mono O1'.out (Nat.le_refl _), own_mono O2.out B9.out.size, Nat.ne_of_lt (O1.out.lt _ rfl).2⟩)
    · go_wp2_with (refine wpl_makeB rfl _ _ rfl n rfl rfl (by omega) ?_; intro w9 ho1 hb1; have O1 := Lib.hid ho1; have B9 : Hid (Below w8.heap.size w8 w9) := ((Below.refl _ _).drew).trans hb1; clear ho1 hb1)
      refine hK.out _ _ B9.out ?_
      clear hK K
      repeat (first | (refine Alt.wpT_pure rfl (fun K hK => ?_); go_simp; refine hK _ ?_; clear hK K))
      refine Alt.wpT_last rfl (fun K hK => ?_)
      go_wp2_with (refine wpl_makeB rfl _ _ rfl n rfl rfl (by omega) ?_; intro w10 ho2 hb2; have O2 := Lib.hid ho2; have O1' := Lib.hid (own_later O1.out hb2); have B10 : Hid (Below w8.heap.size w8 w10) := B9.out.trans (hb2.mono B9.out.size); clear ho2 hb2)
      refine hK.out _ _ ?_
      clear hK K
      repeat (first | (refine Alt.wpT_pure rfl (fun K hK => ?_); go_simp; refine hK _ ?_; clear hK K))
      refine Alt.wpT_done ?_
      exact Exists.intro _ (Exists.intro _ ⟨rfl, B10.out, hz0'.out, hz0'.out, own_mono O2.out B9.out.size, own_mono O1'.out (Nat.le_refl _), (Nat.ne_of_lt (O1.out.lt _ rfl).2).symm⟩)
  rintro a' w9 ⟨gs9, gn9, rfl, hNI⟩
  have N9 := Lib.hid hNI
  clear hNI
  go_wp2_with fail
  have W0 : Hid (NI w8 gs9 gn9 n (zeros n) (overL (zeros n) (C.take 0)) w9) := by unfold Hid; rw [e0.out]; exact N9.out
  clear e0 N9 S4 T5 T6 q4 q5 D2 D3 D4 D5 D6 hdoes hwr hmr hpow hnew hshort hmany H G0
  have hC8 : Sl w8 (.slice a8 (C ++ [((2 : Int), hB)]).length c8) (C ++ [((2 : Int), hB)]).length (flat cc (C ++ [((2 : Int), hB)])) := by have := C8.out; unfold Cps at this; rw [List.length_append, List.length_singleton, hme.out] at this ⊢; exact this
  obtain ⟨gc, oc, hae, hk1, hk2, hgc, hatc⟩ := Sl.at hC8 cc_len (by omega) (i := 0) (by rw [List.length_append, List.length_singleton]; omega)
  subst hae
  rw [List.length_append, List.length_singleton, hme.out] at hk1
  unfold maxLen at hk2
  have hrgB : Hid (∀ (j : Nat) (x : Int) (d : Blk), (C ++ [((2 : Int), hB)])[j]? = some (x, d) → w8.cell? ⟨gc, oc + j * 257, none⟩ = some (.int .i64 x) ∧ w8.rangeAt gc (oc + j * 257 + 1) (bc d)) := fun j x d hx => by
    have hr := hatc j (x, d) hx
    have c0 := hr 0 _ rfl
    rw [Nat.add_zero] at c0
    exact ⟨c0, rangeAt_sub hr fun j v hv => by unfold cc; rw [Nat.add_comm, List.getElem?_cons_succ]; exact hv⟩
  have hlast : Hid ((C ++ [((2 : Int), hB)])[L]? = some ((2 : Int), hB)) := by unfold Hid; rw [← hLe.out]; simp
  clear hatc hC8 C8
  have hm0 : Hid (m = C.length + 1) := hme.out.symm
  go_loopw [21] (fun v21 W => ∃ i, v21 = .int .i64 (i : Nat) ∧ i ≤ a ∧ NI w8 gs9 gn9 n (zeros n) (overL (zeros n) (C.take i)) W) (fun v21 _ => (a - intOf v21).toNat)
  case atStart => exact ⟨0, rfl, by omega, W0.out⟩
  case round =>
    obtain ⟨i, rfl, hi, hW⟩ := hrel
    have WH := Lib.hid hW
    clear hW W0
    by_cases hin : i < a
    · have hiL : i < L := by have := haL.out; omega
      have hiC : i < C.length := by have := hLe.out; omega
      obtain ⟨⟨b, d⟩, hcx⟩ : ∃ c, C[i]? = some c := ⟨_, List.getElem?_eq_getElem hiC⟩
      have hbr := hrng.out _ (List.mem_of_getElem? hcx)
      obtain ⟨q, rfl⟩ : ∃ q : Nat, b = q := ⟨b.toNat, by have := hbr.1; simp only at this; omega⟩
      have hq : q < n := by have := hbr.2; simp only at this; omega
      have hnext : Hid (overL (zeros n) (C.take (i + 1)) = (overL (zeros n) (C.take i)).set q d) := over_step hcx (by rw [hz0'.out]; exact hq)
      have h8 := Lib.hid (hrgB.out i (q : Int) d (by rw [List.getElem?_append_left hiC]; exact hcx))
      have him : i < m := by have := hm0.out; omega
      have dj1 : decide (i < L) = true := by simpa using hiL
      have dj1' : decide ((i : Int) < (L : Int)) = true := by simpa using hiL
      have dj2 : decide ((i : Int) < p) = true := by have := hpa.out; have := haL.out; simp; omega
      have wi : IntKind.i64.wrap ((i : Int) + 1) = (i : Int) + 1 := IntWalk.i64_in _ (by have := hCl.out; omega)
      have WD := Lib.hid (WH.out.later ((Below.refl wr.heap.size wr).drew))
      have WP := Lib.hid (WD.out.put q hq d)
      have hgcr : gc < wr.heap.size := Nat.lt_of_lt_of_le hgc WH.out.bel.size
      have hc0 : Hid (wr.cell? ⟨gc, oc + i * 257, none⟩ = some (.int .i64 (q : Int))) := (World.cell?_of_block (WH.out.bel.block _ hgc)).trans h8.out.1
      have hrg : Hid (wr.rangeAt gc (oc + i * 257 + 1) (bc d)) := rangeAt_block h8.out.2 (WH.out.bel.block _ hgc)
      clear hcx hbr
      go_wp2_with fail
      have hs2 := stB (W := wr.drew) (g := gn9) (o := q * 256) d (own_there WD.out.on _ _ (by omega))
      have f0 : ∀ p : Kept (fun w' => Below wr.heap.size wr w'), p.x.cell? ⟨gc, oc + i * 257, none⟩ = some (.int .i64 (q : Int)) := fun p => (World.cell?_of_block (p.h.block _ hgcr)).trans hc0.out
      have f1 : ∀ p : Kept (fun w' => Below wr.heap.size wr w'), (bigLoadAt 29 (.pointer (some ⟨gc, oc + i * 257 + 1, none⟩))).run Try.prog p.x = .ok (.agg (blk d)) p.x := fun p => ldB (rangeAt_block hrg.out (p.h.block _ hgcr))
      have hne : Nonempty (Kept (fun w' => Below wr.heap.size wr w')) := ⟨⟨wr, Below.refl _ _⟩⟩
      refine wp_region_plan (fun w' => Below wr.heap.size wr w') [(0, 0), (0, 1), (0, 2), (0, 3), (0, 4), (1, 5), (0, 6), (0, 7), (0, 8), (0, 9), (1, 10), (0, 11), (3, 12)] (by kernel_rfl) (by kernel_rfl) (Below.refl _ _).drew ?_
      repeat (first | (refine wpPlan_pure rfl (fun K hK => ?_); go_simp; refine hK _ ?_; clear hK K) | (refine wpPlan_held rfl (fun K hK => ?_); go_simp; refine hK _ ?_; clear hK K))
      refine wpPlan_last rfl (fun K hK => ?_)
      go_wp2_with fail
      refine hK.out _ _ ?_
      clear hK K
      refine wpPlan_nil ?_
      go_wp2_with fail
      have wp := WP.out
      rw [← hnext.out] at wp
      exact ⟨⟨i + 1, rfl, by omega, wp⟩, by simp [intOf]; omega⟩
    · obtain rfl : a = i := by omega
      clear hin hi
      have WX := WH
      clear WH
      have dx1 : decide ((a : Int) < p) = false := by have := hpa.out; simp; omega
      have dx2 : decide (a < L) = decide (a < L) := rfl
      go_wp2_with (first
        | (go_at_call 30; refine (image_at (D8.out.later WX.out.bel)).mono ?_; rintro e w10 ⟨u10, rfl, ho, hb⟩; have O10 := Lib.hid ho; have N10 := Lib.hid (WX.out.later hb); clear ho hb)
        | (go_at_call 18; clear tok; refine (sameBks_any D9.now _ _ w10 (Sl.own O10.out) (by rw [enow.out]; exact N10.out.bksN)).mono ?_; rintro e w11 ⟨rfl, hb⟩; have N11 := Lib.hid (N10.out.later hb); clear hb)
        | (go_at_call 31; refine (safe_at (D8.out.later N11.out.bel)).mono ?_; rintro e w12 ⟨u12, rfl, ho, hb⟩; have O12 := Lib.hid ho; have N12 := Lib.hid (N11.out.later hb); clear ho hb)
        | (go_at_call 18; refine (sameBks_any D9.safe _ _ w12 (Sl.own O12.out) (by rw [esafe.out]; exact N12.out.bksS)).mono ?_; rintro e w13 ⟨rfl, hb⟩; have N13 := Lib.hid (N12.out.later hb); clear hb))
      all_goals
        go_ret
        have b13 := B8.out.trans (N13.out.bel.mono B8.out.size)
        exact ⟨rfl, B0.out.trans (b13.mono B0.out.size)⟩
end Go.Proofs.Ytdeeegodiacjgaa
namespace Go.Proofs.Ytdeeegodiacjgaa
open Go.RowKit
attribute [local go_sem ↓] loadAtB storeAtB loadAtC storeAtC loadAtG
set_option maxRecDepth 100000 in
set_option maxHeartbeats 4000000 in
theorem does_2 (g : Ge) (n : Nat) (h1 : 1 ≤ n) (h2 : n ≤ 2048) (l : List Lt) (next : Nat) (hnx : next < 4294967296) (p : Int) (hp : p < 9223372036854775808) (hok : OkLt l) (hl60 : l.length ≤ 60) (hsz : szs l ≤ 1000) (hm' : tooMany l 1000 = false)
    (hM : mayR n g (shortL l) next = 0) (a : Nat) (ha : actsP p (ovOut (shortL l)).length = a) (hc : p = a ∧ a = (ovOut (shortL l)).length + 1) (v : Value) (w : World) (h : Lts w v l) :
    Calls Try.prog 9 #[.agg (ga g), .int .i64 (n : Int), v, .int .u32 (next : Int), .int .i64 p] w (GPost (.bool true) w) := by
  have H := Lib.hid (h.later ((Below.refl _ _).alloc (Nat.le_refl _) (.cells (ga g) 43)))
  have B0 : Hid (Below w.heap.size w (w.alloc (.cells (ga g) 43))) := (Below.refl _ _).alloc (Nat.le_refl _) _
  have G0 := Lib.hid (Whole.new w (ga g) 43)
  have hmany := Lib.hid (many19 l v)
  have hshort := Lib.hid (short_si l hl60 hsz hok v)
  have hnew := Lib.hid (new_any n h1 h2)
  have hcn : cpsN (shortL l) ≤ 1000 := by have := cpsN_short l; omega
  have d1 : decide ((n : Int) < 1) = false := by simp; omega
  have d2 : decide (2048 < (n : Int)) = false := by simp; omega
  have hpl := does_plain p hM
  rw [ha] at hpl
  obtain ⟨hn3, hP⟩ := hpl
  have hrng : Hid (∀ c ∈ ovOut (shortL l), 0 ≤ c.1 ∧ c.1 < (n : Int)) := fun c hc => by obtain ⟨m1, m2, m3, m4⟩ := mayR_ok hM; rw [m2]; exact ov_in m4 hc
  have hCl : (ovOut (shortL l)).length ≤ 1000 := Nat.le_trans (ovOut_le _) hcn
  clear h hok ha
  generalize shortL l = T at hshort hcn hM hP hrng hCl hc
  have hmr := Lib.hid (rmay19_any n h1 g T next)
  rw [hM] at hmr
  have hwr : Hid (∀ (v : Value) (w : World), Trs w v T → Calls Try.prog 29 #[v, .int .u32 (next : Int)] w (WrPost (ovOut T) next w)) := fun v w h => writes_any T next hnx (by omega) v w h
  obtain ⟨⟨f, D9⟩, hR⟩ : ∃ R, doD (dPower (newD (zeros n)) p) g (ovOut T) next (fitsB (dPower (newD (zeros n)) p) g T) = R := ⟨_, rfl⟩
  have hdoes : Hid (∀ (base r gs gn : Nat) (u : Value) (w : World), DAt w base r gs gn (.slice none 0 0) (dPower (newD (zeros n)) p) → Trs w u T → Calls Try.prog 20 #[.pointer (some ⟨r, 0, none⟩), .agg (ga g), u, .int .u32 (next : Int)] w (DoPost (f, D9) base r gs gn (.slice none 0 0) w)) := fun base r gs gn u w hd ht => by
    have := do_any (dPower (newD (zeros n)) p) g T next (fitsB (dPower (newD (zeros n)) p) g T) (by omega) (by simp [dPower, newD]) (by simp [dPower, newD]) base r gs gn (.slice none 0 0) u w hd ht (fun w1 hb => fits_all g T u (hd.later hb) (ht.later hb))
    rw [hR] at this
    exact this
  rw [hR] at hP
  clear hR
  have hpow : Hid (∀ {W : World} {base r gs gn : Nat}, DAt W base r gs gn (.slice none 0 0) (newD (zeros n)) → Calls Try.prog 26 #[.pointer (some ⟨r, 0, none⟩), .int .i64 p] W (fun e w' => e = .returned (.tuple #[]) ∧ DAt w' base r gs gn (.slice none 0 0) (dPower (newD (zeros n)) p) ∧ Ch (fun k => k = r) W w')) := fun {W base r gs gn} hd => power_at p hp hd
  generalize dPower (newD (zeros n)) p = DP at hdoes hpow
  generalize ovOut T = C at hP hrng hCl hwr hc
  obtain ⟨hB, hBe⟩ : ∃ hB, Hid (headB next = hB) := ⟨_, rfl⟩
  obtain ⟨L, hLe⟩ : ∃ L, Hid (C.length = L) := ⟨_, rfl⟩
  obtain ⟨m, hme⟩ : ∃ m, Hid (C.length + 1 = m) := ⟨_, rfl⟩
  have hmL : Hid (m = L + 1) := by unfold Hid; rw [← hLe.out, ← hme.out]
  have wA : IntKind.i64.wrap ((m : Int) + 2) = (m : Int) + 2 := IntWalk.i64_in _ (by have := hme.out; omega)
  have wL : IntKind.i64.wrap ((m : Int) - 1) = (L : Int) := by rw [IntWalk.i64_in _ (by have := hme.out; omega)]; have := hmL.out; omega
  have wL1 : IntKind.i64.wrap ((L : Int) + 1) = (L : Int) + 1 := IntWalk.i64_in _ (by have := hLe.out; omega)
  have wL2 : IntKind.i64.wrap ((L : Int) + 2) = (L : Int) + 2 := IntWalk.i64_in _ (by have := hLe.out; omega)
  unfold WrPost at hwr
  rw [hme.out] at hwr
  rw [hLe.out] at hc hCl
  rw [hBe.out] at hP hwr
  have hz0 : (zeros n).length = n := zeros_len n
  obtain ⟨hpa, haL⟩ := hc
  replace haL := Lib.hid haL
  replace hpa := Lib.hid hpa
  replace hp := Lib.hid hp
  have d0 : decide (0 ≤ p) = true := by have := hpa.out; simp; omega
  have d3 : decide (p < (m : Int) + 2) = true := by have := hpa.out; have := haL.out; have := hmL.out; simp; omega
  have d4 : (p == (m : Int) + 2) = false := by have := hpa.out; have := haL.out; have := hmL.out; simp; omega
  have d5 : decide ((L : Int) < p) = true := by have := hpa.out; have := haL.out; have := hmL.out; simp; omega
  have d6 : decide ((L : Int) + 1 < p) = false := by have := hpa.out; have := haL.out; have := hmL.out; simp; omega
  have d7 : decide ((L : Int) + 2 < p) = false := by have := hpa.out; have := haL.out; have := hmL.out; simp; omega
  obtain rfl : f = 30 := by have := hP.err; rw [hLe.out, if_neg (by have := haL.out; omega)] at this; exact this
  have ea : Hid (D9.acts = p) := by have := hpa.out; rw [this]; exact hP.acts
  have enow : Hid (D9.now = overL (zeros n) C) := by have := hP.now; rw [hLe.out, if_neg (by have := haL.out; omega)] at this; rw [List.take_of_length_le (by have := hLe.out; have := haL.out; omega)] at this; exact this
  have esafe : Hid (D9.safe = overL (zeros n) C) := by have := hP.safe; rw [hLe.out, if_neg (by have := haL.out; omega), if_pos (by have := haL.out; omega)] at this; exact this
  replace hCl := Lib.hid hCl
  have hz0' : Hid ((zeros n).length = n) := hz0
  obtain ⟨hn3', _⟩ : n = n ∧ True := ⟨rfl, trivial⟩
  clear hn3'

  clear hP hz0
  have e0 : Hid (overL (zeros n) (C.take 0) = zeros n) := by unfold Hid; rw [List.take_zero]; rfl
  have tok : True := trivial
  go_enter Try.func9, Try.ntmps9
  go_wp2_with (first
    | (go_at_call 10; refine (hmany.out _ H.out).mono ?_; rintro e w1 ⟨rfl, hb⟩; have B1 := Lib.hid hb; clear hb; rw [hm'])
    | (go_at_call 25; refine (hnew.out w1).mono ?_; rintro e w2 ⟨r, gs, gn, rfl, hd, hb⟩; have D2 := Lib.hid hd; have B2 := Lib.hid (B1.out.trans (hb.mono B1.out.size)); clear hd hb)
    | (go_at_call 26; refine (hpow.out D2.out).mono ?_; rintro e w3 ⟨rfl, hd, hc⟩; have D3 := Lib.hid hd; have B3 := Lib.hid (below_ch B2.out hc (fun k e => by subst e; exact Nat.le_trans B1.out.size D2.out.base) B2.out.size); clear hd hc)
    | (go_at_call 11; refine (hshort.out w3 (H.out.later B3.out)).mono ?_; rintro e w4 ⟨a4, c4, vs4, rfl, hs⟩; have S4 := Lib.hid hs; have D4 := Lib.hid (D3.out.later hs.bel); have B4 := Lib.hid (B3.out.trans (hs.bel.mono B3.out.size)); have q4 := ldG (G0.out.later B4.out); clear hs)
    | (go_at_call 20; refine (hdoes.out _ r gs gn _ w4 D4.out S4.out.trs).mono ?_; rintro e w5 ⟨vw', rfl, ds⟩; have D5 := Lib.hid ds.at_; have T5 := Lib.hid (S4.out.ch ds.ch (fun k f => (D3.out.lt k f).2)); have B5 := Lib.hid (below_ch B4.out ds.ch (fun k f => Nat.le_trans B1.out.size (D3.out.lt k f).1) B4.out.size); have q5 := ldG (G0.out.later B5.out); clear ds)
    | (go_at_call 27; refine (hmr.out _ w5 T5.out).mono ?_; rintro e w6 ⟨rfl, hb⟩; have D6 := Lib.hid (D5.out.later hb); have T6 := Lib.hid (T5.out.later hb); have B6 := Lib.hid (B5.out.trans (hb.mono B5.out.size)); clear hb)
    | (go_at_call 29; refine (hwr.out _ w6 T6.out).mono ?_; rintro e w8 ⟨a8, c8, rfl, hcp, hb⟩; have D8 := Lib.hid (D6.out.later hb); have C8 := Lib.hid hcp; have B8 := Lib.hid (B6.out.trans (hb.mono B6.out.size)); clear hcp hb)
    | (go_at_call 28; refine (acts_at D8.out).mono ?_; rintro e w8 ⟨rfl, rfl⟩; rw [ea.out]))
  refine Alt.wp_region_alt (fun w' => Below w8.heap.size w8 w') (.one 0 0 (.one 0 2 (.alt 1 3 (.one 0 4 (.one 3 3 (.one 0 5 .done))) (.one 3 1 (.one 0 4 (.one 0 5 .done)))))) (fun a a' w' => ∃ gs gn, a' = ((((((a.put (some 100) (.int .i64 (n : Int))).put (some 102) (.int .i64 (n : Int))).put (some 101) (.slice (some ⟨gs, 0, none⟩) n n)).put (some 18) (.slice (some ⟨gs, 0, none⟩) n n)).put (some 103) (.slice (some ⟨gn, 0, none⟩) n n)).put (some 19) (.slice (some ⟨gn, 0, none⟩) n n)) ∧ NI w8 gs gn n (zeros n) (zeros n) w') (by kernel_rfl) (by kernel_rfl) (Below.refl _ _).drew ?_ ?_
  · repeat (first | (refine Alt.wpT_pure rfl (fun K hK => ?_); go_simp; refine hK _ ?_; clear hK K))
    refine Alt.wpT_alt rfl rfl (fun K hK => ?_) (fun K hK => ?_)
    · go_wp2_with (refine wpl_makeB rfl _ _ rfl n rfl rfl (by omega) ?_; intro w9 ho1 hb1; have O1 := Lib.hid ho1; have B9 : Hid (Below w8.heap.size w8 w9) := ((Below.refl _ _).drew).trans hb1; clear ho1 hb1)
      refine hK.out _ _ B9.out ?_
      clear hK K
      repeat (first | (refine Alt.wpT_pure rfl (fun K hK => ?_); go_simp; refine hK _ ?_; clear hK K))
      refine Alt.wpT_last rfl (fun K hK => ?_)
      go_wp2_with (refine wpl_makeB rfl _ _ rfl n rfl rfl (by omega) ?_; intro w10 ho2 hb2; have O2 := Lib.hid ho2; have O1' := Lib.hid (own_later O1.out hb2); have B10 : Hid (Below w8.heap.size w8 w10) := B9.out.trans (hb2.mono B9.out.size); clear ho2 hb2)
      refine hK.out _ _ ?_
      clear hK K
      repeat (first | (refine Alt.wpT_pure rfl (fun K hK => ?_); go_simp; refine hK _ ?_; clear hK K))
      refine Alt.wpT_done ?_
      exact Exists.intro _ (Exists.intro _ ⟨rfl, B10.out, hz0'.out, hz0'.out, own_mono O1'.out (Nat.le_refl _), own_mono O2.out B9.out.size, Nat.ne_of_lt (O1.out.lt _ rfl).2⟩)
    · go_wp2_with (refine wpl_makeB rfl _ _ rfl n rfl rfl (by omega) ?_; intro w9 ho1 hb1; have O1 := Lib.hid ho1; have B9 : Hid (Below w8.heap.size w8 w9) := ((Below.refl _ _).drew).trans hb1; clear ho1 hb1)
      refine hK.out _ _ B9.out ?_
      clear hK K
      repeat (first | (refine Alt.wpT_pure rfl (fun K hK => ?_); go_simp; refine hK _ ?_; clear hK K))
      refine Alt.wpT_last rfl (fun K hK => ?_)
      go_wp2_with (refine wpl_makeB rfl _ _ rfl n rfl rfl (by omega) ?_; intro w10 ho2 hb2; have O2 := Lib.hid ho2; have O1' := Lib.hid (own_later O1.out hb2); have B10 : Hid (Below w8.heap.size w8 w10) := B9.out.trans (hb2.mono B9.out.size); clear ho2 hb2)
      refine hK.out _ _ ?_
      clear hK K
      repeat (first | (refine Alt.wpT_pure rfl (fun K hK => ?_); go_simp; refine hK _ ?_; clear hK K))
      refine Alt.wpT_done ?_
      exact Exists.intro _ (Exists.intro _ ⟨rfl, B10.out, hz0'.out, hz0'.out, own_mono O2.out B9.out.size, own_mono O1'.out (Nat.le_refl _), (Nat.ne_of_lt (O1.out.lt _ rfl).2).symm⟩)
  rintro a' w9 ⟨gs9, gn9, rfl, hNI⟩
  have N9 := Lib.hid hNI
  clear hNI
  go_wp2_with fail
  have W0 : Hid (NI w8 gs9 gn9 n (zeros n) (overL (zeros n) (C.take 0)) w9) := by unfold Hid; rw [e0.out]; exact N9.out
  clear e0 N9 S4 T5 T6 q4 q5 D2 D3 D4 D5 D6 hdoes hwr hmr hpow hnew hshort hmany H G0
  have hC8 : Sl w8 (.slice a8 (C ++ [((2 : Int), hB)]).length c8) (C ++ [((2 : Int), hB)]).length (flat cc (C ++ [((2 : Int), hB)])) := by have := C8.out; unfold Cps at this; rw [List.length_append, List.length_singleton, hme.out] at this ⊢; exact this
  obtain ⟨gc, oc, hae, hk1, hk2, hgc, hatc⟩ := Sl.at hC8 cc_len (by omega) (i := 0) (by rw [List.length_append, List.length_singleton]; omega)
  subst hae
  rw [List.length_append, List.length_singleton, hme.out] at hk1
  unfold maxLen at hk2
  have hrgB : Hid (∀ (j : Nat) (x : Int) (d : Blk), (C ++ [((2 : Int), hB)])[j]? = some (x, d) → w8.cell? ⟨gc, oc + j * 257, none⟩ = some (.int .i64 x) ∧ w8.rangeAt gc (oc + j * 257 + 1) (bc d)) := fun j x d hx => by
    have hr := hatc j (x, d) hx
    have c0 := hr 0 _ rfl
    rw [Nat.add_zero] at c0
    exact ⟨c0, rangeAt_sub hr fun j v hv => by unfold cc; rw [Nat.add_comm, List.getElem?_cons_succ]; exact hv⟩
  have hlast : Hid ((C ++ [((2 : Int), hB)])[L]? = some ((2 : Int), hB)) := by unfold Hid; rw [← hLe.out]; simp
  clear hatc hC8 C8
  have hm0 : Hid (m = C.length + 1) := hme.out.symm
  go_loopw [21] (fun v21 W => ∃ i, v21 = .int .i64 (i : Nat) ∧ i ≤ L ∧ NI w8 gs9 gn9 n (zeros n) (overL (zeros n) (C.take i)) W) (fun v21 _ => (L - intOf v21).toNat)
  case atStart => exact ⟨0, rfl, by omega, W0.out⟩
  case round =>
    obtain ⟨i, rfl, hi, hW⟩ := hrel
    have WH := Lib.hid hW
    clear hW W0
    by_cases hin : i < L
    · have hiL : i < L := by skip; omega
      have hiC : i < C.length := by have := hLe.out; omega
      obtain ⟨⟨b, d⟩, hcx⟩ : ∃ c, C[i]? = some c := ⟨_, List.getElem?_eq_getElem hiC⟩
      have hbr := hrng.out _ (List.mem_of_getElem? hcx)
      obtain ⟨q, rfl⟩ : ∃ q : Nat, b = q := ⟨b.toNat, by have := hbr.1; simp only at this; omega⟩
      have hq : q < n := by have := hbr.2; simp only at this; omega
      have hnext : Hid (overL (zeros n) (C.take (i + 1)) = (overL (zeros n) (C.take i)).set q d) := over_step hcx (by rw [hz0'.out]; exact hq)
      have h8 := Lib.hid (hrgB.out i (q : Int) d (by rw [List.getElem?_append_left hiC]; exact hcx))
      have him : i < m := by have := hm0.out; omega
      have dj1 : decide (i < L) = true := by simpa using hiL
      have dj1' : decide ((i : Int) < (L : Int)) = true := by simpa using hiL
      have dj2 : decide ((i : Int) < p) = true := by have := hpa.out; have := haL.out; simp; omega
      have wi : IntKind.i64.wrap ((i : Int) + 1) = (i : Int) + 1 := IntWalk.i64_in _ (by have := hCl.out; omega)
      have WD := Lib.hid (WH.out.later ((Below.refl wr.heap.size wr).drew))
      have WP := Lib.hid (WD.out.put q hq d)
      have hgcr : gc < wr.heap.size := Nat.lt_of_lt_of_le hgc WH.out.bel.size
      have hc0 : Hid (wr.cell? ⟨gc, oc + i * 257, none⟩ = some (.int .i64 (q : Int))) := (World.cell?_of_block (WH.out.bel.block _ hgc)).trans h8.out.1
      have hrg : Hid (wr.rangeAt gc (oc + i * 257 + 1) (bc d)) := rangeAt_block h8.out.2 (WH.out.bel.block _ hgc)
      clear hcx hbr
      go_wp2_with fail
      have hs2 := stB (W := wr.drew) (g := gn9) (o := q * 256) d (own_there WD.out.on _ _ (by omega))
      have f0 : ∀ p : Kept (fun w' => Below wr.heap.size wr w'), p.x.cell? ⟨gc, oc + i * 257, none⟩ = some (.int .i64 (q : Int)) := fun p => (World.cell?_of_block (p.h.block _ hgcr)).trans hc0.out
      have f1 : ∀ p : Kept (fun w' => Below wr.heap.size wr w'), (bigLoadAt 29 (.pointer (some ⟨gc, oc + i * 257 + 1, none⟩))).run Try.prog p.x = .ok (.agg (blk d)) p.x := fun p => ldB (rangeAt_block hrg.out (p.h.block _ hgcr))
      have hne : Nonempty (Kept (fun w' => Below wr.heap.size wr w')) := ⟨⟨wr, Below.refl _ _⟩⟩
      refine wp_region_plan (fun w' => Below wr.heap.size wr w') [(0, 0), (0, 1), (0, 2), (0, 3), (0, 4), (1, 5), (0, 6), (0, 7), (0, 8), (0, 9), (1, 10), (0, 11), (3, 12)] (by kernel_rfl) (by kernel_rfl) (Below.refl _ _).drew ?_
      repeat (first | (refine wpPlan_pure rfl (fun K hK => ?_); go_simp; refine hK _ ?_; clear hK K) | (refine wpPlan_held rfl (fun K hK => ?_); go_simp; refine hK _ ?_; clear hK K))
      refine wpPlan_last rfl (fun K hK => ?_)
      go_wp2_with fail
      refine hK.out _ _ ?_
      clear hK K
      refine wpPlan_nil ?_
      go_wp2_with fail
      have wp := WP.out
      rw [← hnext.out] at wp
      exact ⟨⟨i + 1, rfl, by omega, wp⟩, by simp [intOf]; omega⟩
    · obtain rfl : L = i := by omega
      clear hin hi
      have hCL : Hid (C.take L = C) := by unfold Hid; rw [← hLe.out]; exact List.take_length
      have WY := WH
      clear WH
      rw [hCL.out] at WY
      have tokC : True := trivial
      go_wp2_with (first
        | (clear tokC; refine wpl_copyB rfl _ _ rfl rfl rfl WY.out.os WY.out.on ?_; intro wC ho hc; have WX := Lib.hid (WY.out.copied ho hc); clear ho hc WY)
        | (go_at_call 30; refine (image_at (D8.out.later WX.out.bel)).mono ?_; rintro e w10 ⟨u10, rfl, ho, hb⟩; have O10 := Lib.hid ho; have N10 := Lib.hid (WX.out.later hb); clear ho hb)
        | (go_at_call 18; clear tok; refine (sameBks_any D9.now _ _ w10 (Sl.own O10.out) (by rw [enow.out]; exact N10.out.bksN)).mono ?_; rintro e w11 ⟨rfl, hb⟩; have N11 := Lib.hid (N10.out.later hb); clear hb)
        | (go_at_call 31; refine (safe_at (D8.out.later N11.out.bel)).mono ?_; rintro e w12 ⟨u12, rfl, ho, hb⟩; have O12 := Lib.hid ho; have N12 := Lib.hid (N11.out.later hb); clear ho hb)
        | (go_at_call 18; refine (sameBks_any D9.safe _ _ w12 (Sl.own O12.out) (by rw [esafe.out]; exact N12.out.bksS)).mono ?_; rintro e w13 ⟨rfl, hb⟩; have N13 := Lib.hid (N12.out.later hb); clear hb))
      all_goals
        go_ret
        have b13 := B8.out.trans (N13.out.bel.mono B8.out.size)
        exact ⟨rfl, B0.out.trans (b13.mono B0.out.size)⟩
end Go.Proofs.Ytdeeegodiacjgaa
