/- What bits.All does at any block, and the contract of its iterator. Each byte is below 256. -/
import Derived.Test.YtcheogbijioadaaW8
import Derived.RangeFuncNested
import Derived.RangeFuncBound
import Derived.RangeFuncCalls
import Derived.RangeFuncLeaves
import Derived.Shelf.Abstract
import Derived.Shelf.RegionOpen
import Derived.OwnWalkIn
import Derived.TacticsInMore
import Derived.LoopNIn
import Derived.LoopIn
namespace Go.Proofs.Ytcheogbijioadaa
open Go.RowKit Go.Shelf
attribute [local go_sem] Oper.semAt_some

section
variable {P : Program} {F : Fence} {m : Nat}
/-- A whole array loaded, inside a fence, in a round or not. -/
theorem wplIn_load_arr {ops : Array Oper} {rest : List Oper} {o : Oper} {a : Act} {w : World} {Q : Exit → Act → World → Prop} (ty : TypeId) (x : Operand) (ho : o.op = .load ty x)
    (hw : Region.wanted o (yielded ops a.tmps) = true)
    (g : Nat) (hx : a.eval x = .pointer (some ⟨g, 0, none⟩)) (t : TypeId) (cs : Array Value) (fr : Nat × Nat) (hg : w.heap[g]? = some (.cells cs t fr)) (n : Nat) (e : TypeId)
    (hu : P.underlying ty = some (.array n e)) (hi : (P.info? ty).map (·.size) = some cs.size)
    (h : wpListIn F m P ops Q rest (a.put o.dst (.agg cs)) w) : wpListIn F m P ops Q (o :: rest) a w := by
  unfold wpListIn
  rw [if_pos hw]
  refine ⟨fun f hf => by simp [Oper.about, ho] at hf, ?_⟩
  rw [Oper.semAt_eq _ _ _ (by rw [ho]; intro c hc; cases hc)]
  have := run_loadVar_row w g t ty cs fr _ hg hu rfl hi
  unfold execOp
  simp only [ho, hx, Instr.loadAt, Instr.sureAddr, Sem.run_bind, Sem.run_pure, Result.andThen_ok, this]
  exact h
end

/-- The set bits below k, rising. -/
def sets (b : Nat → Nat) (k : Nat) : List Nat := (List.range k).filter (bv b)
theorem sets_yes {b : Nat → Nat} {k : Nat} (h : bv b k = true) : sets b (k + 1) = sets b k ++ [k] := by
  unfold sets; rw [List.range_succ, List.filter_append]; simp [h]
theorem sets_no {b : Nat → Nat} {k : Nat} (h : bv b k = false) : sets b (k + 1) = sets b k := by
  unfold sets; rw [List.range_succ, List.filter_append]; simp [h]
theorem sets_len (b : Nat → Nat) (k : Nat) : (sets b k).length ≤ k := by
  unfold sets; have := List.length_filter_le (bv b) (List.range k); simpa using this

theorem all_any (b : Nat → Nat) (w : World) :
    Calls Try.prog 11 #[.agg (blk b)] w fun e w' => e = .returned (.func (.func 23) #[] #[.pointer (some ⟨w.heap.size, 0, none⟩)]) ∧ w.alloc (.cells (blk b) 23) = w' := by
  go_enter Try.func11, Try.ntmps11
  go_wp2
  go_ret
  exact ⟨rfl, rfl⟩

/-- The block B is kept. -/
def KBlk (B : Nat) (W W' : World) : Prop := W.heap.size ≤ W'.heap.size ∧ ∀ o, W.heap[B]? = some o → W'.heap[B]? = some o
theorem KBlk.refl (B : Nat) (W : World) : KBlk B W W := ⟨Nat.le_refl _, fun _ h => h⟩
theorem KBlk.trans {B : Nat} {X Y Z : World} (h : KBlk B X Y) (k : KBlk B Y Z) : KBlk B X Z := ⟨Nat.le_trans h.1 k.1, fun o ho => k.2 o (h.2 o ho)⟩
theorem KBlk.alloc (B : Nat) (W : World) (o : Obj) : KBlk B W (W.alloc o) := ⟨by simp, fun _ h => heap_past_alloc h⟩
theorem KBlk.setCell {B : Nat} (W : World) {p : Addr} (h : p.block ≠ B) (v : Value) : KBlk B W (W.setCell p v) := ⟨by simp [World.setCell], fun _ ho => (heap_setCell_other W p B v (fun e => h e.symm)).trans ho⟩
theorem KBlk.of_below {B n : Nat} {W W' : World} (h : Below n W W') (hB : B < n) : KBlk B W W' := ⟨h.size, fun _ ho => heap_below h hB ho⟩
theorem kblk_b {B : Nat} {w : World} (hB : B < w.heap.size) (W : World) (l : Nat) (o o' : Obj) (hl : w.heap.size ≤ l) (_ : W.heap[l]? = some o) (_ : o.isCells = false) (_ : o.isWalk = false) : KBlk B W (W.putObj l o') :=
  ⟨by simp, fun _ ho => (World.putObj_heap_other (by omega)).trans ho⟩

set_option maxRecDepth 100000 in
set_option maxHeartbeats 2000000 in
theorem all1_in (n : Nat) (hn : 1 ≤ n) (b : Nat → Nat) (hb : ∀ i, b i < 256) (l Bs : Nat) (J Jx : List Nat → World → Prop)
    (hY : ∀ pre x W, J pre W → pre.length < 2048 → YieldAt Fence.wide (n - 1) Try.prog l #[.int .i64 (x : Nat)] W fun e W' =>
      (e = .returned (.bool true) ∧ J (pre ++ [x]) W' ∧ KBlk Bs W W') ∨ (e = .returned (.bool false) ∧ Jx (pre ++ [x]) W'))
    (W : World) (hJa : ∀ pre W o, J pre W → J pre (W.alloc o)) (hBc : W.heap[Bs]? = some (.cells (blk b) 23 (0, 0))) (h0 : J [] W) :
    CallsIn Fence.wide n Try.prog 23 #[.func (.yield l) #[] #[], .pointer (some ⟨Bs, 0, none⟩)] W fun e W' => (∃ v, e = .returned v) ∧
      ((∃ ys, ys = sets b 2048 ∧ J ys W') ∨ (∃ pre, (∃ k, k ≤ 2048 ∧ pre = sets b k) ∧ Jx pre W')) := by
  refine callsIn_of_wp Try.func23 rfl trivial ?_ rfl
  simp only [Try.ntmps23, List.size_toArray, List.length_cons, List.length_nil, Nat.reduceAdd, Nat.reduceSub, Array.replicate_succ, Array.replicate_zero, List.push_toArray, List.append_toArray, List.nil_append, List.cons_append]
  gi_wp2
  gi_loopw [4] (fun v wr => ∃ k : Nat, k ≤ 2048 ∧ v = .int .i64 k ∧ J (sets b k) wr ∧ KBlk Bs W wr) (fun v _ => (2048 - intOf v).toNat)
  case atStart => exact ⟨0, by omega, rfl, h0, KBlk.refl _ _⟩
  case round =>
    obtain ⟨k, hk, rfl, hJs, hnx⟩ := hrel
    by_cases hlt : k < 2048
    · have hg : wr.heap[Bs]? = some (.cells (blk b) 23 (0, 0)) := hnx.2 _ hBc
      have hG := Lib.hid hg
      have hbH := Lib.hid hb
      have hJs1 := Lib.hid (hJa _ _ (.cells (blk b) 23) hJs)
      have hval : hasB b (k : Int) = bv b k := hasB_nat b k hlt
      have hV := Lib.hid hval
      clear hg hb hval hBc hJs
      have hYH := Lib.hid hY
      clear hY
      by_cases hbit : bv b k = true
      · obtain ⟨fn, tmps, assign, body, hy, hR⟩ := hYH.out _ k (wr.alloc (.cells (blk b) 23)) hJs1.out (Nat.lt_of_le_of_lt (sets_len b k) hlt)
        gi_wp2_with (first | (refine wplIn_load_arr 23 _ rfl rfl _ rfl 23 (blk b) (0, 0) hG.out _ _ Try.underlying23 (info23b b) ?_) | (refine ⟨trivial, ?_⟩; gi_at_call 17; refine (callsIn_wide.2 (has_is b hbH.out _ _ true (by rw [hV.out]; exact hbit))).mono ?_; rintro e w1 ⟨rfl, rfl⟩))
        refine hR.mono ?_
        rintro e W3 (⟨rfl, hJ3, hk3⟩ | ⟨rfl, hJx3⟩)
        · have hb3 := Lib.hid ((hnx.trans (KBlk.alloc _ _ (.cells (blk b) 23))).trans hk3)
          clear hk3
          gi_wp2
          refine ⟨⟨k + 1, by omega, by go_num, by rw [sets_yes hbit]; exact hJ3, hb3.out⟩, by simp [intOf]; omega⟩
        · gi_wp2
          refine bodyPost_ret (results_none rfl _ _ _) rfl ?_
          exact ⟨⟨_, rfl⟩, .inr ⟨_, ⟨k + 1, by omega, (sets_yes hbit).symm⟩, hJx3⟩⟩
      · have hbit' : bv b k = false := by simpa using hbit
        gi_wp2_with (first | (refine wplIn_load_arr 23 _ rfl rfl _ rfl 23 (blk b) (0, 0) hG.out _ _ Try.underlying23 (info23b b) ?_) | (refine ⟨trivial, ?_⟩; gi_at_call 17; refine (callsIn_wide.2 (has_is b hbH.out _ _ false (by rw [hV.out]; exact hbit'))).mono ?_; rintro e w1 ⟨rfl, rfl⟩))
        refine ⟨fun _ h => (by cases h), ?_⟩
        gi_wp2
        refine ⟨⟨k + 1, by omega, by go_num, by rw [sets_no hbit']; exact hJs1.out, hnx.trans (KBlk.alloc _ _ _)⟩, by simp [intOf]; omega⟩
    · obtain rfl : k = 2048 := by omega
      gi_wp2
      go_end0
      exact ⟨⟨_, rfl⟩, .inl ⟨_, rfl, hJs⟩⟩

/-- The contract of All's iterator. -/
theorem all_stops (n : Nat) (hn : 1 ≤ n) (b : Nat → Nat) (hb : ∀ i, b i < 256) (Bs : Nat) (w : World) (hBc : w.heap[Bs]? = some (.cells (blk b) 23 (0, 0))) :
    SeqStopsK Fence.wide n Try.prog 23 #[.pointer (some ⟨Bs, 0, none⟩)] (fun x : Nat => #[.int .i64 (x : Nat)]) (KBlk Bs) (fun xs => xs = sets b 2048) (fun pre => ∃ k, k ≤ 2048 ∧ pre = sets b k) 2048 w := by
  intro l J Jx W hW hJ hJx hY h0
  refine all1_in n hn b hb l Bs J Jx hY W ?_ (heap_below hW (lt_of_heap hBc) hBc) h0
  intro pre W1 o hp
  exact hJ pre W1 _ none hp (World.grownBy_alloc W1 o none) (fun r e => by cases e)
end Go.Proofs.Ytcheogbijioadaa
