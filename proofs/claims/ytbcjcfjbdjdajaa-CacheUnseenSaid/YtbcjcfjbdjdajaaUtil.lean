/- Laws on blocks of 256 bytes as values and as rows of memory, and on regions that only read, over any program. No condition but those written in each law. -/
import Derived.WalkKit
import Derived.WalkSpells
import Derived.WalkLawsBesides
import Derived.Deep.WholeRow
import Derived.Lib.Hide
import Derived.Deep.QuietTactic
import Derived.BigQuiet
namespace Go.Proofs.Ytbcjcfjbdjdajaa
open Go.RowKit

/-- A block's cells. -/
def blk (b : Nat → Nat) : Array Value := Array.ofFn (n := 256) fun i => .int .u8 ((b i : Nat) : Int)
theorem blk_size (b : Nat → Nat) : (blk b).size = 256 := by simp [blk]
theorem blk_get (b : Nat → Nat) (i : Nat) (h : i < 256) : (blk b)[i]? = some (.int .u8 ((b i : Nat) : Int)) := by
  simp [blk, h]
theorem blk_set (b : Nat → Nat) (i v : Nat) (_h : i < 256) : (blk b).setIfInBounds i (.int .u8 (v : Int)) = blk (fun j => if j = i then v else b j) := by
  apply Array.ext_getElem?
  intro j
  rw [Array.getElem?_setIfInBounds]
  by_cases hj : j < 256
  · by_cases e : i = j
    · subst e; simp [blk, hj]
    · have e' : ¬ j = i := fun x => e x.symm
      simp [blk, hj, e, e']
  · have : ¬ j < 256 := hj
    by_cases e : i = j
    · subst e; omega
    · simp [blk, hj, e]
theorem blk_ext {b c : Nat → Nat} (h : ∀ i, i < 256 → b i = c i) : blk b = blk c := by
  unfold blk
  congr 1
  funext i
  rw [h i i.2]
theorem blk_inj {b c : Nat → Nat} (h : blk b = blk c) : ∀ i, i < 256 → b i = c i := by
  intro i hi
  have h1 := blk_get b i hi
  rw [h, blk_get c i hi] at h1
  simp at h1
  omega
theorem blk_one (b : Nat → Nat) : (blk b).all (·.oneCell') = true := by
  rw [Array.all_eq_true_iff_forall_mem]
  intro v hv
  simp only [blk, Array.mem_ofFn] at hv
  obtain ⟨i, rfl⟩ := hv
  rfl

variable {P : Program}

/-- A whole array loaded, whatever the guard says, so it says yes. -/
theorem wpl_load_arr {ops : Array Oper} {rest : List Oper} {o : Oper} {a : Act} {w : World} {Q : Exit → Act → World → Prop} (ty : TypeId) (x : Operand) (ho : o.op = .load ty x)
    (hw : Region.wanted o (yielded ops a.tmps) = true)
    (g : Nat) (hx : a.eval x = .pointer (some ⟨g, 0, none⟩)) (t : TypeId) (cs : Array Value) (fr : Nat × Nat) (hg : w.heap[g]? = some (.cells cs t fr)) (n : Nat) (e : TypeId)
    (hu : P.underlying ty = some (.array n e)) (hi : (P.info? ty).map (·.size) = some cs.size)
    (h : wpList P ops Q rest (a.put o.dst (.agg cs)) w) : wpList P ops Q (o :: rest) a w := by
  unfold wpList
  rw [if_pos hw]
  exact .inl (wp_load_row ty x ho g hx t cs fr _ hg hu rfl hi h)

/-- A whole array stored. -/
theorem wpl_store_arr {ops : Array Oper} {rest : List Oper} {o : Oper} {a : Act} {w : World} {Q : Exit → Act → World → Prop} (ty : TypeId) (x y : Operand) (ho : o.op = .store ty x y)
    (hw : Region.wanted o (yielded ops a.tmps) = true)
    (g : Nat) (cells : Array Value) (hx : a.eval x = .pointer (some ⟨g, 0, none⟩)) (hy : a.eval y = .agg cells)
    (t : TypeId) (old : Array Value) (hg : w.heap[g]? = some (.cells old t (0, 0))) (hi : (P.info? ty).map (·.size) = some cells.size)
    (hold : old.size = cells.size) (h1 : cells.all (·.oneCell') = true)
    (h : wpList P ops Q rest (a.put o.dst undef) (w.setRow g cells)) : wpList P ops Q (o :: rest) a w := by
  unfold wpList
  rw [if_pos hw]
  exact .inl (wp_store_row ty x y ho g cells hx hy t old hg hi hold h1 h)

theorem heap_at_alloc (w : World) (o : Obj) (n : Nat) (hn : n = w.heap.size) : (w.alloc o).heap[n]? = some o := by subst hn; exact heap_alloc_last w o
theorem heap_past_alloc {w : World} {o x : Obj} {n : Nat} (h : w.heap[n]? = some x) : (w.alloc o).heap[n]? = some x :=
  (Below.heap_alloc w o n (Array.getElem?_eq_some_iff.1 h).1).trans h
theorem heap_below {w w' : World} {x : Obj} {n : Nat} {B : Nat} (hb : Below B w w') (hn : n < B) (h : w.heap[n]? = some x) : w'.heap[n]? = some x := (hb.block n hn).trans h

theorem lt_of_heap {w : World} {x : Obj} {n : Nat} (h : w.heap[n]? = some x) : n < w.heap.size := (Array.getElem?_eq_some_iff.1 h).1

section
variable {P : Program} (w : World)
def blkEq (b c : Nat → Nat) : Bool := (List.range 256).all fun i => b i == c i
theorem blkEq_iff (b c : Nat → Nat) : blkEq b c = true ↔ ∀ i, i < 256 → b i = c i := by
  unfold blkEq
  simp only [List.all_eq_true, List.mem_range, beq_iff_eq]
theorem run_equalIn_blk (d : Nat) (t e : TypeId) (ht : P.underlying t = some (.array 256 e)) (he : P.underlying e = some (.int .u8)) (hsz : ∀ w, (sizeOf e).run P w = .ok 1 w) (b c : Nat → Nat) :
    (Op.equalIn (d + 2) t (.agg (blk b)) (.agg (blk c))).run P w = .ok (blkEq b c) w := by
  rw [blkEq, List.range_eq_range', Op.equalIn]
  simp only [Sem.run_bind, run_underlying ht, Result.andThen_ok, hsz, Std.Legacy.Range.forIn_eq_forIn_range', Std.Legacy.Range.size, Nat.sub_zero, Nat.add_sub_cancel, Nat.div_one]
  have hl : ∀ i ∈ List.range' 0 256 1, i < 256 := fun i hi => by simpa using (List.mem_range'_1.1 hi).2
  generalize List.range' 0 256 1 = l at hl ⊢
  induction l with
  | nil => simp
  | cons i l ih =>
    have hi : i < 256 := hl i (by simp)
    have px : ∀ b : Nat → Nat, (part e (blk b) (i * 1)).run P w = .ok (.int .u8 (b i : Int)) w := fun b => by
      simp [part, isAgg, run_underlying he, blk_get b i hi]
    have pe : (Op.equalIn (d + 1) e (.int .u8 (b i : Int)) (.int .u8 (c i : Int))).run P w = .ok (b i == c i) w := by
      rw [run_equalIn_int w d e .u8 .u8 _ _ he]
      congr 1
      rw [Bool.eq_iff_iff]
      simp
      omega
    simp only [List.forIn_cons, Sem.run_bind, px, pe, Result.andThen_ok, List.all_cons]
    cases hb : (b i == c i)
    · simp
    · simp only [Bool.not_true, Bool.false_eq_true, if_false, Sem.run_pure, Result.andThen_ok, Bool.true_and]
      exact ih fun j hj => hl j (by simp [hj])
theorem run_eql_blk (t e : TypeId) (ht : P.underlying t = some (.array 256 e)) (he : P.underlying e = some (.int .u8)) (hsz : ∀ w, (sizeOf e).run P w = .ok 1 w) (b c : Nat → Nat) :
    (binOp .eql t (.agg (blk b)) (.agg (blk c))).run P w = .ok (.bool (blkEq b c)) w := by
  rw [run_eql_struct, run_equalIn_blk w 9998 t e ht he hsz b c]
  rfl
end


section
variable {P : Program}
/-- A world behind w: what lay in w lies as it lay. -/
structure Later (w : World) where
  x : World
  h : Below w.heap.size w x
instance later_some (w : World) : Nonempty (Later w) := ⟨⟨w, Below.refl _ _⟩⟩
/-- A region that draws its order, only reads, and whose callees lay blocks of their own at most: walked once, in the text's order. -/
theorem wp_region_later {id : Nat} {Q : Exit → Act → World → Prop} {a : Act} {w : World} {l : List Oper} (hm : P.follows .mixedOrders = true) (hB : Region.lexB .any l.toArray = true)
    (h : wpQuiet P l.toArray (fun w' => ∃ p : Later w, w' = p.x) (fun a' => ∀ p : Later w, Q .normal a' p.x) l a) : (Code.region id l.toArray true).wp P Q a w :=
  wp_region_quiet (C := fun w' => ∃ p : Later w, w' = p.x) hm hB ⟨⟨_, (Below.refl _ _).drew⟩, rfl⟩ (by
    show wpQuiet _ _ _ _ l a
    have e : (fun a' => ∀ w', (∃ p : Later w, w' = p.x) → Q .normal a' w') = (fun a' => ∀ p : Later w, Q .normal a' p.x) := by
      funext a'; simp
    rw [e]; exact h)
theorem wpq_load_arr {ops : Array Oper} {rest : List Oper} {o : Oper} {a : Act} {C : World → Prop} {Q : Act → Prop} (ty : TypeId) (x : Operand) (ho : o.op = .load ty x)
    (hw : Region.wanted o (yielded ops a.tmps) = true)
    (g : Nat) (hx : a.eval x = .pointer (some ⟨g, 0, none⟩)) (t : TypeId) (cs : Array Value) (fr : Nat × Nat) (hg : ∀ w, C w → w.heap[g]? = some (.cells cs t fr)) (n : Nat) (e : TypeId)
    (hu : P.underlying ty = some (.array n e)) (hi : (P.info? ty).map (·.size) = some cs.size)
    (h : wpQuiet P ops C Q rest (a.put o.dst (.agg cs))) : wpQuiet P ops C Q (o :: rest) a := by
  unfold wpQuiet
  rw [if_pos hw]
  refine ⟨_, fun w hC => ?_, h⟩
  have := run_loadVar_row w g t ty cs fr _ (hg w hC) hu rfl hi
  unfold Oper.quietAt execOp
  simp only [ho, hx, Instr.loadAt, Instr.sureAddr, Sem.run_bind, Sem.run_pure, Result.andThen_ok, this]
  exact ⟨rfl, rfl⟩
end

theorem below_setRow' {B g : Nat} {w0 w : World} (hb : Below B w0 w) (hBg : B ≤ g) (cs : Array Value) : Below B w0 (w.setRow g cs) :=
  hb.trans ⟨rfl, rfl, rfl, by simp, fun k hk => setRow_other w g k cs (by omega)⟩
theorem below_setRow_both {B g : Nat} {w w' : World} (hb : Below B w w') (hg : g < B) (cs : Array Value) : Below B (w.setRow g cs) (w'.setRow g cs) := by
  refine ⟨hb.os, hb.tape, hb.output, by simpa using hb.size, fun k hk => ?_⟩
  by_cases e : k = g
  · subst e
    simp [World.setRow, Array.getElem?_modify, hb.block k hk]
  · rw [setRow_other w' g k cs e, setRow_other w g k cs e]
    exact hb.block k hk

end Go.Proofs.Ytbcjcfjbdjdajaa
