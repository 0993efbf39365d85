/- Whole arrays of bytes as single things in a walk: a load and a store of one, and what a world holds at a block, as rules of the walk. No condition but those written. -/
import Derived.Test.YtcheogbijioadaaL1
namespace Go.Proofs.Ytcheogbijioadaa
open Go.RowKit

def bigLoadAt (t : TypeId) (v : Value) : Sem Value := Instr.loadAt t v
def bigStoreAt (t : TypeId) (v x : Value) : Sem Unit := Instr.storeAt t v x
theorem loadAt23 (v : Value) : Instr.loadAt 23 v = bigLoadAt 23 v := rfl
theorem storeAt23 (v x : Value) : Instr.storeAt 23 v x = bigStoreAt 23 v x := rfl
/-- Is that an array of 256 cells? -/
def okRow (cs : Array Value) : Bool := decide (cs.size = 256) && cs.all (·.oneCell')
theorem okRow_blk (b : Nat → Nat) : okRow (blk b) = true := by
  have h1 := blk_size b
  have h2 := blk_one b
  generalize blk b = cs at h1 h2
  unfold okRow
  rw [h2]
  simpa using h1
def freeObj : Obj → Bool
  | .cells _ _ (lo, hi) => lo == 0 && hi == 0
  | _ => false
def objRow : Obj → Array Value
  | .cells cs _ (lo, hi) => if lo == 0 && hi == 0 then cs else #[]
  | _ => #[]
theorem freeObj_cells (cs : Array Value) (t : TypeId) : freeObj (.cells cs t) = true := rfl
theorem objRow_cells (cs : Array Value) (t : TypeId) : objRow (.cells cs t) = cs := rfl
/-- Does block g hold cells, none of them frozen? -/
def isFree (w : World) (g : Nat) : Bool := match w.heap[g]? with | some o => freeObj o | none => false
/-- The cells of block g. -/
def rowOf (w : World) (g : Nat) : Array Value := match w.heap[g]? with | some o => objRow o | none => #[]
theorem heap_alloc_if (w : World) (o : Obj) (g : Nat) : (w.alloc o).heap[g]? = if g = w.heap.size then some o else w.heap[g]? := by
  show (w.heap.push o)[g]? = _
  rw [Array.getElem?_push]
theorem isFree_alloc (w : World) (o : Obj) (g : Nat) : isFree (w.alloc o) g = if g = w.heap.size then freeObj o else isFree w g := by
  unfold isFree
  rw [heap_alloc_if]
  by_cases h : g = w.heap.size <;> simp [h]
theorem rowOf_alloc (w : World) (o : Obj) (g : Nat) : rowOf (w.alloc o) g = if g = w.heap.size then objRow o else rowOf w g := by
  unfold rowOf
  rw [heap_alloc_if]
  by_cases h : g = w.heap.size <;> simp [h]
theorem isFree_drew (w : World) (g : Nat) : isFree w.drew g = isFree w g := rfl
theorem rowOf_drew (w : World) (g : Nat) : rowOf w.drew g = rowOf w g := rfl
theorem setRow_if (w : World) (g g' : Nat) (cs : Array Value) : (w.setRow g' cs).heap[g]? = (w.heap[g]?).map fun o => if g = g' then (match o with | .cells _ e f => .cells cs e f | o => o) else o := by
  simp only [World.setRow, Array.getElem?_modify]
  by_cases h : g' = g
  · subst h; simp
    cases w.heap[g']? <;> rfl
  · have h' : ¬ g = g' := fun e => h e.symm
    simp [h, h']
theorem isFree_set (w : World) (g g' : Nat) (cs : Array Value) : isFree (w.setRow g' cs) g = isFree w g := by
  unfold isFree
  rw [setRow_if]
  cases w.heap[g]? with
  | none => rfl
  | some o =>
    by_cases e : g = g'
    · simp only [Option.map_some, e, if_true]; cases o <;> rfl
    · simp [e]
theorem rowOf_set (w : World) (g g' : Nat) (cs : Array Value) : rowOf (w.setRow g' cs) g = if g = g' then (if isFree w g then cs else #[]) else rowOf w g := by
  unfold rowOf isFree
  rw [setRow_if]
  cases w.heap[g]? with
  | none => simp
  | some o =>
    by_cases e : g = g'
    · simp only [Option.map_some, e, if_true]; cases o <;> first | rfl | simp [freeObj, objRow]
    · simp [e]
def isArr (w : World) (g : Nat) : Bool := isFree w g && okRow (rowOf w g)
theorem isArr_heap {w : World} {g : Nat} (h : isArr w g = true) : ∃ t, w.heap[g]? = some (.cells (rowOf w g) t (0, 0)) ∧ okRow (rowOf w g) = true := by
  unfold isArr at h
  rw [Bool.and_eq_true] at h
  obtain ⟨h1, h2⟩ := h
  refine ⟨?_, ?_, h2⟩
  · exact match w.heap[g]? with | some (.cells _ t _) => t | _ => 0
  · unfold isFree at h1
    unfold rowOf
    cases ho : w.heap[g]? with
    | none => rw [ho] at h1; cases h1
    | some o =>
      rw [ho] at h1
      cases o with
      | cells cs t fr =>
        obtain ⟨lo, hi⟩ := fr
        simp only [freeObj, Bool.and_eq_true, beq_iff_eq] at h1
        obtain ⟨rfl, rfl⟩ := h1
        rfl
      | _ => simp [freeObj] at h1
theorem heap_isFree {w : World} {g t : Nat} {cs : Array Value} (h : w.heap[g]? = some (.cells cs t (0, 0))) : isFree w g = true ∧ rowOf w g = cs := by
  unfold isFree rowOf
  rw [h]
  exact ⟨rfl, rfl⟩
theorem okRow_size {cs : Array Value} (h : okRow cs = true) : cs.size = 256 ∧ cs.all (·.oneCell') = true := by
  unfold okRow at h
  rw [Bool.and_eq_true, decide_eq_true_eq] at h
  exact h
theorem run_big23 (g : Nat) (w : World) (h0 : isFree w g = true) (h9 : okRow (rowOf w g) = true) : (bigLoadAt 23 (.pointer (some ⟨g, 0, none⟩))).run Try.prog w = .ok (.agg (rowOf w g)) w := by
  obtain ⟨t, h1, h2⟩ := isArr_heap (by unfold isArr; rw [h0, h9]; rfl)
  have := run_loadVar_row w g t 23 _ _ _ h1 Try.underlying23 rfl (by rw [(okRow_size h2).1]; exact info23)
  unfold bigLoadAt
  simp only [Instr.loadAt, Instr.sureAddr, Sem.run_bind, Sem.run_pure, Result.andThen_ok, this]
theorem run_bigst23 (g : Nat) (cs : Array Value) (w : World) (h0 : isFree w g = true) (h9 : okRow (rowOf w g) = true) (h2 : okRow cs = true) : (bigStoreAt 23 (.pointer (some ⟨g, 0, none⟩)) (.agg cs)).run Try.prog w = .ok () (w.setRow g cs) := by
  obtain ⟨t, h1, h3⟩ := isArr_heap (by unfold isArr; rw [h0, h9]; rfl)
  have := run_storeVar_row (P := Try.prog) w g t 23 _ cs h1 (by rw [(okRow_size h2).1]; exact info23) (by rw [(okRow_size h2).1, (okRow_size h3).1]) (okRow_size h2).2
  unfold bigStoreAt
  simp only [Instr.storeAt, Instr.sureAddr, Sem.run_bind, Sem.run_pure, Result.andThen_ok, this]
theorem isFree_below {w w' : World} {g : Nat} {B : Nat} (hb : Below B w w') (hg : g < B) : isFree w' g = isFree w g ∧ rowOf w' g = rowOf w g := by
  unfold isFree rowOf
  rw [hb.block g hg]
  exact ⟨rfl, rfl⟩
/-- Block g holds the bytes b. -/
structure HoldsB (w : World) (g : Nat) (b : Nat → Nat) : Prop where
  arr : isFree w g = true
  row : rowOf w g = blk b
theorem HoldsB.heap {w : World} {g : Nat} {b : Nat → Nat} (h : HoldsB w g b) : ∃ t, w.heap[g]? = some (.cells (blk b) t (0, 0)) := by
  obtain ⟨t, h1, _⟩ := isArr_heap (w := w) (g := g) (by unfold isArr; rw [h.arr, h.row, okRow_blk]; rfl)
  rw [h.row] at h1
  exact ⟨t, h1⟩
theorem HoldsB.lt {w : World} {g : Nat} {b : Nat → Nat} (h : HoldsB w g b) : g < w.heap.size := by
  obtain ⟨t, h1⟩ := h.heap
  exact lt_of_heap h1
theorem HoldsB.of {w : World} {g t : Nat} {b : Nat → Nat} (h : w.heap[g]? = some (.cells (blk b) t (0, 0))) : HoldsB w g b := ⟨(heap_isFree h).1, (heap_isFree h).2⟩
theorem HoldsB.later {w w' : World} {g B : Nat} {b : Nat → Nat} (h : HoldsB w g b) (hb : Below B w w') (hg : g < B) : HoldsB w' g b :=
  ⟨(isFree_below hb hg).1.trans h.arr, (isFree_below hb hg).2.trans h.row⟩
theorem HoldsB.set {w : World} {g : Nat} {b : Nat → Nat} (h : HoldsB w g b) (c : Nat → Nat) : HoldsB (w.setRow g (blk c)) g c :=
  ⟨(isFree_set w g g _).trans h.arr, by rw [rowOf_set, h.arr]; simp⟩
theorem HoldsB.set_other {w : World} {g g' : Nat} {b : Nat → Nat} (h : HoldsB w g b) (hne : g ≠ g') (cs : Array Value) : HoldsB (w.setRow g' cs) g b :=
  ⟨(isFree_set w g g' _).trans h.arr, by rw [rowOf_set, if_neg hne]; exact h.row⟩
theorem HoldsB.new (w : World) (b : Nat → Nat) (t : TypeId) : HoldsB (w.alloc (.cells (blk b) t)) w.heap.size b := HoldsB.of (heap_at_alloc _ _ _ rfl)
theorem HoldsB.alloc {w : World} {g : Nat} {b : Nat → Nat} (h : HoldsB w g b) (o : Obj) : HoldsB (w.alloc o) g b := by
  have := h.lt
  exact ⟨by rw [isFree_alloc, if_neg (by omega)]; exact h.arr, by rw [rowOf_alloc, if_neg (by omega)]; exact h.row⟩
theorem HoldsB.drew {w : World} {g : Nat} {b : Nat → Nat} (h : HoldsB w g b) : HoldsB w.drew g b := ⟨h.arr, h.row⟩
theorem setRow_same {w : World} {g : Nat} {b : Nat → Nat} (h : HoldsB w g b) : w.setRow g (blk b) = w := by
  obtain ⟨t, h1⟩ := h.heap
  exact setRow_self w g _ t _ h1

theorem turned_true (b : Nat → Nat) (i : Int) (s : Bool) (h : 0 ≤ i ∧ i < 2048 ∧ hasB b i = s) : turned b i (!s) = flip b i.toNat ∧ doesTurn b i (!s) = true := by
  unfold turned doesTurn
  rw [if_pos (by simpa using h)]
  refine ⟨rfl, ?_⟩
  simp [h.1, h.2.1, h.2.2]
theorem turned_false (b : Nat → Nat) (i : Int) (s : Bool) (h : ¬ (0 ≤ i ∧ i < 2048 ∧ hasB b i = s)) : turned b i (!s) = b ∧ doesTurn b i (!s) = false := by
  unfold turned doesTurn
  rw [if_neg (by simpa using h)]
  refine ⟨rfl, ?_⟩
  rw [Bool.eq_false_iff]
  intro h2
  simp only [Bool.not_not, Bool.and_eq_true, decide_eq_true_eq, beq_iff_eq] at h2
  exact h ⟨h2.1.1, h2.1.2, h2.2⟩
theorem turned_lt (b : Nat → Nat) (hb : ∀ i, b i < 256) (i : Int) (s : Bool) : ∀ j, turned b i s j < 256 := by
  unfold turned
  split
  · exact flip_lt b hb _
  · exact hb
theorem turn_uni {b : Nat → Nat} {g : Nat} {i : Int} {s : Bool} {w : World} (hg : HoldsB w g b) {e : Ending} {w' : World} (h : TurnPost b g i s w e w') :
    e = .returned (.bool (doesTurn b i (!s))) ∧ Below w.heap.size (w.setRow g (blk (turned b i (!s)))) w' := by
  unfold TurnPost at h
  split at h
  · rename_i hc
    rw [(turned_true b i s hc).1, (turned_true b i s hc).2]; exact h
  · rename_i hc
    rw [(turned_false b i s hc).1, (turned_false b i s hc).2, setRow_same hg]; exact h
theorem set_u (b : Nat → Nat) (hb : ∀ i, b i < 256) (g : Nat) (i : Int) (w : World) (hg : HoldsB w g b) :
    Calls Try.prog 14 #[.pointer (some ⟨g, 0, none⟩), .int .i64 i] w fun e w' => e = .returned (.bool (doesTurn b i true)) ∧ Below w.heap.size (w.setRow g (blk (turned b i true))) w' := by
  obtain ⟨t, h1⟩ := hg.heap
  exact (set_any b hb g t i w h1).mono fun e w' h => turn_uni hg h
theorem clear_u (b : Nat → Nat) (hb : ∀ i, b i < 256) (g : Nat) (i : Int) (w : World) (hg : HoldsB w g b) :
    Calls Try.prog 15 #[.pointer (some ⟨g, 0, none⟩), .int .i64 i] w fun e w' => e = .returned (.bool (doesTurn b i false)) ∧ Below w.heap.size (w.setRow g (blk (turned b i false))) w' := by
  obtain ⟨t, h1⟩ := hg.heap
  exact (clear_any b hb g t i w h1).mono fun e w' h => turn_uni hg h
theorem blkEq_refl (b : Nat → Nat) : blkEq b b = true := by rw [blkEq_iff]; intro i _; rfl
end Go.Proofs.Ytcheogbijioadaa
