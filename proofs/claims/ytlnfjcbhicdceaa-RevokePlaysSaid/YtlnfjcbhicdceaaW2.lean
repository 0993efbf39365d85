/- The table of revoked blocks: Last, Revoked of the given program. The table holds a map whose second numbers are not negative. -/
import Derived.Test.YtlnfjcbhicdceaaW1
namespace Go.Proofs.Ytlnfjcbhicdceaa
open Go.RowKit
def mx (x y : Int) : Int := max x y
theorem run_mx (ts : Array TypeId) (t : TypeId) (k k' : IntKind) (x y : Int) (w : World) : (Builtin.max_ ts t #[.int k x, .int k' y]).run Try.prog w = .ok (.int k (mx x y)) w := by
  simp [Builtin.max_, Builtin.max2, mx]
  omega
attribute [local go_sem high] run_mx
attribute [local go_sem] rk
structure LastInv (m left : M) (b best : Int) (found : Bool) : Prop where
  all : ∀ p ∈ m, p ∉ left → p.1.1 = b → found = true ∧ p.1.2 ≤ best
  one : found = true → ∃ p ∈ m, p.1.1 = b ∧ p.1.2 = best
  none : found = false → best = 0
theorem LastInv.start (m : M) (b : Int) : LastInv m m b 0 false := ⟨fun p h1 h2 => absurd h1 h2, fun h => (by cases h), fun _ => rfl⟩
theorem LastInv.skip {m left : M} {b best : Int} {found : Bool} (h : LastInv m left b best found) {p : (Int × Int) × Value} (hp : p.1.1 ≠ b) : LastInv m (del left p.1) b best found :=
  ⟨fun q h1 h2 h3 => h.all q h1 (fun h4 => h2 (mem_del.2 ⟨h4, fun e => hp (by rw [← e]; exact h3)⟩)) h3, h.one, h.none⟩
theorem LastInv.take {m left : M} {b best : Int} {found : Bool} (h : LastInv m left b best found) {p : (Int × Int) × Value} (hm : p ∈ m) (hp : p.1.1 = b) (h0 : 0 ≤ p.1.2) : LastInv m (del left p.1) b (mx best p.1.2) true := by
  unfold mx
  refine ⟨fun q h1 h2 h3 => ⟨rfl, ?_⟩, fun _ => ?_, fun e => by cases e⟩
  · by_cases e : q.1 = p.1
    · rw [e]; omega
    · have := (h.all q h1 (fun h4 => h2 (mem_del.2 ⟨h4, e⟩)) h3).2
      omega
  · cases found with
    | false =>
      have := h.none rfl
      exact ⟨p, hm, hp, by omega⟩
    | true =>
      obtain ⟨q, a1, a2, a3⟩ := h.one rfl
      by_cases e : best ≤ p.1.2
      · exact ⟨p, hm, hp, by omega⟩
      · exact ⟨q, a1, a2, by omega⟩
/-- The greatest number of a block's records, and whether there is one. -/
def LastIs (m : M) (b best : Int) (found : Bool) : Prop := LastInv m [] b best found
def LastPost (m : M) (b : Int) (w : World) (e : Ending) (w' : World) : Prop := ∃ best found, e = .returned (.tuple #[.int .u32 best, .bool found]) ∧ LastIs m b best found ∧ Below w.heap.size w w'
theorem Ranging.alloc {W : World} {it bm : Nat} {m left : M} (h : Ranging rk W it bm m left) (o : Obj) : Ranging rk (W.alloc o) it bm m left :=
  h.of_heap (Below.heap_alloc W o _ h.lt.1) (Below.heap_alloc W o _ h.lt.2.1)
/-- What stands in the loop. -/
structure LI (m : M) (b : Int) (g bm it : Nat) (w : World) (v f : Value) (left : M) (W : World) : Prop where
  rng : Ranging rk W it bm m left
  bel : Below w.heap.size w W
  val : ∃ best found, v = .int .u32 best ∧ f = .bool found ∧ LastInv m left b best found
theorem LI.more {m : M} {b : Int} {g bm it : Nat} {w W W' : World} {v f v' f' : Value} {left : M} {p : (Int × Int) × Value} {o : Obj} (h : LI m b g bm it w v f left W) (hit : w.heap.size ≤ it) (hr : Ranging rk W' it bm m (del left p.1)) (hc : Chg W W' it) (hp : p ∈ left)
    (hv : ∃ best found, v' = .int .u32 best ∧ f' = .bool found ∧ LastInv m (del left p.1) b best found) : (∃ left, LI m b g bm it w v' f' left (W'.alloc o)) ∧ (W'.alloc o).rangeLeft bm it < W.rangeLeft bm it := by
  have hb : Below w.heap.size w W' := h.bel.trans (hc.below hit)
  refine ⟨⟨_, (hr.alloc o), hb.alloc hb.size o, hv⟩, ?_⟩
  rw [(hr.alloc o).left_eq, h.rng.left_eq]
  exact del_length hp
set_option maxRecDepth 100000 in
theorem last_tab (g bm : Nat) (m : M) (b : Int) (hs : ∀ p ∈ m, 0 ≤ p.1.1 ∧ 0 ≤ p.1.2) (w : World) (h : Tab w g bm m) :
    Calls Try.prog 10 #[.pointer (some ⟨g, 0, none⟩), .int .i64 b] w (LastPost m b w) := by
  have c1 := h.cell
  have H := Lib.hid h
  have hsH := Lib.hid hs
  clear h hs
  by_cases hb : b < 0
  · go_enter Try.func10, Try.ntmps10
    go_wp2_with (go_at_call 24; refine (refuse_tab g bm m _ _ H.out).mono ?_; rintro e w1 ⟨rfl, rfl⟩; rw [if_pos hb])
    refine bodyPost_ret (results_tmp2 rfl _ _ _) rfl ⟨0, false, rfl, ⟨fun p h1 _ h3 => ?_, fun e => (by cases e), fun _ => rfl⟩, Below.refl _ _⟩
    have := (hsH.out p h1).1
    omega
  · go_enter Try.func10, Try.ntmps10
    go_wp2_with (first
      | (go_at_call 24; refine (refuse_tab g bm m _ _ H.out).mono ?_; rintro e w1 ⟨rfl, rfl⟩; rw [if_neg (by omega)])
      | (at_range; refine wpl_range rfl _ 48 rfl 3 Try.underlying48 _ bm m rfl H.out.map ?_; intro w2 hr2 hb2 hz2; have R := Lib.hid hr2; have B := Lib.hid hb2; have hz := Lib.hid hz2; clear hr2 hb2 hz2; go_frame))
    go_loopw [6, 7] (fun v f W => ∃ left, LI m b g bm w1.heap.size w1 v f left W) (fun _ _ W => W.rangeLeft bm w1.heap.size)
    case atStart => exact ⟨m, R.out, B.out, 0, false, rfl, rfl, LastInv.start m b⟩
    case round =>
      obtain ⟨left, hI⟩ := hrel
      obtain ⟨best, found, rfl, rfl, hL⟩ := hI.val
      have hIH := Lib.hid hI
      have hLH := Lib.hid hL
      have hms : Hid (wr.rangeLeft bm w1.heap.size = left.length) := hI.rng.left_eq
      clear hI hL
      go_wp2_with (at_next; refine wpl_next rfl _ rfl _ w1.heap.size bm m left rfl hIH.out.rng (fun hnil => ?_) (fun p w3 hp hr3 hc3 hen => ?_); (have hN := Lib.hid hnil; clear hnil; go_frame); rotate_left; (have hpH := Lib.hid hp; have hr3H := Lib.hid hr3; have hc3H := Lib.hid hc3; have he : (Instr.entry (.pointer (some ⟨w1.heap.size, 0, none⟩))).run Try.prog w3 = .ok (.tuple #[.agg #[.int .i64 p.1.1, .int .u32 p.1.2], p.2]) w3 := hen; clear hp hr3 hc3 hen; go_frame); rotate_left)
      · refine bodyPost_ret (results_tmp2 rfl _ _ _) rfl ⟨best, found, rfl, ?_, hIH.out.bel⟩
        have := hLH.out
        rw [hN.out] at this
        exact this
      · have hpb : p.1.1 = b := by simpa using ‹(p.1.1 == b) = true›
        exact hIH.out.more (Nat.le_refl _) hr3H.out hc3H.out hpH.out ⟨_, _, rfl, rfl, hLH.out.take (hIH.out.rng.sub.subset hpH.out) hpb (hsH.out p (hIH.out.rng.sub.subset hpH.out)).2⟩
      · have hpb : ¬ p.1.1 = b := by simpa using ‹(p.1.1 == b) = false›
        exact hIH.out.more (Nat.le_refl _) hr3H.out hc3H.out hpH.out ⟨_, _, rfl, rfl, hLH.out.skip hpb⟩
/-- Is the block revoked for the number? -/
def RevPost (m : M) (b s : Int) (w : World) (e : Ending) (w' : World) : Prop := ∃ best found, e = .returned (.bool (found && decide (s ≤ best))) ∧ LastIs m b best found ∧ Below w.heap.size w w'
theorem rev_tab (g bm : Nat) (m : M) (b s : Int) (hs : ∀ p ∈ m, 0 ≤ p.1.1 ∧ 0 ≤ p.1.2) (w : World) (h : Tab w g bm m) :
    Calls Try.prog 11 #[.pointer (some ⟨g, 0, none⟩), .int .i64 b, .int .u32 s] w (RevPost m b s w) := by
  have H := Lib.hid h
  have hsH := Lib.hid hs
  clear h hs
  go_enter Try.func11, Try.ntmps11
  go_wp2_with fail
  refine (last_tab g bm m b hsH.out _ H.out).mono ?_
  rintro e w1 ⟨best, found, rfl, hL, hB⟩
  have hLH := Lib.hid hL
  have hBH := Lib.hid hB
  clear hL hB
  cases found
  all_goals
    go_wp2
    go_ret
    refine ⟨_, _, ?_, hLH.out, hBH.out⟩
    simp
end Go.Proofs.Ytlnfjcbhicdceaa
