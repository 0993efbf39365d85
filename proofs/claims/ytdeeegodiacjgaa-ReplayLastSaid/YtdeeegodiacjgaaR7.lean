/- Transactions that are told in short, laid as a list of one; what is found among copies. No condition but those written. -/
import Derived.Test.YtdeeegodiacjgaaR5
import Derived.Test.YtdeeegodiacjgaaR2
import Derived.Test.YtdeeegodiacjgaaFork
import Derived.Test.YtdeeegodiacjgaaOpenC
namespace Go.Proofs.Ytdeeegodiacjgaa
open Go.RowKit
/-- Transactions with the values under which they lie. -/
structure TV (W : World) (v : Value) (vs : List Tv) (l : List Tr) : Prop where
  len : vs.length = l.length
  sl : Sl W v vs.length (flat tc vs)
  at_ : TrsAt W vs l
  one : ∀ u ∈ flat tc vs, u.oneCell' = true
theorem TV.later {W W' : World} {v : Value} {vs : List Tv} {l : List Tr} (h : TV W v vs l) (hb : Below W.heap.size W W') : TV W' v vs l := ⟨h.len, h.sl.later hb, h.at_.later hb, h.one⟩
theorem TV.trs {W : World} {v : Value} {vs : List Tv} {l : List Tr} (h : TV W v vs l) : Trs W v l := ⟨vs, h.len, h.sl, h.at_⟩
theorem SI.tv {w : World} {v : Value} {vs : List Tv} {l : List Tr} {W : World} (h : SI w v vs l W) : TV W v vs l := ⟨h.len, Sl.own h.own, h.atall, h.ones⟩
def ShPost (l : List Lt) (w : World) (e : Ending) (w' : World) : Prop := ∃ a c vs, e = .returned (.slice a (shortL l).length c) ∧ TV w' (.slice a (shortL l).length c) vs (shortL l) ∧ Below w.heap.size w w'
theorem short_tv (l : List Lt) (hl : l.length ≤ 60) (hs : szs l ≤ 1000) (hok : OkLt l) (v : Value) (w : World) (h : Lts w v l) : Calls Try.prog 11 #[v] w (ShPost l w) := by
  refine (short_any l hl hs hok v w h).mono ?_
  rintro e w' ⟨v5, vs5, rfl, hs5⟩
  obtain ⟨a, c, hsh⟩ := own_shape hs5.own
  rw [hs5.len] at hsh
  subst hsh
  exact ⟨a, c, vs5, rfl, hs5.tv, hs5.bel⟩
theorem lts_one {W : World} {g : Nat} {x : Lv} {t : Lt} {ty : TypeId} (h : Whole W g (lc x).toArray ty) (hx : LvOk W x t) : Lts W (.slice (some ⟨g, 0, none⟩) 1 1) [t] := by
  refine ⟨[x], rfl, ?_, fun i y u hy hu => ?_⟩
  · have e : flat lc [x] = lc x := by simp [flat]
    rw [e]
    exact sl_whole h 1 (by omega)
  · cases i with
    | zero =>
      simp at hy hu
      subst hy hu
      exact ⟨hx.1, hx.2.1⟩
    | succ i => simp at hy
theorem LvOk.later {W W' : World} {x : Lv} {t : Lt} (h : LvOk W x t) (hb : Below W.heap.size W W') : LvOk W' x t := ⟨Sl.later h.1 hb, Sl.later h.2.1 hb, h.2.2⟩
theorem ok_one {W : World} {x : Lv} {t : Lt} (h : LvOk W x t) : OkLt [t] := fun u hu r hr => by
  rw [List.mem_singleton.1 hu] at hr
  exact h.2.2 r hr
/-- Does a list have that very copy? -/
def anyEq (L : List Cp) (c : Cp) : Bool := L.any fun d => cpEq d c
theorem anyEq_snoc {L : List Cp} {k : Nat} {d : Cp} (h : L[k]? = some d) (c : Cp) : anyEq (L.take (k + 1)) c = (anyEq (L.take k) c || cpEq d c) := by
  rw [List.take_add_one, h]
  simp [anyEq]
theorem anyEq_mem {L : List Cp} {c : Cp} (h : c ∈ L) : anyEq L c = true := by
  unfold anyEq
  rw [List.any_eq_true]
  exact ⟨c, h, cpEq_refl c⟩
theorem fst_at {W : World} {g off i : Nat} {c : Cp} (h : W.rangeAt g (off + i * 257) (cc c)) : W.cell? ⟨g, off + i * 257, none⟩ = some (.int .i64 c.1) := by
  have := h 0 (.int .i64 c.1) rfl
  rwa [Nat.add_zero] at this
end Go.Proofs.Ytdeeegodiacjgaa
