/- replay.Overlay of the given program. The transactions have at most 100000 copies. -/
import Derived.Test.YtdeeegodiacjgaaW6
import Derived.Test.YtdeeegodiacjgaaSort
import Derived.Sort.OwnSortedInts
import Derived.Lib.SlKeysI
namespace Go.Proofs.Ytdeeegodiacjgaa
open Go.RowKit Go.Sort
attribute [local go_sem ↓] loadAtB storeAtB loadAtC storeAtC buildAtC sliceAtC sliceAtB
def cval (c : Cp) : Value := .agg (ca c)
theorem mk74 : ∀ w, (Instr.makeMap 74 none).run Try.prog w = .ok (.map (some w.heap.size)) (w.alloc (.map #[] 0)) := fun w => by kernel_rfl
abbrev Mp := List (Int × Cp)
def upds (m : Mp) (cs : List Cp) : Mp := cs.foldl (fun m c => updD m c.1 c) m
def dels (m : Mp) (rs : List Int) : Mp := rs.foldl delD m
def ovStep (m : Mp) (t : Tr) : Mp := dels (upds m t.2.1) t.2.2
def ovMap (l : List Tr) : Mp := l.foldl ovStep []
theorem upds_snoc (m : Mp) (cs : List Cp) (c : Cp) : upds m (cs ++ [c]) = updD (upds m cs) c.1 c := by simp [upds]
theorem dels_snoc (m : Mp) (rs : List Int) (b : Int) : dels m (rs ++ [b]) = delD (dels m rs) b := by simp [dels]
theorem ovMap_snoc (l : List Tr) (t : Tr) : ovMap (l ++ [t]) = ovStep (ovMap l) t := by simp [ovMap]
def cpsN (l : List Tr) : Nat := (l.map fun t => t.2.1.length).sum
theorem upds_len (m : Mp) (cs : List Cp) : (upds m cs).length ≤ m.length + cs.length := by
  induction cs generalizing m with
  | nil => simp [upds]
  | cons c cs ih =>
    have h1 := ih (updD m c.1 c)
    have h2 := updD_len m c.1 c
    show (upds (updD m c.1 c) cs).length ≤ _
    simp only [List.length_cons]
    omega
theorem dels_len (m : Mp) (rs : List Int) : (dels m rs).length ≤ m.length := by
  induction rs generalizing m with
  | nil => simp [dels]
  | cons b rs ih =>
    have h1 := ih (delD m b)
    have h2 := delD_len m b
    show (dels (delD m b) rs).length ≤ _
    omega
theorem ovMap_len (l : List Tr) : (ovMap l).length ≤ cpsN l := by
  suffices ∀ (l : List Tr) (m : Mp), (l.foldl ovStep m).length ≤ m.length + cpsN l by
    have := this l []
    simpa [ovMap] using this
  intro l
  induction l with
  | nil => intro m; simp [cpsN]
  | cons t l ih =>
    intro m
    have h1 := ih (ovStep m t)
    have h2 := dels_len (upds m t.2.1) t.2.2
    have h3 := upds_len m t.2.1
    have h4 : cpsN (t :: l) = t.2.1.length + cpsN l := by simp [cpsN]
    simp only [List.foldl_cons]
    unfold ovStep at h1 ⊢
    omega
/-- A fresh copy. -/
theorem stCnew (w : World) (z c : Cp) : (bigStoreAt 40 (.pointer (some ⟨w.heap.size, 0, none⟩)) (.agg (ca c))).run Try.prog (w.alloc (.cells (ca z) 40)) = .ok () (w.alloc (.cells (ca c) 40)) := by
  have hW := Whole.new w (ca z) 40
  have h := stC (W := w.alloc (.cells (ca z) 40)) (g := w.heap.size) (o := 0) c (fun j hj => ⟨by rw [hW.cell (0 + j)]; simp [ca, cc_len]; omega, hW.free _⟩)
  rw [h]
  exact congrArg _ (setCells_whole w (cc z) 40 (cc c) (by rw [cc_len, cc_len]))
theorem Whole.rangeC {W : World} {g : Nat} {c : Cp} {t : TypeId} (h : Whole W g (ca c) t) : W.rangeAt g 0 (cc c) := by
  intro j v hv
  rw [Nat.zero_add, h.cell j]
  simpa [ca] using hv
theorem ldCnew (w : World) (c : Cp) : (bigLoadAt 40 (.pointer (some ⟨w.heap.size, 0, none⟩))).run Try.prog (w.alloc (.cells (ca c) 40)) = .ok (.agg (ca c)) (w.alloc (.cells (ca c) 40)) := ldC (Whole.new w (ca c) 40).rangeC
theorem ca_zero (c : Cp) : (ca c)[0]? = some (.int .i64 c.1) := by simp [ca, cc]
theorem zcC : Try.zeroCells40 = ca (0, fun _ => 0) := by kernel_rfl
/-- What stands beside the map. -/
structure OV (w : World) (bm : Nat) (m : Mp) (W : World) : Prop where
  map : MapOf cval W bm m
  hbm : w.heap.size ≤ bm
  bel : Below w.heap.size w W
theorem OV.later {w : World} {bm : Nat} {m : Mp} {W W' : World} (h : OV w bm m W) (hb : Below W.heap.size W W') : OV w bm m W' :=
  ⟨h.map.later hb h.map.lt, h.hbm, h.bel.trans (hb.mono h.bel.size)⟩
theorem OV.turn {w : World} {bm : Nat} {m m' : Mp} {W W' : World} (h : OV w bm m W) (hm : MapOf cval W' bm m') (hc : Chg W W' bm) : OV w bm m' W' :=
  ⟨hm, h.hbm, h.bel.trans (hc.below h.hbm)⟩
theorem Whole.chg {W W' : World} {g r : Nat} {cs : Array Value} {t : TypeId} (h : Whole W g cs t) (hc : Chg W W' r) (hne : g ≠ r) : Whole W' g cs t := (hc.other g hne).trans h
end Go.Proofs.Ytdeeegodiacjgaa
