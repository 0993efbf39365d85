/- The given statement ReplayOverlay, walked: its helpers. No condition but those written. -/
import Derived.Test.YtdeeegodiacjgaaW13
namespace Go.Proofs.Ytdeeegodiacjgaa
open Go.RowKit
attribute [local go_sem ↓] loadAtB storeAtB loadAtC storeAtC buildAtC sliceAtC sliceAtB
theorem cpsN_short (l : List Lt) : cpsN (shortL l) ≤ szs l := by
  suffices ∀ n, cpsN (shortL (l.take n)) ≤ szs (l.take n) by
    have := this l.length
    rwa [List.take_length] at this
  intro n
  induction n with
  | zero => simp [shortL, cpsN, szs]
  | succ n ih =>
    cases h : l[n]? with
    | none =>
      rw [List.take_add_one, h]
      simpa using ih
    | some t =>
      rw [shortL_take h, szs_take h]
      have e : cpsN (shortL (l.take n) ++ [trOf n t]) = cpsN (shortL (l.take n)) + t.2.1.length := by simp [cpsN, trOf]
      rw [e]
      unfold sz
      omega
/-- The blocks of the image. -/
def imgB (im : List Rw) : List Blk := im.map rowB
theorem imgB_len (im : List Rw) : (imgB im).length = im.length := by simp [imgB]
theorem imgB_snoc {im : List Rw} {i : Nat} {x : Rw} (h : im[i]? = some x) : imgB (im.take (i + 1)) = imgB (im.take i) ++ [rowB x] := by
  rw [List.take_add_one, h]
  simp [imgB]
theorem OW.app {w : World} {v v' : Value} {out : List Blk} {W W' : World} {o : Obj} {b : Blk} (h : OW w v out W) (hO : W'.ownsRow w.heap.size 29 256 v' (out.length + 1) (flat bc out ++ bc b)) (hg : (W.alloc o).grownBy W' v.ownBlock) : OW w v' (out ++ [b]) W' := by
  refine ⟨h.bel.trans (below_app (Below.refl _ _) h.bel.size h.own ((Below.refl _ _).alloc (Nat.le_refl _) _) hg), ?_⟩
  rw [flat_snoc, List.length_append]
  exact hO
theorem bk_new (W : World) (b : Blk) : ∀ j u, (bc b)[j]? = some u → (W.alloc (.cells (blk b) 29)).cell? ((⟨W.heap.size, 0, none⟩ : Addr).add j) = some u := by
  rw [← bc_arr]
  exact Whole.news (Whole.new W (bc b).toArray 29)
/-- The two slices that are spoilt. -/
structure AF (wk : World) (b1 b2 : Nat) (vc : Value) (nc : Nat) (vx : Value) (nx : Nat) (W : World) : Prop where
  bel : Below wk.heap.size wk W
  c : ∃ xs, W.ownsRow b1 40 257 vc nc xs
  x : ∃ ys, W.ownsRow b2 29 256 vx nx ys ∧ ∀ u ∈ ys, ∃ n, u = .int .u8 n
  low : ∀ k, vc.ownBlock = some k → k < b2
  l1 : wk.heap.size ≤ b1
  l2 : b1 ≤ b2
  le : b2 ≤ W.heap.size
theorem AF.later {wk : World} {b1 b2 : Nat} {vc vx : Value} {nc nx : Nat} {W W' : World} (h : AF wk b1 b2 vc nc vx nx W) (hb : Below W.heap.size W W') : AF wk b1 b2 vc nc vx nx W' := by
  obtain ⟨xs, hx⟩ := h.c
  obtain ⟨ys, hy, hu⟩ := h.x
  exact ⟨h.bel.trans (hb.mono h.bel.size), ⟨xs, own_later hx hb⟩, ⟨ys, own_later hy hb, hu⟩, h.low, h.l1, h.l2, Nat.le_trans h.le hb.size⟩
theorem AF.setc {wk : World} {b1 b2 g m cap : Nat} {vx : Value} {nc nx : Nat} {W : World} (h : AF wk b1 b2 (.slice (some ⟨g, 0, none⟩) m cap) nc vx nx W) (o : Nat) (ho : o < nc * 257) (u : Value) : AF wk b1 b2 (.slice (some ⟨g, 0, none⟩) m cap) nc vx nx (W.setCell ⟨g, o, none⟩ u) := by
  obtain ⟨xs, hx⟩ := h.c
  obtain ⟨ys, hy, hu⟩ := h.x
  have hg := (hx.lt g rfl).1
  have hl := h.low g rfl
  exact ⟨h.bel.setCell (by have := h.l1; simp; omega) u, ⟨_, own_put hx o [u] (by simp; omega)⟩, ⟨ys, own_apart hy (grownBy_setCell _ _ _ _) (fun k hk => by have := (hy.lt k hk).1; omega), hu⟩, h.low, h.l1, h.l2, by have := h.le; simpa [World.setCell] using this⟩
theorem AF.setx {wk : World} {b1 b2 g m cap : Nat} {vc : Value} {nc nx : Nat} {W : World} (h : AF wk b1 b2 vc nc (.slice (some ⟨g, 0, none⟩) m cap) nx W) (o : Nat) (ho : o < nx * 256) (n : Int) : AF wk b1 b2 vc nc (.slice (some ⟨g, 0, none⟩) m cap) nx (W.setCell ⟨g, o, none⟩ (.int .u8 n)) := by
  obtain ⟨xs, hx⟩ := h.c
  obtain ⟨ys, hy, hu⟩ := h.x
  have hg := (hy.lt g rfl).1
  refine ⟨h.bel.setCell (by have := h.l1; have := h.l2; simp; omega) _, ⟨xs, own_apart hx (grownBy_setCell _ _ _ _) (fun k hk => by have := h.low k hk; omega)⟩, ⟨_, own_put hy o [.int .u8 n] (by simp; omega), fun u hm => ?_⟩, h.low, h.l1, h.l2, by have := h.le; simpa [World.setCell] using this⟩
  rw [List.mem_append, List.mem_append, List.mem_singleton] at hm
  rcases hm with (hm | hm) | hm
  · exact hu u (List.mem_of_mem_take hm)
  · exact ⟨n, hm⟩
  · exact hu u (List.mem_of_mem_drop hm)
theorem AF.cellc {wk : World} {b1 b2 g m cap : Nat} {vx : Value} {nc nx : Nat} {W : World} (h : AF wk b1 b2 (.slice (some ⟨g, 0, none⟩) m cap) nc vx nx W) (o : Nat) (ho : o < nc * 257) : (∃ u, W.cell? ⟨g, o, none⟩ = some u) ∧ W.frozen? ⟨g, o, none⟩ = false := by
  obtain ⟨xs, hx⟩ := h.c
  have := (own_there hx o 1 (by omega)) 0 (by omega)
  rw [Nat.add_zero] at this
  exact ⟨Option.isSome_iff_exists.1 this.1, this.2⟩
theorem AF.cellx {wk : World} {b1 b2 g m cap : Nat} {vc : Value} {nc nx : Nat} {W : World} (h : AF wk b1 b2 vc nc (.slice (some ⟨g, 0, none⟩) m cap) nx W) (o : Nat) (ho : o < nx * 256) : (∃ n, W.cell? ⟨g, o, none⟩ = some (.int .u8 n)) ∧ W.frozen? ⟨g, o, none⟩ = false := by
  obtain ⟨ys, hy, hu⟩ := h.x
  have h1 := (own_there hy o 1 (by omega)) 0 (by omega)
  rw [Nat.add_zero] at h1
  have hlt : o < ys.length := by rw [hy.1]; exact ho
  have h2 := own_range hy o _ (List.getElem?_eq_getElem hlt)
  rw [Nat.zero_add] at h2
  obtain ⟨n, hn⟩ := hu _ (List.getElem_mem hlt)
  rw [hn] at h2
  exact ⟨⟨n, h2⟩, h1.2⟩
theorem bc_u8 (B : List Blk) : ∀ u ∈ flat bc B, ∃ n, u = .int .u8 n := by
  intro u hu
  unfold flat at hu
  obtain ⟨b, _, hb⟩ := List.mem_flatMap.1 hu
  unfold bc blk at hb
  rw [Array.mem_toList_iff, Array.mem_ofFn] at hb
  obtain ⟨i, rfl⟩ := hb
  exact ⟨_, rfl⟩
end Go.Proofs.Ytdeeegodiacjgaa
