/- slices.Clone at blocks, replay.Over, and the document's answer for it. The lists have at most 100000 elements. -/
import Derived.Test.YtdeeegodiacjgaaW8
import Derived.Test.YtdeeegodiacjgaaDisk
import Derived.Lib.SliceRun
namespace Go.Proofs.Ytdeeegodiacjgaa
open Go.RowKit
attribute [local go_sem ↓] loadAtB storeAtB loadAtC storeAtC buildAtC sliceAtC sliceAtB
def BksPost (l : List Blk) (w : World) (e : Ending) (w' : World) : Prop := ∃ v, e = .returned v ∧ w'.ownsRow w.heap.size 29 256 v l.length (flat bc l) ∧ Below w.heap.size w w'
set_option maxRecDepth 100000 in
theorem zB_size : (Value.agg (blk fun _ => 0)).cells.size = 256 := by
  rw [show (Value.agg (blk fun _ => 0)).cells = blk fun _ => 0 from rfl]
  exact blk_size _
theorem bc_one' (l : List Blk) : ∀ u ∈ flat bc l, u.oneCell' = true := flat_one bc_one l
set_option maxRecDepth 100000 in
theorem clone_any (l : List Blk) (hl : l.length ≤ 100000) (v : Value) (w : World) (h : Bks w v l) : Calls Try.prog 37 #[v] w (BksPost l w) := by
  have H := Lib.hid h
  obtain ⟨ao, cap, rfl, h1, h2, h3, h4⟩ := h.ex
  unfold maxLen at h2
  have hb0 := run_bsB0
  have hq : ∀ (w : World) (a : Option Addr) (n c n' c' : Nat), (binOp .eql 27 (.slice a n c) (.slice none n' c')).run Try.prog w = .ok (.bool a.isNone) w := fun w a n c n' c' => Lib.run_eql_slice_nil w _ _ a n c n' c' Try.underlying27
  obtain ⟨j0, hj0, jz0, jz1, jz2⟩ := info_parts zeroB
  have hln : (flat bc l).length = l.length * 256 := flat_len bc_len l
  cases ao with
  | none =>
    obtain rfl := h4 rfl
    obtain rfl : l = [] := List.eq_nil_of_length_eq_zero (by omega)
    clear h h3 h4
    go_enter Try.func37, Try.ntmps37
    go_wp2_with fail
    go_ret
    exact ⟨_, rfl, World.ownsRow_nil _ _ _ _, Below.refl _ _⟩
  | some ad =>
    have hlit : Hid ((w.alloc (.cells #[] 29)).ownsRow w.heap.size 29 256 (.slice (some ⟨w.heap.size, 0, none⟩) 0 0) 0 []) := World.ownsRow_lit (base := w.heap.size) (e := 29) (size := 256) w #[] 0 (by simp) (by simp [maxLen]) (by simp)
    have hsrc : Hid (Sl (w.alloc (.cells #[] 29)) (.slice (some ad) l.length cap) l.length (flat bc l)) := Sl.later H.out ((Below.refl _ _).alloc (Nat.le_refl _) _)
    have h4' := hln
    clear h h3 h4
    go_enter Try.func37, Try.ntmps37
    go_wp2_with (at_builtin; refine wpl_append_sl rfl _ _ 27 rfl w.heap.size 29 j0 (.agg (blk fun _ => 0)) 256 256 Try.underlying27 hj0 jz0 jz1 jz2 zB_size (by decide) _ 0 [] rfl hlit.out _ l.length (flat bc l) rfl hsrc.out hln (bc_one' _) (by unfold maxLen; omega) (by omega) (by simp) ?_; intro v1 W1 hown1 hgrow1; have O1 := Lib.hid hown1; have B1 : Hid (Below w.heap.size w W1) := below_app ((Below.refl _ _).alloc (by simp) _) (by simp) hlit.out (Below.refl _ _) hgrow1; clear hown1 hgrow1)
    go_ret
    refine ⟨_, rfl, ?_, B1.out⟩
    have := O1.out
    rw [Nat.zero_add, List.nil_append] at this
    exact this
/-- The slice that is written over. -/
structure OW (w : World) (v : Value) (out : List Blk) (W : World) : Prop where
  bel : Below w.heap.size w W
  own : W.ownsRow w.heap.size 29 256 v out.length (flat bc out)
theorem OW.later {w : World} {v : Value} {out : List Blk} {W W' : World} (h : OW w v out W) (hb : Below W.heap.size W W') : OW w v out W' := ⟨h.bel.trans (hb.mono h.bel.size), own_later h.own hb⟩
theorem OW.put {w : World} {g cap m : Nat} {out : List Blk} {W : World} {c : Cp} (h : OW w (.slice (some ⟨g, 0, none⟩) m cap) out W) (h0 : 0 ≤ c.1) (h1 : c.1 < out.length) :
    OW w (.slice (some ⟨g, 0, none⟩) m cap) (ovPut out c) (W.setCells g (c.1.toNat * 256) (bc c.2)) := by
  have hg := (h.own.lt g rfl).1
  refine ⟨h.bel.grown (grownBy_setCells _ _ _ _) h.bel.size (fun k hk => by cases hk; exact hg), ?_⟩
  have e : ovPut out c = out.set c.1.toNat c.2 := by unfold ovPut; rw [if_pos ⟨h0, h1⟩]
  rw [e, List.length_set]
  exact own_set bc_len h.own rfl c.1.toNat (by omega) c.2
theorem own_some {W : World} {base e size n m cap : Nat} {ao : Option Addr} {xs : List Value} (h : W.ownsRow base e size (.slice ao m cap) n xs) (hn : 0 < n) : ∃ g, ao = some ⟨g, 0, none⟩ ∧ m = n ∧ n ≤ cap ∧ cap ≤ maxLen := by
  rcases h.2 with ⟨h0, h1⟩ | ⟨g', cap', cur, hv, hb, hg, h1, h2, h3, h4⟩
  · omega
  · cases hv
    exact ⟨_, rfl, rfl, h1, h2⟩
theorem ldB1 (w : World) (c : Cp) : (bigLoadAt 29 (.pointer (some ⟨w.heap.size, 1, none⟩))).run Try.prog (w.alloc (.cells (ca c) 40)) = .ok (.agg (blk c.2)) (w.alloc (.cells (ca c) 40)) := by
  have h := (Whole.new w (ca c) 40).rangeC
  refine ldB (W := w.alloc (.cells (ca c) 40)) (g := w.heap.size) (o := 0 + 1) (rangeAt_sub h fun j v hv => ?_)
  unfold cc
  rw [Nat.add_comm, List.getElem?_cons_succ]
  exact hv
set_option maxRecDepth 100000 in
set_option maxHeartbeats 4000000 in
theorem over_any (l : List Blk) (cs : List Cp) (hl : l.length ≤ 100000) (hcl : cs.length ≤ 1000000) (v vc : Value) (w : World) (h : Bks w v l) (hc : Cps w vc cs) :
    Calls Try.prog 15 #[v, vc] w (BksPost (overL l cs) w) := by
  have H := Lib.hid h
  have HC := Lib.hid hc
  obtain ⟨ao, cap, rfl, h1, h2, _⟩ := h.ex
  obtain ⟨ac, ccap, rfl, hc1, hc2, _⟩ := hc.ex
  clear h hc
  unfold maxLen at h2 hc2
  have hcall := Lib.hid (clone_any l hl _ w H.out)
  have hst := stCnew
  have hzc := zcC
  have hc0 := ca_zero
  have hl1 := ldB1
  go_enter Try.func15, Try.ntmps15
  go_wp2_with (go_at_call 37; refine hcall.out.mono ?_; rintro e w1 ⟨v1, rfl, hown, hb⟩; have O := Lib.hid hown; have B := Lib.hid hb; clear hown hb)
  obtain ⟨o0, hO0⟩ : ∃ o0, Hid (overL l (cs.take 0) = o0) := ⟨_, rfl⟩
  have W0 : Hid (OW w v1 (overL l (cs.take 0)) w1) := ⟨B.out, by rw [overL_len]; exact O.out⟩
  obtain ⟨a1, c1, rfl⟩ := own_shape O.out
  clear O B hcall
  go_loopw [12] (fun v12 W => ∃ i, v12 = .int .i64 (i : Nat) ∧ i ≤ cs.length ∧ OW w (.slice a1 l.length c1) (overL l (cs.take i)) W) (fun v12 _ => (cs.length - intOf v12).toNat)
  case atStart => exact ⟨0, rfl, by omega, W0.out⟩
  case round =>
    obtain ⟨i, rfl, hi, hW⟩ := hrel
    have WH := Lib.hid hW
    clear hW
    by_cases hin : i < cs.length
    · obtain ⟨gc, oc, rfl, _, _, hgc, hatc⟩ := Sl.at (Sl.later HC.out WH.out.bel) cc_len (by omega) hin
      obtain ⟨⟨b, d⟩, hcx⟩ : ∃ c, cs[i]? = some c := ⟨_, List.getElem?_eq_getElem hin⟩
      have hl0 := ldC (hatc i _ hcx)
      have hnext : Hid (overL l (cs.take (i + 1)) = ovPut (overL l (cs.take i)) (b, d)) := by
        unfold Hid
        rw [List.take_add_one, hcx]
        exact overL_snoc _ _ _
      have hlen : Hid ((overL l (cs.take i)).length = l.length) := overL_len _ _
      clear hatc hcx
      by_cases hb0 : 0 ≤ b
      · obtain ⟨q, rfl⟩ : ∃ q : Nat, b = q := ⟨b.toNat, by omega⟩
        by_cases hql : q < l.length
        · have ho := WH.out.own
          rw [hlen.out] at ho
          obtain ⟨g, rfl, _, hcap1, hcap2⟩ := own_some ho (by omega)
          unfold maxLen at hcap2
          have WA := Lib.hid (WH.out.later ((Below.refl _ _).alloc (Nat.le_refl _) (.cells (ca ((q : Int), d)) 40)))
          have hs2 := stB (W := wr.alloc (.cells (ca ((q : Int), d)) 40)) (g := g) (o := q * 256) d (own_there WA.out.own _ _ (by rw [hlen.out]; omega))
          have WP := Lib.hid (OW.put (c := ((q : Int), d)) WA.out (by simp) (by rw [hlen.out]; simp; omega))
          clear ho WH
          go_wp2_with fail
          have wp := WP.out
          rw [← hnext.out] at wp
          exact ⟨⟨i + 1, rfl, by omega, wp⟩, by simp [intOf]; omega⟩
        · go_wp2_with fail
          have wp := WH.out.later ((Below.refl _ _).alloc (Nat.le_refl _) (.cells (ca ((q : Int), d)) 40))
          rw [show overL l (cs.take i) = overL l (cs.take (i + 1)) by rw [hnext.out]; unfold ovPut; rw [if_neg]; rw [hlen.out]; simp; omega] at wp
          exact ⟨⟨i + 1, rfl, by omega, wp⟩, by simp [intOf]; omega⟩
      · have hd : decide ((0 : Int) ≤ b) = false := by simp; omega
        go_wp2_with fail
        have wp := WH.out.later ((Below.refl _ _).alloc (Nat.le_refl _) (.cells (ca (b, d)) 40))
        rw [show overL l (cs.take i) = overL l (cs.take (i + 1)) by rw [hnext.out]; unfold ovPut; rw [if_neg]; simp; omega] at wp
        exact ⟨⟨i + 1, rfl, by omega, wp⟩, by simp [intOf]; omega⟩
    · obtain rfl : i = cs.length := by omega
      go_wp2_with fail
      go_ret
      have := WH.out
      rw [List.take_length] at this
      refine ⟨_, rfl, ?_, this.bel⟩
      have ho := this.own
      rw [overL_len] at ho ⊢
      exact ho
theorem bkLit (w : World) : (w.alloc (.cells #[] 29)).ownsRow w.heap.size 29 256 (.slice (some ⟨w.heap.size, 0, none⟩) 0 0) 0 [] := World.ownsRow_lit (base := w.heap.size) (e := 29) (size := 256) w #[] 0 (by simp) (by simp [maxLen]) (by simp)
set_option maxRecDepth 100000 in
set_option maxHeartbeats 4000000 in
theorem refOver_any (l : List Blk) (cs : List Cp) (hl : l.length ≤ 100000) (hcl : cs.length ≤ 1000000) (v vc : Value) (w : World) (h : Bks w v l) (hc : Cps w vc cs) :
    Calls Try.prog 19 #[v, vc] w (BksPost (overL l cs) w) := by
  have H := Lib.hid h
  have HC := Lib.hid hc
  obtain ⟨ao, cap, rfl, h1, h2, _⟩ := h.ex
  obtain ⟨ac, ccap, rfl, hc1, hc2, _⟩ := hc.ex
  clear h hc
  unfold maxLen at h2 hc2
  have hb0 := run_bsB0
  obtain ⟨j0, hj0, jz0, jz1, jz2⟩ := info_parts zeroB
  have hln : (flat bc l).length = l.length * 256 := flat_len bc_len l
  have hlit := Lib.hid (bkLit w)
  have hsrc : Hid (Sl (w.alloc (.cells #[] 29)) (.slice ao l.length cap) l.length (flat bc l)) := Sl.later H.out ((Below.refl _ _).alloc (Nat.le_refl _) _)
  go_enter Try.func19, Try.ntmps19
  go_wp2_with (at_builtin; refine wpl_append_sl rfl _ _ 27 rfl w.heap.size 29 j0 (.agg (blk fun _ => 0)) 256 256 Try.underlying27 hj0 jz0 jz1 jz2 zB_size (by decide) _ 0 [] rfl hlit.out _ l.length (flat bc l) rfl hsrc.out hln (bc_one' _) (by unfold maxLen; omega) (by omega) (by simp) ?_; intro v1 w1 hown1 hgrow1; have O := Lib.hid hown1; have B : Hid (Below w.heap.size w w1) := below_app ((Below.refl _ _).alloc (by simp) _) (by simp) hlit.out (Below.refl _ _) hgrow1; clear hown1 hgrow1)
  have W0 : Hid (OW w v1 (overL l (cs.take 0)) w1) := ⟨B.out, by have := O.out; rw [Nat.zero_add, List.nil_append] at this; rw [overL_len]; exact this⟩
  have hsh := own_shape O.out
  rw [Nat.zero_add] at hsh
  obtain ⟨a1, c1, rfl⟩ := hsh
  clear O B
  go_loopw [6] (fun v12 W => ∃ i, v12 = .int .i64 (i : Nat) ∧ i ≤ cs.length ∧ OW w (.slice a1 l.length c1) (overL l (cs.take i)) W) (fun v12 _ => (cs.length - intOf v12).toNat)
  case atStart => exact ⟨0, rfl, by omega, W0.out⟩
  case round =>
    obtain ⟨i, rfl, hi, hW⟩ := hrel
    have WH := Lib.hid hW
    clear hW
    by_cases hin : i < cs.length
    · obtain ⟨gc, oc, rfl, _, _, hgc, hatc⟩ := Sl.at (Sl.later HC.out WH.out.bel) cc_len (by omega) hin
      obtain ⟨⟨b, d⟩, hcx⟩ : ∃ c, cs[i]? = some c := ⟨_, List.getElem?_eq_getElem hin⟩
      have hr := hatc i _ hcx
      have c0 := hr 0 _ rfl
      rw [Nat.add_zero] at c0
      have hrg : Hid (wr.rangeAt gc (oc + i * 257 + 1) (bc d)) := rangeAt_sub hr fun j v hv => by unfold cc; rw [Nat.add_comm, List.getElem?_cons_succ]; exact hv
      have hl0 := ldB hrg.out
      have hnext : Hid (overL l (cs.take (i + 1)) = ovPut (overL l (cs.take i)) (b, d)) := by
        unfold Hid
        rw [List.take_add_one, hcx]
        exact overL_snoc _ _ _
      have hlen : Hid ((overL l (cs.take i)).length = l.length) := overL_len _ _
      clear hatc hcx hr
      by_cases hb0 : 0 ≤ b
      · obtain ⟨q, rfl⟩ : ∃ q : Nat, b = q := ⟨b.toNat, by omega⟩
        by_cases hql : q < l.length
        · have ho := WH.out.own
          rw [hlen.out] at ho
          obtain ⟨g, rfl, _, hcap1, hcap2⟩ := own_some ho (by omega)
          unfold maxLen at hcap2
          have WD := Lib.hid (WH.out.later ((Below.refl wr.heap.size wr).drew))
          have hs2 := stB (W := wr.drew) (g := g) (o := q * 256) d (own_there WD.out.own _ _ (by rw [hlen.out]; omega))
          have WP := Lib.hid (OW.put (c := ((q : Int), d)) WD.out (by simp) (by rw [hlen.out]; simp; omega))
          clear ho WH
          have f0 : ∀ p : Kept (fun w' => Below wr.heap.size wr w'), p.x.cell? ⟨gc, oc + i * 257, none⟩ = some (.int .i64 (q : Int)) := fun p => (World.cell?_of_block (p.h.block _ hgc)).trans c0
          have f1 : ∀ p : Kept (fun w' => Below wr.heap.size wr w'), (bigLoadAt 29 (.pointer (some ⟨gc, oc + i * 257 + 1, none⟩))).run Try.prog p.x = .ok (.agg (blk d)) p.x := fun p => ldB (rangeAt_block hrg.out (p.h.block _ hgc))
          have hne : Nonempty (Kept (fun w' => Below wr.heap.size wr w')) := ⟨⟨wr, Below.refl _ _⟩⟩
          go_wp2_with fail
          refine wp_region_plan (fun w' => Below wr.heap.size wr w') [(0, 0), (0, 1), (0, 2), (0, 3), (0, 4), (1, 5), (0, 6), (0, 7), (0, 8), (0, 9), (1, 10), (0, 11), (3, 12)] (by kernel_rfl) (by kernel_rfl) (Below.refl _ _).drew ?_
          repeat (first | (refine wpPlan_pure rfl (fun K hK => ?_); go_simp; refine hK _ ?_; clear hK K) | (refine wpPlan_held rfl (fun K hK => ?_); go_simp; refine hK _ ?_; clear hK K))
          refine wpPlan_last rfl (fun K hK => ?_)
          go_wp2_with fail
          refine hK.out _ _ ?_
          clear hK K
          refine wpPlan_nil ?_
          go_wp2_with fail
          have wp := WP.out
          rw [← hnext.out] at wp
          exact ⟨⟨i + 1, rfl, by omega, wp⟩, by simp [intOf]; omega⟩
        · go_wp2_with fail
          have wp := WH.out
          rw [show overL l (cs.take i) = overL l (cs.take (i + 1)) by rw [hnext.out]; unfold ovPut; rw [if_neg]; rw [hlen.out]; simp; omega] at wp
          exact ⟨⟨i + 1, rfl, by omega, wp⟩, by simp [intOf]; omega⟩
      · have hd : decide ((0 : Int) ≤ b) = false := by simp; omega
        go_wp2_with fail
        have wp := WH.out
        rw [show overL l (cs.take i) = overL l (cs.take (i + 1)) by rw [hnext.out]; unfold ovPut; rw [if_neg]; simp; omega] at wp
        exact ⟨⟨i + 1, rfl, by omega, wp⟩, by simp [intOf]; omega⟩
    · obtain rfl : i = cs.length := by omega
      go_wp2_with fail
      go_ret
      have := WH.out
      rw [List.take_length] at this
      refine ⟨_, rfl, ?_, this.bel⟩
      have ho := this.own
      rw [overL_len] at ho ⊢
      exact ho
end Go.Proofs.Ytdeeegodiacjgaa
