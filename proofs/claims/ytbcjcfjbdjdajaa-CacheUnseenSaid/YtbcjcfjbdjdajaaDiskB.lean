/- The disk's Write, walked. A disk with fewer than 1000000 writes that wait, and fewer than 1000000000 acts. -/
import Derived.Test.YtbcjcfjbdjdajaaDiskA
import Derived.Test.YtbcjcfjbdjdajaaPlan
namespace Go.Proofs.Ytbcjcfjbdjdajaa
open Go.RowKit
attribute [local go_sem ↓] loadAtB storeAtB loadAtW storeAtW buildAtW sliceAtW
theorem whole_cells {W : World} {g : Nat} {cs : List Value} {t : TypeId} (h : Whole W g cs.toArray t) : ∀ j u, cs[j]? = some u → W.cell? ((⟨g, 0, none⟩ : Addr).add j) = some u := fun j u hj => by
  rw [Addr.add_mid, Nat.zero_add, h.cell j]
  simpa using hj
theorem DAt.app {W W' : World} {base r gs gn : Nat} {vw vw' : Value} {D : Dk} {c : Cp} (h : DAt W base r gs gn vw D) (hg : W.grownBy W' vw.ownBlock) (ho : W'.ownsRow base 90 257 vw' (D.wait.length + 1) (flat cc D.wait ++ cc c))
    (hat : ∀ k, vw'.ownBlock = some k → vw.ownBlock = some k ∨ W.heap.size ≤ k) (hx : 0 ≤ c.1 ∧ c.1 < D.safe.length) (hf : D.wait.length < 1000000) :
    DAt (W'.setCell ⟨r, 2, none⟩ vw') base r gs gn vw' { D with wait := D.wait ++ [c] } := by
  refine h.waits hg ?_ hat (fun x hm => ?_) (by simp; omega)
  · rw [List.length_append, flat_snoc]; exact ho
  · rcases List.mem_append.1 hm with h1 | h1
    · exact h.ok.rng x h1
    · rw [List.mem_singleton.1 h1]; exact hx
theorem own_where {v vw : Value} {n m : Nat} (h : v.ownBlock = vw.ownBlock ∨ v.ownBlock = some m) (hm : n ≤ m := by simp [World.drew]) : ∀ k, v.ownBlock = some k → vw.ownBlock = some k ∨ n ≤ k := fun k hk => by
  rcases h with h | h
  · exact .inl (h ▸ hk)
  · rw [h] at hk; cases hk; exact .inr hm
theorem grown_made {w w' : World} {o : Obj} {row : Option Nat} (h : (w.alloc o).drew.grownBy w' row) : w.grownBy w' row :=
  ⟨h.os, h.tape, h.output, Nat.le_trans (by simp [World.drew]) h.size, fun k hk hn => (h.block k (by simp [World.drew]; omega) hn).trans (heap_alloc_old _ _ hk)⟩
theorem DAt.grown2 {W W' : World} {base r gs gn : Nat} {vw : Value} {D : Dk} (h : DAt W base r gs gn vw D) (hg : W.grownBy W' vw.ownBlock) : W'.cell? ⟨r, 2, none⟩ = some vw ∧ W'.frozen? ⟨r, 2, none⟩ = false := by
  obtain ⟨cs, cn, hr, hs, hn⟩ := h.obj
  have := hr.ch (Ch.of_grown (F := fun k => vw.ownBlock = some k) hg fun k hk => hk) (fun e => (h.w3 r e).1 rfl)
  exact ⟨this.cell 2, this.free 2⟩
set_option maxRecDepth 100000 in
set_option maxHeartbeats 1000000 in
theorem write_at {W : World} {base r gs gn : Nat} {vw : Value} {D : Dk} (b : Int) (x : Blk) (ha : D.acts < 1000000000) (hf : D.wait.length < 1000000) (h : DAt W base r gs gn vw D) :
    Calls Try.prog 40 #[.pointer (some ⟨r, 0, none⟩), .int .i64 b, .agg (blk x)] W (DPost (.int .i64 (dRefuse D b)) base r gs gn vw (dWrite D b x) W) := by
  have H := Lib.hid h
  clear h
  by_cases hr : dRefuse D b = 0
  · have HB := Lib.hid (H.out.later ((Below.refl _ _).alloc (Nat.le_refl _) (.cells (blk x) 32)))
    have hcall := Lib.hid (refuse_at b HB.out)
    have hbnd : 0 ≤ b ∧ b < D.safe.length := by
      unfold dRefuse at hr
      split at hr
      · cases hr
      · split at hr
        · cases hr
        · rename_i h1; omega
    obtain ⟨q, rfl⟩ : ∃ q : Nat, b = q := ⟨b.toNat, by omega⟩
    have hq : q < D.safe.length := by omega
    rw [hr] at hcall ⊢
    have hD : Hid (dWrite D q x = dPut D q x) := by unfold dWrite Hid; rw [if_pos hr]
    rw [hD.out]
    clear hr hD
    have hbw := run_buildW
    have hsw := run_bsW ((q : Int), x)
    have hlen : D.safe.length ≤ 2048 := H.out.ok.most
    obtain ⟨j0, hj0, jz0, jz1, jz2⟩ := info_parts zeroW
    go_enter Try.func40, Try.ntmps40
    go_wp2_with (first
      | (go_at_call 35; refine hcall.out.mono ?_; rintro e w1 ⟨rfl, rfl⟩)
      | (go_at_call 47; refine (act_at ha HB.out).mono ?_; rintro e w2 ⟨rfl, hd2, hc2⟩; have D2 := Lib.hid hd2; have C2 := Lib.hid hc2; clear hd2 hc2))
    have hlt : r < W.heap.size := (H.out.lt r (.inl rfl)).2
    have X2 : Hid (Whole w2 W.heap.size (blk x) 32) := (Whole.new W (blk x) 32).ch C2.out (by omega)
    have CW : Hid (Ch (Foot r gs gn vw) W w2) := (Ch.of_below ((Below.refl _ _).alloc (Nat.le_refl _) _)).same (C2.out.mono fun k hk => .inl hk)
    have hw2 : Hid (w2.ownsRow base 90 257 vw D.wait.length (flat cc D.wait)) := D2.out.wait
    have hb2 : Hid (base ≤ w2.heap.size) := by have := D2.out.lt r (.inl rfl); unfold Hid; omega
    have hs2 : Hid (W.heap.size ≤ w2.heap.size) := CW.out.size
    obtain ⟨_, _, _, _, c2, _⟩ := D2.out.cells
    have hne : Nonempty (Kept (fun w' => Below w2.heap.size w2 w')) := ⟨⟨w2, Below.refl _ _⟩⟩
    have f1 : ∀ p : Kept (fun w' => Below w2.heap.size w2 w'), p.x.cell? ⟨r, 2, none⟩ = some vw := fun p => (World.cell?_of_block (p.h.block _ (D2.out.lt r (.inl rfl)).2)).trans c2
    have f2 : ∀ p : Kept (fun w' => Below w2.heap.size w2 w'), (bigLoadAt 32 (.pointer (some ⟨W.heap.size, 0, none⟩))).run Try.prog p.x = .ok (.agg (blk x)) p.x := fun p => ldRow (X2.out.later p.h)
    clear c2 hcall HB
    refine wp_region_plan (fun w' => Below w2.heap.size w2 w') [(0, 0), (0, 1), (0, 2), (0, 3), (1, 4), (0, 5), (1, 6), (0, 7), (2, 8), (3, 9), (0, 10), (0, 11), (3, 12)] (by kernel_rfl) (by kernel_rfl) (Below.refl _ _).drew ?_
    repeat (first | (refine wpPlan_pure rfl (fun K hK => ?_); go_simp; refine hK _ ?_; clear hK K) | (refine wpPlan_held rfl (fun K hK => ?_); go_simp; refine hK _ ?_; clear hK K))
    refine wpPlan_turn rfl (fun K hK => ?_)
    go_wp2_with fail
    refine hK.out _ _ (((Below.refl _ _).alloc (Nat.le_refl _) _).drew) ?_
    clear hK K
    refine wpPlan_last rfl (fun K hK => ?_)
    go_wp2_with (at_builtin; refine wpList_append_own_at _ rfl _ _ 52 rfl base 90 j0 (.agg (ca (0, fun _ => 0))) 257 264 Try.underlying52 hj0 jz0 jz1 jz2 (ca_size _) (by decide) _ _ _ rfl (hw2.out.alloc _) ⟨w2.heap.size, 0, none⟩ 1 1 (cc ((q : Int), x)) rfl (by rw [cc_len]) (whole_cells (Whole.new w2 (ca ((q : Int), x)) 90)) (cc_one _) (by unfold maxLen; omega) (by omega) (by have := hb2.out; simp; omega) ?_; intro v5 w5 hown hgrow hx1 hat; clear hx1; obtain ⟨a5, k5, hsh⟩ := own_shape hown; subst hsh; have G5 : Hid (w2.grownBy w5 vw.ownBlock) := grown_made hgrow; have A5 : Hid (∀ k, (Value.slice a5 (D.wait.length + 1) k5).ownBlock = some k → vw.ownBlock = some k ∨ w2.heap.size ≤ k) := own_where hat; have D5 : Hid (DAt (w5.setCell ⟨r, 2, none⟩ (.slice a5 (D.wait.length + 1) k5)) base r gs gn (.slice a5 (D.wait.length + 1) k5) { dAct D with wait := D.wait ++ [((q : Int), x)] }) := D2.out.app G5.out hown A5.out ⟨by simp, by show (q : Int) < D.safe.length; omega⟩ hf; clear hown hgrow hat)
    obtain ⟨c5, e5⟩ := D2.out.grown2 G5.out
    have hlt2 : Hid (W.heap.size < w2.heap.size) := by have := X2.out.lt; unfold Hid; omega
    have X5 : Hid (Whole (w5.setCell ⟨r, 2, none⟩ (.slice a5 (D.wait.length + 1) k5)) W.heap.size (blk x) 32) := (X2.out.ch (Ch.of_grown (F := fun k => vw.ownBlock = some k) G5.out fun k hk => hk) (fun e => by have := (H.out.lt _ (.inr (.inr (.inr e)))).2; omega)).ch (F := fun k => k = r) (Ch.cell rfl) (by omega)
    have C5 : Hid (Ch (Foot r gs gn vw) W (w5.setCell ⟨r, 2, none⟩ (.slice a5 (D.wait.length + 1) k5))) := (CW.out.same (Ch.of_grown G5.out fun k hk => .inr (.inr (.inr hk)))).same (Ch.cell (.inl rfl))
    refine hK.out _ _ ?_
    clear hK K
    repeat (first | (refine wpPlan_pure rfl (fun K hK => ?_); go_simp; refine hK _ ?_; clear hK K) | (refine wpPlan_held rfl (fun K hK => ?_); go_simp; refine hK _ ?_; clear hK K))
    refine wpPlan_last rfl (fun K hK => ?_)
    go_wp2_with fail
    refine hK.out _ _ ?_
    clear hK K
    refine wpPlan_nil ?_
    go_wp2_with fail
    generalize w5.setCell ⟨r, 2, none⟩ (.slice a5 (D.wait.length + 1) k5) = w6 at D5 X5 C5 ⊢
    clear c5 e5 f1 f2 hne
    obtain ⟨_, cn, _, c1, _, _, _, _, _, k1, k2⟩ := D5.out.cells
    unfold maxLen at k2
    obtain ⟨_, _, _, _, hnow⟩ := D5.out.obj
    have hlt6 : r < w6.heap.size := (D5.out.lt r (.inl rfl)).2
    have hne : Nonempty (Kept (fun w' => Below w6.heap.size w6 w')) := ⟨⟨w6, Below.refl _ _⟩⟩
    have f1 : ∀ p : Kept (fun w' => Below w6.heap.size w6 w'), p.x.cell? ⟨r, 1, none⟩ = some (.slice (some ⟨gn, 0, none⟩) D.safe.length cn) := fun p => (World.cell?_of_block (p.h.block _ hlt6)).trans c1
    have f2 : ∀ p : Kept (fun w' => Below w6.heap.size w6 w'), (bigLoadAt 32 (.pointer (some ⟨W.heap.size, 0, none⟩))).run Try.prog p.x = .ok (.agg (blk x)) p.x := fun p => ldRow (X5.out.later p.h)
    have DD : Hid (DAt w6.drew base r gs gn (.slice a5 (D.wait.length + 1) k5) { dAct D with wait := D.wait ++ [((q : Int), x)] }) := D5.out.later ((Below.refl _ _).drew)
    obtain ⟨_, _, _, _, hn7⟩ := DD.out.obj
    have hs2 := stB x (own_there hn7 (q * 256) 256 (by show q * 256 + 256 ≤ D.safe.length * 256; omega))
    have k1' : D.safe.length ≤ cn := k1
    clear c1 hnow hn7 k1
    refine wp_region_plan (fun w' => Below w6.heap.size w6 w') [(0, 0), (0, 1), (0, 2), (1, 3), (0, 4), (1, 5), (0, 6), (3, 7)] (by kernel_rfl) (by kernel_rfl) (Below.refl _ _).drew ?_
    repeat (first | (refine wpPlan_pure rfl (fun K hK => ?_); go_simp; refine hK _ ?_; clear hK K) | (refine wpPlan_held rfl (fun K hK => ?_); go_simp; refine hK _ ?_; clear hK K))
    refine wpPlan_last rfl (fun K hK => ?_)
    go_wp2_with fail
    refine hK.out _ _ ?_
    clear hK K
    refine wpPlan_nil ?_
    go_wp2_with fail
    go_ret
    refine ⟨_, rfl, DD.out.nowPut q hq x, C5.out.same ((Ch.of_below ((Below.refl _ _).drew)).same (Ch.cells (.inr (.inr (.inl rfl))))), fun k hk => ?_⟩
    rcases A5.out k hk with h1 | h1
    · exact .inl h1
    · exact .inr (by have := hlt2.out; omega)
  · have hcall := Lib.hid (refuse_at b (H.out.later ((Below.refl _ _).alloc (Nat.le_refl _) (.cells (blk x) 32))))
    have hD : Hid (dWrite D b x = D) := by unfold dWrite Hid; rw [if_neg hr]
    rw [hD.out]
    clear hD
    generalize dRefuse D b = f at hr hcall
    go_enter Try.func40, Try.ntmps40
    go_wp2_with (go_at_call 35; refine hcall.out.mono ?_; rintro e w1 ⟨rfl, rfl⟩)
    go_ret
    have hb : Below W.heap.size W (W.alloc (.cells (blk x) 32)) := (Below.refl _ _).alloc (Nat.le_refl _) _
    exact ⟨vw, rfl, H.out.later hb, Ch.of_below hb, fun k hk => .inl hk⟩
end Go.Proofs.Ytbcjcfjbdjdajaa
