/- Caches of the given program as values: their cells, what is held, how they change. No condition but those written in each law. -/
import Derived.Test.YtbcjcfjbdjdajaaDiskE
import Derived.Test.YtbcjcfjbdjdajaaKeys
namespace Go.Proofs.Ytbcjcfjbdjdajaa
open Go.RowKit
abbrev Hd := Blk × Bool
/-- The cells of what is held. -/
def hc (h : Hd) : List Value := bc h.1 ++ [.bool h.2]
theorem hc_len (h : Hd) : (hc h).length = 257 := by
  have := bc_len h.1
  unfold hc
  rw [List.length_append, this]; rfl
theorem hc_one (h : Hd) : ∀ u ∈ hc h, u.oneCell' = true := by
  intro u hu
  rcases List.mem_append.1 hu with h1 | h1
  · exact bc_one _ u h1
  · simp at h1; subst h1; rfl
def ha (h : Hd) : Array Value := (hc h).toArray
def hval (h : Hd) : Value := .agg (ha h)
def pval (b : Bool) : Value := .bool b
def zB : Blk := fun _ => 0
def zH : Hd := (zB, false)
theorem zeroH : (Try.prog.info? 78).map (fun i => (i.zero, i.size, i.bytes)) = some (some (hval zH), 257, 257) := by kernel_rfl
theorem sizeH : (Try.prog.info? 78).map (·.size) = some 257 := by kernel_rfl
theorem run_zeroH : ∀ w, (zeroValue 78).run Try.prog w = .ok (hval zH) w := fun w => by
  obtain ⟨i, hi, h1, h2, h3⟩ := info_parts zeroH
  exact (zero_of_info (show (Try.prog.info? 78).map (fun i => (i.zero, i.size)) = some (some (hval zH), 257) by rw [hi]; simp [h1, h2])).1 w
theorem run_zeroBool : ∀ w, (zeroValue 4).run Try.prog w = .ok (pval false) w := fun w => by kernel_rfl
theorem loadAtH (v : Value) : Instr.loadAt 78 v = bigLoadAt 78 v := rfl
theorem storeAtH (v x : Value) : Instr.storeAt 78 v x = bigStoreAt 78 v x := rfl
theorem buildAtH (p : Array (Nat × Value)) : Instr.build 78 p = bigBuild 78 p := rfl
theorem ha_size (h : Hd) : (ha h).size = 257 := by simp [ha, hc_len]
theorem builtH0 (x : Blk) : Try.prog.built 78 [(0, .agg (blk x))] = some (ha (x, false)) := by kernel_rfl
theorem builtH1 (x : Blk) (d : Bool) : Try.prog.built 78 [(0, .agg (blk x)), (1, .bool d)] = some (ha (x, d)) := by kernel_rfl
theorem run_buildH0 (x : Blk) : ∀ w, (bigBuild 78 #[(0, .agg (blk x))]).run Try.prog w = .ok (.agg (ha (x, false))) w := fun w => run_build w 78 _ _ (builtH0 x)
theorem run_buildH1 (x : Blk) (d : Bool) : ∀ w, (bigBuild 78 #[(0, .agg (blk x)), (1, .bool d)]).run Try.prog w = .ok (.agg (ha (x, d))) w := fun w => run_build w 78 _ _ (builtH1 x d)
theorem zcH : Try.zeroCells78 = ha zH := by kernel_rfl
theorem rangeHa {W : World} {g : Nat} {h : Hd} {t : TypeId} (hw : Whole W g (ha h) t) : W.rangeAt g 0 (hc h) := by
  intro j v hv
  rw [Nat.zero_add, hw.cell j]
  simpa [ha] using hv
theorem stHnew (w : World) (z h : Hd) : (bigStoreAt 78 (.pointer (some ⟨w.heap.size, 0, none⟩)) (.agg (ha h))).run Try.prog (w.alloc (.cells (ha z) 78)) = .ok () (w.alloc (.cells (ha h) 78)) := by
  have hW := Whole.new w (ha z) 78
  have h1 : (bigStoreAt 78 (.pointer (some ⟨w.heap.size, 0, none⟩)) (.agg (hc h).toArray)).run Try.prog (w.alloc (.cells (ha z) 78)) = .ok () ((w.alloc (.cells (ha z) 78)).setCells w.heap.size 0 (hc h)) :=
    run_bigStore (by rw [hc_len]; exact sizeH) (hc_one h) (fun j hj => ⟨by rw [hW.cell (0 + j), Array.getElem?_eq_getElem (by rw [ha_size]; rw [hc_len] at hj; omega)]; rfl, hW.free _⟩)
  have e : ∀ h, ha h = (hc h).toArray := fun h => by unfold ha; rfl
  rw [← e h] at h1
  rw [h1, e z, setCells_whole w (hc z) 78 (hc h) (by rw [hc_len, hc_len]), e h]
/-- What a new block of such cells holds: its bytes, whether it is dirty. -/
theorem ldHb {W : World} {g : Nat} {h : Hd} {t : TypeId} (hw : Whole W g (ha h) t) : (bigLoadAt 32 (.pointer (some ⟨g, 0, none⟩))).run Try.prog W = .ok (.agg (blk h.1)) W := by
  refine ldB fun j v hv => ?_
  have := rangeHa hw j v (by unfold hc; rw [List.getElem?_append_left (List.getElem?_eq_some_iff.1 hv).1]; exact hv)
  exact this
theorem cellHd {W : World} {g : Nat} {h : Hd} {t : TypeId} (hw : Whole W g (ha h) t) : W.cell? ⟨g, 256, none⟩ = some (.bool h.2) := by
  rw [hw.cell 256]
  unfold ha hc
  have := bc_len h.1
  simp [this]
abbrev HM := List (Int × Hd)
abbrev PM := List (Int × Bool)
structure Ck where
  D : Dk
  has : HM
  pin : PM
/-- Where a cache lies: its own block, its disk's, its maps'. -/
structure Cf where
  base : Nat
  rc : Nat
  r : Nat
  gs : Nat
  gn : Nat
  hm : Nat
  pm : Nat
def cco (c : Cf) : Array Value := #[.pointer (some ⟨c.r, 0, none⟩), .map (some c.hm), .map (some c.pm)]
structure CAt (W : World) (c : Cf) (vw : Value) (C : Ck) : Prop where
  disk : DAt W c.base c.r c.gs c.gn vw C.D
  obj : Whole W c.rc (cco c) 58
  has : MapOf hval W c.hm C.has
  pin : MapOf pval W c.pm C.pin
  b1 : c.base ≤ c.rc
  b2 : c.base ≤ c.hm
  b3 : c.base ≤ c.pm
  n1 : c.rc ≠ c.hm
  n2 : c.rc ≠ c.pm
  n3 : c.hm ≠ c.pm
  foot : ∀ k, Foot c.r c.gs c.gn vw k → k ≠ c.rc ∧ k ≠ c.hm ∧ k ≠ c.pm
/-- The cache's blocks that may change. -/
def CFoot (c : Cf) (vw : Value) (k : Nat) : Prop := Foot c.r c.gs c.gn vw k ∨ k = c.hm ∨ k = c.pm
theorem CAt.lt {W : World} {c : Cf} {vw : Value} {C : Ck} (h : CAt W c vw C) : ∀ k, CFoot c vw k → c.base ≤ k ∧ k < W.heap.size := by
  rintro k (hk | rfl | rfl)
  · exact h.disk.lt k hk
  · exact ⟨h.b2, h.has.lt⟩
  · exact ⟨h.b3, h.pin.lt⟩
theorem CAt.later {W W' : World} {c : Cf} {vw : Value} {C : Ck} (h : CAt W c vw C) (hb : Below W.heap.size W W') : CAt W' c vw C :=
  ⟨h.disk.later hb, h.obj.later hb, h.has.later hb h.has.lt, h.pin.later hb h.pin.lt, h.b1, h.b2, h.b3, h.n1, h.n2, h.n3, h.foot⟩
structure CS (c : Cf) (vw : Value) (w : World) (vw' : Value) (w' : World) (C : Ck) : Prop where
  at_ : CAt w' c vw' C
  ch : Ch (CFoot c vw) w w'
  own : ∀ k, vw'.ownBlock = some k → vw.ownBlock = some k ∨ w.heap.size ≤ k
theorem CS.refl {w : World} {c : Cf} {vw : Value} {C : Ck} (h : CAt w c vw C) : CS c vw w vw w C := ⟨h, Ch.refl _ _, fun _ h => .inl h⟩
theorem CS.later {c : Cf} {vw vw' : Value} {w w' w'' : World} {C : Ck} (h : CS c vw w vw' w' C) (hb : Below w'.heap.size w' w'') : CS c vw w vw' w'' C :=
  ⟨h.at_.later hb, h.ch.same (Ch.of_below hb), h.own⟩
theorem cfoot_mono {c : Cf} {vw vw' : Value} {n k : Nat} (ho : ∀ k, vw'.ownBlock = some k → vw.ownBlock = some k ∨ n ≤ k) (hk : CFoot c vw' k) : CFoot c vw k ∨ n ≤ k := by
  rcases hk with (h | h | h | h) | h | h
  · exact .inl (.inl (.inl h))
  · exact .inl (.inl (.inr (.inl h)))
  · exact .inl (.inl (.inr (.inr (.inl h))))
  · rcases ho k h with h | h
    · exact .inl (.inl (.inr (.inr (.inr h))))
    · exact .inr h
  · exact .inl (.inr (.inl h))
  · exact .inl (.inr (.inr h))
theorem CS.trans {c : Cf} {v0 v1 v2 : Value} {w0 w1 w2 : World} {C1 C2 : Ck} (h : CS c v0 w0 v1 w1 C1) (k : CS c v1 w1 v2 w2 C2) : CS c v0 w0 v2 w2 C2 :=
  ⟨k.at_, h.ch.trans k.ch fun _ hj => cfoot_mono h.own hj, fun j hj => by
    rcases k.own j hj with h1 | h1
    · exact h.own j h1
    · exact .inr (Nat.le_trans h.ch.size h1)⟩
/-- Below what the cache's own blocks begin at nothing changes. -/
theorem CS.below {c : Cf} {vw vw' : Value} {w w' : World} {C C' : Ck} {B : Nat} {w0 : World} (h : CS c vw w vw' w' C') (hc : CAt w c vw C) (hB : B ≤ c.base) (hb : Below B w0 w) (hs : B ≤ w.heap.size) : Below B w0 w' :=
  hb.trans (h.ch.below (fun k hk => Nat.le_trans hB (hc.lt k hk).1) hs)
theorem Chg.ch {w w' : World} {r : Nat} (h : Chg w w' r) : Ch (fun k => k = r) w w' := ⟨h.os, h.tape, h.output, Nat.le_of_eq h.size.symm, fun k _ hk => h.other k hk⟩
theorem CAt.turnHas {W W' : World} {c : Cf} {vw : Value} {C : Ck} {m : HM} (h : CAt W c vw C) (hm : MapOf hval W' c.hm m) (hc : Chg W W' c.hm) : CS c vw W vw W' { C with has := m } :=
  ⟨⟨h.disk.ch hc.ch (fun k hk => (h.foot k hk).2.1), h.obj.ch hc.ch h.n1, hm, h.pin.of_heap (hc.other _ (fun e => h.n3 e.symm)), h.b1, h.b2, h.b3, h.n1, h.n2, h.n3, h.foot⟩,
    hc.ch.mono fun _ hk => .inr (.inl hk), fun _ h => .inl h⟩
theorem CAt.turnPin {W W' : World} {c : Cf} {vw : Value} {C : Ck} {m : PM} (h : CAt W c vw C) (hm : MapOf pval W' c.pm m) (hc : Chg W W' c.pm) : CS c vw W vw W' { C with pin := m } :=
  ⟨⟨h.disk.ch hc.ch (fun k hk => (h.foot k hk).2.2), h.obj.ch hc.ch h.n2, h.has.of_heap (hc.other _ h.n3), hm, h.b1, h.b2, h.b3, h.n1, h.n2, h.n3, h.foot⟩,
    hc.ch.mono fun _ hk => .inr (.inr hk), fun _ h => .inl h⟩
theorem CAt.turnDisk {W W' : World} {c : Cf} {vw vw' : Value} {C : Ck} {D : Dk} (h : CAt W c vw C) (hd : DAt W' c.base c.r c.gs c.gn vw' D) (hc : Ch (Foot c.r c.gs c.gn vw) W W') (ho : ∀ k, vw'.ownBlock = some k → vw.ownBlock = some k ∨ W.heap.size ≤ k) :
    CS c vw W vw' W' { C with D := D } := by
  have a1 := h.obj.lt
  have a2 := h.has.lt
  have a3 := h.pin.lt
  refine ⟨⟨hd, h.obj.ch hc (fun f => (h.foot _ f).1 rfl), h.has.of_heap (hc.block _ a2 fun f => (h.foot _ f).2.1 rfl), h.pin.of_heap (hc.block _ a3 fun f => (h.foot _ f).2.2 rfl), h.b1, h.b2, h.b3, h.n1, h.n2, h.n3, fun k hk => ?_⟩, hc.mono fun k hk => .inl hk, ho⟩
  rcases cfoot_mono (c := c) ho (.inl hk) with hj | hj
  · rcases hj with hj | hj | hj
    · exact h.foot k hj
    · subst hj
      rcases hk with e | e | e | e
      · exact absurd rfl (h.foot _ (.inl e)).2.1
      · exact absurd rfl (h.foot _ (.inr (.inl e))).2.1
      · exact absurd rfl (h.foot _ (.inr (.inr (.inl e)))).2.1
      · rcases ho _ e with e | e
        · exact absurd rfl (h.foot _ (.inr (.inr (.inr e)))).2.1
        · omega
    · subst hj
      rcases hk with e | e | e | e
      · exact absurd rfl (h.foot _ (.inl e)).2.2
      · exact absurd rfl (h.foot _ (.inr (.inl e))).2.2
      · exact absurd rfl (h.foot _ (.inr (.inr (.inl e)))).2.2
      · rcases ho _ e with e | e
        · exact absurd rfl (h.foot _ (.inr (.inr (.inr e)))).2.2
        · omega
  · omega
theorem CAt.ch {F : Nat → Prop} {W W' : World} {c : Cf} {vw : Value} {C : Ck} (h : CAt W c vw C) (hc : Ch F W W') (hF : ∀ k, (CFoot c vw k ∨ k = c.rc) → ¬ F k) : CAt W' c vw C :=
  ⟨h.disk.ch hc (fun k hk => hF k (.inl (.inl hk))), h.obj.ch hc (hF _ (.inr rfl)), h.has.of_heap (hc.block _ h.has.lt (hF _ (.inl (.inr (.inl rfl))))), h.pin.of_heap (hc.block _ h.pin.lt (hF _ (.inl (.inr (.inr rfl))))), h.b1, h.b2, h.b3, h.n1, h.n2, h.n3, h.foot⟩
/-- A block of the call's own is stored. -/
theorem CS.fresh {W w5 w6 : World} {c : Cf} {vw : Value} {C C' : Ck} {g : Nat} (h : CS c vw W vw w5 C') (h0 : CAt W c vw C) (hc : Ch (fun k => k = g) w5 w6) (hg : W.heap.size ≤ g) : CS c vw W vw w6 C' :=
  ⟨h.at_.ch hc fun k hk e => by
      subst e
      rcases hk with hk | hk
      · have := (h0.lt k hk).2; omega
      · have := h0.obj.lt; omega,
    h.ch.trans hc fun k hk => .inr (by subst hk; exact hg), h.own⟩
theorem Ch.setRow {w : World} {g : Nat} {cs : Array Value} : Ch (fun k => k = g) w (w.setRow g cs) := ⟨rfl, rfl, rfl, by simp [World.setRow], fun k _ hk => setRow_other w g k cs hk⟩
theorem Whole.chg {W W' : World} {g r : Nat} {cs : Array Value} {t : TypeId} (h : Whole W g cs t) (hc : Chg W W' r) (hne : g ≠ r) : Whole W' g cs t := (hc.other g hne).trans h
end Go.Proofs.Ytbcjcfjbdjdajaa
