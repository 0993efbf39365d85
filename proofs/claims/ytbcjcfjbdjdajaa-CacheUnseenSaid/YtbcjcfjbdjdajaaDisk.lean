/- Disks of the given program as values: their cells, how they change. No condition but those written in each law. -/
import Derived.Test.YtbcjcfjbdjdajaaBuild
import Derived.Test.YtbcjcfjbdjdajaaPut
namespace Go.Proofs.Ytbcjcfjbdjdajaa
open Go.RowKit
structure Dk where
  safe : List Blk
  now : List Blk
  wait : List Cp
  acts : Int
  left : Int
structure DOk (D : Dk) : Prop where
  same : D.now.length = D.safe.length
  pos : 1 ≤ D.safe.length
  most : D.safe.length ≤ 2048
  rng : ∀ c ∈ D.wait, 0 ≤ c.1 ∧ c.1 < D.safe.length
  few : D.wait.length ≤ 1000000
  a0 : 0 ≤ D.acts
  a1 : D.acts ≤ 1000000000
  l0 : -1 ≤ D.left
  l1 : D.left < 9223372036854775808
def dRefuse (D : Dk) (b : Int) : Int := if D.left = 0 then 30 else if b < 0 ∨ (D.safe.length : Int) ≤ b then 2 else 0
def dAct (D : Dk) : Dk := { D with acts := D.acts + 1, left := if 0 < D.left then D.left - 1 else D.left }
def dPut (D : Dk) (b : Int) (x : Blk) : Dk := { dAct D with wait := D.wait ++ [(b, x)], now := D.now.set b.toNat x }
def dWrite (D : Dk) (b : Int) (x : Blk) : Dk := if dRefuse D b = 0 then dPut D b x else D
def ovPut (o : List Blk) (c : Cp) : List Blk := if 0 ≤ c.1 ∧ c.1 < o.length then o.set c.1.toNat c.2 else o
def overL (o : List Blk) (cs : List Cp) : List Blk := cs.foldl ovPut o
def dSync (D : Dk) : Dk := { dAct D with safe := overL D.safe D.wait, wait := [] }
def dFlush (D : Dk) : Dk := if dRefuse D 0 = 0 then dSync D else D
theorem ovPut_len (o : List Blk) (c : Cp) : (ovPut o c).length = o.length := by unfold ovPut; split <;> simp
theorem overL_len (cs : List Cp) : ∀ (o : List Blk), (overL o cs).length = o.length := by
  induction cs with
  | nil => intro o; rfl
  | cons c cs ih => intro o; show (overL (ovPut o c) cs).length = _; rw [ih, ovPut_len]
theorem overL_snoc (o : List Blk) (cs : List Cp) (c : Cp) : overL o (cs ++ [c]) = ovPut (overL o cs) c := by simp [overL]
/-- What a call changed lies in F, or is new. -/
structure Ch (F : Nat → Prop) (w w' : World) : Prop where
  os : w'.os = w.os
  tape : w'.tape = w.tape
  output : w'.output = w.output
  size : w.heap.size ≤ w'.heap.size
  block : ∀ k, k < w.heap.size → ¬ F k → w'.heap[k]? = w.heap[k]?
theorem Ch.refl (F : Nat → Prop) (w : World) : Ch F w w := ⟨rfl, rfl, rfl, Nat.le_refl _, fun _ _ _ => rfl⟩
theorem Ch.of_below {F : Nat → Prop} {w w' : World} (h : Below w.heap.size w w') : Ch F w w' := ⟨h.os, h.tape, h.output, h.size, fun k hk _ => h.block k hk⟩
theorem Ch.trans {F G : Nat → Prop} {a b c : World} (h : Ch F a b) (k : Ch G b c) (hG : ∀ k, G k → F k ∨ a.heap.size ≤ k) : Ch F a c :=
  ⟨k.os.trans h.os, k.tape.trans h.tape, k.output.trans h.output, Nat.le_trans h.size k.size, fun i hi hf => (k.block i (Nat.lt_of_lt_of_le hi h.size) (fun hg => by rcases hG i hg with h1 | h1 <;> first | exact hf h1 | omega)).trans (h.block i hi hf)⟩
theorem Ch.same {F : Nat → Prop} {a b c : World} (h : Ch F a b) (k : Ch F b c) : Ch F a c := h.trans k fun _ h => .inl h
theorem Ch.mono {F G : Nat → Prop} {a b : World} (h : Ch F a b) (hG : ∀ k, F k → G k) : Ch G a b := ⟨h.os, h.tape, h.output, h.size, fun k hk hg => h.block k hk (fun hf => hg (hG k hf))⟩
theorem Ch.below {F : Nat → Prop} {B : Nat} {a b : World} (h : Ch F a b) (hF : ∀ k, F k → B ≤ k) (hB : B ≤ a.heap.size) : Below B a b := ⟨h.os, h.tape, h.output, h.size, fun k hk => h.block k (by omega) (fun hf => by have := hF k hf; omega)⟩
theorem Ch.of_grown {F : Nat → Prop} {a b : World} {row : Option Nat} (h : a.grownBy b row) (hF : ∀ k, row = some k → F k) : Ch F a b := ⟨h.os, h.tape, h.output, h.size, fun k hk hf => h.block k hk (fun e => hf (hF k e.symm))⟩
theorem Ch.cell {F : Nat → Prop} {w : World} {a : Addr} {v : Value} (h : F a.block) : Ch F w (w.setCell a v) := ⟨rfl, rfl, rfl, by simp [World.setCell], fun k _ hf => heap_setCell_other w a k v (fun e => hf (e ▸ h))⟩
theorem Ch.cells {F : Nat → Prop} {w : World} {g o : Nat} {vs : List Value} (h : F g) : Ch F w (w.setCells g o vs) := Ch.of_grown (grownBy_setCells g vs w o) (fun k hk => by cases hk; exact h)
theorem own_ch {F : Nat → Prop} {W W' : World} {base e size n : Nat} {v : Value} {xs : List Value} (h : W.ownsRow base e size v n xs) (hc : Ch F W W') (hF : ∀ k, v.ownBlock = some k → ¬ F k) : W'.ownsRow base e size v n xs := by
  refine ⟨h.1, ?_⟩
  rcases h.2 with hn | ⟨g, cap, cur, rfl, hb, hgg, rest⟩
  · exact .inl hn
  · refine .inr ⟨g, cap, cur, rfl, hb, ?_, rest⟩
    rw [hc.block g (Array.getElem?_eq_some_iff.1 hgg).1 (hF g rfl)]
    exact hgg
theorem Whole.ch {F : Nat → Prop} {W W' : World} {g : Nat} {cs : Array Value} {t : TypeId} (h : Whole W g cs t) (hc : Ch F W W') (hF : ¬ F g) : Whole W' g cs t := (hc.block g h.lt hF).trans h
/-- A disk's own cells. -/
def dc (vs vn vw : Value) (D : Dk) : Array Value := #[vs, vn, vw, .int .i64 D.acts, .int .i64 D.left]
structure DAt (W : World) (base r gs gn : Nat) (vw : Value) (D : Dk) : Prop where
  ok : DOk D
  obj : ∃ cs cn, Whole W r (dc (.slice (some ⟨gs, 0, none⟩) D.safe.length cs) (.slice (some ⟨gn, 0, none⟩) D.safe.length cn) vw D) 54 ∧
    W.ownsRow base 32 256 (.slice (some ⟨gs, 0, none⟩) D.safe.length cs) D.safe.length (flat bc D.safe) ∧ W.ownsRow base 32 256 (.slice (some ⟨gn, 0, none⟩) D.safe.length cn) D.safe.length (flat bc D.now)
  wait : W.ownsRow base 90 257 vw D.wait.length (flat cc D.wait)
  base : base ≤ r
  sr : gs ≠ r
  nr : gn ≠ r
  sn : gs ≠ gn
  w3 : ∀ k, vw.ownBlock = some k → k ≠ r ∧ k ≠ gs ∧ k ≠ gn
/-- The disk's blocks. -/
def Foot (r gs gn : Nat) (vw : Value) (k : Nat) : Prop := k = r ∨ k = gs ∨ k = gn ∨ vw.ownBlock = some k
theorem DAt.lt {W : World} {base r gs gn : Nat} {vw : Value} {D : Dk} (h : DAt W base r gs gn vw D) : ∀ k, Foot r gs gn vw k → base ≤ k ∧ k < W.heap.size := by
  obtain ⟨cs, cn, hr, hs, hn⟩ := h.obj
  rintro k (rfl | rfl | rfl | hk)
  · exact ⟨h.base, hr.lt⟩
  · exact hs.lt _ rfl
  · exact hn.lt _ rfl
  · exact h.wait.lt _ hk
theorem DAt.ch {F : Nat → Prop} {W W' : World} {base r gs gn : Nat} {vw : Value} {D : Dk} (h : DAt W base r gs gn vw D) (hc : Ch F W W') (hF : ∀ k, Foot r gs gn vw k → ¬ F k) : DAt W' base r gs gn vw D := by
  obtain ⟨cs, cn, hr, hs, hn⟩ := h.obj
  exact ⟨h.ok, ⟨cs, cn, hr.ch hc (hF _ (.inl rfl)), own_ch hs hc (fun k hk => by cases hk; exact hF _ (.inr (.inl rfl))), own_ch hn hc (fun k hk => by cases hk; exact hF _ (.inr (.inr (.inl rfl))))⟩, own_ch h.wait hc (fun k hk => hF _ (.inr (.inr (.inr hk)))), h.base, h.sr, h.nr, h.sn, h.w3⟩
theorem DAt.later {W W' : World} {base r gs gn : Nat} {vw : Value} {D : Dk} (h : DAt W base r gs gn vw D) (hb : Below W.heap.size W W') : DAt W' base r gs gn vw D :=
  h.ch (F := fun _ => False) ⟨hb.os, hb.tape, hb.output, hb.size, fun k hk _ => hb.block k hk⟩ (fun _ _ h => h)
theorem ch_foot {r gs gn : Nat} {vw vw' : Value} {w w1 w2 : World} (h1 : Ch (Foot r gs gn vw) w w1) (h2 : Ch (Foot r gs gn vw') w1 w2) (ho : ∀ k, vw'.ownBlock = some k → vw.ownBlock = some k ∨ w.heap.size ≤ k) : Ch (Foot r gs gn vw) w w2 :=
  h1.trans h2 (by
    rintro k (rfl | rfl | rfl | hk)
    · exact .inl (.inl rfl)
    · exact .inl (.inr (.inl rfl))
    · exact .inl (.inr (.inr (.inl rfl)))
    · rcases ho k hk with h | h
      · exact .inl (.inr (.inr (.inr h)))
      · exact .inr h)
/-- The disk's counts are stored. -/
theorem DAt.acted {W : World} {base r gs gn : Nat} {vw : Value} {D : Dk} (h : DAt W base r gs gn vw D) (D' : Dk) (hok : DOk D') (e1 : D'.safe = D.safe) (e2 : D'.now = D.now) (e3 : D'.wait = D.wait) (j : Nat) (hj : j < 5) (v : Value)
    (hv : ∀ vs vn, (dc vs vn vw D).setIfInBounds j v = dc vs vn vw D') : DAt (W.setCell ⟨r, j, none⟩ v) base r gs gn vw D' := by
  have _ := hj
  obtain ⟨cs, cn, hr, hs, hn⟩ := h.obj
  have hc : Ch (fun k => k = r) W (W.setCell ⟨r, j, none⟩ v) := Ch.cell rfl
  refine ⟨hok, ⟨cs, cn, ?_, ?_, ?_⟩, ?_, h.base, h.sr, h.nr, h.sn, h.w3⟩
  · rw [e1, ← hv]
    exact hr.set j v
  · rw [e1]; exact own_ch hs hc (fun k hk => by cases hk; exact h.sr)
  · rw [e1, e2]; exact own_ch hn hc (fun k hk => by cases hk; exact h.nr)
  · rw [e3]; exact own_ch h.wait hc (fun k hk => (h.w3 k hk).1)
/-- A block of what is there now is stored. -/
theorem DAt.nowPut {W : World} {base r gs gn : Nat} {vw : Value} {D : Dk} (h : DAt W base r gs gn vw D) (i : Nat) (hi : i < D.safe.length) (x : Blk) : DAt (W.setCells gn (i * 256) (bc x)) base r gs gn vw { D with now := D.now.set i x } := by
  obtain ⟨cs, cn, hr, hs, hn⟩ := h.obj
  have hc : Ch (fun k => k = gn) W (W.setCells gn (i * 256) (bc x)) := Ch.cells rfl
  exact ⟨⟨by simp [h.ok.same], h.ok.pos, h.ok.most, h.ok.rng, h.ok.few, h.ok.a0, h.ok.a1, h.ok.l0, h.ok.l1⟩, ⟨cs, cn, hr.ch hc (fun e => h.nr e.symm), own_ch hs hc (fun k hk => by cases hk; exact h.sn), own_set bc_len hn h.ok.same i hi x⟩, own_ch h.wait hc (fun k hk => (h.w3 k hk).2.2), h.base, h.sr, h.nr, h.sn, h.w3⟩
/-- A block of what is safe is stored. -/
theorem DAt.safePut {W : World} {base r gs gn : Nat} {vw : Value} {D : Dk} (h : DAt W base r gs gn vw D) (i : Nat) (hi : i < D.safe.length) (x : Blk) : DAt (W.setCells gs (i * 256) (bc x)) base r gs gn vw { D with safe := D.safe.set i x } := by
  obtain ⟨cs, cn, hr, hs, hn⟩ := h.obj
  have hc : Ch (fun k => k = gs) W (W.setCells gs (i * 256) (bc x)) := Ch.cells rfl
  have hl : (D.safe.set i x).length = D.safe.length := by simp
  refine ⟨⟨by simp [h.ok.same], by rw [hl]; exact h.ok.pos, by rw [hl]; exact h.ok.most, by rw [hl]; exact h.ok.rng, h.ok.few, h.ok.a0, h.ok.a1, h.ok.l0, h.ok.l1⟩, ⟨cs, cn, ?_, ?_, ?_⟩, own_ch h.wait hc (fun k hk => (h.w3 k hk).2.1), h.base, h.sr, h.nr, h.sn, h.w3⟩
  · rw [hl]; exact hr.ch hc (fun e => h.sr e.symm)
  · rw [hl]; exact own_set bc_len hs rfl i hi x
  · rw [hl]; exact own_ch hn hc (fun k hk => by cases hk; exact fun e => h.sn e.symm)
/-- What waits is another list. -/
theorem DAt.waits {W W' : World} {base r gs gn : Nat} {vw vw' : Value} {D : Dk} {xs : List Cp} (h : DAt W base r gs gn vw D) (hg : W.grownBy W' vw.ownBlock) (ho : W'.ownsRow base 90 257 vw' xs.length (flat cc xs))
    (hat : ∀ k, vw'.ownBlock = some k → vw.ownBlock = some k ∨ W.heap.size ≤ k) (hx : ∀ c ∈ xs, 0 ≤ c.1 ∧ c.1 < D.safe.length) (hf : xs.length ≤ 1000000) :
    DAt (W'.setCell ⟨r, 2, none⟩ vw') base r gs gn vw' { D with wait := xs } := by
  obtain ⟨cs, cn, hr, hs, hn⟩ := h.obj
  have hc : Ch (fun k => vw.ownBlock = some k) W W' := Ch.of_grown hg fun k hk => hk
  have hc2 : Ch (fun k => k = r) W' (W'.setCell ⟨r, 2, none⟩ vw') := Ch.cell rfl
  have nw : ∀ k, vw'.ownBlock = some k → k ≠ r ∧ k ≠ gs ∧ k ≠ gn := fun k hk => by
    rcases hat k hk with h1 | h1
    · exact h.w3 k h1
    · have a1 := hr.lt
      have a2 : gs < W.heap.size := (hs.lt _ rfl).2
      have a3 : gn < W.heap.size := (hn.lt _ rfl).2
      omega
  refine ⟨⟨h.ok.same, h.ok.pos, h.ok.most, hx, hf, h.ok.a0, h.ok.a1, h.ok.l0, h.ok.l1⟩, ⟨cs, cn, ?_, ?_, ?_⟩, ?_, h.base, h.sr, h.nr, h.sn, nw⟩
  · have := (hr.ch hc (fun e => (h.w3 r e).1 rfl)).set 2 vw'
    exact this
  · exact own_ch (own_ch hs hc (fun k hk => by cases hk; exact fun e => (h.w3 _ e).2.1 rfl)) hc2 (fun k hk => by cases hk; exact h.sr)
  · exact own_ch (own_ch hn hc (fun k hk => by cases hk; exact fun e => (h.w3 _ e).2.2 rfl)) hc2 (fun k hk => by cases hk; exact h.nr)
  · exact own_ch ho hc2 (fun k hk => (nw k hk).1)
theorem DOk.act {D : Dk} (h : DOk D) (ha : D.acts < 1000000000) : DOk (dAct D) := by
  refine ⟨h.same, h.pos, h.most, h.rng, h.few, ?_, ?_, ?_, ?_⟩
  · have := h.a0; show (0 : Int) ≤ D.acts + 1; omega
  · show D.acts + 1 ≤ 1000000000; omega
  · have := h.l0
    show -1 ≤ (if 0 < D.left then D.left - 1 else D.left)
    split <;> omega
  · have := h.l1
    show (if 0 < D.left then D.left - 1 else D.left) < 9223372036854775808
    split <;> omega
theorem zeroW : (Try.prog.info? 90).map (fun i => (i.zero, i.size, i.bytes)) = some (some (.agg (ca (0, fun _ => 0))), 257, 264) := by kernel_rfl
theorem sizeW : (Try.prog.info? 90).map (·.size) = some 257 := by kernel_rfl
theorem run_zeroW : (zeroValue 90).run Try.prog = fun w => .ok (.agg (ca (0, fun _ => 0))) w := by
  funext w
  obtain ⟨i, hi, h1, h2, h3⟩ := info_parts zeroW
  exact (zero_of_info (show (Try.prog.info? 90).map (fun i => (i.zero, i.size)) = some (some (.agg (ca (0, fun _ => 0))), 257) by rw [hi]; simp [h1, h2])).1 w
theorem loadAtW (v : Value) : Instr.loadAt 90 v = bigLoadAt 90 v := rfl
theorem storeAtW (v x : Value) : Instr.storeAt 90 v x = bigStoreAt 90 v x := rfl
theorem buildAtW (p : Array (Nat × Value)) : Instr.build 90 p = bigBuild 90 p := rfl
theorem sliceAtW (n : Nat) (p : Array (Nat × Value)) : Instr.buildSlice 52 n p = bigBuildSlice 52 n p := rfl
theorem ldW {W : World} {g o : Nat} {c : Cp} (h : W.rangeAt g o (cc c)) : (bigLoadAt 90 (.pointer (some ⟨g, o, none⟩))).run Try.prog W = .ok (.agg (ca c)) W :=
  run_bigLoad Try.underlying90 rfl (by rw [cc_len]; exact sizeW) h
theorem stW {W : World} {g o : Nat} (c : Cp) (h : W.there g o 257) : (bigStoreAt 90 (.pointer (some ⟨g, o, none⟩)) (.agg (ca c))).run Try.prog W = .ok () (W.setCells g o (cc c)) :=
  run_bigStore (by rw [cc_len]; exact sizeW) (cc_one c) (by rw [cc_len]; exact h)
theorem builtW (b : Int) (x : Blk) : Try.prog.built 90 [(0, .int .i64 b), (1, .agg (blk x))] = some (ca (b, x)) := by kernel_rfl
theorem run_buildW (b : Int) (x : Blk) : ∀ w, (bigBuild 90 #[(0, .int .i64 b), (1, .agg (blk x))]).run Try.prog w = .ok (.agg (ca (b, x))) w := fun w => run_build w 90 _ _ (builtW b x)
theorem run_bsW (c : Cp) : ∀ w, (bigBuildSlice 52 1 #[(0, .agg (ca c))]).run Try.prog w = .ok (.slice (some ⟨w.heap.size, 0, none⟩) 1 1) (w.alloc (.cells (ca c) 90)) := fun w => by
  obtain ⟨i, hi, h1, h2, h3⟩ := info_parts zeroW
  refine run_buildSlice w 52 90 1 _ (ca c) i _ Try.underlying52 hi h1 (by rw [h2]; omega) (by rw [h2]; omega) ?_
  rw [h2]
  have := fillC c
  show Instr.fill _ ((Array.range (1 * 257)).map ((ca (0, fun _ => 0))[· % (ca (0, fun _ => 0)).size]!)) _ = _
  rw [ca_size]
  exact this
end Go.Proofs.Ytbcjcfjbdjdajaa
