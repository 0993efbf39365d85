/- quernlaw13.RevokeNil returns true. No condition. -/
import Derived.Test.YtlnfjcbhicdceaaN1
namespace Go.Proofs.Ytlnfjcbhicdceaa
open Go.RowKit
theorem Calls.later {P : Program} {f : FuncId} {args : Array Value} {w : World} {p : Later w} {v : Value} (h : Calls P f args p.x fun e w' => e = .returned v ∧ w' = p.x) :
    Calls P f args p.x fun e w'' => e = .returned v ∧ ∃ q : Later w, w'' = q.x :=
  h.mono fun _ w' ⟨he, hb⟩ => ⟨he, p, hb⟩
/-- What stands between two rounds. -/
structure NI (w : World) (b s : Int) (W : World) : Prop where
  c1 : W.cell? ⟨w.heap.size, 1, none⟩ = some (.int .i64 b)
  c2 : W.cell? ⟨w.heap.size, 2, none⟩ = some (.int .u32 s)
  e0 : W.cell? ⟨w.heap.size + 1, 0, none⟩ = some (.map none)
  l0 : W.cell? ⟨w.heap.size + 1 + 1, 0, none⟩ = some (.pointer none)
  l1 : W.cell? ⟨w.heap.size + 1 + 1, 1, none⟩ = some (.pointer (some ⟨w.heap.size + 1, 0, none⟩))
  bel : Below w.heap.size w W
theorem NI.later {w : World} {b s : Int} {W W' : World} (h : NI w b s W) (hb : Below W.heap.size W W') : NI w b s W' := by
  have k : ∀ {a : Addr} {v : Value}, W.cell? a = some v → W'.cell? a = some v := fun {a v} hc => (World.cell?_of_block (hb.block a.block (World.block_lt_of_cell? W _ hc))).trans hc
  exact ⟨k h.c1, k h.c2, k h.e0, k h.l0, k h.l1, h.bel.trans (hb.mono h.bel.size)⟩
set_option maxRecDepth 100000 in
set_option maxHeartbeats 8000000 in
theorem revokeNil_walk (kd b s : Int) (w : World) :
    Calls Try.prog 6 #[.agg #[.int .u8 kd, .int .i64 b, .int .u32 s]] w fun e w' => e = .returned (.bool true) ∧ Below w.heap.size w w' := by
  go_enter Try.func6, Try.ntmps6
  go_wp2_with fail
  go_loopw [5] (fun v5 W => ∃ i : Nat, v5 = .int .i64 (i : Nat) ∧ i ≤ 2 ∧ NI w b s W) (fun v5 _ => (2 - intOf v5).toNat)
  case atStart =>
    have g0 : (((w.alloc (.cells #[.int .u8 kd, .int .i64 b, .int .u32 s] 45)).alloc (.cells #[.map none] 50)).alloc (.cells #[.pointer none, .pointer (some ⟨w.heap.size + 1, 0, none⟩)] 24)).heap[w.heap.size]? = some (.cells #[.int .u8 kd, .int .i64 b, .int .u32 s] 45 (0, 0)) := heap_past_alloc (heap_past_alloc (heap_at_alloc _ _ _ rfl))
    have g1 : (((w.alloc (.cells #[.int .u8 kd, .int .i64 b, .int .u32 s] 45)).alloc (.cells #[.map none] 50)).alloc (.cells #[.pointer none, .pointer (some ⟨w.heap.size + 1, 0, none⟩)] 24)).heap[w.heap.size + 1]? = some (.cells #[.map none] 50 (0, 0)) := heap_past_alloc (heap_at_alloc _ _ _ (by simp))
    have g2 : (((w.alloc (.cells #[.int .u8 kd, .int .i64 b, .int .u32 s] 45)).alloc (.cells #[.map none] 50)).alloc (.cells #[.pointer none, .pointer (some ⟨w.heap.size + 1, 0, none⟩)] 24)).heap[w.heap.size + 1 + 1]? = some (.cells #[.pointer none, .pointer (some ⟨w.heap.size + 1, 0, none⟩)] 24 (0, 0)) := heap_at_alloc _ _ _ (by simp)
    exact ⟨0, rfl, by omega, ⟨by rw [cell_of_row _ _ _ _ _ _ g0]; rfl, by rw [cell_of_row _ _ _ _ _ _ g0]; rfl, by rw [cell_of_row _ _ _ _ _ _ g1]; rfl, by rw [cell_of_row _ _ _ _ _ _ g2]; rfl, by rw [cell_of_row _ _ _ _ _ _ g2]; rfl, (((Below.refl _ _).alloc (Nat.le_refl _) _).alloc (by simp) _).alloc (by simp; omega) _⟩⟩
  case round =>
    obtain ⟨i, rfl, hi, hN⟩ := hrel
    have H := Lib.hid hN
    clear hN
    have hcase : i = 0 ∨ i = 1 ∨ i = 2 := by omega
    rcases hcase with rfl | rfl | rfl
    · have NT : Hid (∀ p : Later wr, NoTab p.x (.pointer none)) := fun p => .inl rfl
      have q1 : ∀ p : Later wr, p.x.cell? ⟨w.heap.size, 1, none⟩ = some (.int .i64 b) := fun p => (H.out.later p.h).c1
      have q2 : ∀ p : Later wr, p.x.cell? ⟨w.heap.size, 2, none⟩ = some (.int .u32 s) := fun p => (H.out.later p.h).c2
      have q3 : ∀ p : Later wr, p.x.cell? ⟨w.heap.size + 1 + 1, 0, none⟩ = some (.pointer none) := fun p => (H.out.later p.h).l0
      go_wp2_with fail
      refine wp_region_later (by kernel_rfl) (by kernel_rfl) ?_
      repeat (first | go_big_quiet_step ((first | (go_at_call 20; exact Calls.later (add_no _ _ _ _ (NT.out _))) | (go_at_call 21; exact Calls.later (cancel_no _ _ _ _ (NT.out _))) | (go_at_call 22; exact Calls.later (drop_no _ _ _ (NT.out _))) | (go_at_call 10; exact Calls.later (last_no _ _ _ (NT.out _))) | (go_at_call 11; exact Calls.later (rev_no _ _ _ _ (NT.out _))) | (go_at_call 13; exact Calls.later (of_no _ _ _ (NT.out _))) | (go_at_call 12; exact Calls.later (len_no _ _ (NT.out _))))) | quiet_step ((first | (go_at_call 20; exact Calls.later (add_no _ _ _ _ (NT.out _))) | (go_at_call 21; exact Calls.later (cancel_no _ _ _ _ (NT.out _))) | (go_at_call 22; exact Calls.later (drop_no _ _ _ (NT.out _))) | (go_at_call 10; exact Calls.later (last_no _ _ _ (NT.out _))) | (go_at_call 11; exact Calls.later (rev_no _ _ _ _ (NT.out _))) | (go_at_call 13; exact Calls.later (of_no _ _ _ (NT.out _))) | (go_at_call 12; exact Calls.later (len_no _ _ (NT.out _))))))
      refine wpQuiet_nil ?_
      rintro ⟨W1, hW1⟩
      dsimp only
      replace H := Lib.hid (H.out.later hW1)
      clear NT q1 q2 q3 hW1
      have NT : Hid (∀ p : Later W1, NoTab p.x (.pointer none)) := fun p => .inl rfl
      have q1 : ∀ p : Later W1, p.x.cell? ⟨w.heap.size, 1, none⟩ = some (.int .i64 b) := fun p => (H.out.later p.h).c1
      have q2 : ∀ p : Later W1, p.x.cell? ⟨w.heap.size, 2, none⟩ = some (.int .u32 s) := fun p => (H.out.later p.h).c2
      have q3 : ∀ p : Later W1, p.x.cell? ⟨w.heap.size + 1 + 1, 0, none⟩ = some (.pointer none) := fun p => (H.out.later p.h).l0
      go_wp2_with fail
      refine wp_region_later (by kernel_rfl) (by kernel_rfl) ?_
      repeat (first | go_big_quiet_step ((first | (go_at_call 20; exact Calls.later (add_no _ _ _ _ (NT.out _))) | (go_at_call 21; exact Calls.later (cancel_no _ _ _ _ (NT.out _))) | (go_at_call 22; exact Calls.later (drop_no _ _ _ (NT.out _))) | (go_at_call 10; exact Calls.later (last_no _ _ _ (NT.out _))) | (go_at_call 11; exact Calls.later (rev_no _ _ _ _ (NT.out _))) | (go_at_call 13; exact Calls.later (of_no _ _ _ (NT.out _))) | (go_at_call 12; exact Calls.later (len_no _ _ (NT.out _))))) | quiet_step ((first | (go_at_call 20; exact Calls.later (add_no _ _ _ _ (NT.out _))) | (go_at_call 21; exact Calls.later (cancel_no _ _ _ _ (NT.out _))) | (go_at_call 22; exact Calls.later (drop_no _ _ _ (NT.out _))) | (go_at_call 10; exact Calls.later (last_no _ _ _ (NT.out _))) | (go_at_call 11; exact Calls.later (rev_no _ _ _ _ (NT.out _))) | (go_at_call 13; exact Calls.later (of_no _ _ _ (NT.out _))) | (go_at_call 12; exact Calls.later (len_no _ _ (NT.out _))))))
      refine wpQuiet_nil ?_
      rintro ⟨W1, hW1⟩
      dsimp only
      replace H := Lib.hid (H.out.later hW1)
      clear NT q1 q2 q3 hW1
      have NT : Hid (∀ p : Later W1, NoTab p.x (.pointer none)) := fun p => .inl rfl
      have q1 : ∀ p : Later W1, p.x.cell? ⟨w.heap.size, 1, none⟩ = some (.int .i64 b) := fun p => (H.out.later p.h).c1
      have q2 : ∀ p : Later W1, p.x.cell? ⟨w.heap.size, 2, none⟩ = some (.int .u32 s) := fun p => (H.out.later p.h).c2
      have q3 : ∀ p : Later W1, p.x.cell? ⟨w.heap.size + 1 + 1, 0, none⟩ = some (.pointer none) := fun p => (H.out.later p.h).l0
      go_wp2_with fail
      refine wp_region_later (by kernel_rfl) (by kernel_rfl) ?_
      repeat (first | go_big_quiet_step ((first | (go_at_call 20; exact Calls.later (add_no _ _ _ _ (NT.out _))) | (go_at_call 21; exact Calls.later (cancel_no _ _ _ _ (NT.out _))) | (go_at_call 22; exact Calls.later (drop_no _ _ _ (NT.out _))) | (go_at_call 10; exact Calls.later (last_no _ _ _ (NT.out _))) | (go_at_call 11; exact Calls.later (rev_no _ _ _ _ (NT.out _))) | (go_at_call 13; exact Calls.later (of_no _ _ _ (NT.out _))) | (go_at_call 12; exact Calls.later (len_no _ _ (NT.out _))))) | quiet_step ((first | (go_at_call 20; exact Calls.later (add_no _ _ _ _ (NT.out _))) | (go_at_call 21; exact Calls.later (cancel_no _ _ _ _ (NT.out _))) | (go_at_call 22; exact Calls.later (drop_no _ _ _ (NT.out _))) | (go_at_call 10; exact Calls.later (last_no _ _ _ (NT.out _))) | (go_at_call 11; exact Calls.later (rev_no _ _ _ _ (NT.out _))) | (go_at_call 13; exact Calls.later (of_no _ _ _ (NT.out _))) | (go_at_call 12; exact Calls.later (len_no _ _ (NT.out _))))))
      refine wpQuiet_nil ?_
      rintro ⟨W1, hW1⟩
      dsimp only
      replace H := Lib.hid (H.out.later hW1)
      clear NT q1 q2 q3 hW1
      have NT : Hid (∀ p : Later W1, NoTab p.x (.pointer none)) := fun p => .inl rfl
      have q1 : ∀ p : Later W1, p.x.cell? ⟨w.heap.size, 1, none⟩ = some (.int .i64 b) := fun p => (H.out.later p.h).c1
      have q2 : ∀ p : Later W1, p.x.cell? ⟨w.heap.size, 2, none⟩ = some (.int .u32 s) := fun p => (H.out.later p.h).c2
      have q3 : ∀ p : Later W1, p.x.cell? ⟨w.heap.size + 1 + 1, 0, none⟩ = some (.pointer none) := fun p => (H.out.later p.h).l0
      go_wp2_with fail
      refine wp_region_later (by kernel_rfl) (by kernel_rfl) ?_
      repeat (first | go_big_quiet_step ((first | (go_at_call 20; exact Calls.later (add_no _ _ _ _ (NT.out _))) | (go_at_call 21; exact Calls.later (cancel_no _ _ _ _ (NT.out _))) | (go_at_call 22; exact Calls.later (drop_no _ _ _ (NT.out _))) | (go_at_call 10; exact Calls.later (last_no _ _ _ (NT.out _))) | (go_at_call 11; exact Calls.later (rev_no _ _ _ _ (NT.out _))) | (go_at_call 13; exact Calls.later (of_no _ _ _ (NT.out _))) | (go_at_call 12; exact Calls.later (len_no _ _ (NT.out _))))) | quiet_step ((first | (go_at_call 20; exact Calls.later (add_no _ _ _ _ (NT.out _))) | (go_at_call 21; exact Calls.later (cancel_no _ _ _ _ (NT.out _))) | (go_at_call 22; exact Calls.later (drop_no _ _ _ (NT.out _))) | (go_at_call 10; exact Calls.later (last_no _ _ _ (NT.out _))) | (go_at_call 11; exact Calls.later (rev_no _ _ _ _ (NT.out _))) | (go_at_call 13; exact Calls.later (of_no _ _ _ (NT.out _))) | (go_at_call 12; exact Calls.later (len_no _ _ (NT.out _))))))
      refine wpQuiet_nil ?_
      rintro ⟨W1, hW1⟩
      dsimp only
      replace H := Lib.hid (H.out.later hW1)
      clear NT q1 q2 q3 hW1
      have NT : Hid (∀ p : Later W1, NoTab p.x (.pointer none)) := fun p => .inl rfl
      have q1 : ∀ p : Later W1, p.x.cell? ⟨w.heap.size, 1, none⟩ = some (.int .i64 b) := fun p => (H.out.later p.h).c1
      have q2 : ∀ p : Later W1, p.x.cell? ⟨w.heap.size, 2, none⟩ = some (.int .u32 s) := fun p => (H.out.later p.h).c2
      have q3 : ∀ p : Later W1, p.x.cell? ⟨w.heap.size + 1 + 1, 0, none⟩ = some (.pointer none) := fun p => (H.out.later p.h).l0
      go_wp2_with fail
      refine wp_region_later (by kernel_rfl) (by kernel_rfl) ?_
      repeat (first | go_big_quiet_step ((first | (go_at_call 20; exact Calls.later (add_no _ _ _ _ (NT.out _))) | (go_at_call 21; exact Calls.later (cancel_no _ _ _ _ (NT.out _))) | (go_at_call 22; exact Calls.later (drop_no _ _ _ (NT.out _))) | (go_at_call 10; exact Calls.later (last_no _ _ _ (NT.out _))) | (go_at_call 11; exact Calls.later (rev_no _ _ _ _ (NT.out _))) | (go_at_call 13; exact Calls.later (of_no _ _ _ (NT.out _))) | (go_at_call 12; exact Calls.later (len_no _ _ (NT.out _))))) | quiet_step ((first | (go_at_call 20; exact Calls.later (add_no _ _ _ _ (NT.out _))) | (go_at_call 21; exact Calls.later (cancel_no _ _ _ _ (NT.out _))) | (go_at_call 22; exact Calls.later (drop_no _ _ _ (NT.out _))) | (go_at_call 10; exact Calls.later (last_no _ _ _ (NT.out _))) | (go_at_call 11; exact Calls.later (rev_no _ _ _ _ (NT.out _))) | (go_at_call 13; exact Calls.later (of_no _ _ _ (NT.out _))) | (go_at_call 12; exact Calls.later (len_no _ _ (NT.out _))))))
      refine wpQuiet_nil ?_
      rintro ⟨W1, hW1⟩
      dsimp only
      replace H := Lib.hid (H.out.later hW1)
      clear NT q1 q2 q3 hW1
      go_wp2_with fail
      exact ⟨⟨1, rfl, by omega, H.out⟩, by simp [intOf]⟩
    · have NT : Hid (∀ p : Later wr, NoTab p.x (.pointer (some ⟨w.heap.size + 1, 0, none⟩))) := fun p => .inr ⟨_, rfl, (H.out.later p.h).e0⟩
      have q1 : ∀ p : Later wr, p.x.cell? ⟨w.heap.size, 1, none⟩ = some (.int .i64 b) := fun p => (H.out.later p.h).c1
      have q2 : ∀ p : Later wr, p.x.cell? ⟨w.heap.size, 2, none⟩ = some (.int .u32 s) := fun p => (H.out.later p.h).c2
      have q3 : ∀ p : Later wr, p.x.cell? ⟨w.heap.size + 1 + 1, 1, none⟩ = some (.pointer (some ⟨w.heap.size + 1, 0, none⟩)) := fun p => (H.out.later p.h).l1
      go_wp2_with fail
      refine wp_region_later (by kernel_rfl) (by kernel_rfl) ?_
      repeat (first | go_big_quiet_step ((first | (go_at_call 20; exact Calls.later (add_no _ _ _ _ (NT.out _))) | (go_at_call 21; exact Calls.later (cancel_no _ _ _ _ (NT.out _))) | (go_at_call 22; exact Calls.later (drop_no _ _ _ (NT.out _))) | (go_at_call 10; exact Calls.later (last_no _ _ _ (NT.out _))) | (go_at_call 11; exact Calls.later (rev_no _ _ _ _ (NT.out _))) | (go_at_call 13; exact Calls.later (of_no _ _ _ (NT.out _))) | (go_at_call 12; exact Calls.later (len_no _ _ (NT.out _))))) | quiet_step ((first | (go_at_call 20; exact Calls.later (add_no _ _ _ _ (NT.out _))) | (go_at_call 21; exact Calls.later (cancel_no _ _ _ _ (NT.out _))) | (go_at_call 22; exact Calls.later (drop_no _ _ _ (NT.out _))) | (go_at_call 10; exact Calls.later (last_no _ _ _ (NT.out _))) | (go_at_call 11; exact Calls.later (rev_no _ _ _ _ (NT.out _))) | (go_at_call 13; exact Calls.later (of_no _ _ _ (NT.out _))) | (go_at_call 12; exact Calls.later (len_no _ _ (NT.out _))))))
      refine wpQuiet_nil ?_
      rintro ⟨W1, hW1⟩
      dsimp only
      replace H := Lib.hid (H.out.later hW1)
      clear NT q1 q2 q3 hW1
      have NT : Hid (∀ p : Later W1, NoTab p.x (.pointer (some ⟨w.heap.size + 1, 0, none⟩))) := fun p => .inr ⟨_, rfl, (H.out.later p.h).e0⟩
      have q1 : ∀ p : Later W1, p.x.cell? ⟨w.heap.size, 1, none⟩ = some (.int .i64 b) := fun p => (H.out.later p.h).c1
      have q2 : ∀ p : Later W1, p.x.cell? ⟨w.heap.size, 2, none⟩ = some (.int .u32 s) := fun p => (H.out.later p.h).c2
      have q3 : ∀ p : Later W1, p.x.cell? ⟨w.heap.size + 1 + 1, 1, none⟩ = some (.pointer (some ⟨w.heap.size + 1, 0, none⟩)) := fun p => (H.out.later p.h).l1
      go_wp2_with fail
      refine wp_region_later (by kernel_rfl) (by kernel_rfl) ?_
      repeat (first | go_big_quiet_step ((first | (go_at_call 20; exact Calls.later (add_no _ _ _ _ (NT.out _))) | (go_at_call 21; exact Calls.later (cancel_no _ _ _ _ (NT.out _))) | (go_at_call 22; exact Calls.later (drop_no _ _ _ (NT.out _))) | (go_at_call 10; exact Calls.later (last_no _ _ _ (NT.out _))) | (go_at_call 11; exact Calls.later (rev_no _ _ _ _ (NT.out _))) | (go_at_call 13; exact Calls.later (of_no _ _ _ (NT.out _))) | (go_at_call 12; exact Calls.later (len_no _ _ (NT.out _))))) | quiet_step ((first | (go_at_call 20; exact Calls.later (add_no _ _ _ _ (NT.out _))) | (go_at_call 21; exact Calls.later (cancel_no _ _ _ _ (NT.out _))) | (go_at_call 22; exact Calls.later (drop_no _ _ _ (NT.out _))) | (go_at_call 10; exact Calls.later (last_no _ _ _ (NT.out _))) | (go_at_call 11; exact Calls.later (rev_no _ _ _ _ (NT.out _))) | (go_at_call 13; exact Calls.later (of_no _ _ _ (NT.out _))) | (go_at_call 12; exact Calls.later (len_no _ _ (NT.out _))))))
      refine wpQuiet_nil ?_
      rintro ⟨W1, hW1⟩
      dsimp only
      replace H := Lib.hid (H.out.later hW1)
      clear NT q1 q2 q3 hW1
      have NT : Hid (∀ p : Later W1, NoTab p.x (.pointer (some ⟨w.heap.size + 1, 0, none⟩))) := fun p => .inr ⟨_, rfl, (H.out.later p.h).e0⟩
      have q1 : ∀ p : Later W1, p.x.cell? ⟨w.heap.size, 1, none⟩ = some (.int .i64 b) := fun p => (H.out.later p.h).c1
      have q2 : ∀ p : Later W1, p.x.cell? ⟨w.heap.size, 2, none⟩ = some (.int .u32 s) := fun p => (H.out.later p.h).c2
      have q3 : ∀ p : Later W1, p.x.cell? ⟨w.heap.size + 1 + 1, 1, none⟩ = some (.pointer (some ⟨w.heap.size + 1, 0, none⟩)) := fun p => (H.out.later p.h).l1
      go_wp2_with fail
      refine wp_region_later (by kernel_rfl) (by kernel_rfl) ?_
      repeat (first | go_big_quiet_step ((first | (go_at_call 20; exact Calls.later (add_no _ _ _ _ (NT.out _))) | (go_at_call 21; exact Calls.later (cancel_no _ _ _ _ (NT.out _))) | (go_at_call 22; exact Calls.later (drop_no _ _ _ (NT.out _))) | (go_at_call 10; exact Calls.later (last_no _ _ _ (NT.out _))) | (go_at_call 11; exact Calls.later (rev_no _ _ _ _ (NT.out _))) | (go_at_call 13; exact Calls.later (of_no _ _ _ (NT.out _))) | (go_at_call 12; exact Calls.later (len_no _ _ (NT.out _))))) | quiet_step ((first | (go_at_call 20; exact Calls.later (add_no _ _ _ _ (NT.out _))) | (go_at_call 21; exact Calls.later (cancel_no _ _ _ _ (NT.out _))) | (go_at_call 22; exact Calls.later (drop_no _ _ _ (NT.out _))) | (go_at_call 10; exact Calls.later (last_no _ _ _ (NT.out _))) | (go_at_call 11; exact Calls.later (rev_no _ _ _ _ (NT.out _))) | (go_at_call 13; exact Calls.later (of_no _ _ _ (NT.out _))) | (go_at_call 12; exact Calls.later (len_no _ _ (NT.out _))))))
      refine wpQuiet_nil ?_
      rintro ⟨W1, hW1⟩
      dsimp only
      replace H := Lib.hid (H.out.later hW1)
      clear NT q1 q2 q3 hW1
      have NT : Hid (∀ p : Later W1, NoTab p.x (.pointer (some ⟨w.heap.size + 1, 0, none⟩))) := fun p => .inr ⟨_, rfl, (H.out.later p.h).e0⟩
      have q1 : ∀ p : Later W1, p.x.cell? ⟨w.heap.size, 1, none⟩ = some (.int .i64 b) := fun p => (H.out.later p.h).c1
      have q2 : ∀ p : Later W1, p.x.cell? ⟨w.heap.size, 2, none⟩ = some (.int .u32 s) := fun p => (H.out.later p.h).c2
      have q3 : ∀ p : Later W1, p.x.cell? ⟨w.heap.size + 1 + 1, 1, none⟩ = some (.pointer (some ⟨w.heap.size + 1, 0, none⟩)) := fun p => (H.out.later p.h).l1
      go_wp2_with fail
      refine wp_region_later (by kernel_rfl) (by kernel_rfl) ?_
      repeat (first | go_big_quiet_step ((first | (go_at_call 20; exact Calls.later (add_no _ _ _ _ (NT.out _))) | (go_at_call 21; exact Calls.later (cancel_no _ _ _ _ (NT.out _))) | (go_at_call 22; exact Calls.later (drop_no _ _ _ (NT.out _))) | (go_at_call 10; exact Calls.later (last_no _ _ _ (NT.out _))) | (go_at_call 11; exact Calls.later (rev_no _ _ _ _ (NT.out _))) | (go_at_call 13; exact Calls.later (of_no _ _ _ (NT.out _))) | (go_at_call 12; exact Calls.later (len_no _ _ (NT.out _))))) | quiet_step ((first | (go_at_call 20; exact Calls.later (add_no _ _ _ _ (NT.out _))) | (go_at_call 21; exact Calls.later (cancel_no _ _ _ _ (NT.out _))) | (go_at_call 22; exact Calls.later (drop_no _ _ _ (NT.out _))) | (go_at_call 10; exact Calls.later (last_no _ _ _ (NT.out _))) | (go_at_call 11; exact Calls.later (rev_no _ _ _ _ (NT.out _))) | (go_at_call 13; exact Calls.later (of_no _ _ _ (NT.out _))) | (go_at_call 12; exact Calls.later (len_no _ _ (NT.out _))))))
      refine wpQuiet_nil ?_
      rintro ⟨W1, hW1⟩
      dsimp only
      replace H := Lib.hid (H.out.later hW1)
      clear NT q1 q2 q3 hW1
      have NT : Hid (∀ p : Later W1, NoTab p.x (.pointer (some ⟨w.heap.size + 1, 0, none⟩))) := fun p => .inr ⟨_, rfl, (H.out.later p.h).e0⟩
      have q1 : ∀ p : Later W1, p.x.cell? ⟨w.heap.size, 1, none⟩ = some (.int .i64 b) := fun p => (H.out.later p.h).c1
      have q2 : ∀ p : Later W1, p.x.cell? ⟨w.heap.size, 2, none⟩ = some (.int .u32 s) := fun p => (H.out.later p.h).c2
      have q3 : ∀ p : Later W1, p.x.cell? ⟨w.heap.size + 1 + 1, 1, none⟩ = some (.pointer (some ⟨w.heap.size + 1, 0, none⟩)) := fun p => (H.out.later p.h).l1
      go_wp2_with fail
      refine wp_region_later (by kernel_rfl) (by kernel_rfl) ?_
      repeat (first | go_big_quiet_step ((first | (go_at_call 20; exact Calls.later (add_no _ _ _ _ (NT.out _))) | (go_at_call 21; exact Calls.later (cancel_no _ _ _ _ (NT.out _))) | (go_at_call 22; exact Calls.later (drop_no _ _ _ (NT.out _))) | (go_at_call 10; exact Calls.later (last_no _ _ _ (NT.out _))) | (go_at_call 11; exact Calls.later (rev_no _ _ _ _ (NT.out _))) | (go_at_call 13; exact Calls.later (of_no _ _ _ (NT.out _))) | (go_at_call 12; exact Calls.later (len_no _ _ (NT.out _))))) | quiet_step ((first | (go_at_call 20; exact Calls.later (add_no _ _ _ _ (NT.out _))) | (go_at_call 21; exact Calls.later (cancel_no _ _ _ _ (NT.out _))) | (go_at_call 22; exact Calls.later (drop_no _ _ _ (NT.out _))) | (go_at_call 10; exact Calls.later (last_no _ _ _ (NT.out _))) | (go_at_call 11; exact Calls.later (rev_no _ _ _ _ (NT.out _))) | (go_at_call 13; exact Calls.later (of_no _ _ _ (NT.out _))) | (go_at_call 12; exact Calls.later (len_no _ _ (NT.out _))))))
      refine wpQuiet_nil ?_
      rintro ⟨W1, hW1⟩
      dsimp only
      replace H := Lib.hid (H.out.later hW1)
      clear NT q1 q2 q3 hW1
      go_wp2_with fail
      exact ⟨⟨2, rfl, by omega, H.out⟩, by simp [intOf]⟩
    · go_wp2_with (go_at_call 23; refine (awake_any _).mono ?_; rintro e w8 ⟨rfl, hw⟩; have HW := Lib.hid (H.out.later hw); clear hw)
      go_ret
      exact ⟨rfl, HW.out.bel⟩
end Go.Proofs.Ytlnfjcbhicdceaa
