/- Calls at a table that nobody made: nil, or one without a map. Conditions are written in each. -/
import Derived.Test.YtlnfjcbhicdceaaL6
namespace Go.Proofs.Ytlnfjcbhicdceaa
open Go.RowKit
/-- No table: nil, or one without a map. -/
def NoTab (W : World) (v : Value) : Prop := v = .pointer none ∨ ∃ g, v = .pointer (some ⟨g, 0, none⟩) ∧ W.cell? ⟨g, 0, none⟩ = some (.map none)
theorem NoTab.later {W W' : World} {v : Value} (h : NoTab W v) (hb : Below W.heap.size W W') : NoTab W' v := by
  rcases h with h | ⟨g, h1, h2⟩
  · exact .inl h
  · exact .inr ⟨g, h1, (World.cell?_of_block (hb.block g (World.block_lt_of_cell? W _ h2))).trans h2⟩
theorem refuse_no (v : Value) (b : Int) (w : World) (h : NoTab w v) : Calls Try.prog 24 #[v, .int .i64 b] w fun e w' => e = .returned (.int .i64 1) ∧ w' = w := by
  rcases h with rfl | ⟨g, rfl, h2⟩
  · exact refuse_nil b w
  · exact refuse_empty g b w h2
theorem add_no (v : Value) (b s : Int) (w : World) (h : NoTab w v) : Calls Try.prog 20 #[v, .int .i64 b, .int .u32 s] w fun e w' => e = .returned (.int .i64 1) ∧ w' = w := by
  have H := Lib.hid h
  clear h
  go_enter Try.func20, Try.ntmps20
  go_wp2_with (go_at_call 24; refine (refuse_no v _ _ H.out).mono ?_; rintro e w1 ⟨rfl, rfl⟩)
  go_ret
  exact ⟨rfl, rfl⟩
theorem cancel_no (v : Value) (b s : Int) (w : World) (h : NoTab w v) : Calls Try.prog 21 #[v, .int .i64 b, .int .u32 s] w fun e w' => e = .returned (.int .i64 1) ∧ w' = w := by
  have H := Lib.hid h
  clear h
  go_enter Try.func21, Try.ntmps21
  go_wp2_with (go_at_call 24; refine (refuse_no v _ _ H.out).mono ?_; rintro e w1 ⟨rfl, rfl⟩)
  go_ret
  exact ⟨rfl, rfl⟩
theorem drop_no (v : Value) (s : Int) (w : World) (h : NoTab w v) : Calls Try.prog 22 #[v, .int .u32 s] w fun e w' => e = .returned (.tuple #[]) ∧ w' = w := by
  have H := Lib.hid h
  clear h
  go_enter Try.func22, Try.ntmps22
  go_wp2_with (go_at_call 24; refine (refuse_no v _ _ H.out).mono ?_; rintro e w1 ⟨rfl, rfl⟩)
  exact bodyPost_end (results_none rfl _ _ _) rfl ⟨rfl, rfl⟩
theorem last_no (v : Value) (b : Int) (w : World) (h : NoTab w v) : Calls Try.prog 10 #[v, .int .i64 b] w fun e w' => e = .returned (.tuple #[.int .u32 0, .bool false]) ∧ w' = w := by
  have H := Lib.hid h
  clear h
  go_enter Try.func10, Try.ntmps10
  go_wp2_with (go_at_call 24; refine (refuse_no v _ _ H.out).mono ?_; rintro e w1 ⟨rfl, rfl⟩)
  exact bodyPost_ret (results_tmp2 rfl _ _ _) rfl ⟨rfl, rfl⟩
theorem rev_no (v : Value) (b s : Int) (w : World) (h : NoTab w v) : Calls Try.prog 11 #[v, .int .i64 b, .int .u32 s] w fun e w' => e = .returned (.bool false) ∧ w' = w := by
  have H := Lib.hid h
  clear h
  go_enter Try.func11, Try.ntmps11
  go_wp2_with (go_at_call 10; refine (last_no v _ _ H.out).mono ?_; rintro e w1 ⟨rfl, rfl⟩)
  go_ret
  exact ⟨rfl, rfl⟩
theorem of_no (v : Value) (s : Int) (w : World) (h : NoTab w v) : Calls Try.prog 13 #[v, .int .u32 s] w fun e w' => e = .returned (.slice none 0 0) ∧ w' = w := by
  have H := Lib.hid h
  clear h
  go_enter Try.func13, Try.ntmps13
  go_wp2_with (go_at_call 24; refine (refuse_no v _ _ H.out).mono ?_; rintro e w1 ⟨rfl, rfl⟩)
  go_ret
  exact ⟨rfl, rfl⟩
theorem len_no (v : Value) (w : World) (h : NoTab w v) : Calls Try.prog 12 #[v] w fun e w' => e = .returned (.int .i64 0) ∧ w' = w := by
  have H := Lib.hid h
  clear h
  go_enter Try.func12, Try.ntmps12
  go_wp2_with (go_at_call 24; refine (refuse_no v _ _ H.out).mono ?_; rintro e w1 ⟨rfl, rfl⟩)
  go_ret
  exact ⟨rfl, rfl⟩
end Go.Proofs.Ytlnfjcbhicdceaa
