/- quernlaw11.CacheDrops, walked. -/
import Derived.Test.YtbcjcfjbdjdajaaC13
namespace Go.Proofs.Ytbcjcfjbdjdajaa
open Go.RowKit
attribute [local go_sem ↓] loadAtB storeAtB loadAtH storeAtH
theorem cPin_on {n : Nat} {m : List Blk} {K : Nat} {C : Ck} (h : Inv n m K C) {b : Nat} (hb : b < n) : Inv n m K (cPin C b true) ∧ pinned (cPin C b true) b = true ∧ cDrop (cPin C b true) b = (110, cPin C b true) := by
  have hr : cRef C (b : Int) = 0 := h.ref0.2 (by omega)
  have e : cPin C b true = { C with pin := updD C.pin b true } := by unfold cPin; rw [if_pos hr, if_pos rfl]
  have hI := h.pins (updD C.pin b true)
  have hp : pinned { C with pin := updD C.pin b true } (b : Int) = true := by
    unfold pinned
    show ((lookD (updD C.pin (b : Int) true) (b : Int)).getD false) = true
    rw [lookD_upd, if_pos rfl]; rfl
  rw [e]
  exact ⟨hI, hp, by unfold cDrop; rw [if_pos (hI.ref0.2 (by omega)), if_pos hp]⟩
structure DropP (n : Nat) (m : List Blk) (K : Nat) (C : Ck) (b : Nat) (C1 C2 C3 : Ck) (x : Blk) : Prop where
  pin : cPin C b false = C1
  drop : cDrop C1 b = (0, C2)
  left2 : C2.D.left = -1
  read : cRead C2 b = (x, C3)
  ref : cRef C2 b = 0
  left3 : C3.D.left = -1
  rd : dRead C3.D b = x
  rf : dRefuse C3.D b = 0
  wf : ∀ p ∈ C3.has, wf64 p.1
  len : C3.has.length ≤ K + 1
  not : (b : Int) ∉ cDirty C3
theorem drop_plain {n : Nat} {m : List Blk} {K : Nat} {C : Ck} (hn : n ≤ 2048) (h : Inv n m K C) (hp : C.pin = []) {b : Nat} (hb : b < n) : ∃ C1 C2 C3 x, DropP n m K C b C1 C2 C3 x := by
  have hr : cRef C (b : Int) = 0 := h.ref0.2 (by omega)
  have hd0 : dRefuse C.D (b : Int) = 0 := dRef_live h.left hr
  have hdr : dRead C.D (b : Int) = C.D.now.getD b zB := (h.readD hb).1
  have e1 : cPin C b false = { C with pin := delD C.pin b } := by unfold cPin; rw [if_pos hr]; rfl
  have hpn : pinned { C with pin := delD C.pin b } (b : Int) = false := by
    unfold pinned
    show ((lookD (delD C.pin (b : Int)) (b : Int)).getD false) = false
    rw [lookD_del, if_pos rfl]; rfl
  have hlk : lookD (delD C.has (b : Int)) (b : Int) = none := by rw [lookD_del, if_pos rfl]
  refine ⟨_, { C with has := delD C.has b, pin := delD C.pin b }, { C with has := updD (delD C.has b) b (C.D.now.getD b zB, false), pin := delD C.pin b }, C.D.now.getD b zB, e1, ?_, h.left, ?_, hr, h.left, hdr, hd0, ?_, ?_, ?_⟩
  · unfold cDrop
    rw [if_pos (show cRef { C with pin := delD C.pin b } (b : Int) = 0 from hr), hpn, if_neg (by decide)]
  · unfold cRead
    rw [if_pos (show cRef { C with has := delD C.has b, pin := delD C.pin b } (b : Int) = 0 from hr)]
    show (match lookD (delD C.has (b : Int)) (b : Int) with | some h => _ | none => _) = _
    rw [hlk]
    rfl
  · intro p hp'
    have hk := upd_keysIn (n := n) (h := delD C.has (b : Int)) (b := (b : Int)) (v := (C.D.now.getD b zB, false)) (fun k hk => h.keys k (by
      obtain ⟨p, hp, rfl⟩ := List.mem_map.1 hk
      exact List.mem_map_of_mem (List.mem_filter.1 hp).1)) (by omega) p.1 (List.mem_map_of_mem hp')
    unfold wf64; omega
  · have h1 := updD_len (delD C.has (b : Int)) (b : Int) (C.D.now.getD b zB, false)
    have h2 := delD_len C.has (b : Int)
    have h3 := h.hasl
    show (updD (delD C.has (b : Int)) (b : Int) (C.D.now.getD b zB, false)).length ≤ _
    omega
  · have hnd : isD { C with has := updD (delD C.has b) b (C.D.now.getD b zB, false), pin := delD C.pin b } (b : Int) = false := by
      unfold isD
      show ((lookD (updD (delD C.has (b : Int)) (b : Int) (C.D.now.getD b zB, false)) (b : Int)).getD zH).2 = false
      rw [lookD_upd, if_pos rfl]; rfl
    exact fun hc => by rw [mem_dirty, hnd] at hc; cases hc
end Go.Proofs.Ytbcjcfjbdjdajaa
