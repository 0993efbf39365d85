/- Regions that draw their order, walked by a plan that may hold a fork: what waits for what is told without repeating, so that long regions are checked soon. -/
import Derived.Test.YtbcjcfjbdjdajaaFork
namespace Go.Proofs.Ytbcjcfjbdjdajaa
open Go.RowKit
def once (l : List Nat) : List Nat := l.foldl (fun acc x => if acc.contains x then acc else x :: acc) []
def depT2 (l : List Oper) : List (List Nat) := (l.foldl (fun (D : Array (List Nat)) o => D.push (once ((o.after.toList.filter fun e => Region.binds .any e).flatMap fun e => e.on :: D.getD e.on []))) #[]).toList
section
variable {P : Program} {Q : Exit → Act → World → Prop} {S : World → Prop}
theorem wp_region_tree2 {id : Nat} {a : Act} {w : World} {l : List Oper} (S : World → Prop) (pl : PT) (hm : P.follows .mixedOrders = true)
    (hB : (Region.noSelect l.toArray && depsB l.toArray (depT2 l) && decide (pl.len = l.length) && treeB l.toArray (depT2 l) (pl.kinds [1]) (pl.kinds [2, 3]) pl (Array.replicate l.length false)) = true)
    (hS : S w.drew) (h : wpT P l (Calm Q) S pl a w.drew) : (Code.region id l.toArray true).wp P Q a w := by
  simp only [Bool.and_eq_true, decide_eq_true_eq] at hB
  obtain ⟨⟨⟨h1, h2⟩, h3⟩, h4⟩ := hB
  refine Code.wp_mono calm_mono (wp_region_any (Q := Calm Q) hm ?_)
  have := wpAnyF_tree (P := P) (Q := Calm Q) (S := S) h2 h1 (fun c a a' w hq => hq.elim) pl (Array.replicate l.length false) a w.drew (fun j oj _ hl => by rw [getD_replicate_false] at hl; cases hl) (by simp) h4 (fun _ => hS) h
  rw [h3] at this
  simpa using wpAny_of_F _ _ _ _ this
end
end Go.Proofs.Ytbcjcfjbdjdajaa
