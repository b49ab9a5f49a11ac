/- Chapter 06: what a statement lets in; the chapter's examples. -/
import Derived.Test.YtcbgfjghebopoaaDoorU2
import Derived.KernelRfl
namespace Go.Proofs.YtcbgfjghebopoaaDoor.H
open Go.Sh Go.RowKit
set_option linter.unusedSimpArgs false
set_option linter.unusedVariables false

def fewS (ts : List Ty) (ti ix : List Int) (foot : Str) (n : Nat) : Bool := decide (ts.length ≤ 300) && decide (ti.length ≤ n) && decide (ix.length ≤ n) && decide (foot.length ≤ 200)
theorem few_val (n : Nat) (ts : List Ty) (ti ix : List Int) (foot : Str) (m : Nat) : clepsydralaw06_few_f n (ts.map cT) ti ix foot (m : Int) = some (fewS ts ti ix foot m) := by
  unfold clepsydralaw06_few_f clepsydralaw06_few_b fewS
  rw [List.length_map]
  by_cases c1 : ts.length ≤ 300
  · rw [cond_pos (by omega)]
    by_cases c2 : ti.length ≤ m
    · rw [cond_pos (by omega)]
      by_cases c3 : ix.length ≤ m
      · rw [cond_pos (by omega), decide_eq_true c1, decide_eq_true c2, decide_eq_true c3]
        simp only [Bool.true_and]
        congr 1
        rw [decide_eq_decide]; omega
      · rw [cond_neg (by omega)]; simp [c3]
    · rw [cond_neg (by omega)]; simp [c2]
  · rw [cond_neg (by omega)]; simp [c1]
theorem works_val (m : Nat) : clepsydralaw06_works_f (m + 5000) = some true := by kernel_rfl

end Go.Proofs.YtcbgfjghebopoaaDoor.H
