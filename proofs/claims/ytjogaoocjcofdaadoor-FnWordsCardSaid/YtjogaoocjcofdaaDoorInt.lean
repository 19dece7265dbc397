/- Contracts of functions on integers: each call returns what the plain function says and leaves the world alone. -/
import Derived.Test.YtjogaoocjcofdaaDoorSl
import Derived.Test.YtjogaoocjcofdaaDoorPl
import Derived.WalkKit
import Derived.OpenShut
import Derived.BigQuiet
import Derived.Deep.QuietTactic
import Derived.Lib.Hide
namespace Go.Proofs.YtjogaoocjcofdaaDoor
open Go.RowKit
open Pl

/-- lo ≤ n ≤ hi, as a test. -/
def inB (n lo hi : Int) : Bool := decide (lo ≤ n ∧ n ≤ hi)
theorem inB_yes {n lo hi : Int} (h : inB n lo hi = true) : lo ≤ n ∧ n ≤ hi := by simpa [inB] using h
theorem inB_no {n lo hi : Int} (h : inB n lo hi = false) : ¬ (lo ≤ n ∧ n ≤ hi) := by simpa [inB] using h
theorem inB_mk {n lo hi : Int} (h : lo ≤ n ∧ n ≤ hi) : inB n lo hi = true := by simpa [inB] using h
theorem inB_not {n lo hi : Int} (h : ¬ (lo ≤ n ∧ n ≤ hi)) : inB n lo hi = false := by simpa [inB] using h

theorem c_i_within (n lo hi : Int) (w : World) :
    Calls Tryd.prog 30 #[.int .i64 n, .int .i64 lo, .int .i64 hi] w fun e w' => e = .returned (.bool (inB n lo hi)) ∧ w = w' := by
  by_cases h1 : lo ≤ n <;> by_cases h2 : n ≤ hi
  all_goals
    have hr : Hid (inB n lo hi = decide (lo ≤ n ∧ n ≤ hi)) := rfl
    go_enter Tryd.func30, Tryd.ntmps30
    go_wp2
    go_ret
    exact ⟨ret_b (by rw [hr.out]; simp [h1, h2]), rfl⟩

theorem c_s_l01In (n lo hi : Int) (w : World) :
    Calls Tryd.prog 27 #[.int .i64 n, .int .i64 lo, .int .i64 hi] w fun e w' => e = .returned (.bool (inB n lo hi)) ∧ w = w' := by
  by_cases h1 : lo ≤ n <;> by_cases h2 : n ≤ hi
  all_goals
    have hr : Hid (inB n lo hi = decide (lo ≤ n ∧ n ≤ hi)) := rfl
    go_enter Tryd.func27, Tryd.ntmps27
    go_wp2
    go_ret
    exact ⟨ret_b (by rw [hr.out]; simp [h1, h2]), rfl⟩







/-- The factorial, or -1. -/
def facV (n : Int) : Int := if inB n 0 12 then fac n.toNat else -1



end Go.Proofs.YtjogaoocjcofdaaDoor
