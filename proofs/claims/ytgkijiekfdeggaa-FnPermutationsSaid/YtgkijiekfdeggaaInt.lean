/- Contracts of functions on integers: each call returns what the plain function says and leaves the world alone. -/
import Derived.Test.YtgkijiekfdeggaaSl
import Derived.Test.YtgkijiekfdeggaaPl
import Derived.WalkKit
import Derived.OpenShut
import Derived.BigQuiet
import Derived.Deep.QuietTactic
import Derived.Lib.Hide
namespace Go.Proofs.Ytgkijiekfdeggaa
open Go.RowKit
open Pl

/-- lo ≤ n ≤ hi, as a test. -/
def inB (n lo hi : Int) : Bool := decide (lo ≤ n ∧ n ≤ hi)
theorem inB_yes {n lo hi : Int} (h : inB n lo hi = true) : lo ≤ n ∧ n ≤ hi := by simpa [inB] using h
theorem inB_no {n lo hi : Int} (h : inB n lo hi = false) : ¬ (lo ≤ n ∧ n ≤ hi) := by simpa [inB] using h
theorem inB_mk {n lo hi : Int} (h : lo ≤ n ∧ n ≤ hi) : inB n lo hi = true := by simpa [inB] using h
theorem inB_not {n lo hi : Int} (h : ¬ (lo ≤ n ∧ n ≤ hi)) : inB n lo hi = false := by simpa [inB] using h

theorem c_i_within (n lo hi : Int) (w : World) :
    Calls Try.prog 42 #[.int .i64 n, .int .i64 lo, .int .i64 hi] w fun e w' => e = .returned (.bool (inB n lo hi)) ∧ w = w' := by
  by_cases h1 : lo ≤ n <;> by_cases h2 : n ≤ hi
  all_goals
    have hr : Hid (inB n lo hi = decide (lo ≤ n ∧ n ≤ hi)) := rfl
    go_enter Try.func42, Try.ntmps42
    go_wp2
    go_ret
    exact ⟨ret_b (by rw [hr.out]; simp [h1, h2]), rfl⟩

theorem c_s_l01In (n lo hi : Int) (w : World) :
    Calls Try.prog 46 #[.int .i64 n, .int .i64 lo, .int .i64 hi] w fun e w' => e = .returned (.bool (inB n lo hi)) ∧ w = w' := by
  by_cases h1 : lo ≤ n <;> by_cases h2 : n ≤ hi
  all_goals
    have hr : Hid (inB n lo hi = decide (lo ≤ n ∧ n ≤ hi)) := rfl
    go_enter Try.func46, Try.ntmps46
    go_wp2
    go_ret
    exact ⟨ret_b (by rw [hr.out]; simp [h1, h2]), rfl⟩





theorem c_s_l08Factorial (n : Int) (w : World) (h0 : 0 ≤ n) (h1 : n ≤ 12) :
    Calls Try.prog 47 #[.int .i64 n] w fun e w' => e = .returned (.int .i64 (fac n.toNat)) ∧ w = w' := by
  go_enter Try.func47, Try.ntmps47
  go_wp2
  go_loop [3, 4] (fun x i => ∃ k : Nat, 2 ≤ k ∧ (k : Int) ≤ max 2 (n + 1) ∧ i = .int .i64 k ∧ x = .int .i64 (fac (k - 1))) (fun _ i => (n + 1 - intOf i).toNat)
  case atStart => exact ⟨2, by omega, by omega, rfl, rfl⟩
  case round =>
    obtain ⟨k, hk2, hkn, rfl, rfl⟩ := hrel
    by_cases hlt : (k : Int) ≤ n
    · have b1 := fac_pos k
      have b2 := fac_le k (by omega)
      have hs := fac_step k (by omega)
      rw [← hs] at b1 b2
      have HS := Lib.hid hs
      clear hs
      go_wp2
      go_round
      case rel => exact ⟨k + 1, by omega, by omega, by go_num, by rw [HS.out]; rfl⟩
      case measure => simp [intOf]; omega
    · have hle : n < (k : Int) := by omega
      have hfin : fac (k - 1) = fac n.toNat := by
        by_cases h2 : n < 2
        · have : n = 0 ∨ n = 1 := by omega
          have hk : k = 2 := by omega
          subst hk
          rcases this with rfl | rfl <;> rfl
        · congr 1; omega
      have HF := Lib.hid hfin
      clear hfin
      go_wp2
      go_ret
      exact ⟨ret_i HF.out, rfl⟩


/-- The factorial, or -1. -/
def facV (n : Int) : Int := if inB n 0 12 then fac n.toNat else -1


theorem c_i_Factorial (n : Int) (w : World) :
    Calls Try.prog 17 #[.int .i64 n] w fun e w' => e = .returned (.int .i64 (facV n)) ∧ w = w' := by
  cases e1 : inB n 0 12
  case true =>
    have g1 := inB_yes e1
    have hV : Hid (facV n = fac n.toNat) := by simp [Hid, facV, e1]
    go_enter Try.func17, Try.ntmps17
    go_wp2_with (first | (go_at_call 42; refine (c_i_within _ _ _ _).mono ?_; rintro e w' ⟨rfl, rfl⟩))
    go_loop [3, 4] (fun x i => ∃ k : Nat, 2 ≤ k ∧ (k : Int) ≤ max 2 (n + 1) ∧ i = .int .i64 k ∧ x = .int .i64 (fac (k - 1))) (fun _ i => (n + 1 - intOf i).toNat)
    case atStart => exact ⟨2, by omega, by omega, rfl, rfl⟩
    case round =>
      obtain ⟨k, hk2, hkn, rfl, rfl⟩ := hrel
      by_cases hlt : (k : Int) ≤ n
      · have b1 := fac_pos k
        have b2 := fac_le k (by omega)
        have hs := fac_step k (by omega)
        rw [← hs] at b1 b2
        have HS := Lib.hid hs
        clear hs
        go_wp2
        go_round
        case rel => exact ⟨k + 1, by omega, by omega, by go_num, by rw [HS.out]; rfl⟩
        case measure => simp [intOf]; omega
      · have hle : n < (k : Int) := by omega
        have hfin : fac (k - 1) = fac n.toNat := by
          by_cases h2 : n < 2
          · have : n = 0 ∨ n = 1 := by omega
            have hk : k = 2 := by omega
            subst hk
            rcases this with rfl | rfl <;> rfl
          · congr 1; omega
        have HF := Lib.hid hfin
        clear hfin
        go_wp2
        go_ret
        exact ⟨ret_i (by rw [hV.out]; exact HF.out), rfl⟩
  case false =>
    go_enter Try.func17, Try.ntmps17
    go_wp2_with (first | (go_at_call 42; refine (c_i_within _ _ _ _).mono ?_; rintro e w' ⟨rfl, rfl⟩))
    go_ret
    exact ⟨ret_i (by simp [facV, e1]), rfl⟩

end Go.Proofs.Ytgkijiekfdeggaa
