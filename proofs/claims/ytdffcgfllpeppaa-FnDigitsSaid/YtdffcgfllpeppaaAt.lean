/- Contracts of DigitAt, the program's and the reference's. -/
import Derived.Test.YtdffcgfllpeppaaDig
namespace Go.Proofs.Ytdffcgfllpeppaa
open Go.RowKit
open Pl

theorem digs_getD (b : Nat) (hb : 2 ≤ b) : ∀ k n, (digs b n).getD k 0 = ((n / b ^ k % b : Nat) : Int) := by
  intro k
  induction k with
  | zero =>
    intro n
    by_cases h0 : n = 0
    · subst h0; simp [digs_zero]
    · rw [digs_pos b n hb (by omega)]; simp
  | succ k ih =>
    intro n
    by_cases h0 : n = 0
    · subst h0; simp [digs_zero]
    · rw [digs_pos b n hb (by omega), List.getD_cons_succ, ih, Nat.div_div_eq_div_mul, Nat.pow_succ, Nat.mul_comm b]

/-- The digit with the index k, or -1. -/
def atV (n b k : Int) : Int := if (inB n 0 1000000000000 && inB b 2 16) && inB k 0 59 then (digs b.toNat n.toNat).getD k.toNat 0 else -1


set_option maxHeartbeats 400000 in
theorem c_i_DigitAt (n b k : Int) (w : World) :
    Calls Try.prog 57 #[.int .i64 n, .int .i64 b, .int .i64 k] w fun e w' => e = .returned (.int .i64 (atV n b k)) ∧ Below w.heap.size w w' := by
  cases e1 : inB n 0 1000000000000 <;> cases e2 : inB b 2 16 <;> cases e3 : inB k 0 59
  case true.true.true =>
    have g1 := inB_yes e1
    have g2 := inB_yes e2
    have g3 := inB_yes e3
    obtain ⟨n, rfl⟩ := Int.eq_ofNat_of_zero_le g1.1
    obtain ⟨b, rfl⟩ := Int.eq_ofNat_of_zero_le (show 0 ≤ b by omega)
    obtain ⟨k, rfl⟩ := Int.eq_ofNat_of_zero_le g3.1
    have hfin : Hid (atV n b k = (digs b n).getD k 0) := by simp [Hid, atV, e1, e2, e3]
    go_enter Try.func57, Try.ntmps57
    go_wp2_with (first | (go_at_call 74; refine (c_i_within _ _ _ _).mono ?_; rintro e w' ⟨rfl, rfl⟩) | (go_at_call 64; refine (c_i_isNumber _ _).mono ?_; rintro e w' ⟨rfl, rfl⟩) | (go_at_call 56; refine (c_i_BaseOk _ _).mono ?_; rintro e w' ⟨rfl, rfl⟩))
    go_loop [0, 21] (fun q i => ∃ (j m : Nat), j ≤ k ∧ m ≤ 1000000000000 ∧ i = .int .i64 j ∧ q = .int .i64 m ∧ Hid (m = n / b ^ j)) (fun _ i => k - (intOf i).toNat)
    case atStart => exact ⟨0, n, by omega, by omega, rfl, rfl, by simp [Hid]⟩
    case round =>
      obtain ⟨j, m, hj, hm, rfl, rfl, hq⟩ := hrel
      have hq0 : (0 : Int) ≤ (m : Int) / (b : Int) := Int.ediv_nonneg (by omega) (by omega)
      have hq1 : m / b ≤ m := Nat.div_le_self _ _
      have hmod : m % b < b := Nat.mod_lt _ (by omega)
      by_cases hlt : j < k
      · have hq2 : Hid (m / b = n / b ^ (j + 1)) := by
          show m / b = n / b ^ (j + 1)
          rw [hq.out, Nat.div_div_eq_div_mul, Nat.pow_succ]
        clear hq
        go_wp2
        go_round
        case rel => exact ⟨j + 1, m / b, by omega, by omega, by go_num, by go_num, hq2⟩
        case measure => simp [intOf]; omega
      · go_wp2
        go_ret
        have hjk : j = k := by omega
        subst hjk
        exact ⟨ret_i (by rw [hfin.out, digs_getD b (by omega), ← hq.out]; rfl), Below.refl _ _⟩
  all_goals
    go_enter Try.func57, Try.ntmps57
    go_wp2_with (first | (go_at_call 74; refine (c_i_within _ _ _ _).mono ?_; rintro e w' ⟨rfl, rfl⟩) | (go_at_call 64; refine (c_i_isNumber _ _).mono ?_; rintro e w' ⟨rfl, rfl⟩) | (go_at_call 56; refine (c_i_BaseOk _ _).mono ?_; rintro e w' ⟨rfl, rfl⟩))
    go_ret
    exact ⟨ret_i (by simp [atV, e1, e2, e3]), Below.refl _ _⟩

end Go.Proofs.Ytdffcgfllpeppaa
