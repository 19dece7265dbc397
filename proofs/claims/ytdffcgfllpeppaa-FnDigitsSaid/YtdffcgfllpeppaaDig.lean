/- Contracts of the functions of chapter 3 that take a number and a base. -/
import Derived.Test.YtdffcgfllpeppaaCopy
import Derived.Test.YtdffcgfllpeppaaPl
import Derived.Test.YtdffcgfllpeppaaInt
namespace Go.Proofs.Ytdffcgfllpeppaa
open Go.RowKit
open Pl

theorem digs_step {b n m : Nat} {xs : List Int} (hb : 2 ≤ b) (hm : 0 < m) (h : xs ++ digs b m = digs b n) : (xs ++ [((m % b : Nat) : Int)]) ++ digs b (m / b) = digs b n := by
  rw [← h, digs_pos b m hb hm]; simp

theorem digs_bound {b n m : Nat} {xs : List Int} (hb : 2 ≤ b) (hn : n ≤ 1000000000000) (h : xs ++ digs b m = digs b n) : xs.length ≤ 40 := by
  have h1 := digs_len b hb 40 n (by omega)
  rw [← h] at h1
  simp at h1
  omega

set_option maxHeartbeats 400000 in
theorem c_s_l02Digits (n b : Nat) (w : World) (h1 : n ≤ 1000000000000) (hb2 : 2 ≤ b) (hb16 : b ≤ 16) :
    Calls Try.prog 63 #[.int .i64 n, .int .i64 b] w fun e w' => ∃ v, e = .returned v ∧ Own w' w.heap.size v (digs b n) ∧ Below w.heap.size w w' := by
  go_enter Try.func63, Try.ntmps63
  go_wp2
  go_loopw [0, 5] (fun q v wr => ∃ (m : Nat) (xs : List Int), m ≤ 1000000000000 ∧ q = .int .i64 m ∧ Own wr w.heap.size v xs ∧ Hid (xs ++ digs b m = digs b n) ∧ Below w.heap.size w wr) (fun q _ _ => (intOf q).toNat)
  case atStart => exact ⟨n, [], h1, rfl, Own.empty _ _ (Nat.le_refl _), by simp [Hid], (Below.refl _ _).alloc (Nat.le_refl _) _⟩
  case round =>
    obtain ⟨m, xs, hm, rfl, hown, hx, hb⟩ := hrel
    by_cases hlt : 0 < m
    · have hlen := digs_bound hb2 h1 hx.out
      have hst : Hid ((xs ++ [((m % b : Nat) : Int)]) ++ digs b (m / b) = digs b n) := digs_step hb2 hlt hx.out
      have hdec : m / b < m := Nat.div_lt_self hlt (by omega)
      have hmod : m % b < b := Nat.mod_lt _ (by omega)
      have hq0 : (0 : Int) ≤ (m : Int) / (b : Int) := Int.ediv_nonneg (by omega) (by omega)
      clear hx
      go_wp2_with (at_builtin; refine wpList_app _ rfl _ _ rfl w.heap.size w _ xs rfl (hown.alloc _) (hb.alloc hb.size _) (Nat.le_refl _) ⟨wr.heap.size, 0, none⟩ ((m : Int) % b) rfl (by simp) (by unfold bd; omega) (by omega) ?_; intro v' w1 hown1 hb1 _)
      go_roundw
      case rel => exact ⟨m / b, xs ++ [((m % b : Nat) : Int)], by omega, by go_num, by simpa using hown1, hst, hb1⟩
      case measure => simp [intOf]; omega
    · go_wp2
      go_ret
      have hm0 : m = 0 := by omega
      subst hm0
      have := hx.out
      rw [digs_zero, List.append_nil] at this
      subst this
      exact ⟨_, rfl, hown, hb⟩

set_option maxHeartbeats 400000 in
theorem c_i_digitsOf (n b : Nat) (w : World) (h1 : n ≤ 1000000000000) (hb2 : 2 ≤ b) (hb16 : b ≤ 16) :
    Calls Try.prog 66 #[.int .i64 n, .int .i64 b] w fun e w' => ∃ v, e = .returned v ∧ Own w' w.heap.size v (digs b n) ∧ Below w.heap.size w w' := by
  go_enter Try.func66, Try.ntmps66
  go_wp2
  go_loopw [0, 5] (fun q v wr => ∃ (m : Nat) (xs : List Int), m ≤ 1000000000000 ∧ q = .int .i64 m ∧ Own wr w.heap.size v xs ∧ Hid (xs ++ digs b m = digs b n) ∧ Below w.heap.size w wr) (fun q _ _ => (intOf q).toNat)
  case atStart => exact ⟨n, [], h1, rfl, Own.nil _ _, by simp [Hid], Below.refl _ _⟩
  case round =>
    obtain ⟨m, xs, hm, rfl, hown, hx, hb⟩ := hrel
    by_cases hlt : 0 < m
    · have hlen := digs_bound hb2 h1 hx.out
      have hst : Hid ((xs ++ [((m % b : Nat) : Int)]) ++ digs b (m / b) = digs b n) := digs_step hb2 hlt hx.out
      have hdec : m / b < m := Nat.div_lt_self hlt (by omega)
      have hmod : m % b < b := Nat.mod_lt _ (by omega)
      have hq0 : (0 : Int) ≤ (m : Int) / (b : Int) := Int.ediv_nonneg (by omega) (by omega)
      clear hx
      go_wp2_with (at_builtin; refine wpList_app _ rfl _ _ rfl w.heap.size w _ xs rfl (hown.alloc _) (hb.alloc hb.size _) (Nat.le_refl _) ⟨wr.heap.size, 0, none⟩ ((m : Int) % b) rfl (by simp) (by unfold bd; omega) (by omega) ?_; intro v' w1 hown1 hb1 _)
      go_roundw
      case rel => exact ⟨m / b, xs ++ [((m % b : Nat) : Int)], by omega, by go_num, by simpa using hown1, hst, hb1⟩
      case measure => simp [intOf]; omega
    · go_wp2
      go_ret
      have hm0 : m = 0 := by omega
      subst hm0
      have := hx.out
      rw [digs_zero, List.append_nil] at this
      subst this
      exact ⟨_, rfl, hown, hb⟩


/-- The number of digits, or -1. -/
def cntV (n b : Int) : Int := if inB n 0 1000000000000 && inB b 2 16 then (digs b.toNat n.toNat).length else -1
/-- The digits, or none. -/
def digV (n b : Int) : List Int := if inB n 0 1000000000000 && inB b 2 16 then digs b.toNat n.toNat else []

theorem digs40 (n b : Nat) (hb2 : 2 ≤ b) (h1 : n ≤ 1000000000000) : (digs b n).length ≤ 40 := digs_len b hb2 40 n (by omega)



theorem c_s_DigitsOf (n b : Int) (w : World) :
    Calls Try.prog 33 #[.int .i64 n, .int .i64 b] w fun e w' => ∃ v, e = .returned v ∧ Own w' w.heap.size v (digV n b) ∧ Below w.heap.size w w' := by
  cases e1 : inB n 0 1000000000000 <;> cases e2 : inB b 2 16
  case true.true =>
    have g1 := inB_yes e1
    have g2 := inB_yes e2
    obtain ⟨n, rfl⟩ := Int.eq_ofNat_of_zero_le g1.1
    obtain ⟨b, rfl⟩ := Int.eq_ofNat_of_zero_le (show 0 ≤ b by omega)
    have hl := digs40 n b (by omega) (by omega)
    go_enter Try.func33, Try.ntmps33
    go_wp2_with (first | (go_at_call 61; refine (c_s_l02Ok _ _ _).mono ?_; rintro e w' ⟨rfl, rfl⟩) | (go_at_call 63; refine (c_s_l02Digits n b _ (by omega) (by omega) (by omega)).mono ?_; rintro e w1 ⟨v, rfl, hown, hbl⟩))
    go_ret
    exact ⟨_, rfl, by simpa [digV, e1, e2] using hown, hbl⟩
  all_goals
    go_enter Try.func33, Try.ntmps33
    go_wp2_with (first | (go_at_call 61; refine (c_s_l02Ok _ _ _).mono ?_; rintro e w' ⟨rfl, rfl⟩))
    go_ret
    exact ⟨_, rfl, by simpa [digV, e1, e2] using Own.nil _ _, Below.refl _ _⟩

theorem c_i_CountDigits (n b : Int) (w : World) :
    Calls Try.prog 55 #[.int .i64 n, .int .i64 b] w fun e w' => e = .returned (.int .i64 (cntV n b)) ∧ Below w.heap.size w w' := by
  cases e1 : inB n 0 1000000000000 <;> cases e2 : inB b 2 16
  case true.true =>
    have g1 := inB_yes e1
    have g2 := inB_yes e2
    obtain ⟨n, rfl⟩ := Int.eq_ofNat_of_zero_le g1.1
    obtain ⟨b, rfl⟩ := Int.eq_ofNat_of_zero_le (show 0 ≤ b by omega)
    have hl := digs40 n b (by omega) (by omega)
    go_enter Try.func55, Try.ntmps55
    go_wp2_with (first | (go_at_call 64; refine (c_i_isNumber _ _).mono ?_; rintro e w' ⟨rfl, rfl⟩) | (go_at_call 56; refine (c_i_BaseOk _ _).mono ?_; rintro e w' ⟨rfl, rfl⟩) | (go_at_call 66; refine (c_i_digitsOf n b _ (by omega) (by omega) (by omega)).mono ?_; rintro e w1 ⟨v, rfl, hown, hbl⟩; obtain ⟨a, cap, N, rfl, HN, hc, hcm, -⟩ := hown.open))
    go_ret
    exact ⟨ret_i (by simp [cntV, e1, e2, HN.out]), hbl⟩
  all_goals
    go_enter Try.func55, Try.ntmps55
    go_wp2_with (first | (go_at_call 64; refine (c_i_isNumber _ _).mono ?_; rintro e w' ⟨rfl, rfl⟩) | (go_at_call 56; refine (c_i_BaseOk _ _).mono ?_; rintro e w' ⟨rfl, rfl⟩))
    go_ret
    exact ⟨ret_i (by simp [cntV, e1, e2]), Below.refl _ _⟩

theorem c_i_DigitsOf (n b : Int) (w : World) :
    Calls Try.prog 34 #[.int .i64 n, .int .i64 b] w fun e w' => ∃ v, e = .returned v ∧ Own w' w.heap.size v (digV n b) ∧ Below w.heap.size w w' := by
  cases e1 : inB n 0 1000000000000 <;> cases e2 : inB b 2 16
  case true.true =>
    have g1 := inB_yes e1
    have g2 := inB_yes e2
    obtain ⟨n, rfl⟩ := Int.eq_ofNat_of_zero_le g1.1
    obtain ⟨b, rfl⟩ := Int.eq_ofNat_of_zero_le (show 0 ≤ b by omega)
    have hl := digs40 n b (by omega) (by omega)
    go_enter Try.func34, Try.ntmps34
    go_wp2_with (first | (go_at_call 64; refine (c_i_isNumber _ _).mono ?_; rintro e w' ⟨rfl, rfl⟩) | (go_at_call 56; refine (c_i_BaseOk _ _).mono ?_; rintro e w' ⟨rfl, rfl⟩) | (go_at_call 66; refine (c_i_digitsOf n b _ (by omega) (by omega) (by omega)).mono ?_; rintro e w1 ⟨v, rfl, hown, hbl⟩))
    go_ret
    exact ⟨_, rfl, by simpa [digV, e1, e2] using hown, hbl⟩
  all_goals
    go_enter Try.func34, Try.ntmps34
    go_wp2_with (first | (go_at_call 64; refine (c_i_isNumber _ _).mono ?_; rintro e w' ⟨rfl, rfl⟩) | (go_at_call 56; refine (c_i_BaseOk _ _).mono ?_; rintro e w' ⟨rfl, rfl⟩))
    go_ret
    exact ⟨_, rfl, by simpa [digV, e1, e2] using Own.nil _ _, Below.refl _ _⟩


theorem digV_len (n b : Int) : (digV n b).length ≤ 1048576 := by
  unfold digV
  split
  · rename_i h
    rw [Bool.and_eq_true] at h
    have g1 := inB_yes h.1
    have g2 := inB_yes h.2
    have := digs40 n.toNat b.toNat (by omega) (by omega)
    omega
  · simp
end Go.Proofs.Ytdffcgfllpeppaa
