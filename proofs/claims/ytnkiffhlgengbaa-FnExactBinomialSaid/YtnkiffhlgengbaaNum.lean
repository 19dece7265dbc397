/- Contracts of functions on integers with loops or recursion: binomial coefficients, the range of a negative base, lists of signed digits. -/
import Derived.Test.YtnkiffhlgengbaaInt
namespace Go.Proofs.Ytnkiffhlgengbaa
open Go.RowKit
open Pl

/-- The binomial coefficient, or -1. -/
def binV (n k : Int) : Int := if inB n 0 30 && inB k 0 30 then bin n.toNat k.toNat else -1

theorem bin_gt : ∀ n k, n < k → bin n k = 0 := by
  intro n
  induction n with
  | zero => intro k h; obtain ⟨j, rfl⟩ : ∃ j, k = j + 1 := ⟨k - 1, by omega⟩; rfl
  | succ n ih =>
    intro k h
    obtain ⟨j, rfl⟩ : ∃ j, k = j + 1 := ⟨k - 1, by omega⟩
    simp only [bin]
    rw [ih j (by omega), ih (j + 1) (by omega)]; rfl

theorem c_s_l09Binomial (n k : Nat) (w : World) (h1 : n ≤ 30) (h2 : k ≤ 30) :
    Calls Try.prog 53 #[.int .i64 n, .int .i64 k] w fun e w' => e = .returned (.int .i64 (bin n k)) ∧ w = w' := by
  by_cases hkn : n < k
  · have hz := Lib.hid (bin_gt n k hkn)
    go_enter Try.func53, Try.ntmps53
    go_wp2
    go_ret
    exact ⟨ret_i hz.out.symm, rfl⟩
  · have hkn' : k ≤ n := by omega
    go_enter Try.func53, Try.ntmps53
    go_wp2
    go_loop [5, 6] (fun x i => ∃ j : Nat, j ≤ k ∧ i = .int .i64 ((j : Int) + 1) ∧ x = .int .i64 (bin (n - k + j) j)) (fun _ i => (k + 1 - intOf i).toNat)
    case atStart => exact ⟨0, by omega, by simp, by rw [bin_zero]⟩
    case round =>
      obtain ⟨j, hj, rfl, rfl⟩ := hrel
      by_cases hlt : j < k
      · have hs := bin_up (n - k + j) j
        have hbd := bin_bound (n - k + j) j ((n : Int) - k + (j + 1)) (by omega) (by omega) (by omega)
        have hbd2 := bin_bound (n - k + (j + 1)) (j + 1) 1 (by omega) (by omega) (by omega)
        rw [Int.mul_one] at hbd2
        have he : ((n - k + j : Nat) : Int) + 1 = (n : Int) - k + (j + 1) := by omega
        rw [he] at hs
        have hs' : bin (n - k + j) j * ((n : Int) - k + (j + 1)) / ((j : Int) + 1) = bin (n - k + (j + 1)) (j + 1) := hs
        rw [← hs'] at hbd2
        have HS := Lib.hid hs'
        clear hs hs' he
        go_wp2
        go_round
        case rel => exact ⟨j + 1, by omega, by go_num, by rw [← HS.out]⟩
        case measure => simp [intOf]; omega
      · have hjk : j = k := by omega
        have hfin : Hid (bin (n - k + j) j = bin n k) := by show _ = _; rw [hjk]; congr 1; omega
        clear hjk
        go_wp2
        go_ret
        exact ⟨ret_i hfin.out, rfl⟩


theorem c_s_Binomial (n k : Int) (w : World) :
    Calls Try.prog 23 #[.int .i64 n, .int .i64 k] w fun e w' => e = .returned (.int .i64 (binV n k)) ∧ w = w' := by
  cases e1 : inB n 0 30 <;> cases e2 : inB k 0 30
  case true.true =>
    have g1 := inB_yes e1
    have g2 := inB_yes e2
    obtain ⟨n, rfl⟩ := Int.eq_ofNat_of_zero_le g1.1
    obtain ⟨k, rfl⟩ := Int.eq_ofNat_of_zero_le g2.1
    go_enter Try.func23, Try.ntmps23
    go_wp2_with (first | (go_at_call 50; refine (c_s_l01In _ _ _ _).mono ?_; rintro e w' ⟨rfl, rfl⟩) | (go_at_call 53; refine (c_s_l09Binomial _ _ _ (by omega) (by omega)).mono ?_; rintro e w' ⟨rfl, rfl⟩))
    go_ret
    exact ⟨ret_i (by simp [binV, e1, e2]), rfl⟩
  all_goals
    go_enter Try.func23, Try.ntmps23
    go_wp2_with (go_at_call 50; refine (c_s_l01In _ _ _ _).mono ?_; rintro e w' ⟨rfl, rfl⟩)
    go_ret
    exact ⟨ret_i (by simp [binV, e1, e2]), rfl⟩

theorem c_i_Binomial (n k : Int) (w : World) :
    Calls Try.prog 24 #[.int .i64 n, .int .i64 k] w fun e w' => e = .returned (.int .i64 (binV n k)) ∧ w = w' := by
  cases e1 : inB n 0 30 <;> cases e2 : inB k 0 30
  case true.true =>
    have g1 := inB_yes e1
    have g2 := inB_yes e2
    obtain ⟨n, rfl⟩ := Int.eq_ofNat_of_zero_le g1.1
    obtain ⟨k, rfl⟩ := Int.eq_ofNat_of_zero_le g2.1
    have hV : Hid (binV n k = bin n k) := by simp [Hid, binV, e1, e2]
    by_cases hkn : n < k
    · have hz := Lib.hid (bin_gt n k hkn)
      go_enter Try.func24, Try.ntmps24
      go_wp2_with (go_at_call 51; refine (c_i_within _ _ _ _).mono ?_; rintro e w' ⟨rfl, rfl⟩)
      go_ret
      exact ⟨ret_i (by rw [hV.out]; exact hz.out.symm), rfl⟩
    · have hkn' : k ≤ n := by omega
      go_enter Try.func24, Try.ntmps24
      go_wp2_with (go_at_call 51; refine (c_i_within _ _ _ _).mono ?_; rintro e w' ⟨rfl, rfl⟩)
      go_loop [5, 19] (fun x i => ∃ j : Nat, j ≤ k ∧ i = .int .i64 j ∧ x = .int .i64 (bin n j)) (fun _ i => (k - intOf i).toNat)
      case atStart => exact ⟨0, by omega, rfl, by rw [bin_zero]⟩
      case round =>
        obtain ⟨j, hj, rfl, rfl⟩ := hrel
        by_cases hlt : j < k
        · have hs := bin_across n j
          have hbd := bin_bound n j ((n : Int) - j) (by omega) (by omega) (by omega)
          have hbd2 := bin_bound n (j + 1) 1 (by omega) (by omega) (by omega)
          rw [Int.mul_one, ← hs] at hbd2
          have HS := Lib.hid hs
          clear hs
          go_wp2
          go_round
          case rel => exact ⟨j + 1, by omega, by go_num, by rw [← HS.out]⟩
          case measure => simp [intOf]; omega
        · have hjk : j = k := by omega
          have hfin : Hid (bin n j = bin n k) := by show _ = _; rw [hjk]
          clear hjk
          go_wp2
          go_ret
          exact ⟨ret_i (by rw [hV.out]; exact hfin.out), rfl⟩
  all_goals
    go_enter Try.func24, Try.ntmps24
    go_wp2_with (go_at_call 51; refine (c_i_within _ _ _ _).mono ?_; rintro e w' ⟨rfl, rfl⟩)
    go_ret
    exact ⟨ret_i (by simp [binV, e1, e2]), rfl⟩

set_option maxHeartbeats 800000 in
theorem c_s_l06Count : ∀ (p : Nat) (n q k : Int) (w : World), q = p → p ≤ 12 → -5000 ≤ n → n ≤ 5000 → -1 ≤ k → k ≤ 12 →
    Calls Try.prog 69 #[.int .i64 n, .int .i64 q, .int .i64 k] w fun e w' => e = .returned (.int .i64 (cs p n k)) ∧ w = w' := by
  intro p
  induction p with
  | zero =>
    intro n q k w hq hp h1 h2 h3 h4
    subst hq
    have hV : Hid (cs 0 n k = if n = 0 ∧ k = 0 then 1 else 0) := rfl
    by_cases hn : n = 0 <;> by_cases hk : k = 0
    all_goals
      have b1 : (n == 0) = decide (n = 0) := rfl
      have b2 : (k == 0) = decide (k = 0) := rfl
      go_enter Try.func69, Try.ntmps69
      go_wp2
      go_ret
      exact ⟨ret_i (by rw [hV.out]; simp [hn, hk]), rfl⟩
  | succ p ih =>
    intro n q k w hq hp h1 h2 h3 h4
    subst hq
    have hq0 : (((p + 1 : Nat) : Int) == 0) = false := by simp; omega
    by_cases hk0 : k < 0
    · have hV := Lib.hid (cs_neg (p + 1) n k hk0)
      go_enter Try.func69, Try.ntmps69
      go_wp2_with fail
      go_ret
      exact ⟨ret_i hV.out.symm, rfl⟩
    · by_cases hkp : ((p + 1 : Nat) : Int) < k
      · have hV := Lib.hid (cs_over (p + 1) n k hkp)
        have hk0' : 0 ≤ k := by omega
        clear hk0
        go_enter Try.func69, Try.ntmps69
        go_wp2_with fail
        go_ret
        exact ⟨ret_i hV.out.symm, rfl⟩
      · have t1 := tdiv2_bound n (by omega) (by omega)
        have t2 := tdiv2_bound (n - 1) (by omega) (by omega)
        have t3 := tdiv2_bound (n + 1) (by omega) (by omega)
        have hk0' : 0 ≤ k := by omega
        have hkp' : k ≤ ((p + 1 : Nat) : Int) := by omega
        have ih' := Lib.hid ih
        clear ih
        cases hev : (n.tmod 2 == 0)
        · have hV : Hid (cs (p + 1) n k = cs p ((n - 1).tdiv 2) (k - 1) + cs p ((n + 1).tdiv 2) (k - 1)) := by
            show _ = _
            have hne : ¬ n.tmod 2 = 0 := by simpa using hev
            simp only [cs, hk0, if_false, hne]
          have c1 := cs_bound p ((n - 1).tdiv 2) (k - 1)
          have c2 := cs_bound p ((n + 1).tdiv 2) (k - 1)
          have c3 : 2 ^ p ≤ 2 ^ 12 := Nat.pow_le_pow_right (by omega) (by omega)
          have c4 : cs p ((n - 1).tdiv 2) (k - 1) ≤ 4096 := by omega
          have c5 : cs p ((n + 1).tdiv 2) (k - 1) ≤ 4096 := by omega
          have c1' := c1.1
          have c2' := c2.1
          clear c1 c2 c3
          go_enter Try.func69, Try.ntmps69
          go_wp2_with (go_at_call 69; refine (ih'.out _ _ _ _ (by omega) (by omega) (by omega) (by omega) (by omega) (by omega)).mono ?_; rintro e w' ⟨rfl, rfl⟩)
          go_ret
          exact ⟨ret_i hV.out.symm, rfl⟩
        · have hV : Hid (cs (p + 1) n k = cs p (n.tdiv 2) k) := by
            show _ = _
            have hne : n.tmod 2 = 0 := by simpa using hev
            simp only [cs, hk0, if_false, hne, if_true]
          go_enter Try.func69, Try.ntmps69
          go_wp2_with (go_at_call 69; refine (ih'.out _ _ _ _ (by omega) (by omega) (by omega) (by omega) (by omega) (by omega)).mono ?_; rintro e w' ⟨rfl, rfl⟩)
          go_ret
          exact ⟨ret_i hV.out.symm, rfl⟩


set_option maxHeartbeats 800000 in
theorem c_i_countSigned : ∀ (p : Nat) (n q k : Int) (w : World), q = p → p ≤ 12 → -5000 ≤ n → n ≤ 5000 → -1 ≤ k → k ≤ 12 →
    Calls Try.prog 70 #[.int .i64 n, .int .i64 q, .int .i64 k] w fun e w' => e = .returned (.int .i64 (cs p n k)) ∧ w = w' := by
  intro p
  induction p with
  | zero =>
    intro n q k w hq hp h1 h2 h3 h4
    subst hq
    have hV : Hid (cs 0 n k = if n = 0 ∧ k = 0 then 1 else 0) := rfl
    by_cases hk0 : k < 0
    · have hVz := Lib.hid (cs_neg 0 n k hk0)
      go_enter Try.func70, Try.ntmps70
      go_wp2_with fail
      go_ret
      exact ⟨ret_i hVz.out.symm, rfl⟩
    · have hk0' : 0 ≤ k := by omega
      clear hk0
      by_cases hn : n = 0 <;> by_cases hk : k = 0
      all_goals
        go_enter Try.func70, Try.ntmps70
        go_wp2
        go_ret
        exact ⟨ret_i (by rw [hV.out]; simp [hn, hk]), rfl⟩
  | succ p ih =>
    intro n q k w hq hp h1 h2 h3 h4
    subst hq
    have hq0 : (((p + 1 : Nat) : Int) == 0) = false := by simp; omega
    by_cases hk0 : k < 0
    · have hV := Lib.hid (cs_neg (p + 1) n k hk0)
      go_enter Try.func70, Try.ntmps70
      go_wp2_with fail
      go_ret
      exact ⟨ret_i hV.out.symm, rfl⟩
    · have t1 := tdiv2_bound n (by omega) (by omega)
      have t2 := tdiv2_bound (n - 1) (by omega) (by omega)
      have t3 := tdiv2_bound (n + 1) (by omega) (by omega)
      have hk0' : 0 ≤ k := by omega
      have ih' := Lib.hid ih
      clear ih
      cases hev : (n.tmod 2 == 0)
      · have hV : Hid (cs (p + 1) n k = cs p ((n - 1).tdiv 2) (k - 1) + cs p ((n + 1).tdiv 2) (k - 1)) := by
          show _ = _
          have hne : ¬ n.tmod 2 = 0 := by simpa using hev
          simp only [cs, hk0, if_false, hne]
        have c1 := cs_bound p ((n - 1).tdiv 2) (k - 1)
        have c2 := cs_bound p ((n + 1).tdiv 2) (k - 1)
        have c3 : 2 ^ p ≤ 2 ^ 12 := Nat.pow_le_pow_right (by omega) (by omega)
        have c4 : cs p ((n - 1).tdiv 2) (k - 1) ≤ 4096 := by omega
        have c5 : cs p ((n + 1).tdiv 2) (k - 1) ≤ 4096 := by omega
        have c1' := c1.1
        have c2' := c2.1
        clear c1 c2 c3
        go_enter Try.func70, Try.ntmps70
        go_wp2_with (go_at_call 70; refine (ih'.out _ _ _ _ (by omega) (by omega) (by omega) (by omega) (by omega) (by omega)).mono ?_; rintro e w' ⟨rfl, rfl⟩)
        go_ret
        exact ⟨ret_i hV.out.symm, rfl⟩
      · have hV : Hid (cs (p + 1) n k = cs p (n.tdiv 2) k) := by
          show _ = _
          have hne : n.tmod 2 = 0 := by simpa using hev
          simp only [cs, hk0, if_false, hne, if_true]
        go_enter Try.func70, Try.ntmps70
        go_wp2_with (go_at_call 70; refine (ih'.out _ _ _ _ (by omega) (by omega) (by omega) (by omega) (by omega) (by omega)).mono ?_; rintro e w' ⟨rfl, rfl⟩)
        go_ret
        exact ⟨ret_i hV.out.symm, rfl⟩

/-- The number of signed lists, or -1. -/
def csV (n p k : Int) : Int := if inB n (-5000) 5000 && (inB p 0 12 && inB k 0 12) then cs p.toNat n k else -1

theorem c_s_CountSigned (n p k : Int) (w : World) :
    Calls Try.prog 46 #[.int .i64 n, .int .i64 p, .int .i64 k] w fun e w' => e = .returned (.int .i64 (csV n p k)) ∧ w = w' := by
  cases e1 : inB n (-5000) 5000 <;> cases e2 : inB p 0 12 <;> cases e3 : inB k 0 12
  case true.true.true =>
    have g1 := inB_yes e1
    have g2 := inB_yes e2
    have g3 := inB_yes e3
    obtain ⟨p, rfl⟩ := Int.eq_ofNat_of_zero_le g2.1
    go_enter Try.func46, Try.ntmps46
    go_wp2_with (first | (go_at_call 50; refine (c_s_l01In _ _ _ _).mono ?_; rintro e w' ⟨rfl, rfl⟩) | (go_at_call 69; refine (c_s_l06Count p _ _ _ _ rfl (by omega) (by omega) (by omega) (by omega) (by omega)).mono ?_; rintro e w' ⟨rfl, rfl⟩))
    go_ret
    exact ⟨ret_i (by simp [csV, e1, e2, e3]), rfl⟩
  all_goals
    go_enter Try.func46, Try.ntmps46
    go_wp2_with (go_at_call 50; refine (c_s_l01In _ _ _ _).mono ?_; rintro e w' ⟨rfl, rfl⟩)
    go_ret
    exact ⟨ret_i (by simp [csV, e1, e2, e3]), rfl⟩

theorem c_i_CountSigned (n p k : Int) (w : World) :
    Calls Try.prog 47 #[.int .i64 n, .int .i64 p, .int .i64 k] w fun e w' => e = .returned (.int .i64 (csV n p k)) ∧ w = w' := by
  cases e1 : inB n (-5000) 5000 <;> cases e2 : inB p 0 12 <;> cases e3 : inB k 0 12
  case true.true.true =>
    have g1 := inB_yes e1
    have g2 := inB_yes e2
    have g3 := inB_yes e3
    obtain ⟨p, rfl⟩ := Int.eq_ofNat_of_zero_le g2.1
    go_enter Try.func47, Try.ntmps47
    go_wp2_with (first | (go_at_call 51; refine (c_i_within _ _ _ _).mono ?_; rintro e w' ⟨rfl, rfl⟩) | (go_at_call 70; refine (c_i_countSigned p _ _ _ _ rfl (by omega) (by omega) (by omega) (by omega) (by omega)).mono ?_; rintro e w' ⟨rfl, rfl⟩))
    go_ret
    exact ⟨ret_i (by simp [csV, e1, e2, e3]), rfl⟩
  all_goals
    go_enter Try.func47, Try.ntmps47
    go_wp2_with (go_at_call 51; refine (c_i_within _ _ _ _).mono ?_; rintro e w' ⟨rfl, rfl⟩)
    go_ret
    exact ⟨ret_i (by simp [csV, e1, e2, e3]), rfl⟩

theorem c_i_power (b : Int) (i : Nat) (w : World) (hb : 2 ≤ b) (hb' : b ≤ 16) (hi : i ≤ 9) :
    Calls Try.prog 71 #[.int .i64 b, .int .i64 i] w fun e w' => e = .returned (.int .i64 (pw b i)) ∧ w = w' := by
  go_enter Try.func71, Try.ntmps71
  go_wp2
  go_loop [5, 7] (fun x q => ∃ j : Nat, j ≤ i ∧ q = .int .i64 j ∧ x = .int .i64 (pw b j)) (fun _ q => (i - intOf q).toNat)
  case atStart => exact ⟨0, by omega, rfl, rfl⟩
  case round =>
    obtain ⟨j, hj, rfl, rfl⟩ := hrel
    by_cases hlt : j < i
    · have h1 := pw_pos b hb (j + 1)
      have h2 := pw_le b (by omega) hb' (j + 1)
      have h3 := pw_mono16 (j + 1) (by omega)
      have h4 : pw b (j + 1) ≤ 68719476736 := by omega
      clear h2 h3
      have hs : Hid (pw b (j + 1) = pw b j * b) := rfl
      have h1' : 1 ≤ pw b j * b := h1
      have h4' : pw b j * b ≤ 68719476736 := h4
      clear h1 h4
      go_wp2
      go_round
      case rel => exact ⟨j + 1, by omega, by go_num, by rw [hs.out]⟩
      case measure => simp [intOf]; omega
    · have hjk : j = i := by omega
      subst hjk
      go_wp2
      go_ret
      exact ⟨rfl, rfl⟩

/-- The least and the greatest integer with at most k digits in base -b. -/
def ngLoV (k b : Int) : Int := if inB b 2 16 && inB k 0 9 then ngLo b k.toNat else 0
def ngHiV (k b : Int) : Int := if inB b 2 16 && inB k 0 9 then ngHi b k.toNat else 0

/-- What the steps of the two ranges ask: all sums fit. -/
theorem ng_fits (b : Int) (i : Nat) (hb : 2 ≤ b) (hb' : b ≤ 16) (hi : i < 9) :
    0 ≤ (b - 1) * pw b i ∧ (b - 1) * pw b i ≤ 68719476736 ∧ 0 ≤ ngHi b i ∧ ngHi b i ≤ 68719476736 ∧ -68719476736 ≤ ngLo b i ∧ ngLo b i ≤ 0 ∧ 1 ≤ pw b i ∧ pw b i ≤ 68719476736 := by
  have h0 := pw_pos b hb i
  have h1 := pw_pos b hb (i + 1)
  have h2 := pw_le b (by omega) hb' (i + 1)
  have h3 := pw_mono16 (i + 1) (by omega)
  have h4 := pw_le b (by omega) hb' i
  have h5 := pw_mono16 i (by omega)
  have h6 := pw_sub b i
  have h7 := ng_bound b hb i
  have h8 : 0 ≤ (b - 1) * pw b i := Int.mul_nonneg (by omega) (by omega)
  omega

theorem ret_ii {a b c d : Int} (h : a = b) (k : c = d) : Ending.returned (.tuple #[.int .i64 a, .int .i64 c]) = .returned (.tuple #[.int .i64 b, .int .i64 d]) := by rw [h, k]

set_option maxHeartbeats 400000 in
theorem c_i_NegaRange (k b : Int) (w : World) :
    Calls Try.prog 49 #[.int .i64 k, .int .i64 b] w fun e w' => e = .returned (.tuple #[.int .i64 (ngLoV k b), .int .i64 (ngHiV k b)]) ∧ w = w' := by
  cases e1 : inB b 2 16 <;> cases e2 : inB k 0 9
  case true.true =>
    have g1 := inB_yes e1
    have g2 := inB_yes e2
    obtain ⟨k, rfl⟩ := Int.eq_ofNat_of_zero_le g2.1
    have hV1 : Hid (ngLoV k b = ngLo b k) := by simp [Hid, ngLoV, e1, e2]
    have hV2 : Hid (ngHiV k b = ngHi b k) := by simp [Hid, ngHiV, e1, e2]
    go_enter Try.func49, Try.ntmps49
    go_wp2_with (first | (go_at_call 51; refine (c_i_within _ _ _ _).mono ?_; rintro e w' ⟨rfl, rfl⟩) | (go_at_call 16; refine (c_i_BaseOk _ _).mono ?_; rintro e w' ⟨rfl, rfl⟩))
    go_loop [6, 7, 18] (fun lo hi q => ∃ j : Nat, j ≤ k ∧ q = .int .i64 j ∧ lo = .int .i64 (ngLo b j) ∧ hi = .int .i64 (ngHi b j)) (fun _ _ q => (k - intOf q).toNat)
    case atStart => exact ⟨0, by omega, rfl, rfl, rfl⟩
    case round =>
      obtain ⟨j, hj, rfl, rfl, rfl⟩ := hrel
      by_cases hlt : j < k
      · have hf := ng_fits b j g1.1 g1.2 (by omega)
        have hs1 : Hid (ngLo b (j + 1) = if j % 2 = 0 then ngLo b j else ngLo b j - (b - 1) * pw b j) := rfl
        have hs2 : Hid (ngHi b (j + 1) = if j % 2 = 0 then ngHi b j + (b - 1) * pw b j else ngHi b j) := rfl
        by_cases hev : j % 2 = 0
        · have hev' : ((j : Int) % 2 == 0) = true := by simp; omega
          have HE := Lib.hid hev
          clear hev
          go_wp2_with (first | (go_at_call 71; refine (c_i_power b j _ (by omega) (by omega) (by omega)).mono ?_; rintro e w' ⟨rfl, rfl⟩))
          go_round
          case rel => exact ⟨j + 1, by omega, by go_num, by rw [hs1.out, if_pos HE.out], by rw [hs2.out, if_pos HE.out]⟩
          case measure => simp [intOf]; omega
        · have hev' : ((j : Int) % 2 == 0) = false := by simp; omega
          have HE := Lib.hid hev
          clear hev
          go_wp2_with (first | (go_at_call 71; refine (c_i_power b j _ (by omega) (by omega) (by omega)).mono ?_; rintro e w' ⟨rfl, rfl⟩))
          go_round
          case rel => exact ⟨j + 1, by omega, by go_num, by rw [hs1.out, if_neg HE.out], by rw [hs2.out, if_neg HE.out]⟩
          case measure => simp [intOf]; omega
      · have hjk : j = k := by omega
        subst hjk
        go_wp2
        go_ret2
        exact ⟨ret_ii hV1.out.symm hV2.out.symm, rfl⟩
  all_goals
    go_enter Try.func49, Try.ntmps49
    go_wp2_with (first | (go_at_call 51; refine (c_i_within _ _ _ _).mono ?_; rintro e w' ⟨rfl, rfl⟩) | (go_at_call 16; refine (c_i_BaseOk _ _).mono ?_; rintro e w' ⟨rfl, rfl⟩))
    go_ret2
    exact ⟨ret_ii (by simp [ngLoV, e1, e2]) (by simp [ngHiV, e1, e2]), rfl⟩

/-- The power with its sign. -/
def sg (b : Int) (j : Nat) : Int := if j % 2 = 0 then pw b j else -(pw b j)
theorem sg_step (b : Int) (j : Nat) : -(sg b j) * b = sg b (j + 1) := by
  unfold sg
  by_cases h : j % 2 = 0
  · rw [if_pos h, if_neg (by omega)]; simp only [pw]; rw [Int.neg_mul]
  · rw [if_neg h, if_pos (by omega)]; simp only [pw, Int.neg_neg]

set_option maxHeartbeats 400000 in
theorem c_s_NegaRange (k b : Int) (w : World) :
    Calls Try.prog 48 #[.int .i64 k, .int .i64 b] w fun e w' => e = .returned (.tuple #[.int .i64 (ngLoV k b), .int .i64 (ngHiV k b)]) ∧ w = w' := by
  cases e1 : inB b 2 16 <;> cases e2 : inB k 0 9
  case true.true =>
    have g1 := inB_yes e1
    have g2 := inB_yes e2
    obtain ⟨k, rfl⟩ := Int.eq_ofNat_of_zero_le g2.1
    have hV1 : Hid (ngLoV k b = ngLo b k) := by simp [Hid, ngLoV, e1, e2]
    have hV2 : Hid (ngHiV k b = ngHi b k) := by simp [Hid, ngHiV, e1, e2]
    go_enter Try.func48, Try.ntmps48
    go_wp2_with (first | (go_at_call 50; refine (c_s_l01In _ _ _ _).mono ?_; rintro e w' ⟨rfl, rfl⟩) | (go_at_call 15; refine (c_s_BaseOk _ _).mono ?_; rintro e w' ⟨rfl, rfl⟩))
    go_loop [6, 7, 8, 9] (fun lo hi x q => ∃ j : Nat, j ≤ k ∧ q = .int .i64 j ∧ lo = .int .i64 (ngLo b j) ∧ hi = .int .i64 (ngHi b j) ∧ x = .int .i64 (sg b j)) (fun _ _ _ q => (k - intOf q).toNat)
    case atStart => exact ⟨0, by omega, rfl, rfl, rfl, rfl⟩
    case round =>
      obtain ⟨j, hj, rfl, rfl, rfl, rfl⟩ := hrel
      by_cases hlt : j < k
      · have hf := ng_fits b j g1.1 g1.2 (by omega)
        have hs1 : Hid (ngLo b (j + 1) = if j % 2 = 0 then ngLo b j else ngLo b j - (b - 1) * pw b j) := rfl
        have hs2 : Hid (ngHi b (j + 1) = if j % 2 = 0 then ngHi b j + (b - 1) * pw b j else ngHi b j) := rfl
        have hsg := Lib.hid (sg_step b j)
        have hnx := pw_sub b j
        have hx1 : -137438953472 ≤ -(sg b j) * b ∧ -(sg b j) * b ≤ 137438953472 := by
          rw [hsg.out]; unfold sg; split <;> omega
        by_cases hev : j % 2 = 0
        · have hg : sg b j = pw b j := by unfold sg; rw [if_pos hev]
          have hx2 : 1 ≤ sg b j ∧ sg b j ≤ 68719476736 := by rw [hg]; omega
          have hx3 : 0 ≤ (b - 1) * sg b j ∧ (b - 1) * sg b j ≤ 68719476736 := by rw [hg]; omega
          have HG := Lib.hid hg
          have HE := Lib.hid hev
          clear hev hg hnx
          go_wp2
          go_round
          case rel => exact ⟨j + 1, by omega, by go_num, by rw [hs1.out, if_pos HE.out], by rw [hs2.out, if_pos HE.out, HG.out], by rw [hsg.out]⟩
          case measure => simp [intOf]; omega
        · have hg : sg b j = -(pw b j) := by unfold sg; rw [if_neg hev]
          have hx2 : sg b j ≤ -1 ∧ -68719476736 ≤ sg b j := by rw [hg]; omega
          have hx4 : (b - 1) * sg b j = -((b - 1) * pw b j) := by rw [hg, Int.mul_neg]
          have hx3 : (b - 1) * sg b j ≤ 0 ∧ -68719476736 ≤ (b - 1) * sg b j := by rw [hx4]; omega
          have HG := Lib.hid hx4
          have HE := Lib.hid hev
          clear hev hg hnx hx4
          go_wp2
          go_round
          case rel => exact ⟨j + 1, by omega, by go_num, by rw [hs1.out, if_neg HE.out, HG.out]; rfl, by rw [hs2.out, if_neg HE.out], by rw [hsg.out]⟩
          case measure => simp [intOf]; omega
      · have hjk : j = k := by omega
        subst hjk
        go_wp2
        go_ret2
        exact ⟨ret_ii hV1.out.symm hV2.out.symm, rfl⟩
  all_goals
    go_enter Try.func48, Try.ntmps48
    go_wp2_with (first | (go_at_call 50; refine (c_s_l01In _ _ _ _).mono ?_; rintro e w' ⟨rfl, rfl⟩) | (go_at_call 15; refine (c_s_BaseOk _ _).mono ?_; rintro e w' ⟨rfl, rfl⟩))
    go_ret2
    exact ⟨ret_ii (by simp [ngLoV, e1, e2]) (by simp [ngHiV, e1, e2]), rfl⟩

end Go.Proofs.Ytnkiffhlgengbaa
