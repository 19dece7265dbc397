/- Contracts of the tests of lists of digits: DigitsOk, BalancedOk, SignedOk. -/
import Derived.Test.YtdffcgfllpeppaaAll
namespace Go.Proofs.Ytdffcgfllpeppaa
open Go.RowKit

/-- At most 60 digits, the last one not 0. -/
def endB (xs : List Int) : Bool := decide (xs.length ≤ 60 ∧ (xs.length = 0 ∨ xs.getD (xs.length - 1) 0 ≠ 0))
def oddB (b : Int) : Bool := inB b 3 15 && decide (b % 2 = 1)
def dokB (xs : List Int) (b : Int) : Bool := inB b 2 16 && (endB xs && allB xs 0 (b - 1))
def bokB (xs : List Int) (b : Int) : Bool := oddB b && (endB xs && allB xs (-(b / 2)) (b / 2))
def sokB (xs : List Int) : Bool := endB xs && allB xs (-1) 1

theorem endB_long {xs : List Int} (h : 60 < xs.length) : endB xs = false := decide_eq_false fun hn => by omega
theorem endB_nil {xs : List Int} (h : xs.length = 0) : endB xs = true := decide_eq_true ⟨by omega, .inl h⟩
theorem endB_zero {xs : List Int} (h : 0 < xs.length) (hl : xs.getD (xs.length - 1) 0 = 0) : endB xs = false := decide_eq_false fun hn => by
  rcases hn.2 with h2 | h2
  · omega
  · exact h2 hl
theorem endB_mk {xs : List Int} (h : xs.length ≤ 60) (hl : xs.getD (xs.length - 1) 0 ≠ 0) : endB xs = true := decide_eq_true ⟨h, .inr hl⟩
theorem endB_len {xs : List Int} (h : endB xs = true) : xs.length ≤ 60 := (of_decide_eq_true h).1

set_option maxHeartbeats 400000 in
theorem c_i_endsWell (v : Value) (xs : List Int) (w : World) (h : Rd w v xs) :
    Calls Try.prog 59 #[v] w fun e w' => e = .returned (.bool (endB xs)) ∧ w = w' := by
  obtain ⟨a, cap, n, rfl, HN, hm, hc, hcm, hcell⟩ := h.open
  by_cases hbig : 60 < n
  · have hfin : Hid (endB xs = false) := endB_long (by rw [HN.out]; exact hbig)
    clear hcell
    go_enter Try.func59, Try.ntmps59
    go_wp2
    go_ret
    exact ⟨ret_b hfin.out.symm, rfl⟩
  · have hsm : n ≤ 60 := by omega
    by_cases h0 : n = 0
    · have hfin : Hid (endB xs = true) := endB_nil (by rw [HN.out]; exact h0)
      clear hcell
      subst h0
      go_enter Try.func59, Try.ntmps59
      go_wp2
      go_ret
      exact ⟨ret_b hfin.out.symm, rfl⟩
    · obtain ⟨b, off, rfl, hbl, y, hy, hbd, hcy⟩ := hcell (n - 1) (by omega)
      have hnp : (0 : Int) < (n : Int) := by omega
      have hne : ((n : Int) == 0) = false := by simp; omega
      have hix : ((n : Int) - 1).toNat = n - 1 := by omega
      cases hyz : (y != 0)
      · have hfin : Hid (endB xs = false) := endB_zero (by rw [HN.out]; omega) (by rw [HN.out, hy.out]; simpa using hyz)
        clear hcell hy h0 hbig
        go_enter Try.func59, Try.ntmps59
        go_wp2
        go_ret
        exact ⟨ret_b hfin.out.symm, rfl⟩
      · have hfin : Hid (endB xs = true) := endB_mk (by rw [HN.out]; exact hsm) (by rw [HN.out, hy.out]; simpa using hyz)
        clear hcell hy h0 hbig
        go_enter Try.func59, Try.ntmps59
        go_wp2
        go_ret
        exact ⟨ret_b hfin.out.symm, rfl⟩

theorem c_i_isOddBase (b : Int) (w : World) :
    Calls Try.prog 68 #[.int .i64 b] w fun e w' => e = .returned (.bool (oddB b)) ∧ w = w' := by
  cases e1 : inB b 3 15
  · go_enter Try.func68, Try.ntmps68
    go_wp2_with (go_at_call 74; refine (c_i_within _ _ _ _).mono ?_; rintro e w' ⟨rfl, rfl⟩)
    go_ret
    exact ⟨ret_b (by simp [oddB, e1]), rfl⟩
  · have g1 := inB_yes e1
    have hV : Hid (oddB b = (b % 2 == 1)) := by simp [Hid, oddB, e1]; rfl
    go_enter Try.func68, Try.ntmps68
    go_wp2_with (go_at_call 74; refine (c_i_within _ _ _ _).mono ?_; rintro e w' ⟨rfl, rfl⟩)
    go_ret
    exact ⟨ret_b hV.out.symm, rfl⟩

theorem c_s_l05Base (b : Int) (w : World) :
    Calls Try.prog 67 #[.int .i64 b] w fun e w' => e = .returned (.bool (oddB b)) ∧ w = w' := by
  cases e1 : inB b 3 15
  · go_enter Try.func67, Try.ntmps67
    go_wp2_with (go_at_call 58; refine (c_s_l01In _ _ _ _).mono ?_; rintro e w' ⟨rfl, rfl⟩)
    go_ret
    exact ⟨ret_b (by simp [oddB, e1]), rfl⟩
  · have g1 := inB_yes e1
    have hV : Hid (oddB b = (b % 2 == 1)) := by simp [Hid, oddB, e1]; rfl
    go_enter Try.func67, Try.ntmps67
    go_wp2_with (go_at_call 58; refine (c_s_l01In _ _ _ _).mono ?_; rintro e w' ⟨rfl, rfl⟩)
    go_ret
    exact ⟨ret_b hV.out.symm, rfl⟩

theorem odd_in {b : Int} (h : oddB b = true) : (3 ≤ b ∧ b ≤ 15) ∧ b % 2 = 1 := by
  unfold oddB at h
  rw [Bool.and_eq_true] at h
  exact ⟨inB_yes h.1, by simpa using h.2⟩

set_option maxHeartbeats 800000 in
theorem c_s_DigitsOk (v : Value) (xs : List Int) (b : Int) (w : World) (h : Rd w v xs) :
    Calls Try.prog 31 #[v, .int .i64 b] w fun e w' => e = .returned (.bool (dokB xs b)) ∧ w = w' := by
  obtain ⟨a, cap, n, rfl, HN, hm, hc, hcm, hcell⟩ := h.open
  cases e1 : inB b 2 16
  · have hfin : Hid (dokB xs b = false) := by simp [Hid, dokB, e1]
    clear hcell
    go_enter Try.func31, Try.ntmps31
    go_wp2_with (first | (go_at_call 58; refine (c_s_l01In _ _ _ _).mono ?_; rintro e w' ⟨rfl, rfl⟩) | (go_at_call 69; refine (c_s_BaseOk _ _).mono ?_; rintro e w' ⟨rfl, rfl⟩))
    go_ret
    exact ⟨ret_b hfin.out.symm, rfl⟩
  by_cases hbig : 60 < n
  · have hfin : Hid (dokB xs b = false) := by
      have := endB_long (xs := xs) (by rw [HN.out]; exact hbig)
      simp [Hid, dokB, this]
    clear hcell
    go_enter Try.func31, Try.ntmps31
    go_wp2_with (first | (go_at_call 58; refine (c_s_l01In _ _ _ _).mono ?_; rintro e w' ⟨rfl, rfl⟩) | (go_at_call 69; refine (c_s_BaseOk _ _).mono ?_; rintro e w' ⟨rfl, rfl⟩))
    go_ret
    exact ⟨ret_b hfin.out.symm, rfl⟩
  have hsm : n ≤ 60 := by omega
  have g1 := inB_yes e1
  go_enter Try.func31, Try.ntmps31
  go_wp2_with (first | (go_at_call 58; refine (c_s_l01In _ _ _ _).mono ?_; rintro e w' ⟨rfl, rfl⟩) | (go_at_call 69; refine (c_s_BaseOk _ _).mono ?_; rintro e w' ⟨rfl, rfl⟩))
  go_loop [6, 17] (fun _ i => ∃ k : Nat, k ≤ n ∧ i = .int .i64 k ∧ Hid (∀ j, j < k → inB (xs.getD j 0) (0) (b - 1) = true)) (fun _ i => n - (intOf i).toNat)
  case atStart => exact ⟨0, by omega, rfl, fun j hj => by omega⟩
  case round =>
    obtain ⟨k, hk, rfl, hr⟩ := hrel
    by_cases hlt : k < n
    · obtain ⟨g, off, rfl, hbl, x, hx, hbd, hcx⟩ := hcell k hlt
      cases e2 : inB x (0) (b - 1)
      · have hfin : Hid (dokB xs b = false) := by
          have := allB_no (xs := xs) (k := k) (by rw [HN.out]; exact hlt) (by rw [hx.out]; exact e2)
          simp [Hid, dokB, this]
        clear hr hx hcell
        go_wp2_with (first | (go_at_call 58; refine (c_s_l01In _ _ _ _).mono ?_; rintro e w' ⟨rfl, rfl⟩) | (go_at_call 69; refine (c_s_BaseOk _ _).mono ?_; rintro e w' ⟨rfl, rfl⟩))
        go_ret
        exact ⟨ret_b hfin.out.symm, rfl⟩
      · have hr2 : Hid (∀ j, j < k + 1 → inB (xs.getD j 0) (0) (b - 1) = true) := all_up hr.out (by rw [hx.out]; exact e2)
        clear hr hx hcell
        go_wp2_with (first | (go_at_call 58; refine (c_s_l01In _ _ _ _).mono ?_; rintro e w' ⟨rfl, rfl⟩) | (go_at_call 69; refine (c_s_BaseOk _ _).mono ?_; rintro e w' ⟨rfl, rfl⟩))
        go_round
        case rel => exact ⟨k + 1, by omega, by go_num, hr2⟩
        case measure => simp [intOf]; omega
    · have hall : allB xs (0) (b - 1) = true := allB_yes fun j hj => hr.out j (by rw [HN.out] at hj; omega)
      have hV : Hid (dokB xs b = endB xs) := by simp [Hid, dokB, hall, e1]
      clear hr hall
      by_cases h0 : n = 0
      · have hfin : Hid (endB xs = true) := endB_nil (by rw [HN.out]; exact h0)
        have hne : ((n : Int) == 0) = true := by simp; omega
        clear hcell h0
        go_wp2
        go_ret
        exact ⟨ret_b (hfin.out.symm.trans hV.out.symm), rfl⟩
      · obtain ⟨g, off, rfl, hbl, y, hy, hbd, hcy⟩ := hcell (n - 1) (by omega)
        have hnp : (0 : Int) < (n : Int) := by omega
        have hne : ((n : Int) == 0) = false := by simp; omega
        have hix : ((n : Int) - 1).toNat = n - 1 := by omega
        cases hyz : (y != 0)
        · have hfin : Hid (endB xs = false) := endB_zero (by rw [HN.out]; omega) (by rw [HN.out, hy.out]; simpa using hyz)
          clear hcell hy h0
          go_wp2
          go_ret
          exact ⟨ret_b (hfin.out.symm.trans hV.out.symm), rfl⟩
        · have hfin : Hid (endB xs = true) := endB_mk (by rw [HN.out]; exact hsm) (by rw [HN.out, hy.out]; simpa using hyz)
          clear hcell hy h0
          go_wp2
          go_ret
          exact ⟨ret_b (hfin.out.symm.trans hV.out.symm), rfl⟩

set_option maxHeartbeats 800000 in
theorem c_s_BalancedOk (v : Value) (xs : List Int) (b : Int) (w : World) (h : Rd w v xs) :
    Calls Try.prog 29 #[v, .int .i64 b] w fun e w' => e = .returned (.bool (bokB xs b)) ∧ w = w' := by
  obtain ⟨a, cap, n, rfl, HN, hm, hc, hcm, hcell⟩ := h.open
  cases e1 : oddB b
  · have hfin : Hid (bokB xs b = false) := by simp [Hid, bokB, e1]
    clear hcell
    go_enter Try.func29, Try.ntmps29
    go_wp2_with (first | (go_at_call 58; refine (c_s_l01In _ _ _ _).mono ?_; rintro e w' ⟨rfl, rfl⟩) | (go_at_call 67; refine (c_s_l05Base _ _).mono ?_; rintro e w' ⟨rfl, rfl⟩))
    go_ret
    exact ⟨ret_b hfin.out.symm, rfl⟩
  by_cases hbig : 60 < n
  · have hfin : Hid (bokB xs b = false) := by
      have := endB_long (xs := xs) (by rw [HN.out]; exact hbig)
      simp [Hid, bokB, this]
    clear hcell
    go_enter Try.func29, Try.ntmps29
    go_wp2_with (first | (go_at_call 58; refine (c_s_l01In _ _ _ _).mono ?_; rintro e w' ⟨rfl, rfl⟩) | (go_at_call 67; refine (c_s_l05Base _ _).mono ?_; rintro e w' ⟨rfl, rfl⟩))
    go_ret
    exact ⟨ret_b hfin.out.symm, rfl⟩
  have hsm : n ≤ 60 := by omega
  have g1 := (odd_in e1).1
  go_enter Try.func29, Try.ntmps29
  go_wp2_with (first | (go_at_call 58; refine (c_s_l01In _ _ _ _).mono ?_; rintro e w' ⟨rfl, rfl⟩) | (go_at_call 67; refine (c_s_l05Base _ _).mono ?_; rintro e w' ⟨rfl, rfl⟩))
  go_loop [6, 17] (fun _ i => ∃ k : Nat, k ≤ n ∧ i = .int .i64 k ∧ Hid (∀ j, j < k → inB (xs.getD j 0) (-(b / 2)) (b / 2) = true)) (fun _ i => n - (intOf i).toNat)
  case atStart => exact ⟨0, by omega, rfl, fun j hj => by omega⟩
  case round =>
    obtain ⟨k, hk, rfl, hr⟩ := hrel
    by_cases hlt : k < n
    · obtain ⟨g, off, rfl, hbl, x, hx, hbd, hcx⟩ := hcell k hlt
      cases e2 : inB x (-(b / 2)) (b / 2)
      · have hfin : Hid (bokB xs b = false) := by
          have := allB_no (xs := xs) (k := k) (by rw [HN.out]; exact hlt) (by rw [hx.out]; exact e2)
          simp [Hid, bokB, this]
        clear hr hx hcell
        go_wp2_with (first | (go_at_call 58; refine (c_s_l01In _ _ _ _).mono ?_; rintro e w' ⟨rfl, rfl⟩) | (go_at_call 67; refine (c_s_l05Base _ _).mono ?_; rintro e w' ⟨rfl, rfl⟩))
        go_ret
        exact ⟨ret_b hfin.out.symm, rfl⟩
      · have hr2 : Hid (∀ j, j < k + 1 → inB (xs.getD j 0) (-(b / 2)) (b / 2) = true) := all_up hr.out (by rw [hx.out]; exact e2)
        clear hr hx hcell
        go_wp2_with (first | (go_at_call 58; refine (c_s_l01In _ _ _ _).mono ?_; rintro e w' ⟨rfl, rfl⟩) | (go_at_call 67; refine (c_s_l05Base _ _).mono ?_; rintro e w' ⟨rfl, rfl⟩))
        go_round
        case rel => exact ⟨k + 1, by omega, by go_num, hr2⟩
        case measure => simp [intOf]; omega
    · have hall : allB xs (-(b / 2)) (b / 2) = true := allB_yes fun j hj => hr.out j (by rw [HN.out] at hj; omega)
      have hV : Hid (bokB xs b = endB xs) := by simp [Hid, bokB, hall, e1]
      clear hr hall
      by_cases h0 : n = 0
      · have hfin : Hid (endB xs = true) := endB_nil (by rw [HN.out]; exact h0)
        have hne : ((n : Int) == 0) = true := by simp; omega
        clear hcell h0
        go_wp2
        go_ret
        exact ⟨ret_b (hfin.out.symm.trans hV.out.symm), rfl⟩
      · obtain ⟨g, off, rfl, hbl, y, hy, hbd, hcy⟩ := hcell (n - 1) (by omega)
        have hnp : (0 : Int) < (n : Int) := by omega
        have hne : ((n : Int) == 0) = false := by simp; omega
        have hix : ((n : Int) - 1).toNat = n - 1 := by omega
        cases hyz : (y != 0)
        · have hfin : Hid (endB xs = false) := endB_zero (by rw [HN.out]; omega) (by rw [HN.out, hy.out]; simpa using hyz)
          clear hcell hy h0
          go_wp2
          go_ret
          exact ⟨ret_b (hfin.out.symm.trans hV.out.symm), rfl⟩
        · have hfin : Hid (endB xs = true) := endB_mk (by rw [HN.out]; exact hsm) (by rw [HN.out, hy.out]; simpa using hyz)
          clear hcell hy h0
          go_wp2
          go_ret
          exact ⟨ret_b (hfin.out.symm.trans hV.out.symm), rfl⟩

set_option maxHeartbeats 800000 in
theorem c_s_SignedOk (v : Value) (xs : List Int) (w : World) (h : Rd w v xs) :
    Calls Try.prog 25 #[v] w fun e w' => e = .returned (.bool (sokB xs)) ∧ w = w' := by
  obtain ⟨a, cap, n, rfl, HN, hm, hc, hcm, hcell⟩ := h.open
  by_cases hbig : 60 < n
  · have hfin : Hid (sokB xs = false) := by
      have := endB_long (xs := xs) (by rw [HN.out]; exact hbig)
      simp [Hid, sokB, this]
    clear hcell
    go_enter Try.func25, Try.ntmps25
    go_wp2_with (first | (go_at_call 58; refine (c_s_l01In _ _ _ _).mono ?_; rintro e w' ⟨rfl, rfl⟩))
    go_ret
    exact ⟨ret_b hfin.out.symm, rfl⟩
  have hsm : n ≤ 60 := by omega
  go_enter Try.func25, Try.ntmps25
  go_wp2_with (first | (go_at_call 58; refine (c_s_l01In _ _ _ _).mono ?_; rintro e w' ⟨rfl, rfl⟩))
  go_loop [4, 10] (fun _ i => ∃ k : Nat, k ≤ n ∧ i = .int .i64 k ∧ Hid (∀ j, j < k → inB (xs.getD j 0) (-1) (1) = true)) (fun _ i => n - (intOf i).toNat)
  case atStart => exact ⟨0, by omega, rfl, fun j hj => by omega⟩
  case round =>
    obtain ⟨k, hk, rfl, hr⟩ := hrel
    by_cases hlt : k < n
    · obtain ⟨g, off, rfl, hbl, x, hx, hbd, hcx⟩ := hcell k hlt
      cases e2 : inB x (-1) (1)
      · have hfin : Hid (sokB xs = false) := by
          have := allB_no (xs := xs) (k := k) (by rw [HN.out]; exact hlt) (by rw [hx.out]; exact e2)
          simp [Hid, sokB, this]
        clear hr hx hcell
        go_wp2_with (first | (go_at_call 58; refine (c_s_l01In _ _ _ _).mono ?_; rintro e w' ⟨rfl, rfl⟩))
        go_ret
        exact ⟨ret_b hfin.out.symm, rfl⟩
      · have hr2 : Hid (∀ j, j < k + 1 → inB (xs.getD j 0) (-1) (1) = true) := all_up hr.out (by rw [hx.out]; exact e2)
        clear hr hx hcell
        go_wp2_with (first | (go_at_call 58; refine (c_s_l01In _ _ _ _).mono ?_; rintro e w' ⟨rfl, rfl⟩))
        go_round
        case rel => exact ⟨k + 1, by omega, by go_num, hr2⟩
        case measure => simp [intOf]; omega
    · have hall : allB xs (-1) (1) = true := allB_yes fun j hj => hr.out j (by rw [HN.out] at hj; omega)
      have hV : Hid (sokB xs = endB xs) := by simp [Hid, sokB, hall]
      clear hr hall
      by_cases h0 : n = 0
      · have hfin : Hid (endB xs = true) := endB_nil (by rw [HN.out]; exact h0)
        have hne : ((n : Int) == 0) = true := by simp; omega
        clear hcell h0
        go_wp2
        go_ret
        exact ⟨ret_b (hfin.out.symm.trans hV.out.symm), rfl⟩
      · obtain ⟨g, off, rfl, hbl, y, hy, hbd, hcy⟩ := hcell (n - 1) (by omega)
        have hnp : (0 : Int) < (n : Int) := by omega
        have hne : ((n : Int) == 0) = false := by simp; omega
        have hix : ((n : Int) - 1).toNat = n - 1 := by omega
        cases hyz : (y != 0)
        · have hfin : Hid (endB xs = false) := endB_zero (by rw [HN.out]; omega) (by rw [HN.out, hy.out]; simpa using hyz)
          clear hcell hy h0
          go_wp2
          go_ret
          exact ⟨ret_b (hfin.out.symm.trans hV.out.symm), rfl⟩
        · have hfin : Hid (endB xs = true) := endB_mk (by rw [HN.out]; exact hsm) (by rw [HN.out, hy.out]; simpa using hyz)
          clear hcell hy h0
          go_wp2
          go_ret
          exact ⟨ret_b (hfin.out.symm.trans hV.out.symm), rfl⟩

set_option maxHeartbeats 800000 in
theorem c_i_DigitsOk (v : Value) (xs : List Int) (b : Int) (w : World) (h0 : Rd w v xs) :
    Calls Try.prog 32 #[v, .int .i64 b] w fun e w' => e = .returned (.bool (dokB xs b)) ∧ Below w.heap.size w w' := by
  have h : Hid (Rd w v xs) := h0
  clear h0
  cases e1 : inB b 2 16
  · go_enter Try.func32, Try.ntmps32
    go_wp2_with (first | (go_at_call 56; refine (c_i_BaseOk _ _).mono ?_; rintro e w' ⟨rfl, rfl⟩) | (go_at_call 59; refine (c_i_endsWell _ xs _ h.out).mono ?_; rintro e w' ⟨rfl, rfl⟩) | (go_at_call 60; refine (c_i_allWithin _ xs _ _ _ h.out).mono ?_; rintro e w' ⟨rfl, hb⟩))
    go_ret
    exact ⟨ret_b (by simp [dokB, e1]), Below.refl _ _⟩
  have g1 := inB_yes e1
  cases e2 : endB xs
  · go_enter Try.func32, Try.ntmps32
    go_wp2_with (first | (go_at_call 56; refine (c_i_BaseOk _ _).mono ?_; rintro e w' ⟨rfl, rfl⟩) | (go_at_call 59; refine (c_i_endsWell _ xs _ h.out).mono ?_; rintro e w' ⟨rfl, rfl⟩) | (go_at_call 60; refine (c_i_allWithin _ xs _ _ _ h.out).mono ?_; rintro e w' ⟨rfl, hb⟩))
    go_ret
    exact ⟨ret_b (by simp [dokB, e2]), Below.refl _ _⟩
  · go_enter Try.func32, Try.ntmps32
    go_wp2_with (first | (go_at_call 56; refine (c_i_BaseOk _ _).mono ?_; rintro e w' ⟨rfl, rfl⟩) | (go_at_call 59; refine (c_i_endsWell _ xs _ h.out).mono ?_; rintro e w' ⟨rfl, rfl⟩) | (go_at_call 60; refine (c_i_allWithin _ xs _ _ _ h.out).mono ?_; rintro e w' ⟨rfl, hb⟩))
    go_ret
    exact ⟨ret_b (by simp [dokB, e2, e1]), hb⟩

theorem neg_half {b : Int} (h : 3 ≤ b ∧ b ≤ 15) : b.tdiv 2 = b / 2 := Int.tdiv_eq_ediv_of_nonneg (by omega)

set_option maxHeartbeats 800000 in
theorem c_i_BalancedOk (v : Value) (xs : List Int) (b : Int) (w : World) (h0 : Rd w v xs) :
    Calls Try.prog 30 #[v, .int .i64 b] w fun e w' => e = .returned (.bool (bokB xs b)) ∧ Below w.heap.size w w' := by
  have h : Hid (Rd w v xs) := h0
  clear h0
  cases e1 : oddB b
  · go_enter Try.func30, Try.ntmps30
    go_wp2_with (first | (go_at_call 68; refine (c_i_isOddBase _ _).mono ?_; rintro e w' ⟨rfl, rfl⟩) | (go_at_call 59; refine (c_i_endsWell _ xs _ h.out).mono ?_; rintro e w' ⟨rfl, rfl⟩) | (go_at_call 60; refine (c_i_allWithin _ xs _ _ _ h.out).mono ?_; rintro e w' ⟨rfl, hb⟩))
    go_ret
    exact ⟨ret_b (by simp [bokB, e1]), Below.refl _ _⟩
  have g1 := (odd_in e1).1
  have HT := Lib.hid (neg_half g1)
  have hT1 : 0 ≤ b.tdiv 2 := by rw [HT.out]; omega
  have hT2 : b.tdiv 2 ≤ 7 := by rw [HT.out]; omega
  cases e2 : endB xs
  · go_enter Try.func30, Try.ntmps30
    go_wp2_with (first | (go_at_call 68; refine (c_i_isOddBase _ _).mono ?_; rintro e w' ⟨rfl, rfl⟩) | (go_at_call 59; refine (c_i_endsWell _ xs _ h.out).mono ?_; rintro e w' ⟨rfl, rfl⟩) | (go_at_call 60; refine (c_i_allWithin _ xs _ _ _ h.out).mono ?_; rintro e w' ⟨rfl, hb⟩))
    go_ret
    exact ⟨ret_b (by simp [bokB, e2]), Below.refl _ _⟩
  · go_enter Try.func30, Try.ntmps30
    go_wp2_with (first | (go_at_call 68; refine (c_i_isOddBase _ _).mono ?_; rintro e w' ⟨rfl, rfl⟩) | (go_at_call 59; refine (c_i_endsWell _ xs _ h.out).mono ?_; rintro e w' ⟨rfl, rfl⟩) | (go_at_call 60; refine (c_i_allWithin _ xs _ _ _ h.out).mono ?_; rintro e w' ⟨rfl, hb⟩))
    go_ret
    exact ⟨ret_b (by simp [bokB, e2, e1, HT.out]), hb⟩

set_option maxHeartbeats 800000 in
theorem c_i_SignedOk (v : Value) (xs : List Int) (w : World) (h0 : Rd w v xs) :
    Calls Try.prog 26 #[v] w fun e w' => e = .returned (.bool (sokB xs)) ∧ Below w.heap.size w w' := by
  have h : Hid (Rd w v xs) := h0
  clear h0
  cases e2 : endB xs
  · go_enter Try.func26, Try.ntmps26
    go_wp2_with (first | (go_at_call 59; refine (c_i_endsWell _ xs _ h.out).mono ?_; rintro e w' ⟨rfl, rfl⟩) | (go_at_call 60; refine (c_i_allWithin _ xs _ _ _ h.out).mono ?_; rintro e w' ⟨rfl, hb⟩))
    go_ret
    exact ⟨ret_b (by simp [sokB, e2]), Below.refl _ _⟩
  · go_enter Try.func26, Try.ntmps26
    go_wp2_with (first | (go_at_call 59; refine (c_i_endsWell _ xs _ h.out).mono ?_; rintro e w' ⟨rfl, rfl⟩) | (go_at_call 60; refine (c_i_allWithin _ xs _ _ _ h.out).mono ?_; rintro e w' ⟨rfl, hb⟩))
    go_ret
    exact ⟨ret_b (by simp [sokB, e2]), hb⟩

end Go.Proofs.Ytdffcgfllpeppaa
