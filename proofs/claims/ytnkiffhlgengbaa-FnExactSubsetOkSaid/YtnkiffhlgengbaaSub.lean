/- Contracts of SubsetOk, the program's and the reference's. -/
import Derived.Test.YtnkiffhlgengbaaCopy
import Derived.Test.YtnkiffhlgengbaaInt
namespace Go.Proofs.Ytnkiffhlgengbaa
open Go.RowKit

def okS (l : List Int) (m : Int) (j : Nat) : Prop := 0 ≤ l.getD j 0 ∧ l.getD j 0 < m ∧ (0 < j → l.getD (j - 1) 0 < l.getD j 0)
instance (l : List Int) (m : Int) (j : Nat) : Decidable (okS l m j) := by unfold okS; infer_instance
def subP (l : List Int) (m : Int) : Prop := (0 ≤ m ∧ m ≤ 20) ∧ ∀ j, j < l.length → okS l m j
instance (l : List Int) (m : Int) : Decidable (subP l m) := by unfold subP; infer_instance

theorem step_all {P : Nat → Prop} {k : Nat} (h : ∀ j, j < k → P j) (hk : P k) : ∀ j, j < k + 1 → P j := fun j hj => by
  rcases Nat.lt_succ_iff_lt_or_eq.1 hj with h1 | h1
  · exact h j h1
  · rw [h1]; exact hk

set_option maxHeartbeats 800000 in
theorem c_s_SubsetOk (v : Value) (l : List Int) (m : Int) (w : World) (h : Rd w v l) :
    Calls Try.prog 42 #[v, .int .i64 m] w fun e w' => e = .returned (.bool (decide (subP l m))) ∧ w = w' := by
  obtain ⟨a, cap, n, rfl, HN, hm, hc, hcm, hcell⟩ := h.open
  cases e1 : inB m 0 20
  case false =>
    have hfin : Hid (decide (subP l m) = false) := decide_eq_false fun hs => inB_no e1 hs.1
    go_enter Try.func42, Try.ntmps42
    go_wp2_with (go_at_call 50; refine (c_s_l01In _ _ _ _).mono ?_; rintro e w' ⟨rfl, rfl⟩)
    go_ret
    exact ⟨ret_b hfin.out.symm, rfl⟩
  case true =>
    have g1 := inB_yes e1
    go_enter Try.func42, Try.ntmps42
    go_wp2_with (go_at_call 50; refine (c_s_l01In _ _ _ _).mono ?_; rintro e w' ⟨rfl, rfl⟩)
    go_loop [5, 6, 12] (fun _ _ i => ∃ k : Nat, k ≤ n ∧ i = .int .i64 k ∧ Hid (∀ j, j < k → okS l m j)) (fun _ _ i => n - (intOf i).toNat)
    case atStart => exact ⟨0, by omega, rfl, fun j hj => by omega⟩
    case round =>
      obtain ⟨k, hk, rfl, hq⟩ := hrel
      by_cases hlt : k < n
      · obtain ⟨b, off, rfl, hbl, x, hx, hbd, hcx⟩ := hcell k hlt
        by_cases hr : 0 ≤ x ∧ x ≤ m - 1
        · have e2 := inB_mk hr
          by_cases hk0 : k = 0
          · subst hk0
            rw [Nat.add_zero] at hcx
            have hq2 : Hid (∀ j, j < 0 + 1 → okS l m j) := step_all hq.out ⟨by rw [hx.out]; exact hr.1, by rw [hx.out]; omega, fun h => by omega⟩
            clear hq hx hcell
            go_wp2_with (go_at_call 50; refine (c_s_l01In _ _ _ _).mono ?_; rintro e w' ⟨rfl, rfl⟩)
            go_round
            case rel => exact ⟨1, by omega, rfl, hq2⟩
            case measure => simp [intOf]; omega
          · obtain ⟨b', off', hbo, hbl', y, hy, hbd', hcy⟩ := hcell (k - 1) (by omega)
            cases hbo
            have hkp : (0 : Int) < (k : Int) := by omega
            have hix : ((k : Int) - 1).toNat = k - 1 := by omega
            by_cases hxy : x ≤ y
            · have hfin : Hid (decide (subP l m) = false) := decide_eq_false fun hs => by
                have := (hs.2 k (by rw [HN.out]; exact hlt)).2.2 (by omega)
                rw [hx.out, hy.out] at this; omega
              clear hq hx hy hcell hk0
              go_wp2_with (go_at_call 50; refine (c_s_l01In _ _ _ _).mono ?_; rintro e w' ⟨rfl, rfl⟩)
              go_ret
              exact ⟨ret_b hfin.out.symm, rfl⟩
            · have hq2 : Hid (∀ j, j < k + 1 → okS l m j) := step_all hq.out ⟨by rw [hx.out]; exact hr.1, by rw [hx.out]; omega, fun _ => by rw [hx.out, hy.out]; omega⟩
              have hxy' : y < x := by omega
              clear hq hx hy hcell hk0 hxy
              go_wp2_with (go_at_call 50; refine (c_s_l01In _ _ _ _).mono ?_; rintro e w' ⟨rfl, rfl⟩)
              go_round
              case rel => exact ⟨k + 1, by omega, by go_num, hq2⟩
              case measure => simp [intOf]; omega
        · have e2 := inB_not hr
          have hfin : Hid (decide (subP l m) = false) := decide_eq_false fun hs => by
            have := hs.2 k (by rw [HN.out]; exact hlt)
            unfold okS at this
            rw [hx.out] at this; omega
          clear hq hx hcell hr
          go_wp2_with (go_at_call 50; refine (c_s_l01In _ _ _ _).mono ?_; rintro e w' ⟨rfl, rfl⟩)
          go_ret
          exact ⟨ret_b hfin.out.symm, rfl⟩
      · have hfin : Hid (decide (subP l m) = true) := decide_eq_true ⟨g1, fun j hj => hq.out j (by rw [HN.out] at hj; omega)⟩
        clear hq hcell
        go_wp2
        go_ret
        exact ⟨ret_b hfin.out.symm, rfl⟩

set_option maxHeartbeats 800000 in
theorem c_i_SubsetOk (v : Value) (l : List Int) (m : Int) (w : World) (h : Rd w v l) :
    Calls Try.prog 44 #[v, .int .i64 m] w fun e w' => e = .returned (.bool (decide (subP l m))) ∧ w = w' := by
  obtain ⟨a, cap, n, rfl, HN, hm, hc, hcm, hcell⟩ := h.open
  go_enter Try.func44, Try.ntmps44
  go_wp2
  go_loop [5, 6, 9] (fun _ _ i => ∃ k : Nat, k ≤ n ∧ i = .int .i64 k ∧ Hid (∀ j, j < k → okS l m j)) (fun _ _ i => n - (intOf i).toNat)
  case atStart => exact ⟨0, by omega, rfl, fun j hj => by omega⟩
  case round =>
    obtain ⟨k, hk, rfl, hq⟩ := hrel
    by_cases hlt : k < n
    · obtain ⟨b, off, rfl, hbl, x, hx, hbd, hcx⟩ := hcell k hlt
      by_cases hr : 0 ≤ x ∧ x < m
      · obtain ⟨hr1, hr2⟩ := hr
        by_cases hk0 : k = 0
        · subst hk0
          rw [Nat.add_zero] at hcx
          have hq2 : Hid (∀ j, j < 0 + 1 → okS l m j) := step_all hq.out ⟨by rw [hx.out]; exact hr1, by rw [hx.out]; omega, fun h => by omega⟩
          clear hq hx hcell
          go_wp2
          go_round
          case rel => exact ⟨1, by omega, rfl, hq2⟩
          case measure => simp [intOf]; omega
        · obtain ⟨b', off', hbo, hbl', y, hy, hbd', hcy⟩ := hcell (k - 1) (by omega)
          cases hbo
          have hkp : (0 : Int) < (k : Int) := by omega
          have hix : ((k : Int) - 1).toNat = k - 1 := by omega
          by_cases hxy : x ≤ y
          · have hfin : Hid (decide (subP l m) = false) := decide_eq_false fun hs => by
              have := (hs.2 k (by rw [HN.out]; exact hlt)).2.2 (by omega)
              rw [hx.out, hy.out] at this; omega
            clear hq hx hy hcell hk0
            go_wp2
            go_ret
            exact ⟨ret_b hfin.out.symm, rfl⟩
          · have hq2 : Hid (∀ j, j < k + 1 → okS l m j) := step_all hq.out ⟨by rw [hx.out]; exact hr1, by rw [hx.out]; omega, fun _ => by rw [hx.out, hy.out]; omega⟩
            have hxy' : y < x := by omega
            clear hq hx hy hcell hk0 hxy
            go_wp2
            go_round
            case rel => exact ⟨k + 1, by omega, by go_num, hq2⟩
            case measure => simp [intOf]; omega
      · have hfin : Hid (decide (subP l m) = false) := decide_eq_false fun hs => by
          have := hs.2 k (by rw [HN.out]; exact hlt)
          unfold okS at this
          rw [hx.out] at this; omega
        have hr' : x < 0 ∨ (0 ≤ x ∧ m ≤ x) := by omega
        clear hq hx hcell hr
        rcases hr' with h1 | ⟨h1, h2⟩
        all_goals
          go_wp2
          go_ret
          exact ⟨ret_b hfin.out.symm, rfl⟩
    · have hfin : Hid (decide (subP l m) = inB m 0 20) := by
        show decide _ = decide _
        apply decide_eq_decide.2
        constructor
        · exact fun h => h.1
        · exact fun h => ⟨h, fun j hj => hq.out j (by rw [HN.out] at hj; omega)⟩
      clear hq hcell
      go_wp2_with (go_at_call 51; refine (c_i_within _ _ _ _).mono ?_; rintro e w' ⟨rfl, rfl⟩)
      go_ret
      exact ⟨ret_b hfin.out.symm, rfl⟩

end Go.Proofs.Ytnkiffhlgengbaa
