/- The laws' own helpers: a sum, an equality, an order of lists. -/
import Derived.Test.YtgkijiekfdeggaaNeg
namespace Go.Proofs.Ytgkijiekfdeggaa
open Go.RowKit

set_option maxHeartbeats 400000 in
theorem c_l_same (v u : Value) (xs ys : List Int) (w : World) (h : Rd w v xs) (g : Rd w u ys) :
    Calls Try.prog 18 #[v, u] w fun e w' => e = .returned (.bool (decide (xs = ys))) ∧ w = w' := by
  obtain ⟨a, cap, n, rfl, HN, hm, hc, hcm, hcell⟩ := h.open
  obtain ⟨a', cap', n', rfl, HN', hm', hc', hcm', hcell'⟩ := g.open
  by_cases hne : n = n'
  · subst hne
    go_enter Try.func18, Try.ntmps18
    go_wp2
    go_loop [5, 6, 14] (fun _ _ i => ∃ k : Nat, k ≤ n ∧ i = .int .i64 k ∧ Hid (xs.take k = ys.take k)) (fun _ _ i => n - (intOf i).toNat)
    case atStart => exact ⟨0, by omega, rfl, by simp [Hid]⟩
    case round =>
      obtain ⟨k, hk, rfl, hq⟩ := hrel
      by_cases hlt : k < n
      · obtain ⟨b, off, rfl, hbl, x, hx, hbd, hcx⟩ := hcell k hlt
        obtain ⟨b', off', rfl, hbl', y, hy, hbd', hcy⟩ := hcell' k hlt
        clear hcell hcell'
        by_cases hxy : x = y
        · have hq2 : Hid (xs.take (k + 1) = ys.take (k + 1)) := take_eq_step hq.out (by rw [HN.out]; exact hlt) (by rw [HN'.out]; exact hlt) (by rw [hx.out, hy.out, hxy])
          have hbe : (x != y) = false := by simp [hxy]
          clear hq hx hy
          have HX := Lib.hid hxy
          clear hxy
          go_wp2
          go_round
          case rel => exact ⟨k + 1, by omega, by go_num, hq2⟩
          case measure => simp [intOf]; omega
        · have hne : xs ≠ ys := fun e => hxy (by rw [← hx.out, ← hy.out, e])
          have hbe : (x != y) = true := by simp [hxy]
          have hfin := Lib.hid (decide_eq_false hne)
          clear hq hx hy hne
          have HX := Lib.hid hxy
          clear hxy
          go_wp2
          go_ret
          exact ⟨ret_b hfin.out.symm, rfl⟩
      · have hfin : Hid (xs = ys) := by
          have e := hq.out
          rwa [List.take_of_length_le (by rw [HN.out]; omega), List.take_of_length_le (by rw [HN'.out]; omega)] at e
        clear hq
        go_wp2
        go_ret
        exact ⟨ret_b (decide_eq_true hfin.out).symm, rfl⟩
  · have hnn : ((n : Int) != (n' : Int)) = true := by simp; omega
    have hfin : Hid (decide (xs = ys) = false) := decide_eq_false fun e => hne (by rw [← HN.out, ← HN'.out, e])
    clear hne
    go_enter Try.func18, Try.ntmps18
    go_wp2
    go_ret
    exact ⟨ret_b hfin.out.symm, rfl⟩

/-- The order of lists. -/
def befL : List Int → List Int → Bool
  | x :: xs, y :: ys => if x = y then befL xs ys else decide (x < y)
  | _, _ => false
theorem befL_nil (xs : List Int) : befL xs [] = false := by cases xs <;> rfl

set_option maxHeartbeats 400000 in
theorem c_l_before (v u : Value) (xs ys : List Int) (w : World) (h : Rd w v xs) (g : Rd w u ys) :
    Calls Try.prog 25 #[v, u] w fun e w' => e = .returned (.bool (befL xs ys)) ∧ w = w' := by
  obtain ⟨a, cap, n, rfl, HN, hm, hc, hcm, hcell⟩ := h.open
  obtain ⟨a', cap', n', rfl, HN', hm', hc', hcm', hcell'⟩ := g.open
  go_enter Try.func25, Try.ntmps25
  go_wp2
  go_loop [5, 6, 9] (fun _ _ i => ∃ k : Nat, k ≤ n ∧ i = .int .i64 k ∧ Hid (befL (xs.drop k) (ys.drop k) = befL xs ys)) (fun _ _ i => n - (intOf i).toNat)
  case atStart => exact ⟨0, by omega, rfl, rfl⟩
  case round =>
    obtain ⟨k, hk, rfl, hq⟩ := hrel
    by_cases hlt : k < n
    · obtain ⟨b, off, rfl, hbl, x, hx, hbd, hcx⟩ := hcell k hlt
      clear hcell
      by_cases hlt' : k < n'
      · obtain ⟨b', off', rfl, hbl', y, hy, hbd', hcy⟩ := hcell' k hlt'
        clear hcell'
        have hst : befL (xs.drop k) (ys.drop k) = if x = y then befL (xs.drop (k + 1)) (ys.drop (k + 1)) else decide (x < y) := by
          rw [drop_step (xs := xs) (k := k) (by rw [HN.out]; exact hlt), drop_step (xs := ys) (k := k) (by rw [HN'.out]; exact hlt'), hx.out, hy.out]; rfl
        by_cases hxy : x = y
        · have hq2 : Hid (befL (xs.drop (k + 1)) (ys.drop (k + 1)) = befL xs ys) := by rw [Hid, ← hq.out, hst, if_pos hxy]
          have hbe : (x != y) = false := by simp [hxy]
          have HX := Lib.hid hxy
          clear hq hx hy hst hxy
          go_wp2
          go_round
          case rel => exact ⟨k + 1, by omega, by go_num, hq2⟩
          case measure => simp [intOf]; omega
        · have hq2 : Hid (decide (x < y) = befL xs ys) := by rw [Hid, ← hq.out, hst, if_neg hxy]
          have hbe : (x != y) = true := by simp [hxy]
          have HX := Lib.hid hxy
          clear hq hx hy hst hxy
          go_wp2
          go_ret
          exact ⟨ret_b hq2.out, rfl⟩
      · have hle : n' ≤ k := by omega
        have hfin : Hid (befL xs ys = false) := by
          rw [Hid, ← hq.out, (List.drop_eq_nil_of_le (by rw [HN'.out]; omega) : ys.drop k = []), befL_nil]
        clear hq hx hcell'
        go_wp2
        go_ret
        exact ⟨ret_b hfin.out.symm, rfl⟩
    · have hfin : Hid (befL xs ys = false) := by
        rw [Hid, ← hq.out, (List.drop_eq_nil_of_le (by rw [HN.out]; omega) : xs.drop k = [])]; rfl
      clear hq hcell hcell'
      go_wp2
      go_ret
      exact ⟨ret_b hfin.out.symm, rfl⟩

end Go.Proofs.Ytgkijiekfdeggaa
