/- Contracts of functions that go through one list: NegateDigits, sums, weights. -/
import Derived.Test.YtehlkoogpgcipaaCopy
import Derived.Test.YtehlkoogpgcipaaInt
namespace Go.Proofs.Ytehlkoogpgcipaa
open Go.RowKit

def neg64 (x : Int) : Int := wrap64 (-x)

theorem bd_wrap (x : Int) : bd (wrap64 x) := bounds_i64 (wrap64_wf x)

theorem map_take_step {f : Int → Int} {xs : List Int} {k : Nat} (h : k < xs.length) : (xs.take k).map f ++ [f (xs.getD k 0)] = (xs.take (k + 1)).map f := by
  rw [take_step h, List.map_append]; rfl



/-- The sum of a list. -/
def sumL (xs : List Int) : Int := xs.foldl (· + ·) 0
theorem sumL_snoc (l : List Int) (x : Int) : sumL (l ++ [x]) = sumL l + x := by simp [sumL, List.foldl_append]
theorem sumL_take {xs : List Int} {k : Nat} (h : k < xs.length) : sumL (xs.take (k + 1)) = sumL (xs.take k) + xs.getD k 0 := by rw [take_step h, sumL_snoc]
/-- Elements from 0 to m: the first k of them add up to at most k * m. -/
theorem sumL_bound {xs : List Int} {m : Int} (hm : 0 ≤ m) (h : ∀ x ∈ xs, 0 ≤ x ∧ x ≤ m) : ∀ k, 0 ≤ sumL (xs.take k) ∧ sumL (xs.take k) ≤ k * m := by
  intro k
  induction k with
  | zero => simp [sumL]
  | succ k ih =>
    by_cases hk : k < xs.length
    · rw [sumL_take hk]
      have := h _ (getD_mem hk)
      rw [Int.natCast_add, Int.add_mul]
      omega
    · rw [List.take_of_length_le (by omega)] at ih ⊢
      rw [Int.natCast_add, Int.add_mul]
      omega

/-- How many are not 0. -/
def wgt (xs : List Int) : Int := xs.foldl (fun c x => if x = 0 then c else c + 1) 0
theorem wgt_snoc (l : List Int) (x : Int) : wgt (l ++ [x]) = if x = 0 then wgt l else wgt l + 1 := by simp [wgt, List.foldl_append]
theorem wgt_take {xs : List Int} {k : Nat} (h : k < xs.length) : wgt (xs.take (k + 1)) = if xs.getD k 0 = 0 then wgt (xs.take k) else wgt (xs.take k) + 1 := by rw [take_step h, wgt_snoc]
theorem wgt_bound (xs : List Int) : ∀ k : Nat, 0 ≤ wgt (xs.take k) ∧ wgt (xs.take k) ≤ k := by
  intro k
  induction k with
  | zero => simp [wgt]
  | succ k ih =>
    by_cases hk : k < xs.length
    · rw [wgt_take hk]; split <;> omega
    · rw [List.take_of_length_le (by omega)] at ih ⊢; omega

set_option maxHeartbeats 400000 in
theorem c_i_sumOf (v : Value) (xs : List Int) (m : Int) (w : World) (h : Rd w v xs) (hl : Hid (xs.length ≤ 1048576)) (hm0 : 0 ≤ m) (hm1 : m ≤ 1048576) (hx : Hid (∀ x ∈ xs, 0 ≤ x ∧ x ≤ m)) :
    Calls Try.prog 51 #[v] w fun e w' => e = .returned (.int .i64 (sumL xs)) ∧ w = w' := by
  obtain ⟨a, cap, n, rfl, HN, hm, hc, hcm, hcell⟩ := h.open
  have hl' := hl.out
  rw [HN.out] at hl'
  clear hl
  go_enter Try.func51, Try.ntmps51
  go_wp2
  go_loop [3, 5, 8] (fun s _ i => ∃ k : Nat, k ≤ n ∧ i = .int .i64 k ∧ s = .int .i64 (sumL (xs.take k))) (fun _ _ i => n - (intOf i).toNat)
  case atStart => exact ⟨0, by omega, rfl, by simp [sumL]⟩
  case round =>
    obtain ⟨k, hk, rfl, rfl⟩ := hrel
    by_cases hlt : k < n
    · obtain ⟨b, off, rfl, hbl, y, hy, hbd, hcx⟩ := hcell k hlt
      have hs := sumL_take (xs := xs) (k := k) (by rw [HN.out]; exact hlt)
      rw [hy.out] at hs
      have b1 := sumL_bound hm0 hx.out k
      have b2 := sumL_bound hm0 hx.out (k + 1)
      rw [hs] at b2
      have hkm : (k : Int) * m ≤ 1048576 * 1048576 := Int.mul_le_mul (by omega) hm1 hm0 (by omega)
      have hkm2 : ((k + 1 : Nat) : Int) * m ≤ 1048576 * 1048576 := Int.mul_le_mul (by omega) hm1 hm0 (by omega)
      have b3 : 0 ≤ sumL (xs.take k) ∧ sumL (xs.take k) ≤ 1048576 * 1048576 := ⟨b1.1, Int.le_trans b1.2 hkm⟩
      have b4 : 0 ≤ sumL (xs.take k) + y ∧ sumL (xs.take k) + y ≤ 1048576 * 1048576 := ⟨b2.1, Int.le_trans b2.2 hkm2⟩
      have HS := Lib.hid hs
      clear hs hy hcell b1 b2 hkm hkm2
      go_wp2
      go_round
      case rel => exact ⟨k + 1, by omega, by go_num, by rw [HS.out]⟩
      case measure => simp [intOf]; omega
    · have hfin : Hid (sumL (xs.take k) = sumL xs) := by show _ = _; rw [List.take_of_length_le (by rw [HN.out]; omega)]
      clear hcell
      go_wp2
      go_ret
      exact ⟨ret_i hfin.out, rfl⟩


set_option maxHeartbeats 400000 in
theorem c_l_sum (v : Value) (xs : List Int) (m : Int) (w : World) (h : Rd w v xs) (hl : Hid (xs.length ≤ 1048576)) (hm0 : 0 ≤ m) (hm1 : m ≤ 1048576) (hx : Hid (∀ x ∈ xs, 0 ≤ x ∧ x ≤ m)) :
    Calls Try.prog 25 #[v] w fun e w' => e = .returned (.int .i64 (sumL xs)) ∧ w = w' := by
  obtain ⟨a, cap, n, rfl, HN, hm, hc, hcm, hcell⟩ := h.open
  have hl' := hl.out
  rw [HN.out] at hl'
  clear hl
  go_enter Try.func25, Try.ntmps25
  go_wp2
  go_loop [3, 5, 8] (fun s _ i => ∃ k : Nat, k ≤ n ∧ i = .int .i64 k ∧ s = .int .i64 (sumL (xs.take k))) (fun _ _ i => n - (intOf i).toNat)
  case atStart => exact ⟨0, by omega, rfl, by simp [sumL]⟩
  case round =>
    obtain ⟨k, hk, rfl, rfl⟩ := hrel
    by_cases hlt : k < n
    · obtain ⟨b, off, rfl, hbl, y, hy, hbd, hcx⟩ := hcell k hlt
      have hs := sumL_take (xs := xs) (k := k) (by rw [HN.out]; exact hlt)
      rw [hy.out] at hs
      have b1 := sumL_bound hm0 hx.out k
      have b2 := sumL_bound hm0 hx.out (k + 1)
      rw [hs] at b2
      have hkm : (k : Int) * m ≤ 1048576 * 1048576 := Int.mul_le_mul (by omega) hm1 hm0 (by omega)
      have hkm2 : ((k + 1 : Nat) : Int) * m ≤ 1048576 * 1048576 := Int.mul_le_mul (by omega) hm1 hm0 (by omega)
      have b3 : 0 ≤ sumL (xs.take k) ∧ sumL (xs.take k) ≤ 1048576 * 1048576 := ⟨b1.1, Int.le_trans b1.2 hkm⟩
      have b4 : 0 ≤ sumL (xs.take k) + y ∧ sumL (xs.take k) + y ≤ 1048576 * 1048576 := ⟨b2.1, Int.le_trans b2.2 hkm2⟩
      have HS := Lib.hid hs
      clear hs hy hcell b1 b2 hkm hkm2
      go_wp2
      go_round
      case rel => exact ⟨k + 1, by omega, by go_num, by rw [HS.out]⟩
      case measure => simp [intOf]; omega
    · have hfin : Hid (sumL (xs.take k) = sumL xs) := by show _ = _; rw [List.take_of_length_le (by rw [HN.out]; omega)]
      clear hcell
      go_wp2
      go_ret
      exact ⟨ret_i hfin.out, rfl⟩



end Go.Proofs.Ytehlkoogpgcipaa
