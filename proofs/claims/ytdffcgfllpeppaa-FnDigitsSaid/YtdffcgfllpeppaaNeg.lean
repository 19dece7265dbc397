/- Contracts of functions that go through one list: NegateDigits, sums, weights. -/
import Derived.Test.YtdffcgfllpeppaaCopy
import Derived.Test.YtdffcgfllpeppaaInt
namespace Go.Proofs.Ytdffcgfllpeppaa
open Go.RowKit

def neg64 (x : Int) : Int := wrap64 (-x)

theorem bd_wrap (x : Int) : bd (wrap64 x) := bounds_i64 (wrap64_wf x)

theorem map_take_step {f : Int → Int} {xs : List Int} {k : Nat} (h : k < xs.length) : (xs.take k).map f ++ [f (xs.getD k 0)] = (xs.take (k + 1)).map f := by
  rw [take_step h, List.map_append]; rfl

set_option maxHeartbeats 400000 in
theorem c_i_NegateDigits (v : Value) (xs : List Int) (w : World) (h : Rd w v xs) (hl : Hid (xs.length ≤ 1048576)) :
    Calls Try.prog 21 #[v] w fun e w' => ∃ v', e = .returned v' ∧ Own w' w.heap.size v' (xs.map neg64) ∧ Below w.heap.size w w' := by
  obtain ⟨a, cap, n, rfl, HN, hm, hc, hcm, hcell⟩ := h.open
  have hl' := hl.out
  rw [HN.out] at hl'
  clear hl
  go_enter Try.func21, Try.ntmps21
  go_wp2
  go_loopw [3, 5, 8] (fun v _ i wr => ∃ k : Nat, k ≤ n ∧ i = .int .i64 k ∧ Own wr w.heap.size v ((xs.take k).map neg64) ∧ Below w.heap.size w wr) (fun _ _ i _ => n - (intOf i).toNat)
  case atStart => exact ⟨0, by omega, rfl, Own.nil _ _, Below.refl _ _⟩
  case round =>
    obtain ⟨k, hk, rfl, hown, hb⟩ := hrel
    by_cases hlt : k < n
    · obtain ⟨b, off, rfl, hbl, x, hx, hbd, hcx⟩ := hcell k hlt
      have hcr : wr.cell? ⟨b, off + k, none⟩ = some (.int .i64 x) := (hb.cell (by exact hbl)).trans hcx
      have hst : Hid ((xs.take k).map neg64 ++ [wrap64 (-x)] = (xs.take (k + 1)).map neg64) := by
        show _ = _
        rw [← map_take_step (by rw [HN.out]; exact hlt), hx.out]; rfl
      have hlen : ((xs.take k).map neg64).length < 17592186044415 := by rw [List.length_map, List.length_take]; omega
      have HLn := Lib.hid hlen
      clear hcx hcell hx hlen
      go_wp2_with (at_builtin; refine wpList_app _ rfl _ _ rfl w.heap.size w _ _ rfl (hown.alloc _) (hb.alloc hb.size _) (Nat.le_refl _) ⟨wr.heap.size, 0, none⟩ (wrap64 (-x)) rfl (by simp) (bd_wrap _) HLn.out ?_; intro v' w1 hown1 hb1 _)
      go_roundw
      case rel => exact ⟨k + 1, by omega, by go_num, by rw [← hst.out]; exact hown1, hb1⟩
      case measure => simp [intOf]; omega
    · have hfin : Hid ((xs.take k).map neg64 = xs.map neg64) := by
        show _ = _
        rw [List.take_of_length_le (by rw [HN.out]; omega)]
      clear hcell
      go_wp2
      go_ret
      exact ⟨_, rfl, by rw [← hfin.out]; exact hown, hb⟩

set_option maxHeartbeats 400000 in
theorem c_s_NegateDigits (v : Value) (xs : List Int) (w : World) (h : Rd w v xs) (hl : Hid (xs.length ≤ 1048576)) :
    Calls Try.prog 19 #[v] w fun e w' => ∃ v', e = .returned v' ∧ Own w' w.heap.size v' (xs.map neg64) ∧ Below w.heap.size w w' := by
  obtain ⟨a, cap, n, rfl, HN, hm, hc, hcm, hcell⟩ := h.open
  have hl' := hl.out
  rw [HN.out] at hl'
  clear hl
  go_enter Try.func19, Try.ntmps19
  go_wp2
  go_loopw [3, 5, 9] (fun v _ i wr => ∃ k : Nat, k ≤ n ∧ i = .int .i64 k ∧ Own wr w.heap.size v ((xs.take k).map neg64) ∧ Below w.heap.size w wr) (fun _ _ i _ => n - (intOf i).toNat)
  case atStart => exact ⟨0, by omega, rfl, Own.empty _ _ (Nat.le_refl _), (Below.refl _ _).alloc (Nat.le_refl _) _⟩
  case round =>
    obtain ⟨k, hk, rfl, hown, hb⟩ := hrel
    by_cases hlt : k < n
    · obtain ⟨b, off, rfl, hbl, x, hx, hbd, hcx⟩ := hcell k hlt
      have hcr : wr.cell? ⟨b, off + k, none⟩ = some (.int .i64 x) := (hb.cell (by exact hbl)).trans hcx
      have hst : Hid ((xs.take k).map neg64 ++ [wrap64 (-x)] = (xs.take (k + 1)).map neg64) := by
        show _ = _
        rw [← map_take_step (by rw [HN.out]; exact hlt), hx.out]; rfl
      have hlen : ((xs.take k).map neg64).length < 17592186044415 := by rw [List.length_map, List.length_take]; omega
      have HLn := Lib.hid hlen
      clear hcx hcell hx hlen
      go_wp2_with (at_builtin; refine wpList_app _ rfl _ _ rfl w.heap.size w _ _ rfl (hown.alloc _) (hb.alloc hb.size _) (Nat.le_refl _) ⟨wr.heap.size, 0, none⟩ (wrap64 (-x)) rfl (by simp) (bd_wrap _) HLn.out ?_; intro v' w1 hown1 hb1 _)
      go_roundw
      case rel => exact ⟨k + 1, by omega, by go_num, by rw [← hst.out]; exact hown1, hb1⟩
      case measure => simp [intOf]; omega
    · have hfin : Hid ((xs.take k).map neg64 = xs.map neg64) := by
        show _ = _
        rw [List.take_of_length_le (by rw [HN.out]; omega)]
      clear hcell
      go_wp2
      go_ret
      exact ⟨_, rfl, by rw [← hfin.out]; exact hown, hb⟩

/-- The sum of a list. -/
def sumL (xs : List Int) : Int := xs.foldl (· + ·) 0
theorem sumL_snoc (l : List Int) (x : Int) : sumL (l ++ [x]) = sumL l + x := by simp [sumL, List.foldl_append]
theorem sumL_take {xs : List Int} {k : Nat} (h : k < xs.length) : sumL (xs.take (k + 1)) = sumL (xs.take k) + xs.getD k 0 := by rw [take_step h, sumL_snoc]
/-- Elements from 0 to m: the first k of them add up to at most k * m. -/
theorem sumL_bound {xs : List Int} {m : Int} (hm : 0 ≤ m) (h : ∀ x ∈ xs, 0 ≤ x ∧ x ≤ m) : ∀ k, 0 ≤ sumL (xs.take k) ∧ sumL (xs.take k) ≤ k * m := by
  intro k
  induction k with
  | zero => simp [sumL]
  | succ k ih =>
    by_cases hk : k < xs.length
    · rw [sumL_take hk]
      have := h _ (getD_mem hk)
      rw [Int.natCast_add, Int.add_mul]
      omega
    · rw [List.take_of_length_le (by omega)] at ih ⊢
      rw [Int.natCast_add, Int.add_mul]
      omega

/-- How many are not 0. -/
def wgt (xs : List Int) : Int := xs.foldl (fun c x => if x = 0 then c else c + 1) 0
theorem wgt_snoc (l : List Int) (x : Int) : wgt (l ++ [x]) = if x = 0 then wgt l else wgt l + 1 := by simp [wgt, List.foldl_append]
theorem wgt_take {xs : List Int} {k : Nat} (h : k < xs.length) : wgt (xs.take (k + 1)) = if xs.getD k 0 = 0 then wgt (xs.take k) else wgt (xs.take k) + 1 := by rw [take_step h, wgt_snoc]
theorem wgt_bound (xs : List Int) : ∀ k : Nat, 0 ≤ wgt (xs.take k) ∧ wgt (xs.take k) ≤ k := by
  intro k
  induction k with
  | zero => simp [wgt]
  | succ k ih =>
    by_cases hk : k < xs.length
    · rw [wgt_take hk]; split <;> omega
    · rw [List.take_of_length_le (by omega)] at ih ⊢; omega

set_option maxHeartbeats 400000 in
theorem c_i_sumOf (v : Value) (xs : List Int) (m : Int) (w : World) (h : Rd w v xs) (hl : Hid (xs.length ≤ 1048576)) (hm0 : 0 ≤ m) (hm1 : m ≤ 1048576) (hx : Hid (∀ x ∈ xs, 0 ≤ x ∧ x ≤ m)) :
    Calls Try.prog 65 #[v] w fun e w' => e = .returned (.int .i64 (sumL xs)) ∧ w = w' := by
  obtain ⟨a, cap, n, rfl, HN, hm, hc, hcm, hcell⟩ := h.open
  have hl' := hl.out
  rw [HN.out] at hl'
  clear hl
  go_enter Try.func65, Try.ntmps65
  go_wp2
  go_loop [3, 5, 8] (fun s _ i => ∃ k : Nat, k ≤ n ∧ i = .int .i64 k ∧ s = .int .i64 (sumL (xs.take k))) (fun _ _ i => n - (intOf i).toNat)
  case atStart => exact ⟨0, by omega, rfl, by simp [sumL]⟩
  case round =>
    obtain ⟨k, hk, rfl, rfl⟩ := hrel
    by_cases hlt : k < n
    · obtain ⟨b, off, rfl, hbl, y, hy, hbd, hcx⟩ := hcell k hlt
      have hs := sumL_take (xs := xs) (k := k) (by rw [HN.out]; exact hlt)
      rw [hy.out] at hs
      have b1 := sumL_bound hm0 hx.out k
      have b2 := sumL_bound hm0 hx.out (k + 1)
      rw [hs] at b2
      have hkm : (k : Int) * m ≤ 1048576 * 1048576 := Int.mul_le_mul (by omega) hm1 hm0 (by omega)
      have hkm2 : ((k + 1 : Nat) : Int) * m ≤ 1048576 * 1048576 := Int.mul_le_mul (by omega) hm1 hm0 (by omega)
      have b3 : 0 ≤ sumL (xs.take k) ∧ sumL (xs.take k) ≤ 1048576 * 1048576 := ⟨b1.1, Int.le_trans b1.2 hkm⟩
      have b4 : 0 ≤ sumL (xs.take k) + y ∧ sumL (xs.take k) + y ≤ 1048576 * 1048576 := ⟨b2.1, Int.le_trans b2.2 hkm2⟩
      have HS := Lib.hid hs
      clear hs hy hcell b1 b2 hkm hkm2
      go_wp2
      go_round
      case rel => exact ⟨k + 1, by omega, by go_num, by rw [HS.out]⟩
      case measure => simp [intOf]; omega
    · have hfin : Hid (sumL (xs.take k) = sumL xs) := by show _ = _; rw [List.take_of_length_le (by rw [HN.out]; omega)]
      clear hcell
      go_wp2
      go_ret
      exact ⟨ret_i hfin.out, rfl⟩

set_option maxHeartbeats 400000 in
theorem c_s_l02Sum (v : Value) (xs : List Int) (m : Int) (w : World) (h : Rd w v xs) (hl : Hid (xs.length ≤ 1048576)) (hm0 : 0 ≤ m) (hm1 : m ≤ 1048576) (hx : Hid (∀ x ∈ xs, 0 ≤ x ∧ x ≤ m)) :
    Calls Try.prog 62 #[v] w fun e w' => e = .returned (.int .i64 (sumL xs)) ∧ w = w' := by
  obtain ⟨a, cap, n, rfl, HN, hm, hc, hcm, hcell⟩ := h.open
  have hl' := hl.out
  rw [HN.out] at hl'
  clear hl
  go_enter Try.func62, Try.ntmps62
  go_wp2
  go_loop [3, 5, 8] (fun s _ i => ∃ k : Nat, k ≤ n ∧ i = .int .i64 k ∧ s = .int .i64 (sumL (xs.take k))) (fun _ _ i => n - (intOf i).toNat)
  case atStart => exact ⟨0, by omega, rfl, by simp [sumL]⟩
  case round =>
    obtain ⟨k, hk, rfl, rfl⟩ := hrel
    by_cases hlt : k < n
    · obtain ⟨b, off, rfl, hbl, y, hy, hbd, hcx⟩ := hcell k hlt
      have hs := sumL_take (xs := xs) (k := k) (by rw [HN.out]; exact hlt)
      rw [hy.out] at hs
      have b1 := sumL_bound hm0 hx.out k
      have b2 := sumL_bound hm0 hx.out (k + 1)
      rw [hs] at b2
      have hkm : (k : Int) * m ≤ 1048576 * 1048576 := Int.mul_le_mul (by omega) hm1 hm0 (by omega)
      have hkm2 : ((k + 1 : Nat) : Int) * m ≤ 1048576 * 1048576 := Int.mul_le_mul (by omega) hm1 hm0 (by omega)
      have b3 : 0 ≤ sumL (xs.take k) ∧ sumL (xs.take k) ≤ 1048576 * 1048576 := ⟨b1.1, Int.le_trans b1.2 hkm⟩
      have b4 : 0 ≤ sumL (xs.take k) + y ∧ sumL (xs.take k) + y ≤ 1048576 * 1048576 := ⟨b2.1, Int.le_trans b2.2 hkm2⟩
      have HS := Lib.hid hs
      clear hs hy hcell b1 b2 hkm hkm2
      go_wp2
      go_round
      case rel => exact ⟨k + 1, by omega, by go_num, by rw [HS.out]⟩
      case measure => simp [intOf]; omega
    · have hfin : Hid (sumL (xs.take k) = sumL xs) := by show _ = _; rw [List.take_of_length_le (by rw [HN.out]; omega)]
      clear hcell
      go_wp2
      go_ret
      exact ⟨ret_i hfin.out, rfl⟩


set_option maxHeartbeats 400000 in
theorem c_i_weight (v : Value) (xs : List Int) (w : World) (h : Rd w v xs) :
    Calls Try.prog 71 #[v] w fun e w' => e = .returned (.int .i64 (wgt xs)) ∧ w = w' := by
  obtain ⟨a, cap, n, rfl, HN, hm, hc, hcm, hcell⟩ := h.open
  go_enter Try.func71, Try.ntmps71
  go_wp2
  go_loop [3, 5, 8] (fun s _ i => ∃ k : Nat, k ≤ n ∧ i = .int .i64 k ∧ s = .int .i64 (wgt (xs.take k))) (fun _ _ i => n - (intOf i).toNat)
  case atStart => exact ⟨0, by omega, rfl, by simp [wgt]⟩
  case round =>
    obtain ⟨k, hk, rfl, rfl⟩ := hrel
    have bk := wgt_bound xs k
    by_cases hlt : k < n
    · obtain ⟨b, off, rfl, hbl, y, hy, hbd, hcx⟩ := hcell k hlt
      have hs := wgt_take (xs := xs) (k := k) (by rw [HN.out]; exact hlt)
      rw [hy.out] at hs
      cases hyz : (y != 0)
      · have HS : Hid (wgt (xs.take (k + 1)) = wgt (xs.take k)) := by show _ = _; rw [hs, if_pos (by simpa using hyz)]
        clear hs hy hcell
        go_wp2
        go_round
        case rel => exact ⟨k + 1, by omega, by go_num, by rw [HS.out]⟩
        case measure => simp [intOf]; omega
      · have HS : Hid (wgt (xs.take (k + 1)) = wgt (xs.take k) + 1) := by show _ = _; rw [hs, if_neg (by simpa using hyz)]
        clear hs hy hcell
        go_wp2
        go_round
        case rel => exact ⟨k + 1, by omega, by go_num, by rw [HS.out]⟩
        case measure => simp [intOf]; omega
    · have hfin : Hid (wgt (xs.take k) = wgt xs) := by show _ = _; rw [List.take_of_length_le (by rw [HN.out]; omega)]
      clear hcell
      go_wp2
      go_ret
      exact ⟨ret_i hfin.out, rfl⟩

set_option maxHeartbeats 400000 in
theorem c_s_l06Weight (v : Value) (xs : List Int) (w : World) (h : Rd w v xs) :
    Calls Try.prog 70 #[v] w fun e w' => e = .returned (.int .i64 (wgt xs)) ∧ w = w' := by
  obtain ⟨a, cap, n, rfl, HN, hm, hc, hcm, hcell⟩ := h.open
  go_enter Try.func70, Try.ntmps70
  go_wp2
  go_loop [3, 5, 8] (fun s _ i => ∃ k : Nat, k ≤ n ∧ i = .int .i64 k ∧ s = .int .i64 (wgt (xs.take k))) (fun _ _ i => n - (intOf i).toNat)
  case atStart => exact ⟨0, by omega, rfl, by simp [wgt]⟩
  case round =>
    obtain ⟨k, hk, rfl, rfl⟩ := hrel
    have bk := wgt_bound xs k
    by_cases hlt : k < n
    · obtain ⟨b, off, rfl, hbl, y, hy, hbd, hcx⟩ := hcell k hlt
      have hs := wgt_take (xs := xs) (k := k) (by rw [HN.out]; exact hlt)
      rw [hy.out] at hs
      cases hyz : (y != 0)
      · have HS : Hid (wgt (xs.take (k + 1)) = wgt (xs.take k)) := by show _ = _; rw [hs, if_pos (by simpa using hyz)]
        clear hs hy hcell
        go_wp2
        go_round
        case rel => exact ⟨k + 1, by omega, by go_num, by rw [HS.out]⟩
        case measure => simp [intOf]; omega
      · have HS : Hid (wgt (xs.take (k + 1)) = wgt (xs.take k) + 1) := by show _ = _; rw [hs, if_neg (by simpa using hyz)]
        clear hs hy hcell
        go_wp2
        go_round
        case rel => exact ⟨k + 1, by omega, by go_num, by rw [HS.out]⟩
        case measure => simp [intOf]; omega
    · have hfin : Hid (wgt (xs.take k) = wgt xs) := by show _ = _; rw [List.take_of_length_le (by rw [HN.out]; omega)]
      clear hcell
      go_wp2
      go_ret
      exact ⟨ret_i hfin.out, rfl⟩

end Go.Proofs.Ytdffcgfllpeppaa
