/- Contracts of SubsetOf, the program's and the reference's. -/
import Derived.Test.YtgkijiekfdeggaaCopy
import Derived.Test.YtgkijiekfdeggaaInt
import Derived.Laws.BitsLemmas
namespace Go.Proofs.Ytgkijiekfdeggaa
open Go.RowKit

/-- The numbers of the mask, below k. -/
def maskL (m k : Nat) : List Int := ((List.range k).filter fun x => m.testBit x).map fun x => ((x : Nat) : Int)
def maskV (m : Int) : List Int := if inB m 0 1048575 then maskL m.toNat 20 else []

theorem mask_yes {m k : Nat} (h : m.testBit k = true) : maskL m k ++ [(k : Int)] = maskL m (k + 1) := by
  unfold maskL; rw [List.range_succ, List.filter_append, List.map_append]; simp [h]
theorem mask_no {m k : Nat} (h : m.testBit k = false) : maskL m k = maskL m (k + 1) := by
  unfold maskL; rw [List.range_succ, List.filter_append, List.map_append]; simp [h]
theorem maskL_len (m k : Nat) : (maskL m k).length ≤ k := by
  unfold maskL; rw [List.length_map]; exact Nat.le_trans (List.length_filter_le _ _) (by simp)
theorem maskV_len (m : Int) : (maskV m).length ≤ 1048576 := by
  unfold maskV
  split
  · have := maskL_len m.toNat 20; omega
  · simp

theorem and_i64 (a b : Nat) (ha : a < 9223372036854775808) (hb : b < 9223372036854775808) : bits .and .i64 (a : Int) (b : Int) = ((a &&& b : Nat) : Int) := by
  have hx : a &&& b < 2 ^ 63 := Nat.and_lt_two_pow _ (by omega)
  have h1 : (BitVec.ofInt 64 (a : Int)).toNat = a := by
    rw [BitVec.ofInt_natCast, BitVec.toNat_ofNat]; exact Nat.mod_eq_of_lt (by omega)
  have h2 : (BitVec.ofInt 64 (b : Int)).toNat = b := by
    rw [BitVec.ofInt_natCast, BitVec.toNat_ofNat]; exact Nat.mod_eq_of_lt (by omega)
  show IntKind.i64.wrap ((BitVec.ofInt 64 (a : Int) &&& BitVec.ofInt 64 (b : Int)).toNat : Int) = _
  rw [BitVec.toNat_and, h1, h2, IntKind.wrap_i64]
  omega

theorem bit_i (m k : Nat) (hm : m ≤ 1048575) : (bits .and .i64 ((m : Int) / 2 ^ k) 1 == 1) = m.testBit k := by
  have e : (m : Int) / 2 ^ k = ((m / 2 ^ k : Nat) : Int) := by simp
  have hle : m / 2 ^ k ≤ m := Nat.div_le_self _ _
  have h := and_i64 (m / 2 ^ k) 1 (by omega) (by omega)
  rw [e]
  rw [show (1 : Int) = ((1 : Nat) : Int) from rfl, h, Nat.and_one_is_mod, Nat.testBit_eq_decide_div_mod_eq]
  by_cases h1 : m / 2 ^ k % 2 = 1
  · rw [h1]; rfl
  · have : m / 2 ^ k % 2 = 0 := by omega
    rw [this]; rfl

theorem pow_lt (k : Nat) (hk : k < 20) : 2 ^ k ≤ 1048576 := by
  have : 2 ^ k ≤ 2 ^ 20 := Nat.pow_le_pow_right (by omega) (by omega)
  omega
theorem and_pow (m k : Nat) : m &&& 2 ^ k = if m.testBit k then 2 ^ k else 0 := by
  apply Nat.eq_of_testBit_eq
  intro i
  rw [Nat.testBit_and, Nat.testBit_two_pow]
  by_cases h : k = i
  · subst h
    cases hb : m.testBit k <;> simp
  · cases hb : m.testBit k <;> simp [h]
theorem bit_s (m k : Nat) (hm : m ≤ 1048575) (hk : k < 20) : (bits .and .i64 (m : Int) (wrap64 (2 ^ k)) != 0) = m.testBit k := by
  have hp := pow_lt k hk
  have e1 : ((2 : Int) ^ k) = ((2 ^ k : Nat) : Int) := by simp
  have hpos : 0 < 2 ^ k := Nat.two_pow_pos k
  have hand := and_pow m k
  rw [e1]
  generalize 2 ^ k = P at *
  have e : wrap64 (P : Int) = (P : Int) := IntWalk.wrap64_in _ ⟨by omega, by omega⟩
  rw [e, and_i64 m P (by omega) (by omega), hand]
  cases m.testBit k
  · simp
  · simp; omega

set_option maxHeartbeats 800000 in
theorem c_i_SubsetOf (m : Int) (w : World) :
    Calls Try.prog 30 #[.int .i64 m] w fun e w' => ∃ v', e = .returned v' ∧ Own w' w.heap.size v' (maskV m) ∧ Below w.heap.size w w' := by
  cases e1 : inB m 0 1048575
  · have hV : Hid (maskV m = []) := by simp [Hid, maskV, e1]
    go_enter Try.func30, Try.ntmps30
    go_wp2_with (go_at_call 42; refine (c_i_within _ _ _ _).mono ?_; rintro e w' ⟨rfl, rfl⟩)
    go_ret
    exact ⟨_, rfl, by rw [hV.out]; exact Own.nil _ _, Below.refl _ _⟩
  · have g1 := inB_yes e1
    obtain ⟨m, rfl⟩ := Int.eq_ofNat_of_zero_le g1.1
    have hV : Hid (maskV m = maskL m 20) := by simp [Hid, maskV, e1]
    go_enter Try.func30, Try.ntmps30
    go_wp2_with (go_at_call 42; refine (c_i_within _ _ _ _).mono ?_; rintro e w' ⟨rfl, rfl⟩)
    go_loopw [3, 4, 8] (fun v _ i wr => ∃ k : Nat, k ≤ 20 ∧ i = .int .i64 k ∧ Own wr w.heap.size v (maskL m k) ∧ Below w.heap.size w wr) (fun _ _ i _ => 20 - (intOf i).toNat)
    case atStart => exact ⟨0, by omega, rfl, Own.nil _ _, Below.refl _ _⟩
    case round =>
      obtain ⟨k, hk, rfl, hown, hb⟩ := hrel
      by_cases hlt : k < 20
      · have ht := bit_i m k (by omega)
        cases hbit : m.testBit k
        · rw [hbit] at ht
          have hst := Lib.hid (mask_no hbit)
          go_wp2
          go_roundw
          case rel => exact ⟨k + 1, by omega, by go_num, by rw [← hst.out]; exact hown, hb⟩
          case measure => simp [intOf]; omega
        · rw [hbit] at ht
          have hst := Lib.hid (mask_yes hbit)
          have hlen : Hid ((maskL m k).length < 17592186044415) := by have := maskL_len m k; show _ < _; omega
          go_wp2_with (at_builtin; refine wpList_app _ rfl _ _ rfl w.heap.size w _ _ rfl (hown.alloc _) (hb.alloc hb.size _) (Nat.le_refl _) ⟨wr.heap.size, 0, none⟩ (k : Int) rfl (by simp) (by unfold bd; omega) hlen.out ?_; intro v' w1 hown1 hb1 _)
          go_roundw
          case rel => exact ⟨k + 1, by omega, by go_num, by rw [← hst.out]; exact hown1, hb1⟩
          case measure => simp [intOf]; omega
      · have hk20 : k = 20 := by omega
        subst hk20
        go_wp2
        go_ret
        exact ⟨_, rfl, by rw [hV.out]; exact hown, hb⟩

set_option maxHeartbeats 800000 in
theorem c_s_SubsetOf (m : Int) (w : World) :
    Calls Try.prog 29 #[.int .i64 m] w fun e w' => ∃ v', e = .returned v' ∧ Own w' w.heap.size v' (maskV m) ∧ Below w.heap.size w w' := by
  cases e1 : inB m 0 1048575
  · have hV : Hid (maskV m = []) := by simp [Hid, maskV, e1]
    go_enter Try.func29, Try.ntmps29
    go_wp2_with (go_at_call 46; refine (c_s_l01In _ _ _ _).mono ?_; rintro e w' ⟨rfl, rfl⟩)
    go_ret
    exact ⟨_, rfl, by rw [hV.out]; exact Own.nil _ _, Below.refl _ _⟩
  · have g1 := inB_yes e1
    obtain ⟨m, rfl⟩ := Int.eq_ofNat_of_zero_le g1.1
    have hV : Hid (maskV m = maskL m 20) := by simp [Hid, maskV, e1]
    go_enter Try.func29, Try.ntmps29
    go_wp2_with (go_at_call 46; refine (c_s_l01In _ _ _ _).mono ?_; rintro e w' ⟨rfl, rfl⟩)
    go_loopw [3, 4] (fun v i wr => ∃ k : Nat, k ≤ 20 ∧ i = .int .i64 k ∧ Own wr w.heap.size v (maskL m k) ∧ Below w.heap.size w wr) (fun _ i _ => 20 - (intOf i).toNat)
    case atStart => exact ⟨0, by omega, rfl, Own.empty _ _ (Nat.le_refl _), (Below.refl _ _).alloc (Nat.le_refl _) _⟩
    case round =>
      obtain ⟨k, hk, rfl, hown, hb⟩ := hrel
      by_cases hlt : k < 20
      · have ht := bit_s m k (by omega) hlt
        cases hbit : m.testBit k
        · rw [hbit] at ht
          have hst := Lib.hid (mask_no hbit)
          go_wp2
          go_roundw
          case rel => exact ⟨k + 1, by omega, by go_num, by rw [← hst.out]; exact hown, hb⟩
          case measure => simp [intOf]; omega
        · rw [hbit] at ht
          have hst := Lib.hid (mask_yes hbit)
          have hlen : Hid ((maskL m k).length < 17592186044415) := by have := maskL_len m k; show _ < _; omega
          go_wp2_with (at_builtin; refine wpList_app _ rfl _ _ rfl w.heap.size w _ _ rfl (hown.alloc _) (hb.alloc hb.size _) (Nat.le_refl _) ⟨wr.heap.size, 0, none⟩ (k : Int) rfl (by simp) (by unfold bd; omega) hlen.out ?_; intro v' w1 hown1 hb1 _)
          go_roundw
          case rel => exact ⟨k + 1, by omega, by go_num, by rw [← hst.out]; exact hown1, hb1⟩
          case measure => simp [intOf]; omega
      · have hk20 : k = 20 := by omega
        subst hk20
        go_wp2
        go_ret
        exact ⟨_, rfl, by rw [hV.out]; exact hown, hb⟩

end Go.Proofs.Ytgkijiekfdeggaa
