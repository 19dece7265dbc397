/- The permutations of the laws, and the plain law of FnPermutations, by reckoning over all permutations of at most 6 items. -/
import Derived.Test.YtgkijiekfdeggaaPnx
import Derived.Test.YtgkijiekfdeggaaHlp
import Derived.Test.YtgkijiekfdeggaaCur
namespace Go.Proofs.Ytgkijiekfdeggaa
open Go.RowKit
open Pl

theorem c_s_MakePermutation (w : World) (B : Nat) (a : Option Addr) (n cap m : Nat) (h : RdU w B a n cap) (hn : n ≤ 1048576) (hm : m ≤ 1000) :
    Calls Try.prog 13 #[.slice a n cap, .int .i64 m] w fun e w' => ∃ (v' : Value) (M K : Nat), e = .returned v' ∧ 1 ≤ M ∧ M ≤ 6 ∧ (K : Int) < fac M ∧ Own w' w.heap.size v' (paV K M) ∧ Below w.heap.size w w' := by
  have hdraw : ∀ (w : World) (g : Nat), Cur w B g a n cap → Calls Try.prog 40 #[.pointer (some ⟨g, 0, none⟩)] w fun e w' => ∃ (v' : Value) (M K : Nat), e = .returned v' ∧ 1 ≤ M ∧ M ≤ 6 ∧ (K : Int) < fac M ∧ Own w' w.heap.size v' (paV K M) ∧ w.grownBy w' (some g) := by
    intro w g hc
    have HC := Lib.hid hc
    clear hc
    go_enter Try.func40, Try.ntmps40
    go_wp2_with fail
    refine (c_s_l01Below _ _ _ _ _ _ 6 HC.out (by omega) (by omega)).mono ?_
    rintro e w1 ⟨x, rfl, hx0, hx1, hc1, hg1⟩
    obtain ⟨x, rfl⟩ := Int.eq_ofNat_of_zero_le hx0
    go_wp2_with fail
    refine (c_s_l01Below _ _ _ _ _ _ 256 hc1 (by omega) (by omega)).mono ?_
    rintro e w2 ⟨y, rfl, hy0, hy1, hc2, hg2⟩
    go_wp2_with fail
    refine (c_s_l01Below _ _ _ _ _ _ 256 hc2 (by omega) (by omega)).mono ?_
    rintro e w3 ⟨z, rfl, hz0, hz1, hc3, hg3⟩
    go_wp2_with fail
    refine (c_s_l08Factorial _ _ (by omega) (by omega)).mono ?_
    rintro e w' ⟨rfl, rfl⟩
    have ht : (1 + (x : Int)).toNat = 1 + x := by omega
    rw [ht]
    have hf1 := fac_pos (1 + x)
    have hf2 := fac_le (1 + x) (by omega)
    obtain ⟨F, hF⟩ : ∃ F, fac (1 + x) = F := ⟨_, rfl⟩
    rw [hF] at hf1 hf2 ⊢
    have hr0 := Int.emod_nonneg (y * 256 + z) (show F ≠ 0 by omega)
    have hr1 := Int.emod_lt_of_pos (y * 256 + z) (show 0 < F by omega)
    obtain ⟨R, hR⟩ : ∃ R, (y * 256 + z) % F = R := ⟨_, rfl⟩
    rw [hR] at hr0 hr1
    have HF := Lib.hid hF
    clear hF
    go_wp2_with fail
    refine (c_s_PermutationAt _ _ _).mono ?_
    rintro e w4 ⟨v, rfl, ho, hb4⟩
    go_wp2
    go_ret
    have hg13 := grown_trans (grown_trans hg1 hg2) hg3
    refine ⟨v, 1 + x, R.toNat, rfl, by omega, by omega, by rw [HF.out]; omega, ?_, grown_trans hg13 (grown_of hb4)⟩
    rw [Int.toNat_of_nonneg hr0]
    have : ((1 + x : Nat) : Int) = 1 + (x : Int) := by omega
    rw [this]
    exact ho.mono hg13.size
  have HD := Lib.hid hdraw
  clear hdraw
  have HR := Lib.hid h
  clear h
  go_enter Try.func13, Try.ntmps13
  go_wp2_with fail
  refine (c_s_l31New _ _ _ _ _ _ HR.out hn hm).mono ?_
  rintro e w1 ⟨rfl, hc1, hb1⟩
  go_wp2_with fail
  refine (HD.out _ _ hc1).mono ?_
  rintro e w2 ⟨v, M, K, rfl, h1, h6, hK, ho, hg⟩
  go_wp2
  go_ret
  exact ⟨_, M, K, rfl, h1, h6, hK, ho.mono hb1.size, hb1.grown hg hb1.size (fun k e => by cases e; exact Nat.le_refl _)⟩

/-- What the law asks of the permutation with the number K of M items. -/
def chk (M K : Nat) : Bool :=
  (fun L N O : List Int =>
    decide (L.length = M) && pmB L && decide (rkV L = (K : Int)) && decide (leh L = fdV K M) && (decide (N ≠ []) == decide ((K : Int) + 1 < fac M)) &&
    (decide (N = []) || (decide (rkV N = (K : Int) + 1) && befL L N)) && decide (O = L.map fun x => (M : Int) - 1 - x) &&
    decide (ciV L.reverse + ciV L = (M : Int) * ((M : Int) - 1) / 2) && decide (0 ≤ ciV L ∧ ciV L ≤ 100) && decide (0 ≤ ciV L.reverse ∧ ciV L.reverse ≤ 100) && L.all fun x => inB x 0 ((M : Int) - 1))
  (paV K M) (paV ((K : Int) + 1) M) (paV (fac M - 1 - K) M)
theorem chk3 : ((List.range 1).all (chk 1) && (List.range 2).all (chk 2) && (List.range 6).all (chk 3)) = true := by kernel_rfl
theorem chk4 : (List.range 24).all (chk 4) = true := by kernel_rfl
theorem chk5 : (List.range 120).all (chk 5) = true := by kernel_rfl

theorem chk6 : (List.range 720).all (chk 6) = true := by kernel_rfl

theorem chk_all {M K : Nat} (h1 : 1 ≤ M) (h6 : M ≤ 6) (hK : (K : Int) < fac M) : chk M K = true := by
  have h3 := chk3
  rw [Bool.and_eq_true, Bool.and_eq_true] at h3
  have hM : M = 1 ∨ M = 2 ∨ M = 3 ∨ M = 4 ∨ M = 5 ∨ M = 6 := by omega
  rcases hM with rfl | rfl | rfl | rfl | rfl | rfl
  · exact List.all_eq_true.1 h3.1.1 K (List.mem_range.2 (by have : fac 1 = 1 := rfl; omega))
  · exact List.all_eq_true.1 h3.1.2 K (List.mem_range.2 (by have : fac 2 = 2 := rfl; omega))
  · exact List.all_eq_true.1 h3.2 K (List.mem_range.2 (by have : fac 3 = 6 := rfl; omega))
  · exact List.all_eq_true.1 chk4 K (List.mem_range.2 (by have : fac 4 = 24 := rfl; omega))
  · exact List.all_eq_true.1 chk5 K (List.mem_range.2 (by have : fac 5 = 120 := rfl; omega))
  · exact List.all_eq_true.1 chk6 K (List.mem_range.2 (by have : fac 6 = 720 := rfl; omega))

/-- The plain law of FnPermutations. -/
theorem perm_facts {M K : Nat} {L : List Int} (h1 : 1 ≤ M) (h6 : M ≤ 6) (hK : (K : Int) < fac M) (hL : paV K M = L) :
    (L.length = M ∧ pmB L = true ∧ rkV L = K ∧ leh L = fdV K M) ∧ ((npB L = decide ((K : Int) + 1 < fac M)) ∧ (npB L = true → rkV (npL L) = (K : Int) + 1 ∧ befL L (npL L) = true)) ∧
    paV (fac M - 1 - K) M = L.map (fun x => (M : Int) - 1 - x) ∧ ciV L.reverse + ciV L = (M : Int) * ((M : Int) - 1) / 2 ∧ (0 ≤ ciV L ∧ ciV L ≤ 100) ∧ (0 ≤ ciV L.reverse ∧ ciV L.reverse ≤ 100) ∧ ∀ x ∈ L, 0 ≤ x ∧ x ≤ (M : Int) - 1 := by
  have h := chk_all h1 h6 hK
  unfold chk at h
  rw [hL] at h
  simp only [Bool.and_eq_true] at h
  obtain ⟨⟨⟨⟨⟨⟨⟨⟨⟨⟨c1, c2⟩, c3⟩, c4⟩, c5⟩, c6⟩, c7⟩, c8⟩, c9⟩, c10⟩, c11⟩ := h
  have c1 := of_decide_eq_true c1
  have c3 := of_decide_eq_true c3
  have hnp : npB L = decide (paV ((K : Int) + 1) M ≠ []) := by unfold npB; rw [c2, c3, c1]; rfl
  have hnl : npB L = true → npL L = paV ((K : Int) + 1) M := fun e => by unfold npL; rw [e, c3, c1]; rfl
  refine ⟨⟨c1, c2, c3, of_decide_eq_true c4⟩, ⟨?_, fun e => ?_⟩, of_decide_eq_true c7, of_decide_eq_true c8, of_decide_eq_true c9, of_decide_eq_true c10, fun x hx => inB_yes (List.all_eq_true.1 c11 x hx)⟩
  · rw [hnp]; exact beq_iff_eq.1 c5
  · rw [hnl e]
    rw [e] at hnp
    have hne := of_decide_eq_true hnp.symm
    rw [decide_eq_false hne, Bool.false_or, Bool.and_eq_true] at c6
    exact ⟨of_decide_eq_true c6.1, c6.2⟩

end Go.Proofs.Ytgkijiekfdeggaa
