/- Proved: FnPermutations: permutations are numbered in order, and the digits of their number are the inversions: the law returns true for every input and leaves its arguments as they were. Conditions: none beyond those that the given row itself names. -/
import Derived.Test.YtgkijiekfdeggaaRows
import Derived.Test.YtgkijiekfdeggaaClo
import Derived.WalkKit
import Derived.Test.YtgkijiekfdeggaaPmk
import Derived.ProofKit
import Derived.OpenShut
import Derived.ShutString
import Derived.ChangeOld
import Derived.Below
namespace Go.Proofs.Ytgkijiekfdeggaa.fnPermutations
open Go.ChangeShapes Go.WideShapes Go.ChangeAt Go.RowKit
open Go.ChangeMaps (open_string shut_string)
set_option linter.unusedVariables false

theorem own : ownKnob Try.prog.godebug = none := by kernel_rfl
theorem laidOut : laidOutB Try.prog = true := by kernel_rfl

/-- WHAT THE WALK IS TOLD OF A SLICE OF INTEGERS THAT CAME IN: it is nil; or it leads to a row of 'cap' cells, the numbers 'zs' (the first 'len' are its elements, the rest its spare room), each fitting its kind. -/
def IsRow (k : IntKind) (w : World) (a : Option Addr) (len cap : Nat) (zs : List Int) : Prop :=
  (a = none ∧ len = 0 ∧ cap = 0 ∧ zs = []) ∨
  ∃ x, a = some x ∧ len ≤ cap ∧ cap ≤ maxLen ∧ zs.length = cap ∧ (∀ i, i < zs.length → w.cell? (x.add i) = some (.int k (zs.getD i 0))) ∧ ∀ n ∈ zs, (Lit.int k n).wf = true

open Pl
set_option maxRecDepth 10000
set_option maxHeartbeats 4000000

/-! ### STEP 1: THE WALK: the Go text returns true, AND WRITES NOTHING THAT WAS THERE: 'Below w.heap.size w w'' (Derived/Below.lean: '.refl', '.alloc', '.drew', '.setCell' at a new block, '.trans'). Open each 'IsRow' by 'rcases' AHEAD of 'go_enter'; part every test ahead of the walk. -/
theorem walk (a0 : Option Addr) (len0 cap0 : Nat) (z0 : List Int) (w : World) (w0 : IsRow .u8 w a0 len0 cap0 z0) :
    Calls Try.prog 3 #[.slice a0 len0 cap0] w fun e w' => e = .returned (.bool true) ∧ Below w.heap.size w w' := by
  have hr := Lib.hid (rdu_came w0)
  clear w0
  by_cases hbig : 1048576 < len0
  · go_enter Try.func3, Try.ntmps3
    go_wp2_with fail
    go_ret
    exact ⟨rfl, Below.refl _ _⟩
  have hsm : len0 ≤ 1048576 := by omega
  clear hbig
  go_enter Try.func3, Try.ntmps3
  go_wp2_with fail
  refine (c_s_MakePermutation _ _ _ _ _ 0 hr.out hsm (by omega)).mono ?_
  rintro e W1 ⟨v, M, K, rfl, h1, h6, hK, ho, hb1⟩
  obtain ⟨L, hL⟩ : ∃ L, paV K M = L := ⟨_, rfl⟩
  have hP := perm_facts h1 h6 hK hL
  rw [hL] at ho
  have HL := Lib.hid hL
  clear hL
  obtain ⟨F, hFF⟩ : ∃ F, fac M = F := ⟨_, rfl⟩
  have hf0 := fac_pos M
  have hf1 : fac M ≤ 720 := (show ∀ n, n ≤ 6 → fac n ≤ 720 by decide) M h6
  have hst := fac_step M h1
  obtain ⟨F1, hF1⟩ : ∃ F1, fac (M - 1) = F1 := ⟨_, rfl⟩
  have hg0 := fac_pos (M - 1)
  have hg1 : fac (M - 1) ≤ 720 := (show ∀ n, n ≤ 6 → fac n ≤ 720 by decide) (M - 1) (by omega)
  have hfv : Hid (facV (M : Int) = F) := by
    have : inB (M : Int) 0 12 = true := inB_mk (by omega)
    simp [Hid, facV, this, hFF]
  have hfm : Hid (facV ((M : Int) - 1) = F1) := by
    have : inB ((M : Int) - 1) 0 12 = true := inB_mk (by omega)
    have e : ((M : Int) - 1).toNat = M - 1 := by omega
    simp [Hid, facV, this, e, hF1]
  rw [hFF] at hf0 hf1 hK hP hst
  rw [hF1] at hg0 hg1 hst
  have hst' : (M : Int) * F1 = F := by rw [Int.mul_comm]; exact hst
  have HST := Lib.hid hst'
  have HHK := Lib.hid hK
  clear hst'
  have HFF := Lib.hid (And.intro hFF hF1)
  clear hFF hF1 hst
  obtain ⟨⟨p1, p2, p3, p4⟩, ⟨p5, p6⟩, p7, p8, p9, p10, p11⟩ := hP
  obtain ⟨C, hC⟩ : ∃ C, ciV L = C := ⟨_, rfl⟩
  obtain ⟨C', hC'⟩ : ∃ C, ciV L.reverse = C := ⟨_, rfl⟩
  rw [hC, hC'] at p8
  rw [hC] at p9
  rw [hC'] at p10
  have HP8 := Lib.hid p8
  clear p8
  have hlv : Hid (lehV L = fdV K M) := by rw [Hid, lehV, p2, if_pos rfl, p4]
  have hfd : Hid (fvV (fdV K M) = K) := by rw [Hid, ← hlv.out]; exact p3
  have hsm2 : Hid (sumL (fdV K M) = C) := by rw [Hid, ← p4, ← hC, ciV, p2, if_pos rfl]
  have hfl : Hid ((fdV K M).length ≤ 1048576) := fdV_len _ _
  have hfr : Hid (∀ x ∈ fdV K M, 0 ≤ x ∧ x ≤ 8) := fun x hx => by
    rw [← p4] at hx; have := leh_range L x hx; omega
  have hlr : Hid (∀ x ∈ L, 0 ≤ x ∧ x ≤ (M : Int) - 1) := p11
  have HP := Lib.hid (And.intro p2 (And.intro p3 (And.intro hC hC')))
  have HQ := Lib.hid (And.intro p5 (And.intro p6 p7))
  clear p2 p3 p4 p5 p6 p7 p11 hC hC'
  have hMM : 0 ≤ (M : Int) * ((M : Int) - 1) ∧ (M : Int) * ((M : Int) - 1) ≤ 30 := by
    have : M = 1 ∨ M = 2 ∨ M = 3 ∨ M = 4 ∨ M = 5 ∨ M = 6 := by omega
    rcases this with rfl | rfl | rfl | rfl | rfl | rfl <;> decide
  have HMM := Lib.hid hMM
  have HP9 := Lib.hid (And.intro p9 p10)
  clear hMM p9 p10
  obtain ⟨a, cap, m, rfl, HN, hm, hc, hcm, hcell⟩ := ho.rd.open
  obtain rfl : M = m := by rw [← HN.out, p1]
  clear p1
  have HO := Lib.hid ho.rd
  clear ho
  go_wp2_with fail
  refine (c_i_RankOf _ L _ HO.out).mono ?_
  rintro e W2 ⟨rfl, hb2⟩
  rw [HP.out.2.1]
  have hB2 := hb1.trans (hb2.mono hb1.size)
  go_wp2_with fail
  refine (c_i_LehmerOf _ L _ (HO.out.below hb2)).mono ?_
  rintro e W3 ⟨vh, rfl, hoh, hb3⟩
  rw [hlv.out] at hoh
  have hb13 := hb2.trans (hb3.mono hb2.size)
  have hB3 := hB2.trans (hb3.mono hB2.size)
  go_wp2_with fail
  refine (c_i_PermutationOk _ L _ (HO.out.below hb13)).mono ?_
  rintro e w' ⟨rfl, rfl⟩
  rw [HP.out.1]
  go_wp2_with fail
  refine (c_i_Factorial _ _).mono ?_
  rintro e w' ⟨rfl, rfl⟩
  rw [hfv.out]
  go_wp2_with fail
  refine (c_i_PermutationAt _ _ _).mono ?_
  rintro e W4 ⟨v4, rfl, ho4, hb4⟩
  rw [HL.out] at ho4
  have hb14 := hb13.trans (hb4.mono hb13.size)
  have hB4 := hB3.trans (hb4.mono hB3.size)
  go_wp2_with fail
  refine (c_l_same _ _ L L _ ho4.rd (HO.out.below hb14)).mono ?_
  rintro e w' ⟨rfl, rfl⟩
  rw [decide_eq_true rfl]
  go_wp2_with fail
  refine (c_i_FactorialDigits _ _ _).mono ?_
  rintro e W5 ⟨v5, rfl, ho5, hb5⟩
  have hb15 := hb14.trans (hb5.mono hb14.size)
  have hB5 := hB4.trans (hb5.mono hB4.size)
  have hoh5 := Lib.hid ((hoh.below hb4).below hb5).rd
  clear hoh
  go_wp2_with fail
  refine (c_l_same _ _ (fdV K M) (fdV K M) _ hoh5.out ho5.rd).mono ?_
  rintro e w' ⟨rfl, rfl⟩
  rw [decide_eq_true rfl]
  go_wp2_with fail
  refine (c_i_FactorialValue _ (fdV K M) _ hoh5.out).mono ?_
  rintro e w' ⟨rfl, rfl⟩
  rw [hfd.out]
  go_wp2_with fail
  refine (c_l_sum _ (fdV K M) 8 _ hoh5.out hfl (by omega) (by omega) hfr).mono ?_
  rintro e w' ⟨rfl, rfl⟩
  rw [hsm2.out]
  go_wp2_with fail
  refine (c_i_CountInversions _ L _ (HO.out.below hb15)).mono ?_
  rintro e W6 ⟨rfl, hb6⟩
  rw [HP.out.2.2.1]
  have hb16 := hb15.trans (hb6.mono hb15.size)
  have hB6 := hB5.trans (hb6.mono hB5.size)
  go_wp2_with fail
  refine (c_i_NextPermutation _ L _ (HO.out.below hb16)).mono ?_
  rintro e W7 ⟨v7, rfl, ho7, hb7⟩
  have hb17 := hb16.trans (hb7.mono hb16.size)
  have hB7 := hB6.trans (hb7.mono hB6.size)
  have HO7 := Lib.hid (HO.out.below hb17)
  by_cases hlt : (K : Int) + 1 < F
  · have hnp : Hid (npB L = true) := by rw [Hid, HQ.out.1]; exact decide_eq_true hlt
    have hnx := Lib.hid (HQ.out.2.1 hnp.out)
    rw [hnp.out]
    go_wp2_with fail
    refine (c_i_Factorial _ _).mono ?_
    rintro e w' ⟨rfl, rfl⟩
    rw [hfv.out]
    go_wp2_with fail
    refine (c_i_RankOf _ _ _ ho7.rd).mono ?_
    rintro e W8 ⟨rfl, hb8⟩
    rw [hnx.out.1]
    have hB8 := hB7.trans (hb8.mono hB7.size)
    go_wp2_with fail
    refine (c_l_before _ _ L (npL L) _ (HO7.out.below hb8) (ho7.below hb8).rd).mono ?_
    rintro e w' ⟨rfl, rfl⟩
    rw [hnx.out.2]
    have HO8 := Lib.hid (HO7.out.below hb8)
    have hb18 := hb17.trans (hb8.mono hb17.size)
    clear ho7
    go_wp2
    go_loopw [9, 10] (fun v i wr => ∃ k : Nat, k ≤ M ∧ i = .int .i64 ((k : Int) - 1) ∧ Own wr W8.heap.size v (L.drop k).reverse ∧ Below W8.heap.size W8 wr) (fun _ i _ => (intOf i + 1).toNat)
    case atStart => exact ⟨M, by omega, rfl, by rw [List.drop_eq_nil_of_le (by rw [HN.out]; omega)]; exact Own.empty _ _ (Nat.le_refl _), (Below.refl _ _).alloc (Nat.le_refl _) _⟩
    case round =>
      obtain ⟨k, hk, rfl, hown, hbr⟩ := hrel
      by_cases hlt : 0 < k
      · obtain ⟨q, rfl⟩ : ∃ q, k = q + 1 := ⟨k - 1, by omega⟩
        obtain ⟨g, off, rfl, hbl, x, hx, hbd, hcx⟩ := hcell q (by omega)
        have hcr := ((hb18.trans (hbr.mono hb18.size)).cell (by exact hbl)).trans hcx
        have hst : Hid ((L.drop (q + 1)).reverse ++ [x] = (L.drop q).reverse) := by
          have := drop_step (xs := L) (k := q) (by rw [HN.out]; omega)
          rw [hx.out] at this
          rw [Hid, this, List.reverse_cons]
        have hlen : Hid ((L.drop (q + 1)).reverse.length < 17592186044415) := by have := HN.out; rw [Hid, List.length_reverse, List.length_drop]; omega
        have hki : (((q + 1 : Nat) : Int) - 1) = (q : Int) := by omega
        rw [hki]
        clear hcell hcx hx hki
        go_wp2_with (at_builtin; refine wpList_app _ rfl _ _ rfl W8.heap.size W8 _ (L.drop (q + 1)).reverse rfl (hown.alloc _) (hbr.alloc hbr.size _) (Nat.le_refl _) ⟨wr.heap.size, 0, none⟩ x rfl (by simp) hbd hlen.out ?_; intro v' w1 hown1 hb1 _; rw [hst.out] at hown1)
        go_roundw
        case rel => exact ⟨q, by omega, by go_num, hown1, hb1⟩
        case measure => first | (simp [intOf]; done) | (simp [intOf]; omega)
      · have hk0 : k = 0 := by omega
        subst hk0
        rw [List.drop_zero] at hown
        have hBr := hB8.trans (hbr.mono hB8.size)
        have hb1r := hb18.trans (hbr.mono hb18.size)
        have hFK : 0 ≤ F - 1 - (K : Int) := by omega
        go_wp2_with fail
        refine (c_i_Factorial _ _).mono ?_
        rintro e w' ⟨rfl, rfl⟩
        rw [hfv.out]
        go_wp2_with fail
        refine (c_i_PermutationAt _ _ _).mono ?_
        rintro e W9 ⟨v9, rfl, ho9, hb9⟩
        rw [HQ.out.2.2] at ho9
        have hB9 := hBr.trans (hb9.mono hBr.size)
        have hb19 := hb1r.trans (hb9.mono hb1r.size)
        obtain ⟨a9, cap9, m9, rfl, HN9, hm9, hc9, hcm9, hcell9⟩ := ho9.rd.open
        obtain rfl : M = m9 := by rw [← HN9.out, List.length_map, HN.out]
        have hRV := Lib.hid (hown.below hb9).rd
        clear hown ho9
        go_wp2
        go_loopw [12, 13, 122] (fun _ _ i wr => ∃ k : Nat, k ≤ M ∧ i = .int .i64 k ∧ Below W9.heap.size W9 wr) (fun _ _ i _ => M - (intOf i).toNat)
        case atStart => exact ⟨0, by omega, rfl, Below.refl _ _⟩
        case round =>
          obtain ⟨k, hk, rfl, hbq⟩ := hrel
          by_cases hlt : k < M
          · obtain ⟨g, off, rfl, hbl, x, hx, hbd, hcx⟩ := hcell k hlt
            obtain ⟨g9, off9, rfl, hbl9, y, hy, hbd9, hcy⟩ := hcell9 k hlt
            have hcr := ((hb19.trans (hbq.mono hb19.size)).cell (by exact hbl)).trans hcx
            have hcr9 := (hbq.cell (by exact hbl9)).trans hcy
            have hxr := hlr.out x (by rw [← hx.out]; exact getD_mem (by rw [HN.out]; exact hlt))
            have hyx : y = (M : Int) - 1 - x := by
              rw [← hy.out, ← hx.out, List.getD_eq_getElem?_getD, List.getElem?_map, List.getD_eq_getElem?_getD, List.getElem?_eq_getElem (by rw [HN.out]; exact hlt)]
              rfl
            subst hyx
            clear hcell hcell9 hcx hcy hx hy
            go_wp2
            go_roundw
            case rel => exact ⟨k + 1, by omega, by go_num, hbq⟩
            case measure => simp [intOf]; omega
          · have hbb := hb19.trans (hbq.mono hb19.size)
            have hBB := hB9.trans (hbq.mono hB9.size)
            clear hcell hcell9
            obtain ⟨hp1, hp2⟩ := HP9.out
            obtain ⟨hq1, hq2⟩ := HMM.out
            go_wp2_with fail
            refine (c_i_CountInversions _ L.reverse _ (hRV.out.below hbq)).mono ?_
            rintro e W10 ⟨rfl, hb10⟩
            rw [HP.out.2.2.2]
            have hbb2 := hbb.trans (hb10.mono hbb.size)
            have hBB2 := hBB.trans (hb10.mono hBB.size)
            go_wp2_with fail
            refine (c_i_CountInversions _ L _ (HO.out.below hbb2)).mono ?_
            rintro e W11 ⟨rfl, hb11⟩
            rw [HP.out.2.2.1]
            have hBB3 := hBB2.trans (hb11.mono hBB2.size)
            have hceq : ((C' + C) == (M : Int) * ((M : Int) - 1) / 2) = true := by rw [HP8.out]; simp
            have hfeq : (F == (M : Int) * F1) = true := by rw [HST.out]; simp
            have hmf : 0 ≤ (M : Int) * F1 ∧ (M : Int) * F1 ≤ 720 := by rw [HST.out]; omega
            obtain ⟨hmf0, hmf1⟩ := hmf
            go_wp2_with fail
            refine (c_i_Factorial _ _).mono ?_
            rintro e w' ⟨rfl, rfl⟩
            rw [hfv.out]
            go_wp2_with fail
            refine (c_i_Factorial _ _).mono ?_
            rintro e w' ⟨rfl, rfl⟩
            rw [hfm.out]
            go_wp2
            go_ret
            exact ⟨ret_b (by first | rfl | simp), hBB3⟩
  · have hle : F ≤ (K : Int) + 1 := by omega
    have hnp : Hid (npB L = false) := by rw [Hid, HQ.out.1]; exact decide_eq_false hlt
    rw [hnp.out]
    clear hlt
    go_wp2_with fail
    refine (c_i_Factorial _ _).mono ?_
    rintro e w' ⟨rfl, rfl⟩
    rw [hfv.out]
    have HO8 := Lib.hid HO7.out
    have hb18 := hb17
    have hB8 := hB7
    obtain ⟨W8, rfl⟩ : ∃ W8, W8 = W7 := ⟨_, rfl⟩
    clear ho7
    go_wp2
    go_loopw [9, 10] (fun v i wr => ∃ k : Nat, k ≤ M ∧ i = .int .i64 ((k : Int) - 1) ∧ Own wr W8.heap.size v (L.drop k).reverse ∧ Below W8.heap.size W8 wr) (fun _ i _ => (intOf i + 1).toNat)
    case atStart => exact ⟨M, by omega, rfl, by rw [List.drop_eq_nil_of_le (by rw [HN.out]; omega)]; exact Own.empty _ _ (Nat.le_refl _), (Below.refl _ _).alloc (Nat.le_refl _) _⟩
    case round =>
      obtain ⟨k, hk, rfl, hown, hbr⟩ := hrel
      by_cases hlt : 0 < k
      · obtain ⟨q, rfl⟩ : ∃ q, k = q + 1 := ⟨k - 1, by omega⟩
        obtain ⟨g, off, rfl, hbl, x, hx, hbd, hcx⟩ := hcell q (by omega)
        have hcr := ((hb18.trans (hbr.mono hb18.size)).cell (by exact hbl)).trans hcx
        have hst : Hid ((L.drop (q + 1)).reverse ++ [x] = (L.drop q).reverse) := by
          have := drop_step (xs := L) (k := q) (by rw [HN.out]; omega)
          rw [hx.out] at this
          rw [Hid, this, List.reverse_cons]
        have hlen : Hid ((L.drop (q + 1)).reverse.length < 17592186044415) := by have := HN.out; rw [Hid, List.length_reverse, List.length_drop]; omega
        have hki : (((q + 1 : Nat) : Int) - 1) = (q : Int) := by omega
        rw [hki]
        clear hcell hcx hx hki
        go_wp2_with (at_builtin; refine wpList_app _ rfl _ _ rfl W8.heap.size W8 _ (L.drop (q + 1)).reverse rfl (hown.alloc _) (hbr.alloc hbr.size _) (Nat.le_refl _) ⟨wr.heap.size, 0, none⟩ x rfl (by simp) hbd hlen.out ?_; intro v' w1 hown1 hb1 _; rw [hst.out] at hown1)
        go_roundw
        case rel => exact ⟨q, by omega, by go_num, hown1, hb1⟩
        case measure => first | (simp [intOf]; done) | (simp [intOf]; omega)
      · have hk0 : k = 0 := by omega
        subst hk0
        rw [List.drop_zero] at hown
        have hBr := hB8.trans (hbr.mono hB8.size)
        have hb1r := hb18.trans (hbr.mono hb18.size)
        have hFK : 0 ≤ F - 1 - (K : Int) := by omega
        go_wp2_with fail
        refine (c_i_Factorial _ _).mono ?_
        rintro e w' ⟨rfl, rfl⟩
        rw [hfv.out]
        go_wp2_with fail
        refine (c_i_PermutationAt _ _ _).mono ?_
        rintro e W9 ⟨v9, rfl, ho9, hb9⟩
        rw [HQ.out.2.2] at ho9
        have hB9 := hBr.trans (hb9.mono hBr.size)
        have hb19 := hb1r.trans (hb9.mono hb1r.size)
        obtain ⟨a9, cap9, m9, rfl, HN9, hm9, hc9, hcm9, hcell9⟩ := ho9.rd.open
        obtain rfl : M = m9 := by rw [← HN9.out, List.length_map, HN.out]
        have hRV := Lib.hid (hown.below hb9).rd
        clear hown ho9
        go_wp2
        go_loopw [12, 13, 122] (fun _ _ i wr => ∃ k : Nat, k ≤ M ∧ i = .int .i64 k ∧ Below W9.heap.size W9 wr) (fun _ _ i _ => M - (intOf i).toNat)
        case atStart => exact ⟨0, by omega, rfl, Below.refl _ _⟩
        case round =>
          obtain ⟨k, hk, rfl, hbq⟩ := hrel
          by_cases hlt : k < M
          · obtain ⟨g, off, rfl, hbl, x, hx, hbd, hcx⟩ := hcell k hlt
            obtain ⟨g9, off9, rfl, hbl9, y, hy, hbd9, hcy⟩ := hcell9 k hlt
            have hcr := ((hb19.trans (hbq.mono hb19.size)).cell (by exact hbl)).trans hcx
            have hcr9 := (hbq.cell (by exact hbl9)).trans hcy
            have hxr := hlr.out x (by rw [← hx.out]; exact getD_mem (by rw [HN.out]; exact hlt))
            have hyx : y = (M : Int) - 1 - x := by
              rw [← hy.out, ← hx.out, List.getD_eq_getElem?_getD, List.getElem?_map, List.getD_eq_getElem?_getD, List.getElem?_eq_getElem (by rw [HN.out]; exact hlt)]
              rfl
            subst hyx
            clear hcell hcell9 hcx hcy hx hy
            go_wp2
            go_roundw
            case rel => exact ⟨k + 1, by omega, by go_num, hbq⟩
            case measure => simp [intOf]; omega
          · have hbb := hb19.trans (hbq.mono hb19.size)
            have hBB := hB9.trans (hbq.mono hB9.size)
            clear hcell hcell9
            obtain ⟨hp1, hp2⟩ := HP9.out
            obtain ⟨hq1, hq2⟩ := HMM.out
            go_wp2_with fail
            refine (c_i_CountInversions _ L.reverse _ (hRV.out.below hbq)).mono ?_
            rintro e W10 ⟨rfl, hb10⟩
            rw [HP.out.2.2.2]
            have hbb2 := hbb.trans (hb10.mono hbb.size)
            have hBB2 := hBB.trans (hb10.mono hBB.size)
            go_wp2_with fail
            refine (c_i_CountInversions _ L _ (HO.out.below hbb2)).mono ?_
            rintro e W11 ⟨rfl, hb11⟩
            rw [HP.out.2.2.1]
            have hBB3 := hBB2.trans (hb11.mono hBB2.size)
            have hceq : ((C' + C) == (M : Int) * ((M : Int) - 1) / 2) = true := by rw [HP8.out]; simp
            have hfeq : (F == (M : Int) * F1) = true := by rw [HST.out]; simp
            have hmf : 0 ≤ (M : Int) * F1 ∧ (M : Int) * F1 ≤ 720 := by rw [HST.out]; omega
            obtain ⟨hmf0, hmf1⟩ := hmf
            go_wp2_with fail
            refine (c_i_Factorial _ _).mono ?_
            rintro e w' ⟨rfl, rfl⟩
            rw [hfv.out]
            go_wp2_with fail
            refine (c_i_Factorial _ _).mono ?_
            rintro e w' ⟨rfl, rfl⟩
            rw [hfm.out]
            go_wp2
            go_ret
            exact ⟨ret_b (by first | rfl | simp), hBB3⟩

/-! ### THE ROW's STEP: WRITTEN OUT: LEAVE IT -/
set_option maxRecDepth 100000 in
theorem lifted (os : Os) (started : os.Started) (H : Type) (enc : TypeId × Value → H) :
    ReturnsInHanded {} Try.checked os 3 .any (Rows.fnPermutationsSpec.pre6 enc Try.prog Try.f3 Rows.fnPermutationsRow.domain false) (Rows.fnPermutationsSpec.post enc Try.prog Try.f3 false true false false) := by
  refine returnsInHanded_of_change (C := Try.checked) own started (by kernel_rfl) Try.func3
    (ChangeSpec.witness6 (enc := enc) (C := Try.checked) false ⟨#[], #[.slice none 0 0], []⟩ 8 (by kernel_rfl) (by kernel_rfl) (by kernel_rfl) (by kernel_rfl)) ?_
  intro W base args ds gs before hval0 hW hcnd _
  have hval : ∀ (j : Nat) t v, Try.f3.params[j]? = some t → args[j]? = some v → Value.okWide Try.prog W .any base t v := hval0
  have hW' := hW
  obtain ⟨p, q, hA0, hV, rfl, hfz, hnd⟩ := hW
  have hA : DataW.TrodAll enc Try.prog W 0 (fun _ => true) true Try.f3.params.toList args.toList ds p := hA0
  rw [Try.params3] at hA hval
  obtain ⟨v0, vs0, d0, ds0, p0, q0, hargs, rfl, rfl, h0, r0⟩ := trodAll_cons hA
  obtain ⟨rfl, rfl, rfl⟩ := trodAll_nil r0
  obtain rfl : args = #[v0] := by cases args; simp_all
  obtain ⟨rfl, rfl⟩ := trodVars_none hV
  obtain ⟨a0, len0, cap0, rfl⟩ := okWide_slice Try.underlying22 (hval 0 22 v0 rfl rfl)
  have k0 := h0
  have lt0 : ∀ x ∈ p0, x.block < W.heap.size := by obtain ⟨m, hm⟩ := k0; exact DataW.trod_lt m _ _ _ hm
  obtain ⟨z0, w0⟩ : ∃ zs, IsRow .u8 W a0 len0 cap0 zs := by
    obtain ⟨fuel, hf⟩ := h0
    rcases open_ints Try.underlying22 Try.underlying5 (by kernel_rfl) hf with ⟨hcs, _⟩ | ⟨x, l, c, zs, hcs, _, hl, hm, hz, _, hcell, hwz⟩
    · simp [Value.cells] at hcs
      obtain ⟨rfl, rfl, rfl⟩ := hcs
      exact ⟨[], .inl ⟨rfl, rfl, rfl, rfl⟩⟩
    · simp [Value.cells] at hcs
      obtain ⟨rfl, rfl, rfl⟩ := hcs
      exact ⟨zs, .inr ⟨_, rfl, hl, hm, by simpa using hz, hcell, hwz⟩⟩
  clear hA0 hval0
  refine (walk a0 len0 cap0 z0 W w0).mono fun e W' ⟨he, bel⟩ => ?_
  subst he
  exact ⟨_, rfl, _, _, _, [], _, [], hW', trodAll_mk1 (shut_bool Try.underlying4 _), (trodAll_cons_mk (Below.trod laidOut (by kernel_rfl) (of_decide_eq_true (by kernel_rfl)) k0 bel lt0) trodAll_mk0), rfl, bel.frame _, fun h => by cases h⟩

/-- The closed facts of the row: what the function reaches is read off the table of calls. -/
theorem jf : joinedFacts Try.prog 3 Try.f3 Rows.fnPermutationsSpec Rows.fnPermutationsRow = true := by
  have e1 : Try.prog.inPlace 3 = Rows.fnPermutationsRow.inPlace := by unfold Program.inPlace; rw [clo]; kernel_rfl
  have e2 : Try.prog.unfollowed 3 = Rows.fnPermutationsRow.unfollowed := by unfold Program.unfollowed; rw [clo]; kernel_rfl
  have e3 : Try.prog.recurses 3 = Rows.fnPermutationsRow.recurses := by unfold Program.recurses; rw [e2]; simp only [clo, leads]; kernel_rfl
  have e4 : Try.prog.varsNamed 3 = Rows.fnPermutationsRow.named := by unfold Program.varsNamed; rw [clo]; kernel_rfl
  unfold joinedFacts
  rw [e1, e2, e3, e4, p_enter, p_lift, p_make, p_plain, p_heard, p_stops, p_knobs, p_laid, p_maps]
  show (_ : Bool) = true
  kernel_rfl

theorem over : Rows.fnPermutationsRow.holds Try.pinned (OpenSpec.ofChange Rows.fnPermutationsSpec) :=
  OpenClaim.holds_of_wide 3 Try.f3 rfl rfl rfl rfl rfl rfl rfl ⟨rfl, rfl, rfl, rfl, rfl⟩ rfl rfl rfl rfl rfl (by kernel_rfl) Try.func3 jf
    (of_decide_eq_true (by kernel_rfl)) (by unfold Func.isWrapper; first | (rw [if_pos (by decide +kernel)]; kernel_rfl) | (rw [if_neg (by decide +kernel)]; exact ⟨rfl, rfl⟩))
    (fun os started H enc _ => lifted os started H enc)

/-- ████ THE STATEMENT ████ -/
theorem proved : Rows.FnPermutationsSaid := over
#print axioms proved
end Go.Proofs.Ytgkijiekfdeggaa.fnPermutations
