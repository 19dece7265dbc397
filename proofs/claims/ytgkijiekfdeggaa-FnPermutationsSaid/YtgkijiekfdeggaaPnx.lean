/- Contracts of NextPermutation, the program's and the reference's. -/
import Derived.Test.YtgkijiekfdeggaaPat
namespace Go.Proofs.Ytgkijiekfdeggaa
open Go.RowKit
open Pl

/-- The permutation behind l, and whether there is one. -/
def npB (l : List Int) : Bool := pmB l && decide (paV (rkV l + 1) l.length ≠ [])
def npL (l : List Int) : List Int := if npB l then paV (rkV l + 1) l.length else []
theorem npL_len (l : List Int) : (npL l).length ≤ 1048576 := by
  unfold npL; split
  · exact paV_len _ _
  · simp
theorem fvV_bound (xs : List Int) : -1 ≤ fvV xs ∧ fvV xs ≤ 40319 := by
  unfold fvV
  split
  · rename_i h
    rw [Bool.and_eq_true] at h
    have h1 := inB_yes h.1
    have h2 := fsum_bound (xs := xs) xs.length (of_decide_eq_true h.2)
    have h3 : ∀ n, n ≤ 8 → fac n ≤ 40320 := by decide
    have := h3 xs.length (by omega)
    omega
  · omega
theorem ret_vbn {v : Value} {c d : Bool} (k : c = d) : Ending.returned (.tuple #[v, .bool c]) = .returned (.tuple #[v, .bool d]) := by rw [k]

set_option maxHeartbeats 400000 in
theorem c_s_NextPermutation (v : Value) (l : List Int) (w : World) (h : Rd w v l) :
    Calls Try.prog 39 #[v] w fun e w' => ∃ v', e = .returned (.tuple #[v', .bool (npB l)]) ∧ Own w' w.heap.size v' (npL l) ∧ Below w.heap.size w w' := by
  obtain ⟨a, cap, n, rfl, HN, hm, hc, hcm, -⟩ := h.open
  have H := Lib.hid h
  clear h
  obtain ⟨hr1, hr2⟩ := fvV_bound (lehV l)
  obtain ⟨r, hr⟩ : ∃ r, rkV l = r := ⟨_, rfl⟩
  change -1 ≤ rkV l at hr1
  change rkV l ≤ 40319 at hr2
  cases e1 : pmB l
  · have hB : Hid (npB l = false) := by simp [Hid, npB, e1]
    have hL : Hid (npL l = []) := by simp [Hid, npL, hB.out]
    clear hr
    go_enter Try.func39, Try.ntmps39
    go_wp2_with (go_at_call 26; refine (c_s_PermutationOk _ l _ H.out).mono ?_; rintro e W1 ⟨rfl, hb⟩; rw [e1])
    go_ret2
    exact ⟨_, ret_vbn hB.out.symm, by rw [hL.out]; exact Own.nil _ _, hb⟩
  · obtain ⟨T, HT⟩ : ∃ T, Hid (paV (r + 1) n = T) := ⟨_, rfl⟩
    rw [hr] at hr1 hr2
    have HR := Lib.hid hr
    clear hr
    by_cases hz : T.length = 0
    · have hB : Hid (npB l = false) := by
        have : T = [] := List.eq_nil_of_length_eq_zero hz
        simp [Hid, npB, HR.out, HN.out, HT.out, this]
      have hL : Hid (npL l = []) := by simp [Hid, npL, hB.out]
      have HZ := Lib.hid hz
      clear hz
      go_enter Try.func39, Try.ntmps39
      go_wp2_with fail
      refine (c_s_PermutationOk _ l _ H.out).mono ?_
      rintro e W1 ⟨rfl, hb⟩
      rw [e1]
      go_wp2_with fail
      refine (c_s_RankOf _ l _ (H.out.below hb)).mono ?_
      rintro e W2 ⟨rfl, hb2⟩
      rw [HR.out]
      go_wp2_with fail
      refine (c_s_PermutationAt _ _ _).mono ?_
      rintro e W3 ⟨v3, rfl, ho3, hb3⟩
      rw [HT.out] at ho3
      obtain ⟨a3, cap3, n3, rfl, HN3, -, -, -⟩ := ho3.open
      obtain rfl : 0 = n3 := by rw [← HN3.out, HZ.out]
      go_wp2
      go_ret2
      exact ⟨_, ret_vbn hB.out.symm, by rw [hL.out]; exact Own.nil _ _, (hb.trans (hb2.mono hb.size)).trans (hb3.mono (Nat.le_trans hb.size hb2.size))⟩
    · have hB : Hid (npB l = true) := by
        have : ¬ T = [] := fun e => hz (by rw [e]; rfl)
        simp [Hid, npB, HR.out, HN.out, HT.out, this, e1]
      have hL : Hid (npL l = T) := by simp [Hid, npL, hB.out, HR.out, HN.out, HT.out]
      have HZ := Lib.hid hz
      clear hz
      go_enter Try.func39, Try.ntmps39
      go_wp2_with fail
      refine (c_s_PermutationOk _ l _ H.out).mono ?_
      rintro e W1 ⟨rfl, hb⟩
      rw [e1]
      go_wp2_with fail
      refine (c_s_RankOf _ l _ (H.out.below hb)).mono ?_
      rintro e W2 ⟨rfl, hb2⟩
      rw [HR.out]
      go_wp2_with fail
      refine (c_s_PermutationAt _ _ _).mono ?_
      rintro e W3 ⟨v3, rfl, ho3, hb3⟩
      rw [HT.out] at ho3
      obtain ⟨a3, cap3, n3, rfl, HN3, -, -, -⟩ := ho3.open
      have hn3 : ((n3 : Int) == 0) = false := by have := HZ.out; rw [HN3.out] at this; simp; omega
      have hs2 := Nat.le_trans hb.size hb2.size
      go_wp2
      go_ret2
      exact ⟨_, ret_vbn hB.out.symm, by rw [hL.out]; exact ho3.mono hs2, (hb.trans (hb2.mono hb.size)).trans (hb3.mono hs2)⟩

set_option maxHeartbeats 400000 in
theorem c_i_NextPermutation (v : Value) (l : List Int) (w : World) (h : Rd w v l) :
    Calls Try.prog 24 #[v] w fun e w' => ∃ v', e = .returned (.tuple #[v', .bool (npB l)]) ∧ Own w' w.heap.size v' (npL l) ∧ Below w.heap.size w w' := by
  have hnil : ∀ (w : World) (a : Option Addr) (n c : Nat), (binOp .eql 23 (.slice a n c) (.slice none 0 0)).run Try.prog w = .ok (.bool a.isNone) w := fun w a n c => Lib.run_eql_slice_nil w _ _ a n c 0 0 Try.underlying23
  obtain ⟨a, cap, n, rfl, HN, hm, hc, hcm, -⟩ := h.open
  have H := Lib.hid h
  clear h
  obtain ⟨hr1, hr2⟩ := fvV_bound (lehV l)
  change -1 ≤ rkV l at hr1
  change rkV l ≤ 40319 at hr2
  obtain ⟨r, hr⟩ : ∃ r, rkV l = r := ⟨_, rfl⟩
  obtain ⟨T, HT⟩ : ∃ T, Hid (paV (r + 1) n = T) := ⟨_, rfl⟩
  rw [hr] at hr1 hr2
  have HR := Lib.hid hr
  clear hr
  have hbk : npB l = (pmB l && decide (T ≠ [])) := by unfold npB; rw [HR.out, HN.out, HT.out]
  by_cases hz : T = []
  · have hB : Hid (npB l = false) := by rw [Hid, hbk]; simp [hz]
    have hL : Hid (npL l = []) := by simp [Hid, npL, hB.out]
    have HZ := Lib.hid hz
    clear hz hbk
    cases e1 : pmB l
    all_goals
      go_enter Try.func24, Try.ntmps24
      go_wp2_with fail
      refine (c_i_RankOf _ l _ H.out).mono ?_
      rintro e W2 ⟨rfl, hb2⟩
      rw [HR.out]
      go_wp2_with fail
      refine (c_i_PermutationAtN _ _ _).mono ?_
      rintro e W3 ⟨v3, rfl, ho3, hv3, hb3⟩
      have hb23 := hb2.trans (hb3.mono hb2.size)
      obtain rfl := hv3 (by rw [HT.out, HZ.out])
      clear hv3
      go_wp2_with (go_at_call 16; refine (c_i_PermutationOk _ l _ (H.out.below hb23)).mono ?_; rintro e w' ⟨rfl, rfl⟩; rw [e1])
      go_ret2
      exact ⟨_, ret_vbn hB.out.symm, by rw [hL.out]; exact Own.nil _ _, hb23⟩
  · cases e1 : pmB l
    · have hB : Hid (npB l = false) := by rw [Hid, hbk, e1]; rfl
      have hL : Hid (npL l = []) := by simp [Hid, npL, hB.out]
      have HZ := Lib.hid hz
      clear hz hbk
      go_enter Try.func24, Try.ntmps24
      go_wp2_with fail
      refine (c_i_RankOf _ l _ H.out).mono ?_
      rintro e W2 ⟨rfl, hb2⟩
      rw [HR.out]
      go_wp2_with fail
      refine (c_i_PermutationAtN _ _ _).mono ?_
      rintro e W3 ⟨v3, rfl, ho3, hv3, hb3⟩
      have hb23 := hb2.trans (hb3.mono hb2.size)
      clear hv3
      go_wp2_with (go_at_call 16; refine (c_i_PermutationOk _ l _ (H.out.below hb23)).mono ?_; rintro e w' ⟨rfl, rfl⟩; rw [e1])
      go_ret2
      exact ⟨_, ret_vbn hB.out.symm, by rw [hL.out]; exact Own.nil _ _, hb23⟩
    · have hB : Hid (npB l = true) := by rw [Hid, hbk, e1]; simp [hz]
      have hL : Hid (npL l = T) := by simp [Hid, npL, hB.out, HR.out, HN.out, HT.out]
      have HZ := Lib.hid hz
      clear hz hbk
      go_enter Try.func24, Try.ntmps24
      go_wp2_with fail
      refine (c_i_RankOf _ l _ H.out).mono ?_
      rintro e W2 ⟨rfl, hb2⟩
      rw [HR.out]
      go_wp2_with fail
      refine (c_i_PermutationAtN _ _ _).mono ?_
      rintro e W3 ⟨v3, rfl, ho3, hv3, hb3⟩
      have hb23 := hb2.trans (hb3.mono hb2.size)
      clear hv3
      rw [HT.out] at ho3
      obtain ⟨a3, cap3, n3, rfl, HN3, -, -, hcell3⟩ := ho3.open
      obtain ⟨g3, rfl, -, -⟩ := hcell3 0 (by
        rw [← HN3.out]
        exact Nat.pos_of_ne_zero fun e => HZ.out (List.eq_nil_of_length_eq_zero e))
      clear hcell3
      go_wp2_with (go_at_call 16; refine (c_i_PermutationOk _ l _ (H.out.below hb23)).mono ?_; rintro e w' ⟨rfl, rfl⟩; rw [e1])
      go_ret2
      exact ⟨_, ret_vbn hB.out.symm, by rw [hL.out]; exact ho3.mono hb2.size, hb23⟩

end Go.Proofs.Ytgkijiekfdeggaa
