/- Contracts of RankOf and CountInversions, the program's and the reference's. -/
import Derived.Test.YtgkijiekfdeggaaLeh
namespace Go.Proofs.Ytgkijiekfdeggaa
open Go.RowKit
open Pl

theorem cntL_len (x : Int) (l : List Int) : cntL x l ≤ l.length := by
  have := cntL_le x l l.length
  rwa [List.take_length] at this
theorem leh_range : ∀ l : List Int, ∀ x ∈ leh l, 0 ≤ x ∧ x ≤ l.length := by
  intro l
  induction l with
  | nil => intro x hx; simp [leh] at hx
  | cons y l ih =>
    intro x hx
    rcases List.mem_append.1 hx with h | h
    · have := ih x h; simp; omega
    · simp at h
      have := cntL_len y l
      simp; omega

/-- The rank, or -1; the number of inversions, or -1. -/
def rkV (l : List Int) : Int := fvV (lehV l)
def ciV (l : List Int) : Int := if pmB l then sumL (leh l) else -1

theorem c_i_RankOf (v : Value) (l : List Int) (w : World) (h : Rd w v l) :
    Calls Try.prog 14 #[v] w fun e w' => e = .returned (.int .i64 (rkV l)) ∧ Below w.heap.size w w' := by
  have H := Lib.hid h
  clear h
  go_enter Try.func14, Try.ntmps14
  go_wp2_with fail
  refine (c_i_LehmerOf _ l _ H.out).mono ?_
  rintro e W1 ⟨v', rfl, ho, hb⟩
  go_wp2_with fail
  refine (c_i_FactorialValue _ _ _ ho.rd).mono ?_
  rintro e w' ⟨rfl, rfl⟩
  go_wp2
  go_ret
  exact ⟨rfl, hb⟩

theorem c_s_RankOf (v : Value) (l : List Int) (w : World) (h : Rd w v l) :
    Calls Try.prog 38 #[v] w fun e w' => e = .returned (.int .i64 (rkV l)) ∧ Below w.heap.size w w' := by
  have H := Lib.hid h
  clear h
  cases e1 : pmB l
  · have hV : Hid (rkV l = -1) := by simp [Hid, rkV, lehV, e1, fvV, inB]
    go_enter Try.func38, Try.ntmps38
    go_wp2_with (go_at_call 26; refine (c_s_PermutationOk _ l _ H.out).mono ?_; rintro e W1 ⟨rfl, hb⟩)
    go_ret
    exact ⟨ret_i hV.out.symm, hb⟩
  · have hV : Hid (rkV l = fvV (leh l)) := by simp [Hid, rkV, lehV, e1]
    have hl : Hid (l.length ≤ 8) := (pm_len e1).2
    go_enter Try.func38, Try.ntmps38
    go_wp2_with (first | (go_at_call 26; refine (c_s_PermutationOk _ l _ H.out).mono ?_; rintro e W1 ⟨rfl, hb⟩) | (go_at_call 48; refine (c_s_l08Lehmer _ l _ (H.out.below hb) hl).mono ?_; rintro e W2 ⟨v', rfl, ho, hb2⟩) | (go_at_call 33; refine (c_s_FactorialValue _ _ _ ho.rd).mono ?_; rintro e w' ⟨rfl, rfl⟩))
    go_ret
    exact ⟨ret_i hV.out.symm, hb.trans (hb2.mono hb.size)⟩

theorem c_s_CountInversions (v : Value) (l : List Int) (w : World) (h : Rd w v l) :
    Calls Try.prog 36 #[v] w fun e w' => e = .returned (.int .i64 (ciV l)) ∧ Below w.heap.size w w' := by
  have H := Lib.hid h
  clear h
  cases e1 : pmB l
  · have hV : Hid (ciV l = -1) := by simp [Hid, ciV, e1]
    go_enter Try.func36, Try.ntmps36
    go_wp2_with (go_at_call 26; refine (c_s_PermutationOk _ l _ H.out).mono ?_; rintro e W1 ⟨rfl, hb⟩)
    go_ret
    exact ⟨ret_i hV.out.symm, hb⟩
  · have hV : Hid (ciV l = sumL (leh l)) := by simp [Hid, ciV, e1]
    have hl : Hid (l.length ≤ 8) := (pm_len e1).2
    have hll : Hid ((leh l).length ≤ 1048576) := by have := (pm_len e1).2; show _ ≤ _; rw [leh_len]; omega
    have hr : Hid (∀ x ∈ leh l, 0 ≤ x ∧ x ≤ 8) := fun x hx => by have := leh_range l x hx; have := (pm_len e1).2; omega
    go_enter Try.func36, Try.ntmps36
    go_wp2_with (first | (go_at_call 26; refine (c_s_PermutationOk _ l _ H.out).mono ?_; rintro e W1 ⟨rfl, hb⟩) | (go_at_call 48; refine (c_s_l08Lehmer _ l _ (H.out.below hb) hl).mono ?_; rintro e W2 ⟨v', rfl, ho, hb2⟩) | (go_at_call 49; refine (c_s_l02Sum _ (leh l) 8 _ ho.rd hll (by omega) (by omega) hr).mono ?_; rintro e w' ⟨rfl, rfl⟩))
    go_ret
    exact ⟨ret_i hV.out.symm, hb.trans (hb2.mono hb.size)⟩

theorem c_i_CountInversions (v : Value) (l : List Int) (w : World) (h : Rd w v l) :
    Calls Try.prog 23 #[v] w fun e w' => e = .returned (.int .i64 (ciV l)) ∧ Below w.heap.size w w' := by
  have H := Lib.hid h
  clear h
  cases e1 : pmB l
  · have hV : Hid (ciV l = -1) := by simp [Hid, ciV, e1]
    go_enter Try.func23, Try.ntmps23
    go_wp2_with (go_at_call 16; refine (c_i_PermutationOk _ l _ H.out).mono ?_; rintro e w' ⟨rfl, rfl⟩)
    go_ret
    exact ⟨ret_i hV.out.symm, Below.refl _ _⟩
  · have hV : Hid (ciV l = sumL (leh l)) := by simp [Hid, ciV, e1]
    have hLV : lehV l = leh l := by simp [lehV, e1]
    have hll : Hid ((leh l).length ≤ 1048576) := by have := (pm_len e1).2; show _ ≤ _; rw [leh_len]; omega
    have hr : Hid (∀ x ∈ leh l, 0 ≤ x ∧ x ≤ 8) := fun x hx => by have := leh_range l x hx; have := (pm_len e1).2; omega
    have HL := Lib.hid hLV
    clear hLV
    go_enter Try.func23, Try.ntmps23
    go_wp2_with (first | (go_at_call 16; refine (c_i_PermutationOk _ l _ H.out).mono ?_; rintro e w' ⟨rfl, rfl⟩) | (go_at_call 15; refine (c_i_LehmerOf _ l _ H.out).mono ?_; rintro e W2 ⟨v', rfl, ho, hb2⟩; rw [HL.out] at ho) | (go_at_call 45; refine (c_i_sumOf _ (leh l) 8 _ ho.rd hll (by omega) (by omega) hr).mono ?_; rintro e w' ⟨rfl, rfl⟩))
    go_ret
    exact ⟨ret_i hV.out.symm, hb2⟩

end Go.Proofs.Ytgkijiekfdeggaa
