/- Contracts of ValueOf, DigitSum, WeightOf and IsSparse. -/
import Derived.Test.YtdffcgfllpeppaaOk
import Derived.Test.YtdffcgfllpeppaaNeg
import Derived.Test.YtdffcgfllpeppaaDig
namespace Go.Proofs.Ytdffcgfllpeppaa
open Go.RowKit
open Pl

/-- The number with these digits. -/
def hv (b : Int) (l : List Int) : Int := l.foldr (fun d n => n * b + d) 0

theorem hv_drop {b : Int} {xs : List Int} {k : Nat} (h : k < xs.length) : hv b (xs.drop k) = hv b (xs.drop (k + 1)) * b + xs.getD k 0 := by
  rw [drop_step h]; rfl

theorem hv_pos {b : Int} (hb : 0 ≤ b) : ∀ l : List Int, (∀ x ∈ l, 0 ≤ x) → 0 ≤ hv b l := by
  intro l
  induction l with
  | nil => intro _; simp [hv]
  | cons d l ih =>
    intro h
    have h1 := ih fun x hx => h x (List.mem_cons_of_mem _ hx)
    have h2 := Int.mul_nonneg h1 hb
    have h3 := h d (List.mem_cons_self ..)
    show 0 ≤ hv b l * b + d
    omega

theorem hv_mono {b : Int} (hb : 1 ≤ b) : ∀ (l : List Int) (k : Nat), (∀ x ∈ l, 0 ≤ x) → hv b (l.drop k) ≤ hv b l := by
  intro l
  induction l with
  | nil => intro k _; simp
  | cons d l ih =>
    intro k h
    cases k with
    | zero => exact Int.le_refl _
    | succ k =>
      have h1 := ih k fun x hx => h x (List.mem_cons_of_mem _ hx)
      have h0 := hv_pos (b := b) (by omega) l fun x hx => h x (List.mem_cons_of_mem _ hx)
      have h2 := Int.mul_le_mul_of_nonneg_left hb h0
      have h3 := h d (List.mem_cons_self ..)
      show hv b (l.drop k) ≤ hv b l * b + d
      omega

/-- The value of digits where it is one, and whether it is. -/
def vlB (xs : List Int) (b : Int) : Bool := dokB xs b && decide (hv b xs ≤ 1000000000000)
def vlN (xs : List Int) (b : Int) : Int := if vlB xs b then hv b xs else 0

theorem ret_ib {a b : Int} {c d : Bool} (h : a = b) (k : c = d) : Ending.returned (.tuple #[.int .i64 a, .bool c]) = .returned (.tuple #[.int .i64 b, .bool d]) := by rw [h, k]

/-- The value, or -1. -/
def vl0 (b : Int) (xs : List Int) : Int := if hv b xs ≤ 1000000000000 then hv b xs else -1
theorem vl0_yes {b : Int} {xs : List Int} (h : hv b xs ≤ 1000000000000) : vl0 b xs = hv b xs := if_pos h
theorem vl0_no {b : Int} {xs : List Int} (h : ¬ hv b xs ≤ 1000000000000) : vl0 b xs = -1 := if_neg h

set_option maxHeartbeats 400000 in
theorem c_s_l02Value (v : Value) (xs : List Int) (b : Int) (w : World) (h : Rd w v xs) (hb1 : 1 ≤ b) (hb2 : b ≤ 16) (hd : Hid (∀ x ∈ xs, 0 ≤ x ∧ x ≤ 15)) :
    Calls Try.prog 73 #[v, .int .i64 b] w fun e w' => e = .returned (.int .i64 (vl0 b xs)) ∧ w = w' := by
  obtain ⟨a, cap, n, rfl, HN, hm, hc, hcm, hcell⟩ := h.open
  go_enter Try.func73, Try.ntmps73
  go_wp2
  go_loop [5, 6] (fun s i => ∃ m : Nat, m ≤ n ∧ i = .int .i64 ((m : Int) - 1) ∧ s = .int .i64 (hv b (xs.drop m)) ∧ 0 ≤ hv b (xs.drop m) ∧ hv b (xs.drop m) ≤ 1000000000000) (fun _ i => (intOf i + 1).toNat)
  case atStart => exact ⟨n, by omega, rfl, by rw [List.drop_eq_nil_of_le (by rw [HN.out]; omega)]; rfl, by rw [List.drop_eq_nil_of_le (by rw [HN.out]; omega)]; simp [hv], by rw [List.drop_eq_nil_of_le (by rw [HN.out]; omega)]; simp [hv]⟩
  case round =>
    obtain ⟨m, hk, rfl, rfl, p0, p1⟩ := hrel
    by_cases hlt : 0 < m
    · obtain ⟨g, off, rfl, hbl, x, hx, hbd, hcx⟩ := hcell (m - 1) (by omega)
      have hs := hv_drop (b := b) (xs := xs) (k := m - 1) (by rw [HN.out]; omega)
      rw [hx.out, show m - 1 + 1 = m from by omega] at hs
      have hxx := hd.out x (by rw [← hx.out]; exact getD_mem (by rw [HN.out]; omega))
      have hix : ((m : Int) - 1).toNat = m - 1 := by omega
      have hm1 : hv b (xs.drop m) * b ≤ 1000000000000 * 16 := Int.mul_le_mul p1 hb2 (by omega) (by omega)
      have hm0 : 0 ≤ hv b (xs.drop m) * b := Int.mul_nonneg p0 (by omega)
      by_cases hle : hv b (xs.drop m) * b + x ≤ 1000000000000
      · have HS := Lib.hid hs
        clear hs hx hcell
        go_wp2
        go_round
        case rel => exact ⟨m - 1, by omega, by go_num, by rw [HS.out], by rw [HS.out]; omega, by rw [HS.out]; omega⟩
        case measure => simp [intOf]; omega
      · have hfin : Hid (vl0 b xs = -1) := by
          have hmono := hv_mono (b := b) hb1 xs (m - 1) fun x hx => (hd.out x hx).1
          rw [hs] at hmono
          exact vl0_no (by omega)
        have hle' : 1000000000000 < hv b (xs.drop m) * b + x := by omega
        clear hs hx hcell hle
        go_wp2
        go_ret
        exact ⟨ret_i hfin.out.symm, rfl⟩
    · have hm0 : m = 0 := by omega
      subst hm0
      have hfin : Hid (vl0 b xs = hv b (xs.drop 0)) := by
        rw [List.drop_zero] at p1 ⊢
        exact vl0_yes p1
      clear hcell
      go_wp2
      go_ret
      exact ⟨ret_i hfin.out.symm, rfl⟩

theorem dok_of {xs : List Int} {b : Int} (h : dokB xs b = true) : (2 ≤ b ∧ b ≤ 16) ∧ xs.length ≤ 60 ∧ ∀ x ∈ xs, 0 ≤ x ∧ x ≤ b - 1 := by
  unfold dokB at h
  rw [Bool.and_eq_true, Bool.and_eq_true] at h
  exact ⟨inB_yes h.1, endB_len h.2.1, allB_of h.2.2⟩

set_option maxHeartbeats 400000 in
theorem c_s_ValueOf (v : Value) (xs : List Int) (b : Int) (w : World) (h : Rd w v xs) :
    Calls Try.prog 43 #[v, .int .i64 b] w fun e w' => e = .returned (.tuple #[.int .i64 (vlN xs b), .bool (vlB xs b)]) ∧ Below w.heap.size w w' := by
  have H := Lib.hid h
  clear h
  cases e1 : dokB xs b
  · have hB : Hid (vlB xs b = false) := by simp [Hid, vlB, e1]
    have hN : Hid (vlN xs b = 0) := by simp [Hid, vlN, hB.out]
    go_enter Try.func43, Try.ntmps43
    go_wp2_with (go_at_call 31; refine (c_s_DigitsOk _ xs _ _ H.out).mono ?_; rintro e w' ⟨rfl, rfl⟩)
    go_ret2
    exact ⟨ret_ib hN.out.symm hB.out.symm, Below.refl _ _⟩
  · have hd := dok_of e1
    have hd1 := hd.1
    have hd2 : Hid (∀ x ∈ xs, 0 ≤ x ∧ x ≤ 15) := fun x hx => by have := hd.2.2 x hx; omega
    clear hd
    by_cases hle : hv b xs ≤ 1000000000000
    · have hB : Hid (vlB xs b = true) := by simp [Hid, vlB, e1, hle]
      have hN : Hid (vlN xs b = hv b xs) := by simp [Hid, vlN, hB.out]
      have hp := hv_pos (b := b) (by omega) xs fun x hx => (hd2.out x hx).1
      have HX : Hid (vl0 b xs = hv b xs) := vl0_yes hle
      go_enter Try.func43, Try.ntmps43
      go_wp2_with (first | (go_at_call 31; refine (c_s_DigitsOk _ xs _ _ H.out).mono ?_; rintro e w' ⟨rfl, rfl⟩) | (go_at_call 73; refine (c_s_l02Value _ xs _ _ H.out (by omega) (by omega) hd2).mono ?_; rintro e w' ⟨rfl, rfl⟩; rw [HX.out]))
      go_ret2
      exact ⟨ret_ib hN.out.symm hB.out.symm, Below.refl _ _⟩
    · have hB : Hid (vlB xs b = false) := by simp [Hid, vlB, hle]
      have hN : Hid (vlN xs b = 0) := by simp [Hid, vlN, hB.out]
      have HX : Hid (vl0 b xs = -1) := vl0_no hle
      clear hle
      go_enter Try.func43, Try.ntmps43
      go_wp2_with (first | (go_at_call 31; refine (c_s_DigitsOk _ xs _ _ H.out).mono ?_; rintro e w' ⟨rfl, rfl⟩) | (go_at_call 73; refine (c_s_l02Value _ xs _ _ H.out (by omega) (by omega) hd2).mono ?_; rintro e w' ⟨rfl, rfl⟩; rw [HX.out]))
      go_ret2
      exact ⟨ret_ib hN.out.symm hB.out.symm, Below.refl _ _⟩

set_option maxHeartbeats 800000 in
theorem c_i_ValueOf (v : Value) (xs : List Int) (b : Int) (w : World) (h : Rd w v xs) :
    Calls Try.prog 44 #[v, .int .i64 b] w fun e w' => e = .returned (.tuple #[.int .i64 (vlN xs b), .bool (vlB xs b)]) ∧ Below w.heap.size w w' := by
  obtain ⟨a, cap, n, rfl, HN, hm, hc, hcm, hcell⟩ := h.open
  have H := Lib.hid h
  clear h
  cases e1 : dokB xs b
  · have hB : Hid (vlB xs b = false) := by simp [Hid, vlB, e1]
    have hN : Hid (vlN xs b = 0) := by simp [Hid, vlN, hB.out]
    clear hcell
    go_enter Try.func44, Try.ntmps44
    go_wp2_with (go_at_call 32; refine (c_i_DigitsOk _ xs _ _ H.out).mono ?_; rintro e w' ⟨rfl, hb⟩)
    go_ret2
    exact ⟨ret_ib hN.out.symm hB.out.symm, hb⟩
  · have hd := dok_of e1
    have hd1 := hd.1
    have hd2 : Hid (∀ x ∈ xs, 0 ≤ x ∧ x ≤ 15) := fun x hx => by have := hd.2.2 x hx; omega
    clear hd
    go_enter Try.func44, Try.ntmps44
    go_wp2_with (go_at_call 32; refine (c_i_DigitsOk _ xs _ _ H.out).mono ?_; rintro e W1 ⟨rfl, hb⟩)
    go_loop [6, 7] (fun s i => ∃ m : Nat, m ≤ n ∧ i = .int .i64 ((m : Int) - 1) ∧ s = .int .i64 (hv b (xs.drop m)) ∧ 0 ≤ hv b (xs.drop m) ∧ hv b (xs.drop m) ≤ 1000000000000) (fun _ i => (intOf i + 1).toNat)
    case atStart => exact ⟨n, by omega, rfl, by rw [List.drop_eq_nil_of_le (by rw [HN.out]; omega)]; rfl, by rw [List.drop_eq_nil_of_le (by rw [HN.out]; omega)]; simp [hv], by rw [List.drop_eq_nil_of_le (by rw [HN.out]; omega)]; simp [hv]⟩
    case round =>
      obtain ⟨m, hk, rfl, rfl, p0, p1⟩ := hrel
      by_cases hlt : 0 < m
      · obtain ⟨g, off, rfl, hbl, x, hx, hbd, hcx⟩ := hcell (m - 1) (by omega)
        have hcr : W1.cell? ⟨g, off + (m - 1), none⟩ = some (.int .i64 x) := (hb.cell (by exact hbl)).trans hcx
        have hs := hv_drop (b := b) (xs := xs) (k := m - 1) (by rw [HN.out]; omega)
        rw [hx.out, show m - 1 + 1 = m from by omega] at hs
        have hxx := hd2.out x (by rw [← hx.out]; exact getD_mem (by rw [HN.out]; omega))
        have hix : ((m : Int) - 1).toNat = m - 1 := by omega
        have hm1 : hv b (xs.drop m) * b ≤ 1000000000000 * 16 := Int.mul_le_mul p1 (by omega) (by omega) (by omega)
        have hm0 : 0 ≤ hv b (xs.drop m) * b := Int.mul_nonneg p0 (by omega)
        by_cases hle : hv b (xs.drop m) * b + x ≤ 1000000000000
        · have HS := Lib.hid hs
          clear hs hx hcell hcx
          go_wp2
          go_round
          case rel => exact ⟨m - 1, by omega, by go_num, by rw [HS.out], by rw [HS.out]; omega, by rw [HS.out]; omega⟩
          case measure => simp [intOf]; omega
        · have hno : ¬ hv b xs ≤ 1000000000000 := by
            have hmono := hv_mono (b := b) (by omega) xs (m - 1) fun x hx => (hd2.out x hx).1
            rw [hs] at hmono
            omega
          have hB : Hid (vlB xs b = false) := by simp [Hid, vlB, hno]
          have hN : Hid (vlN xs b = 0) := by simp [Hid, vlN, hB.out]
          have hle' : 1000000000000 < hv b (xs.drop m) * b + x := by omega
          clear hs hx hcell hle hcx hno
          go_wp2
          go_ret2
          exact ⟨ret_ib hN.out.symm hB.out.symm, hb⟩
      · have hm0 : m = 0 := by omega
        subst hm0
        have hB : Hid (vlB xs b = true) := by
          rw [List.drop_zero] at p1
          simp [Hid, vlB, e1, p1]
        have hN : Hid (vlN xs b = hv b (xs.drop 0)) := by
          rw [List.drop_zero]
          simp [Hid, vlN, hB.out]
        clear hcell
        go_wp2
        go_ret2
        exact ⟨ret_ib hN.out.symm hB.out.symm, hb⟩

/-- The sum of the digits, or -1. -/
def dsV (n b : Int) : Int := if inB n 0 1000000000000 && inB b 2 16 then sumL (digs b.toNat n.toNat) else -1

theorem c_s_DigitSum (n b : Int) (w : World) :
    Calls Try.prog 27 #[.int .i64 n, .int .i64 b] w fun e w' => e = .returned (.int .i64 (dsV n b)) ∧ Below w.heap.size w w' := by
  cases e1 : inB n 0 1000000000000 <;> cases e2 : inB b 2 16
  case true.true =>
    have g1 := inB_yes e1
    have g2 := inB_yes e2
    obtain ⟨n, rfl⟩ := Int.eq_ofNat_of_zero_le g1.1
    obtain ⟨b, rfl⟩ := Int.eq_ofNat_of_zero_le (show 0 ≤ b by omega)
    have hl : Hid ((digs b n).length ≤ 1048576) := by have := digs40 n b (by omega) (by omega); show _ ≤ _; omega
    have hr : Hid (∀ x ∈ digs b n, 0 ≤ x ∧ x ≤ 16) := fun x hx => by have := digs_range b (by omega) n x hx; omega
    go_enter Try.func27, Try.ntmps27
    go_wp2_with (first | (go_at_call 61; refine (c_s_l02Ok _ _ _).mono ?_; rintro e w' ⟨rfl, rfl⟩) | (go_at_call 63; refine (c_s_l02Digits n b _ (by omega) (by omega) (by omega)).mono ?_; rintro e w1 ⟨v, rfl, hown, hbl⟩) | (go_at_call 62; refine (c_s_l02Sum _ (digs b n) 16 _ hown.rd hl (by omega) (by omega) hr).mono ?_; rintro e w' ⟨rfl, rfl⟩))
    go_ret
    exact ⟨ret_i (by simp [dsV, e1, e2]), hbl⟩
  all_goals
    go_enter Try.func27, Try.ntmps27
    go_wp2_with (first | (go_at_call 61; refine (c_s_l02Ok _ _ _).mono ?_; rintro e w' ⟨rfl, rfl⟩))
    go_ret
    exact ⟨ret_i (by simp [dsV, e1, e2]), Below.refl _ _⟩

theorem c_i_DigitSum (n b : Int) (w : World) :
    Calls Try.prog 28 #[.int .i64 n, .int .i64 b] w fun e w' => e = .returned (.int .i64 (dsV n b)) ∧ Below w.heap.size w w' := by
  cases e1 : inB n 0 1000000000000 <;> cases e2 : inB b 2 16
  case true.true =>
    have g1 := inB_yes e1
    have g2 := inB_yes e2
    obtain ⟨n, rfl⟩ := Int.eq_ofNat_of_zero_le g1.1
    obtain ⟨b, rfl⟩ := Int.eq_ofNat_of_zero_le (show 0 ≤ b by omega)
    have hl : Hid ((digs b n).length ≤ 1048576) := by have := digs40 n b (by omega) (by omega); show _ ≤ _; omega
    have hr : Hid (∀ x ∈ digs b n, 0 ≤ x ∧ x ≤ 16) := fun x hx => by have := digs_range b (by omega) n x hx; omega
    go_enter Try.func28, Try.ntmps28
    go_wp2_with (first | (go_at_call 64; refine (c_i_isNumber _ _).mono ?_; rintro e w' ⟨rfl, rfl⟩) | (go_at_call 56; refine (c_i_BaseOk _ _).mono ?_; rintro e w' ⟨rfl, rfl⟩) | (go_at_call 66; refine (c_i_digitsOf n b _ (by omega) (by omega) (by omega)).mono ?_; rintro e w1 ⟨v, rfl, hown, hbl⟩) | (go_at_call 65; refine (c_i_sumOf _ (digs b n) 16 _ hown.rd hl (by omega) (by omega) hr).mono ?_; rintro e w' ⟨rfl, rfl⟩))
    go_ret
    exact ⟨ret_i (by simp [dsV, e1, e2]), hbl⟩
  all_goals
    go_enter Try.func28, Try.ntmps28
    go_wp2_with (first | (go_at_call 64; refine (c_i_isNumber _ _).mono ?_; rintro e w' ⟨rfl, rfl⟩) | (go_at_call 56; refine (c_i_BaseOk _ _).mono ?_; rintro e w' ⟨rfl, rfl⟩))
    go_ret
    exact ⟨ret_i (by simp [dsV, e1, e2]), Below.refl _ _⟩

/-- The weight, or -1. -/
def wtV (xs : List Int) : Int := if sokB xs then wgt xs else -1

theorem c_s_WeightOf (v : Value) (xs : List Int) (w : World) (h : Rd w v xs) :
    Calls Try.prog 37 #[v] w fun e w' => e = .returned (.int .i64 (wtV xs)) ∧ Below w.heap.size w w' := by
  have H := Lib.hid h
  clear h
  cases e1 : sokB xs
  all_goals
    go_enter Try.func37, Try.ntmps37
    go_wp2_with (first | (go_at_call 25; refine (c_s_SignedOk _ xs _ H.out).mono ?_; rintro e w' ⟨rfl, rfl⟩) | (go_at_call 70; refine (c_s_l06Weight _ xs _ H.out).mono ?_; rintro e w' ⟨rfl, rfl⟩))
    go_ret
    exact ⟨ret_i (by simp [wtV, e1]), Below.refl _ _⟩

theorem c_i_WeightOf (v : Value) (xs : List Int) (w : World) (h : Rd w v xs) :
    Calls Try.prog 38 #[v] w fun e w' => e = .returned (.int .i64 (wtV xs)) ∧ Below w.heap.size w w' := by
  have H := Lib.hid h
  clear h
  cases e1 : sokB xs
  all_goals
    go_enter Try.func38, Try.ntmps38
    go_wp2_with (first | (go_at_call 26; refine (c_i_SignedOk _ xs _ H.out).mono ?_; rintro e W1 ⟨rfl, hb⟩) | (go_at_call 71; refine (c_i_weight _ xs _ (H.out.below hb)).mono ?_; rintro e w' ⟨rfl, rfl⟩))
    go_ret
    exact ⟨ret_i (by simp [wtV, e1]), hb⟩

/-- No two digits that follow each other are both not 0. -/
def sprP (xs : List Int) : Prop := ∀ j, j < xs.length → 0 < j → ¬ (xs.getD j 0 ≠ 0 ∧ xs.getD (j - 1) 0 ≠ 0)
instance (xs : List Int) : Decidable (sprP xs) := by unfold sprP; infer_instance
def sprB (xs : List Int) : Bool := sokB xs && decide (sprP xs)

set_option maxHeartbeats 800000 in
theorem c_s_IsSparse (v : Value) (xs : List Int) (w : World) (h : Rd w v xs) :
    Calls Try.prog 35 #[v] w fun e w' => e = .returned (.bool (sprB xs)) ∧ Below w.heap.size w w' := by
  obtain ⟨a, cap, n, rfl, HN, hm, hc, hcm, hcell⟩ := h.open
  have H := Lib.hid h
  clear h
  cases e1 : sokB xs
  · clear hcell
    go_enter Try.func35, Try.ntmps35
    go_wp2_with (go_at_call 25; refine (c_s_SignedOk _ xs _ H.out).mono ?_; rintro e w' ⟨rfl, rfl⟩)
    go_ret
    exact ⟨ret_b (by simp [sprB, e1]), Below.refl _ _⟩
  · have hV : Hid (sprB xs = decide (sprP xs)) := by simp [Hid, sprB, e1]
    have hn60 : n ≤ 60 := by
      have := e1
      unfold sokB at this
      rw [Bool.and_eq_true] at this
      rw [← HN.out]; exact endB_len this.1
    go_enter Try.func35, Try.ntmps35
    go_wp2_with (go_at_call 25; refine (c_s_SignedOk _ xs _ H.out).mono ?_; rintro e w' ⟨rfl, rfl⟩)
    go_loop [3, 4, 10] (fun _ _ i => ∃ k : Nat, 0 ≤ k ∧ k ≤ max 0 n ∧ i = .int .i64 k ∧ Hid (∀ j, j < k → 0 < j → ¬ (xs.getD j 0 ≠ 0 ∧ xs.getD (j - 1) 0 ≠ 0))) (fun _ _ i => n - (intOf i).toNat)
    case atStart => exact ⟨0, by omega, by omega, rfl, fun j hj h0 => by omega⟩
    case round =>
      obtain ⟨k, hk0, hk, rfl, hr⟩ := hrel
      by_cases hlt : k < n
      · obtain ⟨g, off, rfl, hbl, x, hx, hbd, hcx⟩ := hcell k hlt
        by_cases hkz : k = 0
        · subst hkz
          have hr2 : Hid (∀ j, j < 0 + 1 → 0 < j → ¬ (xs.getD j 0 ≠ 0 ∧ xs.getD (j - 1) 0 ≠ 0)) := fun j hj h0 => by omega
          rw [Nat.add_zero] at hcx
          clear hr hx hcell
          go_wp2
          go_round
          case rel => exact ⟨1, by omega, by omega, rfl, hr2⟩
          case measure => simp [intOf]; omega
        · obtain ⟨g', off', hbo, hbl', y, hy, hbd', hcy⟩ := hcell (k - 1) (by omega)
          cases hbo
          have hkp : (0 : Int) < (k : Int) := by omega
          have hix : ((k : Int) - 1).toNat = k - 1 := by omega
          cases hxz : (x != 0) <;> cases hyz : (y != 0)
          case true.true =>
            have hfin : Hid (sprB xs = false) := by
              rw [hV.out]
              exact decide_eq_false fun hs => hs k (by rw [HN.out]; exact hlt) (by omega) ⟨by rw [hx.out]; simpa using hxz, by rw [hy.out]; simpa using hyz⟩
            clear hr hx hy hcell hkz
            go_wp2
            go_ret
            exact ⟨ret_b hfin.out.symm, Below.refl _ _⟩
          all_goals
            have hr2 : Hid (∀ j, j < k + 1 → 0 < j → ¬ (xs.getD j 0 ≠ 0 ∧ xs.getD (j - 1) 0 ≠ 0)) := by
              refine all_up hr.out fun _ hn => ?_
              rw [hx.out, hy.out] at hn
              first
                | exact absurd hn.1 (by simpa using hxz)
                | exact absurd hn.2 (by simpa using hyz)
            clear hr hx hy hcell hkz
            go_wp2
            go_round
            case rel => exact ⟨k + 1, by omega, by omega, by go_num, hr2⟩
            case measure => simp [intOf]; omega
      · have hfin : Hid (sprB xs = true) := by
          rw [hV.out]
          exact decide_eq_true fun j hj h0 => hr.out j (by rw [HN.out] at hj; omega) h0
        clear hr hcell
        go_wp2
        go_ret
        exact ⟨ret_b hfin.out.symm, Below.refl _ _⟩

set_option maxHeartbeats 800000 in
theorem c_i_IsSparse (v : Value) (xs : List Int) (w : World) (h : Rd w v xs) :
    Calls Try.prog 36 #[v] w fun e w' => e = .returned (.bool (sprB xs)) ∧ Below w.heap.size w w' := by
  obtain ⟨a, cap, n, rfl, HN, hm, hc, hcm, hcell⟩ := h.open
  have H := Lib.hid h
  clear h
  cases e1 : sokB xs
  · clear hcell
    go_enter Try.func36, Try.ntmps36
    go_wp2_with (go_at_call 26; refine (c_i_SignedOk _ xs _ H.out).mono ?_; rintro e W1 ⟨rfl, hb⟩)
    go_ret
    exact ⟨ret_b (by simp [sprB, e1]), hb⟩
  · have hV : Hid (sprB xs = decide (sprP xs)) := by simp [Hid, sprB, e1]
    have hn60 : n ≤ 60 := by
      have := e1
      unfold sokB at this
      rw [Bool.and_eq_true] at this
      rw [← HN.out]; exact endB_len this.1
    go_enter Try.func36, Try.ntmps36
    go_wp2_with (go_at_call 26; refine (c_i_SignedOk _ xs _ H.out).mono ?_; rintro e W1 ⟨rfl, hb⟩)
    go_loop [3] (fun  i => ∃ k : Nat, 1 ≤ k ∧ k ≤ max 1 n ∧ i = .int .i64 k ∧ Hid (∀ j, j < k → 0 < j → ¬ (xs.getD j 0 ≠ 0 ∧ xs.getD (j - 1) 0 ≠ 0))) (fun  i => n - (intOf i).toNat)
    case atStart => exact ⟨1, by omega, by omega, rfl, fun j hj h0 => by omega⟩
    case round =>
      obtain ⟨k, hk0, hk, rfl, hr⟩ := hrel
      by_cases hlt : k < n
      · obtain ⟨g, off, rfl, hbl, x, hx, hbd, hcx⟩ := hcell k hlt
        have hcr : W1.cell? ⟨g, off + k, none⟩ = some (.int .i64 x) := (hb.cell (by exact hbl)).trans hcx
        by_cases hkz : k = 0
        · subst hkz
          have hr2 : Hid (∀ j, j < 0 + 1 → 0 < j → ¬ (xs.getD j 0 ≠ 0 ∧ xs.getD (j - 1) 0 ≠ 0)) := fun j hj h0 => by omega
          rw [Nat.add_zero] at hcx
          clear hr hx hcell
          exfalso; omega
        · obtain ⟨g', off', hbo, hbl', y, hy, hbd', hcy⟩ := hcell (k - 1) (by omega)
          cases hbo
          have hcry : W1.cell? ⟨g, off + (k - 1), none⟩ = some (.int .i64 y) := (hb.cell (by exact hbl)).trans hcy
          have hkp : (0 : Int) < (k : Int) := by omega
          have hix : ((k : Int) - 1).toNat = k - 1 := by omega
          cases hxz : (x != 0) <;> cases hyz : (y != 0)
          case true.true =>
            have hfin : Hid (sprB xs = false) := by
              rw [hV.out]
              exact decide_eq_false fun hs => hs k (by rw [HN.out]; exact hlt) (by omega) ⟨by rw [hx.out]; simpa using hxz, by rw [hy.out]; simpa using hyz⟩
            clear hr hx hy hcell hkz
            go_wp2
            go_ret
            exact ⟨ret_b hfin.out.symm, hb⟩
          all_goals
            have hr2 : Hid (∀ j, j < k + 1 → 0 < j → ¬ (xs.getD j 0 ≠ 0 ∧ xs.getD (j - 1) 0 ≠ 0)) := by
              refine all_up hr.out fun _ hn => ?_
              rw [hx.out, hy.out] at hn
              first
                | exact absurd hn.1 (by simpa using hxz)
                | exact absurd hn.2 (by simpa using hyz)
            clear hr hx hy hcell hkz
            go_wp2
            go_round
            case rel => exact ⟨k + 1, by omega, by omega, by go_num, hr2⟩
            case measure => simp [intOf]; omega
      · have hfin : Hid (sprB xs = true) := by
          rw [hV.out]
          exact decide_eq_true fun j hj h0 => hr.out j (by rw [HN.out] at hj; omega) h0
        clear hr hcell
        go_wp2
        go_ret
        exact ⟨ret_b hfin.out.symm, hb⟩

end Go.Proofs.Ytdffcgfllpeppaa
