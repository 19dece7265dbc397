/- Contracts of FormatBalanced, the program's and the reference's (printed by mkfmb.py). -/
import Derived.Test.YtdffcgfllpeppaaFmt
namespace Go.Proofs.Ytdffcgfllpeppaa
open Go.RowKit

/-- The character of a balanced digit. -/
def mkb (d : Int) : UInt8 := if d = 1 then 43 else if d = 0 then 48 else 45
def bxt (xs : List Int) : ByteArray := ⟨((xs.map mkb).reverse).toArray⟩
def fbT (xs : List Int) : ByteArray := if bokB xs 3 then (if xs.length = 0 then ⟨#[48]⟩ else bxt xs) else ⟨#[]⟩
theorem bok_of {xs : List Int} (h : bokB xs 3 = true) : xs.length ≤ 60 ∧ ∀ x ∈ xs, -1 ≤ x ∧ x ≤ 1 := by
  unfold bokB at h
  rw [Bool.and_eq_true, Bool.and_eq_true] at h
  exact ⟨endB_len h.2.1, fun x hx => by have := allB_of h.2.2 x hx; omega⟩
theorem bxt_step {xs : List Int} {k : Nat} (h : k < xs.length) : (⟨#[mkb (xs.getD k 0)]⟩ : ByteArray) ++ bxt (xs.take k) = bxt (xs.take (k + 1)) := by
  rw [take_step h]
  apply ByteArray.ext
  simp [bxt]
theorem rev_stepB {xs : List Int} {k : Nat} (h : k < xs.length) : mkb (xs.getD k 0) :: ((xs.take k).map mkb).reverse = ((xs.take (k + 1)).map mkb).reverse := by
  rw [take_step h]; simp
theorem marksB_at (m : Nat) (h : m < 3) : (⟨#[45, 48, 43]⟩ : ByteArray)[m]'(by show m < 3; exact h) = mkb ((m : Int) - 1) := by
  have hm : m = 0 ∨ m = 1 ∨ m = 2 := by omega
  rcases hm with rfl | rfl | rfl <;> rfl

set_option maxHeartbeats 400000 in
theorem c_s_FormatBalanced (v : Value) (xs : List Int) (w : World) (h : Rd w v xs) :
    Calls Try.prog 41 #[v] w fun e w' => e = .returned (.string (fbT xs)) ∧ Below w.heap.size w w' := by
  obtain ⟨a, cap, n, rfl, HN, hm, hc, hcm, hcell⟩ := h.open
  have H := Lib.hid h
  clear h
  cases e1 : bokB xs 3
  · have hT : Hid (fbT xs = ⟨#[]⟩) := by simp [Hid, fbT, e1]
    clear hcell
    go_enter Try.func41, Try.ntmps41
    go_wp2_with (go_at_call 29; refine (c_s_BalancedOk _ xs _ _ H.out).mono ?_; rintro e w' ⟨rfl, rfl⟩)
    go_ret
    exact ⟨by rw [hT.out]; rfl, Below.refl _ _⟩
  · have hd := bok_of e1
    have hn60 : n ≤ 60 := by rw [← HN.out]; exact hd.1
    have hd2 : Hid (∀ x ∈ xs, -1 ≤ x ∧ x ≤ 1) := fun x hx => hd.2 x hx
    clear hd
    go_enter Try.func41, Try.ntmps41
    go_wp2_with (go_at_call 29; refine (c_s_BalancedOk _ xs _ _ H.out).mono ?_; rintro e w' ⟨rfl, rfl⟩)
    go_loopw [3, 11] (fun s i wr => ∃ (k : Nat) (t : ByteArray), k ≤ n ∧ i = .int .i64 k ∧ s = .string t ∧ t.size = k ∧ Hid (t = bxt (xs.take k)) ∧ Below w.heap.size w wr) (fun _ i _ => n - (intOf i).toNat)
    case atStart => exact ⟨0, _, by omega, rfl, rfl, rfl, rfl, Below.refl _ _⟩
    case round =>
      obtain ⟨k, t, hk, rfl, rfl, hts, ht, hb⟩ := hrel
      by_cases hlt : k < n
      · obtain ⟨g, off, rfl, hbl, x, hx, hbd, hcx⟩ := hcell k hlt
        have hcr := (hb.cell (by exact hbl)).trans hcx
        have hxx := hd2.out x (by rw [← hx.out]; exact getD_mem (by rw [HN.out]; omega))
        clear hcell hcx
        have hx3 : x = -1 ∨ x = 0 ∨ x = 1 := by omega
        rcases hx3 with rfl | rfl | rfl
        all_goals
          go_wp2
          go_roundw
          case rel => exact ⟨k + 1, _, by omega, by go_num, rfl, by rw [size_cat, hts]; simp [ByteArray.size]; omega, by show _ = _; rw [ht.out, ← bxt_step (by rw [HN.out]; exact hlt), hx.out]; rfl, hb⟩
          case measure => simp [intOf]; omega
      · have hkn : k = n := by omega
        subst hkn
        clear hcell
        by_cases h0 : k = 0
        · have hT : Hid (fbT xs = ⟨#[48]⟩) := by simp [Hid, fbT, e1, HN.out, h0]
          have ht0 : t = ⟨#[]⟩ := by rw [ht.out, h0]; rfl
          subst ht0
          go_wp2
          go_ret
          exact ⟨by rw [hT.out]; rfl, hb⟩
        · have hT : Hid (fbT xs = t) := by
            have hne : ¬ xs = [] := fun h => h0 (by rw [← HN.out, h]; rfl)
            rw [Hid, ht.out, List.take_of_length_le (by rw [HN.out]; omega)]
            simp [fbT, e1, hne]
          have hne : t.toList.isEmpty = false := by rw [str_empty, hts]; simp [h0]
          go_wp2
          go_ret
          exact ⟨by rw [hT.out]; rfl, hb⟩

set_option maxHeartbeats 400000 in
theorem c_i_FormatBalanced (v : Value) (xs : List Int) (w : World) (h : Rd w v xs) :
    Calls Try.prog 42 #[v] w fun e w' => e = .returned (.string (fbT xs)) ∧ Below w.heap.size w w' := by
  obtain ⟨a, cap, n, rfl, HN, hm, hc, hcm, hcell⟩ := h.open
  have H := Lib.hid h
  clear h
  cases e1 : bokB xs 3
  · have hT : Hid (fbT xs = ⟨#[]⟩) := by simp [Hid, fbT, e1]
    clear hcell
    go_enter Try.func42, Try.ntmps42
    go_wp2_with (go_at_call 30; refine (c_i_BalancedOk _ xs _ _ H.out).mono ?_; rintro e w1 ⟨rfl, hb1⟩)
    go_ret
    exact ⟨by rw [hT.out]; rfl, hb1⟩
  · have hd := bok_of e1
    have hn60 : n ≤ 60 := by rw [← HN.out]; exact hd.1
    have hd2 : Hid (∀ x ∈ xs, -1 ≤ x ∧ x ≤ 1) := fun x hx => hd.2 x hx
    clear hd
    by_cases h0 : n = 0
    · have hT : Hid (fbT xs = ⟨#[48]⟩) := by simp [Hid, fbT, e1, HN.out, h0]
      subst h0
      clear hcell
      go_enter Try.func42, Try.ntmps42
      go_wp2_with (go_at_call 30; refine (c_i_BalancedOk _ xs _ _ H.out).mono ?_; rintro e w1 ⟨rfl, hb1⟩)
      go_ret
      exact ⟨by rw [hT.out]; rfl, hb1⟩
    · have hT : Hid (fbT xs = bxt xs) := by
        have hne : ¬ xs = [] := fun h => h0 (by rw [← HN.out, h]; rfl)
        simp [Hid, fbT, e1, hne]
      go_enter Try.func42, Try.ntmps42
      go_wp2_with (first | (go_at_call 30; refine (c_i_BalancedOk _ xs _ _ H.out).mono ?_; rintro e w1 ⟨rfl, hb1⟩) | (at_make; refine wpList_mkB _ rfl _ _ rfl n rfl rfl (by omega) ?_; intro w2 hown0 hb2))
      go_loopw [17] (fun i wr => ∃ k : Nat, k ≤ n ∧ i = .int .i64 k ∧ OwnB wr w1.heap.size (.slice (some ⟨w1.heap.size, 0, none⟩) n n) (List.replicate (n - k) 0 ++ ((xs.take k).map mkb).reverse) ∧ Below w1.heap.size w1 wr) (fun i _ => n - (intOf i).toNat)
      case atStart => exact ⟨0, by omega, rfl, by simpa using hown0, hb2⟩
      case round =>
        obtain ⟨k, hk, rfl, hown, hb⟩ := hrel
        by_cases hlt : k < n
        · obtain ⟨g, off, rfl, hbl, x, hx, hbd, hcx⟩ := hcell k hlt
          have hcr := ((hb1.trans (hb.mono hb1.size)).cell (by exact hbl)).trans hcx
          have hxx := hd2.out x (by rw [← hx.out]; exact getD_mem (by rw [HN.out]; omega))
          have hln : (List.replicate (n - k) 0 ++ ((xs.take k).map mkb).reverse).length = n := by simp [HN.out]; omega
          obtain ⟨hfz, y, -, hold⟩ := hown.at (k := n - 1 - k) (by rw [hln]; omega)
          obtain ⟨m, hm1⟩ := Int.eq_ofNat_of_zero_le (show 0 ≤ x + 1 by omega)
          obtain rfl : x = (m : Int) - 1 := by omega
          clear hcell hcx
          go_wp2
          have hst := hown.stored hln.symm (n - 1 - k) (mkb ((m : Int) - 1))
          rw [set_back hlt, ← hx.out, rev_stepB (by rw [HN.out]; exact hlt), hx.out] at hst
          go_roundw
          case rel => exact ⟨k + 1, by omega, by go_num, by rw [marksB_at m (by omega)]; exact hst, hb.setCell (Nat.le_refl _) _⟩
          case measure => simp [intOf]; omega
        · have hkn : k = n := by omega
          subst hkn
          have hfin : List.replicate (k - k) (0 : UInt8) ++ ((xs.take k).map mkb).reverse = (xs.map mkb).reverse := by
            rw [List.take_of_length_le (by rw [HN.out]; omega)]; simp
          rw [hfin] at hown
          have hcv := hown.conv (by simp [HN.out])
          clear hcell hfin
          go_wp2
          go_ret
          exact ⟨by rw [hT.out]; rfl, hb1.trans (hb.mono hb1.size)⟩

end Go.Proofs.Ytdffcgfllpeppaa
