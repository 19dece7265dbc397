/- Contracts of FormatDigits, the program's and the reference's. -/
import Derived.Test.YtdffcgfllpeppaaByt
import Derived.Test.YtdffcgfllpeppaaOk
import Derived.Test.YtdffcgfllpeppaaVal
import Derived.Test.YtdffcgfllpeppaaStr
namespace Go.Proofs.Ytdffcgfllpeppaa
open Go.RowKit

/-- The character of a digit. -/
def mkc (d : Int) : UInt8 := UInt8.ofNat ((if 9 < d then 87 + d else 48 + d).toNat)

/-- The text of a list of digits, the last one first. -/
def txt (xs : List Int) : ByteArray := ⟨((xs.map mkc).reverse).toArray⟩
def fdT (xs : List Int) (b : Int) : ByteArray := if dokB xs b then (if xs.length = 0 then ⟨#[48]⟩ else txt xs) else ⟨#[]⟩

theorem txt_step {xs : List Int} {k : Nat} (h : k < xs.length) : (⟨#[mkc (xs.getD k 0)]⟩ : ByteArray) ++ txt (xs.take k) = txt (xs.take (k + 1)) := by
  rw [take_step h]
  apply ByteArray.ext
  simp [txt]
theorem size_cat (a b : ByteArray) : (a ++ b).size = a.size + b.size := by simp

theorem conv1 (w : World) (x : Int) (h0 : 0 ≤ x) (h1 : x ≤ 255) :
    (convert 44 9 (.slice (some ⟨w.heap.size, 0, none⟩) 1 1)).run Try.prog (w.alloc (.cells #[.int .u8 x] 5)) = .ok (.string ⟨#[UInt8.ofNat x.toNat]⟩) (w.alloc (.cells #[.int .u8 x] 5)) := by
  refine run_convert_bytes_back (P := Try.prog) _ 44 9 5 ⟨w.heap.size, 0, none⟩ 1 [UInt8.ofNat x.toNat] Try.underlying44 Try.underlying5 Try.underlying9 ?_
  intro j hj
  have hj0 : j = 0 := by simpa using hj
  subst hj0
  have e : ((UInt8.ofNat x.toNat).toNat : Int) = x := by simp; omega
  simp only [List.getElem_cons_zero, e]
  simp [Addr.add]

set_option maxHeartbeats 400000 in
theorem c_s_l02Sign (d : Int) (w : World) (h0 : 0 ≤ d) (h1 : d ≤ 15) :
    Calls Try.prog 72 #[.int .i64 d] w fun e w' => e = .returned (.string ⟨#[mkc d]⟩) ∧ Below w.heap.size w w' := by
  by_cases h9 : 9 < d
  · have hm : mkc d = UInt8.ofNat (97 + d - 10).toNat := by unfold mkc; rw [if_pos h9]; congr 2; omega
    have hcv := conv1 w (97 + d - 10) (by omega) (by omega)
    rw [← hm] at hcv
    clear hm
    go_enter Try.func72, Try.ntmps72
    go_wp2
    go_ret
    exact ⟨rfl, (Below.refl _ _).alloc (Nat.le_refl _) _⟩
  · have hm : mkc d = UInt8.ofNat (48 + d).toNat := by unfold mkc; rw [if_neg h9]
    have hcv := conv1 w (48 + d) (by omega) (by omega)
    rw [← hm] at hcv
    clear hm
    go_enter Try.func72, Try.ntmps72
    go_wp2
    go_ret
    exact ⟨rfl, (Below.refl _ _).alloc (Nat.le_refl _) _⟩

set_option maxHeartbeats 400000 in
theorem c_s_FormatDigits (v : Value) (xs : List Int) (b : Int) (w : World) (h : Rd w v xs) :
    Calls Try.prog 39 #[v, .int .i64 b] w fun e w' => e = .returned (.string (fdT xs b)) ∧ Below w.heap.size w w' := by
  obtain ⟨a, cap, n, rfl, HN, hm, hc, hcm, hcell⟩ := h.open
  have H := Lib.hid h
  clear h
  cases e1 : dokB xs b
  · have hT : Hid (fdT xs b = ⟨#[]⟩) := by simp [Hid, fdT, e1]
    clear hcell
    go_enter Try.func39, Try.ntmps39
    go_wp2_with (go_at_call 31; refine (c_s_DigitsOk _ xs _ _ H.out).mono ?_; rintro e w' ⟨rfl, rfl⟩)
    go_ret
    exact ⟨by rw [hT.out]; rfl, Below.refl _ _⟩
  · have hd := dok_of e1
    have hd1 := hd.1
    have hn60 : n ≤ 60 := by rw [← HN.out]; exact hd.2.1
    have hd2 : Hid (∀ x ∈ xs, 0 ≤ x ∧ x ≤ 15) := fun x hx => by have := hd.2.2 x hx; omega
    clear hd
    go_enter Try.func39, Try.ntmps39
    go_wp2_with (go_at_call 31; refine (c_s_DigitsOk _ xs _ _ H.out).mono ?_; rintro e w' ⟨rfl, rfl⟩)
    go_loopw [5, 14] (fun s i wr => ∃ (k : Nat) (t : ByteArray), k ≤ n ∧ i = .int .i64 k ∧ s = .string t ∧ t.size = k ∧ Hid (t = txt (xs.take k)) ∧ Below w.heap.size w wr) (fun _ i _ => n - (intOf i).toNat)
    case atStart => exact ⟨0, _, by omega, rfl, rfl, rfl, rfl, Below.refl _ _⟩
    case round =>
      obtain ⟨k, t, hk, rfl, rfl, hts, ht, hb⟩ := hrel
      by_cases hlt : k < n
      · obtain ⟨g, off, rfl, hbl, x, hx, hbd, hcx⟩ := hcell k hlt
        have hcr := (hb.cell (by exact hbl)).trans hcx
        have hxx := hd2.out x (by rw [← hx.out]; exact getD_mem (by rw [HN.out]; omega))
        clear hcell hcx
        go_wp2_with (go_at_call 72; refine (c_s_l02Sign _ _ (by omega) (by omega)).mono ?_; rintro e w2 ⟨rfl, hb2⟩)
        go_roundw
        case rel => exact ⟨k + 1, _, by omega, by go_num, rfl, by rw [size_cat, hts]; simp [ByteArray.size]; omega, by show _ = _; rw [ht.out, ← txt_step (by rw [HN.out]; exact hlt), hx.out], hb.trans (hb2.mono hb.size)⟩
        case measure => simp [intOf]; omega
      · have hkn : k = n := by omega
        subst hkn
        clear hcell
        by_cases h0 : k = 0
        · have hT : Hid (fdT xs b = ⟨#[48]⟩) := by simp [Hid, fdT, e1, HN.out, h0]
          have ht0 : t = ⟨#[]⟩ := by rw [ht.out, h0]; rfl
          subst ht0
          go_wp2
          go_ret
          exact ⟨by rw [hT.out]; rfl, hb⟩
        · have hT : Hid (fdT xs b = t) := by
            have hne : ¬ xs = [] := fun h => h0 (by rw [← HN.out, h]; rfl)
            rw [Hid, ht.out, List.take_of_length_le (by rw [HN.out]; omega)]
            simp [fdT, e1, hne]
          have hne : t.toList.isEmpty = false := by rw [str_empty, hts]; simp [h0]
          go_wp2
          go_ret
          exact ⟨by rw [hT.out]; rfl, hb⟩

theorem marks_at (m : Nat) (h : m < 16) : (⟨#[48, 49, 50, 51, 52, 53, 54, 55, 56, 57, 97, 98, 99, 100, 101, 102]⟩ : ByteArray)[m]'(by show m < 16; exact h) = mkc m := by
  have hm : m = 0 ∨ m = 1 ∨ m = 2 ∨ m = 3 ∨ m = 4 ∨ m = 5 ∨ m = 6 ∨ m = 7 ∨ m = 8 ∨ m = 9 ∨ m = 10 ∨ m = 11 ∨ m = 12 ∨ m = 13 ∨ m = 14 ∨ m = 15 := by omega
  rcases hm with rfl | rfl | rfl | rfl | rfl | rfl | rfl | rfl | rfl | rfl | rfl | rfl | rfl | rfl | rfl | rfl <;> rfl
theorem set_back {n k : Nat} (h : k < n) {c : UInt8} {r : List UInt8} : (List.replicate (n - k) 0 ++ r).set (n - 1 - k) c = List.replicate (n - (k + 1)) 0 ++ (c :: r) := by
  rw [List.set_append, if_pos (by rw [List.length_replicate]; omega), show n - k = (n - (k + 1)) + 1 from by omega, List.replicate_succ', List.set_append, if_neg (by rw [List.length_replicate]; omega), List.length_replicate, show n - 1 - k - (n - (k + 1)) = 0 from by omega]
  simp
theorem rev_step {xs : List Int} {k : Nat} (h : k < xs.length) : mkc (xs.getD k 0) :: ((xs.take k).map mkc).reverse = ((xs.take (k + 1)).map mkc).reverse := by
  rw [take_step h]; simp

set_option maxHeartbeats 400000 in
theorem c_i_FormatDigits (v : Value) (xs : List Int) (b : Int) (w : World) (h : Rd w v xs) :
    Calls Try.prog 40 #[v, .int .i64 b] w fun e w' => e = .returned (.string (fdT xs b)) ∧ Below w.heap.size w w' := by
  obtain ⟨a, cap, n, rfl, HN, hm, hc, hcm, hcell⟩ := h.open
  have H := Lib.hid h
  clear h
  cases e1 : dokB xs b
  · have hT : Hid (fdT xs b = ⟨#[]⟩) := by simp [Hid, fdT, e1]
    clear hcell
    go_enter Try.func40, Try.ntmps40
    go_wp2_with (go_at_call 32; refine (c_i_DigitsOk _ xs _ _ H.out).mono ?_; rintro e w1 ⟨rfl, hb1⟩)
    go_ret
    exact ⟨by rw [hT.out]; rfl, hb1⟩
  · have hd := dok_of e1
    have hd1 := hd.1
    have hn60 : n ≤ 60 := by rw [← HN.out]; exact hd.2.1
    have hd2 : Hid (∀ x ∈ xs, 0 ≤ x ∧ x ≤ 15) := fun x hx => by have := hd.2.2 x hx; omega
    clear hd
    by_cases h0 : n = 0
    · have hT : Hid (fdT xs b = ⟨#[48]⟩) := by simp [Hid, fdT, e1, HN.out, h0]
      subst h0
      clear hcell
      go_enter Try.func40, Try.ntmps40
      go_wp2_with (go_at_call 32; refine (c_i_DigitsOk _ xs _ _ H.out).mono ?_; rintro e w1 ⟨rfl, hb1⟩)
      go_ret
      exact ⟨by rw [hT.out]; rfl, hb1⟩
    · have hT : Hid (fdT xs b = txt xs) := by
        have hne : ¬ xs = [] := fun h => h0 (by rw [← HN.out, h]; rfl)
        simp [Hid, fdT, e1, hne]
      go_enter Try.func40, Try.ntmps40
      go_wp2_with (first | (go_at_call 32; refine (c_i_DigitsOk _ xs _ _ H.out).mono ?_; rintro e w1 ⟨rfl, hb1⟩) | (at_make; refine wpList_mkB _ rfl _ _ rfl n rfl rfl (by omega) ?_; intro w2 hown0 hb2))
      go_loopw [20] (fun i wr => ∃ k : Nat, k ≤ n ∧ i = .int .i64 k ∧ OwnB wr w1.heap.size (.slice (some ⟨w1.heap.size, 0, none⟩) n n) (List.replicate (n - k) 0 ++ ((xs.take k).map mkc).reverse) ∧ Below w1.heap.size w1 wr) (fun i _ => n - (intOf i).toNat)
      case atStart => exact ⟨0, by omega, rfl, by simpa using hown0, hb2⟩
      case round =>
        obtain ⟨k, hk, rfl, hown, hb⟩ := hrel
        by_cases hlt : k < n
        · obtain ⟨g, off, rfl, hbl, x, hx, hbd, hcx⟩ := hcell k hlt
          have hcr := ((hb1.trans (hb.mono hb1.size)).cell (by exact hbl)).trans hcx
          have hxx := hd2.out x (by rw [← hx.out]; exact getD_mem (by rw [HN.out]; omega))
          have hln : (List.replicate (n - k) 0 ++ ((xs.take k).map mkc).reverse).length = n := by simp [HN.out]; omega
          obtain ⟨hfz, y, -, hold⟩ := hown.at (k := n - 1 - k) (by rw [hln]; omega)
          obtain ⟨m, rfl⟩ := Int.eq_ofNat_of_zero_le hxx.1
          clear hcell hcx
          go_wp2
          have hst := hown.stored hln.symm (n - 1 - k) (mkc m)
          rw [set_back hlt, ← hx.out, rev_step (by rw [HN.out]; exact hlt), hx.out] at hst
          go_roundw
          case rel => exact ⟨k + 1, by omega, by go_num, by rw [marks_at m (by omega)]; exact hst, hb.setCell (Nat.le_refl _) _⟩
          case measure => simp [intOf]; omega
        · have hkn : k = n := by omega
          subst hkn
          have hfin : List.replicate (k - k) (0 : UInt8) ++ ((xs.take k).map mkc).reverse = (xs.map mkc).reverse := by
            rw [List.take_of_length_le (by rw [HN.out]; omega)]; simp
          rw [hfin] at hown
          have hcv := hown.conv (by simp [HN.out])
          clear hcell hfin
          go_wp2
          go_ret
          exact ⟨by rw [hT.out]; rfl, hb1.trans (hb.mono hb1.size)⟩

end Go.Proofs.Ytdffcgfllpeppaa
