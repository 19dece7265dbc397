/- Contracts of PadZeros, the program's and the reference's. -/
import Derived.Test.YtjogaoocjcofdaaBas
import Derived.Test.YtjogaoocjcofdaaShelf
namespace Go.Proofs.Ytjogaoocjcofdaa
open Go.RowKit

/-- k zeros ahead of s. -/
def zrs (k : Nat) (s : ByteArray) : ByteArray := ⟨(List.replicate k 48 ++ s.data.toList).toArray⟩
/-- The text padded to n characters. -/
def pzT (s : ByteArray) (n : Int) : ByteArray := if 2000 < n then s else zrs (n - s.size).toNat s
theorem zrs_zero (s : ByteArray) : zrs 0 s = s := by apply ByteArray.ext; simp [zrs]
theorem zrs_step (k : Nat) (s : ByteArray) : (⟨#[48]⟩ : ByteArray) ++ zrs k s = zrs (k + 1) s := by
  apply ByteArray.ext; simp [zrs, List.replicate_succ]
theorem zrs_size (k : Nat) (s : ByteArray) : (zrs k s).size = k + s.size := by
  show (List.replicate k 48 ++ s.data.toList).toArray.size = _
  rw [List.size_toArray, List.length_append, List.length_replicate]; rfl
/-- A text's length. -/
def txLen : Value → Nat
  | .string s => s.size
  | _ => 0

set_option maxHeartbeats 400000 in
theorem c_s_PadZeros (s : ByteArray) (n : Int) (w : World) (_hs : s.size ≤ 1048576) :
    Calls Try.prog 10 #[.string s, .int .i64 n] w fun e w' => e = .returned (.string (pzT s n)) ∧ w = w' := by
  by_cases hn : 2000 < n
  · have hV : Hid (pzT s n = s) := by rw [Hid, pzT, if_pos hn]
    go_enter Try.func10, Try.ntmps10
    go_wp2
    go_ret
    exact ⟨ret_s hV.out.symm, rfl⟩
  · have hV : Hid (pzT s n = zrs (n - s.size).toNat s) := by rw [Hid, pzT, if_neg hn]
    have hn' : n ≤ 2000 := by omega
    clear hn
    go_enter Try.func10, Try.ntmps10
    go_wp2
    go_loop [0] (fun v => ∃ (k : Nat) (t : ByteArray), v = .string t ∧ t.size = k + s.size ∧ ((k : Int) + s.size ≤ n ∨ k = 0) ∧ Hid (t = zrs k s)) (fun v => (n - txLen v).toNat)
    case atStart => exact ⟨0, s, rfl, by omega, .inr rfl, (zrs_zero s).symm⟩
    case round =>
      obtain ⟨k, t, rfl, hsz, hk, ht⟩ := hrel
      by_cases hlt : (t.size : Int) < n
      · have hst : Hid ((⟨#[48]⟩ : ByteArray) ++ t = zrs (k + 1) s) := by rw [Hid, ht.out, zrs_step]
        have hsz2 : Hid (((⟨#[48]⟩ : ByteArray) ++ t).size = k + 1 + s.size) := by rw [Hid, hst.out, zrs_size]
        clear ht
        go_wp2
        go_round
        case rel => exact ⟨k + 1, _, rfl, hsz2.out, .inl (by omega), hst⟩
        case measure => have := hsz2.out; show (n - (((⟨#[48]⟩ : ByteArray) ++ t).size : Nat)).toNat < (n - (t.size : Nat)).toNat; omega
      · have hle : n ≤ (t.size : Int) := by omega
        have hfin : Hid (t = pzT s n) := by rw [Hid, ht.out, hV.out]; congr 1; omega
        clear ht hlt
        go_wp2
        go_ret
        exact ⟨ret_s hfin.out, rfl⟩

theorem rep_zero (k : Nat) (s : ByteArray) : (⟨(Lib.repeatL (⟨#[48]⟩ : ByteArray).data.toList k).toArray⟩ : ByteArray) ++ s = zrs k s := by
  have h : ∀ k, Lib.repeatL [48] k = List.replicate k (48 : UInt8) := by
    intro k
    induction k with
    | zero => rfl
    | succ k ih => rw [Lib.repeatL, ih, List.replicate_succ]; rfl
  apply ByteArray.ext
  simp [zrs, h]

set_option maxHeartbeats 400000 in
theorem c_i_PadZeros (s : ByteArray) (n : Int) (w : World) (hs : s.size ≤ 1048576) :
    Calls Try.prog 11 #[.string s, .int .i64 n] w fun e w' => e = .returned (.string (pzT s n)) ∧ Below w.heap.size w w' := by
  by_cases hn : 2000 < n
  · have hV : Hid (pzT s n = s) := by rw [Hid, pzT, if_pos hn]
    by_cases hl : n ≤ (s.size : Int)
    · go_enter Try.func11, Try.ntmps11
      go_wp2
      go_ret
      exact ⟨ret_s hV.out.symm, Below.refl _ _⟩
    · have hl' : (s.size : Int) < n := by omega
      go_enter Try.func11, Try.ntmps11
      go_wp2
      go_ret
      exact ⟨ret_s hV.out.symm, Below.refl _ _⟩
  · have hV : Hid (pzT s n = zrs (n - s.size).toNat s) := by rw [Hid, pzT, if_neg hn]
    have hn' : n ≤ 2000 := by omega
    clear hn
    by_cases hl : n ≤ (s.size : Int)
    · have hfin : Hid (s = pzT s n) := by
        have : (n - s.size).toNat = 0 := by omega
        rw [Hid, hV.out, this, zrs_zero]
      go_enter Try.func11, Try.ntmps11
      go_wp2
      go_ret
      exact ⟨ret_s hfin.out, Below.refl _ _⟩
    · obtain ⟨c, hc⟩ := Int.eq_ofNat_of_zero_le (show 0 ≤ n - (s.size : Int) by omega)
      have hfin : Hid ((⟨(Lib.repeatL (⟨#[48]⟩ : ByteArray).data.toList c).toArray⟩ : ByteArray) ++ s = pzT s n) := by
        rw [Hid, rep_zero, hV.out, hc]; rfl
      obtain rfl : n = (c : Int) + s.size := by omega
      have hc0 : 0 < c := by omega
      have hcc : (c : Int) + (s.size : Int) - (s.size : Int) = (c : Int) := by omega
      have hrl : (Lib.repeatL [48] c).length + s.size ≤ 9223372036854775807 := by rw [Lib.repeatL_length]; show c * 1 + _ ≤ _; omega
      clear hc
      go_enter Try.func11, Try.ntmps11
      go_wp2_with fail
      refine (Try.strings_Repeat ⟨#[48]⟩ c _ (by omega) (by show 1 * c ≤ _; omega)).mono ?_
      rintro e w1 ⟨rfl, hb1⟩
      go_wp2
      go_ret
      exact ⟨ret_s hfin.out, hb1⟩

end Go.Proofs.Ytjogaoocjcofdaa
