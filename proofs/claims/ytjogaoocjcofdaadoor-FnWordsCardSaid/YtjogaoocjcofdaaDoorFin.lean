/- Contracts of FormatInt, the program's and the reference's. -/
import Derived.Test.YtjogaoocjcofdaaDoorBas
import Derived.Test.YtjogaoocjcofdaaDoorTbq
import Derived.Test.YtjogaoocjcofdaaDoorShelf
import Derived.Laws.IdiomStrings
import Derived.IntWalk
import Derived.Lib.ItoaLen
import Derived.Lib.AppendIntMem
import Derived.WalkSmall
import Derived.Deep.RegionLaw
namespace Go.Proofs.YtjogaoocjcofdaaDoor
open Go.RowKit
set_option maxRecDepth 8000

/-- The text of an integer. -/
def inT (n : Int) : ByteArray := ⟨(Lib.itoa n).toArray⟩
theorem inT_len (n : Int) (h0 : -9223372036854775808 ≤ n) (h1 : n ≤ 9223372036854775807) : (inT n).size ≤ 21 := by
  have := Lib.itoa_length_le n h0 h1
  show (Lib.itoa n).toArray.size ≤ 21
  rwa [List.size_toArray]

theorem dec_one {u : Nat} (h : u < 10) : Lib.decDigits u = [UInt8.ofNat (48 + u)] := by rw [Lib.decDigits, dif_pos h]
theorem dec_more {u : Nat} (h : 10 ≤ u) : Lib.decDigits u = Lib.decDigits (u / 10) ++ [UInt8.ofNat (48 + u % 10)] := by
  rw [Lib.decDigits, dif_neg (by omega)]

/-- string([]byte{x}), the byte in a block of its own. -/
theorem cvA (W : World) (x : Int) (h0 : 0 ≤ x) (h1 : x ≤ 255) :
    (convert 32 9 (.slice (some ⟨W.heap.size, 0, none⟩) 1 1)).run Tryd.prog (W.alloc (.cells #[.int .u8 x] 5)) = .ok (.string ⟨#[UInt8.ofNat x.toNat]⟩) (W.alloc (.cells #[.int .u8 x] 5)) := by
  refine run_convert_bytes_back (P := Tryd.prog) _ 32 9 5 ⟨W.heap.size, 0, none⟩ 1 [UInt8.ofNat x.toNat] Tryd.underlying32 Tryd.underlying5 Tryd.underlying9 ?_
  intro j hj
  have hj0 : j = 0 := by simpa using hj
  subst hj0
  have e : ((UInt8.ofNat x.toNat).toNat : Int) = x := by simp; omega
  simp only [List.getElem_cons_zero, e]
  simp [Addr.add]
theorem cvC {w w1 : World} (x : Int) (h0 : 0 ≤ x) (h1 : x ≤ 255) (hb : Below (w.alloc (.cells #[.int .u8 x] 5)).drew.heap.size (w.alloc (.cells #[.int .u8 x] 5)).drew w1) :
    (convert 32 9 (.slice (some ⟨w.heap.size, 0, none⟩) 1 1)).run Tryd.prog w1 = .ok (.string ⟨#[UInt8.ofNat x.toNat]⟩) w1 := by
  refine run_convert_bytes_back (P := Tryd.prog) _ 32 9 5 ⟨w.heap.size, 0, none⟩ 1 [UInt8.ofNat x.toNat] Tryd.underlying32 Tryd.underlying5 Tryd.underlying9 ?_
  intro j hj
  have hj0 : j = 0 := by simpa using hj
  subst hj0
  have e : ((UInt8.ofNat x.toNat).toNat : Int) = x := by simp; omega
  simp only [List.getElem_cons_zero, e]
  have hc : (w.alloc (.cells #[.int .u8 x] 5)).drew.cell? ⟨w.heap.size, 0, none⟩ = some (.int .u8 x) := by simp
  rw [show (⟨w.heap.size, 0, none⟩ : Addr).add 0 = ⟨w.heap.size, 0, none⟩ from by simp [Addr.add]]
  exact (hb.cell (by show w.heap.size < (w.heap.push _).size; simp)).trans hc

theorem neg_tdiv10 (u : Nat) : (-(u : Int)).tdiv 10 = -((u / 10 : Nat) : Int) := by
  rw [Int.neg_tdiv, Int.tdiv_eq_ediv_of_nonneg (by omega)]; simp
theorem neg_tmod10 (u : Nat) : (-(u : Int)).tmod 10 = -((u % 10 : Nat) : Int) := by
  rw [Int.neg_tmod, Int.tmod_eq_emod_of_nonneg (by omega)]; simp

set_option maxHeartbeats 800000 in
theorem c_s_FormatInt_pos (n : Nat) (hn : n ≤ 9223372036854775807) (w : World) :
    Calls Tryd.prog 8 #[.int .i64 n] w fun e w' => e = .returned (.string (inT n)) ∧ Below w.heap.size w w' := by
  have hV : Hid (inT n = ⟨(Lib.decDigits n).toArray⟩) := by unfold inT; rw [Hid, Lib.itoa_nonneg]
  have hL : Hid ((Lib.decDigits n).length ≤ 21) := by
    have := inT_len n (by omega) (by omega)
    rw [hV.out] at this
    exact this
  go_enter Tryd.func8, Tryd.ntmps8
  go_wp2
  go_loopw [0, 3] (fun q s wr => ∃ (m : Nat) (t : ByteArray), m ≤ 9223372036854775807 ∧ q = .int .i64 m ∧ s = .string t ∧ Hid (Lib.decDigits m ++ t.data.toList = Lib.decDigits n) ∧ Below w.heap.size w wr) (fun q _ _ => (intOf q).toNat)
  case atStart => exact ⟨n, _, hn, rfl, rfl, by simp [Hid], Below.refl _ _⟩
  case round =>
    obtain ⟨m, t, hm, rfl, rfl, hq, hb⟩ := hrel
    have hts : t.size ≤ 21 := by
      have h1 := congrArg List.length hq.out
      rw [List.length_append, dl_len] at h1
      have := hL.out
      omega
    by_cases hlt : 9 < m
    · have hd := dec_more (u := m) (by omega)
      have hcv := cvA wr (48 + ((m : Int) % 10)) (by omega) (by omega)
      have e : (48 + (m : Int) % 10).toNat = 48 + m % 10 := by omega
      rw [e] at hcv
      obtain ⟨c, hc⟩ : ∃ c : UInt8, UInt8.ofNat (48 + m % 10) = c := ⟨_, rfl⟩
      rw [hc] at hcv hd
      have hst : Hid (Lib.decDigits (m / 10) ++ ((⟨#[c]⟩ : ByteArray) ++ t).data.toList = Lib.decDigits n) := by
        rw [Hid, ← hq.out, hd]; simp
      clear hc e
      have hdec : m / 10 < m := by omega
      clear hd hq
      go_wp2
      go_roundw
      case rel => exact ⟨m / 10, _, by omega, by go_num, rfl, hst, hb.alloc hb.size _⟩
      case measure => simp [intOf]; omega
    · have hd := dec_one (u := m) (by omega)
      have hcv := cvA wr (48 + (m : Int)) (by omega) (by omega)
      have e : (48 + (m : Int)).toNat = 48 + m := by omega
      rw [e] at hcv
      obtain ⟨c, hc⟩ : ∃ c : UInt8, UInt8.ofNat (48 + m) = c := ⟨_, rfl⟩
      rw [hc] at hcv hd
      have hfin : Hid ((⟨#[c]⟩ : ByteArray) ++ t = inT n) := by
        rw [Hid, hV.out, ← hq.out, hd]
        apply ByteArray.ext; simp
      clear hc e
      have hm9 : (m : Int) ≤ 9 := by omega
      clear hd hq hlt
      go_wp2
      go_ret
      exact ⟨ret_s hfin.out, hb.alloc hb.size _⟩

set_option maxHeartbeats 1600000 in
theorem c_s_FormatInt_neg : ∀ (u : Nat), 1 ≤ u → u ≤ 9223372036854775808 → ∀ w : World,
    Calls Tryd.prog 8 #[.int .i64 (-(u : Int))] w fun e w' => e = .returned (.string ⟨(45 :: Lib.decDigits u).toArray⟩) ∧ Below w.heap.size w w' := by
  intro u
  induction u using Nat.strongRecOn with
  | ind u ih =>
    intro h1 h2 w
    have hq := neg_tdiv10 u
    have hr := neg_tmod10 u
    have hneg : -(u : Int) < 0 := by omega
    by_cases hlt : u < 10
    · have hd := dec_one hlt
      have hz : u / 10 = 0 := by omega
      rw [hz] at hq
      have hcv := cvA w (48 + (u : Int)) (by omega) (by omega)
      have e : (48 + (u : Int)).toNat = 48 + u := by omega
      rw [e] at hcv
      obtain ⟨c, hc⟩ : ∃ c : UInt8, UInt8.ofNat (48 + u) = c := ⟨_, rfl⟩
      rw [hc] at hcv hd
      have hfin : Hid ((⟨#[45]⟩ : ByteArray) ++ ⟨#[c]⟩ = ⟨(45 :: Lib.decDigits u).toArray⟩) := by
        rw [Hid, hd]; rfl
      clear hc e
      have e48 : (48 : Int) - -(u : Int) = 48 + u := by omega
      clear hd ih hz hr
      go_enter Tryd.func8, Tryd.ntmps8
      go_wp2
      go_ret
      exact ⟨ret_s hfin.out, (Below.refl _ _).alloc (Nat.le_refl _) _⟩
    · have hd := dec_more (u := u) (by omega)
      have hlt10 : u / 10 < u := by omega
      have hI := Lib.hid (ih (u / 10) hlt10 (by omega) (by omega))
      obtain ⟨q, hqq⟩ : ∃ q, u / 10 = q := ⟨_, rfl⟩
      obtain ⟨r, hrr⟩ : ∃ r, u % 10 = r := ⟨_, rfl⟩
      have hr9 : r < 10 := by omega
      have hq1 : 1 ≤ q := by omega
      have hq2 : q ≤ 922337203685477580 := by omega
      rw [hqq] at hq hd hI
      rw [hrr] at hr hd
      clear hqq hrr ih hlt10
      have hX0 : (0 : Int) ≤ 48 + (r : Int) := by omega
      have hX1 : 48 + (r : Int) ≤ 255 := by omega
      have e : (48 + (r : Int)).toNat = 48 + r := by omega
      obtain ⟨c, hc⟩ : ∃ c : UInt8, UInt8.ofNat (48 + r) = c := ⟨_, rfl⟩
      rw [hc] at hd
      have hcvA : ∀ W : World, (convert 32 9 (.slice (some ⟨W.heap.size, 0, none⟩) 1 1)).run Tryd.prog (W.alloc (.cells #[.int .u8 (48 + (r : Int))] 5)) = .ok (.string ⟨#[c]⟩) (W.alloc (.cells #[.int .u8 (48 + (r : Int))] 5)) := fun W => by rw [cvA W _ hX0 hX1, e, hc]
      have hcvB : ∀ W : World, (convert 32 9 (.slice (some ⟨W.heap.size, 0, none⟩) 1 1)).run Tryd.prog (W.alloc (.cells #[.int .u8 (48 + (r : Int))] 5)).drew = .ok (.string ⟨#[c]⟩) (W.alloc (.cells #[.int .u8 (48 + (r : Int))] 5)).drew := fun W => by rw [cvC _ hX0 hX1 (Below.refl _ _), e, hc]
      have hcvC : Hid (∀ (w w1 : World), Below (w.alloc (.cells #[.int .u8 (48 + (r : Int))] 5)).drew.heap.size (w.alloc (.cells #[.int .u8 (48 + (r : Int))] 5)).drew w1 →
          (convert 32 9 (.slice (some ⟨w.heap.size, 0, none⟩) 1 1)).run Tryd.prog w1 = .ok (.string ⟨#[c]⟩) w1) := fun w w1 hb => by rw [cvC _ hX0 hX1 hb, e, hc]
      have hfin : Hid ((⟨(45 :: Lib.decDigits q).toArray⟩ : ByteArray) ++ ⟨#[c]⟩ = ⟨(45 :: Lib.decDigits u).toArray⟩) := by
        rw [Hid, hd]
        apply ByteArray.ext; simp
      clear hc e
      have hsz : (Lib.decDigits q).length + 1 + 1 ≤ 9223372036854775807 := by
        have h := Lib.itoa_length_le (q : Int) (by omega) (by omega)
        rw [Lib.itoa_nonneg] at h; omega
      have hqz : (-(q : Int) == 0) = false := by simp; omega
      have e48 : (48 : Int) - -(r : Int) = 48 + r := by omega
      have hw1 : IntKind.i64.wrap (-(q : Int)) = -(q : Int) := IntWalk.i64_in _ (by omega)
      have hw2 : IntKind.i64.wrap (-(r : Int)) = -(r : Int) := IntWalk.i64_in _ (by omega)
      have hw3 : IntKind.i64.wrap (48 + (r : Int)) = 48 + (r : Int) := IntWalk.i64_in _ (by omega)
      have hw4 : IntKind.u8.wrap (48 + (r : Int)) = 48 + (r : Int) := IntWalk.u8_in _ (by omega)
      clear hd
      go_enter Tryd.func8, Tryd.ntmps8
      go_wp2
      go_region_with (first | (go_at_call 8; refine (hI.out _).mono ?_; rintro e w1 ⟨rfl, hb1⟩; (try have hcvD := hcvC.out _ _ hb1)))
      all_goals
        have hA : Below w.heap.size w (w.alloc (.cells #[.int .u8 (48 + (r : Int))] 5)).drew := ((Below.refl _ _).alloc (Nat.le_refl _) _).drew
        have hD : Below w.heap.size w w.drew := (Below.refl _ _).drew
        have hB : Below w.heap.size w w1 := by first | exact hA.trans (hb1.mono hA.size) | exact hD.trans (hb1.mono hD.size)
        go_wp2
        go_ret
        exact ⟨ret_s hfin.out, by first | exact hB | exact hB.alloc hB.size _⟩

theorem c_s_FormatInt (n : Int) (h0 : -9223372036854775808 ≤ n) (h1 : n ≤ 9223372036854775807) (w : World) :
    Calls Tryd.prog 8 #[.int .i64 n] w fun e w' => e = .returned (.string (inT n)) ∧ Below w.heap.size w w' := by
  by_cases hn : 0 ≤ n
  · obtain ⟨m, rfl⟩ := Int.eq_ofNat_of_zero_le hn
    exact c_s_FormatInt_pos m (by omega) w
  · obtain ⟨u, hu⟩ := Int.eq_ofNat_of_zero_le (show 0 ≤ -n by omega)
    obtain rfl : n = -(u : Int) := by omega
    refine (c_s_FormatInt_neg u (by omega) (by omega) w).mono ?_
    rintro e w' ⟨rfl, hb⟩
    refine ⟨ret_s ?_, hb⟩
    unfold inT
    rw [Lib.itoa_neg u (by omega)]

theorem below_gr (w : World) (k : Nat) (os : Array Obj) : Below w.heap.size w (Sort.grow (w.drewN k) os) := Lib.below_grow _ w (Nat.le_refl _) k os

theorem c_i_FormatInt (n : Int) (h0 : -9223372036854775808 ≤ n) (h1 : n ≤ 9223372036854775807) (w : World) (htab : Lib.TabIs Tryd.prog w "internal/strconv.uint64pow10" .u64 Lib.pow10Tab) :
    Calls Tryd.prog 9 #[.int .i64 n] w fun e w' => e = .returned (.string (inT n)) ∧ Below w.heap.size w w' := by
  have H := Lib.hid htab
  clear htab
  go_enter Tryd.func9, Tryd.ntmps9
  go_wp2_with fail
  refine (Tryd.strconv_Itoa n h0 h1 _ H.out).mono ?_
  rintro e w' ⟨rfl, k, os, rfl⟩
  go_wp2
  go_ret
  exact ⟨rfl, below_gr _ _ _⟩

theorem c_i_FormatInt_small (n : Nat) (h : n < 100) (w : World) :
    Calls Tryd.prog 9 #[.int .i64 n] w fun e w' => e = .returned (.string (inT n)) ∧ w = w' := by
  have hV : Hid ((⟨(Lib.decDigits n).toArray⟩ : ByteArray) = inT n) := by unfold inT; rw [Hid, Lib.itoa_nonneg]
  go_enter Tryd.func9, Tryd.ntmps9
  go_wp2_with fail
  refine (Tryd.strconv_Itoa_small n h _).mono ?_
  rintro e w' ⟨rfl, rfl⟩
  go_wp2
  go_ret
  exact ⟨ret_s hV.out, rfl⟩

/-- The table is there in a later world. -/
theorem tab_below {w w' : World} {zs : List Int} {name : String} {g : Nat} (hg : Tryd.prog.globalNamed name = some g) (hlt : g < w.heap.size) (h : Lib.TabIs Tryd.prog w name .u64 zs) (hb : Below w.heap.size w w') : Lib.TabIs Tryd.prog w' name .u64 zs := by
  exact var?_below hb hg hlt h

end Go.Proofs.YtjogaoocjcofdaaDoor
