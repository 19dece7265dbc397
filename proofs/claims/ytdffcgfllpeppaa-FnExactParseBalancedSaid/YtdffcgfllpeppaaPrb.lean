/- Contracts of ParseBalanced, the program's and the reference's (printed by mkprb.py). -/
import Derived.Test.YtdffcgfllpeppaaPrs
import Derived.Test.YtdffcgfllpeppaaFmb
namespace Go.Proofs.Ytdffcgfllpeppaa
open Go.RowKit

/-- The balanced digit of a character: 0, or -2, where it is none. -/
def rbc (c : UInt8) : Int := if c.toNat = 43 then 1 else if c.toNat = 45 then -1 else 0
def ixb (c : UInt8) : Int := if c.toNat = 43 then 1 else if c.toNat = 45 then -1 else if c.toNat = 48 then 0 else -2
def pbB (s : ByteArray) : Bool := decide (s.size ≠ 0) && decide (fbT (rdL rbc s) = s)
def pbL (s : ByteArray) : List Int := if pbB s then rdL rbc s else []
theorem rbc_bd (c : UInt8) : bd (rbc c) := by
  unfold rbc bd; split
  · omega
  · split <;> omega
theorem ixb_bd (c : UInt8) : bd (ixb c) := by
  unfold ixb bd; split
  · omega
  · split
    · omega
    · split <;> omega
theorem ixb_in (c : UInt8) : -2 ≤ ixb c ∧ ixb c ≤ 1 := by
  unfold ixb; split
  · omega
  · split
    · omega
    · split <;> omega
theorem rbc_way (c : UInt8) : (((c.toNat : Int) == 43) = true ∧ rbc c = 1) ∨ (((c.toNat : Int) == 43) = false ∧ ((c.toNat : Int) == 45) = true ∧ rbc c = -1) ∨ (((c.toNat : Int) == 43) = false ∧ ((c.toNat : Int) == 45) = false ∧ rbc c = 0) := by
  unfold rbc
  by_cases h1 : c.toNat = 43
  · refine .inl ⟨by simp [h1], by rw [if_pos h1]⟩
  · have e1 : ((c.toNat : Int) == 43) = false := by simp; omega
    by_cases h2 : c.toNat = 45
    · exact .inr (.inl ⟨e1, by simp [h2], by rw [if_neg h1, if_pos h2]⟩)
    · exact .inr (.inr ⟨e1, by simp; omega, by rw [if_neg h1, if_neg h2]⟩)

set_option maxHeartbeats 400000 in
theorem c_s_ParseBalanced (s : ByteArray) (w : World) (hs : s.size ≤ 1048576) :
    Calls Try.prog 49 #[.string s] w fun e w' => ∃ v', e = .returned (.tuple #[v', .bool (pbB s)]) ∧ Own w' w.heap.size v' (pbL s) ∧ Below w.heap.size w w' := by
  have hll := size_list s
  go_enter Try.func49, Try.ntmps49
  go_wp2
  go_loopw [4, 5] (fun v i wr => ∃ k : Nat, k ≤ s.size ∧ i = .int .i64 ((k : Int) - 1) ∧ Own wr w.heap.size v (((s.data.toList.drop k).reverse).map rbc) ∧ Below w.heap.size w wr) (fun _ i _ => (intOf i + 1).toNat)
  case atStart => exact ⟨s.size, by omega, rfl, by rw [List.drop_eq_nil_of_le (by omega)]; exact Own.empty _ _ (Nat.le_refl _), (Below.refl _ _).alloc (Nat.le_refl _) _⟩
  case round =>
    obtain ⟨k, hk, rfl, hown, hb⟩ := hrel
    by_cases hlt : 0 < k
    · have hg := get_list s (k - 1) (by omega)
      have hst : Hid ((((s.data.toList.drop k).reverse).map rbc) ++ [rbc s[k - 1]] = ((s.data.toList.drop (k - 1)).reverse).map rbc) := by
        rw [Hid, ← map_rev_step hlt (by omega), hg]
      have hix : ((k : Int) - 1).toNat = k - 1 := by omega
      have hlen : ((s.data.toList.drop k).reverse.map rbc).length < 17592186044415 := by rw [List.length_map, List.length_reverse, List.length_drop]; omega
      have hbd := rbc_bd s[k - 1]
      have HL := Lib.hid hlen
      clear hlen hg
      have hc := s[k - 1].toNat_lt
      have hway := rbc_way s[k - 1]
      rcases hway with ⟨hq1, hr⟩ | ⟨hq1, hq2, hr⟩ | ⟨hq1, hq2, hr⟩
      all_goals
        rw [hr] at hst hbd
        clear hr
        go_wp2_with (at_builtin; refine wpList_app _ rfl _ _ rfl w.heap.size w _ _ rfl (hown.alloc _) (hb.alloc hb.size _) (Nat.le_refl _) ⟨wr.heap.size, 0, none⟩ _ rfl (by simp) hbd HL.out ?_; intro v' w1 hown1 hb1 _; rw [hst.out] at hown1)
        go_roundw
        case rel => exact ⟨k - 1, by omega, by go_num, hown1, hb1⟩
        case measure => simp [intOf]; omega
    · have hk0 : k = 0 := by omega
      subst hk0
      rw [List.drop_zero] at hown
      obtain ⟨t, HT⟩ : ∃ t, Hid (fbT (rdL rbc s) = t) := ⟨_, rfl⟩
      have q1 : s.toList.isEmpty = decide (s.size = 0) := str_empty s
      have q2 : (s.toList == [48]) = decide (s = ⟨#[48]⟩) := by have h := str_beq s ⟨#[48]⟩; rwa [str_is ⟨#[48]⟩] at h
      have q3 : (t.toList == s.toList) = decide (t = s) := str_beq t s
      clear hll
      by_cases h0 : s.size = 0
      · have hB : Hid (pbB s = false) := by simp [Hid, pbB, h0]
        have hL : Hid (pbL s = []) := by simp [Hid, pbL, hB.out]
        have hne : ¬ s = ⟨#[48]⟩ := fun h => by rw [h] at h0; exact absurd h0 (by decide)
        rw [decide_eq_true h0] at q1
        rw [decide_eq_false hne] at q2
        clear q3
        go_wp2
        go_ret2
        exact ⟨_, ret_vbp hB.out.symm, by rw [hL.out]; exact Own.nil _ _, hb⟩
      · rw [decide_eq_false h0] at q1
        by_cases h48 : s = ⟨#[48]⟩
        · have hrd : Hid (rdL rbc s = []) := by rw [Hid, rdL, if_pos h48]
          have hown2 : Own (wr.alloc (.cells #[] 3)) w.heap.size (.slice (some ⟨wr.heap.size, 0, none⟩) 0 0) (rdL rbc s) := by rw [hrd.out]; exact (Own.empty wr _ hb.size)
          rw [decide_eq_true h48] at q2
          clear h48
          by_cases hts : t = s
          · have hB : Hid (pbB s = true) := by simp [Hid, pbB, h0, HT.out, hts]
            have hL : Hid (pbL s = rdL rbc s) := by simp [Hid, pbL, hB.out]
            rw [decide_eq_true hts] at q3
            go_wp2_with (go_at_call 41; refine (c_s_FormatBalanced _ (rdL rbc s) _ hown2.rd).mono ?_; rintro e w2 ⟨rfl, hb2⟩; rw [HT.out])
            go_ret2
            exact ⟨_, ret_vbp hB.out.symm, by rw [hL.out]; exact hown2.below hb2, (hb.alloc hb.size _).trans (hb2.mono (Nat.le_trans hb.size (by simp)))⟩
          · have hB : Hid (pbB s = false) := by simp [Hid, pbB, HT.out, hts]
            have hL : Hid (pbL s = []) := by simp [Hid, pbL, hB.out]
            rw [decide_eq_false hts] at q3
            go_wp2_with (go_at_call 41; refine (c_s_FormatBalanced _ (rdL rbc s) _ hown2.rd).mono ?_; rintro e w2 ⟨rfl, hb2⟩; rw [HT.out])
            go_ret2
            exact ⟨_, ret_vbp hB.out.symm, by rw [hL.out]; exact Own.nil _ _, (hb.alloc hb.size _).trans (hb2.mono (Nat.le_trans hb.size (by simp)))⟩
        · have hrd : s.data.toList.reverse.map rbc = rdL rbc s := by rw [rdL, if_neg h48]
          rw [hrd] at hown
          rw [decide_eq_false h48] at q2
          by_cases hts : t = s
          · have hB : Hid (pbB s = true) := by simp [Hid, pbB, h0, HT.out, hts]
            have hL : Hid (pbL s = rdL rbc s) := by simp [Hid, pbL, hB.out]
            rw [decide_eq_true hts] at q3
            go_wp2_with (go_at_call 41; refine (c_s_FormatBalanced _ (rdL rbc s) _ hown.rd).mono ?_; rintro e w2 ⟨rfl, hb2⟩; rw [HT.out])
            go_ret2
            exact ⟨_, ret_vbp hB.out.symm, by rw [hL.out]; exact hown.below hb2, hb.trans (hb2.mono hb.size)⟩
          · have hB : Hid (pbB s = false) := by simp [Hid, pbB, HT.out, hts]
            have hL : Hid (pbL s = []) := by simp [Hid, pbL, hB.out]
            rw [decide_eq_false hts] at q3
            go_wp2_with (go_at_call 41; refine (c_s_FormatBalanced _ (rdL rbc s) _ hown.rd).mono ?_; rintro e w2 ⟨rfl, hb2⟩; rw [HT.out])
            go_ret2
            exact ⟨_, ret_vbp hB.out.symm, by rw [hL.out]; exact Own.nil _ _, hb.trans (hb2.mono hb.size)⟩

set_option maxRecDepth 100000 in
theorem ixb_of (c : UInt8) : Lib.indexByte [45, 48, 43] c = ixb c + 1 := by
  have h : ∀ n, n < 256 → Lib.indexByte [45, 48, 43] (UInt8.ofNat n) = ixb (UInt8.ofNat n) + 1 := by decide
  have := h c.toNat c.toNat_lt
  simpa using this
set_option maxRecDepth 100000 in
theorem mkb_rbc (c : UInt8) (h : mkb (rbc c) = c) : ixb c = rbc c := by
  have hh : ∀ n, n < 256 → mkb (rbc (UInt8.ofNat n)) = UInt8.ofNat n → ixb (UInt8.ofNat n) = rbc (UInt8.ofNat n) := by decide
  have := hh c.toNat c.toNat_lt
  simp only [UInt8.ofNat_toNat] at this
  exact this h

theorem bok_all {xs : List Int} (h : ¬ fbT xs = ⟨#[]⟩) : bokB xs 3 = true := by
  cases e : bokB xs 3
  · exact absurd (by simp [fbT, e]) h
  · rfl
theorem good_ixb {s : ByteArray} (h : bokB (rdL ixb s) 3 = true) : rdL ixb s = rdL rbc s := by
  by_cases h48 : s = ⟨#[48]⟩
  · rw [rdL, rdL, if_pos h48, if_pos h48]
  · refine map_same fun c hc => ?_
    have hd := (bok_of h).2 (ixb c) (by rw [rdL, if_neg h48]; exact List.mem_map.2 ⟨c, List.mem_reverse.2 hc, rfl⟩)
    unfold ixb rbc at *
    split
    · rfl
    · split
      · rfl
      · split
        · rfl
        · exfalso; rw [if_neg (by assumption), if_neg (by assumption), if_neg (by assumption)] at hd; omega
theorem good_rbc {s : ByteArray} (h0 : ¬ s.size = 0) (h : fbT (rdL rbc s) = s) : rdL ixb s = rdL rbc s := by
  by_cases h48 : s = ⟨#[48]⟩
  · rw [rdL, rdL, if_pos h48, if_pos h48]
  · have hne : ¬ s = ⟨#[]⟩ := fun e => h0 (by rw [e]; rfl)
    have hk := bok_all (xs := rdL rbc s) (by rw [h]; exact hne)
    have hlen : ¬ (rdL rbc s).length = 0 := by rw [rdL, if_neg h48, List.length_map, List.length_reverse, size_list]; exact h0
    have ht : bxt (rdL rbc s) = s := by
      rw [fbT, hk, if_pos rfl, if_neg hlen] at h; exact h
    have hl : s.data.toList.map (fun c => mkb (rbc c)) = s.data.toList := by
      have := congrArg (fun t : ByteArray => t.data.toList) ht
      simpa [bxt, rdL, h48, List.map_reverse, Function.comp_def] using this
    refine map_same fun c hc => ?_
    apply mkb_rbc
    obtain ⟨j, hj, rfl⟩ := List.getElem_of_mem hc
    have := congrArg (fun l => l[j]?) hl
    simpa [List.getElem?_map, List.getElem?_eq_getElem hj] using this
theorem ixb_same {s : ByteArray} (h0 : ¬ s.size = 0) (h : fbT (rdL ixb s) = s ∨ fbT (rdL rbc s) = s) : rdL ixb s = rdL rbc s := by
  have hne : ¬ s = ⟨#[]⟩ := fun e => h0 (by rw [e]; rfl)
  rcases h with h | h
  · exact good_ixb (bok_all (by rw [h]; exact hne))
  · exact good_rbc h0 h

theorem pb_long {s : ByteArray} (h : 60 < s.size) : pbB s = false := by
  have h48 : ¬ s = ⟨#[48]⟩ := fun e => by rw [e] at h; exact absurd h (by decide)
  have h0 : ¬ s = ⟨#[]⟩ := fun e => by rw [e] at h; exact absurd h (by decide)
  have hn : ¬ fbT (rdL rbc s) = s := fun e => by
    have hd := (bok_of (bok_all (xs := rdL rbc s) (by rw [e]; exact h0))).1
    rw [rdL, if_neg h48, List.length_map, List.length_reverse, size_list] at hd
    omega
  simp [pbB, hn]

theorem c_IndexB (c : UInt8) (w : World) :
    Calls Try.prog 79 #[.string ⟨#[45, 48, 43]⟩, .int .u8 (c.toNat : Int)] w fun e w' => e = .returned (.int .i64 (ixb c + 1)) ∧ w = w' := by
  refine (Try.strings_IndexByte _ _ w).mono ?_
  rintro e w' ⟨rfl, rfl⟩
  refine ⟨ret_i ?_, rfl⟩
  rw [show ((c.toNat : Int).toNat.toUInt8) = c from by simp, ← ixb_of]

set_option maxHeartbeats 800000 in
theorem c_i_ParseBalanced (s : ByteArray) (w : World) (hs : s.size ≤ 1048576) :
    Calls Try.prog 50 #[.string s] w fun e w' => ∃ v', e = .returned (.tuple #[v', .bool (pbB s)]) ∧ Own w' w.heap.size v' (pbL s) ∧ Below w.heap.size w w' := by
  by_cases h60 : 60 < s.size
  · have hB : Hid (pbB s = false) := pb_long h60
    have hL : Hid (pbL s = []) := by simp [Hid, pbL, hB.out]
    go_enter Try.func50, Try.ntmps50
    go_wp2
    go_ret2
    exact ⟨_, ret_vbp hB.out.symm, by rw [hL.out]; exact Own.nil _ _, Below.refl _ _⟩
  have hll := size_list s
  obtain ⟨t, HT⟩ : ∃ t, Hid (fbT (rdL ixb s) = t) := ⟨_, rfl⟩
  have q1 : s.toList.isEmpty = decide (s.size = 0) := str_empty s
  have q2 : (s.toList == [48]) = decide (s = ⟨#[48]⟩) := by have h := str_beq s ⟨#[48]⟩; rwa [str_is ⟨#[48]⟩] at h
  have q3 : (t.toList == s.toList) = decide (t = s) := str_beq t s
  by_cases h48 : s = ⟨#[48]⟩
  · have hown : ∀ wr : World, Own wr w.heap.size (.slice none 0 0) (rdL ixb s) := fun wr => by rw [rdL, if_pos h48]; exact Own.nil _ _
    have h0 : ¬ s.size = 0 := by rw [h48]; decide
    rw [decide_eq_true h48] at q2
    rw [decide_eq_false h0] at q1
    clear h48 hll
    go_enter Try.func50, Try.ntmps50
    go_wp2
    go_loopw [4, 5] (fun v i wr => v = .slice none 0 0 ∧ i = .int .i64 ((s.size : Int) - 1) ∧ wr = w) (fun _ _ _ => 0)
    case atStart => exact ⟨rfl, rfl, rfl⟩
    case round =>
      obtain ⟨rfl, rfl, rfl⟩ := hrel
      have hown := hown wr
      have hb := Below.refl wr.heap.size wr
      by_cases hts : t = s
      · have hss := ixb_same h0 (.inl (HT.out.trans hts))
        have hB : Hid (pbB s = true) := by simp [Hid, pbB, h0, ← hss, HT.out, hts]
        have hL : Hid (pbL s = rdL ixb s) := by simp [Hid, pbL, hB.out, hss]
        rw [decide_eq_true hts] at q3
        clear hss
        go_wp2_with (go_at_call 42; refine (c_i_FormatBalanced _ (rdL ixb s) _ hown.rd).mono ?_; rintro e w2 ⟨rfl, hb2⟩; rw [HT.out])
        go_ret2
        exact ⟨_, ret_vbp hB.out.symm, by rw [hL.out]; exact hown.below hb2, hb.trans (hb2.mono hb.size)⟩
      · have hB : Hid (pbB s = false) := by
          have hn : ¬ fbT (rdL rbc s) = s := fun h => hts (by rw [← HT.out, ixb_same h0 (.inr h)]; exact h)
          simp [Hid, pbB, hn]
        have hL : Hid (pbL s = []) := by simp [Hid, pbL, hB.out]
        rw [decide_eq_false hts] at q3
        go_wp2_with (go_at_call 42; refine (c_i_FormatBalanced _ (rdL ixb s) _ hown.rd).mono ?_; rintro e w2 ⟨rfl, hb2⟩; rw [HT.out])
        go_ret2
        exact ⟨_, ret_vbp hB.out.symm, by rw [hL.out]; exact Own.nil _ _, hb.trans (hb2.mono hb.size)⟩
  · have hrd : s.data.toList.reverse.map ixb = rdL ixb s := by rw [rdL, if_neg h48]
    have HRD := Lib.hid hrd
    rw [decide_eq_false h48] at q2
    clear h48 hrd
    go_enter Try.func50, Try.ntmps50
    go_wp2
    go_loopw [4, 5] (fun v i wr => ∃ k : Nat, k ≤ s.size ∧ i = .int .i64 ((k : Int) - 1) ∧ Own wr w.heap.size v (((s.data.toList.drop k).reverse).map ixb) ∧ Below w.heap.size w wr) (fun _ i _ => (intOf i + 1).toNat)
    case atStart => exact ⟨s.size, by omega, rfl, by rw [List.drop_eq_nil_of_le (by omega)]; exact Own.nil _ _, Below.refl _ _⟩
    case round =>
      obtain ⟨k, hk, rfl, hown, hb⟩ := hrel
      by_cases hlt : 0 < k
      · have hg := get_list s (k - 1) (by omega)
        have hst : Hid ((((s.data.toList.drop k).reverse).map ixb) ++ [ixb s[k - 1]] = ((s.data.toList.drop (k - 1)).reverse).map ixb) := by
          rw [Hid, ← map_rev_step hlt (by omega), hg]
        have hix : ((k : Int) - 1).toNat = k - 1 := by omega
        have hlen : ((s.data.toList.drop k).reverse.map ixb).length < 17592186044415 := by rw [List.length_map, List.length_reverse, List.length_drop]; omega
        have hbd := ixb_bd s[k - 1]
        obtain ⟨hx1, hx2⟩ := ixb_in s[k - 1]
        have HL := Lib.hid hlen
        clear hlen hg q1 q3
        go_wp2_with (first | (go_at_call 79; refine (c_IndexB s[k - 1] _).mono ?_; rintro e w' ⟨rfl, rfl⟩) | (at_builtin; refine wpList_app _ rfl _ _ rfl w.heap.size w _ _ rfl (hown.alloc _) (hb.alloc hb.size _) (Nat.le_refl _) ⟨wr.heap.size, 0, none⟩ (ixb s[k - 1]) rfl (by simp) hbd HL.out ?_; intro v' w1 hown1 hb1 _; rw [hst.out] at hown1))
        go_roundw
        case rel => exact ⟨k - 1, by omega, by go_num, hown1, hb1⟩
        case measure => simp [intOf]; omega
      · have hk0 : k = 0 := by omega
        subst hk0
        rw [List.drop_zero, HRD.out] at hown
        clear hll
        by_cases h0 : s.size = 0
        · have hB : Hid (pbB s = false) := by simp [Hid, pbB, h0]
          have hL : Hid (pbL s = []) := by simp [Hid, pbL, hB.out]
          rw [decide_eq_true h0] at q1
          clear q3
          go_wp2
          go_ret2
          exact ⟨_, ret_vbp hB.out.symm, by rw [hL.out]; exact Own.nil _ _, hb⟩
        · rw [decide_eq_false h0] at q1
          by_cases hts : t = s
          · have hss := ixb_same h0 (.inl (HT.out.trans hts))
            have hB : Hid (pbB s = true) := by simp [Hid, pbB, h0, ← hss, HT.out, hts]
            have hL : Hid (pbL s = rdL ixb s) := by simp [Hid, pbL, hB.out, hss]
            rw [decide_eq_true hts] at q3
            clear hss
            go_wp2_with (go_at_call 42; refine (c_i_FormatBalanced _ (rdL ixb s) _ hown.rd).mono ?_; rintro e w2 ⟨rfl, hb2⟩; rw [HT.out])
            go_ret2
            exact ⟨_, ret_vbp hB.out.symm, by rw [hL.out]; exact hown.below hb2, hb.trans (hb2.mono hb.size)⟩
          · have hB : Hid (pbB s = false) := by
              have hn : ¬ fbT (rdL rbc s) = s := fun h => hts (by rw [← HT.out, ixb_same h0 (.inr h)]; exact h)
              simp [Hid, pbB, hn]
            have hL : Hid (pbL s = []) := by simp [Hid, pbL, hB.out]
            rw [decide_eq_false hts] at q3
            go_wp2_with (go_at_call 42; refine (c_i_FormatBalanced _ (rdL ixb s) _ hown.rd).mono ?_; rintro e w2 ⟨rfl, hb2⟩; rw [HT.out])
            go_ret2
            exact ⟨_, ret_vbp hB.out.symm, by rw [hL.out]; exact Own.nil _ _, hb.trans (hb2.mono hb.size)⟩

theorem pbL_len (s : ByteArray) (h : s.size ≤ 1048576) : (pbL s).length ≤ 1048576 := by
  unfold pbL rdL
  split
  · split
    · simp
    · rw [List.length_map, List.length_reverse, size_list]; exact h
  · simp

end Go.Proofs.Ytdffcgfllpeppaa
