/- Contracts of ParseDigits, the program's and the reference's. -/
import Derived.Test.YtdffcgfllpeppaaFmt
import Derived.Test.YtdffcgfllpeppaaShelf
namespace Go.Proofs.Ytdffcgfllpeppaa
open Go.RowKit

/-- The digit of a character: -1, or 16, where it is none. -/
def rdc (c : UInt8) : Int := if 48 ≤ c.toNat ∧ c.toNat ≤ 57 then c.toNat - 48 else if 97 ≤ c.toNat ∧ c.toNat ≤ 102 then c.toNat - 87 else 16
def ixc (c : UInt8) : Int := if rdc c = 16 then -1 else rdc c

/-- The list that is read, each character by f. -/
def rdL (f : UInt8 → Int) (s : ByteArray) : List Int := if s = ⟨#[48]⟩ then [] else s.data.toList.reverse.map f
def pdB (s : ByteArray) (b : Int) : Bool := decide (s.size ≠ 0) && decide (fdT (rdL rdc s) b = s)
def pdL (s : ByteArray) (b : Int) : List Int := if pdB s b then rdL rdc s else []

set_option maxHeartbeats 400000 in
theorem c_s_l02Read (c : UInt8) (w : World) :
    Calls Try.prog 80 #[.int .i64 (c.toNat : Int)] w fun e w' => e = .returned (.int .i64 (rdc c)) ∧ w = w' := by
  have hc : c.toNat < 256 := c.toNat_lt
  have HR := Lib.hid (show rdc c = if 48 ≤ c.toNat ∧ c.toNat ≤ 57 then (c.toNat : Int) - 48 else if 97 ≤ c.toNat ∧ c.toNat ≤ 102 then (c.toNat : Int) - 87 else 16 from rfl)
  by_cases h1 : 48 ≤ c.toNat
  · by_cases h2 : c.toNat ≤ 57
    · go_enter Try.func80, Try.ntmps80
      go_wp2
      go_ret
      exact ⟨ret_i (by rw [HR.out, if_pos ⟨h1, h2⟩]), rfl⟩
    · by_cases h3 : 97 ≤ c.toNat
      · by_cases h4 : c.toNat ≤ 102
        · go_enter Try.func80, Try.ntmps80
          go_wp2
          go_ret
          exact ⟨ret_i (by rw [HR.out, if_neg (by omega), if_pos ⟨h3, h4⟩]; omega), rfl⟩
        · go_enter Try.func80, Try.ntmps80
          go_wp2
          go_ret
          exact ⟨ret_i (by rw [HR.out, if_neg (by omega), if_neg (by omega)]), rfl⟩
      · go_enter Try.func80, Try.ntmps80
        go_wp2
        go_ret
        exact ⟨ret_i (by rw [HR.out, if_neg (by omega), if_neg (by omega)]), rfl⟩
  · go_enter Try.func80, Try.ntmps80
    go_wp2
    go_ret
    exact ⟨ret_i (by rw [HR.out, if_neg (by omega), if_neg (by omega)]), rfl⟩

theorem map_rev_step {f : UInt8 → Int} {l : List UInt8} {k : Nat} (hk : 0 < k) (h : k ≤ l.length) : ((l.drop k).reverse).map f ++ [f (l.getD (k - 1) 0)] = ((l.drop (k - 1)).reverse).map f := by
  have e : l.drop (k - 1) = l.getD (k - 1) 0 :: l.drop k := by
    rw [List.drop_eq_getElem_cons (by omega), show k - 1 + 1 = k from by omega]
    simp [List.getD_eq_getElem?_getD, List.getElem?_eq_getElem (show k - 1 < l.length by omega)]
  rw [e]; simp
theorem rdc_bd (c : UInt8) : bd (rdc c) := by
  have hc : c.toNat < 256 := c.toNat_lt
  unfold rdc bd
  split
  · omega
  · split <;> omega

theorem wrap_byte (c : UInt8) : wrap64 (c.toNat : Int) = c.toNat := by
  have := c.toNat_lt
  unfold wrap64; omega

theorem ret_vbp {v : Value} {c d : Bool} (k : c = d) : Ending.returned (.tuple #[v, .bool c]) = .returned (.tuple #[v, .bool d]) := by rw [k]
theorem loop_is (bs : ByteArray) : ∀ n i r, bs.size - i = n → ByteArray.toList.loop bs i r = r.reverse ++ bs.data.toList.drop i := by
  intro n
  induction n with
  | zero =>
    intro i r h
    unfold ByteArray.toList.loop
    rw [if_neg (by omega), List.drop_eq_nil_of_le (by rw [size_list]; omega)]
    simp
  | succ n ih =>
    intro i r h
    unfold ByteArray.toList.loop
    rw [if_pos (by omega), ih (i + 1) _ (by omega), List.drop_eq_getElem_cons (i := i) (by rw [size_list]; omega)]
    have hi : i < bs.data.size := by show i < bs.size; omega
    simp only [ByteArray.get!, List.reverse_cons, List.append_assoc, List.singleton_append, Array.getElem_toList]
    rw [getElem!_pos bs.data i hi]
theorem str_is (s : ByteArray) : s.toList = s.data.toList := by
  have := loop_is s s.size 0 [] (by omega)
  simpa [ByteArray.toList] using this
theorem str_beq (a b : ByteArray) : (a.toList == b.toList) = decide (a = b) := by
  rw [str_is, str_is]
  by_cases h : a = b
  · subst h; simp
  · have : ¬ a.data.toList = b.data.toList := fun e => h (ByteArray.ext (by simpa using e))
    simp [h]
    intro e; exact this (by simp [e])

set_option maxHeartbeats 400000 in
theorem c_s_ParseDigits (s : ByteArray) (b : Int) (w : World) (hs : s.size ≤ 1048576) :
    Calls Try.prog 51 #[.string s, .int .i64 b] w fun e w' => ∃ v', e = .returned (.tuple #[v', .bool (pdB s b)]) ∧ Own w' w.heap.size v' (pdL s b) ∧ Below w.heap.size w w' := by
  have hll := size_list s
  go_enter Try.func51, Try.ntmps51
  go_wp2
  go_loopw [6, 7] (fun v i wr => ∃ k : Nat, k ≤ s.size ∧ i = .int .i64 ((k : Int) - 1) ∧ Own wr w.heap.size v (((s.data.toList.drop k).reverse).map rdc) ∧ Below w.heap.size w wr) (fun _ i _ => (intOf i + 1).toNat)
  case atStart => exact ⟨s.size, by omega, rfl, by rw [List.drop_eq_nil_of_le (by omega)]; exact Own.empty _ _ (Nat.le_refl _), (Below.refl _ _).alloc (Nat.le_refl _) _⟩
  case round =>
    obtain ⟨k, hk, rfl, hown, hb⟩ := hrel
    by_cases hlt : 0 < k
    · have hg := get_list s (k - 1) (by omega)
      have hst : Hid ((((s.data.toList.drop k).reverse).map rdc) ++ [rdc s[k - 1]] = ((s.data.toList.drop (k - 1)).reverse).map rdc) := by
        rw [Hid, ← map_rev_step hlt (by omega), hg]
      have hix : ((k : Int) - 1).toNat = k - 1 := by omega
      have hlen : ((s.data.toList.drop k).reverse.map rdc).length < 17592186044415 := by rw [List.length_map, List.length_reverse, List.length_drop]; omega
      have hbd := rdc_bd s[k - 1]
      have HL := Lib.hid hlen
      clear hlen hg
      go_wp2_with (first | (go_at_call 80; rw [wrap_byte]; refine (c_s_l02Read s[k - 1] _).mono ?_; rintro e w' ⟨rfl, rfl⟩) | (at_builtin; refine wpList_app _ rfl _ _ rfl w.heap.size w _ _ rfl (hown.alloc _) (hb.alloc hb.size _) (Nat.le_refl _) ⟨wr.heap.size, 0, none⟩ _ rfl (by simp) hbd HL.out ?_; intro v' w1 hown1 hb1 _; rw [hst.out] at hown1))
      go_roundw
      case rel => exact ⟨k - 1, by omega, by go_num, hown1, hb1⟩
      case measure => simp [intOf]; omega
    · have hk0 : k = 0 := by omega
      subst hk0
      rw [List.drop_zero] at hown
      obtain ⟨t, HT⟩ : ∃ t, Hid (fdT (rdL rdc s) b = t) := ⟨_, rfl⟩
      have q1 : s.toList.isEmpty = decide (s.size = 0) := str_empty s
      have q2 : (s.toList == [48]) = decide (s = ⟨#[48]⟩) := by have h := str_beq s ⟨#[48]⟩; rwa [str_is ⟨#[48]⟩] at h
      have q3 : (t.toList == s.toList) = decide (t = s) := str_beq t s
      clear hll
      by_cases h0 : s.size = 0
      · have hB : Hid (pdB s b = false) := by simp [Hid, pdB, h0]
        have hL : Hid (pdL s b = []) := by simp [Hid, pdL, hB.out]
        have hne : ¬ s = ⟨#[48]⟩ := fun h => by rw [h] at h0; exact absurd h0 (by decide)
        rw [decide_eq_true h0] at q1
        rw [decide_eq_false hne] at q2
        clear q3
        go_wp2
        go_ret2
        exact ⟨_, ret_vbp hB.out.symm, by rw [hL.out]; exact Own.nil _ _, hb⟩
      · rw [decide_eq_false h0] at q1
        by_cases h48 : s = ⟨#[48]⟩
        · have hrd : Hid (rdL rdc s = []) := by rw [Hid, rdL, if_pos h48]
          have hown2 : Own (wr.alloc (.cells #[] 3)) w.heap.size (.slice (some ⟨wr.heap.size, 0, none⟩) 0 0) (rdL rdc s) := by rw [hrd.out]; exact (Own.empty wr _ hb.size)
          rw [decide_eq_true h48] at q2
          clear h48
          by_cases hts : t = s
          · have hB : Hid (pdB s b = true) := by simp [Hid, pdB, h0, HT.out, hts]
            have hL : Hid (pdL s b = rdL rdc s) := by simp [Hid, pdL, hB.out]
            rw [decide_eq_true hts] at q3
            go_wp2_with (go_at_call 39; refine (c_s_FormatDigits _ (rdL rdc s) _ _ hown2.rd).mono ?_; rintro e w2 ⟨rfl, hb2⟩; rw [HT.out])
            go_goals
            go_ret2
            exact ⟨_, ret_vbp hB.out.symm, by rw [hL.out]; exact hown2.below hb2, (hb.alloc hb.size _).trans (hb2.mono (Nat.le_trans hb.size (by simp)))⟩
          · have hB : Hid (pdB s b = false) := by simp [Hid, pdB, HT.out, hts]
            have hL : Hid (pdL s b = []) := by simp [Hid, pdL, hB.out]
            rw [decide_eq_false hts] at q3
            go_wp2_with (go_at_call 39; refine (c_s_FormatDigits _ (rdL rdc s) _ _ hown2.rd).mono ?_; rintro e w2 ⟨rfl, hb2⟩; rw [HT.out])
            go_goals
            go_ret2
            exact ⟨_, ret_vbp hB.out.symm, by rw [hL.out]; exact Own.nil _ _, (hb.alloc hb.size _).trans (hb2.mono (Nat.le_trans hb.size (by simp)))⟩
        · have hrd : s.data.toList.reverse.map rdc = rdL rdc s := by rw [rdL, if_neg h48]
          rw [hrd] at hown
          rw [decide_eq_false h48] at q2
          by_cases hts : t = s
          · have hB : Hid (pdB s b = true) := by simp [Hid, pdB, h0, HT.out, hts]
            have hL : Hid (pdL s b = rdL rdc s) := by simp [Hid, pdL, hB.out]
            rw [decide_eq_true hts] at q3
            go_wp2_with (go_at_call 39; refine (c_s_FormatDigits _ (rdL rdc s) _ _ hown.rd).mono ?_; rintro e w2 ⟨rfl, hb2⟩; rw [HT.out])
            go_goals
            go_ret2
            exact ⟨_, ret_vbp hB.out.symm, by rw [hL.out]; exact hown.below hb2, hb.trans (hb2.mono hb.size)⟩
          · have hB : Hid (pdB s b = false) := by simp [Hid, pdB, HT.out, hts]
            have hL : Hid (pdL s b = []) := by simp [Hid, pdL, hB.out]
            rw [decide_eq_false hts] at q3
            go_wp2_with (go_at_call 39; refine (c_s_FormatDigits _ (rdL rdc s) _ _ hown.rd).mono ?_; rintro e w2 ⟨rfl, hb2⟩; rw [HT.out])
            go_goals
            go_ret2
            exact ⟨_, ret_vbp hB.out.symm, by rw [hL.out]; exact Own.nil _ _, hb.trans (hb2.mono hb.size)⟩

set_option maxRecDepth 100000 in
theorem ixc_of (c : UInt8) : Lib.indexByte [48, 49, 50, 51, 52, 53, 54, 55, 56, 57, 97, 98, 99, 100, 101, 102] c = ixc c := by
  have h : ∀ n, n < 256 → Lib.indexByte [48, 49, 50, 51, 52, 53, 54, 55, 56, 57, 97, 98, 99, 100, 101, 102] (UInt8.ofNat n) = ixc (UInt8.ofNat n) := by decide
  have := h c.toNat c.toNat_lt
  simpa using this

/-- Both readings find the same texts. -/
theorem dok_all {xs : List Int} {b : Int} (h : ¬ fdT xs b = ⟨#[]⟩) : dokB xs b = true := by
  cases e : dokB xs b
  · exact absurd (by simp [fdT, e]) h
  · rfl
theorem map_same {s : ByteArray} {f g : UInt8 → Int} (h : ∀ c, c ∈ s.data.toList → f c = g c) : rdL f s = rdL g s := by
  unfold rdL
  split
  · rfl
  · exact List.map_congr_left fun c hc => h c (List.mem_reverse.1 hc)
theorem good_ix {s : ByteArray} {b : Int} (h : dokB (rdL ixc s) b = true) : rdL ixc s = rdL rdc s := by
  by_cases h48 : s = ⟨#[48]⟩
  · rw [rdL, rdL, if_pos h48, if_pos h48]
  · refine map_same fun c hc => ?_
    have hd := (dok_of h).2.2 (ixc c) (by rw [rdL, if_neg h48]; exact List.mem_map.2 ⟨c, List.mem_reverse.2 hc, rfl⟩)
    unfold ixc at hd ⊢
    split at hd <;> simp_all
theorem good_rd {s : ByteArray} {b : Int} (h : dokB (rdL rdc s) b = true) : rdL ixc s = rdL rdc s := by
  by_cases h48 : s = ⟨#[48]⟩
  · rw [rdL, rdL, if_pos h48, if_pos h48]
  · refine map_same fun c hc => ?_
    have hd0 := dok_of h
    have hd := hd0.2.2 (rdc c) (by rw [rdL, if_neg h48]; exact List.mem_map.2 ⟨c, List.mem_reverse.2 hc, rfl⟩)
    unfold ixc
    rw [if_neg (by omega)]
theorem ix_same {s : ByteArray} {b : Int} (h0 : ¬ s.size = 0) (h : fdT (rdL ixc s) b = s ∨ fdT (rdL rdc s) b = s) : rdL ixc s = rdL rdc s := by
  have hne : ¬ s = ⟨#[]⟩ := fun e => h0 (by rw [e]; rfl)
  rcases h with h | h
  · exact good_ix (dok_all (by rw [h]; exact hne))
  · exact good_rd (dok_all (by rw [h]; exact hne))

theorem pd_long {s : ByteArray} {b : Int} (h : 60 < s.size) : pdB s b = false := by
  have h48 : ¬ s = ⟨#[48]⟩ := fun e => by rw [e] at h; exact absurd h (by decide)
  have h0 : ¬ s = ⟨#[]⟩ := fun e => by rw [e] at h; exact absurd h (by decide)
  have hn : ¬ fdT (rdL rdc s) b = s := fun e => by
    have hd := (dok_of (dok_all (xs := rdL rdc s) (b := b) (by rw [e]; exact h0))).2.1
    rw [rdL, if_neg h48, List.length_map, List.length_reverse, size_list] at hd
    omega
  simp [pdB, hn]
theorem ixc_bd (c : UInt8) : bd (ixc c) := by
  have := rdc_bd c
  unfold ixc; unfold bd at *
  split <;> omega

theorem c_Index (c : UInt8) (w : World) :
    Calls Try.prog 79 #[.string ⟨#[48, 49, 50, 51, 52, 53, 54, 55, 56, 57, 97, 98, 99, 100, 101, 102]⟩, .int .u8 (c.toNat : Int)] w fun e w' => e = .returned (.int .i64 (ixc c)) ∧ w = w' := by
  refine (Try.strings_IndexByte _ _ w).mono ?_
  rintro e w' ⟨rfl, rfl⟩
  refine ⟨ret_i ?_, rfl⟩
  rw [show ((c.toNat : Int).toNat.toUInt8) = c from by simp, ← ixc_of]

set_option maxHeartbeats 800000 in
theorem c_i_ParseDigits (s : ByteArray) (b : Int) (w : World) (hs : s.size ≤ 1048576) :
    Calls Try.prog 52 #[.string s, .int .i64 b] w fun e w' => ∃ v', e = .returned (.tuple #[v', .bool (pdB s b)]) ∧ Own w' w.heap.size v' (pdL s b) ∧ Below w.heap.size w w' := by
  by_cases h60 : 60 < s.size
  · have hB : Hid (pdB s b = false) := pd_long h60
    have hL : Hid (pdL s b = []) := by simp [Hid, pdL, hB.out]
    go_enter Try.func52, Try.ntmps52
    go_wp2
    go_ret2
    exact ⟨_, ret_vbp hB.out.symm, by rw [hL.out]; exact Own.nil _ _, Below.refl _ _⟩
  have hll := size_list s
  obtain ⟨t, HT⟩ : ∃ t, Hid (fdT (rdL ixc s) b = t) := ⟨_, rfl⟩
  have q1 : s.toList.isEmpty = decide (s.size = 0) := str_empty s
  have q2 : (s.toList == [48]) = decide (s = ⟨#[48]⟩) := by have h := str_beq s ⟨#[48]⟩; rwa [str_is ⟨#[48]⟩] at h
  have q3 : (t.toList == s.toList) = decide (t = s) := str_beq t s
  by_cases h48 : s = ⟨#[48]⟩
  · have hown : ∀ wr : World, Own wr w.heap.size (.slice none 0 0) (rdL ixc s) := fun wr => by rw [rdL, if_pos h48]; exact Own.nil _ _
    have h0 : ¬ s.size = 0 := by rw [h48]; decide
    rw [decide_eq_true h48] at q2
    rw [decide_eq_false h0] at q1
    clear h48 hll
    go_enter Try.func52, Try.ntmps52
    go_wp2
    go_loopw [6, 7] (fun v i wr => v = .slice none 0 0 ∧ i = .int .i64 ((s.size : Int) - 1) ∧ wr = w) (fun _ _ _ => 0)
    case atStart => exact ⟨rfl, rfl, rfl⟩
    case round =>
      obtain ⟨rfl, rfl, rfl⟩ := hrel
      have hown := hown wr
      have hb := Below.refl wr.heap.size wr
      by_cases hts : t = s
      · have hss := ix_same h0 (b := b) (.inl (HT.out.trans hts))
        have hB : Hid (pdB s b = true) := by simp [Hid, pdB, h0, ← hss, HT.out, hts]
        have hL : Hid (pdL s b = rdL ixc s) := by simp [Hid, pdL, hB.out, hss]
        rw [decide_eq_true hts] at q3
        clear hss
        go_wp2_with (go_at_call 40; refine (c_i_FormatDigits _ (rdL ixc s) _ _ hown.rd).mono ?_; rintro e w2 ⟨rfl, hb2⟩; rw [HT.out])
        go_goals
        go_ret2
        exact ⟨_, ret_vbp hB.out.symm, by rw [hL.out]; exact hown.below hb2, hb.trans (hb2.mono hb.size)⟩
      · have hB : Hid (pdB s b = false) := by
          have hn : ¬ fdT (rdL rdc s) b = s := fun h => hts (by rw [← HT.out, ix_same h0 (.inr h)]; exact h)
          simp [Hid, pdB, hn]
        have hL : Hid (pdL s b = []) := by simp [Hid, pdL, hB.out]
        rw [decide_eq_false hts] at q3
        go_wp2_with (go_at_call 40; refine (c_i_FormatDigits _ (rdL ixc s) _ _ hown.rd).mono ?_; rintro e w2 ⟨rfl, hb2⟩; rw [HT.out])
        go_goals
        go_ret2
        exact ⟨_, ret_vbp hB.out.symm, by rw [hL.out]; exact Own.nil _ _, hb.trans (hb2.mono hb.size)⟩
  · have hrd : s.data.toList.reverse.map ixc = rdL ixc s := by rw [rdL, if_neg h48]
    have HRD := Lib.hid hrd
    rw [decide_eq_false h48] at q2
    clear h48 hrd
    go_enter Try.func52, Try.ntmps52
    go_wp2
    go_loopw [6, 7] (fun v i wr => ∃ k : Nat, k ≤ s.size ∧ i = .int .i64 ((k : Int) - 1) ∧ Own wr w.heap.size v (((s.data.toList.drop k).reverse).map ixc) ∧ Below w.heap.size w wr) (fun _ i _ => (intOf i + 1).toNat)
    case atStart => exact ⟨s.size, by omega, rfl, by rw [List.drop_eq_nil_of_le (by omega)]; exact Own.nil _ _, Below.refl _ _⟩
    case round =>
      obtain ⟨k, hk, rfl, hown, hb⟩ := hrel
      by_cases hlt : 0 < k
      · have hg := get_list s (k - 1) (by omega)
        have hst : Hid ((((s.data.toList.drop k).reverse).map ixc) ++ [ixc s[k - 1]] = ((s.data.toList.drop (k - 1)).reverse).map ixc) := by
          rw [Hid, ← map_rev_step hlt (by omega), hg]
        have hix : ((k : Int) - 1).toNat = k - 1 := by omega
        have hlen : ((s.data.toList.drop k).reverse.map ixc).length < 17592186044415 := by rw [List.length_map, List.length_reverse, List.length_drop]; omega
        have hbd := ixc_bd s[k - 1]
        have HL := Lib.hid hlen
        clear hlen hg q1 q3
        go_wp2_with (first | (go_at_call 79; refine (c_Index s[k - 1] _).mono ?_; rintro e w' ⟨rfl, rfl⟩) | (at_builtin; refine wpList_app _ rfl _ _ rfl w.heap.size w _ _ rfl (hown.alloc _) (hb.alloc hb.size _) (Nat.le_refl _) ⟨wr.heap.size, 0, none⟩ _ rfl (by simp) hbd HL.out ?_; intro v' w1 hown1 hb1 _; rw [hst.out] at hown1))
        go_roundw
        case rel => exact ⟨k - 1, by omega, by go_num, hown1, hb1⟩
        case measure => simp [intOf]; omega
      · have hk0 : k = 0 := by omega
        subst hk0
        rw [List.drop_zero, HRD.out] at hown
        clear hll
        by_cases h0 : s.size = 0
        · have hB : Hid (pdB s b = false) := by simp [Hid, pdB, h0]
          have hL : Hid (pdL s b = []) := by simp [Hid, pdL, hB.out]
          rw [decide_eq_true h0] at q1
          clear q3
          go_wp2
          go_ret2
          exact ⟨_, ret_vbp hB.out.symm, by rw [hL.out]; exact Own.nil _ _, hb⟩
        · rw [decide_eq_false h0] at q1
          by_cases hts : t = s
          · have hss := ix_same h0 (b := b) (.inl (HT.out.trans hts))
            have hB : Hid (pdB s b = true) := by simp [Hid, pdB, h0, ← hss, HT.out, hts]
            have hL : Hid (pdL s b = rdL ixc s) := by simp [Hid, pdL, hB.out, hss]
            rw [decide_eq_true hts] at q3
            clear hss
            go_wp2_with (go_at_call 40; refine (c_i_FormatDigits _ (rdL ixc s) _ _ hown.rd).mono ?_; rintro e w2 ⟨rfl, hb2⟩; rw [HT.out])
            go_goals
            go_ret2
            exact ⟨_, ret_vbp hB.out.symm, by rw [hL.out]; exact hown.below hb2, hb.trans (hb2.mono hb.size)⟩
          · have hB : Hid (pdB s b = false) := by
              have hn : ¬ fdT (rdL rdc s) b = s := fun h => hts (by rw [← HT.out, ix_same h0 (.inr h)]; exact h)
              simp [Hid, pdB, hn]
            have hL : Hid (pdL s b = []) := by simp [Hid, pdL, hB.out]
            rw [decide_eq_false hts] at q3
            go_wp2_with (go_at_call 40; refine (c_i_FormatDigits _ (rdL ixc s) _ _ hown.rd).mono ?_; rintro e w2 ⟨rfl, hb2⟩; rw [HT.out])
            go_goals
            go_ret2
            exact ⟨_, ret_vbp hB.out.symm, by rw [hL.out]; exact Own.nil _ _, hb.trans (hb2.mono hb.size)⟩

theorem pdL_len (s : ByteArray) (b : Int) (h : s.size ≤ 1048576) : (pdL s b).length ≤ 1048576 := by
  unfold pdL rdL
  split
  · split
    · simp
    · rw [List.length_map, List.length_reverse, size_list]; exact h
  · simp

end Go.Proofs.Ytdffcgfllpeppaa
