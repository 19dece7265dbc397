/- Contracts of the text functions of chapter 2 that look at single bytes. -/
import Derived.Test.YtjogaoocjcofdaaDoorInt
import Derived.WalkSpells
namespace Go.Proofs.YtjogaoocjcofdaaDoor
open Go.RowKit

/-- A digit; a lower-case letter. -/
def dg (c : UInt8) : Bool := decide (48 ≤ c.toNat ∧ c.toNat ≤ 57)
def lw (c : UInt8) : Bool := decide (97 ≤ c.toNat ∧ c.toNat ≤ 122)

def digP (l : List UInt8) : Prop := 0 < l.length ∧ ∀ j, j < l.length → dg (l.getD j 0) = true
def nmP (l : List UInt8) : Prop := (1 ≤ l.length ∧ l.length ≤ 8) ∧ ∀ j, j < l.length → (lw (l.getD j 0) || (j != 0 && dg (l.getD j 0))) = true
instance (l : List UInt8) : Decidable (digP l) := by unfold digP; infer_instance
instance (l : List UInt8) : Decidable (nmP l) := by unfold nmP; infer_instance

theorem get_list (s : ByteArray) (k : Nat) (h : k < s.size) : s.data.toList.getD k 0 = s[k] := by
  have h' : k < s.data.toList.length := by simpa using h
  rw [List.getD_eq_getElem?_getD, List.getElem?_eq_getElem h']
  rfl

theorem size_list (s : ByteArray) : s.data.toList.length = s.size := by simp

theorem loop_len (bs : ByteArray) : ∀ n i acc, bs.size - i = n → (ByteArray.toList.loop bs i acc).length = acc.length + n := by
  intro n
  induction n with
  | zero =>
    intro i acc h
    unfold ByteArray.toList.loop
    rw [if_neg (by omega)]
    simp
  | succ n ih =>
    intro i acc h
    unfold ByteArray.toList.loop
    rw [if_pos (by omega), ih (i + 1) _ (by omega)]
    simp; omega
theorem str_len (s : ByteArray) : s.toList.length = s.size := by
  have := loop_len s s.size 0 [] (by omega)
  simpa [ByteArray.toList] using this
theorem str_empty (s : ByteArray) : s.toList.isEmpty = decide (s.size = 0) := by
  rw [← str_len]; cases s.toList <;> simp

theorem all_step {P : Nat → Prop} {k : Nat} (h : ∀ j, j < k → P j) (hk : P k) : ∀ j, j < k + 1 → P j := fun j hj => by
  rcases Nat.lt_succ_iff_lt_or_eq.1 hj with h1 | h1
  · exact h j h1
  · rw [h1]; exact hk

set_option maxHeartbeats 400000 in
theorem c_s_IsDigits (s : ByteArray) (w : World) (hs : s.size ≤ 9223372036854775807) :
    Calls Tryd.prog 32 #[.string s] w fun e w' => e = .returned (.bool (decide (digP s.data.toList))) ∧ w = w' := by
  go_enter Tryd.func32, Tryd.ntmps32
  go_wp2
  go_loop [3] (fun i => ∃ k : Nat, k ≤ s.size ∧ i = .int .i64 k ∧ Hid (∀ j, j < k → dg (s.data.toList.getD j 0) = true)) (fun i => s.size - (intOf i).toNat)
  case atStart => exact ⟨0, by omega, rfl, fun j hj => by omega⟩
  case round =>
    obtain ⟨k, hk, rfl, hq⟩ := hrel
    by_cases hlt : k < s.size
    · have hg := get_list s k hlt
      by_cases hd : 48 ≤ s[k].toNat ∧ s[k].toNat ≤ 57
      · obtain ⟨hd1, hd2⟩ := hd
        have hq2 : Hid (∀ j, j < k + 1 → dg (s.data.toList.getD j 0) = true) := all_step hq.out (by rw [hg]; simp [dg, hd1, hd2])
        clear hq hg
        go_wp2
        go_round
        case rel => exact ⟨k + 1, by omega, by go_num, hq2⟩
        case measure => simp [intOf]; omega
      · have hfin : Hid (decide (digP s.data.toList) = false) := decide_eq_false fun h => by
          have h2 := h.2 k (by rw [size_list]; exact hlt)
          rw [hg] at h2
          simp only [dg, decide_eq_true_eq] at h2
          exact hd h2
        have hd' : s[k].toNat < 48 ∨ (48 ≤ s[k].toNat ∧ 57 < s[k].toNat) := by omega
        clear hd hq hg
        rcases hd' with hd | ⟨hd, hd2⟩
        all_goals
          go_wp2
          go_ret
          exact ⟨ret_b hfin.out.symm, rfl⟩
    · have hks : k = s.size := by omega
      by_cases h0 : 0 < s.size
      · have hfin : Hid (decide (digP s.data.toList) = true) := decide_eq_true ⟨by rw [size_list]; exact h0, fun j hj => hq.out j (by rw [size_list] at hj; omega)⟩
        clear hq hks
        go_wp2
        go_ret
        exact ⟨ret_b hfin.out.symm, rfl⟩
      · have hfin : Hid (decide (digP s.data.toList) = false) := decide_eq_false fun h => h0 (by have := h.1; rw [size_list] at this; exact this)
        clear hq hks
        go_wp2
        go_ret
        exact ⟨ret_b hfin.out.symm, rfl⟩

set_option maxHeartbeats 400000 in
theorem c_i_IsDigits (s : ByteArray) (w : World) (hs : s.size ≤ 9223372036854775807) :
    Calls Tryd.prog 41 #[.string s] w fun e w' => e = .returned (.bool (decide (digP s.data.toList))) ∧ w = w' := by
  go_enter Tryd.func41, Tryd.ntmps41
  go_wp2
  go_loop [3, 6] (fun _ i => ∃ k : Nat, k ≤ s.size ∧ i = .int .i64 k ∧ Hid (∀ j, j < k → dg (s.data.toList.getD j 0) = true)) (fun _ i => s.size - (intOf i).toNat)
  case atStart => exact ⟨0, by omega, rfl, fun j hj => by omega⟩
  case round =>
    obtain ⟨k, hk, rfl, hq⟩ := hrel
    by_cases hlt : k < s.size
    · have hg := get_list s k hlt
      by_cases hd : 48 ≤ s[k].toNat ∧ s[k].toNat ≤ 57
      · obtain ⟨hd1, hd2⟩ := hd
        have hq2 : Hid (∀ j, j < k + 1 → dg (s.data.toList.getD j 0) = true) := all_step hq.out (by rw [hg]; simp [dg, hd1, hd2])
        clear hq hg
        go_wp2
        go_round
        case rel => exact ⟨k + 1, by omega, by go_num, hq2⟩
        case measure => simp [intOf]; omega
      · have hfin : Hid (decide (digP s.data.toList) = false) := decide_eq_false fun h => by
          have h2 := h.2 k (by rw [size_list]; exact hlt)
          rw [hg] at h2
          simp only [dg, decide_eq_true_eq] at h2
          exact hd h2
        have hd' : s[k].toNat < 48 ∨ (48 ≤ s[k].toNat ∧ 57 < s[k].toNat) := by omega
        clear hd hq hg
        rcases hd' with hd | ⟨hd, hd2⟩
        all_goals
          go_wp2
          go_ret
          exact ⟨ret_b hfin.out.symm, rfl⟩
    · have hks : k = s.size := by omega
      have hfin : Hid (decide (digP s.data.toList) = !s.toList.isEmpty) := by
        show _ = _
        rw [str_empty]
        by_cases h0 : s.size = 0
        · rw [decide_eq_false (fun h => by have := h.1; rw [size_list] at this; omega), decide_eq_true h0]; rfl
        · rw [decide_eq_true (show digP s.data.toList from ⟨by rw [size_list]; omega, fun j hj => hq.out j (by rw [size_list] at hj; omega)⟩), decide_eq_false h0]; rfl
      clear hq hks
      go_wp2
      go_ret
      exact ⟨ret_b hfin.out.symm, rfl⟩

theorem nm_no {s : ByteArray} {k : Nat} (hlt : k < s.size) (h : (lw s[k] || (k != 0 && dg s[k])) = false) : decide (nmP s.data.toList) = false :=
  decide_eq_false fun hn => by
    have h2 := hn.2 k (by rw [size_list]; exact hlt)
    rw [get_list s k hlt, h] at h2
    cases h2


theorem one_dig (s : ByteArray) (k : Nat) (h : k < s.size) : decide (digP (s.extract k (k + 1)).data.toList) = dg s[k] := by
  have e : (s.extract k (k + 1)).data.toList = [s[k]] := by
    have h' : k < s.data.toList.length := by simpa using h
    rw [ByteArray.data_extract, Array.toList_extract, List.extract_eq_take_drop, Nat.add_sub_cancel_left, List.drop_eq_getElem_cons h']
    rfl
  have e2 : (0 < [s[k]].length ∧ ∀ j, j < [s[k]].length → dg ([s[k]].getD j 0) = true) ↔ dg s[k] = true := by
    constructor
    · intro hn
      have := hn.2 0 (by simp)
      simpa using this
    · intro hd
      refine ⟨by simp, fun j hj => ?_⟩
      have hj0 : j = 0 := by simp at hj; exact hj
      rw [hj0]
      simpa using hd
  rw [e]
  show decide (0 < [s[k]].length ∧ ∀ j, j < [s[k]].length → dg ([s[k]].getD j 0) = true) = dg s[k]
  cases hd : dg s[k]
  · exact decide_eq_false fun h => by rw [e2, hd] at h; cases h
  · exact decide_eq_true (e2.2 hd)

set_option maxHeartbeats 800000 in
theorem c_i_IsName (s : ByteArray) (w : World) (hs : s.size ≤ 9223372036854775807) :
    Calls Tryd.prog 20 #[.string s] w fun e w' => e = .returned (.bool (decide (nmP s.data.toList))) ∧ w = w' := by
  by_cases hsz : 1 ≤ s.size ∧ s.size ≤ 8
  · obtain ⟨hsz1, hsz2⟩ := hsz
    have h00 : 0 < s.size := by omega
    by_cases hfst : 97 ≤ s[0].toNat ∧ s[0].toNat ≤ 122
    · obtain ⟨hf1, hf2⟩ := hfst
      have hF := Lib.hid (And.intro hf1 hf2)
      go_enter Tryd.func20, Tryd.ntmps20
      go_wp2
      clear hf1 hf2
      go_loop [3, 24] (fun _ i => ∃ k : Nat, k ≤ s.size ∧ i = .int .i64 k ∧ Hid (∀ j, j < k → (lw (s.data.toList.getD j 0) || (j != 0 && dg (s.data.toList.getD j 0))) = true)) (fun _ i => s.size - (intOf i).toNat)
      case atStart => exact ⟨0, by omega, rfl, fun j hj => by omega⟩
      case round =>
        obtain ⟨k, hk, rfl, hq⟩ := hrel
        by_cases hlt : k < s.size
        · have hg := get_list s k hlt
          have hlw : lw s[k] = decide (97 ≤ s[k].toNat ∧ s[k].toNat ≤ 122) := rfl
          have hone := one_dig s k hlt
          have hk1 : (k : Int) + 1 ≤ (s.size : Int) := by omega
          have hksz : (s.extract k (k + 1)).size ≤ 9223372036854775807 := by simp; omega
          by_cases hl : 97 ≤ s[k].toNat ∧ s[k].toNat ≤ 122
          · obtain ⟨h1, h2⟩ := hl
            have hq2 : Hid (∀ j, j < k + 1 → (lw (s.data.toList.getD j 0) || (j != 0 && dg (s.data.toList.getD j 0))) = true) := all_step hq.out (by rw [hg, hlw]; simp [h1, h2])
            clear hq hg hlw hone hksz
            go_wp2
            go_round
            case rel => exact ⟨k + 1, by omega, by go_num, hq2⟩
            case measure => simp [intOf]; omega
          · have hne : k ≠ 0 := by rintro rfl; exact hl hF.out
            have hl' : s[k].toNat < 97 ∨ (97 ≤ s[k].toNat ∧ decide ((s[k].toNat : Int) ≤ 122) = false) := by simp only [decide_eq_false_iff_not]; omega
            by_cases hd : dg s[k] = true
            · have hq2 : Hid (∀ j, j < k + 1 → (lw (s.data.toList.getD j 0) || (j != 0 && dg (s.data.toList.getD j 0))) = true) := all_step hq.out (by rw [hg]; simp [hne, hd])
              rw [hd] at hone
              have H1 := Lib.hid hone
              clear hq hg hlw hone hl hd
              rcases hl' with h1 | ⟨h1, h2⟩
              all_goals
                go_wp2_with (go_at_call 41; refine (c_i_IsDigits _ _ hksz).mono ?_; rintro e w' ⟨rfl, rfl⟩; rw [H1.out])
                go_round
                case rel => exact ⟨k + 1, by omega, by go_num, hq2⟩
                case measure => simp [intOf]; omega
            · have hfin := Lib.hid (nm_no hlt (by rw [hlw]; simp [hl, hd]))
              rw [show dg s[k] = false by simpa using hd] at hone
              have H1 := Lib.hid hone
              clear hq hg hlw hone hl hd
              rcases hl' with h1 | ⟨h1, h2⟩
              all_goals
                go_wp2_with (go_at_call 41; refine (c_i_IsDigits _ _ hksz).mono ?_; rintro e w' ⟨rfl, rfl⟩; rw [H1.out])
                go_ret
                exact ⟨ret_b hfin.out.symm, rfl⟩
        · have hfin : Hid (decide (nmP s.data.toList) = true) := decide_eq_true ⟨by rw [size_list]; omega, fun j hj => hq.out j (by rw [size_list] at hj; omega)⟩
          clear hq
          go_wp2
          go_ret
          exact ⟨ret_b hfin.out.symm, rfl⟩
    · have hfin := Lib.hid (nm_no h00 (by simp [lw]; omega))
      have hl' : s[0].toNat < 97 ∨ (97 ≤ s[0].toNat ∧ 122 < s[0].toNat) := by omega
      clear hfst
      rcases hl' with h1 | ⟨h1, h2⟩
      all_goals
        go_enter Tryd.func20, Tryd.ntmps20
        go_wp2
        go_ret
        exact ⟨ret_b hfin.out.symm, rfl⟩
  · have hfin : Hid (decide (nmP s.data.toList) = false) := decide_eq_false fun h => hsz (by have := h.1; rw [size_list] at this; exact this)
    have hsz' : s.size < 1 ∨ (1 ≤ s.size ∧ 8 < s.size) := by omega
    clear hsz
    rcases hsz' with h1 | ⟨h1, h2⟩
    all_goals
      go_enter Tryd.func20, Tryd.ntmps20
      go_wp2
      go_ret
      exact ⟨ret_b hfin.out.symm, rfl⟩

end Go.Proofs.YtjogaoocjcofdaaDoor
