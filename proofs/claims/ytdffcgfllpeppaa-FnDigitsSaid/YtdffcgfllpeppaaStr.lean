/- Contracts of the text functions of chapter 2 that look at single bytes. -/
import Derived.Test.YtdffcgfllpeppaaInt
import Derived.WalkSpells
namespace Go.Proofs.Ytdffcgfllpeppaa
open Go.RowKit

/-- A digit; a lower-case letter. -/
def dg (c : UInt8) : Bool := decide (48 ≤ c.toNat ∧ c.toNat ≤ 57)
def lw (c : UInt8) : Bool := decide (97 ≤ c.toNat ∧ c.toNat ≤ 122)

def digP (l : List UInt8) : Prop := 0 < l.length ∧ ∀ j, j < l.length → dg (l.getD j 0) = true
def nmP (l : List UInt8) : Prop := (1 ≤ l.length ∧ l.length ≤ 8) ∧ ∀ j, j < l.length → (lw (l.getD j 0) || (j != 0 && dg (l.getD j 0))) = true
instance (l : List UInt8) : Decidable (digP l) := by unfold digP; infer_instance
instance (l : List UInt8) : Decidable (nmP l) := by unfold nmP; infer_instance

theorem get_list (s : ByteArray) (k : Nat) (h : k < s.size) : s.data.toList.getD k 0 = s[k] := by
  have h' : k < s.data.toList.length := by simpa using h
  rw [List.getD_eq_getElem?_getD, List.getElem?_eq_getElem h']
  rfl

theorem size_list (s : ByteArray) : s.data.toList.length = s.size := by simp

theorem loop_len (bs : ByteArray) : ∀ n i acc, bs.size - i = n → (ByteArray.toList.loop bs i acc).length = acc.length + n := by
  intro n
  induction n with
  | zero =>
    intro i acc h
    unfold ByteArray.toList.loop
    rw [if_neg (by omega)]
    simp
  | succ n ih =>
    intro i acc h
    unfold ByteArray.toList.loop
    rw [if_pos (by omega), ih (i + 1) _ (by omega)]
    simp; omega
theorem str_len (s : ByteArray) : s.toList.length = s.size := by
  have := loop_len s s.size 0 [] (by omega)
  simpa [ByteArray.toList] using this
theorem str_empty (s : ByteArray) : s.toList.isEmpty = decide (s.size = 0) := by
  rw [← str_len]; cases s.toList <;> simp

theorem all_step {P : Nat → Prop} {k : Nat} (h : ∀ j, j < k → P j) (hk : P k) : ∀ j, j < k + 1 → P j := fun j hj => by
  rcases Nat.lt_succ_iff_lt_or_eq.1 hj with h1 | h1
  · exact h j h1
  · rw [h1]; exact hk



theorem nm_no {s : ByteArray} {k : Nat} (hlt : k < s.size) (h : (lw s[k] || (k != 0 && dg s[k])) = false) : decide (nmP s.data.toList) = false :=
  decide_eq_false fun hn => by
    have h2 := hn.2 k (by rw [size_list]; exact hlt)
    rw [get_list s k hlt, h] at h2
    cases h2


theorem one_dig (s : ByteArray) (k : Nat) (h : k < s.size) : decide (digP (s.extract k (k + 1)).data.toList) = dg s[k] := by
  have e : (s.extract k (k + 1)).data.toList = [s[k]] := by
    have h' : k < s.data.toList.length := by simpa using h
    rw [ByteArray.data_extract, Array.toList_extract, List.extract_eq_take_drop, Nat.add_sub_cancel_left, List.drop_eq_getElem_cons h']
    rfl
  have e2 : (0 < [s[k]].length ∧ ∀ j, j < [s[k]].length → dg ([s[k]].getD j 0) = true) ↔ dg s[k] = true := by
    constructor
    · intro hn
      have := hn.2 0 (by simp)
      simpa using this
    · intro hd
      refine ⟨by simp, fun j hj => ?_⟩
      have hj0 : j = 0 := by simp at hj; exact hj
      rw [hj0]
      simpa using hd
  rw [e]
  show decide (0 < [s[k]].length ∧ ∀ j, j < [s[k]].length → dg ([s[k]].getD j 0) = true) = dg s[k]
  cases hd : dg s[k]
  · exact decide_eq_false fun h => by rw [e2, hd] at h; cases h
  · exact decide_eq_true (e2.2 hd)


end Go.Proofs.Ytdffcgfllpeppaa
