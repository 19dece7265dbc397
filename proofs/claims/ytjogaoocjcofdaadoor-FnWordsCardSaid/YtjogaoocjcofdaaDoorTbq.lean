/- Texts as lists of bytes: their lists, their equality, their lengths. -/
import Derived.Test.YtjogaoocjcofdaaDoorBas
namespace Go.Proofs.YtjogaoocjcofdaaDoor
open Go.RowKit

theorem loop_is (bs : ByteArray) : ∀ n i r, bs.size - i = n → ByteArray.toList.loop bs i r = r.reverse ++ bs.data.toList.drop i := by
  intro n
  induction n with
  | zero =>
    intro i r h
    unfold ByteArray.toList.loop
    rw [if_neg (by omega), List.drop_eq_nil_of_le (by show bs.data.toList.length ≤ i; rw [Array.length_toList]; show bs.size ≤ i; omega)]
    simp
  | succ n ih =>
    intro i r h
    unfold ByteArray.toList.loop
    have hi : i < bs.data.size := by show i < bs.size; omega
    rw [if_pos (by omega), ih (i + 1) _ (by omega), List.drop_eq_getElem_cons (i := i) (by rw [Array.length_toList]; exact hi)]
    simp only [ByteArray.get!, List.reverse_cons, List.append_assoc, List.singleton_append, Array.getElem_toList]
    rw [getElem!_pos bs.data i hi]
theorem str_is (s : ByteArray) : s.toList = s.data.toList := by
  have := loop_is s s.size 0 [] (by omega)
  simpa [ByteArray.toList] using this
theorem str_beq (a b : ByteArray) : (a.toList == b.toList) = decide (a = b) := by
  rw [str_is, str_is]
  by_cases h : a = b
  · subst h; simp
  · have : ¬ a.data.toList = b.data.toList := fun e => h (ByteArray.ext (by simpa using e))
    simp [h]
    intro e; exact this (by simp [e])
theorem dl_len (s : ByteArray) : s.data.toList.length = s.size := by rw [Array.length_toList]; rfl
theorem str_len2 (s : ByteArray) : s.toList.length = s.size := by rw [str_is, dl_len]
theorem str_emp (s : ByteArray) : s.toList.isEmpty = decide (s.size = 0) := by
  rw [← str_len2]; cases s.toList <;> simp
theorem cat_size (a b : ByteArray) : (a ++ b).size = a.size + b.size := by simp

end Go.Proofs.YtjogaoocjcofdaaDoor
