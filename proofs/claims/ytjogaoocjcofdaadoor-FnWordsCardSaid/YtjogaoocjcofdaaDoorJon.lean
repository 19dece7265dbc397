/- Contracts of Join, the program's and the reference's, and of the laws' own helpers on slices of strings. -/
import Derived.Test.YtjogaoocjcofdaaDoorTxs
import Derived.Test.YtjogaoocjcofdaaDoorTbq
import Derived.Test.YtjogaoocjcofdaaDoorShelf
namespace Go.Proofs.YtjogaoocjcofdaaDoor
open Go.RowKit

/-- The lengths of a list of texts. -/
def lensT (xs : List ByteArray) : Nat := (xs.map ByteArray.size).sum
theorem takeS_step {xs : List ByteArray} {k : Nat} (h : k < xs.length) : xs.take (k + 1) = xs.take k ++ [xs.getD k .empty] := by
  rw [List.take_succ_eq_append_getElem h]; simp [List.getD_eq_getElem?_getD, List.getElem?_eq_getElem h]
theorem lensT_step {xs : List ByteArray} {k : Nat} (h : k < xs.length) : lensT (xs.take (k + 1)) = lensT (xs.take k) + (xs.getD k .empty).size := by
  rw [takeS_step h]; simp [lensT]
theorem takeS_eq_step {xs ys : List ByteArray} {k : Nat} (h : xs.take k = ys.take k) (hx : k < xs.length) (hy : k < ys.length) (he : xs.getD k .empty = ys.getD k .empty) : xs.take (k + 1) = ys.take (k + 1) := by
  rw [takeS_step hx, takeS_step hy, h, he]
theorem copyS_step {xs : List ByteArray} {k : Nat} (h : k < xs.length) : (xs.take k ++ List.replicate (xs.length - k) ByteArray.empty).set k (xs.getD k .empty) = xs.take (k + 1) ++ List.replicate (xs.length - (k + 1)) .empty := by
  rw [List.set_append, if_neg (by rw [List.length_take]; omega), List.length_take, Nat.min_eq_left (by omega), Nat.sub_self, show xs.length - k = (xs.length - (k + 1)) + 1 by omega, List.replicate_succ, List.set_cons_zero, takeS_step h]
  simp

/-- The texts with the separator between them. -/
def jnT (xs : List ByteArray) (by_ : ByteArray) : ByteArray := ⟨(Lib.join (xs.map (·.data.toList)) by_.data.toList).toArray⟩
theorem jnT_nil (b : ByteArray) : jnT [] b = ⟨#[]⟩ := rfl
theorem join_snoc (xs : List (List UInt8)) (x sep : List UInt8) (h : xs ≠ []) : Lib.join (xs ++ [x]) sep = Lib.join xs sep ++ sep ++ x := by
  cases xs with
  | nil => exact absurd rfl h
  | cons y r =>
    rw [List.cons_append, Lib.join_cons, Lib.join_cons]
    simp [Lib.joinTail]
theorem jnT_step {xs : List ByteArray} {b : ByteArray} {k : Nat} (h : k < xs.length) : jnT (xs.take (k + 1)) b = if k = 0 then xs.getD k .empty else (jnT (xs.take k) b ++ b) ++ xs.getD k .empty := by
  rw [takeS_step h]
  apply ByteArray.ext
  split
  · rename_i h0; subst h0; simp [jnT, Lib.join_one]
  · have hne : (xs.take k).map (fun s : ByteArray => s.data.toList) ≠ [] := by
      intro e
      have := congrArg List.length e
      rw [List.length_map, List.length_take, List.length_nil] at this
      omega
    show (Lib.join ((xs.take k ++ [xs.getD k .empty]).map (fun s : ByteArray => s.data.toList)) b.data.toList).toArray = (jnT (xs.take k) b ++ b ++ xs.getD k .empty).data
    rw [List.map_append, List.map_cons, List.map_nil, join_snoc _ _ _ hne, ByteArray.data_append, ByteArray.data_append]
    apply Array.ext'
    simp [jnT]
theorem lens_eq : ∀ l : List ByteArray, Lib.lens (l.map (·.data.toList)) = lensT l := by
  intro l
  induction l with
  | nil => rfl
  | cons x l ih =>
    have h1 : Lib.lens ((x :: l).map (·.data.toList)) = x.data.toList.length + Lib.lens (l.map (·.data.toList)) := by simp [Lib.lens]
    have h2 : lensT (x :: l) = x.size + lensT l := by simp [lensT]
    rw [h1, h2, ih, dl_len]
theorem jnT_size (xs : List ByteArray) (b : ByteArray) : (jnT xs b).size ≤ lensT xs + xs.length * b.size := by
  cases xs with
  | nil => rw [jnT_nil]; exact Nat.zero_le _
  | cons x r =>
    have h := Lib.join_length x.data.toList (r.map (·.data.toList)) b.data.toList
    have h2 : Lib.lens (x.data.toList :: r.map (·.data.toList)) = lensT (x :: r) := lens_eq (x :: r)
    rw [h2, List.length_map, dl_len] at h
    show (Lib.join (x.data.toList :: r.map (·.data.toList)) b.data.toList).toArray.size ≤ _
    rw [List.size_toArray, h, List.length_cons, Nat.add_mul, Nat.mul_comm]
    omega




theorem lensT_mono (xs : List ByteArray) (k : Nat) : lensT (xs.take k) ≤ lensT xs := by
  have h : lensT xs = lensT (xs.take k) + lensT (xs.drop k) := by
    show (xs.map ByteArray.size).sum = ((xs.take k).map ByteArray.size).sum + ((xs.drop k).map ByteArray.size).sum
    rw [← List.sum_append, ← List.map_append, List.take_append_drop]
  omega

set_option maxHeartbeats 400000 in
theorem c_s_Join (v : Value) (xs : List ByteArray) (b : ByteArray) (w : World) (h : RdS w v xs) (hl : xs.length + lensT xs ≤ 1048576) (hb : b.size ≤ 1048576) :
    Calls Tryd.prog 29 #[v, .string b] w fun e w' => e = .returned (.string (jnT xs b)) ∧ w = w' := by
  obtain ⟨a, cap, n, rfl, HN, hm, hc, hcm, hcell⟩ := h.open
  clear h
  have HL := Lib.hid hl
  have hn20 : n ≤ 1048576 := by have := HN.out; omega
  clear hl
  go_enter Tryd.func29, Tryd.ntmps29
  go_wp2
  go_loop [5, 6, 7, 10] (fun s _ _ i => ∃ (k : Nat) (t : ByteArray), k ≤ n ∧ i = .int .i64 k ∧ s = .string t ∧ Hid (t = jnT (xs.take k) b)) (fun _ _ _ i => n - (intOf i).toNat)
  case atStart => exact ⟨0, _, by omega, rfl, rfl, rfl⟩
  case round =>
    obtain ⟨k, t, hk, rfl, rfl, ht⟩ := hrel
    by_cases hlt : k < n
    · obtain ⟨g, off, rfl, hbl, x, hx, hbd, hcx⟩ := hcell k hlt
      have hst := jnT_step (xs := xs) (b := b) (k := k) (by rw [HN.out]; exact hlt)
      rw [hx.out] at hst
      have hsz := jnT_size (xs.take k) b
      rw [← ht.out, List.length_take, HN.out, Nat.min_eq_left hk] at hsz
      have hlk := lensT_step (xs := xs) (k := k) (by rw [HN.out]; exact hlt)
      have hl1 := lensT_mono xs (k + 1)
      rw [hx.out] at hlk
      have hHL := HL.out
      have hkb : k * b.size ≤ 1048576 * 1048576 := Nat.mul_le_mul (by omega) hb
      by_cases h0 : k = 0
      · rw [if_pos h0] at hst
        have hte : Hid (t ++ x = jnT (xs.take (k + 1)) b) := by
          rw [Hid, hst, ht.out, h0]; apply ByteArray.ext; simp [jnT_nil]
        have hcat : t.size + x.size ≤ 9223372036854775807 := by omega
        have hki : (k : Int) ≤ 0 := by omega
        clear h0 hcell hx hst hsz hlk hl1 hkb
        go_wp2
        go_round
        case rel => exact ⟨k + 1, _, by omega, by go_num, rfl, hte⟩
        case measure => simp [intOf]; omega
      · rw [if_neg h0] at hst
        have hte : Hid ((t ++ b) ++ x = jnT (xs.take (k + 1)) b) := by rw [Hid, hst, ht.out]
        have hcat : t.size + b.size ≤ 9223372036854775807 := by omega
        have hcat2 : t.size + b.size + x.size ≤ 9223372036854775807 := by omega
        have hki : (0 : Int) < (k : Int) := by omega
        clear h0 hcell hx hst hsz hlk hl1 hkb
        go_wp2
        go_round
        case rel => exact ⟨k + 1, _, by omega, by go_num, rfl, hte⟩
        case measure => simp [intOf]; omega
    · have hfin : Hid (t = jnT xs b) := by rw [Hid, ht.out, List.take_of_length_le (by rw [HN.out]; omega)]
      clear hcell
      go_wp2
      go_ret
      exact ⟨ret_s hfin.out, rfl⟩

set_option maxHeartbeats 400000 in
theorem c_i_Join (v : Value) (xs : List ByteArray) (b : ByteArray) (w : World) (h : RdS w v xs) (hl : xs.length + lensT xs ≤ 1048576) (hb : b.size ≤ 1048576) :
    Calls Tryd.prog 18 #[v, .string b] w fun e w' => e = .returned (.string (jnT xs b)) ∧ Below w.heap.size w w' := by
  obtain ⟨-, a, cap, rfl, hc, hm, hcell⟩ := h
  have hsz := jnT_size xs b
  have hkb : xs.length * b.size ≤ 1048576 * 1048576 := Nat.mul_le_mul (by omega) hb
  cases xs with
  | nil =>
    clear hcell hsz hkb
    go_enter Tryd.func18, Tryd.ntmps18
    go_wp2_with fail
    refine (Tryd.strings_Join_none a cap b _).mono ?_
    rintro e w' ⟨rfl, rfl⟩
    go_wp2
    go_ret
    exact ⟨rfl, Below.refl _ _⟩
  | cons x r =>
    obtain ⟨g, off, rfl, hlt, hcell⟩ := hcell (by simp)
    have hcall := Tryd.strings_Join g off cap (x :: r) b w (fun j y hy => by
      have hj := (List.getElem?_eq_some_iff.1 hy).1
      have := hcell j hj
      rw [List.getD_eq_getElem?_getD, hy] at this
      exact this) hlt (by omega) hc (by
      have e : (Lib.join ((x :: r).map (·.data.toList)) b.data.toList).length = (jnT (x :: r) b).size := by simp [jnT, ByteArray.size]
      rw [e]; omega)
    have HC := Lib.hid hcall
    clear hcall hcell hsz hkb
    go_enter Tryd.func18, Tryd.ntmps18
    go_wp2_with fail
    refine HC.out.mono ?_
    rintro e w' ⟨rfl, hb1⟩
    go_wp2
    go_ret
    exact ⟨rfl, hb1⟩

end Go.Proofs.YtjogaoocjcofdaaDoor
