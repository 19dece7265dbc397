/- The plain law of FnDigits: what digits, their sums and their reversal satisfy. No program is in sight. -/
import Derived.Test.YtdffcgfllpeppaaFmt
import Derived.Test.YtdffcgfllpeppaaRev
import Derived.Test.YtdffcgfllpeppaaAt
namespace Go.Proofs.Ytdffcgfllpeppaa
open Go.RowKit
open Pl

theorem hv_cons (b d : Int) (l : List Int) : hv b (d :: l) = hv b l * b + d := rfl
theorem sum_cons (x : Int) (l : List Int) : sumL (x :: l) = x + sumL l := by
  have : ∀ (l : List Int) (a : Int), l.foldl (· + ·) a = a + l.foldl (· + ·) 0 := by
    intro l
    induction l with
    | nil => intro a; simp
    | cons y l ih => intro a; simp only [List.foldl_cons]; rw [ih (a + y), ih (0 + y)]; omega
  simp only [sumL, List.foldl_cons]
  rw [this l (0 + x)]; omega
theorem sum_append (l m : List Int) : sumL (l ++ m) = sumL l + sumL m := by
  induction l with
  | nil => simp [sumL]
  | cons x l ih => rw [List.cons_append, sum_cons, sum_cons, ih]; omega
theorem sum_reverse (l : List Int) : sumL l.reverse = sumL l := by
  induction l with
  | nil => rfl
  | cons x l ih => rw [List.reverse_cons, sum_append, ih, sum_cons, sum_cons]; simp [sumL]; omega

theorem hv_digs (b : Nat) (hb : 2 ≤ b) : ∀ n, hv b (digs b n) = (n : Int) := by
  intro n
  induction n using Nat.strongRecOn with
  | ind n ih =>
    by_cases h0 : n = 0
    · subst h0; rfl
    · have hlt : n / b < n := Nat.div_lt_self (by omega) (by omega)
      rw [digs_pos b n hb (by omega), hv_cons, ih _ hlt]
      have := Nat.div_add_mod n b
      rw [Nat.mul_comm] at this
      omega
theorem digs_end (b : Nat) (hb : 2 ≤ b) : ∀ n, 0 < n → (digs b n).getD ((digs b n).length - 1) 0 ≠ 0 := by
  intro n
  induction n using Nat.strongRecOn with
  | ind n ih =>
    intro h0
    have hlt : n / b < n := Nat.div_lt_self h0 (by omega)
    rw [digs_pos b n hb h0]
    by_cases hq : n / b = 0
    · rw [hq, digs_zero]
      have : n % b = n := by
        have := Nat.div_add_mod n b
        rw [hq] at this; omega
      simp [this]; omega
    · have hq0 : 0 < n / b := Nat.pos_of_ne_zero hq
      have hi := ih _ hlt hq0
      have hl : 0 < (digs b (n / b)).length := by
        rw [digs_pos b _ hb hq0]; simp
      rw [List.length_cons, Nat.add_sub_cancel]
      obtain ⟨m, hm⟩ : ∃ m, (digs b (n / b)).length = m + 1 := ⟨(digs b (n / b)).length - 1, by omega⟩
      rw [hm] at hi ⊢
      simpa using hi
theorem hv_low {b : Nat} {d : Int} {l : List Int} (hd : 0 ≤ d ∧ d < b) (hl : 0 ≤ hv b l) : (hv b (d :: l)).toNat % b = d.toNat ∧ (hv b (d :: l)).toNat / b = (hv b l).toNat := by
  obtain ⟨H, hH⟩ := Int.eq_ofNat_of_zero_le hl
  obtain ⟨e, rfl⟩ := Int.eq_ofNat_of_zero_le hd.1
  have he : e < b := by omega
  rw [hv_cons, hH]
  have : ((H : Int) * (b : Int) + (e : Int)).toNat = e + b * H := by
    rw [show (H : Int) * (b : Int) + (e : Int) = ((e + b * H : Nat) : Int) from by push_cast; rw [Int.mul_comm]; omega, Int.toNat_natCast]
  rw [this, Nat.add_mul_mod_self_left, Nat.mod_eq_of_lt he, Nat.add_mul_div_left _ _ (by omega), Nat.div_eq_of_lt he]
  simp

/-- Digits read and written again: the same but for zeros at the end. -/
theorem digs_hv (b : Nat) (hb : 2 ≤ b) : ∀ ys : List Int, (∀ x ∈ ys, 0 ≤ x ∧ x < b) →
    sumL (digs b (hv b ys).toNat) = sumL ys ∧ (digs b (hv b ys).toNat).length ≤ ys.length ∧ (ys.getD (ys.length - 1) 0 ≠ 0 → digs b (hv b ys).toNat = ys) ∧ ((digs b (hv b ys).toNat).length = ys.length → ys = [] ∨ ys.getD (ys.length - 1) 0 ≠ 0) := by
  intro ys
  induction ys with
  | nil => intro _; exact ⟨rfl, Nat.le_refl _, fun h => rfl, fun _ => .inl rfl⟩
  | cons d l ih =>
    intro h
    have hd := h d (List.mem_cons_self ..)
    have hl0 : 0 ≤ hv b l := hv_pos (by omega) l fun x hx => (h x (List.mem_cons_of_mem _ hx)).1
    obtain ⟨i1, i2, i3, i4⟩ := ih fun x hx => h x (List.mem_cons_of_mem _ hx)
    obtain ⟨e1, e2⟩ := hv_low (l := l) hd hl0
    by_cases hz : hv b (d :: l) = 0
    · have hb0 : 0 ≤ hv b l * b := Int.mul_nonneg hl0 (by omega)
      have hd0 : d = 0 := by rw [hv_cons] at hz; omega
      subst hd0
      have hl00 : hv b l = 0 := by
        rw [hv_cons] at hz
        rcases Int.mul_eq_zero.1 (show hv b l * b = 0 by omega) with h | h
        · exact h
        · omega
      rw [hl00] at i1 i2 i3 i4
      rw [hz]
      simp only [Int.toNat_zero, digs_zero] at i1 i2 i3 i4 ⊢
      refine ⟨by rw [sum_cons, ← i1]; rfl, Nat.zero_le _, fun hn => ?_, fun hn => by simp at hn⟩
      exfalso
      cases l with
      | nil => simp at hn
      | cons y l =>
        have hn' : (y :: l).getD ((y :: l).length - 1) 0 ≠ 0 := by simpa using hn
        exact absurd (i3 hn') (by simp)
    · have hpos : 0 < (hv b (d :: l)).toNat := by
        have hb0 : 0 ≤ hv b l * b := Int.mul_nonneg hl0 (by omega)
        rw [hv_cons] at hz ⊢; omega
      rw [digs_pos b _ hb hpos, e1, e2]
      have hdd : ((d.toNat : Nat) : Int) = d := Int.toNat_of_nonneg hd.1
      rw [hdd]
      refine ⟨by rw [sum_cons, sum_cons, i1], by simpa using i2, fun hn => ?_, fun hn => .inr ?_⟩
      · cases l with
        | nil => rfl
        | cons y l => rw [i3 (by simpa using hn)]
      · have hn' : (digs b (hv b l).toNat).length = l.length := by simpa using hn
        rcases i4 hn' with rfl | h'
        · have : d ≠ 0 := fun e => hz (by rw [e]; simp [hv])
          simpa using this
        · cases l with
          | nil => simp at h'
          | cons y l => simpa using h'

/-- What the law asks of a number and a base. -/
theorem dig_ok {n b : Nat} (hn : n ≤ 1000000000000) (hb2 : 2 ≤ b) (hb16 : b ≤ 16) : dokB (digs b n) b = true := by
  unfold dokB
  have h40 := digs40 n b hb2 hn
  rw [Bool.and_eq_true, Bool.and_eq_true]
  refine ⟨inB_mk (by omega), ?_, allB_mk fun x hx => by have := digs_range b hb2 n x hx; omega⟩
  by_cases h0 : n = 0
  · subst h0; exact endB_nil rfl
  · exact endB_mk (by omega) (digs_end b hb2 n (by omega))
theorem dig_num {n b : Nat} (hn : n ≤ 1000000000000) (hb2 : 2 ≤ b) (hb16 : b ≤ 16) : (inB n 0 1000000000000 && inB b 2 16) = true := by
  rw [inB_mk (by omega), inB_mk (by omega)]; rfl
theorem dig_facts {n b : Nat} (hn : n ≤ 1000000000000) (hb2 : 2 ≤ b) (hb16 : b ≤ 16) :
    digV n b = digs b n ∧ vlB (digs b n) b = true ∧ vlN (digs b n) b = n ∧ cntV n b = (digs b n).length ∧ dsV n b = sumL (digs b n) := by
  have h := dig_num hn hb2 hb16
  have hB : vlB (digs b n) b = true := by
    unfold vlB; rw [dig_ok hn hb2 hb16, hv_digs b hb2, decide_eq_true (by omega)]; rfl
  refine ⟨?_, hB, ?_, ?_, ?_⟩
  · unfold digV; rw [h]; simp
  · unfold vlN; rw [hB, hv_digs b hb2]; rfl
  · unfold cntV; rw [h]; simp
  · unfold dsV; rw [h]; simp
theorem dig_at {n b k : Nat} (hn : n ≤ 1000000000000) (hb2 : 2 ≤ b) (hb16 : b ≤ 16) (hk : k ≤ 59) : atV n b k = (digs b n).getD k 0 := by
  unfold atV; rw [dig_num hn hb2 hb16, inB_mk (by omega)]; simp
theorem dig_59 {n b : Nat} (hn : n ≤ 1000000000000) (hb2 : 2 ≤ b) (hb16 : b ≤ 16) : atV n b 59 = 0 := by
  have h := dig_at (k := 59) hn hb2 hb16 (by omega)
  have h40 := digs40 n b hb2 hn
  rw [List.getD_eq_getElem?_getD, List.getElem?_eq_none (by omega)] at h
  exact h
theorem dig_txt {n b : Nat} (hn : n ≤ 1000000000000) (hb2 : 2 ≤ b) (hb16 : b ≤ 16) : (fdT (digs b n) b).size = max 1 (digs b n).length := by
  unfold fdT
  rw [dig_ok hn hb2 hb16]
  simp only [if_true]
  split
  · rename_i h; rw [h]; rfl
  · have : (txt (digs b n)).size = (digs b n).length := by simp [txt, ByteArray.size]
    rw [this]; omega

/-- Where the reversal has a value: its number, the number's digits. -/
theorem rev_facts {n b : Nat} (hn : n ≤ 1000000000000) (hb2 : 2 ≤ b) (hb16 : b ≤ 16) (h : rvB n b = true) :
    ∃ r : Nat, rvN n b = r ∧ r ≤ 1000000000000 ∧ dsV r b = sumL (digs b n) ∧
      ((n % b ≠ 0 ∨ n = 0) ↔ (digs b r).length = (digs b n).length) ∧ (n % b ≠ 0 → rvB r b = true ∧ rvN r b = n) := by
  have hnum := dig_num hn hb2 hb16
  have hle : hv b (digs b n).reverse ≤ 1000000000000 := by
    unfold rvB at h; rw [hnum, Bool.true_and, Int.toNat_natCast, Int.toNat_natCast] at h; exact of_decide_eq_true h
  have hrange : ∀ x ∈ (digs b n).reverse, 0 ≤ x ∧ x < b := fun x hx => digs_range b hb2 n x (List.mem_reverse.1 hx)
  have h0 : 0 ≤ hv b (digs b n).reverse := hv_pos (by omega) _ fun x hx => (hrange x hx).1
  obtain ⟨i1, i2, i3, i4⟩ := digs_hv b hb2 _ hrange
  obtain ⟨r, hr⟩ := Int.eq_ofNat_of_zero_le h0
  have hr12 : r ≤ 1000000000000 := by omega
  rw [hr, Int.toNat_natCast] at i1 i2 i3 i4
  have hlast : n ≠ 0 → (digs b n).reverse.getD ((digs b n).reverse.length - 1) 0 = ((n % b : Nat) : Int) := fun hn0 => by
    rw [digs_pos b n hb2 (by omega)]
    simp [List.getD_eq_getElem?_getD]
  refine ⟨r, ?_, hr12, ?_, ⟨fun hz => ?_, fun hl => ?_⟩, fun hz => ?_⟩
  · unfold rvN; rw [h, Int.toNat_natCast, Int.toNat_natCast, hr]; rfl
  · rw [(dig_facts hr12 hb2 hb16).2.2.2.2, i1, sum_reverse]
  · by_cases hn0 : n = 0
    · subst hn0
      have : r = 0 := by simp [digs_zero, hv] at hr; omega
      subst this; rfl
    · have hz' : n % b ≠ 0 := by omega
      rw [i3 (by rw [hlast hn0]; omega), List.length_reverse]
  · by_cases hn0 : n = 0
    · exact .inr hn0
    · refine .inl fun hz => ?_
      rcases i4 (by rw [hl, List.length_reverse]) with h' | h'
      · have : (digs b n).reverse.length = 0 := by rw [h']; rfl
        rw [List.length_reverse, digs_pos b n hb2 (by omega)] at this
        simp at this
      · rw [hlast hn0, hz] at h'; exact h' rfl
  · have hn0 : n ≠ 0 := fun e => by subst e; simp at hz
    have hrd : digs b r = (digs b n).reverse := i3 (by rw [hlast hn0]; omega)
    have hB : rvB r b = true := by
      unfold rvB; rw [dig_num hr12 hb2 hb16, Int.toNat_natCast, Int.toNat_natCast, hrd, List.reverse_reverse, hv_digs b hb2, decide_eq_true (by omega)]; rfl
    refine ⟨hB, ?_⟩
    unfold rvN; rw [hB, Int.toNat_natCast, Int.toNat_natCast, hrd, List.reverse_reverse, hv_digs b hb2]; rfl

theorem sum_take {D : List Int} {k : Nat} (h : k < D.length) : sumL (D.take k) + D.getD k 0 = sumL (D.take (k + 1)) := by
  rw [take_step h, sum_append, sum_cons]; simp [sumL]
theorem sum_bound {D : List Int} (h : ∀ x ∈ D, 0 ≤ x ∧ x ≤ 15) : ∀ k, 0 ≤ sumL (D.take k) ∧ sumL (D.take k) ≤ 15 * D.length := by
  have aux : ∀ l : List Int, (∀ x ∈ l, 0 ≤ x ∧ x ≤ 15) → 0 ≤ sumL l ∧ sumL l ≤ 15 * l.length := by
    intro l
    induction l with
    | nil => intro _; simp [sumL]
    | cons x l ih =>
      intro h
      have h1 := ih fun y hy => h y (List.mem_cons_of_mem _ hy)
      have h2 := h x (List.mem_cons_self ..)
      rw [sum_cons, List.length_cons]; omega
  intro k
  have h1 := aux (D.take k) fun x hx => h x (List.mem_of_mem_take hx)
  have h2 : (D.take k).length ≤ D.length := by rw [List.length_take]; omega
  omega

end Go.Proofs.Ytdffcgfllpeppaa
