/- Contracts of DropPlaces, the program's and the reference's. -/
import Derived.Test.YtdffcgfllpeppaaOk
import Derived.Test.YtdffcgfllpeppaaShelf
import Derived.Test.YtdffcgfllpeppaaApp
namespace Go.Proofs.Ytdffcgfllpeppaa
open Go.RowKit

/-- slices.Clone at a slice that reads as xs, nil or not. -/
theorem c_Clone (v : Value) (xs : List Int) (w : World) (h : Rd w v xs) (hl : xs.length ≤ 1048576) (hs : v = .slice none 0 0 ∨ ∃ ad n c, v = .slice (some ad) n c) :
    Calls Try.prog 75 #[v] w fun e w' => ∃ v', e = .returned v' ∧ Own w' w.heap.size v' xs ∧ Below w.heap.size w w' := by
  obtain ⟨hb, a, cap, rfl, hc, hm, hcell⟩ := h
  rcases hs with e | ⟨ad, n, c, e⟩
  · simp only [Value.slice.injEq] at e
    obtain ⟨rfl, e2, rfl⟩ := e
    have hx : xs = [] := List.eq_nil_of_length_eq_zero e2
    subst hx
    refine (Try.slices_Clone_int_nil _ _ w).mono ?_
    rintro e w' ⟨rfl, rfl⟩
    exact ⟨_, rfl, Own.nil _ _, Below.refl _ _⟩
  · simp only [Value.slice.injEq] at e
    obtain ⟨rfl, rfl, rfl⟩ := e
    by_cases h0 : 0 < xs.length
    · obtain ⟨b, off, e, hlt, hcell'⟩ := hcell h0
      simp only [Option.some.injEq] at e
      subst e
      refine (Try.slices_Clone_int b off xs.length cap xs w (Nat.le_refl _) (by omega) hcell').mono ?_
      rintro e w' ⟨v', rfl, ho, _, hbl⟩
      exact ⟨v', rfl, ⟨hb, by rw [List.take_length] at ho; exact ho⟩, hbl⟩
    · have hx : xs = [] := List.eq_nil_of_length_eq_zero (by omega)
      subst hx
      refine (Try.slices_Clone_int_zero ad cap w).mono ?_
      rintro e w' ⟨v', rfl, ho, _, hbl⟩
      exact ⟨v', rfl, ⟨by simp, by simpa using ho⟩, hbl⟩

/-- The list without its first k digits, where there is one. -/
def drB (xs : List Int) (b k : Int) : Bool := bokB xs b && inB k 0 60
def drL (xs : List Int) (b k : Int) : List Int := if drB xs b k then xs.drop k.toNat else []
theorem drL_len (xs : List Int) (b k : Int) (h : xs.length ≤ 1048576) : (drL xs b k).length ≤ 1048576 := by
  unfold drL; split
  · rw [List.length_drop]; omega
  · simp
theorem ret_vb {v : Value} {c d : Bool} (k : c = d) : Ending.returned (.tuple #[v, .bool c]) = .returned (.tuple #[v, .bool d]) := by rw [k]

theorem drop_le {xs : List Int} (k : Nat) (h : xs.length ≤ 1048576) : (xs.drop k).length ≤ 1048576 := by rw [List.length_drop]; omega
theorem Own.cast {w : World} {B : Nat} {v : Value} {xs ys : List Int} (h : Own w B v xs) (e : xs = ys) : Own w B v ys := e ▸ h
theorem Rd.zero {w : World} {a : Option Addr} {n cap : Nat} {xs : List Int} (h : Rd w (.slice a n cap) xs) : Rd w (.slice a 0 0) [] := by
  obtain ⟨hb, a', cap', e, hc, hm, hcell⟩ := h
  exact ⟨by simp, a, 0, rfl, by simp, by omega, by simp⟩
theorem Rd.cutR' {w : World} {b off cap : Nat} {n : Nat} {xs : List Int} (h : Rd w (.slice (some ⟨b, off, none⟩) n cap) xs) (hn : xs.length = n) (k : Nat) (hk : k ≤ n) : Rd w (.slice (some ⟨b, off + k, none⟩) (n - k) (cap - k)) (xs.drop k) := by
  obtain ⟨hb, a, cap', e, hc, hm, hcell⟩ := h
  cases e
  have hlen : (xs.drop k).length = xs.length - k := by rw [List.length_drop]
  refine ⟨fun x hx => hb x (List.mem_of_mem_drop hx), _, cap - k, by rw [hlen], by omega, by omega, fun h0 => ?_⟩
  obtain ⟨b', off', e', hlt, hcell⟩ := hcell (by omega)
  cases e'
  refine ⟨b, off + k, rfl, hlt, fun i hi => ?_⟩
  rw [hlen] at hi
  rw [Nat.add_assoc, hcell (k + i) (by omega), List.getD_eq_getElem?_getD, List.getD_eq_getElem?_getD, List.getElem?_drop]
theorem Rd.zero' {w : World} {a a' : Option Addr} {n cap c : Nat} {xs : List Int} (h : Rd w (.slice a n cap) xs) (hc' : c ≤ cap) : Rd w (.slice a' 0 c) [] := by
  obtain ⟨hb, a'', cap', e, hc, hm, hcell⟩ := h
  cases e
  exact ⟨by simp, a', c, rfl, by simp, by omega, by simp⟩
set_option maxHeartbeats 800000 in
theorem c_i_DropPlaces (v : Value) (xs : List Int) (b k : Int) (w : World) {B : Nat} (ho : Own w B v xs) (hl : Hid (xs.length ≤ 1048576)) :
    Calls Try.prog 46 #[v, .int .i64 b, .int .i64 k] w fun e w' => ∃ v', e = .returned (.tuple #[v', .bool (drB xs b k)]) ∧ Own w' w.heap.size v' (drL xs b k) ∧ Below w.heap.size w w' := by
  have H := Lib.hid ho.rd
  cases e1 : bokB xs b <;> cases e2 : inB k 0 60
  case true.true =>
    have hB : Hid (drB xs b k = true) := by simp [Hid, drB, e1, e2]
    have hL : Hid (drL xs b k = xs.drop k.toNat) := by simp [Hid, drL, hB.out]
    have g2 := inB_yes e2
    obtain ⟨k, rfl⟩ := Int.eq_ofNat_of_zero_le g2.1
    obtain ⟨hb0, h2⟩ := ho
    rcases h2.2 with ⟨rfl, hn0⟩ | ⟨g, cap, cur, rfl, hBg, hg, hnc, hcm, hcs, ht⟩
    · have hx : xs = [] := List.eq_nil_of_length_eq_zero hn0
      subst hx
      go_enter Try.func46, Try.ntmps46
      go_wp2_with (first | (go_at_call 30; refine (c_i_BalancedOk _ [] _ _ H.out).mono ?_; rintro e W1 ⟨rfl, hb⟩) | (go_at_call 74; refine (c_i_within _ _ _ _).mono ?_; rintro e w' ⟨rfl, rfl⟩) | (go_at_call 75; refine (c_Clone _ [] _ (H.out.below hb) (Nat.zero_le _) (.inl rfl)).mono ?_; rintro e W2 ⟨v', rfl, ho', hb'⟩))
      go_ret2
      exact ⟨_, ret_vb hB.out.symm, by rw [hL.out]; exact (ho'.mono hb.size).cast (by simp), hb.trans (hb'.mono hb.size)⟩
    · obtain ⟨n, hn⟩ : ∃ n, xs.length = n := ⟨_, rfl⟩
      rw [hn] at H hnc ⊢
      have hcm' : cap ≤ 9223372036854775807 := by unfold maxLen at hcm; omega
      have HN := Lib.hid hn
      clear hn ht hcs hg h2 hcm
      by_cases hkn : k ≤ n
      · have hmin : min (k : Int) (n : Int) = (k : Int) := by omega
        by_cases hcap : cap = k
        · have hkk : n = k := by omega
          subst hkk
          subst hcap
          go_enter Try.func46, Try.ntmps46
          go_wp2_with (first | (go_at_call 30; refine (c_i_BalancedOk _ xs _ _ H.out).mono ?_; rintro e W1 ⟨rfl, hb⟩) | (go_at_call 74; refine (c_i_within _ _ _ _).mono ?_; rintro e w' ⟨rfl, rfl⟩) | (go_at_call 75; refine (c_Clone _ [] _ (Rd.zero (H.out.below hb)) (Nat.zero_le _) (.inr ⟨_, _, _, rfl⟩)).mono ?_; rintro e W2 ⟨v', rfl, ho', hb'⟩))
          go_ret2
          exact ⟨_, ret_vb hB.out.symm, by rw [hL.out]; exact (ho'.mono hb.size).cast (by rw [List.drop_of_length_le]; have := HN.out; omega), hb.trans (hb'.mono hb.size)⟩
        · go_enter Try.func46, Try.ntmps46
          go_wp2_with (first | (go_at_call 30; refine (c_i_BalancedOk _ xs _ _ H.out).mono ?_; rintro e W1 ⟨rfl, hb⟩) | (go_at_call 74; refine (c_i_within _ _ _ _).mono ?_; rintro e w' ⟨rfl, rfl⟩) | (go_at_call 75; refine (c_Clone _ (xs.drop k) _ (by have h0 := (H.out.below hb).cutR' HN.out k hkn; rw [Nat.zero_add] at h0; exact h0) (drop_le _ hl.out) (.inr ⟨_, _, _, rfl⟩)).mono ?_; rintro e W2 ⟨v', rfl, ho', hb'⟩))
          go_ret2
          exact ⟨_, ret_vb hB.out.symm, by rw [hL.out]; exact (ho'.mono hb.size), hb.trans (hb'.mono hb.size)⟩
      · have hmin : min (k : Int) (n : Int) = (n : Int) := by omega
        by_cases hcap : cap = n
        · subst hcap
          go_enter Try.func46, Try.ntmps46
          go_wp2_with (first | (go_at_call 30; refine (c_i_BalancedOk _ xs _ _ H.out).mono ?_; rintro e W1 ⟨rfl, hb⟩) | (go_at_call 74; refine (c_i_within _ _ _ _).mono ?_; rintro e w' ⟨rfl, rfl⟩) | (go_at_call 75; refine (c_Clone _ [] _ (Rd.zero (H.out.below hb)) (Nat.zero_le _) (.inr ⟨_, _, _, rfl⟩)).mono ?_; rintro e W2 ⟨v', rfl, ho', hb'⟩))
          go_ret2
          exact ⟨_, ret_vb hB.out.symm, by rw [hL.out]; exact (ho'.mono hb.size).cast (by rw [List.drop_of_length_le]; have := HN.out; omega), hb.trans (hb'.mono hb.size)⟩
        · go_enter Try.func46, Try.ntmps46
          go_wp2_with (first | (go_at_call 30; refine (c_i_BalancedOk _ xs _ _ H.out).mono ?_; rintro e W1 ⟨rfl, hb⟩) | (go_at_call 74; refine (c_i_within _ _ _ _).mono ?_; rintro e w' ⟨rfl, rfl⟩) | (go_at_call 75; refine (c_Clone _ [] _ (Rd.zero' (H.out.below hb) (Nat.sub_le _ _)) (Nat.zero_le _) (.inr ⟨_, _, _, rfl⟩)).mono ?_; rintro e W2 ⟨v', rfl, ho', hb'⟩))
          go_ret2
          exact ⟨_, ret_vb hB.out.symm, by rw [hL.out]; exact (ho'.mono hb.size).cast (by rw [List.drop_of_length_le]; have := HN.out; omega), hb.trans (hb'.mono hb.size)⟩
  all_goals
    have hB : Hid (drB xs b k = false) := by simp [Hid, drB, e1, e2]
    have hL : Hid (drL xs b k = []) := by simp [Hid, drL, hB.out]
    go_enter Try.func46, Try.ntmps46
    go_wp2_with (first | (go_at_call 30; refine (c_i_BalancedOk _ xs _ _ H.out).mono ?_; rintro e W1 ⟨rfl, hb⟩) | (go_at_call 74; refine (c_i_within _ _ _ _).mono ?_; rintro e w' ⟨rfl, rfl⟩))
    go_ret2
    exact ⟨_, ret_vb hB.out.symm, by rw [hL.out]; exact Own.nil _ _, hb⟩

set_option maxHeartbeats 800000 in
theorem c_s_DropPlaces (v : Value) (xs : List Int) (b k : Int) (w : World) {B : Nat} (ho : Own w B v xs) (hl : Hid (xs.length ≤ 1048576)) :
    Calls Try.prog 45 #[v, .int .i64 b, .int .i64 k] w fun e w' => ∃ v', e = .returned (.tuple #[v', .bool (drB xs b k)]) ∧ Own w' w.heap.size v' (drL xs b k) ∧ Below w.heap.size w w' := by
  have H := Lib.hid ho.rd
  cases e1 : bokB xs b <;> cases e2 : inB k 0 60
  case true.true =>
    have hB : Hid (drB xs b k = true) := by simp [Hid, drB, e1, e2]
    have hL : Hid (drL xs b k = xs.drop k.toNat) := by simp [Hid, drL, hB.out]
    have g2 := inB_yes e2
    obtain ⟨k, rfl⟩ := Int.eq_ofNat_of_zero_le g2.1
    obtain ⟨hb0, h2⟩ := ho
    rcases h2.2 with ⟨rfl, hn0⟩ | ⟨g, cap, cur, rfl, hBg, hg, hnc, hcm, hcs, ht⟩
    · have hx : xs = [] := List.eq_nil_of_length_eq_zero hn0
      subst hx
      go_enter Try.func45, Try.ntmps45
      go_wp2_with (first | (go_at_call 29; refine (c_s_BalancedOk _ [] _ _ H.out).mono ?_; rintro e w' ⟨rfl, rfl⟩) | (go_at_call 58; refine (c_s_l01In _ _ _ _).mono ?_; rintro e w' ⟨rfl, rfl⟩))
      go_ret2
      exact ⟨_, ret_vb hB.out.symm, by rw [hL.out]; exact (Own.empty w _ (Nat.le_refl _)).cast (by simp), (Below.refl _ _).alloc (Nat.le_refl _) _⟩
    · obtain ⟨n, hn⟩ : ∃ n, xs.length = n := ⟨_, rfl⟩
      rw [hn] at H hnc ⊢
      have hcm' : cap ≤ 9223372036854775807 := by unfold maxLen at hcm; omega
      have HN := Lib.hid hn
      clear hn ht hcs hg h2 hcm
      by_cases hkn : k ≤ n
      · have hmin : min (k : Int) (n : Int) = (k : Int) := by omega
        by_cases hcap : cap = k
        · have hkk : n = k := by omega
          subst hkk
          subst hcap
          go_enter Try.func45, Try.ntmps45
          go_wp2_with (first | (go_at_call 29; refine (c_s_BalancedOk _ xs _ _ H.out).mono ?_; rintro e w' ⟨rfl, rfl⟩) | (go_at_call 58; refine (c_s_l01In _ _ _ _).mono ?_; rintro e w' ⟨rfl, rfl⟩))
          go_ret2
          exact ⟨_, ret_vb hB.out.symm, by rw [hL.out]; exact (Own.empty w _ (Nat.le_refl _)).cast (by rw [List.drop_of_length_le]; have := HN.out; omega), (Below.refl _ _).alloc (Nat.le_refl _) _⟩
        · by_cases hlt : k < n
          · have hn3 : n ≤ 1048576 := by rw [← HN.out]; exact hl.out
            go_enter Try.func45, Try.ntmps45
            go_wp2_with (first | (go_at_call 29; refine (c_s_BalancedOk _ xs _ _ H.out).mono ?_; rintro e w' ⟨rfl, rfl⟩) | (go_at_call 58; refine (c_s_l01In _ _ _ _).mono ?_; rintro e w' ⟨rfl, rfl⟩) | (at_builtin; refine wpList_appX _ rfl _ _ rfl w.heap.size w _ [] rfl (Own.empty _ _ (Nat.le_refl _)) ((Below.refl _ _).alloc (Nat.le_refl _) _) (Nat.le_refl _) g k (n - k) (cap - k) (xs.drop k) rfl (by have h0 := (H.out.below ((Below.refl _ _).alloc (Nat.le_refl _) (.cells #[] 3))).cutR' HN.out k hkn; rw [Nat.zero_add] at h0; exact h0) (by rw [Hid, List.length_drop, HN.out]) (by omega) (by simp; omega) ?_; intro v1 w1 hown1 hb1 _; simp only [List.nil_append] at hown1))
            go_goals
            go_ret2
            exact ⟨_, ret_vb hB.out.symm, by rw [hL.out]; exact hown1, hb1⟩
          · have hkk : n = k := by omega
            subst hkk
            go_enter Try.func45, Try.ntmps45
            go_wp2_with (first | (go_at_call 29; refine (c_s_BalancedOk _ xs _ _ H.out).mono ?_; rintro e w' ⟨rfl, rfl⟩) | (go_at_call 58; refine (c_s_l01In _ _ _ _).mono ?_; rintro e w' ⟨rfl, rfl⟩))
            go_goals
            go_ret2
            exact ⟨_, ret_vb hB.out.symm, by rw [hL.out]; exact (Own.empty w _ (Nat.le_refl _)).cast (by rw [List.drop_of_length_le]; have := HN.out; omega), (Below.refl _ _).alloc (Nat.le_refl _) _⟩
      · have hmin : min (k : Int) (n : Int) = (n : Int) := by omega
        by_cases hcap : cap = n
        · subst hcap
          go_enter Try.func45, Try.ntmps45
          go_wp2_with (first | (go_at_call 29; refine (c_s_BalancedOk _ xs _ _ H.out).mono ?_; rintro e w' ⟨rfl, rfl⟩) | (go_at_call 58; refine (c_s_l01In _ _ _ _).mono ?_; rintro e w' ⟨rfl, rfl⟩))
          go_ret2
          exact ⟨_, ret_vb hB.out.symm, by rw [hL.out]; exact (Own.empty w _ (Nat.le_refl _)).cast (by rw [List.drop_of_length_le]; have := HN.out; omega), (Below.refl _ _).alloc (Nat.le_refl _) _⟩
        · go_enter Try.func45, Try.ntmps45
          go_wp2_with (first | (go_at_call 29; refine (c_s_BalancedOk _ xs _ _ H.out).mono ?_; rintro e w' ⟨rfl, rfl⟩) | (go_at_call 58; refine (c_s_l01In _ _ _ _).mono ?_; rintro e w' ⟨rfl, rfl⟩))
          go_ret2
          exact ⟨_, ret_vb hB.out.symm, by rw [hL.out]; exact (Own.empty w _ (Nat.le_refl _)).cast (by rw [List.drop_of_length_le]; have := HN.out; omega), (Below.refl _ _).alloc (Nat.le_refl _) _⟩
  all_goals
    have hB : Hid (drB xs b k = false) := by simp [Hid, drB, e1, e2]
    have hL : Hid (drL xs b k = []) := by simp [Hid, drL, hB.out]
    go_enter Try.func45, Try.ntmps45
    go_wp2_with (first | (go_at_call 29; refine (c_s_BalancedOk _ xs _ _ H.out).mono ?_; rintro e w' ⟨rfl, rfl⟩) | (go_at_call 58; refine (c_s_l01In _ _ _ _).mono ?_; rintro e w' ⟨rfl, rfl⟩))
    go_goals
    go_ret2
    exact ⟨_, ret_vb hB.out.symm, by rw [hL.out]; exact Own.nil _ _, Below.refl _ _⟩

end Go.Proofs.Ytdffcgfllpeppaa
