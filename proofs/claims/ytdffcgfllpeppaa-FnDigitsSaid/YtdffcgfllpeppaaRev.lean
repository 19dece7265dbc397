/- Contracts of ReverseNumber, the program's and the reference's. -/
import Derived.Test.YtdffcgfllpeppaaVal
import Derived.Test.YtdffcgfllpeppaaShelf
import Derived.Lib.OwnBridge
namespace Go.Proofs.Ytdffcgfllpeppaa
open Go.RowKit
open Pl

/-- slices.Reverse of one of the call's own. -/
theorem c_Reverse (v : Value) (xs : List Int) (B : Nat) (w0 w : World) (h : Own w B v xs) (hb : Below B w0 w) :
    Calls Try.prog 77 #[v] w fun e w' => e = .returned (.tuple #[]) ∧ Own w' B v xs.reverse ∧ Below B w0 w' := by
  by_cases hv : v = .slice none 0 0
  · subst hv
    have hx : xs = [] := List.eq_nil_of_length_eq_zero (by
      rcases h.2.2 with ⟨_, h2⟩ | ⟨g, cap, cur, e, _⟩
      · exact h2
      · cases e)
    subst hx
    refine (Try.slices_Reverse_int_empty _ _ w).mono ?_
    rintro e w' ⟨rfl, rfl⟩
    exact ⟨rfl, h, hb⟩
  · obtain ⟨g, cap, rfl, hbg, _, hnc, hcm, hlen, hH⟩ := Lib.holds_of_ownsRow h.2 hv
    refine (Try.slices_Reverse_int g 0 cap xs w hH (by unfold maxLen at hcm; omega)).mono ?_
    rintro e w' ⟨rfl, q, rfl⟩
    have h1 := Lib.ownsRow_putRow (q := q) (ys := xs.reverse) h.2 (by simp) (Nat.le_refl _)
    rw [List.take_of_length_le (by simp)] at h1
    exact ⟨rfl, ⟨fun x hx => h.1 x (List.mem_reverse.1 hx), by rw [List.length_reverse]; exact h1⟩, Lib.below_putRow hb hbg⟩

set_option maxHeartbeats 400000 in
theorem c_Clip (v : Value) (xs : List Int) (w : World) (h : Rd w v xs) :
    Calls Try.prog 86 #[v] w fun e w' => ∃ v', e = .returned v' ∧ Rd w v' xs ∧ w = w' := by
  obtain ⟨hb, a, cap, rfl, hc, hm, hcell⟩ := h
  obtain ⟨n, hn⟩ : ∃ n, xs.length = n := ⟨_, rfl⟩
  rw [hn] at hc hcell ⊢
  have hcm' : cap ≤ 9223372036854775807 := by unfold maxLen at hm; omega
  have HC := Lib.hid hcell
  have HN := Lib.hid hn
  have HB := Lib.hid hb
  clear hb hcell hm hn
  go_enter Try.func86, Try.ntmps86
  go_wp2
  go_ret
  exact ⟨.slice a n n, rfl, ⟨HB.out, a, n, by rw [HN.out], by rw [HN.out]; exact Nat.le_refl _, by unfold maxLen; omega, by rw [HN.out]; exact HC.out⟩, rfl⟩

theorem hv_snoc0 (b : Int) (l : List Int) : hv b (l ++ [0]) = hv b l := by
  simp [hv, List.foldr_append]

/-- The length of a slice. -/
def slLen : Value → Nat
  | .slice _ n _ => n
  | _ => 0

/-- A cut of a slice that reads as xs. -/
theorem Rd.cutA {w : World} {a : Option Addr} {cap n : Nat} {xs : List Int} (h : Rd w (.slice a n cap) xs) (hn : xs.length = n) (k : Nat) (hk : k ≤ n) : Rd w (.slice a k cap) (xs.take k) := by
  obtain ⟨hb, a', cap', e, hc, hm, hcell⟩ := h
  cases e
  have hlen : (xs.take k).length = k := by rw [List.length_take]; omega
  refine ⟨fun x hx => hb x (List.mem_of_mem_take hx), a, cap, by rw [hlen], by omega, hm, fun h0 => ?_⟩
  obtain ⟨b, off, rfl, hlt, hcell⟩ := hcell (by omega)
  refine ⟨b, off, rfl, hlt, fun i hi => ?_⟩
  rw [hlen] at hi
  rw [hcell i (by omega), List.getD_eq_getElem?_getD, List.getD_eq_getElem?_getD, List.getElem?_take, if_pos hi]

/-- xs cut to k: the same value, and no zero at its end. -/
def Trim (xs ys : List Int) : Prop := ∃ k, k ≤ xs.length ∧ ys = xs.take k ∧ (∀ b, hv b ys = hv b xs) ∧ (0 < k → xs.getD (k - 1) 0 ≠ 0)

set_option maxHeartbeats 400000 in
theorem c_i_trimmed (v : Value) (xs : List Int) (w : World) (h : Rd w v xs) :
    Calls Try.prog 78 #[v] w fun e w' => ∃ v' ys, e = .returned v' ∧ Rd w v' ys ∧ Trim xs ys ∧ w = w' := by
  obtain ⟨a, cap, n, rfl, HN, hm, hc, hcm, hcell⟩ := h.open
  have H := Lib.hid h
  clear h
  go_enter Try.func78, Try.ntmps78
  go_wp2
  go_loop [0] (fun v => ∃ k : Nat, k ≤ n ∧ v = .slice a k cap ∧ Hid (∀ b, hv b (xs.take k) = hv b xs)) (fun v => slLen v)
  case atStart => exact ⟨n, by omega, rfl, fun b => by rw [List.take_of_length_le (by rw [HN.out]; omega)]⟩
  case round =>
    obtain ⟨k, hk, rfl, hq⟩ := hrel
    by_cases hlt : 0 < k
    · obtain ⟨g, off, rfl, hbl, x, hx, hbd, hcx⟩ := hcell (k - 1) (by omega)
      by_cases hx0 : x = 0
      · subst hx0
        clear hcell
        go_wp2
        go_round
        case rel => exact ⟨k - 1, by omega, by go_num, fun b => by rw [← hq.out b]; have := take_step (xs := xs) (k := k - 1) (by rw [HN.out]; omega); rw [hx.out, show k - 1 + 1 = k from by omega] at this; rw [this, hv_snoc0]⟩
        case measure => simp [slLen]; omega
      · have hT : Hid (Trim xs (xs.take k)) := ⟨k, by rw [HN.out]; exact hk, rfl, hq.out, fun _ => by rw [hx.out]; exact hx0⟩
        have HC := Lib.hid (H.out.cutA HN.out k hk)
        clear hcell
        go_wp2_with (go_at_call 86; refine (c_Clip _ (xs.take k) _ HC.out).mono ?_; rintro e w' ⟨v', rfl, hr, rfl⟩)
        go_ret
        exact ⟨_, _, rfl, hr, hT.out, rfl⟩
    · have hk0 : k = 0 := by omega
      subst hk0
      have hT : Hid (Trim xs (xs.take 0)) := ⟨0, Nat.zero_le _, rfl, hq.out, fun h => absurd h (Nat.lt_irrefl _)⟩
      have HC := Lib.hid (H.out.cutA HN.out 0 hk)
      clear hcell
      go_wp2_with (go_at_call 86; refine (c_Clip _ (xs.take 0) _ HC.out).mono ?_; rintro e w' ⟨v', rfl, hr, rfl⟩)
      go_ret
      exact ⟨_, _, rfl, hr, hT.out, rfl⟩

set_option maxHeartbeats 400000 in
theorem c_s_l02Turn (v : Value) (xs : List Int) (w : World) (h : Rd w v xs) (hl : xs.length ≤ 1048576) :
    Calls Try.prog 76 #[v] w fun e w' => ∃ v', e = .returned v' ∧ Own w' w.heap.size v' xs.reverse ∧ Below w.heap.size w w' := by
  obtain ⟨a, cap, n, rfl, HN, hm, hc, hcm, hcell⟩ := h.open
  have hn : n ≤ 1048576 := by rw [← HN.out]; exact hl
  clear hl h
  go_enter Try.func76, Try.ntmps76
  go_wp2
  go_loopw [3, 4] (fun v i wr => ∃ k : Nat, k ≤ n ∧ i = .int .i64 ((k : Int) - 1) ∧ Own wr w.heap.size v (xs.drop k).reverse ∧ Below w.heap.size w wr) (fun _ i _ => (intOf i + 1).toNat)
  case atStart => exact ⟨n, by omega, rfl, by rw [List.drop_eq_nil_of_le (by rw [HN.out]; omega)]; exact Own.empty _ _ (Nat.le_refl _), (Below.refl _ _).alloc (Nat.le_refl _) _⟩
  case round =>
    obtain ⟨k, hk, rfl, hown, hb⟩ := hrel
    by_cases hlt : 0 < k
    · obtain ⟨g, off, rfl, hbl, x, hx, hbd, hcx⟩ := hcell (k - 1) (by omega)
      have hcr := (hb.cell (by exact hbl)).trans hcx
      have hst : Hid ((xs.drop k).reverse ++ [x] = (xs.drop (k - 1)).reverse) := by
        have := drop_step (xs := xs) (k := k - 1) (by rw [HN.out]; omega)
        rw [hx.out, show k - 1 + 1 = k from by omega] at this
        rw [Hid, this, List.reverse_cons]
      have hlen : (xs.drop k).reverse.length ≤ 1048576 := by rw [List.length_reverse, List.length_drop, HN.out]; omega
      have hix : ((k : Int) - 1).toNat = k - 1 := by omega
      clear hcell hcx hx
      go_wp2_with (at_builtin; refine wpList_app _ rfl _ _ rfl w.heap.size w _ (xs.drop k).reverse rfl (hown.alloc _) (hb.alloc hb.size _) (Nat.le_refl _) ⟨wr.heap.size, 0, none⟩ x rfl (by simp) hbd (by omega) ?_; intro v' w1 hown1 hb1 _; rw [hst.out] at hown1)
      go_roundw
      case rel => exact ⟨k - 1, by omega, by go_num, hown1, hb1⟩
      case measure => simp [intOf]; omega
    · have hk0 : k = 0 := by omega
      subst hk0
      clear hcell
      go_wp2
      go_ret
      exact ⟨_, rfl, by simpa using hown, hb⟩

/-- The number read from the other end, where there is one. -/
def rvB (n b : Int) : Bool := (inB n 0 1000000000000 && inB b 2 16) && decide (hv b (digs b.toNat n.toNat).reverse ≤ 1000000000000)
def rvN (n b : Int) : Int := if rvB n b then hv b (digs b.toNat n.toNat).reverse else 0

theorem allB_mk {xs : List Int} {lo hi : Int} (h : ∀ x ∈ xs, lo ≤ x ∧ x ≤ hi) : allB xs lo hi = true := by
  unfold allB
  rw [List.all_eq_true]
  intro x hx
  unfold inB
  have := h x hx
  simp [this.1, this.2]

theorem trim_dok {n b : Nat} {ys : List Int} (h1 : n ≤ 1000000000000) (hb2 : 2 ≤ b) (hb16 : b ≤ 16) (h : Trim (digs b n).reverse ys) : dokB ys b = true := by
  obtain ⟨k, hk, rfl, _, hz⟩ := h
  have h40 := digs40 n b hb2 h1
  have hlen : ((digs b n).reverse.take k).length = k := by rw [List.length_take]; omega
  rw [List.length_reverse] at hk
  unfold dokB
  rw [Bool.and_eq_true, Bool.and_eq_true]
  refine ⟨?_, ?_, allB_mk fun x hx => ?_⟩
  · unfold inB; simp; omega
  · unfold endB
    rw [decide_eq_true_iff, hlen]
    refine ⟨by omega, ?_⟩
    by_cases h0 : k = 0
    · exact .inl h0
    · refine .inr ?_
      have := hz (by omega)
      rwa [List.getD_eq_getElem?_getD, List.getElem?_take, if_pos (by omega), ← List.getD_eq_getElem?_getD]
  · have := digs_range b hb2 n x (List.mem_reverse.1 (List.mem_of_mem_take hx))
    omega

theorem trim_vl {n b : Nat} {ys : List Int} (h1 : n ≤ 1000000000000) (hb2 : 2 ≤ b) (hb16 : b ≤ 16) (e1 : inB n 0 1000000000000 = true) (e2 : inB b 2 16 = true) (h : Trim (digs b n).reverse ys) : vlB ys b = rvB n b ∧ vlN ys b = rvN n b := by
  have hd := trim_dok h1 hb2 hb16 h
  obtain ⟨k, hk, rfl, hq, hz⟩ := h
  have hB : vlB ((digs b n).reverse.take k) b = rvB n b := by simp [vlB, rvB, hd, e1, e2, hq]
  exact ⟨hB, by unfold vlN rvN; rw [hB, hq]; rfl⟩

set_option maxHeartbeats 400000 in
theorem c_s_ReverseNumber (n b : Int) (w : World) :
    Calls Try.prog 47 #[.int .i64 n, .int .i64 b] w fun e w' => e = .returned (.tuple #[.int .i64 (rvN n b), .bool (rvB n b)]) ∧ Below w.heap.size w w' := by
  cases e1 : inB n 0 1000000000000 <;> cases e2 : inB b 2 16
  case true.true =>
    have g1 := inB_yes e1
    have g2 := inB_yes e2
    obtain ⟨n, rfl⟩ := Int.eq_ofNat_of_zero_le g1.1
    obtain ⟨b, rfl⟩ := Int.eq_ofNat_of_zero_le (show 0 ≤ b by omega)
    have hl : Hid ((digs b n).length ≤ 1048576) := by have := digs40 n b (by omega) (by omega); show _ ≤ _; omega
    have hr : Hid (∀ x ∈ (digs b n).reverse, 0 ≤ x ∧ x ≤ 15) := fun x hx => by have := digs_range b (by omega) n x (List.mem_reverse.1 hx); omega
    by_cases hle : hv b (digs b n).reverse ≤ 1000000000000
    · have hB : Hid (rvB n b = true) := by simp [Hid, rvB, e1, e2, hle]
      have hN : Hid (rvN n b = hv b (digs b n).reverse) := by simp [Hid, rvN, hB.out]
      have hp := hv_pos (b := b) (by omega) (digs b n).reverse fun x hx => (hr.out x hx).1
      have HX : Hid (vl0 b (digs b n).reverse = hv b (digs b n).reverse) := vl0_yes hle
      go_enter Try.func47, Try.ntmps47
      go_wp2_with (first | (go_at_call 61; refine (c_s_l02Ok _ _ _).mono ?_; rintro e w' ⟨rfl, rfl⟩) | (go_at_call 63; refine (c_s_l02Digits n b _ (by omega) (by omega) (by omega)).mono ?_; rintro e w1 ⟨v, rfl, hown, hbl⟩) | (go_at_call 76; refine (c_s_l02Turn _ (digs b n) _ hown.rd hl.out).mono ?_; rintro e w2 ⟨v2, rfl, hown2, hbl2⟩) | (go_at_call 73; refine (c_s_l02Value _ (digs b n).reverse _ _ hown2.rd (by omega) (by omega) hr).mono ?_; rintro e w' ⟨rfl, rfl⟩; rw [HX.out]))
      go_ret2
      exact ⟨ret_ib hN.out.symm hB.out.symm, hbl.trans (hbl2.mono hbl.size)⟩
    · have hB : Hid (rvB n b = false) := by simp [Hid, rvB, hle]
      have hN : Hid (rvN n b = 0) := by simp [Hid, rvN, hB.out]
      have HX : Hid (vl0 b (digs b n).reverse = -1) := vl0_no hle
      clear hle
      go_enter Try.func47, Try.ntmps47
      go_wp2_with (first | (go_at_call 61; refine (c_s_l02Ok _ _ _).mono ?_; rintro e w' ⟨rfl, rfl⟩) | (go_at_call 63; refine (c_s_l02Digits n b _ (by omega) (by omega) (by omega)).mono ?_; rintro e w1 ⟨v, rfl, hown, hbl⟩) | (go_at_call 76; refine (c_s_l02Turn _ (digs b n) _ hown.rd hl.out).mono ?_; rintro e w2 ⟨v2, rfl, hown2, hbl2⟩) | (go_at_call 73; refine (c_s_l02Value _ (digs b n).reverse _ _ hown2.rd (by omega) (by omega) hr).mono ?_; rintro e w' ⟨rfl, rfl⟩; rw [HX.out]))
      go_ret2
      exact ⟨ret_ib hN.out.symm hB.out.symm, hbl.trans (hbl2.mono hbl.size)⟩
  all_goals
    go_enter Try.func47, Try.ntmps47
    go_wp2_with (first | (go_at_call 61; refine (c_s_l02Ok _ _ _).mono ?_; rintro e w' ⟨rfl, rfl⟩))
    go_ret2
    exact ⟨ret_ib (by simp [rvN, rvB, e1, e2]) (by simp [rvB, e1, e2]), Below.refl _ _⟩

set_option maxHeartbeats 400000 in
theorem c_i_ReverseNumber (n b : Int) (w : World) :
    Calls Try.prog 48 #[.int .i64 n, .int .i64 b] w fun e w' => e = .returned (.tuple #[.int .i64 (rvN n b), .bool (rvB n b)]) ∧ Below w.heap.size w w' := by
  cases e1 : inB n 0 1000000000000 <;> cases e2 : inB b 2 16
  case true.true =>
    have g1 := inB_yes e1
    have g2 := inB_yes e2
    obtain ⟨n, rfl⟩ := Int.eq_ofNat_of_zero_le g1.1
    obtain ⟨b, rfl⟩ := Int.eq_ofNat_of_zero_le (show 0 ≤ b by omega)
    have HT : Hid (∀ ys, Trim (digs b n).reverse ys → vlB ys b = rvB n b ∧ vlN ys b = rvN n b) := fun ys h => trim_vl (by omega) (by omega) (by omega) e1 e2 h
    go_enter Try.func48, Try.ntmps48
    go_wp2_with (first | (go_at_call 64; refine (c_i_isNumber _ _).mono ?_; rintro e w' ⟨rfl, rfl⟩) | (go_at_call 56; refine (c_i_BaseOk _ _).mono ?_; rintro e w' ⟨rfl, rfl⟩) | (go_at_call 66; refine (c_i_digitsOf n b _ (by omega) (by omega) (by omega)).mono ?_; rintro e w1 ⟨v, rfl, hown, hbl⟩) | (go_at_call 77; refine (c_Reverse _ (digs b n) _ _ _ hown hbl).mono ?_; rintro e w2 ⟨rfl, hown2, hbl2⟩) | (go_at_call 78; refine (c_i_trimmed _ (digs b n).reverse _ hown2.rd).mono ?_; rintro e w' ⟨v3, ys, rfl, hr3, hT, rfl⟩) | (go_at_call 44; refine (c_i_ValueOf _ ys _ _ hr3).mono ?_; rintro e w3 ⟨rfl, hbl3⟩))
    go_ret2
    exact ⟨ret_ib (HT.out _ hT).2 (HT.out _ hT).1, hbl2.trans (hbl3.mono hbl2.size)⟩
  all_goals
    go_enter Try.func48, Try.ntmps48
    go_wp2_with (first | (go_at_call 64; refine (c_i_isNumber _ _).mono ?_; rintro e w' ⟨rfl, rfl⟩) | (go_at_call 56; refine (c_i_BaseOk _ _).mono ?_; rintro e w' ⟨rfl, rfl⟩))
    go_ret2
    exact ⟨ret_ib (by simp [rvN, rvB, e1, e2]) (by simp [rvB, e1, e2]), Below.refl _ _⟩

end Go.Proofs.Ytdffcgfllpeppaa
