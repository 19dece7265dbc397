/- Contracts of the functions on mixed digits: MixedOk, MixedDigits, MixedValue, the program's and the reference's. -/
import Derived.Test.YtehlkoogpgcipaaRad
import Derived.Test.YtehlkoogpgcipaaNeg
namespace Go.Proofs.Ytehlkoogpgcipaa
open Go.RowKit

/-- The mixed digits of n. -/
def mixD : List Int → Int → List Int
  | [], _ => []
  | r :: rs, n => n % r :: mixD rs (n / r)
theorem mixD_len (rs : List Int) (n : Int) : (mixD rs n).length = rs.length := by
  induction rs generalizing n with
  | nil => rfl
  | cons r rs ih => simp [mixD, ih]
theorem mixD_drop {rs : List Int} {k : Nat} (m : Int) (h : k < rs.length) : mixD (rs.drop k) m = m % rs.getD k 0 :: mixD (rs.drop (k + 1)) (m / rs.getD k 0) := by
  rw [drop_step h]; rfl

set_option maxHeartbeats 400000 in
theorem c_i_mixed (n : Nat) (v : Value) (xs : List Int) (w : World) (h : Rd w v xs) (hn : n ≤ 1000000000000) (hl : Hid (xs.length ≤ 10)) (hx : Hid (∀ x ∈ xs, 2 ≤ x ∧ x ≤ 60)) :
    Calls Try.prog 46 #[.int .i64 n, v] w fun e w' => ∃ v', e = .returned v' ∧ Own w' w.heap.size v' (mixD xs n) ∧ Below w.heap.size w w' := by
  obtain ⟨a, cap, N, rfl, HN, hm, hc, hcm, hcell⟩ := h.open
  have hl' := hl.out
  rw [HN.out] at hl'
  go_enter Try.func46, Try.ntmps46
  go_wp2
  go_loopw [0, 5, 7, 10] (fun q v _ i wr => ∃ (k m : Nat) (ys : List Int), k ≤ N ∧ m ≤ 1000000000000 ∧ i = .int .i64 k ∧ q = .int .i64 m ∧ ys.length = k ∧ Own wr w.heap.size v ys ∧ Hid (ys ++ mixD (xs.drop k) m = mixD xs n) ∧ Below w.heap.size w wr) (fun _ _ _ i _ => N - (intOf i).toNat)
  case atStart => exact ⟨0, n, [], by omega, hn, rfl, rfl, rfl, Own.nil _ _, by simp [Hid], Below.refl _ _⟩
  case round =>
    obtain ⟨k, m, ys, hk, hm', rfl, rfl, hyl, hown, hq, hb⟩ := hrel
    have HY := Lib.hid hyl
    clear hyl
    by_cases hlt : k < N
    · obtain ⟨b, off, rfl, hbl, y, hy, hbd, hcx⟩ := hcell k hlt
      have hcr : wr.cell? ⟨b, off + k, none⟩ = some (.int .i64 y) := (hb.cell (by exact hbl)).trans hcx
      have hyy := hx.out y (by rw [← hy.out]; exact getD_mem (by rw [HN.out]; exact hlt))
      obtain ⟨r, rfl⟩ := Int.eq_ofNat_of_zero_le (show 0 ≤ y by omega)
      have hq2 : Hid ((ys ++ [((m % r : Nat) : Int)]) ++ mixD (xs.drop (k + 1)) ((m / r : Nat) : Int) = mixD xs n) := by
        show _ = _
        rw [← hq.out, mixD_drop (rs := xs) (k := k) _ (by rw [HN.out]; exact hlt), hy.out]; simp
      have q0 : (0 : Int) ≤ (m : Int) / (r : Int) := Int.ediv_nonneg (by omega) (by omega)
      have q1 : m / r ≤ m := Nat.div_le_self _ _
      have q2 : m % r < r := Nat.mod_lt _ (by omega)
      have hlen : Hid (ys.length < 17592186044415) := by show _ < _; rw [HY.out]; omega
      have hlen2 : Hid ((ys ++ [((m % r : Nat) : Int)]).length = k + 1) := by show _ = _; simp [HY.out]
      clear hq hy hcell hcx
      go_wp2_with (at_builtin; refine wpList_app _ rfl _ _ rfl w.heap.size w _ ys rfl (hown.alloc _) (hb.alloc hb.size _) (Nat.le_refl _) ⟨wr.heap.size, 0, none⟩ ((m : Int) % r) rfl (by simp) (by unfold bd; omega) hlen.out ?_; intro v' w1 hown1 hb1 _)
      go_roundw
      case rel => exact ⟨k + 1, m / r, ys ++ [((m % r : Nat) : Int)], by omega, by omega, by go_num, by go_num, hlen2.out, by simpa using hown1, hq2, hb1⟩
      case measure => simp [intOf]; omega
    · have hfin : Hid (ys = mixD xs n) := by
        show _ = _
        rw [← hq.out, List.drop_eq_nil_of_le (by rw [HN.out]; omega)]; simp [mixD]
      clear hcell hq
      go_wp2
      go_ret
      exact ⟨_, rfl, by rw [← hfin.out]; exact hown, hb⟩

/-- The mixed digits where there are any. -/
def mdV (n : Int) (rs : List Int) : List Int := if rokB rs && inB n 0 (prodL rs - 1) then mixD rs n else []
theorem mdV_len (n : Int) (rs : List Int) : (mdV n rs).length ≤ 1048576 := by
  unfold mdV
  split
  · rename_i h
    rw [Bool.and_eq_true] at h
    rw [mixD_len]
    have := (rok_of h.1).1.2
    omega
  · simp

set_option maxHeartbeats 400000 in
theorem c_i_MixedDigits (n : Int) (v : Value) (xs : List Int) (w : World) (h : Rd w v xs) :
    Calls Try.prog 18 #[.int .i64 n, v] w fun e w' => ∃ v', e = .returned v' ∧ Own w' w.heap.size v' (mdV n xs) ∧ Below w.heap.size w w' := by
  have H := Lib.hid h
  clear h
  have hr1 : -1000000000000 ≤ rngV xs ∧ rngV xs ≤ 1000000000000 := by
    unfold rngV
    split
    · rename_i h
      have h1 := rok_of h
      have : 1 ≤ prodL xs := prodL_pos fun x hx => by have := h1.2.1 x hx; omega
      omega
    · omega
  cases e1 : inB n 0 (rngV xs - 1)
  · have hV : Hid (mdV n xs = []) := by
      show _ = _
      unfold mdV
      cases e2 : rokB xs
      · rfl
      · unfold rngV at e1; rw [e2] at e1; simp only [if_true] at e1; rw [e1]; rfl
    go_enter Try.func18, Try.ntmps18
    go_wp2_with (first | (go_at_call 14; refine (c_i_RangeOf _ xs _ H.out).mono ?_; rintro e W1 ⟨rfl, hb⟩) | (go_at_call 42; refine (c_i_within _ _ _ _).mono ?_; rintro e w' ⟨rfl, rfl⟩))
    go_ret
    exact ⟨_, rfl, by rw [hV.out]; exact Own.nil _ _, hb⟩
  · have g1 := inB_yes e1
    have e2 : rokB xs = true := by
      cases e2 : rokB xs
      · unfold rngV at g1; rw [e2] at g1; simp at g1; omega
      · rfl
    have hV : Hid (mdV n xs = mixD xs n) := by
      show _ = _
      unfold mdV
      unfold rngV at e1; rw [e2] at e1 ⊢; simp only [if_true] at e1; rw [e1]; rfl
    have hr := rok_of e2
    have hl : Hid (xs.length ≤ 10) := hr.1.2
    have hx : Hid (∀ x ∈ xs, 2 ≤ x ∧ x ≤ 60) := hr.2.1
    clear hr
    obtain ⟨n, rfl⟩ := Int.eq_ofNat_of_zero_le g1.1
    go_enter Try.func18, Try.ntmps18
    go_wp2_with (first | (go_at_call 14; refine (c_i_RangeOf _ xs _ H.out).mono ?_; rintro e W1 ⟨rfl, hb⟩) | (go_at_call 42; refine (c_i_within _ _ _ _).mono ?_; rintro e w' ⟨rfl, rfl⟩) | (go_at_call 46; refine (c_i_mixed n _ xs _ (H.out.below hb) (by omega) hl hx).mono ?_; rintro e W2 ⟨v', rfl, ho, hb2⟩))
    go_ret
    exact ⟨_, rfl, by rw [hV.out]; exact ho.mono hb.size, hb.trans (hb2.mono hb.size)⟩

set_option maxHeartbeats 400000 in
theorem c_s_MixedDigits (n : Int) (v : Value) (xs : List Int) (w : World) (h : Rd w v xs) :
    Calls Try.prog 35 #[.int .i64 n, v] w fun e w' => ∃ v', e = .returned v' ∧ Own w' w.heap.size v' (mdV n xs) ∧ Below w.heap.size w w' := by
  obtain ⟨a, cap, N, rfl, HN, hm, hc, hcm, hcell⟩ := h.open
  have H := Lib.hid h
  clear h
  cases e1 : rokB xs
  · have hV : Hid (mdV n xs = []) := by simp [Hid, mdV, e1]
    clear hcell
    go_enter Try.func35, Try.ntmps35
    go_wp2_with (go_at_call 26; refine (c_s_RadicesOk _ xs _ H.out).mono ?_; rintro e w' ⟨rfl, rfl⟩)
    go_ret
    exact ⟨_, rfl, by rw [hV.out]; exact Own.nil _ _, Below.refl _ _⟩
  · have hr := rok_of e1
    have hl : Hid (xs.length ≤ 10) := hr.1.2
    have hx : Hid (∀ x ∈ xs, 2 ≤ x ∧ x ≤ 60) := hr.2.1
    have hp1 : prodL xs ≤ 1000000000000 := hr.2.2
    have hp0 : 1 ≤ prodL xs := prodL_pos fun x hx' => by have := hr.2.1 x hx'; omega
    clear hr
    have hl' := hl.out
    rw [HN.out] at hl'
    cases e2 : inB n 0 (prodL xs - 1)
    · have hV : Hid (mdV n xs = []) := by simp [Hid, mdV, e2]
      clear hcell
      go_enter Try.func35, Try.ntmps35
      go_wp2_with (first | (go_at_call 26; refine (c_s_RadicesOk _ xs _ H.out).mono ?_; rintro e w' ⟨rfl, rfl⟩) | (go_at_call 53; refine (c_s_l07Range _ xs _ H.out hl hx).mono ?_; rintro e w' ⟨rfl, rfl⟩) | (go_at_call 52; refine (c_s_l01In _ _ _ _).mono ?_; rintro e w' ⟨rfl, rfl⟩))
      go_ret
      exact ⟨_, rfl, by rw [hV.out]; exact Own.nil _ _, Below.refl _ _⟩
    · have g2 := inB_yes e2
      have hV : Hid (mdV n xs = mixD xs n) := by simp [Hid, mdV, e1, e2]
      obtain ⟨n, rfl⟩ := Int.eq_ofNat_of_zero_le g2.1
      go_enter Try.func35, Try.ntmps35
      go_wp2_with (first | (go_at_call 26; refine (c_s_RadicesOk _ xs _ H.out).mono ?_; rintro e w' ⟨rfl, rfl⟩) | (go_at_call 53; refine (c_s_l07Range _ xs _ H.out hl hx).mono ?_; rintro e w' ⟨rfl, rfl⟩) | (go_at_call 52; refine (c_s_l01In _ _ _ _).mono ?_; rintro e w' ⟨rfl, rfl⟩))
      go_loopw [0, 5, 7, 22] (fun q v _ i wr => ∃ (k m : Nat) (ys : List Int), k ≤ N ∧ m ≤ 1000000000000 ∧ i = .int .i64 k ∧ q = .int .i64 m ∧ ys.length = k ∧ Own wr w.heap.size v ys ∧ Hid (ys ++ mixD (xs.drop k) m = mixD xs n) ∧ Below w.heap.size w wr) (fun _ _ _ i _ => N - (intOf i).toNat)
      case atStart => exact ⟨0, n, [], by omega, by omega, rfl, rfl, rfl, Own.empty _ _ (Nat.le_refl _), by simp [Hid], (Below.refl _ _).alloc (Nat.le_refl _) _⟩
      case round =>
        obtain ⟨k, m, ys, hk, hm', rfl, rfl, hyl, hown, hq, hb⟩ := hrel
        have HY := Lib.hid hyl
        clear hyl
        by_cases hlt : k < N
        · obtain ⟨b, off, rfl, hbl, y, hy, hbd, hcx⟩ := hcell k hlt
          have hcr : wr.cell? ⟨b, off + k, none⟩ = some (.int .i64 y) := (hb.cell (by exact hbl)).trans hcx
          have hyy := hx.out y (by rw [← hy.out]; exact getD_mem (by rw [HN.out]; exact hlt))
          obtain ⟨r, rfl⟩ := Int.eq_ofNat_of_zero_le (show 0 ≤ y by omega)
          have hq2 : Hid ((ys ++ [((m % r : Nat) : Int)]) ++ mixD (xs.drop (k + 1)) ((m / r : Nat) : Int) = mixD xs n) := by
            show _ = _
            rw [← hq.out, mixD_drop (rs := xs) (k := k) _ (by rw [HN.out]; exact hlt), hy.out]; simp
          have q0 : (0 : Int) ≤ (m : Int) / (r : Int) := Int.ediv_nonneg (by omega) (by omega)
          have q1 : m / r ≤ m := Nat.div_le_self _ _
          have q2 : m % r < r := Nat.mod_lt _ (by omega)
          have hlen : Hid (ys.length < 17592186044415) := by show _ < _; rw [HY.out]; omega
          have hlen2 : Hid ((ys ++ [((m % r : Nat) : Int)]).length = k + 1) := by show _ = _; simp [HY.out]
          clear hq hy hcell hcx
          go_wp2_with (at_builtin; refine wpList_app _ rfl _ _ rfl w.heap.size w _ ys rfl (hown.alloc _) (hb.alloc hb.size _) (Nat.le_refl _) ⟨wr.heap.size, 0, none⟩ ((m : Int) % r) rfl (by simp) (by unfold bd; omega) hlen.out ?_; intro v' w1 hown1 hb1 _)
          go_roundw
          case rel => exact ⟨k + 1, m / r, ys ++ [((m % r : Nat) : Int)], by omega, by omega, by go_num, by go_num, hlen2.out, by simpa using hown1, hq2, hb1⟩
          case measure => simp [intOf]; omega
        · have hfin : Hid (ys = mdV n xs) := by
            show _ = _
            rw [hV.out, ← hq.out, List.drop_eq_nil_of_le (by rw [HN.out]; omega)]; simp [mixD]
          clear hcell hq
          go_wp2
          go_ret
          exact ⟨_, rfl, by rw [← hfin.out]; exact hown, hb⟩

/-- Each digit is less than its radix. -/
def isMP (ds rs : List Int) : Prop := ds.length = rs.length ∧ ∀ j, j < ds.length → inB (ds.getD j 0) 0 (rs.getD j 0 - 1) = true
instance (ds rs : List Int) : Decidable (isMP ds rs) := by unfold isMP; infer_instance
def mokB (ds rs : List Int) : Bool := rokB rs && decide (isMP ds rs)

set_option maxHeartbeats 800000 in
theorem c_i_isMixed (u v : Value) (ds rs : List Int) (w : World) (h : Rd w u ds) (g : Rd w v rs) (hrr : Hid (∀ x ∈ rs, 2 ≤ x ∧ x ≤ 60)) :
    Calls Try.prog 48 #[u, v] w fun e w' => e = .returned (.bool (decide (isMP ds rs))) ∧ w = w' := by
  obtain ⟨a, cap, n, rfl, HN, hm, hc, hcm, hcell⟩ := h.open
  obtain ⟨a', cap', N, rfl, HN', hm', hc', hcm', hcell'⟩ := g.open
  by_cases hne : n = N
  · subst hne
    go_enter Try.func48, Try.ntmps48
    go_wp2
    go_loop [5, 6, 14] (fun _ _ i => ∃ k : Nat, k ≤ n ∧ i = .int .i64 k ∧ Hid (∀ j, j < k → inB (ds.getD j 0) 0 (rs.getD j 0 - 1) = true)) (fun _ _ i => n - (intOf i).toNat)
    case atStart => exact ⟨0, by omega, rfl, fun j hj => by omega⟩
    case round =>
      obtain ⟨k, hk, rfl, hr⟩ := hrel
      by_cases hlt : k < n
      · obtain ⟨b, off, rfl, hbl, x, hx, hbd, hcx⟩ := hcell k hlt
        obtain ⟨b', off', rfl, hbl', y, hy, hbd', hcy⟩ := hcell' k hlt
        have hyy := hrr.out y (by rw [← hy.out]; exact getD_mem (by rw [HN'.out]; exact hlt))
        cases e2 : inB x 0 (y - 1)
        · have hfin : Hid (decide (isMP ds rs) = false) := by
            have : decide (isMP ds rs) = false := decide_eq_false fun hs => by
              have := hs.2 k (by rw [HN.out]; exact hlt)
              rw [hx.out, hy.out, e2] at this
              cases this
            exact this
          clear hr hx hy hcell hcell'
          go_wp2_with (go_at_call 42; refine (c_i_within _ _ _ _).mono ?_; rintro e w' ⟨rfl, rfl⟩)
          go_ret
          exact ⟨ret_b hfin.out.symm, rfl⟩
        · have hr2 : Hid (∀ j, j < k + 1 → inB (ds.getD j 0) 0 (rs.getD j 0 - 1) = true) := all_up hr.out (by rw [hx.out, hy.out]; exact e2)
          clear hr hx hy hcell hcell'
          go_wp2_with (go_at_call 42; refine (c_i_within _ _ _ _).mono ?_; rintro e w' ⟨rfl, rfl⟩)
          go_round
          case rel => exact ⟨k + 1, by omega, by go_num, hr2⟩
          case measure => simp [intOf]; omega
      · have hfin : Hid (decide (isMP ds rs) = true) := by
          have : decide (isMP ds rs) = true := decide_eq_true ⟨by rw [HN.out, HN'.out], fun j hj => hr.out j (by rw [HN.out] at hj; omega)⟩
          exact this
        clear hr hcell hcell'
        go_wp2
        go_ret
        exact ⟨ret_b hfin.out.symm, rfl⟩
  · have hnn : ((n : Int) != (N : Int)) = true := by simp; omega
    have hfin : Hid (decide (isMP ds rs) = false) := by
      have : decide (isMP ds rs) = false := decide_eq_false fun hs => hne (by rw [← HN.out, ← HN'.out]; exact hs.1)
      exact this
    clear hne hcell hcell'
    go_enter Try.func48, Try.ntmps48
    go_wp2
    go_ret
    exact ⟨ret_b hfin.out.symm, rfl⟩

set_option maxHeartbeats 400000 in
theorem c_i_MixedOk (u v : Value) (ds rs : List Int) (w : World) (h : Rd w u ds) (g : Rd w v rs) :
    Calls Try.prog 20 #[u, v] w fun e w' => e = .returned (.bool (mokB ds rs)) ∧ Below w.heap.size w w' := by
  have H := Lib.hid h
  have G := Lib.hid g
  clear h g
  cases e1 : rokB rs
  · go_enter Try.func20, Try.ntmps20
    go_wp2_with (go_at_call 16; refine (c_i_RadicesOk _ rs _ G.out).mono ?_; rintro e W1 ⟨rfl, hb⟩)
    go_ret
    exact ⟨ret_b (by simp [mokB, e1]), hb⟩
  · have hrr : Hid (∀ x ∈ rs, 2 ≤ x ∧ x ≤ 60) := (rok_of e1).2.1
    have hV : Hid (mokB ds rs = decide (isMP ds rs)) := by simp [Hid, mokB, e1]
    go_enter Try.func20, Try.ntmps20
    go_wp2_with (first | (go_at_call 16; refine (c_i_RadicesOk _ rs _ G.out).mono ?_; rintro e W1 ⟨rfl, hb⟩) | (go_at_call 48; refine (c_i_isMixed _ _ ds rs _ (H.out.below hb) (G.out.below hb) hrr).mono ?_; rintro e w' ⟨rfl, rfl⟩))
    go_ret
    exact ⟨ret_b hV.out.symm, hb⟩

set_option maxHeartbeats 800000 in
theorem c_s_MixedOk (u v : Value) (ds rs : List Int) (w : World) (h : Rd w u ds) (g : Rd w v rs) :
    Calls Try.prog 30 #[u, v] w fun e w' => e = .returned (.bool (mokB ds rs)) ∧ w = w' := by
  obtain ⟨a, cap, n, rfl, HN, hm, hc, hcm, hcell⟩ := h.open
  obtain ⟨a', cap', N, rfl, HN', hm', hc', hcm', hcell'⟩ := g.open
  have G := Lib.hid g
  clear h g
  cases e1 : rokB rs
  · have hfin : Hid (mokB ds rs = false) := by simp [Hid, mokB, e1]
    clear hcell hcell'
    go_enter Try.func30, Try.ntmps30
    go_wp2_with (go_at_call 26; refine (c_s_RadicesOk _ rs _ G.out).mono ?_; rintro e w' ⟨rfl, rfl⟩)
    go_ret
    exact ⟨ret_b hfin.out.symm, rfl⟩
  · have hrr : Hid (∀ x ∈ rs, 2 ≤ x ∧ x ≤ 60) := (rok_of e1).2.1
    by_cases hne : n = N
    · subst hne
      go_enter Try.func30, Try.ntmps30
      go_wp2_with (go_at_call 26; refine (c_s_RadicesOk _ rs _ G.out).mono ?_; rintro e w' ⟨rfl, rfl⟩)
      go_loop [5, 6, 19] (fun _ _ i => ∃ k : Nat, k ≤ n ∧ i = .int .i64 k ∧ Hid (∀ j, j < k → inB (ds.getD j 0) 0 (rs.getD j 0 - 1) = true)) (fun _ _ i => n - (intOf i).toNat)
      case atStart => exact ⟨0, by omega, rfl, fun j hj => by omega⟩
      case round =>
        obtain ⟨k, hk, rfl, hr⟩ := hrel
        by_cases hlt : k < n
        · obtain ⟨b, off, rfl, hbl, x, hx, hbd, hcx⟩ := hcell k hlt
          obtain ⟨b', off', rfl, hbl', y, hy, hbd', hcy⟩ := hcell' k hlt
          have hyy := hrr.out y (by rw [← hy.out]; exact getD_mem (by rw [HN'.out]; exact hlt))
          cases e2 : inB x 0 (y - 1)
          · have hfin : Hid (mokB ds rs = false) := by
              have : decide (isMP ds rs) = false := decide_eq_false fun hs => by
                have := hs.2 k (by rw [HN.out]; exact hlt)
                rw [hx.out, hy.out, e2] at this
                cases this
              simp [Hid, mokB, this]
            clear hr hx hy hcell hcell'
            go_wp2_with (go_at_call 52; refine (c_s_l01In _ _ _ _).mono ?_; rintro e w' ⟨rfl, rfl⟩)
            go_ret
            exact ⟨ret_b hfin.out.symm, rfl⟩
          · have hr2 : Hid (∀ j, j < k + 1 → inB (ds.getD j 0) 0 (rs.getD j 0 - 1) = true) := all_up hr.out (by rw [hx.out, hy.out]; exact e2)
            clear hr hx hy hcell hcell'
            go_wp2_with (go_at_call 52; refine (c_s_l01In _ _ _ _).mono ?_; rintro e w' ⟨rfl, rfl⟩)
            go_round
            case rel => exact ⟨k + 1, by omega, by go_num, hr2⟩
            case measure => simp [intOf]; omega
        · have hfin : Hid (mokB ds rs = true) := by
            have : decide (isMP ds rs) = true := decide_eq_true ⟨by rw [HN.out, HN'.out], fun j hj => hr.out j (by rw [HN.out] at hj; omega)⟩
            simp [Hid, mokB, this, e1]
          clear hr hcell hcell'
          go_wp2
          go_ret
          exact ⟨ret_b hfin.out.symm, rfl⟩
    · have hnn : ((n : Int) != (N : Int)) = true := by simp; omega
      have hfin : Hid (mokB ds rs = false) := by
        have : decide (isMP ds rs) = false := decide_eq_false fun hs => hne (by rw [← HN.out, ← HN'.out]; exact hs.1)
        simp [Hid, mokB, this]
      clear hne hcell hcell'
      go_enter Try.func30, Try.ntmps30
      go_wp2_with (go_at_call 26; refine (c_s_RadicesOk _ rs _ G.out).mono ?_; rintro e w' ⟨rfl, rfl⟩)
      go_ret
      exact ⟨ret_b hfin.out.symm, rfl⟩


/-- The number with mixed digits. -/
def mhv : List Int → List Int → Int
  | r :: rs, d :: ds => mhv rs ds * r + d
  | _, _ => 0
theorem mhv_drop {rs ds : List Int} {k : Nat} (h : k < rs.length) (g : k < ds.length) : mhv (rs.drop k) (ds.drop k) = mhv (rs.drop (k + 1)) (ds.drop (k + 1)) * rs.getD k 0 + ds.getD k 0 := by
  rw [drop_step h, drop_step g]; rfl

theorem isMP_cons {r d : Int} {rs ds : List Int} (h : isMP (d :: ds) (r :: rs)) : (0 ≤ d ∧ d ≤ r - 1) ∧ isMP ds rs := by
  obtain ⟨h1, h2⟩ := h
  refine ⟨inB_yes (by simpa using h2 0 (by simp)), by simpa using h1, fun j hj => ?_⟩
  simpa using h2 (j + 1) (by simp; omega)

theorem mhv_bound : ∀ (rs ds : List Int), (∀ x ∈ rs, 2 ≤ x ∧ x ≤ 60) → isMP ds rs → 0 ≤ mhv rs ds ∧ mhv rs ds ≤ prodL rs - 1 := by
  intro rs
  induction rs with
  | nil => intro ds _ h; cases ds with
    | nil => simp [mhv, prodL]
    | cons d ds => exact absurd h.1 (by simp)
  | cons r rs ih =>
    intro ds hr h
    cases ds with
    | nil => exact absurd h.1 (by simp)
    | cons d ds =>
      obtain ⟨h1, h2⟩ := isMP_cons h
      have h3 := ih ds (fun x hx => hr x (List.mem_cons_of_mem _ hx)) h2
      have h4 := hr r (List.mem_cons_self ..)
      have h5 := Int.mul_nonneg h3.1 (show 0 ≤ r by omega)
      have h6 := Int.mul_le_mul_of_nonneg_right h3.2 (show 0 ≤ r by omega)
      rw [Int.sub_mul, Int.one_mul, Int.mul_comm (prodL rs)] at h6
      rw [prodL_cons]
      show 0 ≤ mhv rs ds * r + d ∧ mhv rs ds * r + d ≤ r * prodL rs - 1
      omega

theorem isMP_drop {rs ds : List Int} (h : isMP ds rs) (k : Nat) : isMP (ds.drop k) (rs.drop k) := by
  refine ⟨by simp [h.1], fun j hj => ?_⟩
  rw [List.length_drop] at hj
  have := h.2 (k + j) (by omega)
  simpa [List.getD_eq_getElem?_getD, List.getElem?_drop] using this

set_option maxHeartbeats 800000 in
theorem c_i_mixedValue (u v : Value) (ds rs : List Int) (w : World) (h : Rd w u ds) (g : Rd w v rs) (hok : Hid (mokB ds rs = true)) :
    Calls Try.prog 49 #[u, v] w fun e w' => e = .returned (.int .i64 (mhv rs ds)) ∧ Below w.heap.size w w' := by
  obtain ⟨a, cap, n, rfl, HN, hm, hc, hcm, hcell⟩ := h.open
  obtain ⟨a', cap', N, rfl, HN', hm', hc', hcm', hcell'⟩ := g.open
  have h0 := hok.out
  unfold mokB at h0
  rw [Bool.and_eq_true] at h0
  have hr0 := rok_of h0.1
  have hmp : Hid (isMP ds rs) := of_decide_eq_true (p := isMP ds rs) h0.2
  obtain rfl : n = N := by rw [← HN.out, ← HN'.out]; exact hmp.out.1
  have hrr : Hid (∀ x ∈ rs, 2 ≤ x ∧ x ≤ 60) := hr0.2.1
  have hpp : Hid (prodL rs ≤ 1000000000000) := hr0.2.2
  have hn10 : n ≤ 10 := by rw [← HN'.out]; exact hr0.1.2
  clear h g h0 hr0
  go_enter Try.func49, Try.ntmps49
  go_wp2
  go_loopw [5, 6] (fun s i wr => ∃ m : Nat, m ≤ n ∧ i = .int .i64 ((m : Int) - 1) ∧ s = .int .i64 (mhv (rs.drop m) (ds.drop m)) ∧ Below w.heap.size w wr) (fun _ i _ => (intOf i + 1).toNat)
  case atStart => exact ⟨n, by omega, rfl, by rw [List.drop_eq_nil_of_le (by rw [HN'.out]; omega)]; rfl, Below.refl _ _⟩
  case round =>
    obtain ⟨m, hk, rfl, rfl, hb⟩ := hrel
    by_cases hlt : 0 < m
    · obtain ⟨b, off, rfl, hbl, x, hx, hbd, hcx⟩ := hcell (m - 1) (by omega)
      obtain ⟨b', off', rfl, hbl', y, hy, hbd', hcy⟩ := hcell' (m - 1) (by omega)
      have hcr : wr.cell? ⟨b, off + (m - 1), none⟩ = some (.int .i64 x) := (hb.cell (by exact hbl)).trans hcx
      have hcr' : wr.cell? ⟨b', off' + (m - 1), none⟩ = some (.int .i64 y) := (hb.cell (by exact hbl')).trans hcy
      have hs := mhv_drop (rs := rs) (ds := ds) (k := m - 1) (by rw [HN'.out]; omega) (by rw [HN.out]; omega)
      rw [hx.out, hy.out, show m - 1 + 1 = m from by omega] at hs
      have hyy := hrr.out y (by rw [← hy.out]; exact getD_mem (by rw [HN'.out]; omega))
      have hbo := mhv_bound (rs.drop m) (ds.drop m) (fun x hx => hrr.out x (List.mem_of_mem_drop hx)) (isMP_drop hmp.out m)
      have hpd := prodL_drop_le (l := rs) (fun x hx => by have := hrr.out x hx; omega) m
      have hpp' := hpp.out
      have p0 := hbo.1
      have p1 : mhv (rs.drop m) (ds.drop m) ≤ 1000000000000 := by omega
      have hix : ((m : Int) - 1).toNat = m - 1 := by omega
      have hi0 : (0 : Int) ≤ (m : Int) - 1 := by omega
      have hi1 : (m : Int) - 1 < (n : Int) := by omega
      have hm1 : mhv (rs.drop m) (ds.drop m) * y ≤ 1000000000000 * 60 := Int.mul_le_mul p1 (by omega) (by omega) (by omega)
      have hm0 : 0 ≤ mhv (rs.drop m) (ds.drop m) * y := Int.mul_nonneg p0 (by omega)
      have hxx : 0 ≤ x ∧ x ≤ 60 := by
        have := inB_yes (hmp.out.2 (m - 1) (by rw [HN.out]; omega))
        rw [hx.out, hy.out] at this
        omega
      have HS := Lib.hid hs
      clear hs hx hy hcell hcell' hcx hcy hbo hpd hpp'
      go_wp2
      go_quiet (fail)
      go_wp2
      go_roundw
      case rel => exact ⟨m - 1, by omega, by go_num, by rw [HS.out], below_dN hb _⟩
      case measure => simp [intOf]; omega
    · have hm0 : m = 0 := by omega
      subst hm0
      clear hcell hcell'
      go_wp2
      go_ret
      exact ⟨ret_i (by simp), hb⟩

set_option maxHeartbeats 800000 in
theorem c_s_l07Value (u v : Value) (ds rs : List Int) (w : World) (h : Rd w u ds) (g : Rd w v rs) (hok : Hid (mokB ds rs = true)) :
    Calls Try.prog 54 #[u, v] w fun e w' => e = .returned (.int .i64 (mhv rs ds)) ∧ Below w.heap.size w w' := by
  obtain ⟨a, cap, n, rfl, HN, hm, hc, hcm, hcell⟩ := h.open
  obtain ⟨a', cap', N, rfl, HN', hm', hc', hcm', hcell'⟩ := g.open
  have h0 := hok.out
  unfold mokB at h0
  rw [Bool.and_eq_true] at h0
  have hr0 := rok_of h0.1
  have hmp : Hid (isMP ds rs) := of_decide_eq_true (p := isMP ds rs) h0.2
  obtain rfl : n = N := by rw [← HN.out, ← HN'.out]; exact hmp.out.1
  have hrr : Hid (∀ x ∈ rs, 2 ≤ x ∧ x ≤ 60) := hr0.2.1
  have hpp : Hid (prodL rs ≤ 1000000000000) := hr0.2.2
  have hn10 : n ≤ 10 := by rw [← HN'.out]; exact hr0.1.2
  clear h g h0 hr0
  go_enter Try.func54, Try.ntmps54
  go_wp2
  go_loopw [5, 6] (fun s i wr => ∃ m : Nat, m ≤ n ∧ i = .int .i64 ((m : Int) - 1) ∧ s = .int .i64 (mhv (rs.drop m) (ds.drop m)) ∧ Below w.heap.size w wr) (fun _ i _ => (intOf i + 1).toNat)
  case atStart => exact ⟨n, by omega, rfl, by rw [List.drop_eq_nil_of_le (by rw [HN'.out]; omega)]; rfl, Below.refl _ _⟩
  case round =>
    obtain ⟨m, hk, rfl, rfl, hb⟩ := hrel
    by_cases hlt : 0 < m
    · obtain ⟨b, off, rfl, hbl, x, hx, hbd, hcx⟩ := hcell (m - 1) (by omega)
      obtain ⟨b', off', rfl, hbl', y, hy, hbd', hcy⟩ := hcell' (m - 1) (by omega)
      have hcr : wr.cell? ⟨b, off + (m - 1), none⟩ = some (.int .i64 x) := (hb.cell (by exact hbl)).trans hcx
      have hcr' : wr.cell? ⟨b', off' + (m - 1), none⟩ = some (.int .i64 y) := (hb.cell (by exact hbl')).trans hcy
      have hs := mhv_drop (rs := rs) (ds := ds) (k := m - 1) (by rw [HN'.out]; omega) (by rw [HN.out]; omega)
      rw [hx.out, hy.out, show m - 1 + 1 = m from by omega] at hs
      have hyy := hrr.out y (by rw [← hy.out]; exact getD_mem (by rw [HN'.out]; omega))
      have hbo := mhv_bound (rs.drop m) (ds.drop m) (fun x hx => hrr.out x (List.mem_of_mem_drop hx)) (isMP_drop hmp.out m)
      have hpd := prodL_drop_le (l := rs) (fun x hx => by have := hrr.out x hx; omega) m
      have hpp' := hpp.out
      have p0 := hbo.1
      have p1 : mhv (rs.drop m) (ds.drop m) ≤ 1000000000000 := by omega
      have hix : ((m : Int) - 1).toNat = m - 1 := by omega
      have hi0 : (0 : Int) ≤ (m : Int) - 1 := by omega
      have hi1 : (m : Int) - 1 < (n : Int) := by omega
      have hm1 : mhv (rs.drop m) (ds.drop m) * y ≤ 1000000000000 * 60 := Int.mul_le_mul p1 (by omega) (by omega) (by omega)
      have hm0 : 0 ≤ mhv (rs.drop m) (ds.drop m) * y := Int.mul_nonneg p0 (by omega)
      have hxx : 0 ≤ x ∧ x ≤ 60 := by
        have := inB_yes (hmp.out.2 (m - 1) (by rw [HN.out]; omega))
        rw [hx.out, hy.out] at this
        omega
      have HS := Lib.hid hs
      clear hs hx hy hcell hcell' hcx hcy hbo hpd hpp'
      go_wp2
      go_quiet (fail)
      go_wp2
      go_roundw
      case rel => exact ⟨m - 1, by omega, by go_num, by rw [HS.out], below_dN hb _⟩
      case measure => simp [intOf]; omega
    · have hm0 : m = 0 := by omega
      subst hm0
      clear hcell hcell'
      go_wp2
      go_ret
      exact ⟨ret_i (by simp), hb⟩

/-- The number, or -1. -/
def mvV (ds rs : List Int) : Int := if mokB ds rs then mhv rs ds else -1

theorem c_i_MixedValue (u v : Value) (ds rs : List Int) (w : World) (h : Rd w u ds) (g : Rd w v rs) :
    Calls Try.prog 21 #[u, v] w fun e w' => e = .returned (.int .i64 (mvV ds rs)) ∧ Below w.heap.size w w' := by
  have H := Lib.hid h
  have G := Lib.hid g
  clear h g
  cases e1 : mokB ds rs
  · go_enter Try.func21, Try.ntmps21
    go_wp2_with (go_at_call 20; refine (c_i_MixedOk _ _ ds rs _ H.out G.out).mono ?_; rintro e W1 ⟨rfl, hb⟩)
    go_ret
    exact ⟨ret_i (by simp [mvV, e1]), hb⟩
  · have hok := Lib.hid e1
    go_enter Try.func21, Try.ntmps21
    go_wp2_with (first | (go_at_call 20; refine (c_i_MixedOk _ _ ds rs _ H.out G.out).mono ?_; rintro e W1 ⟨rfl, hb⟩) | (go_at_call 49; refine (c_i_mixedValue _ _ ds rs _ (H.out.below hb) (G.out.below hb) hok).mono ?_; rintro e W2 ⟨rfl, hb2⟩))
    go_ret
    exact ⟨ret_i (by simp [mvV, e1]), hb.trans (hb2.mono hb.size)⟩

theorem c_s_MixedValue (u v : Value) (ds rs : List Int) (w : World) (h : Rd w u ds) (g : Rd w v rs) :
    Calls Try.prog 34 #[u, v] w fun e w' => e = .returned (.int .i64 (mvV ds rs)) ∧ Below w.heap.size w w' := by
  have H := Lib.hid h
  have G := Lib.hid g
  clear h g
  cases e1 : mokB ds rs
  · go_enter Try.func34, Try.ntmps34
    go_wp2_with (go_at_call 30; refine (c_s_MixedOk _ _ ds rs _ H.out G.out).mono ?_; rintro e w' ⟨rfl, rfl⟩)
    go_ret
    exact ⟨ret_i (by simp [mvV, e1]), Below.refl _ _⟩
  · have hok := Lib.hid e1
    go_enter Try.func34, Try.ntmps34
    go_wp2_with (first | (go_at_call 30; refine (c_s_MixedOk _ _ ds rs _ H.out G.out).mono ?_; rintro e w' ⟨rfl, rfl⟩) | (go_at_call 54; refine (c_s_l07Value _ _ ds rs _ H.out G.out hok).mono ?_; rintro e W2 ⟨rfl, hb2⟩))
    go_ret
    exact ⟨ret_i (by simp [mvV, e1]), hb2⟩

end Go.Proofs.Ytehlkoogpgcipaa
