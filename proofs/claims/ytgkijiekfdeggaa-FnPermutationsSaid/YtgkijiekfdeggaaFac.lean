/- Contracts of FactorialValue and FactorialDigits, the program's and the reference's. -/
import Derived.Test.YtgkijiekfdeggaaNeg
namespace Go.Proofs.Ytgkijiekfdeggaa
open Go.RowKit
open Pl

theorem up_all {P : Nat → Prop} {k : Nat} (h : ∀ j, j < k → P j) (hk : P k) : ∀ j, j < k + 1 → P j := fun j hj => by
  rcases Nat.lt_succ_iff_lt_or_eq.1 hj with h1 | h1
  · exact h j h1
  · rw [h1]; exact hk

/-- Factorial digits: each from 0 to its index. -/
def fvP (xs : List Int) : Prop := ∀ j, j < xs.length → inB (xs.getD j 0) 0 j = true
instance (xs : List Int) : Decidable (fvP xs) := by unfold fvP; infer_instance
/-- What the first k digits count. -/
def fsum (xs : List Int) : Nat → Int
  | 0 => 0
  | k + 1 => fsum xs k + xs.getD k 0 * fac k
def fvV (xs : List Int) : Int := if inB xs.length 1 8 && decide (fvP xs) then fsum xs xs.length else -1

theorem fsum_bound {xs : List Int} : ∀ k, (∀ j, j < k → inB (xs.getD j 0) 0 j = true) → 0 ≤ fsum xs k ∧ fsum xs k ≤ fac k - 1 := by
  intro k
  induction k with
  | zero => intro _; simp [fsum, fac]
  | succ k ih =>
    intro h
    have h1 := ih fun j hj => h j (by omega)
    have h2 := inB_yes (h k (by omega))
    have h3 := fac_pos k
    have h4 := Int.mul_nonneg h2.1 (show 0 ≤ fac k by omega)
    have h5 := Int.mul_le_mul_of_nonneg_right h2.2 (show 0 ≤ fac k by omega)
    have e : fac (k + 1) = (k : Int) * fac k + fac k := by simp only [fac]; rw [Int.mul_comm, Int.add_mul, Int.one_mul]
    simp only [fsum]
    omega

set_option maxHeartbeats 800000 in
theorem c_s_FactorialValue (v : Value) (xs : List Int) (w : World) (h : Rd w v xs) :
    Calls Try.prog 33 #[v] w fun e w' => e = .returned (.int .i64 (fvV xs)) ∧ w = w' := by
  obtain ⟨a, cap, n, rfl, HN, hm, hc, hcm, hcell⟩ := h.open
  clear h
  cases e1 : inB n 1 8
  · have hfin : Hid (fvV xs = -1) := by have e := e1; rw [← HN.out] at e; simp [Hid, fvV, e]
    clear hcell
    go_enter Try.func33, Try.ntmps33
    go_wp2_with (go_at_call 46; refine (c_s_l01In _ _ _ _).mono ?_; rintro e w' ⟨rfl, rfl⟩)
    go_ret
    exact ⟨ret_i hfin.out.symm, rfl⟩
  · have g1 := inB_yes e1
    go_enter Try.func33, Try.ntmps33
    go_wp2_with (go_at_call 46; refine (c_s_l01In _ _ _ _).mono ?_; rintro e w' ⟨rfl, rfl⟩)
    go_loop [3, 4, 5, 12] (fun s _ _ i => ∃ k : Nat, k ≤ n ∧ i = .int .i64 k ∧ s = .int .i64 (fsum xs k) ∧ Hid (∀ j, j < k → inB (xs.getD j 0) 0 j = true)) (fun _ _ _ i => n - (intOf i).toNat)
    case atStart => exact ⟨0, by omega, rfl, rfl, fun j hj => by omega⟩
    case round =>
      obtain ⟨k, hk, rfl, rfl, hr⟩ := hrel
      by_cases hlt : k < n
      · obtain ⟨b, off, rfl, hbl, x, hx, hbd, hcx⟩ := hcell k hlt
        cases e2 : inB x 0 k
        · have hfin : Hid (fvV xs = -1) := by
            have : decide (fvP xs) = false := decide_eq_false fun hs => by
              have := hs k (by rw [HN.out]; exact hlt)
              rw [hx.out, e2] at this; cases this
            simp [Hid, fvV, this]
          clear hr hx hcell
          go_wp2_with (go_at_call 46; refine (c_s_l01In _ _ _ _).mono ?_; rintro e w' ⟨rfl, rfl⟩)
          go_ret
          exact ⟨ret_i hfin.out.symm, rfl⟩
        · have g2 := inB_yes e2
          have hr2 : Hid (∀ j, j < k + 1 → inB (xs.getD j 0) 0 j = true) := up_all hr.out (by rw [hx.out]; exact e2)
          have b1 := fsum_bound (xs := xs) k hr.out
          have b2 := fsum_bound (xs := xs) (k + 1) hr2.out
          have b3 := fac_le (k + 1) (by omega)
          have b4 := fac_le k (by omega)
          have b5 := fac_pos k
          have hs : fsum xs (k + 1) = fsum xs k + x * fac k := by rw [← hx.out]; rfl
          rw [hs] at b2
          have hfk : Hid (fac ((k : Int)).toNat = fac k) := by show _ = _; rw [Int.toNat_natCast]
          have hfv : Hid (facV (k : Int) = fac k) := by
            have : inB (k : Int) 0 12 = true := inB_mk (by omega)
            simp [Hid, facV, this]
          have HS := Lib.hid hs
          have b6 := Int.mul_nonneg g2.1 (show 0 ≤ fac k by omega)
          have c1 : 0 ≤ fsum xs k + x * fac k ∧ fsum xs k + x * fac k ≤ 479001600 := by omega
          have c2 : 0 ≤ fsum xs k ∧ fsum xs k ≤ 479001600 := by omega
          have c3 : 0 ≤ x * fac k ∧ x * fac k ≤ 479001600 := by omega
          clear hr hx hcell hs b1 b2 b3 b6
          go_wp2_with (first | (go_at_call 46; refine (c_s_l01In _ _ _ _).mono ?_; rintro e w' ⟨rfl, rfl⟩) | (go_at_call 47; refine (c_s_l08Factorial _ _ (by omega) (by omega)).mono ?_; rintro e w' ⟨rfl, rfl⟩; rw [hfk.out]))
          go_round
          case rel => exact ⟨k + 1, by omega, by go_num, by rw [HS.out], hr2⟩
          case measure => simp [intOf]; omega
      · have hfin : Hid (fvV xs = fsum xs k) := by
          have e := e1; rw [← HN.out] at e
          have : decide (fvP xs) = true := decide_eq_true fun j hj => hr.out j (by rw [HN.out] at hj; omega)
          have hkn : k = xs.length := by rw [HN.out]; omega
          simp [Hid, fvV, e, this, hkn]
        clear hr hcell
        go_wp2
        go_ret
        exact ⟨ret_i hfin.out.symm, rfl⟩

set_option maxHeartbeats 800000 in
theorem c_i_FactorialValue (v : Value) (xs : List Int) (w : World) (h : Rd w v xs) :
    Calls Try.prog 21 #[v] w fun e w' => e = .returned (.int .i64 (fvV xs)) ∧ w = w' := by
  obtain ⟨a, cap, n, rfl, HN, hm, hc, hcm, hcell⟩ := h.open
  clear h
  cases e1 : inB n 1 8
  · have hfin : Hid (fvV xs = -1) := by have e := e1; rw [← HN.out] at e; simp [Hid, fvV, e]
    clear hcell
    go_enter Try.func21, Try.ntmps21
    go_wp2_with (go_at_call 42; refine (c_i_within _ _ _ _).mono ?_; rintro e w' ⟨rfl, rfl⟩)
    go_ret
    exact ⟨ret_i hfin.out.symm, rfl⟩
  · have g1 := inB_yes e1
    go_enter Try.func21, Try.ntmps21
    go_wp2_with (go_at_call 42; refine (c_i_within _ _ _ _).mono ?_; rintro e w' ⟨rfl, rfl⟩)
    go_loop [3, 4, 5, 12] (fun s _ _ i => ∃ k : Nat, k ≤ n ∧ i = .int .i64 k ∧ s = .int .i64 (fsum xs k) ∧ Hid (∀ j, j < k → inB (xs.getD j 0) 0 j = true)) (fun _ _ _ i => n - (intOf i).toNat)
    case atStart => exact ⟨0, by omega, rfl, rfl, fun j hj => by omega⟩
    case round =>
      obtain ⟨k, hk, rfl, rfl, hr⟩ := hrel
      by_cases hlt : k < n
      · obtain ⟨b, off, rfl, hbl, x, hx, hbd, hcx⟩ := hcell k hlt
        cases e2 : inB x 0 k
        · have hfin : Hid (fvV xs = -1) := by
            have : decide (fvP xs) = false := decide_eq_false fun hs => by
              have := hs k (by rw [HN.out]; exact hlt)
              rw [hx.out, e2] at this; cases this
            simp [Hid, fvV, this]
          clear hr hx hcell
          go_wp2_with (go_at_call 42; refine (c_i_within _ _ _ _).mono ?_; rintro e w' ⟨rfl, rfl⟩)
          go_ret
          exact ⟨ret_i hfin.out.symm, rfl⟩
        · have g2 := inB_yes e2
          have hr2 : Hid (∀ j, j < k + 1 → inB (xs.getD j 0) 0 j = true) := up_all hr.out (by rw [hx.out]; exact e2)
          have b1 := fsum_bound (xs := xs) k hr.out
          have b2 := fsum_bound (xs := xs) (k + 1) hr2.out
          have b3 := fac_le (k + 1) (by omega)
          have b4 := fac_le k (by omega)
          have b5 := fac_pos k
          have hs : fsum xs (k + 1) = fsum xs k + x * fac k := by rw [← hx.out]; rfl
          rw [hs] at b2
          have hfk : Hid (fac ((k : Int)).toNat = fac k) := by show _ = _; rw [Int.toNat_natCast]
          have hfv : Hid (facV (k : Int) = fac k) := by
            have : inB (k : Int) 0 12 = true := inB_mk (by omega)
            simp [Hid, facV, this]
          have HS := Lib.hid hs
          have b6 := Int.mul_nonneg g2.1 (show 0 ≤ fac k by omega)
          have c1 : 0 ≤ fsum xs k + x * fac k ∧ fsum xs k + x * fac k ≤ 479001600 := by omega
          have c2 : 0 ≤ fsum xs k ∧ fsum xs k ≤ 479001600 := by omega
          have c3 : 0 ≤ x * fac k ∧ x * fac k ≤ 479001600 := by omega
          clear hr hx hcell hs b1 b2 b3 b6
          go_wp2_with (first | (go_at_call 42; refine (c_i_within _ _ _ _).mono ?_; rintro e w' ⟨rfl, rfl⟩) | (go_at_call 17; refine (c_i_Factorial _ _).mono ?_; rintro e w' ⟨rfl, rfl⟩; rw [hfv.out]))
          go_round
          case rel => exact ⟨k + 1, by omega, by go_num, by rw [HS.out], hr2⟩
          case measure => simp [intOf]; omega
      · have hfin : Hid (fvV xs = fsum xs k) := by
          have e := e1; rw [← HN.out] at e
          have : decide (fvP xs) = true := decide_eq_true fun j hj => hr.out j (by rw [HN.out] at hj; omega)
          have hkn : k = xs.length := by rw [HN.out]; omega
          simp [Hid, fvV, e, this, hkn]
        clear hr hcell
        go_wp2
        go_ret
        exact ⟨ret_i hfin.out.symm, rfl⟩

/-- The factorial, as a natural number. -/
def facN : Nat → Nat
  | 0 => 1
  | n + 1 => facN n * (n + 1)
theorem fac_nat : ∀ n, fac n = ((facN n : Nat) : Int) := by
  intro n
  induction n with
  | zero => rfl
  | succ n ih => simp [fac, facN, ih]
theorem facN_pos (n : Nat) : 0 < facN n := by have := fac_pos n; rw [fac_nat] at this; omega

/-- A literal of one number. -/
theorem Own.one (w : World) (B : Nat) (x : Int) (hB : B ≤ w.heap.size) (hx : bd x) : Own (w.alloc (.cells #[.int .i64 x] 3)) B (.slice (some ⟨w.heap.size, 0, none⟩) 1 1) [x] :=
  ⟨by intro y hy; simp at hy; subst hy; exact hx, by simpa using World.ownsRow_lit (base := B) (e := 3) (size := 1) w #[.int .i64 x] 1 hB (by unfold maxLen; omega) rfl⟩

/-- The m factorial digits of n. -/
def fdL (n m : Nat) : List Int := (List.range m).map fun k => ((n / facN k % (k + 1) : Nat) : Int)
def fdV (n m : Int) : List Int := if inB m 1 8 && inB n 0 (facV m - 1) then fdL n.toNat m.toNat else []
theorem fd_step (n k : Nat) : (List.range k).map (fun j => ((n / facN j % (j + 1) : Nat) : Int)) ++ [((n / facN k % (k + 1) : Nat) : Int)] = (List.range (k + 1)).map fun j => ((n / facN j % (j + 1) : Nat) : Int) := by
  rw [List.range_succ, List.map_append]; rfl
theorem fdV_len (n m : Int) : (fdV n m).length ≤ 1048576 := by
  unfold fdV
  split
  · rename_i h
    rw [Bool.and_eq_true] at h
    have := inB_yes h.1
    simp [fdL]; omega
  · simp

set_option maxHeartbeats 800000 in
theorem c_s_FactorialDigits (n m : Int) (w : World) :
    Calls Try.prog 34 #[.int .i64 n, .int .i64 m] w fun e w' => ∃ v', e = .returned v' ∧ Own w' w.heap.size v' (fdV n m) ∧ Below w.heap.size w w' := by
  cases e1 : inB m 1 8
  · have hV : Hid (fdV n m = []) := by simp [Hid, fdV, e1]
    go_enter Try.func34, Try.ntmps34
    go_wp2_with (go_at_call 46; refine (c_s_l01In _ _ _ _).mono ?_; rintro e w' ⟨rfl, rfl⟩)
    go_ret
    exact ⟨_, rfl, by rw [hV.out]; exact Own.nil _ _, Below.refl _ _⟩
  · have g1 := inB_yes e1
    obtain ⟨m, rfl⟩ := Int.eq_ofNat_of_zero_le (show 0 ≤ m by omega)
    have hfv : facV (m : Int) = fac m := by
      have : inB (m : Int) 0 12 = true := inB_mk (by omega)
      simp [facV, this]
    have hfk : Hid (fac ((m : Int)).toNat = fac m) := by show _ = _; rw [Int.toNat_natCast]
    have b0 := fac_pos m
    have b1 := fac_le m (by omega)
    cases e2 : inB n 0 (fac m - 1)
    · have hV : Hid (fdV n m = []) := by simp [Hid, fdV, hfv, e2]
      clear hfv
      go_enter Try.func34, Try.ntmps34
      go_wp2_with (first | (go_at_call 46; refine (c_s_l01In _ _ _ _).mono ?_; rintro e w' ⟨rfl, rfl⟩) | (go_at_call 47; refine (c_s_l08Factorial _ _ (by omega) (by omega)).mono ?_; rintro e w' ⟨rfl, rfl⟩; rw [hfk.out]))
      go_ret
      exact ⟨_, rfl, by rw [hV.out]; exact Own.nil _ _, Below.refl _ _⟩
    · have g2 := inB_yes e2
      obtain ⟨n, rfl⟩ := Int.eq_ofNat_of_zero_le g2.1
      have hV : Hid (fdV n m = fdL n m) := by simp [Hid, fdV, hfv, e1, e2]
      clear hfv
      go_enter Try.func34, Try.ntmps34
      go_wp2_with (first | (go_at_call 46; refine (c_s_l01In _ _ _ _).mono ?_; rintro e w' ⟨rfl, rfl⟩) | (go_at_call 47; refine (c_s_l08Factorial _ _ (by omega) (by omega)).mono ?_; rintro e w' ⟨rfl, rfl⟩; rw [hfk.out]))
      go_loopw [0, 5, 6] (fun p v i wr => ∃ k q : Nat, 1 ≤ k ∧ k ≤ m ∧ q ≤ 479001600 ∧ i = .int .i64 k ∧ p = .int .i64 q ∧ Own wr w.heap.size v ((List.range k).map fun j => ((n / facN j % (j + 1) : Nat) : Int)) ∧ Hid (q = n / facN k) ∧ Below w.heap.size w wr) (fun _ _ i _ => m - (intOf i).toNat)
      case atStart => exact ⟨1, n, by omega, by omega, by omega, rfl, rfl, by simpa [facN, List.range_succ, Nat.mod_one] using Own.one w w.heap.size 0 (Nat.le_refl _) (by unfold bd; omega), by simp [Hid, facN], (Below.refl _ _).alloc (Nat.le_refl _) _⟩
      case round =>
        obtain ⟨k, q, hk1, hk, hq9, rfl, rfl, hown, hq, hb⟩ := hrel
        by_cases hlt : k < m
        · have q0 : (0 : Int) ≤ (q : Int) / ((k : Int) + 1) ∧ (q : Int) / ((k : Int) + 1) ≤ (q : Int) := ⟨Int.ediv_nonneg (by omega) (by omega), Int.ediv_le_self _ (by omega)⟩
          have q1 : q / (k + 1) ≤ q := Nat.div_le_self _ _
          have q2 : q % (k + 1) < k + 1 := Nat.mod_lt _ (by omega)
          have q3 : (0 : Int) ≤ (q : Int) % ((k : Int) + 1) ∧ (q : Int) % ((k : Int) + 1) < (k : Int) + 1 := ⟨Int.emod_nonneg _ (by omega), Int.emod_lt_of_pos _ (by omega)⟩
          have hst : Hid ((List.range k).map (fun j => ((n / facN j % (j + 1) : Nat) : Int)) ++ [(q : Int) % ((k : Int) + 1)] = (List.range (k + 1)).map fun j => ((n / facN j % (j + 1) : Nat) : Int)) := by
            show _ = _
            rw [← fd_step, ← hq.out]; simp
          have hq2 : Hid (q / (k + 1) = n / facN (k + 1)) := by
            show _ = _
            rw [hq.out, Nat.div_div_eq_div_mul]; rfl
          have hlen : Hid (((List.range k).map (fun j => ((n / facN j % (j + 1) : Nat) : Int))).length < 17592186044415) := by show _ < _; simp; omega
          clear hq
          go_wp2_with (at_builtin; refine wpList_app _ rfl _ _ rfl w.heap.size w _ _ rfl (hown.alloc _) (hb.alloc hb.size _) (Nat.le_refl _) ⟨wr.heap.size, 0, none⟩ ((q : Int) % ((k : Int) + 1)) rfl (by simp) (by unfold bd; omega) hlen.out ?_; intro v' w1 hown1 hb1 _)
          go_roundw
          case rel => exact ⟨k + 1, q / (k + 1), by omega, by omega, by omega, by go_num, by go_num, by rw [← hst.out]; exact hown1, hq2, hb1⟩
          case measure => simp [intOf]; omega
        · have hkm : k = m := by omega
          subst hkm
          go_wp2
          go_ret
          exact ⟨_, rfl, by rw [hV.out]; exact hown, hb⟩

set_option maxHeartbeats 800000 in
theorem c_i_FactorialDigits (n m : Int) (w : World) :
    Calls Try.prog 20 #[.int .i64 n, .int .i64 m] w fun e w' => ∃ v', e = .returned v' ∧ Own w' w.heap.size v' (fdV n m) ∧ Below w.heap.size w w' := by
  cases e1 : inB m 1 8
  · have hV : Hid (fdV n m = []) := by simp [Hid, fdV, e1]
    go_enter Try.func20, Try.ntmps20
    go_wp2_with (go_at_call 42; refine (c_i_within _ _ _ _).mono ?_; rintro e w' ⟨rfl, rfl⟩)
    go_ret
    exact ⟨_, rfl, by rw [hV.out]; exact Own.nil _ _, Below.refl _ _⟩
  · have g1 := inB_yes e1
    obtain ⟨m, rfl⟩ := Int.eq_ofNat_of_zero_le (show 0 ≤ m by omega)
    have hfv : facV (m : Int) = fac m := by
      have : inB (m : Int) 0 12 = true := inB_mk (by omega)
      simp [facV, this]
    have HFv := Lib.hid hfv
    have b0 := fac_pos m
    have b1 := fac_le m (by omega)
    cases e2 : inB n 0 (fac m - 1)
    · have hV : Hid (fdV n m = []) := by simp [Hid, fdV, hfv, e2]
      clear hfv
      go_enter Try.func20, Try.ntmps20
      go_wp2_with (first | (go_at_call 42; refine (c_i_within _ _ _ _).mono ?_; rintro e w' ⟨rfl, rfl⟩) | (go_at_call 17; refine (c_i_Factorial _ _).mono ?_; rintro e w' ⟨rfl, rfl⟩; rw [HFv.out]))
      go_ret
      exact ⟨_, rfl, by rw [hV.out]; exact Own.nil _ _, Below.refl _ _⟩
    · have g2 := inB_yes e2
      obtain ⟨n, rfl⟩ := Int.eq_ofNat_of_zero_le g2.1
      have hV : Hid (fdV n m = fdL n m) := by simp [Hid, fdV, hfv, e1, e2]
      clear hfv
      go_enter Try.func20, Try.ntmps20
      go_wp2_with (first | (go_at_call 42; refine (c_i_within _ _ _ _).mono ?_; rintro e w' ⟨rfl, rfl⟩) | (go_at_call 17; refine (c_i_Factorial _ _).mono ?_; rintro e w' ⟨rfl, rfl⟩; rw [HFv.out]))
      go_loopw [5, 6, 19] (fun v _ i wr => ∃ k : Nat, k ≤ m ∧ i = .int .i64 k ∧ Own wr w.heap.size v ((List.range k).map fun j => ((n / facN j % (j + 1) : Nat) : Int)) ∧ Below w.heap.size w wr) (fun _ _ i _ => m - (intOf i).toNat)
      case atStart => exact ⟨0, by omega, rfl, Own.nil _ _, Below.refl _ _⟩
      case round =>
        obtain ⟨k, hk, rfl, hown, hb⟩ := hrel
        by_cases hlt : k < m
        · have hfk : Hid (facV (k : Int) = ((facN k : Nat) : Int)) := by
            have : inB (k : Int) 0 12 = true := inB_mk (by omega)
            simp [Hid, facV, this, fac_nat]
          have f0 := facN_pos k
          have f1 : ((facN k : Nat) : Int) ≤ 479001600 := by rw [← fac_nat]; exact fac_le k (by omega)
          obtain ⟨F, hF⟩ : ∃ F, facN k = F := ⟨_, rfl⟩
          obtain ⟨q, hq⟩ : ∃ q, n / F = q := ⟨_, rfl⟩
          have hst : Hid ((List.range k).map (fun j => ((n / facN j % (j + 1) : Nat) : Int)) ++ [((q % (k + 1) : Nat) : Int)] = (List.range (k + 1)).map fun j => ((n / facN j % (j + 1) : Nat) : Int)) := by
            show _ = _
            rw [← fd_step, hF, hq]
          rw [hF] at hfk f0 f1
          have hqi : (n : Int) / (F : Int) = (q : Int) := by rw [← hq]; simp
          have q1 : q ≤ n := by rw [← hq]; exact Nat.div_le_self _ _
          have q2 : q % (k + 1) < k + 1 := Nat.mod_lt _ (by omega)
          have q3 : (0 : Int) ≤ (q : Int) % ((k : Int) + 1) ∧ (q : Int) % ((k : Int) + 1) < (k : Int) + 1 := ⟨Int.emod_nonneg _ (by omega), Int.emod_lt_of_pos _ (by omega)⟩
          have hlen : Hid (((List.range k).map (fun j => ((n / facN j % (j + 1) : Nat) : Int))).length < 17592186044415) := by show _ < _; simp; omega
          have hst2 : Hid ((List.range k).map (fun j => ((n / facN j % (j + 1) : Nat) : Int)) ++ [(q : Int) % ((k : Int) + 1)] = (List.range (k + 1)).map fun j => ((n / facN j % (j + 1) : Nat) : Int)) := by
            show _ = _
            rw [← hst.out]; simp
          clear hF hq hst
          go_wp2_with (first | (go_at_call 17; refine (c_i_Factorial _ _).mono ?_; rintro e w' ⟨rfl, rfl⟩; rw [hfk.out]) | (at_builtin; refine wpList_app _ rfl _ _ rfl w.heap.size w _ _ rfl (hown.alloc _) (hb.alloc hb.size _) (Nat.le_refl _) ⟨wr.heap.size, 0, none⟩ ((q : Int) % ((k : Int) + 1)) rfl (by simp) (by unfold bd; omega) hlen.out ?_; intro v' w1 hown1 hb1 _))
          go_roundw
          case rel => exact ⟨k + 1, by omega, by go_num, by rw [← hst2.out]; exact hown1, hb1⟩
          case measure => simp [intOf]; omega
        · have hkm : k = m := by omega
          subst hkm
          go_wp2
          go_ret
          exact ⟨_, rfl, by rw [hV.out]; exact hown, hb⟩

end Go.Proofs.Ytgkijiekfdeggaa
