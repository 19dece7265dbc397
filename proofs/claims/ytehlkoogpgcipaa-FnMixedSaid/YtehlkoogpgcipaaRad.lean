/- Contracts of the functions on radices: RadicesOk, RangeOf, PlacesOf, the program's and the reference's. -/
import Derived.Test.YtehlkoogpgcipaaAll
namespace Go.Proofs.Ytehlkoogpgcipaa
open Go.RowKit

/-- The product of a list. -/
def prodL (l : List Int) : Int := l.foldr (· * ·) 1
theorem prodL_cons (x : Int) (l : List Int) : prodL (x :: l) = x * prodL l := rfl
theorem prodL_snoc (l : List Int) (x : Int) : prodL (l ++ [x]) = prodL l * x := by
  induction l with
  | nil => simp [prodL]
  | cons y l ih => rw [List.cons_append, prodL_cons, ih, prodL_cons, Int.mul_assoc]
theorem prodL_append (l m : List Int) : prodL (l ++ m) = prodL l * prodL m := by
  induction l with
  | nil => simp [prodL]
  | cons y l ih => rw [List.cons_append, prodL_cons, ih, prodL_cons, Int.mul_assoc]
theorem prodL_take {xs : List Int} {k : Nat} (h : k < xs.length) : prodL (xs.take (k + 1)) = prodL (xs.take k) * xs.getD k 0 := by rw [take_step h, prodL_snoc]
theorem prodL_pos {l : List Int} (h : ∀ x ∈ l, 1 ≤ x) : 1 ≤ prodL l := by
  induction l with
  | nil => simp [prodL]
  | cons y l ih =>
    have h1 := ih fun x hx => h x (List.mem_cons_of_mem _ hx)
    have h2 := h y (List.mem_cons_self ..)
    have := Int.mul_le_mul h2 h1 (by omega) (by omega)
    rw [prodL_cons]; omega
/-- A part of the places counts no more than all. -/
theorem prodL_take_le {l : List Int} (h : ∀ x ∈ l, 1 ≤ x) (k : Nat) : prodL (l.take k) ≤ prodL l := by
  have h1 := prodL_append (l.take k) (l.drop k)
  rw [List.take_append_drop] at h1
  have h2 : 1 ≤ prodL (l.drop k) := prodL_pos fun x hx => h x (List.mem_of_mem_drop hx)
  have h3 : 1 ≤ prodL (l.take k) := prodL_pos fun x hx => h x (List.mem_of_mem_take hx)
  have := Int.mul_le_mul_of_nonneg_left h2 (show 0 ≤ prodL (l.take k) by omega)
  rw [h1]; omega
theorem prodL_drop_le {l : List Int} (h : ∀ x ∈ l, 1 ≤ x) (k : Nat) : prodL (l.drop k) ≤ prodL l := by
  have h1 := prodL_append (l.take k) (l.drop k)
  rw [List.take_append_drop] at h1
  have h2 : 1 ≤ prodL (l.drop k) := prodL_pos fun x hx => h x (List.mem_of_mem_drop hx)
  have h3 : 1 ≤ prodL (l.take k) := prodL_pos fun x hx => h x (List.mem_of_mem_take hx)
  have := Int.mul_le_mul_of_nonneg_right h3 (show 0 ≤ prodL (l.drop k) by omega)
  rw [h1]; omega
theorem pow60 : ∀ k, k ≤ 10 → (60 : Int) ^ k ≤ 604661760000000000 := by decide
theorem prodL_pow {l : List Int} (h : ∀ x ∈ l, 2 ≤ x ∧ x ≤ 60) : prodL l ≤ 60 ^ l.length := by
  induction l with
  | nil => simp [prodL]
  | cons y l ih =>
    have h1 := ih fun x hx => h x (List.mem_cons_of_mem _ hx)
    have h2 := h y (List.mem_cons_self ..)
    have h3 : 1 ≤ prodL l := prodL_pos fun x hx => by have := h x (List.mem_cons_of_mem _ hx); omega
    have := Int.mul_le_mul h2.2 h1 (by omega) (by omega)
    rw [prodL_cons, List.length_cons, Int.pow_succ, Int.mul_comm (60 ^ _)]; exact this

/-- These are radices. -/
def rokB (l : List Int) : Bool := inB l.length 1 10 && (allB l 2 60 && inB (prodL l) 0 1000000000000)
theorem rok_of {l : List Int} (h : rokB l = true) : (1 ≤ l.length ∧ l.length ≤ 10) ∧ (∀ x ∈ l, 2 ≤ x ∧ x ≤ 60) ∧ prodL l ≤ 1000000000000 := by
  unfold rokB at h
  rw [Bool.and_eq_true, Bool.and_eq_true] at h
  have h1 := inB_yes h.1
  exact ⟨by omega, allB_of h.2.1, (inB_yes h.2.2).2⟩

set_option maxHeartbeats 400000 in
theorem c_i_product (v : Value) (xs : List Int) (w : World) (h : Rd w v xs) (hl : Hid (xs.length ≤ 10)) (hx : Hid (∀ x ∈ xs, 2 ≤ x ∧ x ≤ 60)) :
    Calls Try.prog 41 #[v] w fun e w' => e = .returned (.int .i64 (prodL xs)) ∧ w = w' := by
  obtain ⟨a, cap, n, rfl, HN, hm, hc, hcm, hcell⟩ := h.open
  have hl' := hl.out
  rw [HN.out] at hl'
  go_enter Try.func41, Try.ntmps41
  go_wp2
  go_loop [3, 5, 8] (fun s _ i => ∃ k : Nat, k ≤ n ∧ i = .int .i64 k ∧ s = .int .i64 (prodL (xs.take k))) (fun _ _ i => n - (intOf i).toNat)
  case atStart => exact ⟨0, by omega, rfl, by simp [prodL]⟩
  case round =>
    obtain ⟨k, hk, rfl, rfl⟩ := hrel
    by_cases hlt : k < n
    · obtain ⟨b, off, rfl, hbl, y, hy, hbd, hcx⟩ := hcell k hlt
      have hs := prodL_take (xs := xs) (k := k) (by rw [HN.out]; exact hlt)
      rw [hy.out] at hs
      have b1 : prodL (xs.take (k + 1)) ≤ 60 ^ (xs.take (k + 1)).length := prodL_pow fun x hx' => hx.out x (List.mem_of_mem_take hx')
      have b2 := pow60 (xs.take (k + 1)).length (by rw [List.length_take]; omega)
      have b3 : 1 ≤ prodL (xs.take (k + 1)) := prodL_pos fun x hx' => by have := hx.out x (List.mem_of_mem_take hx'); omega
      have b4 : prodL (xs.take (k + 1)) ≤ 604661760000000000 := Int.le_trans b1 b2
      rw [hs] at b3 b4
      have HS := Lib.hid hs
      clear hs hy hcell b1 b2
      go_wp2
      go_round
      case rel => exact ⟨k + 1, by omega, by go_num, by rw [HS.out]⟩
      case measure => simp [intOf]; omega
    · have hfin : Hid (prodL (xs.take k) = prodL xs) := by show _ = _; rw [List.take_of_length_le (by rw [HN.out]; omega)]
      clear hcell
      go_wp2
      go_ret
      exact ⟨ret_i hfin.out, rfl⟩

set_option maxHeartbeats 400000 in
theorem c_s_l07Range (v : Value) (xs : List Int) (w : World) (h : Rd w v xs) (hl : Hid (xs.length ≤ 10)) (hx : Hid (∀ x ∈ xs, 2 ≤ x ∧ x ≤ 60)) :
    Calls Try.prog 53 #[v] w fun e w' => e = .returned (.int .i64 (prodL xs)) ∧ w = w' := by
  obtain ⟨a, cap, n, rfl, HN, hm, hc, hcm, hcell⟩ := h.open
  have hl' := hl.out
  rw [HN.out] at hl'
  go_enter Try.func53, Try.ntmps53
  go_wp2
  go_loop [3, 5, 8] (fun s _ i => ∃ k : Nat, k ≤ n ∧ i = .int .i64 k ∧ s = .int .i64 (prodL (xs.take k))) (fun _ _ i => n - (intOf i).toNat)
  case atStart => exact ⟨0, by omega, rfl, by simp [prodL]⟩
  case round =>
    obtain ⟨k, hk, rfl, rfl⟩ := hrel
    by_cases hlt : k < n
    · obtain ⟨b, off, rfl, hbl, y, hy, hbd, hcx⟩ := hcell k hlt
      have hs := prodL_take (xs := xs) (k := k) (by rw [HN.out]; exact hlt)
      rw [hy.out] at hs
      have b1 : prodL (xs.take (k + 1)) ≤ 60 ^ (xs.take (k + 1)).length := prodL_pow fun x hx' => hx.out x (List.mem_of_mem_take hx')
      have b2 := pow60 (xs.take (k + 1)).length (by rw [List.length_take]; omega)
      have b3 : 1 ≤ prodL (xs.take (k + 1)) := prodL_pos fun x hx' => by have := hx.out x (List.mem_of_mem_take hx'); omega
      have b4 : prodL (xs.take (k + 1)) ≤ 604661760000000000 := Int.le_trans b1 b2
      rw [hs] at b3 b4
      have HS := Lib.hid hs
      clear hs hy hcell b1 b2
      go_wp2
      go_round
      case rel => exact ⟨k + 1, by omega, by go_num, by rw [HS.out]⟩
      case measure => simp [intOf]; omega
    · have hfin : Hid (prodL (xs.take k) = prodL xs) := by show _ = _; rw [List.take_of_length_le (by rw [HN.out]; omega)]
      clear hcell
      go_wp2
      go_ret
      exact ⟨ret_i hfin.out, rfl⟩

set_option maxHeartbeats 800000 in
theorem c_i_RadicesOk (v : Value) (xs : List Int) (w : World) (h : Rd w v xs) :
    Calls Try.prog 16 #[v] w fun e w' => e = .returned (.bool (rokB xs)) ∧ Below w.heap.size w w' := by
  obtain ⟨a, cap, n, rfl, HN, hm, hc, hcm, hcell⟩ := h.open
  have H := Lib.hid h
  clear h hcell
  cases e1 : inB n 1 10
  · have hfin : Hid (rokB xs = false) := by have e := e1; rw [← HN.out] at e; simp [Hid, rokB, e]
    go_enter Try.func16, Try.ntmps16
    go_wp2_with (go_at_call 42; refine (c_i_within _ _ _ _).mono ?_; rintro e w' ⟨rfl, rfl⟩)
    go_ret
    exact ⟨ret_b hfin.out.symm, Below.refl _ _⟩
  · have g1 := inB_yes e1
    cases e2 : allB xs 2 60
    · have hfin : Hid (rokB xs = false) := by simp [Hid, rokB, e2]
      go_enter Try.func16, Try.ntmps16
      go_wp2_with (first | (go_at_call 42; refine (c_i_within _ _ _ _).mono ?_; rintro e w' ⟨rfl, rfl⟩) | (go_at_call 43; refine (c_i_allWithin _ xs _ _ _ H.out).mono ?_; rintro e W1 ⟨rfl, hb⟩))
      go_ret
      exact ⟨ret_b hfin.out.symm, hb⟩
    · have hl : Hid (xs.length ≤ 10) := by show _ ≤ _; rw [HN.out]; omega
      have hx : Hid (∀ x ∈ xs, 2 ≤ x ∧ x ≤ 60) := allB_of e2
      have hfin : Hid (rokB xs = inB (prodL xs) 0 1000000000000) := by have e := e1; rw [← HN.out] at e; simp [Hid, rokB, e, e2]
      go_enter Try.func16, Try.ntmps16
      go_wp2_with (first | (go_at_call 42; refine (c_i_within _ _ _ _).mono ?_; rintro e w' ⟨rfl, rfl⟩) | (go_at_call 43; refine (c_i_allWithin _ xs _ _ _ H.out).mono ?_; rintro e W1 ⟨rfl, hb⟩) | (go_at_call 41; refine (c_i_product _ xs _ (H.out.below hb) hl hx).mono ?_; rintro e w' ⟨rfl, rfl⟩) | (go_at_call 44; refine (c_i_isNumber _ _).mono ?_; rintro e w' ⟨rfl, rfl⟩))
      go_ret
      exact ⟨ret_b hfin.out.symm, hb⟩

set_option maxHeartbeats 800000 in
theorem c_s_RadicesOk (v : Value) (xs : List Int) (w : World) (h : Rd w v xs) :
    Calls Try.prog 26 #[v] w fun e w' => e = .returned (.bool (rokB xs)) ∧ w = w' := by
  obtain ⟨a, cap, n, rfl, HN, hm, hc, hcm, hcell⟩ := h.open
  clear h
  cases e1 : inB n 1 10
  · have hfin : Hid (rokB xs = false) := by have e := e1; rw [← HN.out] at e; simp [Hid, rokB, e]
    clear hcell
    go_enter Try.func26, Try.ntmps26
    go_wp2_with (go_at_call 52; refine (c_s_l01In _ _ _ _).mono ?_; rintro e w' ⟨rfl, rfl⟩)
    go_ret
    exact ⟨ret_b hfin.out.symm, rfl⟩
  · have g1 := inB_yes e1
    go_enter Try.func26, Try.ntmps26
    go_wp2_with (go_at_call 52; refine (c_s_l01In _ _ _ _).mono ?_; rintro e w' ⟨rfl, rfl⟩)
    go_loop [3, 5, 12] (fun s _ i => ∃ k : Nat, k ≤ n ∧ i = .int .i64 k ∧ s = .int .i64 (prodL (xs.take k)) ∧ 1 ≤ prodL (xs.take k) ∧ prodL (xs.take k) ≤ 1000000000000 ∧ Hid (∀ j, j < k → inB (xs.getD j 0) 2 60 = true)) (fun _ _ i => n - (intOf i).toNat)
    case atStart => exact ⟨0, by omega, rfl, by simp [prodL], by simp [prodL], by simp [prodL], fun j hj => by omega⟩
    case round =>
      obtain ⟨k, hk, rfl, rfl, p0, p1, hr⟩ := hrel
      by_cases hlt : k < n
      · obtain ⟨b, off, rfl, hbl, y, hy, hbd, hcx⟩ := hcell k hlt
        cases e2 : inB y 2 60
        · have hfin : Hid (rokB xs = false) := by
            have := allB_no (xs := xs) (k := k) (by rw [HN.out]; exact hlt) (by rw [hy.out]; exact e2)
            simp [Hid, rokB, this]
          clear hr hy hcell
          go_wp2_with (go_at_call 52; refine (c_s_l01In _ _ _ _).mono ?_; rintro e w' ⟨rfl, rfl⟩)
          go_ret
          exact ⟨ret_b hfin.out.symm, rfl⟩
        · have g2 := inB_yes e2
          have hs := prodL_take (xs := xs) (k := k) (by rw [HN.out]; exact hlt)
          rw [hy.out] at hs
          have m1 : prodL (xs.take k) * y ≤ 1000000000000 * 60 := Int.mul_le_mul p1 g2.2 (by omega) (by omega)
          have m0 : 1 * 1 ≤ prodL (xs.take k) * y := Int.mul_le_mul p0 (by omega) (by omega) (by omega)
          by_cases hle : prodL (xs.take k) * y ≤ 1000000000000
          · have hr2 : Hid (∀ j, j < k + 1 → inB (xs.getD j 0) 2 60 = true) := all_up hr.out (by rw [hy.out]; exact e2)
            have HS := Lib.hid hs
            clear hr hy hcell hs
            go_wp2_with (go_at_call 52; refine (c_s_l01In _ _ _ _).mono ?_; rintro e w' ⟨rfl, rfl⟩)
            go_round
            case rel => exact ⟨k + 1, by omega, by go_num, by rw [HS.out], by rw [HS.out]; omega, by rw [HS.out]; exact hle, hr2⟩
            case measure => simp [intOf]; omega
          · have hfin : Hid (rokB xs = false) := by
              cases ha : allB xs 2 60
              · simp [Hid, rokB, ha]
              · have h1 := prodL_take_le (l := xs) (fun x hx => by have := allB_of ha x hx; omega) (k + 1)
                rw [hs] at h1
                have : inB (prodL xs) 0 1000000000000 = false := inB_not (by omega)
                simp [Hid, rokB, this]
            have hle' : 1000000000000 < prodL (xs.take k) * y := by omega
            clear hr hy hcell hs hle
            go_wp2_with (go_at_call 52; refine (c_s_l01In _ _ _ _).mono ?_; rintro e w' ⟨rfl, rfl⟩)
            go_ret
            exact ⟨ret_b hfin.out.symm, rfl⟩
      · have hfin : Hid (rokB xs = true) := by
          have ha : allB xs 2 60 = true := allB_yes fun j hj => hr.out j (by rw [HN.out] at hj; omega)
          rw [List.take_of_length_le (by rw [HN.out]; omega)] at p0 p1
          have hp : inB (prodL xs) 0 1000000000000 = true := inB_mk ⟨by omega, p1⟩
          have e := e1; rw [← HN.out] at e
          simp [Hid, rokB, e, ha, hp]
        clear hr hcell
        go_wp2
        go_ret
        exact ⟨ret_b hfin.out.symm, rfl⟩

/-- The range, or 0. -/
def rngV (xs : List Int) : Int := if rokB xs then prodL xs else 0

theorem c_i_RangeOf (v : Value) (xs : List Int) (w : World) (h : Rd w v xs) :
    Calls Try.prog 14 #[v] w fun e w' => e = .returned (.int .i64 (rngV xs)) ∧ Below w.heap.size w w' := by
  have H := Lib.hid h
  clear h
  cases e1 : rokB xs
  · go_enter Try.func14, Try.ntmps14
    go_wp2_with (go_at_call 16; refine (c_i_RadicesOk _ xs _ H.out).mono ?_; rintro e W1 ⟨rfl, hb⟩)
    go_ret
    exact ⟨ret_i (by simp [rngV, e1]), hb⟩
  · have hr := rok_of e1
    have hl : Hid (xs.length ≤ 10) := hr.1.2
    have hx : Hid (∀ x ∈ xs, 2 ≤ x ∧ x ≤ 60) := hr.2.1
    clear hr
    go_enter Try.func14, Try.ntmps14
    go_wp2_with (first | (go_at_call 16; refine (c_i_RadicesOk _ xs _ H.out).mono ?_; rintro e W1 ⟨rfl, hb⟩) | (go_at_call 41; refine (c_i_product _ xs _ (H.out.below hb) hl hx).mono ?_; rintro e w' ⟨rfl, rfl⟩))
    go_ret
    exact ⟨ret_i (by simp [rngV, e1]), hb⟩

theorem c_s_RangeOf (v : Value) (xs : List Int) (w : World) (h : Rd w v xs) :
    Calls Try.prog 29 #[v] w fun e w' => e = .returned (.int .i64 (rngV xs)) ∧ Below w.heap.size w w' := by
  have H := Lib.hid h
  clear h
  cases e1 : rokB xs
  · go_enter Try.func29, Try.ntmps29
    go_wp2_with (go_at_call 26; refine (c_s_RadicesOk _ xs _ H.out).mono ?_; rintro e w' ⟨rfl, rfl⟩)
    go_ret
    exact ⟨ret_i (by simp [rngV, e1]), Below.refl _ _⟩
  · have hr := rok_of e1
    have hl : Hid (xs.length ≤ 10) := hr.1.2
    have hx : Hid (∀ x ∈ xs, 2 ≤ x ∧ x ≤ 60) := hr.2.1
    clear hr
    go_enter Try.func29, Try.ntmps29
    go_wp2_with (first | (go_at_call 26; refine (c_s_RadicesOk _ xs _ H.out).mono ?_; rintro e w' ⟨rfl, rfl⟩) | (go_at_call 53; refine (c_s_l07Range _ xs _ H.out hl hx).mono ?_; rintro e w' ⟨rfl, rfl⟩))
    go_ret
    exact ⟨ret_i (by simp [rngV, e1]), Below.refl _ _⟩

/-- What each place counts, or none. -/
def plcL (xs : List Int) : List Int := (List.range xs.length).map fun k => prodL (xs.take k)
def plcV (xs : List Int) : List Int := if rokB xs then plcL xs else []
theorem plc_step (xs : List Int) (k : Nat) : (List.range k).map (fun j => prodL (xs.take j)) ++ [prodL (xs.take k)] = (List.range (k + 1)).map fun j => prodL (xs.take j) := by
  rw [List.range_succ, List.map_append]; rfl
theorem plcV_len (xs : List Int) : (plcV xs).length ≤ 1048576 := by
  unfold plcV
  split
  · rename_i h
    have := (rok_of h).1.2
    simp [plcL]; omega
  · simp

theorem Rd.take {w : World} {b off cap : Nat} {n : Nat} {xs : List Int} (h : Rd w (.slice (some ⟨b, off, none⟩) n cap) xs) (hn : xs.length = n) (k : Nat) (hk : k ≤ n) : Rd w (.slice (some ⟨b, off, none⟩) k cap) (xs.take k) := by
  obtain ⟨hb, a, cap', e, hc, hm, hcell⟩ := h
  cases e
  have hlen : (xs.take k).length = k := by rw [List.length_take]; omega
  refine ⟨fun x hx => hb x (List.mem_of_mem_take hx), _, cap, by rw [hlen], by omega, hm, fun h0 => ?_⟩
  obtain ⟨b', off', e', hlt, hcell⟩ := hcell (by omega)
  cases e'
  refine ⟨b, off, rfl, hlt, fun i hi => ?_⟩
  rw [hlen] at hi
  rw [hcell i (by omega), List.getD_eq_getElem?_getD, List.getD_eq_getElem?_getD, List.getElem?_take, if_pos hi]

set_option maxHeartbeats 400000 in
theorem c_s_PlacesOf (v : Value) (xs : List Int) (w : World) (h : Rd w v xs) :
    Calls Try.prog 31 #[v] w fun e w' => ∃ v', e = .returned v' ∧ Own w' w.heap.size v' (plcV xs) ∧ Below w.heap.size w w' := by
  obtain ⟨a, cap, n, rfl, HN, hm, hc, hcm, hcell⟩ := h.open
  have H := Lib.hid h
  clear h
  cases e1 : rokB xs
  · have hV : Hid (plcV xs = []) := by simp [Hid, plcV, e1]
    clear hcell
    go_enter Try.func31, Try.ntmps31
    go_wp2_with (go_at_call 26; refine (c_s_RadicesOk _ xs _ H.out).mono ?_; rintro e w' ⟨rfl, rfl⟩)
    go_ret
    exact ⟨_, rfl, by rw [hV.out]; exact Own.nil _ _, Below.refl _ _⟩
  · have hV : Hid (plcV xs = plcL xs) := by simp [Hid, plcV, e1]
    have hr := rok_of e1
    have hn : n ≤ 10 := by rw [← HN.out]; exact hr.1.2
    have hx : Hid (∀ x ∈ xs, 2 ≤ x ∧ x ≤ 60) := hr.2.1
    have hp : Hid (prodL xs ≤ 1000000000000) := hr.2.2
    clear hr
    go_enter Try.func31, Try.ntmps31
    go_wp2_with (go_at_call 26; refine (c_s_RadicesOk _ xs _ H.out).mono ?_; rintro e w' ⟨rfl, rfl⟩)
    go_loopw [3, 4, 6, 13] (fun v s _ i wr => ∃ k : Nat, k ≤ n ∧ i = .int .i64 k ∧ s = .int .i64 (prodL (xs.take k)) ∧ Own wr w.heap.size v ((List.range k).map fun j => prodL (xs.take j)) ∧ Below w.heap.size w wr) (fun _ _ _ i _ => n - (intOf i).toNat)
    case atStart => exact ⟨0, by omega, rfl, by simp [prodL], Own.empty _ _ (Nat.le_refl _), (Below.refl _ _).alloc (Nat.le_refl _) _⟩
    case round =>
      obtain ⟨k, hk, rfl, rfl, hown, hb⟩ := hrel
      by_cases hlt : k < n
      · obtain ⟨b, off, rfl, hbl, y, hy, hbd, hcx⟩ := hcell k hlt
        have hcr : wr.cell? ⟨b, off + k, none⟩ = some (.int .i64 y) := (hb.cell (by exact hbl)).trans hcx
        have hs := prodL_take (xs := xs) (k := k) (by rw [HN.out]; exact hlt)
        rw [hy.out] at hs
        have q1 := prodL_take_le (l := xs) (fun x hx' => by have := hx.out x hx'; omega) k
        have q2 := prodL_take_le (l := xs) (fun x hx' => by have := hx.out x hx'; omega) (k + 1)
        have q3 : 1 ≤ prodL (xs.take k) := prodL_pos fun x hx' => by have := hx.out x (List.mem_of_mem_take hx'); omega
        have q4 : 1 ≤ prodL (xs.take (k + 1)) := prodL_pos fun x hx' => by have := hx.out x (List.mem_of_mem_take hx'); omega
        have hp' := hp.out
        rw [hs] at q2 q4
        have r1 : prodL (xs.take k) ≤ 1000000000000 := by omega
        have r2 : prodL (xs.take k) * y ≤ 1000000000000 := by omega
        have hst := Lib.hid (plc_step xs k)
        have hlen : Hid (((List.range k).map fun j => prodL (xs.take j)).length < 17592186044415) := by show _ < _; simp; omega
        have HS := Lib.hid hs
        clear hs hy hcell hcx q1 q2 hp'
        go_wp2_with (at_builtin; refine wpList_app _ rfl _ _ rfl w.heap.size w _ _ rfl (hown.alloc _) (hb.alloc hb.size _) (Nat.le_refl _) ⟨wr.heap.size, 0, none⟩ (prodL (xs.take k)) rfl (by simp) (by unfold bd; omega) hlen.out ?_; intro v' w1 hown1 hb1 _)
        go_roundw
        case rel => exact ⟨k + 1, by omega, by go_num, by rw [HS.out], by rw [← hst.out]; exact hown1, hb1⟩
        case measure => simp [intOf]; omega
      · have hfin : Hid ((List.range k).map (fun j => prodL (xs.take j)) = plcV xs) := by
          show _ = _
          rw [hV.out]; unfold plcL; rw [show k = xs.length by rw [HN.out]; omega]
        clear hcell
        go_wp2
        go_ret
        exact ⟨_, rfl, by rw [← hfin.out]; exact hown, hb⟩

set_option maxHeartbeats 400000 in
theorem c_i_PlacesOf (v : Value) (xs : List Int) (w : World) (h : Rd w v xs) :
    Calls Try.prog 15 #[v] w fun e w' => ∃ v', e = .returned v' ∧ Own w' w.heap.size v' (plcV xs) ∧ Below w.heap.size w w' := by
  obtain ⟨a, cap, n, rfl, HN, hm, hc, hcm, hcell⟩ := h.open
  have H := Lib.hid h
  clear h
  cases e1 : rokB xs
  · have hV : Hid (plcV xs = []) := by simp [Hid, plcV, e1]
    clear hcell
    go_enter Try.func15, Try.ntmps15
    go_wp2_with (go_at_call 16; refine (c_i_RadicesOk _ xs _ H.out).mono ?_; rintro e W1 ⟨rfl, hb⟩)
    go_ret
    exact ⟨_, rfl, by rw [hV.out]; exact Own.nil _ _, hb⟩
  · have hV : Hid (plcV xs = plcL xs) := by simp [Hid, plcV, e1]
    have hr := rok_of e1
    have hn : n ≤ 10 := by rw [← HN.out]; exact hr.1.2
    have hx : Hid (∀ x ∈ xs, 2 ≤ x ∧ x ≤ 60) := hr.2.1
    have hp : Hid (prodL xs ≤ 1000000000000) := hr.2.2
    clear hr
    go_enter Try.func15, Try.ntmps15
    go_wp2_with (go_at_call 16; refine (c_i_RadicesOk _ xs _ H.out).mono ?_; rintro e W1 ⟨rfl, hb⟩)
    go_loopw [3, 4, 10] (fun v _ i wr => ∃ k : Nat, k ≤ n ∧ i = .int .i64 k ∧ Own wr w.heap.size v ((List.range k).map fun j => prodL (xs.take j)) ∧ Below w.heap.size w wr) (fun _ _ i _ => n - (intOf i).toNat)
    case atStart => exact ⟨0, by omega, rfl, Own.nil _ _, hb⟩
    case round =>
      obtain ⟨k, hk, rfl, hown, hb⟩ := hrel
      by_cases hlt : k < n
      · obtain ⟨b, off, rfl, hbl, y, hy, hbd, hcx⟩ := hcell k hlt
        have hT := Lib.hid ((H.out.below hb).take HN.out k hk)
        have q1 := prodL_take_le (l := xs) (fun x hx' => by have := hx.out x hx'; omega) k
        have q3 : 1 ≤ prodL (xs.take k) := prodL_pos fun x hx' => by have := hx.out x (List.mem_of_mem_take hx'); omega
        have hp' := hp.out
        have r1 : prodL (xs.take k) ≤ 1000000000000 := by omega
        have hst := Lib.hid (plc_step xs k)
        have hlen : Hid (((List.range k).map fun j => prodL (xs.take j)).length < 17592186044415) := by show _ < _; simp; omega
        have hlt2 : Hid ((xs.take k).length ≤ 10) := by show _ ≤ _; rw [List.length_take]; omega
        have hx2 : Hid (∀ x ∈ xs.take k, 2 ≤ x ∧ x ≤ 60) := fun x hx' => hx.out x (List.mem_of_mem_take hx')
        have hkn : (k : Int) ≤ (cap : Int) := by omega
        clear hy hcell hcx q1 hp'
        go_wp2_with (first | (go_at_call 41; refine (c_i_product _ (xs.take k) _ hT.out hlt2 hx2).mono ?_; rintro e w' ⟨rfl, rfl⟩) | (at_builtin; refine wpList_app _ rfl _ _ rfl w.heap.size w _ _ rfl (hown.alloc _) (hb.alloc hb.size _) (Nat.le_refl _) ⟨wr.heap.size, 0, none⟩ (prodL (xs.take k)) rfl (by simp) (by unfold bd; omega) hlen.out ?_; intro v' w1 hown1 hb1 _))
        go_roundw
        case rel => exact ⟨k + 1, by omega, by go_num, by rw [← hst.out]; exact hown1, hb1⟩
        case measure => simp [intOf]; omega
      · have hfin : Hid ((List.range k).map (fun j => prodL (xs.take j)) = plcV xs) := by
          show _ = _
          rw [hV.out]; unfold plcL; rw [show k = xs.length by rw [HN.out]; omega]
        clear hcell
        go_wp2
        go_ret
        exact ⟨_, rfl, by rw [← hfin.out]; exact hown, hb⟩

end Go.Proofs.Ytehlkoogpgcipaa
