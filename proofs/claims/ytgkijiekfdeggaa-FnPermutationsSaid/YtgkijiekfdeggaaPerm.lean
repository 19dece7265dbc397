/- Contracts of PermutationOk, the program's and the reference's. -/
import Derived.Test.YtgkijiekfdeggaaFac
namespace Go.Proofs.Ytgkijiekfdeggaa
open Go.RowKit
open Pl

theorem Rd.cutL {w : World} {b off cap : Nat} {n : Nat} {xs : List Int} (h : Rd w (.slice (some ⟨b, off, none⟩) n cap) xs) (hn : xs.length = n) (k : Nat) (hk : k ≤ n) : Rd w (.slice (some ⟨b, off, none⟩) k cap) (xs.take k) := by
  obtain ⟨hb, a, cap', e, hc, hm, hcell⟩ := h
  cases e
  have hlen : (xs.take k).length = k := by rw [List.length_take]; omega
  refine ⟨fun x hx => hb x (List.mem_of_mem_take hx), _, cap, by rw [hlen], by omega, hm, fun h0 => ?_⟩
  obtain ⟨b', off', e', hlt, hcell⟩ := hcell (by omega)
  cases e'
  refine ⟨b, off, rfl, hlt, fun i hi => ?_⟩
  rw [hlen] at hi
  rw [hcell i (by omega), List.getD_eq_getElem?_getD, List.getD_eq_getElem?_getD, List.getElem?_take, if_pos hi]

theorem Rd.cutR {w : World} {b off cap : Nat} {n : Nat} {xs : List Int} (h : Rd w (.slice (some ⟨b, off, none⟩) n cap) xs) (hn : xs.length = n) (k : Nat) (hk : k ≤ n) : Rd w (.slice (some ⟨b, off + k, none⟩) (n - k) (cap - k)) (xs.drop k) := by
  obtain ⟨hb, a, cap', e, hc, hm, hcell⟩ := h
  cases e
  have hlen : (xs.drop k).length = xs.length - k := by rw [List.length_drop]
  refine ⟨fun x hx => hb x (List.mem_of_mem_drop hx), _, cap - k, by rw [hlen], by omega, by omega, fun h0 => ?_⟩
  obtain ⟨b', off', e', hlt, hcell⟩ := hcell (by omega)
  cases e'
  refine ⟨b, off + k, rfl, hlt, fun i hi => ?_⟩
  rw [hlen] at hi
  rw [Nat.add_assoc, hcell (k + i) (by omega), List.getD_eq_getElem?_getD, List.getD_eq_getElem?_getD, List.getElem?_drop]

/-- What slices.Index tells: it is at least 0 where the number is there. -/
def FoundAt (i : Int) (x : Int) (xs : List Int) : Prop := decide (0 ≤ i) = decide (x ∈ xs)

set_option maxHeartbeats 400000 in
theorem c_Index (v : Value) (xs : List Int) (x : Int) (w : World) (h : Rd w v xs) :
    Calls Try.prog 53 #[v, .int .i64 x] w fun e w' => ∃ i : Int, e = .returned (.int .i64 i) ∧ FoundAt i x xs ∧ w = w' := by
  obtain ⟨a, cap, n, rfl, HN, hm, hc, hcm, hcell⟩ := h.open
  go_enter Try.func53, Try.ntmps53
  go_wp2
  go_loop [5, 8] (fun _ i => ∃ k : Nat, k ≤ n ∧ i = .int .i64 k ∧ Hid (∀ j, j < k → xs.getD j 0 ≠ x)) (fun _ i => n - (intOf i).toNat)
  case atStart => exact ⟨0, by omega, rfl, fun j hj => by omega⟩
  case round =>
    obtain ⟨k, hk, rfl, hr⟩ := hrel
    by_cases hlt : k < n
    · obtain ⟨b, off, rfl, hbl, y, hy, hbd, hcx⟩ := hcell k hlt
      cases hxy : (x == y)
      · have hne : x ≠ y := by simpa using hxy
        have hr2 : Hid (∀ j, j < k + 1 → xs.getD j 0 ≠ x) := up_all hr.out (by rw [hy.out]; exact Ne.symm hne)
        clear hr hy hcell hne
        go_wp2
        go_round
        case rel => exact ⟨k + 1, by omega, by go_num, hr2⟩
        case measure => simp [intOf]; omega
      · have hfin : Hid (decide (x ∈ xs) = true) := decide_eq_true (by
          have e : x = y := by simpa using hxy
          rw [e, ← hy.out]; exact getD_mem (by rw [HN.out]; exact hlt))
        clear hr hy hcell
        go_wp2
        go_ret
        exact ⟨_, rfl, by unfold FoundAt; rw [hfin.out]; simp, rfl⟩
    · have hfin : Hid (decide (x ∈ xs) = false) := decide_eq_false fun hx => by
        obtain ⟨j, hj, e⟩ := List.getElem_of_mem hx
        have := hr.out j (by rw [HN.out] at hj; omega)
        rw [List.getD_eq_getElem?_getD, List.getElem?_eq_getElem hj] at this
        exact this e
      clear hr hcell
      go_wp2
      go_ret
      exact ⟨_, rfl, by unfold FoundAt; rw [hfin.out]; rfl, rfl⟩

theorem c_Contains (v : Value) (xs : List Int) (x : Int) (w : World) (h : Rd w v xs) :
    Calls Try.prog 43 #[v, .int .i64 x] w fun e w' => e = .returned (.bool (decide (x ∈ xs))) ∧ w = w' := by
  have H := Lib.hid h
  clear h
  go_enter Try.func43, Try.ntmps43
  go_wp2_with (go_at_call 53; refine (c_Index _ xs _ _ H.out).mono ?_; rintro e w' ⟨i, rfl, hi, rfl⟩)
  go_ret
  exact ⟨ret_b hi, rfl⟩

/-- The item at j lies below the length and has not been seen. -/
def freshAt (l : List Int) (j : Nat) : Bool := inB (l.getD j 0) 0 ((l.length : Int) - 1) && !decide (l.getD j 0 ∈ l.take j)
def pmP (l : List Int) : Prop := ∀ j, j < l.length → freshAt l j = true
instance (l : List Int) : Decidable (pmP l) := by unfold pmP; infer_instance
/-- These are permutations of at most 8 items. -/
def pmB (l : List Int) : Bool := inB l.length 1 8 && decide (pmP l)

set_option maxHeartbeats 800000 in
theorem c_i_PermutationOk (v : Value) (l : List Int) (w : World) (h : Rd w v l) :
    Calls Try.prog 16 #[v] w fun e w' => e = .returned (.bool (pmB l)) ∧ w = w' := by
  obtain ⟨a, cap, n, rfl, HN, hm, hc, hcm, hcell⟩ := h.open
  have H := Lib.hid h
  clear h
  go_enter Try.func16, Try.ntmps16
  go_wp2
  go_loop [3, 4, 7] (fun _ _ i => ∃ k : Nat, k ≤ n ∧ i = .int .i64 k ∧ Hid (∀ j, j < k → freshAt l j = true)) (fun _ _ i => n - (intOf i).toNat)
  case atStart => exact ⟨0, by omega, rfl, fun j hj => by omega⟩
  case round =>
    obtain ⟨k, hk, rfl, hr⟩ := hrel
    by_cases hlt : k < n
    · obtain ⟨b, off, rfl, hbl, x, hx, hbd, hcx⟩ := hcell k hlt
      have hT := Lib.hid (H.out.cutL HN.out k hk)
      have hf : freshAt l k = (inB x 0 ((n : Int) - 1) && !decide (x ∈ l.take k)) := by unfold freshAt; rw [hx.out, HN.out]
      have hkc : (k : Int) ≤ (cap : Int) := by omega
      cases e1 : inB x 0 ((n : Int) - 1)
      · have hfin : Hid (pmB l = false) := by
          have : decide (pmP l) = false := decide_eq_false fun hp => by
            have := hp k (by rw [HN.out]; exact hlt)
            rw [hf, e1] at this; cases this
          simp [Hid, pmB, this]
        clear hr hx hcell hf
        go_wp2_with (go_at_call 42; refine (c_i_within _ _ _ _).mono ?_; rintro e w' ⟨rfl, rfl⟩)
        go_ret
        exact ⟨ret_b hfin.out.symm, rfl⟩
      · cases e2 : decide (x ∈ l.take k)
        · have E2 := Lib.hid e2
          have hr2 : Hid (∀ j, j < k + 1 → freshAt l j = true) := up_all hr.out (by rw [hf, e1, e2]; rfl)
          clear hr hx hcell hf e2
          go_wp2_with (first | (go_at_call 42; refine (c_i_within _ _ _ _).mono ?_; rintro e w' ⟨rfl, rfl⟩) | (go_at_call 43; refine (c_Contains _ (l.take k) _ _ hT.out).mono ?_; rintro e w' ⟨rfl, rfl⟩; rw [E2.out]))
          go_round
          case rel => exact ⟨k + 1, by omega, by go_num, hr2⟩
          case measure => simp [intOf]; omega
        · have E2 := Lib.hid e2
          have hfin : Hid (pmB l = false) := by
            have : decide (pmP l) = false := decide_eq_false fun hp => by
              have := hp k (by rw [HN.out]; exact hlt)
              rw [hf, e1, e2] at this; cases this
            simp [Hid, pmB, this]
          clear hr hx hcell hf e2
          go_wp2_with (first | (go_at_call 42; refine (c_i_within _ _ _ _).mono ?_; rintro e w' ⟨rfl, rfl⟩) | (go_at_call 43; refine (c_Contains _ (l.take k) _ _ hT.out).mono ?_; rintro e w' ⟨rfl, rfl⟩; rw [E2.out]))
          go_ret
          exact ⟨ret_b hfin.out.symm, rfl⟩
    · have hfin : Hid (pmB l = inB n 1 8) := by
        have : decide (pmP l) = true := decide_eq_true fun j hj => hr.out j (by rw [HN.out] at hj; omega)
        show _ = _
        unfold pmB
        rw [this, HN.out, Bool.and_true]
      clear hr hcell
      go_wp2_with (go_at_call 42; refine (c_i_within _ _ _ _).mono ?_; rintro e w' ⟨rfl, rfl⟩)
      go_ret
      exact ⟨ret_b hfin.out.symm, rfl⟩

theorem info_bool : (Try.prog.info? 4).map (fun i => (i.zero, i.size, i.bytes)) = some (some (.bool false), 1, 1) := by kernel_rfl

/-- Which numbers below n are among the first k. -/
def seenL (l : List Int) (n k : Nat) : List Bool := (List.range n).map fun (y : Nat) => decide (((y : Nat) : Int) ∈ l.take k)
theorem seen_get {l : List Int} {n k y : Nat} (h : y < n) : ((seenL l n k).map Value.bool).getD y (.bool false) = .bool (decide ((y : Int) ∈ l.take k)) := by
  simp [seenL, List.getD_eq_getElem?_getD, List.getElem?_range h]
theorem seen_set {l : List Int} {n k x : Nat} (hk : k < l.length) (hx : l.getD k 0 = (x : Int)) : (seenL l n k).set x true = seenL l n (k + 1) := by
  apply List.ext_getElem?
  intro j
  rw [List.getElem?_set]
  simp only [seenL, List.length_map, List.length_range, List.getElem?_map]
  rw [take_step hk, hx]
  by_cases hj : j < n
  · rw [List.getElem?_range hj]
    by_cases hxj : x = j
    · subst hxj; simp [hj]
    · simp [hxj]
      intro h
      exact absurd h (by omega)
  · rw [List.getElem?_eq_none (by simpa using hj)]
    by_cases hxj : x = j
    · subst hxj; simp [hj]
    · simp [hxj]

set_option maxHeartbeats 1600000 in
theorem c_s_PermutationOk (v : Value) (l : List Int) (w : World) (h : Rd w v l) :
    Calls Try.prog 26 #[v] w fun e w' => e = .returned (.bool (pmB l)) ∧ Below w.heap.size w w' := by
  obtain ⟨a, cap, n, rfl, HN, hm, hc, hcm, hcell⟩ := h.open
  clear h
  cases e0 : inB n 1 8
  · have hfin : Hid (pmB l = false) := by have e := e0; rw [← HN.out] at e; simp [Hid, pmB, e]
    clear hcell
    go_enter Try.func26, Try.ntmps26
    go_wp2_with (go_at_call 46; refine (c_s_l01In _ _ _ _).mono ?_; rintro e w' ⟨rfl, rfl⟩)
    go_ret
    exact ⟨ret_b hfin.out.symm, Below.refl _ _⟩
  · have g0 := inB_yes e0
    obtain ⟨i0, hi, hz0, hz1, hz2⟩ := info_parts info_bool
    go_enter Try.func26, Try.ntmps26
    go_wp2_with (first | (go_at_call 46; refine (c_s_l01In _ _ _ _).mono ?_; rintro e w' ⟨rfl, rfl⟩) | (at_make; refine wpList_make_full _ rfl _ _ 44 rfl w.heap.size 4 i0 (.bool false) 1 Try.underlying44 hi hz0 hz1 .i64 .i64 n n n rfl rfl rfl rfl (by rw [hz2]; omega) (by unfold maxLen; omega) (Nat.le_refl _) ?_; intro w0 hown0 hg0))
    have hs0 : w0.ownsRow w.heap.size 4 1 (.slice (some ⟨w.heap.size, 0, none⟩) n n) n ((seenL l n 0).map Value.bool) := by
      have e : (seenL l n 0).map Value.bool = List.replicate n (Value.bool false) := by
        simp [seenL, List.map_const']
      rw [e]
      simpa [Value.cells, toList_madeCells_one] using hown0
    have hb0 := below_grown hg0
    clear hown0 hg0
    go_loopw [5, 15] (fun _ i wr => ∃ k : Nat, k ≤ n ∧ i = .int .i64 k ∧ wr.ownsRow w.heap.size 4 1 (.slice (some ⟨w.heap.size, 0, none⟩) n n) n ((seenL l n k).map Value.bool) ∧ Hid (∀ j, j < k → freshAt l j = true) ∧ Below w.heap.size w wr) (fun _ i _ => n - (intOf i).toNat)
    case atStart => exact ⟨0, by omega, rfl, hs0, fun j hj => by omega, hb0⟩
    case round =>
      obtain ⟨k, hk, rfl, hown, hr, hb⟩ := hrel
      by_cases hlt : k < n
      · obtain ⟨b, off, rfl, hbl, x, hx, hbd, hcx⟩ := hcell k hlt
        have hcr : wr.cell? ⟨b, off + k, none⟩ = some (.int .i64 x) := (hb.cell (by exact hbl)).trans hcx
        have hf : freshAt l k = (inB x 0 ((n : Int) - 1) && !decide (x ∈ l.take k)) := by unfold freshAt; rw [hx.out, HN.out]
        cases e1 : inB x 0 ((n : Int) - 1)
        · have hfin : Hid (pmB l = false) := by
            have : decide (pmP l) = false := decide_eq_false fun hp => by
              have := hp k (by rw [HN.out]; exact hlt)
              rw [hf, e1] at this; cases this
            simp [Hid, pmB, this]
          clear hr hx hcell hf hown
          go_wp2_with (go_at_call 46; refine (c_s_l01In _ _ _ _).mono ?_; rintro e w' ⟨rfl, rfl⟩)
          go_ret
          exact ⟨ret_b hfin.out.symm, hb⟩
        · have g1 := inB_yes e1
          obtain ⟨x, rfl⟩ := Int.eq_ofNat_of_zero_le g1.1
          have hxn : x < n := by omega
          have hxi : (x : Int) < (n : Int) := by omega
          have hcs : wr.cell? ⟨w.heap.size, x, none⟩ = some (.bool (decide ((x : Int) ∈ l.take k))) := by
            rw [hown.cellAt x (by omega)]
            have := seen_get (l := l) (n := n) (k := k) hxn
            rw [List.getD_eq_getElem?_getD] at this
            rw [List.getElem?_eq_getElem (by simp [seenL]; exact hxn)] at this ⊢
            simpa using this
          have hfz : wr.frozen? ⟨w.heap.size, x, none⟩ = false := hown.frozenAt x
          cases e2 : decide ((x : Int) ∈ l.take k)
          · rw [e2] at hcs
            have hr2 : Hid (∀ j, j < k + 1 → freshAt l j = true) := up_all hr.out (by rw [hf, e1, e2]; rfl)
            have hst := (hown.stored x (.bool true)).1
            have hst2 : Hid (((seenL l n k).map Value.bool).set x (.bool true) = (seenL l n (k + 1)).map Value.bool) := by
              show _ = _
              rw [← seen_set (l := l) (n := n) (k := k) (x := x) (by rw [HN.out]; exact hlt) hx.out, List.map_set]
            clear hr hx hcell hf e2 hown hcx
            go_wp2_with (go_at_call 46; refine (c_s_l01In _ _ _ _).mono ?_; rintro e w' ⟨rfl, rfl⟩)
            go_roundw
            case rel => exact ⟨k + 1, by omega, by go_num, by rw [← hst2.out]; exact hst, hr2, hb.setCell (Nat.le_refl _) _⟩
            case measure => simp [intOf]; omega
          · rw [e2] at hcs
            have hfin : Hid (pmB l = false) := by
              have : decide (pmP l) = false := decide_eq_false fun hp => by
                have := hp k (by rw [HN.out]; exact hlt)
                rw [hf, e1, e2] at this; cases this
              simp [Hid, pmB, this]
            clear hr hx hcell hf e2 hown hcx
            go_wp2_with (go_at_call 46; refine (c_s_l01In _ _ _ _).mono ?_; rintro e w' ⟨rfl, rfl⟩)
            go_ret
            exact ⟨ret_b hfin.out.symm, hb⟩
      · have hfin : Hid (pmB l = true) := by
          have : decide (pmP l) = true := decide_eq_true fun j hj => hr.out j (by rw [HN.out] at hj; omega)
          have e := e0; rw [← HN.out] at e
          simp [Hid, pmB, this, e]
        clear hr hcell hown
        go_wp2
        go_ret
        exact ⟨ret_b hfin.out.symm, hb⟩

end Go.Proofs.Ytgkijiekfdeggaa
