/- Contracts of the laws' own helpers on slices of ints: a copy, a comparison, a filling with a count, and a look whether that filling is held. -/
import Derived.Test.YtjogaoocjcofdaaDoorSl
namespace Go.Proofs.YtjogaoocjcofdaaDoor
open Go.RowKit

/-- Own cells can be written. -/
theorem Own.stored {w : World} {B : Nat} {g n cap : Nat} {xs : List Int} (h : Own w B (.slice (some ⟨g, 0, none⟩) n cap) xs) (hn : n = xs.length) (j : Nat) (y : Int) (hy : bd y) :
    Own (w.setCell ⟨g, j, none⟩ (.int .i64 y)) B (.slice (some ⟨g, 0, none⟩) n cap) (xs.set j y) ∧ w.grownBy (w.setCell ⟨g, j, none⟩ (.int .i64 y)) (some g) := by
  subst hn
  obtain ⟨h1, h2⟩ := h.2.stored j (.int .i64 y)
  refine ⟨⟨fun x hx => ?_, by simpa [List.map_set] using h1⟩, h2⟩
  rcases List.mem_or_eq_of_mem_set hx with hx | rfl
  · exact h.1 x hx
  · exact hy

/-- What a store into one of the call's own asks. -/
theorem Own.at {w : World} {B : Nat} {g n cap : Nat} {xs : List Int} (h : Own w B (.slice (some ⟨g, 0, none⟩) n cap) xs) {k : Nat} (hk : k < xs.length) :
    w.frozen? ⟨g, k, none⟩ = false ∧ ∃ y, xs.getD k 0 = y ∧ w.cell? ⟨g, k, none⟩ = some (.int .i64 y) := by
  obtain ⟨hb, h2⟩ := h
  rcases h2.2 with ⟨e, hn⟩ | ⟨g', cap', cur, e, hB, hg, hc, hm, hs, ht⟩
  · cases e
  · have e' := e
    simp only [Value.slice.injEq, Option.some.injEq, Addr.mk.injEq, and_true] at e'
    obtain ⟨e1, e2, e3⟩ := e'
    subst e1 e2 e3
    refine ⟨h2.frozenAt k, _, rfl, ?_⟩
    rw [h2.cellAt k (by omega)]
    simp [List.getElem?_map, List.getElem?_eq_getElem hk, List.getD_eq_getElem?_getD]

/-- One of the call's own: nil, or the head of a block. -/
theorem Own.open {w : World} {B : Nat} {v : Value} {xs : List Int} (h : Own w B v xs) : ∃ a cap n, v = .slice a n cap ∧ Hid (xs.length = n) ∧ n ≤ cap ∧ cap ≤ 9223372036854775807 ∧
    ∀ k, k < n → ∃ g, a = some ⟨g, 0, none⟩ ∧ B ≤ g ∧ g < w.heap.size := by
  obtain ⟨hb, h2⟩ := h
  rcases h2.2 with ⟨rfl, hn⟩ | ⟨g, cap, cur, rfl, hB, hg, hc, hm, hs, ht⟩
  · exact ⟨none, 0, 0, rfl, hn, by omega, by omega, fun k hk => by omega⟩
  · unfold maxLen at hm
    exact ⟨_, cap, _, rfl, Lib.hid rfl, hc, by omega, fun k hk => ⟨g, rfl, hB, (h2.lt g rfl).2⟩⟩

theorem take_step {xs : List Int} {k : Nat} (h : k < xs.length) : xs.take (k + 1) = xs.take k ++ [xs.getD k 0] := by
  rw [List.take_succ_eq_append_getElem h]; simp [List.getD_eq_getElem?_getD, List.getElem?_eq_getElem h]

theorem drop_step {xs : List Int} {k : Nat} (h : k < xs.length) : xs.drop k = xs.getD k 0 :: xs.drop (k + 1) := by
  rw [List.drop_eq_getElem_cons h]; simp [List.getD_eq_getElem?_getD, List.getElem?_eq_getElem h]

theorem copy_step {xs : List Int} {k : Nat} (h : k < xs.length) : (xs.take k ++ List.replicate (xs.length - k) 0).set k (xs.getD k 0) = xs.take (k + 1) ++ List.replicate (xs.length - (k + 1)) 0 := by
  apply List.ext_getElem?
  intro j
  rw [List.getElem?_set, take_step h]
  simp only [List.getElem?_append, List.length_take, List.length_append, List.length_cons, List.length_nil, List.getElem?_replicate, Nat.min_eq_left (Nat.le_of_lt h)]
  by_cases hj : j = k
  · subst hj; simp; omega
  · by_cases h2 : j < k
    · simp [Ne.symm hj, h2, show j < k + 1 by omega]
    · simp only [Ne.symm hj, if_false, h2, show ¬ j < k + 1 by omega]
      simp only [show (j - k < xs.length - k) = (j - (k + 1) < xs.length - (k + 1)) by apply propext; omega]

set_option maxHeartbeats 400000 in
theorem c_l_toIntS (v : Value) (xs : List Int) (w : World) (h : Rd w v xs) (hl : xs.length ≤ 1048576) :
    Calls Tryd.prog 11 #[v] w fun e w' => ∃ v', e = .returned v' ∧ Own w' w.heap.size v' xs ∧ Below w.heap.size w w' := by
  obtain ⟨a, cap, n, rfl, HN, hm, hc, hcm, hcell⟩ := h.open
  rw [HN.out] at hl
  go_enter Tryd.func11, Tryd.ntmps11
  go_wp2_with (at_make; refine wpList_mk _ rfl _ _ rfl n rfl rfl (by omega) ?_; intro w0 hown0 hb0)
  go_loopw [4] (fun i wr => ∃ k : Nat, k ≤ n ∧ i = .int .i64 k ∧ Own wr w.heap.size (.slice (some ⟨w.heap.size, 0, none⟩) n n) (xs.take k ++ List.replicate (n - k) 0) ∧ Below w.heap.size w wr) (fun i _ => n - (intOf i).toNat)
  case atStart => exact ⟨0, by omega, rfl, by simpa using hown0, hb0⟩
  case round =>
    obtain ⟨k, hk, rfl, hown, hb⟩ := hrel
    by_cases hlt : k < n
    · obtain ⟨b, off, rfl, hbl, x, hx, hbd, hcx⟩ := hcell k hlt
      have hcr : wr.cell? ⟨b, off + k, none⟩ = some (.int .i64 x) := (hb.cell (by exact hbl)).trans hcx
      obtain ⟨hfz, y, -, hold⟩ := hown.at (k := k) (by rw [List.length_append, List.length_take, List.length_replicate, HN.out]; omega)
      have hst := (hown.stored (by rw [List.length_append, List.length_take, List.length_replicate, HN.out]; omega) k x hbd).1
      rw [← hx.out] at hst
      have hst2 : Own (wr.setCell ⟨w.heap.size, k, none⟩ (.int .i64 (xs.getD k 0))) w.heap.size (.slice (some ⟨w.heap.size, 0, none⟩) n n) (xs.take (k + 1) ++ List.replicate (n - (k + 1)) 0) := by
        rw [← HN.out, ← copy_step (by rw [HN.out]; exact hlt), HN.out]; exact hst
      rw [hx.out] at hst2
      clear hst hown
      go_wp2
      go_roundw
      case rel => exact ⟨k + 1, by omega, by go_num, hst2, hb.setCell (Nat.le_refl _) _⟩
      case measure => simp [intOf]; omega
    · go_wp2
      go_ret
      have hk' : k = n := by omega
      refine ⟨_, rfl, ?_, hb⟩
      subst hk'
      have hx : xs.take k ++ List.replicate (k - k) 0 = xs := by rw [← HN.out]; simp
      rw [hx] at hown
      exact hown

theorem take_eq_step {xs ys : List Int} {k : Nat} (h : xs.take k = ys.take k) (hx : k < xs.length) (hy : k < ys.length) (he : xs.getD k 0 = ys.getD k 0) : xs.take (k + 1) = ys.take (k + 1) := by
  rw [take_step hx, take_step hy, h, he]

theorem grown_trans {a b c : World} {row : Option Nat} (h : a.grownBy b row) (k : b.grownBy c row) : a.grownBy c row :=
  ⟨k.os.trans h.os, k.tape.trans h.tape, k.output.trans h.output, Nat.le_trans h.size k.size, fun i hi hr => (k.block i (Nat.lt_of_lt_of_le hi h.size) hr).trans (h.block i hi hr)⟩

set_option maxHeartbeats 400000 in
theorem c_l_eqIntS (v u : Value) (xs ys : List Int) (w : World) (h : Rd w v xs) (g : Rd w u ys) :
    Calls Tryd.prog 13 #[v, u] w fun e w' => e = .returned (.bool (decide (xs = ys))) ∧ Below w.heap.size w w' := by
  obtain ⟨a, cap, n, rfl, HN, hm, hc, hcm, hcell⟩ := h.open
  obtain ⟨a', cap', n', rfl, HN', hm', hc', hcm', hcell'⟩ := g.open
  by_cases hne : n = n'
  · subst hne
    go_enter Tryd.func13, Tryd.ntmps13
    go_wp2
    go_loopw [5] (fun i wr => ∃ k : Nat, k ≤ n ∧ i = .int .i64 k ∧ Hid (xs.take k = ys.take k) ∧ Below w.heap.size w wr) (fun i _ => n - (intOf i).toNat)
    case atStart => exact ⟨0, by omega, rfl, by simp [Hid], Below.refl _ _⟩
    case round =>
      obtain ⟨k, hk, rfl, hq, hb⟩ := hrel
      by_cases hlt : k < n
      · obtain ⟨b, off, rfl, hbl, x, hx, hbd, hcx⟩ := hcell k hlt
        obtain ⟨b', off', rfl, hbl', y, hy, hbd', hcy⟩ := hcell' k hlt
        have hcr : wr.cell? ⟨b, off + k, none⟩ = some (.int .i64 x) := (hb.cell (by exact hbl)).trans hcx
        have hcr' : wr.cell? ⟨b', off' + k, none⟩ = some (.int .i64 y) := (hb.cell (by exact hbl')).trans hcy
        clear hcx hcy hcell hcell'
        have hi : (k : Int) < n := by omega
        by_cases hxy : x = y
        · have hq2 : Hid (xs.take (k + 1) = ys.take (k + 1)) := take_eq_step hq.out (by rw [HN.out]; exact hlt) (by rw [HN'.out]; exact hlt) (by rw [hx.out, hy.out, hxy])
          have hbe : (x != y) = false := by simp [hxy]
          clear hq hx hy
          have HX := Lib.hid hxy
          clear hxy
          go_wp2
          go_quiet (fail)
          go_wp2
          go_roundw
          case rel => exact ⟨k + 1, by omega, by go_num, hq2, below_dN hb _⟩
          case measure => simp [intOf]; omega
        · have hne : xs ≠ ys := fun e => hxy (by rw [← hx.out, ← hy.out, e])
          have hbe : (x != y) = true := by simp [hxy]
          have hfin := Lib.hid (decide_eq_false hne)
          clear hq hx hy hne
          have HX := Lib.hid hxy
          clear hxy
          go_wp2
          go_quiet (fail)
          go_wp2
          go_ret
          exact ⟨ret_b hfin.out.symm, below_dN hb _⟩
      · have hfin : Hid (xs = ys) := by
          have e := hq.out
          rwa [List.take_of_length_le (by rw [HN.out]; omega), List.take_of_length_le (by rw [HN'.out]; omega)] at e
        clear hq
        go_wp2
        go_ret
        exact ⟨ret_b (decide_eq_true hfin.out).symm, hb⟩
  · have hnn : ((n : Int) != (n' : Int)) = true := by simp; omega
    have hfin : Hid (decide (xs = ys) = false) := decide_eq_false fun e => hne (by rw [← HN.out, ← HN'.out, e])
    clear hne
    go_enter Tryd.func13, Tryd.ntmps13
    go_wp2
    go_ret
    exact ⟨ret_b hfin.out.symm, Below.refl _ _⟩

/-- k, k + 1, .. : what a filling leaves. -/
def upFrom (k : Int) : Nat → List Int
  | 0 => []
  | n + 1 => k :: upFrom (k + 1) n

theorem upFrom_length (k : Int) (n : Nat) : (upFrom k n).length = n := by
  induction n generalizing k with
  | zero => rfl
  | succ n ih => simp [upFrom, ih]

theorem upFrom_getD (k : Int) (n j : Nat) (h : j < n) : (upFrom k n).getD j 0 = k + j := by
  induction n generalizing k j with
  | zero => omega
  | succ n ih =>
    cases j with
    | zero => simp [upFrom]
    | succ j =>
      have := ih (k + 1) j (by omega)
      simp only [upFrom, List.getD_cons_succ, this]
      omega

theorem mark_step {xs : List Int} {k j : Nat} (h : j < xs.length) : (upFrom k j ++ xs.drop j).set j ((k : Int) + j) = upFrom k (j + 1) ++ xs.drop (j + 1) := by
  apply List.ext_getElem?
  intro i
  rw [List.getElem?_set]
  simp only [List.getElem?_append, upFrom_length, List.length_append, List.length_drop, List.getElem?_drop]
  by_cases hi : j = i
  · subst hi
    have := upFrom_getD k (j + 1) j (by omega)
    rw [List.getD_eq_getElem?_getD] at this
    have h2 : (upFrom (k : Int) (j + 1))[j]? = some ((upFrom (k : Int) (j + 1))[j]'(by rw [upFrom_length]; omega)) := List.getElem?_eq_getElem _
    rw [h2] at this ⊢
    simp at this ⊢
    exact ⟨by omega, this.symm⟩
  · by_cases h2 : i < j
    · have e1 : (upFrom (k : Int) j)[i]? = some ((k : Int) + i) := by
        have := upFrom_getD k j i h2
        rw [List.getD_eq_getElem?_getD, List.getElem?_eq_getElem (by rw [upFrom_length]; exact h2)] at this
        rw [List.getElem?_eq_getElem (by rw [upFrom_length]; exact h2)]
        simpa using this
      have e2 : (upFrom (k : Int) (j + 1))[i]? = some ((k : Int) + i) := by
        have := upFrom_getD k (j + 1) i (by omega)
        rw [List.getD_eq_getElem?_getD, List.getElem?_eq_getElem (by rw [upFrom_length]; omega)] at this
        rw [List.getElem?_eq_getElem (by rw [upFrom_length]; omega)]
        simpa using this
      simp [hi, h2, show i < j + 1 by omega, e1, e2]
    · simp only [hi, if_false, h2, show ¬ i < j + 1 by omega]
      congr 1
      omega

set_option maxHeartbeats 400000 in
theorem c_l_markIntS (v : Value) (xs : List Int) (B : Nat) (m : Nat) (w : World) (h : Own w B v xs) (hl : xs.length ≤ 1048576) (hk : m ≤ 4000000) :
    Calls Tryd.prog 24 #[v, .int .i64 m] w fun e w' => e = .returned (.int .i64 (m + xs.length)) ∧ Own w' B v (upFrom m xs.length) ∧ w.grownBy w' v.ownBlock := by
  obtain ⟨a, cap, n, rfl, HN, hc, hcm, hcell⟩ := h.open
  rw [HN.out] at hl
  have hst : Own w B (.slice a n cap) (upFrom m 0 ++ xs.drop 0) := by simpa [upFrom] using h
  clear h
  go_enter Tryd.func24, Tryd.ntmps24
  go_wp2
  go_loopw [1, 5] (fun q i wr => ∃ k : Nat, k ≤ n ∧ i = .int .i64 k ∧ q = .int .i64 ((m : Int) + k) ∧ Own wr B (.slice a n cap) (upFrom m k ++ xs.drop k) ∧ w.grownBy wr (Value.slice a n cap).ownBlock) (fun _ i _ => n - (intOf i).toNat)
  case atStart => exact ⟨0, by omega, rfl, by simp, hst, ⟨rfl, rfl, rfl, Nat.le_refl _, fun _ _ _ => rfl⟩⟩
  case round =>
    obtain ⟨k, hk, rfl, rfl, hown, hg⟩ := hrel
    by_cases hlt : k < n
    · obtain ⟨g, rfl, hbg, hgl⟩ := hcell k hlt
      have hlen : (upFrom m k ++ xs.drop k).length = n := by rw [List.length_append, upFrom_length, List.length_drop, HN.out]; omega
      obtain ⟨hfz, y, -, hold⟩ := hown.at (k := k) (by rw [hlen]; exact hlt)
      have hst2 := hown.stored hlen.symm k ((m : Int) + k) (by unfold bd; omega)
      rw [mark_step (by rw [HN.out]; exact hlt)] at hst2
      clear hown hlen hcell hst
      obtain ⟨hs1, hs2⟩ := hst2
      go_wp2
      go_roundw
      case rel => exact ⟨k + 1, by omega, by go_num, by go_num, hs1, grown_trans hg hs2⟩
      case measure => simp [intOf]; omega
    · go_wp2
      go_ret
      have hk' : k = n := by omega
      subst hk'
      refine ⟨ret_i (by rw [HN.out]), ?_, hg⟩
      rw [HN.out]
      have : upFrom m k ++ xs.drop k = upFrom m k := by rw [← HN.out]; simp
      rw [this] at hown
      exact hown

set_option maxHeartbeats 400000 in
theorem c_l_heldIntS (v : Value) (N : Nat) (m : Nat) (w : World) (h : Rd w v (upFrom m N)) (hl : N ≤ 1048576) (hk : m ≤ 4000000) :
    Calls Tryd.prog 25 #[v, .int .i64 m] w fun e w' => e = .returned (.int .i64 (m + N)) ∧ Below w.heap.size w w' := by
  obtain ⟨a, cap, n, rfl, HN, hm, hc, hcm, hcell⟩ := h.open
  obtain rfl : N = n := by rw [← HN.out, upFrom_length]
  go_enter Tryd.func25, Tryd.ntmps25
  go_wp2
  go_loopw [1, 5] (fun q i wr => ∃ k : Nat, k ≤ N ∧ i = .int .i64 k ∧ q = .int .i64 ((m : Int) + k) ∧ Below w.heap.size w wr) (fun _ i _ => N - (intOf i).toNat)
  case atStart => exact ⟨0, by omega, rfl, by simp, Below.refl _ _⟩
  case round =>
    obtain ⟨k, hk, rfl, rfl, hb⟩ := hrel
    by_cases hlt : k < N
    · obtain ⟨b, off, rfl, hbl, x, hx, hbd, hcx⟩ := hcell k hlt
      have hx' := hx.out
      rw [upFrom_getD _ _ _ hlt] at hx'
      subst hx'
      have hcr : wr.cell? ⟨b, off + k, none⟩ = some (.int .i64 ((m : Int) + k)) := (hb.cell (by exact hbl)).trans hcx
      clear hcx hcell hx
      go_wp2
      go_roundw
      case rel => exact ⟨k + 1, by omega, by go_num, by go_num, hb⟩
      case measure => simp [intOf]; omega
    · go_wp2
      go_ret
      have hk' : k = N := by omega
      subst hk'
      exact ⟨rfl, hb⟩

end Go.Proofs.YtjogaoocjcofdaaDoor
