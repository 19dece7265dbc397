/- Contracts: all numbers of a list lie in a range (slices.ContainsFunc over a closure), how a list of digits ends, sums of lists. -/
import Derived.Test.YtjogaoocjcofdaaDoorCopy
import Derived.Test.YtjogaoocjcofdaaDoorInt
namespace Go.Proofs.YtjogaoocjcofdaaDoor
open Go.RowKit

/-- All numbers of the list lie from lo to hi. -/
def allB (xs : List Int) (lo hi : Int) : Bool := xs.all fun x => inB x lo hi

theorem allB_no {xs : List Int} {lo hi : Int} {k : Nat} (hk : k < xs.length) (h : inB (xs.getD k 0) lo hi = false) : allB xs lo hi = false := by
  unfold allB
  rw [List.all_eq_false]
  exact ⟨_, getD_mem hk, by rw [h]; simp⟩

theorem allB_yes {xs : List Int} {lo hi : Int} (h : ∀ j, j < xs.length → inB (xs.getD j 0) lo hi = true) : allB xs lo hi = true := by
  unfold allB
  rw [List.all_eq_true]
  intro x hx
  obtain ⟨j, hj, rfl⟩ := List.getElem_of_mem hx
  have := h j hj
  rwa [List.getD_eq_getElem?_getD, List.getElem?_eq_getElem hj] at this

theorem allB_of {xs : List Int} {lo hi : Int} (h : allB xs lo hi = true) : ∀ x ∈ xs, lo ≤ x ∧ x ≤ hi := fun x hx => by
  unfold allB at h
  rw [List.all_eq_true] at h
  exact inB_yes (h x hx)

theorem all_up {P : Nat → Prop} {k : Nat} (h : ∀ j, j < k → P j) (hk : P k) : ∀ j, j < k + 1 → P j := fun j hj => by
  rcases Nat.lt_succ_iff_lt_or_eq.1 hj with h1 | h1
  · exact h j h1
  · rw [h1]; exact hk

set_option maxHeartbeats 800000 in
theorem c_IndexFunc_in (v : Value) (xs : List Int) (lo hi : Int) (p q : Nat) (w : World) (h : Rd w v xs)
    (hp : w.cell? ⟨p, 0, none⟩ = some (.int .i64 lo)) (hq : w.cell? ⟨q, 0, none⟩ = some (.int .i64 hi)) :
    Calls Tryd.prog 56 #[v, .func (.func 47) #[] #[.pointer (some ⟨p, 0, none⟩), .pointer (some ⟨q, 0, none⟩)]] w fun e w' =>
      ∃ i : Int, e = .returned (.int .i64 i) ∧ Hid (decide (0 ≤ i) = !allB xs lo hi) ∧ w = w' := by
  obtain ⟨a, cap, n, rfl, HN, hm, hc, hcm, hcell⟩ := h.open
  go_enter Tryd.func56, Tryd.ntmps56
  go_wp2
  go_loop [5, 8] (fun _ i => ∃ k : Nat, k ≤ n ∧ i = .int .i64 k ∧ Hid (∀ j, j < k → inB (xs.getD j 0) lo hi = true)) (fun _ i => n - (intOf i).toNat)
  case atStart => exact ⟨0, by omega, rfl, fun j hj => by omega⟩
  case round =>
    obtain ⟨k, hk, rfl, hr⟩ := hrel
    by_cases hlt : k < n
    · obtain ⟨b, off, rfl, hbl, x, hx, hbd, hcx⟩ := hcell k hlt
      cases e1 : inB x lo hi
      · have hfin : Hid (allB xs lo hi = false) := allB_no (k := k) (by rw [HN.out]; exact hlt) (by rw [hx.out]; exact e1)
        clear hr hx hcell
        go_wp2_with (first | (go_at_call 30; refine (c_i_within _ _ _ _).mono ?_; rintro e w' ⟨rfl, rfl⟩) | go_in)
        go_ret
        exact ⟨_, rfl, by rw [hfin.out]; show decide _ = true; simp, rfl⟩
      · have hr2 : Hid (∀ j, j < k + 1 → inB (xs.getD j 0) lo hi = true) := all_up hr.out (by rw [hx.out]; exact e1)
        clear hr hx hcell
        go_wp2_with (first | (go_at_call 30; refine (c_i_within _ _ _ _).mono ?_; rintro e w' ⟨rfl, rfl⟩) | go_in)
        go_round
        case rel => exact ⟨k + 1, by omega, by go_num, hr2⟩
        case measure => simp [intOf]; omega
    · have hfin : Hid (allB xs lo hi = true) := allB_yes fun j hj => hr.out j (by rw [HN.out] at hj; omega)
      clear hr hcell
      go_wp2
      go_ret
      exact ⟨_, rfl, by rw [hfin.out]; rfl, rfl⟩

set_option maxHeartbeats 800000 in
theorem c_i_allWithin (v : Value) (xs : List Int) (lo hi : Int) (w : World) (h : Rd w v xs) :
    Calls Tryd.prog 31 #[v, .int .i64 lo, .int .i64 hi] w fun e w' => e = .returned (.bool (allB xs lo hi)) ∧ Below w.heap.size w w' := by
  have hmf : ∀ (fn : Fn) (first cap : Array Value) (w : World), (Instr.makeFunc fn first cap).run Tryd.prog w = .ok (.func fn first cap) w := fun _ _ _ _ => rfl
  have hb2 : Below w.heap.size w ((w.alloc (.cells #[.int .i64 lo] 3)).alloc (.cells #[.int .i64 hi] 3)) := ((Below.refl _ _).alloc (Nat.le_refl _) _).alloc (by simp) _
  have h2 : Rd ((w.alloc (.cells #[.int .i64 lo] 3)).alloc (.cells #[.int .i64 hi] 3)) v xs := h.below hb2
  have hp : ((w.alloc (.cells #[.int .i64 lo] 3)).alloc (.cells #[.int .i64 hi] 3)).cell? ⟨w.heap.size, 0, none⟩ = some (.int .i64 lo) := by
    rw [World.cell?_alloc_past _ _ _ (by simp), World.cell?_alloc_at _ _ _ _ rfl]; rfl
  have hq : ((w.alloc (.cells #[.int .i64 lo] 3)).alloc (.cells #[.int .i64 hi] 3)).cell? ⟨w.heap.size + 1, 0, none⟩ = some (.int .i64 hi) := by
    rw [World.cell?_alloc_at _ _ _ _ (by simp)]; rfl
  have H2 := Lib.hid h2
  have HP := Lib.hid hp
  have HQ := Lib.hid hq
  clear h2 hp hq
  go_enter Tryd.func31, Tryd.ntmps31
  go_wp2_with (first | (go_at_call 56; refine (c_IndexFunc_in _ xs lo hi _ _ _ H2.out HP.out HQ.out).mono ?_; rintro e w' ⟨i, rfl, hi, rfl⟩) | go_in)
  go_ret
  exact ⟨ret_b (by rw [hi.out]; simp), hb2⟩

end Go.Proofs.YtjogaoocjcofdaaDoor
