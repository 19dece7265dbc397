/- The reference's turned list. -/
import Derived.Test.YtjogaoocjcofdaaDoorCopy
namespace Go.Proofs.YtjogaoocjcofdaaDoor
open Go.RowKit

set_option maxHeartbeats 400000 in
theorem c_s_l02Turn (v : Value) (xs : List Int) (w : World) (h : Rd w v xs) (hl : xs.length ≤ 1048576) :
    Calls Tryd.prog 28 #[v] w fun e w' => ∃ v', e = .returned v' ∧ Own w' w.heap.size v' xs.reverse ∧ Below w.heap.size w w' := by
  obtain ⟨a, cap, n, rfl, HN, hm, hc, hcm, hcell⟩ := h.open
  have hn : n ≤ 1048576 := by rw [← HN.out]; exact hl
  clear hl h
  go_enter Tryd.func28, Tryd.ntmps28
  go_wp2
  go_loopw [3, 4] (fun v i wr => ∃ k : Nat, k ≤ n ∧ i = .int .i64 ((k : Int) - 1) ∧ Own wr w.heap.size v (xs.drop k).reverse ∧ Below w.heap.size w wr) (fun _ i _ => (intOf i + 1).toNat)
  case atStart => exact ⟨n, by omega, rfl, by rw [List.drop_eq_nil_of_le (by rw [HN.out]; omega)]; exact Own.empty _ _ (Nat.le_refl _), (Below.refl _ _).alloc (Nat.le_refl _) _⟩
  case round =>
    obtain ⟨k, hk, rfl, hown, hb⟩ := hrel
    by_cases hlt : 0 < k
    · obtain ⟨g, off, rfl, hbl, x, hx, hbd, hcx⟩ := hcell (k - 1) (by omega)
      have hcr := (hb.cell (by exact hbl)).trans hcx
      have hst : Hid ((xs.drop k).reverse ++ [x] = (xs.drop (k - 1)).reverse) := by
        have := drop_step (xs := xs) (k := k - 1) (by rw [HN.out]; omega)
        rw [hx.out, show k - 1 + 1 = k from by omega] at this
        rw [Hid, this, List.reverse_cons]
      have hlen : (xs.drop k).reverse.length ≤ 1048576 := by rw [List.length_reverse, List.length_drop, HN.out]; omega
      have hix : ((k : Int) - 1).toNat = k - 1 := by omega
      clear hcell hcx hx
      go_wp2_with (at_builtin; refine wpList_app _ rfl _ _ rfl w.heap.size w _ (xs.drop k).reverse rfl (hown.alloc _) (hb.alloc hb.size _) (Nat.le_refl _) ⟨wr.heap.size, 0, none⟩ x rfl (by simp) hbd (by omega) ?_; intro v' w1 hown1 hb1 _; rw [hst.out] at hown1)
      go_roundw
      case rel => exact ⟨k - 1, by omega, by go_num, hown1, hb1⟩
      case measure => simp [intOf]; omega
    · have hk0 : k = 0 := by omega
      subst hk0
      clear hcell
      go_wp2
      go_ret
      exact ⟨_, rfl, by simpa using hown, hb⟩

end Go.Proofs.YtjogaoocjcofdaaDoor
