/- The radices of the laws. -/
import Derived.Test.YtehlkoogpgcipaaCur
import Derived.Test.YtehlkoogpgcipaaNeg
namespace Go.Proofs.Ytehlkoogpgcipaa
open Go.RowKit

theorem Cur.kept {w w' : World} {B g : Nat} {a : Option Addr} {n cap : Nat} {row : Option Nat} (h : Cur w B g a n cap) (hg : w.grownBy w' row) (hne : row ≠ some g) (hr : ∀ k, row = some k → B ≤ k) : Cur w' B g a n cap := by
  obtain ⟨hR, hBg, hlt, hc0, ⟨k, hk, hc1⟩, ⟨hh, hc2⟩, hf1, hf2⟩ := h
  have hb := hg.block g hlt (Ne.symm hne)
  have hc : ∀ j, w'.cell? ⟨g, j, none⟩ = w.cell? ⟨g, j, none⟩ := fun j => World.cell?_of_block (w := w) hb
  have hf : ∀ j, w'.frozen? ⟨g, j, none⟩ = w.frozen? ⟨g, j, none⟩ := fun j => World.frozen?_of_block (w := w) hb
  exact ⟨hR.grown hg hr, hBg, Nat.lt_of_lt_of_le hlt hg.size, (hc 0).trans hc0, ⟨k, hk, (hc 1).trans hc1⟩, ⟨hh, (hc 2).trans hc2⟩, (hf 1).trans hf1, (hf 2).trans hf2⟩
theorem grown_app {a b c : World} {g : Nat} {row : Option Nat} (h : a.grownBy b (some g)) (k : b.grownBy c row) (hr : ∀ j, row = some j → a.heap.size ≤ j) : a.grownBy c (some g) :=
  ⟨k.os.trans h.os, k.tape.trans h.tape, k.output.trans h.output, Nat.le_trans h.size k.size, fun i hi hne => (k.block i (Nat.lt_of_lt_of_le hi h.size) (fun e => by have := hr i e.symm; omega)).trans (h.block i hi hne)⟩

set_option maxHeartbeats 800000 in
theorem c_s_l07Draw (w : World) (B g : Nat) (a : Option Addr) (n cap : Nat) (h : Cur w B g a n cap) :
    Calls Try.prog 39 #[.pointer (some ⟨g, 0, none⟩)] w fun e w' => ∃ (v' : Value) (rs : List Int), e = .returned v' ∧ Own w' w.heap.size v' rs ∧ (1 ≤ rs.length ∧ rs.length ≤ 4) ∧ (∀ x ∈ rs, 2 ≤ x ∧ x ≤ 12) ∧ w.grownBy w' (some g) := by
  have hgw := h.2.2.1
  have HC := Lib.hid h
  clear h
  go_enter Try.func39, Try.ntmps39
  go_wp2_with fail
  refine (c_s_l01Below _ B g a n cap 4 (HC.out.below ((Below.refl _ _).alloc (Nat.le_refl _) _)) (by omega) (by omega)).mono ?_
  rintro e w1 ⟨x, rfl, hx0, hx1, hc1, hg1⟩
  obtain ⟨x, rfl⟩ := Int.eq_ofNat_of_zero_le hx0
  have hA : Below w.heap.size w (w.alloc (.cells #[] 3)) := (Below.refl _ _).alloc (Nat.le_refl _) _
  have hown0 : Own w1 w.heap.size (.slice (some ⟨w.heap.size, 0, none⟩) 0 0) [] := (Own.empty w w.heap.size (Nat.le_refl _)).kept hg1 (.inr (by show some w.heap.size ≠ some g; intro e; cases e; omega))
  have hgr1 : w.grownBy w1 (some g) := grown_trans (grown_of hA) hg1
  go_wp2
  go_loopw [3, 4] (fun v i wr => ∃ (k : Nat) (rs : List Int), i = .int .i64 k ∧ rs.length + k = 1 + x ∧ Own wr w.heap.size v rs ∧ Hid (∀ x ∈ rs, 2 ≤ x ∧ x ≤ 12) ∧ Cur wr B g a n cap ∧ w.grownBy wr (some g)) (fun _ i _ => (intOf i).toNat)
  case atStart => exact ⟨1 + x, [], by first | rfl | (congr 1; omega) | go_num, by simp, hown0, fun x hx => by simp at hx, hc1, hgr1⟩
  case round =>
    obtain ⟨k, rs, rfl, hlen, hown, hrs, hc, hgr⟩ := hrel
    have HC2 := Lib.hid hc
    have HG := Lib.hid hgr
    have HO := Lib.hid hown
    have hBg := hc.2.1
    clear hc hgr hown
    by_cases hlt : 0 < k
    · go_wp2_with fail
      refine (c_s_l01Below _ _ _ _ _ _ 11 HC2.out (by omega) (by omega)).mono ?_
      rintro e w2 ⟨y, rfl, hy0, hy1, hc2, hg2⟩
      have hgr2 := grown_trans HG.out hg2
      have hown2 : Own w2 w.heap.size _ rs := HO.out.kept hg2 (by
        cases hv : (Value.ownBlock _) with
        | none => exact .inl rfl
        | some j => exact .inr (by intro e; cases e; have := (HO.out.lt g hv).1; omega))
      have hs2 := hgr2.size
      have hln : Hid (rs.length < 17592186044415) := by show _ < _; omega
      go_wp2_with (at_builtin; refine wpList_app _ rfl _ _ rfl w.heap.size (w2.alloc (.cells #[.int .i64 (2 + y)] 3)) _ rs rfl (hown2.alloc _) (Below.refl _ _) (by simp; omega) ⟨w2.heap.size, 0, none⟩ (2 + y) rfl (by simp) (by unfold bd; omega) hln.out ?_; intro v' w3 hown3 _ hg3)
      go_roundw
      case rel =>
        have hgA : w2.grownBy (w2.alloc (.cells #[.int .i64 (2 + y)] 3)) none := grown_below ((Below.refl _ _).alloc (Nat.le_refl _) _)
        have hr3 : ∀ j, Value.ownBlock _ = some j → w.heap.size ≤ j := fun j hj => (hown2.lt j hj).1
        refine ⟨k - 1, rs ++ [2 + y], by go_num, by rw [List.length_append, List.length_singleton]; omega, hown3, ?_, ?_, ?_⟩
        · intro z hz
          rcases List.mem_append.1 hz with hz | hz
          · exact hrs.out z hz
          · simp at hz; omega
        · refine (hc2.below ((Below.refl _ _).alloc (Nat.le_refl _) _)).kept hg3 (fun e => by have := hr3 _ e; omega) (fun j e => by have := hr3 _ e; omega)
        · exact grown_app (grown_trans hgr2 (grown_of ((Below.refl _ _).alloc (Nat.le_refl _) _))) hg3 hr3
      case measure => simp [intOf]; omega
    · have hk0 : k = 0 := by omega
      subst hk0
      go_wp2
      go_ret
      exact ⟨_, rs, rfl, HO.out, by omega, hrs.out, HG.out⟩

theorem c_s_MakeRadices (w : World) (B : Nat) (a : Option Addr) (n cap m : Nat) (h : RdU w B a n cap) (hn : n ≤ 1048576) (hm : m ≤ 1000) :
    Calls Try.prog 13 #[.slice a n cap, .int .i64 m] w fun e w' => ∃ (v' : Value) (rs : List Int), e = .returned v' ∧ Own w' w.heap.size v' rs ∧ (1 ≤ rs.length ∧ rs.length ≤ 4) ∧ (∀ x ∈ rs, 2 ≤ x ∧ x ≤ 12) ∧ Below w.heap.size w w' := by
  have HR := Lib.hid h
  clear h
  go_enter Try.func13, Try.ntmps13
  go_wp2_with fail
  refine (c_s_l31New _ _ _ _ _ _ HR.out hn hm).mono ?_
  rintro e w1 ⟨rfl, hc1, hb1⟩
  go_wp2_with fail
  refine (c_s_l07Draw _ _ _ _ _ _ hc1).mono ?_
  rintro e w2 ⟨v, rs, rfl, ho, hl, hx, hg⟩
  go_wp2
  go_ret
  exact ⟨_, rs, rfl, ho.mono hb1.size, hl, hx, hb1.grown hg hb1.size (fun k e => by cases e; exact Nat.le_refl _)⟩

end Go.Proofs.Ytehlkoogpgcipaa
