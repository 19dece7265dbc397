/- Contracts of FormatMixed, the program's and the reference's. -/
import Derived.Test.YtjogaoocjcofdaaDoorFin
import Derived.Test.YtjogaoocjcofdaaDoorJon
import Derived.Test.YtjogaoocjcofdaaDoorTrn
import Derived.Test.YtjogaoocjcofdaaDoorAll
namespace Go.Proofs.YtjogaoocjcofdaaDoor
open Go.RowKit

/-- The text of mixed digits: the last one first, colons between. -/
def fxB (xs : List Int) : Bool := inB xs.length 1 10 && allB xs 0 59
def fxW (xs : List Int) : List ByteArray := xs.reverse.map inT
def fxT (xs : List Int) : ByteArray := if fxB xs then jnT (fxW xs) ⟨#[58]⟩ else ⟨#[]⟩
theorem lensT_le : ∀ l : List ByteArray, (∀ x ∈ l, x.size ≤ 21) → lensT l ≤ 21 * l.length := by
  intro l
  induction l with
  | nil => intro _; simp [lensT]
  | cons x l ih =>
    intro h
    have h1 := h x (List.mem_cons_self ..)
    have h2 := ih fun y hy => h y (List.mem_cons_of_mem _ hy)
    have h3 : lensT (x :: l) = x.size + lensT l := by simp [lensT]
    rw [h3, List.length_cons]; omega
theorem fxW_lens {xs : List Int} (h : xs.length ≤ 10) (hx : ∀ x ∈ xs, 0 ≤ x ∧ x ≤ 59) : (fxW xs).length + lensT (fxW xs) ≤ 1048576 := by
  have h1 := lensT_le (fxW xs) fun y hy => by
    obtain ⟨d, hd, rfl⟩ := List.mem_map.1 hy
    have := hx d (List.mem_reverse.1 hd)
    exact inT_len d (by omega) (by omega)
  have h2 : (fxW xs).length = xs.length := by simp [fxW]
  omega
theorem inT_bd {d : Int} (h : 0 ≤ d ∧ d ≤ 59) : bdS (inT d) := by
  have := inT_len d (by omega) (by omega)
  unfold bdS; omega

set_option maxHeartbeats 800000 in
theorem c_s_FormatMixed (v : Value) (xs : List Int) (w : World) (h : Rd w v xs) :
    Calls Tryd.prog 10 #[v] w fun e w' => e = .returned (.string (fxT xs)) ∧ Below w.heap.size w w' := by
  obtain ⟨a, cap, n, rfl, HN, hm, hc, hcm, hcell0⟩ := h.open
  have H := Lib.hid h
  clear h hcell0
  cases e1 : inB n 1 10
  · have hT : Hid (fxT xs = ⟨#[]⟩) := by have e := e1; rw [← HN.out] at e; simp [Hid, fxT, fxB, e]
    go_enter Tryd.func10, Tryd.ntmps10
    go_wp2_with (go_at_call 27; refine (c_s_l01In _ _ _ _).mono ?_; rintro e w' ⟨rfl, rfl⟩)
    go_ret
    exact ⟨ret_s hT.out.symm, Below.refl _ _⟩
  · have g1 := inB_yes e1
    have hl10 : Hid (xs.length ≤ 1048576) := by have := HN.out; show _ ≤ _; omega
    have E1 : Hid (inB xs.length 1 10 = true) := by rw [Hid, HN.out]; exact e1
    go_enter Tryd.func10, Tryd.ntmps10
    go_wp2_with fail
    refine (c_s_l01In _ _ _ _).mono ?_
    rintro e w' ⟨rfl, rfl⟩
    rw [e1]
    have hA : Below w.heap.size w (w.alloc (.cells #[] 9)) := (Below.refl _ _).alloc (Nat.le_refl _) _
    go_wp2_with fail
    refine (c_s_l02Turn _ xs _ (H.out.below hA) hl10.out).mono ?_
    rintro e w1 ⟨vr, rfl, hor, hb1⟩
    have hb01 := hA.trans (hb1.mono hA.size)
    obtain ⟨ar, capr, nr, rfl, HR, hcr, hcmr, hblk⟩ := hor.open
    obtain rfl : n = nr := by rw [← HR.out, List.length_reverse, HN.out]
    obtain ⟨gr, rfl, hgr1, hgr2⟩ := hblk 0 (by omega)
    have hsA : (w.alloc (.cells #[] 9)).heap.size = w.heap.size + 1 := Array.size_push _
    rw [hsA] at hgr1
    have how := (OwnS.empty w w.heap.size (Nat.le_refl _)).below hb1
    have hord := hor.rd
    clear hblk hor
    go_wp2
    go_loopw [3, 5, 14] (fun s _ i wr => ∃ k : Nat, k ≤ n ∧ i = .int .i64 k ∧ OwnS wr w.heap.size s ((xs.reverse.take k).map inT) ∧ Rd wr (.slice (some ⟨gr, 0, none⟩) n capr) xs.reverse ∧ s.ownBlock ≠ some gr ∧ gr < wr.heap.size ∧ Hid (∀ j, j < k → inB (xs.reverse.getD j 0) 0 59 = true) ∧ Below w.heap.size w wr) (fun _ _ i _ => n - (intOf i).toNat)
    case atStart => exact ⟨0, by omega, rfl, by simpa using how, hord, by (show some w.heap.size ≠ some gr); intro e; cases e; omega, hgr2, fun j hj => by omega, hb01⟩
    case round =>
      obtain ⟨k, hk, rfl, hown, hrd, hne, hgl, hq, hbr⟩ := hrel
      have hne' := Lib.hid hne
      clear hne
      by_cases hlt : k < n
      · obtain ⟨_, _, _, e3, HR', hm', hc', hcm', hcell⟩ := hrd.open
        cases e3
        obtain ⟨g, off, e4, hbl, x, hx, hbd, hcx⟩ := hcell k hlt
        cases e4
        rw [Nat.zero_add] at hcx
        cases e2 : inB x 0 59
        · have hT : Hid (fxT xs = ⟨#[]⟩) := by
            have hmem : x ∈ xs := by rw [← hx.out]; exact List.mem_reverse.1 (getD_mem (by rw [HR.out]; exact hlt))
            have : allB xs 0 59 = false := by
              unfold allB; rw [List.all_eq_false]; exact ⟨x, hmem, by rw [e2]; simp⟩
            simp [Hid, fxT, fxB, this]
          clear hcell hx hq
          go_wp2_with (go_at_call 27; refine (c_s_l01In _ _ _ _).mono ?_; rintro e w' ⟨rfl, rfl⟩; rw [e2])
          go_ret
          exact ⟨ret_s hT.out.symm, hbr⟩
        · have g2 := inB_yes e2
          have hst : Hid ((xs.reverse.take k).map inT ++ [inT x] = (xs.reverse.take (k + 1)).map inT) := by
            rw [Hid, take_step (by rw [HR.out]; exact hlt), hx.out, List.map_append]; rfl
          have hq2 : Hid (∀ j, j < k + 1 → inB (xs.reverse.getD j 0) 0 59 = true) := all_up hq.out (by rw [hx.out]; exact e2)
          have hbS := inT_bd g2
          have hln : Hid (((xs.reverse.take k).map inT).length < 8796093022207) := by show _ < _; rw [List.length_map, List.length_take]; omega
          have HRD := Lib.hid hrd
          clear hcell hx hq hrd
          go_wp2_with (first | (go_at_call 27; refine (c_s_l01In _ _ _ _).mono ?_; rintro e w' ⟨rfl, rfl⟩; rw [e2]) | (go_at_call 8; refine (c_s_FormatInt x (by omega) (by omega) _).mono ?_; rintro e w2 ⟨rfl, hb2⟩; have hbr2 := hbr.trans (hb2.mono hbr.size); have hown2 := hown.below hb2; have hrd2 := Lib.hid (HRD.out.below hb2)) | (at_builtin; refine wpList_appS2 _ rfl _ _ rfl w.heap.size w _ _ rfl (hown2.alloc _) (hbr2.alloc hbr2.size _) (Nat.le_refl _) ⟨w2.heap.size, 0, none⟩ (inT x) rfl (by simp) hbS hln.out ?_; intro v' w3 hown3 hb3 hg3 hat3; rw [hst.out] at hown3))
          go_roundw
          case rel =>
            have hs2 : (w2.alloc (.cells #[.string (inT x)] 9)).heap.size = w2.heap.size + 1 := Array.size_push _
            have hA2 : Below w2.heap.size w2 (w2.alloc (.cells #[.string (inT x)] 9)) := (Below.refl _ _).alloc (Nat.le_refl _) _
            have hgl2 := hb2.size
            refine ⟨k + 1, by omega, by go_num, hown3, (hrd2.out.below hA2).kept hg3 (.inr (Ne.symm hne'.out)), ?_, ?_, hq2, hb3⟩
            · rcases hat3 with e | e <;> rw [e]
              · exact hne'.out
              · intro e'; cases e'; omega
            · have := hg3.size; omega
          case measure => simp [intOf]; omega
      · have hall : allB xs 0 59 = true := by
          unfold allB
          rw [List.all_eq_true]
          intro x hx
          obtain ⟨j, hj, rfl⟩ := List.getElem_of_mem (List.mem_reverse.2 hx)
          have := hq.out j (by rw [HR.out] at hj; omega)
          rwa [List.getD_eq_getElem?_getD, List.getElem?_eq_getElem hj] at this
        have hT : Hid (fxT xs = jnT (fxW xs) ⟨#[58]⟩) := by
          unfold fxT fxB; rw [Hid, E1.out, hall]; rfl
        have hW : (xs.reverse.take k).map inT = fxW xs := by rw [List.take_of_length_le (by rw [HR.out]; omega)]; rfl
        rw [hW] at hown
        have hlw := Lib.hid (fxW_lens (xs := xs) (by have := HN.out; omega) (allB_of hall))
        clear hq hrd
        go_wp2_with fail
        refine (c_s_Join _ (fxW xs) ⟨#[58]⟩ _ hown.rd hlw.out (by decide)).mono ?_
        rintro e w' ⟨rfl, rfl⟩
        go_wp2
        go_ret
        exact ⟨ret_s hT.out.symm, hbr⟩

set_option maxHeartbeats 800000 in
theorem c_i_FormatMixed (v : Value) (xs : List Int) (w : World) (h : Rd w v xs) :
    Calls Tryd.prog 12 #[v] w fun e w' => e = .returned (.string (fxT xs)) ∧ Below w.heap.size w w' := by
  obtain ⟨a, cap, n, rfl, HN, hm, hc, hcm, hcell⟩ := h.open
  have H := Lib.hid h
  clear h
  cases e1 : inB n 1 10
  · have hT : Hid (fxT xs = ⟨#[]⟩) := by have e := e1; rw [← HN.out] at e; simp [Hid, fxT, fxB, e]
    clear hcell
    go_enter Tryd.func12, Tryd.ntmps12
    go_wp2_with (go_at_call 30; refine (c_i_within _ _ _ _).mono ?_; rintro e w' ⟨rfl, rfl⟩)
    go_ret
    exact ⟨ret_s hT.out.symm, Below.refl _ _⟩
  · have g1 := inB_yes e1
    cases e2 : allB xs 0 59
    · have hT : Hid (fxT xs = ⟨#[]⟩) := by simp [Hid, fxT, fxB, e2]
      clear hcell
      go_enter Tryd.func12, Tryd.ntmps12
      go_wp2_with (first | (go_at_call 30; refine (c_i_within _ _ _ _).mono ?_; rintro e w' ⟨rfl, rfl⟩) | (go_at_call 31; refine (c_i_allWithin _ xs _ _ _ H.out).mono ?_; rintro e w1 ⟨rfl, hb1⟩; rw [e2]))
      go_ret
      exact ⟨ret_s hT.out.symm, hb1⟩
    · have hr := Lib.hid (allB_of e2)
      have hT : Hid (fxT xs = jnT (fxW xs) ⟨#[58]⟩) := by
        have e := e1; rw [← HN.out] at e
        unfold fxT fxB; rw [Hid, e, e2]; rfl
      have hlw := Lib.hid (fxW_lens (xs := xs) (by have := HN.out; omega) (allB_of e2))
      go_enter Tryd.func12, Tryd.ntmps12
      go_wp2_with (first | (go_at_call 30; refine (c_i_within _ _ _ _).mono ?_; rintro e w' ⟨rfl, rfl⟩) | (go_at_call 31; refine (c_i_allWithin _ xs _ _ _ H.out).mono ?_; rintro e w1 ⟨rfl, hb1⟩; rw [e2]))
      go_loopw [3, 4] (fun s i wr => ∃ k : Nat, k ≤ n ∧ i = .int .i64 ((k : Int) - 1) ∧ OwnS wr w1.heap.size s (((xs.drop k).reverse).map inT) ∧ Below w1.heap.size w1 wr) (fun _ i _ => (intOf i + 1).toNat)
      case atStart => exact ⟨n, by omega, rfl, by rw [List.drop_eq_nil_of_le (by rw [HN.out]; omega)]; exact OwnS.nil _ _, Below.refl _ _⟩
      case round =>
        obtain ⟨k, hk, rfl, hown, hbr⟩ := hrel
        by_cases hlt : 0 < k
        · obtain ⟨q, rfl⟩ : ∃ q, k = q + 1 := ⟨k - 1, by omega⟩
          obtain ⟨g, off, rfl, hbl, x, hx, hbd, hcx⟩ := hcell q (by omega)
          have hcr := ((hb1.trans (hbr.mono hb1.size)).cell (by exact hbl)).trans hcx
          have g2 := hr.out x (by rw [← hx.out]; exact getD_mem (by rw [HN.out]; omega))
          obtain ⟨x, rfl⟩ := Int.eq_ofNat_of_zero_le g2.1
          have hst : Hid (((xs.drop (q + 1)).reverse).map inT ++ [inT x] = ((xs.drop q).reverse).map inT) := by
            rw [Hid, drop_step (xs := xs) (k := q) (by rw [HN.out]; omega), hx.out, List.reverse_cons, List.map_append]; rfl
          have hbS := inT_bd g2
          have hln : Hid ((((xs.drop (q + 1)).reverse).map inT).length < 8796093022207) := by have := HN.out; show _ < _; rw [List.length_map, List.length_reverse, List.length_drop]; omega
          have hki : (((q + 1 : Nat) : Int) - 1) = (q : Int) := by omega
          rw [hki]
          clear hcell hcx hx hki
          go_wp2_with (first | (go_at_call 9; refine (c_i_FormatInt_small x (by omega) _).mono ?_; rintro e w' ⟨rfl, rfl⟩) | (at_builtin; refine wpList_appS _ rfl _ _ rfl w1.heap.size w1 _ _ rfl (hown.alloc _) (hbr.alloc hbr.size _) (Nat.le_refl _) ⟨wr.heap.size, 0, none⟩ (inT x) rfl (by simp) hbS hln.out ?_; intro v' w3 hown3 hb3 hg3; rw [hst.out] at hown3))
          go_roundw
          case rel => exact ⟨q, by omega, by go_num, hown3, hb3⟩
          case measure => first | (simp [intOf]; done) | (simp [intOf]; omega)
        · have hk0 : k = 0 := by omega
          subst hk0
          have hW : ((xs.drop 0).reverse).map inT = fxW xs := rfl
          rw [hW] at hown
          have hbb := hb1.trans (hbr.mono hb1.size)
          clear hcell
          go_wp2_with fail
          refine (c_i_Join _ (fxW xs) ⟨#[58]⟩ _ hown.rd hlw.out (by decide)).mono ?_
          rintro e w5 ⟨rfl, hb5⟩
          go_wp2
          go_ret
          exact ⟨ret_s hT.out.symm, hbb.trans (hb5.mono hbb.size)⟩

end Go.Proofs.YtjogaoocjcofdaaDoor
