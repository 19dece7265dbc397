/- Contracts of PermutationAt, the program's and the reference's. -/
import Derived.Test.YtgkijiekfdeggaaRank
import Derived.Test.YtgkijiekfdeggaaApt
import Derived.Test.YtgkijiekfdeggaaShelf
import Derived.Lib.OwnBridge
namespace Go.Proofs.Ytgkijiekfdeggaa
open Go.RowKit
open Pl

/-- Items are picked by their indices, each one taken out of those that are left. -/
def pick : List Int → List Int → List Int
  | [], _ => []
  | d :: ds, left => left.getD d.toNat 0 :: pick ds (left.take d.toNat ++ left.drop (d.toNat + 1))
def upto (m : Nat) : List Int := (List.range m).map fun k => ((k : Nat) : Int)
/-- The permutation with that number, or nothing. -/
def paV (n m : Int) : List Int := pick (fdV n m).reverse (upto m.toNat)

theorem pick_step {D left out T : List Int} {k d : Nat} (hk : k < D.length) (hd : D.getD k 0 = (d : Int)) (h : out ++ pick ((D.take (k + 1)).reverse) left = T) :
    (out ++ [left.getD d 0]) ++ pick ((D.take k).reverse) (left.take d ++ left.drop (d + 1)) = T := by
  rw [take_step hk, hd, List.reverse_append] at h
  simpa [pick] using h
theorem pick_len : ∀ ds left, (pick ds left).length = ds.length := by
  intro ds
  induction ds with
  | nil => intro left; rfl
  | cons d ds ih => intro left; simp [pick, ih]
theorem upto_step (k : Nat) : upto k ++ [(k : Int)] = upto (k + 1) := by simp [upto, List.range_succ]
theorem upto_len (k : Nat) : (upto k).length = k := by simp [upto]
theorem cut_len {left : List Int} {d k : Nat} (hl : left.length = k + 1) (hd : d ≤ k) : (left.take d ++ left.drop (d + 1)).length = k := by
  rw [List.length_append, List.length_take, List.length_drop]; omega

theorem fdV_cases (n m : Int) : fdV n m = [] ∨ ∃ N M : Nat, n = N ∧ m = M ∧ 1 ≤ M ∧ M ≤ 8 ∧ fdV n m = fdL N M := by
  unfold fdV
  cases e : inB m 1 8 && inB n 0 (facV m - 1)
  · exact .inl rfl
  · rw [Bool.and_eq_true] at e
    have h1 := inB_yes e.1
    have h2 := inB_yes e.2
    exact .inr ⟨n.toNat, m.toNat, by omega, by omega, by omega, by omega, rfl⟩
theorem fdL_len (n m : Nat) : (fdL n m).length = m := by simp [fdL]
theorem fdL_get (n m k : Nat) (h : k < m) : ∃ d : Nat, (fdL n m).getD k 0 = (d : Int) ∧ d ≤ k :=
  ⟨n / facN k % (k + 1), by simp [fdL, List.getD_eq_getElem?_getD, List.getElem?_range h], by have := Nat.mod_lt (n / facN k) (show k + 1 > 0 by omega); omega⟩
theorem paV_len (n m : Int) : (paV n m).length ≤ 1048576 := by
  unfold paV; rw [pick_len, List.length_reverse]; exact fdV_len n m

/-- The two cuts of the items that are left, in the worlds of the statement that deletes one. -/
theorem pat_cutA {w : World} {B gl n cap d : Nat} {L : List Int} (h : Own w B (.slice (some ⟨gl, 0, none⟩) n cap) L) (hn : L.length = n) (hd : d ≤ n) :
    Rd ((w.alloc (.cells #[] 3)).drew) (.slice (some ⟨gl, 0, none⟩) d cap) (L.take d) := Rd.cutL ((h.alloc _).drew).rd hn d hd
theorem some_ne {a b : Nat} (h : a < b) : some a ≠ some b := by intro e; cases e; omega
theorem pat_kept {w w3 : World} {B gl n cap : Nat} {L : List Int} {o : Obj} (h : Own w B (.slice (some ⟨gl, 0, none⟩) n cap) L) (hg : (w.alloc o).drew.grownBy w3 (some w.heap.size)) : Own w3 B (.slice (some ⟨gl, 0, none⟩) n cap) L :=
  ((h.alloc o).drew).kept hg (.inr (some_ne (h.lt gl rfl).2))
theorem pat_cutB {w w3 : World} {B gl q cap d : Nat} {L : List Int} {o : Obj} (h : Own w B (.slice (some ⟨gl, 0, none⟩) (q + 1) cap) L) (hn : L.length = q + 1) (hd : d ≤ q) (hg : (w.alloc o).drew.grownBy w3 (some w.heap.size)) :
    Rd w3 (.slice (some ⟨gl, d + 1, none⟩) (q - d) (cap - (d + 1))) (L.drop (d + 1)) := by
  have := Rd.cutR (pat_kept h hg).rd hn (d + 1) (by omega)
  rwa [Nat.zero_add, Nat.add_sub_add_right] at this
theorem pat_cutB0 {w3 : World} {gl d : Nat} {L : List Int} (hn : L.length = d + 1) :
    Rd w3 (.slice (some ⟨gl, 0, none⟩) 0 0) (L.drop (d + 1)) := by
  rw [List.drop_eq_nil_of_le (by omega)]
  exact ⟨by simp, _, 0, rfl, by simp, by simp, fun h => by simp at h⟩
theorem pat_round {w2 w3 w4 : World} {B : Nat} {vo v3 v4 : Value} {X : List Int} {o : Obj} (hO : Own w2 B vo X) (hg3 : (w2.alloc o).drew.grownBy w3 (some w2.heap.size)) (hat3 : v3.ownBlock = some w2.heap.size ∨ v3.ownBlock = some (w2.alloc o).drew.heap.size)
    (hg4 : w3.grownBy w4 v3.ownBlock) (hat4 : v4.ownBlock = v3.ownBlock ∨ v4.ownBlock = some w3.heap.size) : Own w4 B vo X ∧ Apart v4 vo := by
  have hs : (w2.alloc o).drew.heap.size = w2.heap.size + 1 := Array.size_push _
  have hs3 := hg3.size
  rw [hs] at hat3 hs3
  cases hv : vo.ownBlock with
  | none => exact ⟨(((hO.alloc o).drew).kept hg3 (.inl hv)).kept hg4 (.inl hv), .inr (.inl hv)⟩
  | some k =>
    have hk := (hO.lt k hv).2
    have hne3 : vo.ownBlock ≠ v3.ownBlock := by
      rw [hv]; rcases hat3 with e | e <;> rw [e]
      · exact some_ne hk
      · exact some_ne (by omega)
    refine ⟨(((hO.alloc o).drew).kept hg3 (.inr (by rw [hv]; exact some_ne hk))).kept hg4 (.inr hne3), .inr (.inr ?_)⟩
    rcases hat4 with e | e <;> rw [e]
    · exact Ne.symm hne3
    · rw [hv]; exact Ne.symm (some_ne (by omega))

set_option maxHeartbeats 1600000 in
theorem c_s_PermutationAt (n m : Int) (w : World) :
    Calls Try.prog 37 #[.int .i64 n, .int .i64 m] w fun e w' => ∃ v', e = .returned v' ∧ Own w' w.heap.size v' (paV n m) ∧ Below w.heap.size w w' := by
  rcases fdV_cases n m with hD | ⟨N, M, rfl, rfl, hM1, hM8, hD⟩
  · have hV : Hid (paV n m = []) := by simp [Hid, paV, hD, pick]
    have HD := Lib.hid hD
    clear hD
    go_enter Try.func37, Try.ntmps37
    go_wp2_with fail
    refine (c_s_FactorialDigits _ _ _).mono ?_
    rintro e w1 ⟨vd, rfl, ho1, hb1⟩
    rw [HD.out] at ho1
    obtain ⟨a, cap, n', rfl, HN, -, -, -⟩ := ho1.open
    obtain rfl : 0 = n' := HN.out
    go_wp2
    go_ret
    exact ⟨_, rfl, by rw [hV.out]; exact Own.nil _ _, hb1⟩
  · obtain ⟨T, HT⟩ : ∃ T, Hid (paV N M = T) := ⟨_, rfl⟩
    have HD := Lib.hid hD
    have hT0 : Hid ([] ++ pick (((fdL N M).take M).reverse) (upto M) = T) := by
      rw [Hid, ← HT.out, paV, hD, List.take_of_length_le (by rw [fdL_len]; omega), Int.toNat_natCast]; rfl
    clear hD
    go_enter Try.func37, Try.ntmps37
    go_wp2_with fail
    refine (c_s_FactorialDigits _ _ _).mono ?_
    rintro e w1 ⟨vd, rfl, ho1, hb1⟩
    rw [HD.out] at ho1
    obtain ⟨a, cap, n', rfl, HN, hm, hc, hcm, hcell⟩ := ho1.rd.open
    have hn' : n' = M := by rw [← HN.out, fdL_len]
    subst hn'
    have hn0 : ((n' : Int) == 0) = false := by simp; omega
    go_wp2
    go_loopw [6, 7] (fun v i wr => ∃ k : Nat, k ≤ n' ∧ i = .int .i64 k ∧ Own wr w1.heap.size v (upto k) ∧ Below w1.heap.size w1 wr) (fun _ i _ => n' - (intOf i).toNat)
    case atStart => exact ⟨0, by omega, rfl, Own.empty _ _ (Nat.le_refl _), (Below.refl _ _).alloc (Nat.le_refl _) _⟩
    case round =>
      obtain ⟨k, hk, rfl, hown, hb⟩ := hrel
      by_cases hlt : k < n'
      · have hst := Lib.hid (upto_step k)
        have hlen : Hid ((upto k).length < 17592186044415) := by rw [Hid, upto_len]; omega
        clear hcell
        go_wp2_with (at_builtin; refine wpList_app _ rfl _ _ rfl w1.heap.size w1 _ _ rfl (hown.alloc _) (hb.alloc hb.size _) (Nat.le_refl _) ⟨wr.heap.size, 0, none⟩ (k : Int) rfl (by simp) (by unfold bd; omega) hlen.out ?_; intro v' w2 hown1 hb2 _)
        go_roundw
        case rel => exact ⟨k + 1, by omega, by go_num, by rw [← hst.out]; exact hown1, hb2⟩
        case measure => simp [intOf]; omega
      · have hkm : n' = k := by omega
        subst hkm
        go_wp2
        go_loopw [6, 8, 9, 10] (fun vl vo i _ wr => ∃ (k : Nat) (L O : List Int), k ≤ n' ∧ i = .int .i64 ((k : Int) - 1) ∧ Own wr w1.heap.size vl L ∧ Own wr w1.heap.size vo O ∧ Apart vl vo ∧ Hid (L.length = k) ∧ Hid (O.length + k = n') ∧ Hid (O ++ pick (((fdL N n').take k).reverse) L = T) ∧ Below w1.heap.size w1 wr) (fun _ _ i _ _ => (intOf i + 1).toNat)
        case atStart =>
          have hb' := hb.alloc hb.size (.cells #[] 3)
          exact ⟨n', upto n', [], by omega, rfl, hown.alloc _, Own.empty wr _ hb.size, .inr (.inr (by
            intro e
            have := (hown.lt wr.heap.size (by rw [e]; rfl)).2
            omega)), upto_len n', by simp [Hid], hT0, hb'⟩
        case round =>
          obtain ⟨k, L, O, hk, rfl, hownL, hownO, hap, HLk, HOk, HT2, hb⟩ := hrel
          by_cases hlt : 0 < k
          · obtain ⟨q, rfl⟩ : ∃ q, k = q + 1 := ⟨k - 1, by omega⟩
            obtain ⟨gb, off, rfl, hbl, x, hx, hbd, hcx⟩ := hcell q (by omega)
            obtain ⟨d, hd, hdq⟩ := fdL_get N n' q (by omega)
            rw [hx.out] at hd
            subst hd
            have hcr := (hb.cell (by exact hbl)).trans hcx
            have HS := Lib.hid (pick_step (by rw [fdL_len]; omega) hx.out HT2.out)
            obtain ⟨a', cap', n'', rfl, HL', hc', hcm', hL'⟩ := hownL.open
            obtain rfl : q + 1 = n'' := by rw [← HL'.out, HLk.out]
            obtain ⟨gl, rfl, hgl1, hgl2⟩ := hL' 0 (by omega)
            obtain ⟨hfz, z, hz, hcz⟩ := hownL.at (k := d) (by rw [HLk.out]; omega)
            have hzb : bd z := by rw [← hz]; exact hownL.1 _ (getD_mem (by rw [HLk.out]; omega))
            rw [hz] at HS
            have hlen : Hid (O.length < 17592186044415) := by have := HOk.out; show _ < _; omega
            have hki : (((q + 1 : Nat) : Int) - 1) = (q : Int) := by omega
            have hdl : (d : Int) < ((q + 1 : Nat) : Int) := by omega
            rw [hki]
            have hB0 := hb1.size
            clear hcx hz hx hcell hki HT2
            by_cases hcap : cap' = d + 1
            · obtain rfl : d = q := by omega
              subst hcap
              go_wp2_with (at_builtin; refine wpList_app2 _ rfl _ _ rfl w1.heap.size w1 _ _ rfl (hownO.alloc _) (hb.alloc hb.size _) (Nat.le_refl _) ⟨wr.heap.size, 0, none⟩ z rfl (by simp) hzb hlen.out ?_; intro vo' w2 hO2 hb2 hg2 hat2)
              have hL2 := (hownL.alloc (.cells #[.int .i64 z] 3)).kept hg2 hap.ne
              have hRA := pat_cutA hL2 HLk.out (show d ≤ d + 1 by omega)
              have hbA : Below w1.heap.size w1 (w2.alloc (.cells #[] 3)).drew := (hb2.alloc hb2.size _).drew
              have hOA := (Own.empty w2 w1.heap.size hb2.size).drew
              have hnA : Hid ((L.take d).length = d) := by rw [Hid, List.length_take, HLk.out]; omega
              have hnB : Hid ((L.drop (d + 1)).length = 0) := by rw [Hid, List.length_drop, HLk.out]; omega
              have hlA : Hid (([] : List Int).length + d < 17592186044415) := by show _ < _; simp; omega
              have hlB : Hid (([] ++ L.take d : List Int).length + 0 < 17592186044415) := by show _ < _; simp; omega
              have hi1 : (d : Int) ≤ (d : Int) + 1 := by omega
              have hw1 : IntKind.i64.wrap ((d : Int) + 1) = (d : Int) + 1 := by rw [IntKind.wrap_i64]; omega
              have hw2 : ((d : Int) + 1).toNat = d + 1 := by omega
              have hw3 : (0 : Int) ≤ (d : Int) + 1 := by omega
              have hi2 : (d : Int) + 1 ≤ ((d + 1 : Nat) : Int) := by omega
              have hi3 : (d : Int) + 1 ≤ ((d : Int) + 1) := by omega
              go_region_law (first | (refine step_appX2 _ rfl _ _ rfl w1.heap.size w1 _ [] rfl hOA hbA (Nat.le_refl _) gl 0 d (d + 1) (L.take d) rfl hRA hnA hlA.out ?_; intro v3 w3 hO3 hb3 hg3 hat3; have hRB := pat_cutB0 (w3 := w3) (gl := gl) HLk.out) | (refine step_appX2 _ rfl _ _ rfl w1.heap.size w1 _ ([] ++ L.take d) rfl hO3 hb3 (Nat.le_refl _) gl 0 0 0 (L.drop (d + 1)) rfl hRB hnB hlB.out ?_; intro v4 w4 hO4 hb4 hg4 hat4))
              have hfin := pat_round hO2 hg3 hat3 hg4 hat4
              go_wp2
              go_roundw
              case rel => exact ⟨d, L.take d ++ L.drop (d + 1), O ++ [z], by omega, by go_num, hO4, hfin.1, hfin.2, cut_len HLk.out hdq, by have := HOk.out; rw [Hid, List.length_append, List.length_singleton]; omega, HS, hb4⟩
              case measure => first | (simp [intOf]; done) | (simp [intOf]; omega)
            · have hdq2 : d ≤ q := hdq
              go_wp2_with (at_builtin; refine wpList_app2 _ rfl _ _ rfl w1.heap.size w1 _ _ rfl (hownO.alloc _) (hb.alloc hb.size _) (Nat.le_refl _) ⟨wr.heap.size, 0, none⟩ z rfl (by simp) hzb hlen.out ?_; intro vo' w2 hO2 hb2 hg2 hat2)
              have hL2 := (hownL.alloc (.cells #[.int .i64 z] 3)).kept hg2 hap.ne
              have hRA := pat_cutA hL2 HLk.out (show d ≤ q + 1 by omega)
              have hbA : Below w1.heap.size w1 (w2.alloc (.cells #[] 3)).drew := (hb2.alloc hb2.size _).drew
              have hOA := (Own.empty w2 w1.heap.size hb2.size).drew
              have hnA : Hid ((L.take d).length = d) := by rw [Hid, List.length_take, HLk.out]; omega
              have hnB : Hid ((L.drop (d + 1)).length = (q - d)) := by rw [Hid, List.length_drop, HLk.out]; omega
              have hlA : Hid (([] : List Int).length + d < 17592186044415) := by show _ < _; simp; omega
              have hlB : Hid (([] ++ L.take d : List Int).length + (q - d) < 17592186044415) := by show _ < _; simp; omega
              have hi1 : (d : Int) ≤ (cap' : Int) := by omega
              have hw1 : IntKind.i64.wrap ((d : Int) + 1) = (d : Int) + 1 := by rw [IntKind.wrap_i64]; omega
              have hw2 : ((d : Int) + 1).toNat = d + 1 := by omega
              have hw3 : (0 : Int) ≤ (d : Int) + 1 := by omega
              have hi2 : (d : Int) + 1 ≤ (cap' : Int) := by omega
              have hi3 : (d : Int) + 1 ≤ ((q : Int) + 1) := by omega
              go_region_law (first | (refine step_appX2 _ rfl _ _ rfl w1.heap.size w1 _ [] rfl hOA hbA (Nat.le_refl _) gl 0 d cap' (L.take d) rfl hRA hnA hlA.out ?_; intro v3 w3 hO3 hb3 hg3 hat3; have hRB := pat_cutB hL2 HLk.out hdq hg3) | (refine step_appX2 _ rfl _ _ rfl w1.heap.size w1 _ ([] ++ L.take d) rfl hO3 hb3 (Nat.le_refl _) gl (d + 1) (q - d) (cap' - (d + 1)) (L.drop (d + 1)) rfl hRB hnB hlB.out ?_; intro v4 w4 hO4 hb4 hg4 hat4))
              have hfin := pat_round hO2 hg3 hat3 hg4 hat4
              go_wp2
              go_roundw
              case rel => exact ⟨q, L.take d ++ L.drop (d + 1), O ++ [z], by omega, by go_num, hO4, hfin.1, hfin.2, cut_len HLk.out hdq, by have := HOk.out; rw [Hid, List.length_append, List.length_singleton]; omega, HS, hb4⟩
              case measure => first | (simp [intOf]; done) | (simp [intOf]; omega)
          · have hk0 : k = 0 := by omega
            subst hk0
            clear hcell
            have hfin : Hid (O = T) := by have := HT2.out; rw [Hid]; simpa [pick] using this
            go_wp2
            go_ret
            exact ⟨_, rfl, by rw [hfin.out, ← HT.out] at hownO; exact hownO.mono hb1.size, hb1.trans (hb.mono hb1.size)⟩

theorem c_i_FactorialDigits_nil (n m : Int) (w : World) (h : fdV n m = []) :
    Calls Try.prog 20 #[.int .i64 n, .int .i64 m] w fun e w' => e = .returned (.slice none 0 0) ∧ w = w' := by
  cases e1 : inB m 1 8
  · clear h
    go_enter Try.func20, Try.ntmps20
    go_wp2_with (go_at_call 42; refine (c_i_within _ _ _ _).mono ?_; rintro e w' ⟨rfl, rfl⟩)
    go_ret
    exact ⟨rfl, rfl⟩
  · have g1 := inB_yes e1
    obtain ⟨m, rfl⟩ := Int.eq_ofNat_of_zero_le (show 0 ≤ m by omega)
    have hfv : facV (m : Int) = fac m := by
      have : inB (m : Int) 0 12 = true := inB_mk (by omega)
      simp [facV, this]
    have HFv := Lib.hid hfv
    have b0 := fac_pos m
    have b1 := fac_le m (by omega)
    cases e2 : inB n 0 (fac m - 1)
    · clear h hfv
      go_enter Try.func20, Try.ntmps20
      go_wp2_with (first | (go_at_call 42; refine (c_i_within _ _ _ _).mono ?_; rintro e w' ⟨rfl, rfl⟩) | (go_at_call 17; refine (c_i_Factorial _ _).mono ?_; rintro e w' ⟨rfl, rfl⟩; rw [HFv.out]))
      go_ret
      exact ⟨rfl, rfl⟩
    · exfalso
      have hl : (fdV n m).length = m := by
        have : fdV n m = fdL n.toNat m := by simp [fdV, hfv, e1, e2]
        rw [this, fdL_len]
      rw [h] at hl
      simp at hl; omega

theorem grown_putRow {w : World} {g q : Nat} {d : Array Int} : w.grownBy (Sort.putRow (Value.int .i64) (Sort.ahead w q) g 0 d) (some g) :=
  ⟨rfl, rfl, rfl, by simp [Sort.putRow, Sort.mapBlock, Sort.ahead], fun k hk hne => by
    simp [Sort.putRow, Sort.mapBlock, Sort.ahead, Array.getElem?_modify, show g ≠ k by intro e; subst e; exact hne rfl]⟩
/-- slices.Delete of one item of one of the call's own. -/
theorem c_Delete (g n cap d : Nat) (xs : List Int) (B : Nat) (w0 w : World) (h : Own w B (.slice (some ⟨g, 0, none⟩) n cap) xs) (hn : xs.length = n) (hd : d < n) (hb : Below B w0 w) :
    Calls Try.prog 44 #[.slice (some ⟨g, 0, none⟩) n cap, .int .i64 d, .int .i64 ((d : Int) + 1)] w fun e w' =>
      e = .returned (.slice (some ⟨g, 0, none⟩) (n - 1) cap) ∧ Own w' B (.slice (some ⟨g, 0, none⟩) (n - 1) cap) (xs.take d ++ xs.drop (d + 1)) ∧ Below B w0 w' ∧ w.grownBy w' (some g) := by
  subst hn
  obtain ⟨g', cap', e, hbg, _, hnc, hcm, hlen, hH⟩ := Lib.holds_of_ownsRow h.2 (by simp)
  cases e
  rw [show (d : Int) + 1 = ((d + 1 : Nat) : Int) by omega]
  refine (Try.slices_Delete_int g 0 cap d (d + 1) xs w hH hnc (by unfold maxLen at hcm; omega) (by omega) (by omega)).mono ?_
  rintro e w' ⟨rfl, q, rfl⟩
  have hys : (xs.take d ++ xs.drop (d + 1) ++ List.replicate (d + 1 - d) 0).length = xs.length := by
    rw [List.length_append, List.length_append, List.length_take, List.length_drop, List.length_replicate]; omega
  have h1 := Lib.ownsRow_putRow (q := q) (k := xs.length - 1) h.2 hys (by omega)
  have ht : (xs.take d ++ xs.drop (d + 1) ++ List.replicate (d + 1 - d) (0 : Int)).take (xs.length - 1) = xs.take d ++ xs.drop (d + 1) := by
    have hl : (xs.take d ++ xs.drop (d + 1)).length = xs.length - 1 := by rw [List.length_append, List.length_take, List.length_drop]; omega
    rw [List.take_append_of_le_length (by omega), List.take_of_length_le (by omega)]
  rw [ht] at h1
  have hl : (xs.take d ++ xs.drop (d + 1)).length = xs.length - 1 := by rw [List.length_append, List.length_take, List.length_drop]; omega
  refine ⟨by rw [show d + 1 - d = 1 by omega], ⟨fun x hx => ?_, by rw [hl]; exact h1⟩, Lib.below_putRow hb hbg, grown_putRow⟩
  rcases List.mem_append.1 hx with hx | hx
  · exact h.1 x (List.mem_of_mem_take hx)
  · exact h.1 x (List.mem_of_mem_drop hx)

set_option maxHeartbeats 1600000 in
theorem c_i_PermutationAtN (n m : Int) (w : World) :
    Calls Try.prog 19 #[.int .i64 n, .int .i64 m] w fun e w' => ∃ v', e = .returned v' ∧ Own w' w.heap.size v' (paV n m) ∧ (paV n m = [] → v' = .slice none 0 0) ∧ Below w.heap.size w w' := by
  have hnil : ∀ (w : World) (a : Option Addr) (n c : Nat), (binOp .eql 23 (.slice a n c) (.slice none 0 0)).run Try.prog w = .ok (.bool a.isNone) w := fun w a n c => Lib.run_eql_slice_nil w _ _ a n c 0 0 Try.underlying23
  rcases fdV_cases n m with hD | ⟨N, M, rfl, rfl, hM1, hM8, hD⟩
  · have hV : Hid (paV n m = []) := by simp [Hid, paV, hD, pick]
    have HD := Lib.hid hD
    clear hD
    go_enter Try.func19, Try.ntmps19
    go_wp2_with fail
    refine (c_i_FactorialDigits_nil _ _ _ HD.out).mono ?_
    rintro e w1 ⟨rfl, rfl⟩
    go_wp2
    go_ret
    exact ⟨_, rfl, by rw [hV.out]; exact Own.nil _ _, fun _ => rfl, Below.refl _ _⟩
  · obtain ⟨T, HT⟩ : ∃ T, Hid (paV N M = T) := ⟨_, rfl⟩
    have HD := Lib.hid hD
    have hT0 : Hid ([] ++ pick (((fdL N M).take M).reverse) (upto M) = T) := by
      rw [Hid, ← HT.out, paV, hD, List.take_of_length_le (by rw [fdL_len]; omega), Int.toNat_natCast]; rfl
    have hne : Hid (¬ paV N M = []) := fun e => by
      have := congrArg List.length e
      rw [paV, pick_len, List.length_reverse, hD, fdL_len] at this
      simp at this; omega
    clear hD
    go_enter Try.func19, Try.ntmps19
    go_wp2_with fail
    refine (c_i_FactorialDigits _ _ _).mono ?_
    rintro e w1 ⟨vd, rfl, ho1, hb1⟩
    rw [HD.out] at ho1
    obtain ⟨a, cap, n', rfl, HN, hm, hc, hcm, hcell⟩ := ho1.rd.open
    have hn' : n' = M := by rw [← HN.out, fdL_len]
    subst hn'
    obtain ⟨gb, off, rfl, hbl, -⟩ := hcell 0 (by omega)
    go_wp2
    go_loopw [6, 8, 16] (fun v _ i wr => ∃ k : Nat, k ≤ n' ∧ i = .int .i64 k ∧ Own wr w1.heap.size v (upto k) ∧ Below w1.heap.size w1 wr) (fun _ _ i _ => n' - (intOf i).toNat)
    case atStart => exact ⟨0, by omega, rfl, Own.nil _ _, Below.refl _ _⟩
    case round =>
      obtain ⟨k, hk, rfl, hown, hb⟩ := hrel
      by_cases hlt : k < n'
      · have hst := Lib.hid (upto_step k)
        have hlen : Hid ((upto k).length < 17592186044415) := by rw [Hid, upto_len]; omega
        clear hcell
        go_wp2_with (at_builtin; refine wpList_app _ rfl _ _ rfl w1.heap.size w1 _ _ rfl (hown.alloc _) (hb.alloc hb.size _) (Nat.le_refl _) ⟨wr.heap.size, 0, none⟩ (k : Int) rfl (by simp) (by unfold bd; omega) hlen.out ?_; intro v' w2 hown1 hb2 _)
        go_roundw
        case rel => exact ⟨k + 1, by omega, by go_num, by rw [← hst.out]; exact hown1, hb2⟩
        case measure => simp [intOf]; omega
      · have hkm : n' = k := by omega
        subst hkm
        go_wp2
        go_loopw [6, 7, 9] (fun vl vo i wr => ∃ (k : Nat) (L O : List Int), k ≤ n' ∧ i = .int .i64 ((k : Int) - 1) ∧ Own wr w1.heap.size vl L ∧ Own wr w1.heap.size vo O ∧ Apart vl vo ∧ Hid (L.length = k) ∧ Hid (O.length + k = n') ∧ Hid (O ++ pick (((fdL N n').take k).reverse) L = T) ∧ Below w1.heap.size w1 wr) (fun _ _ i _ => (intOf i + 1).toNat)
        case atStart =>
          exact ⟨n', upto n', [], by omega, rfl, hown, Own.nil _ _, .inr (.inl rfl), upto_len n', by simp [Hid], hT0, hb⟩
        case round =>
          obtain ⟨k, L, O, hk, rfl, hownL, hownO, hap, HLk, HOk, HT2, hb⟩ := hrel
          by_cases hlt : 0 < k
          · obtain ⟨q, rfl⟩ : ∃ q, k = q + 1 := ⟨k - 1, by omega⟩
            obtain ⟨gb', off', hgg, hbl', x, hx, hbd, hcx⟩ := hcell q (by omega)
            cases hgg
            obtain ⟨d, hd, hdq⟩ := fdL_get N n' q (by omega)
            rw [hx.out] at hd
            subst hd
            have hcr := (hb.cell (by exact hbl')).trans hcx
            have HS := Lib.hid (pick_step (by rw [fdL_len]; omega) hx.out HT2.out)
            obtain ⟨a', cap', n'', rfl, HL', hc', hcm', hL'⟩ := hownL.open
            obtain rfl : q + 1 = n'' := by rw [← HL'.out, HLk.out]
            obtain ⟨gl, rfl, hgl1, hgl2⟩ := hL' 0 (by omega)
            obtain ⟨hfz, z, hz, hcz⟩ := hownL.at (k := d) (by rw [HLk.out]; omega)
            have hzb : bd z := by rw [← hz]; exact hownL.1 _ (getD_mem (by rw [HLk.out]; omega))
            rw [hz] at HS
            have hlen : Hid (O.length < 17592186044415) := by have := HOk.out; show _ < _; omega
            have hki : (((q + 1 : Nat) : Int) - 1) = (q : Int) := by omega
            have hdl : (d : Int) < ((q + 1 : Nat) : Int) := by omega
            rw [hki]
            have hB0 := hb1.size
            have hcr2 : ∀ {w2 : World}, Below w1.heap.size w1 w2 → w2.cell? ⟨gb, off + q, none⟩ = some (.int .i64 d) := fun h => (h.cell (by exact hbl')).trans hcx
            clear hcx hz hx hcell hki HT2
            go_wp2_with (at_builtin; refine wpList_app2 _ rfl _ _ rfl w1.heap.size w1 _ _ rfl (hownO.alloc _) (hb.alloc hb.size _) (Nat.le_refl _) ⟨wr.heap.size, 0, none⟩ z rfl (by simp) hzb hlen.out ?_; intro vo' w2 hO2 hb2 hg2 hat2)
            have hL2 := (hownL.alloc (.cells #[.int .i64 z] 3)).kept hg2 hap.ne
            have hap2 : Apart (.slice (some ⟨gl, 0, none⟩) (q + 1) cap') vo' := hap.step (hownL.alloc (.cells #[.int .i64 z] 3)) (Nat.le_refl _) hat2
            have hcr3 := hcr2 hb2
            have hw1 : IntKind.i64.wrap ((d : Int) + 1) = (d : Int) + 1 := by rw [IntKind.wrap_i64]; omega
            have HD2 : Hid (Own w2.drew w1.heap.size (.slice (some ⟨gl, 0, none⟩) (q + 1) cap') L ∧ Below w1.heap.size w1 w2.drew) := ⟨hL2.drew, hb2.drew⟩
            go_region_with (go_at_call 44; refine (c_Delete gl (q + 1) cap' d L w1.heap.size w1 w2.drew HD2.out.1 HLk.out (Nat.lt_succ_of_le hdq) HD2.out.2).mono ?_; rintro e w4 ⟨rfl, hO4, hb4, hg4⟩)
            all_goals
              have hO5 : Own w4 w1.heap.size vo' (O ++ [z]) := hO2.drew.kept hg4 hap2.symm.ne
              go_wp2
              go_roundw
              case rel => exact ⟨q, L.take d ++ L.drop (d + 1), O ++ [z], by omega, by go_num, hO4, hO5, hap2, cut_len HLk.out hdq, by have := HOk.out; rw [Hid, List.length_append, List.length_singleton]; omega, HS, hb4⟩
              case measure => first | (simp [intOf]; done) | (simp [intOf]; omega)
          · have hk0 : k = 0 := by omega
            subst hk0
            clear hcell
            have hfin : Hid (O = T) := by have := HT2.out; rw [Hid]; simpa [pick] using this
            go_wp2
            go_ret
            exact ⟨_, rfl, by rw [hfin.out, ← HT.out] at hownO; exact hownO.mono hb1.size, fun h => absurd h hne.out, hb1.trans (hb.mono hb1.size)⟩
theorem c_i_PermutationAt (n m : Int) (w : World) :
    Calls Try.prog 19 #[.int .i64 n, .int .i64 m] w fun e w' => ∃ v', e = .returned v' ∧ Own w' w.heap.size v' (paV n m) ∧ Below w.heap.size w w' :=
  (c_i_PermutationAtN n m w).mono fun _ _ ⟨v', h1, h2, _, h3⟩ => ⟨v', h1, h2, h3⟩

end Go.Proofs.Ytgkijiekfdeggaa
