/- Contracts of LehmerOf, the program's and the reference's. -/
import Derived.Test.YtgkijiekfdeggaaPerm
namespace Go.Proofs.Ytgkijiekfdeggaa
open Go.RowKit
open Pl

/-- How many of the list are less than x. -/
def cntL (x : Int) (l : List Int) : Nat := l.foldl (fun c y => if y < x then c + 1 else c) 0
theorem cntL_snoc (x y : Int) (l : List Int) : cntL x (l ++ [y]) = if y < x then cntL x l + 1 else cntL x l := by simp [cntL, List.foldl_append]
theorem cntL_take {x : Int} {l : List Int} {k : Nat} (h : k < l.length) : cntL x (l.take (k + 1)) = if l.getD k 0 < x then cntL x (l.take k) + 1 else cntL x (l.take k) := by rw [take_step h, cntL_snoc]
theorem cntL_le (x : Int) (l : List Int) : ∀ k, cntL x (l.take k) ≤ k := by
  intro k
  induction k with
  | zero => simp [cntL]
  | succ k ih =>
    by_cases hk : k < l.length
    · rw [cntL_take hk]; split <;> omega
    · rw [List.take_of_length_le (by omega)] at ih ⊢; omega
/-- The numbers of lesser items behind each one, the last item first. -/
def leh : List Int → List Int
  | [] => []
  | x :: xs => leh xs ++ [((cntL x xs : Nat) : Int)]
theorem leh_len (l : List Int) : (leh l).length = l.length := by induction l with
  | nil => rfl
  | cons x l ih => simp [leh, ih]
theorem leh_drop {l : List Int} {k : Nat} (h : k < l.length) : leh (l.drop k) = leh (l.drop (k + 1)) ++ [((cntL (l.getD k 0) (l.drop (k + 1)) : Nat) : Int)] := by rw [drop_step h]; rfl

set_option maxHeartbeats 1600000 in
theorem c_s_l08Lehmer (v : Value) (l : List Int) (w : World) (h : Rd w v l) (hl : Hid (l.length ≤ 8)) :
    Calls Try.prog 48 #[v] w fun e w' => ∃ v', e = .returned v' ∧ Own w' w.heap.size v' (leh l) ∧ Below w.heap.size w w' := by
  obtain ⟨a, cap, n, rfl, HN, hm, hc, hcm, hcell⟩ := h.open
  have H := Lib.hid h
  have hl' := hl.out
  rw [HN.out] at hl'
  clear h
  go_enter Try.func48, Try.ntmps48
  go_wp2
  go_loopw [3, 4] (fun v i wr => ∃ m : Nat, m ≤ n ∧ i = .int .i64 ((m : Int) - 1) ∧ Own wr w.heap.size v (leh (l.drop m)) ∧ Below w.heap.size w wr) (fun _ i _ => (intOf i + 1).toNat)
  case atStart => exact ⟨n, by omega, rfl, by rw [List.drop_eq_nil_of_le (by rw [HN.out]; omega)]; exact Own.empty _ _ (Nat.le_refl _), (Below.refl _ _).alloc (Nat.le_refl _) _⟩
  case round =>
    obtain ⟨m, hk, rfl, hown, hb⟩ := hrel
    by_cases hlt : 0 < m
    · obtain ⟨k, rfl⟩ : ∃ k, m = k + 1 := ⟨m - 1, by omega⟩
      obtain ⟨b, off, rfl, hbl, x, hx, hbd, hcx⟩ := hcell k (by omega)
      have hcr : wr.cell? ⟨b, off + k, none⟩ = some (.int .i64 x) := (hb.cell (by exact hbl)).trans hcx
      have hd := leh_drop (l := l) (k := k) (by rw [HN.out]; omega)
      rw [hx.out] at hd
      have hst : Hid (leh (l.drop (k + 1)) ++ [((cntL x (l.drop (k + 1)) : Nat) : Int)] = leh (l.drop k)) := hd.symm
      have hkn : k < n := by omega
      have hkc : (k : Int) + 1 ≤ (cap : Int) := by omega
      have hkn2 : (k : Int) + 1 ≤ (n : Int) := by omega
      have hki : ((k + 1 : Nat) : Int) - 1 = (k : Int) := by omega
      have hlen : Hid ((leh (l.drop (k + 1))).length < 17592186044415) := by show _ < _; rw [leh_len, List.length_drop, HN.out]; omega
      rw [hki]
      clear hd hcx hki
      obtain ⟨wo, rfl⟩ : ∃ wo : World, wo = wr := ⟨_, rfl⟩
      have htake : Hid ((l.drop (k + 1)).length = n - (k + 1)) := by show _ = _; rw [List.length_drop, HN.out]
      by_cases hcap : cap = k + 1
      · have hcap' : ((cap : Int) - ((k : Int) + 1) == 0) = true := by simp; omega
        have hn0 : Hid (n - (k + 1) = 0) := by show _ = _; omega
        have hst0 : Hid (leh (l.drop (k + 1)) ++ [(0 : Int)] = leh (l.drop k)) := by
          show _ = _
          rw [← hst.out, List.eq_nil_of_length_eq_zero (htake.out.trans hn0.out)]; rfl
        have hnn : n = k + 1 := by omega
        clear hcell hst htake hcap'
        subst hnn
        subst hcap
        go_wp2
        go_loop [5, 21] (fun c j => c = .int .i64 0 ∧ j = .int .i64 0) (fun _ _ => 0)
        case atStart => exact ⟨rfl, rfl⟩
        case round =>
          obtain ⟨rfl, rfl⟩ := hrel
          go_wp2_with (at_builtin; refine wpList_app _ rfl _ _ rfl w.heap.size w _ _ rfl (hown.alloc _) (hb.alloc hb.size _) (Nat.le_refl _) ⟨wo.heap.size, 0, none⟩ 0 rfl (by simp) (by unfold bd; omega) hlen.out ?_; intro v' w1 hown1 hb1 _)
          go_roundw
          case rel => exact ⟨k, by omega, by first | rfl | go_num, by rw [← hst0.out]; exact hown1⟩
          case measure => first | (simp [intOf]; done) | (simp [intOf]; omega)
      · have hcap' : ((cap : Int) - ((k : Int) + 1) == 0) = false := by simp; omega
        go_wp2
        go_loop [5, 7, 21] (fun c _ j => ∃ q : Nat, q ≤ n - (k + 1) ∧ j = .int .i64 q ∧ c = .int .i64 ((cntL x ((l.drop (k + 1)).take q) : Nat) : Int)) (fun _ _ j => n - (intOf j).toNat)
        case atStart => exact ⟨0, by omega, rfl, rfl⟩
        case round =>
          obtain ⟨q, hq, rfl, rfl⟩ := hrel
          have hle := cntL_le x (l.drop (k + 1)) q
          by_cases hqn : q < n - (k + 1)
          · obtain ⟨b', off', hbo, hbl', y, hy, hbd', hcy⟩ := hcell (k + 1 + q) (by omega)
            cases hbo
            have hcy2 : wo.cell? ⟨b, off + (k + 1) + q, none⟩ = some (.int .i64 y) := by
              rw [Nat.add_assoc]; exact (hb.cell (by exact hbl)).trans hcy
            have hyq : (l.drop (k + 1)).getD q 0 = y := by
              rw [← hy.out]; simp [List.getD_eq_getElem?_getD]
            have hct := cntL_take (x := x) (l := l.drop (k + 1)) (k := q) (by rw [htake.out]; exact hqn)
            rw [hyq] at hct
            have hqi : (q : Int) < ((n - (k + 1) : Nat) : Int) := by omega
            clear hy hcy hyq hcell
            by_cases hyx : y < x
            · rw [if_pos hyx] at hct
              have HC := Lib.hid hct
              clear hct
              go_wp2
              go_round
              case rel => exact ⟨q + 1, by omega, by go_num, by rw [HC.out]; go_num⟩
              case measure => simp [intOf]; omega
            · rw [if_neg hyx] at hct
              have HC := Lib.hid hct
              have hyx' : x ≤ y := by omega
              clear hct hyx
              go_wp2
              go_round
              case rel => exact ⟨q + 1, by omega, by go_num, by rw [HC.out]⟩
              case measure => simp [intOf]; omega
          · have hfull : Hid (cntL x ((l.drop (k + 1)).take q) = cntL x (l.drop (k + 1))) := by
              show _ = _
              rw [List.take_of_length_le (by rw [htake.out]; omega)]
            clear hcell
            go_wp2_with (at_builtin; refine wpList_app _ rfl _ _ rfl w.heap.size w _ _ rfl (hown.alloc _) (hb.alloc hb.size _) (Nat.le_refl _) ⟨wo.heap.size, 0, none⟩ ((cntL x ((l.drop (k + 1)).take q) : Nat) : Int) rfl (by simp) (by unfold bd; omega) hlen.out ?_; intro v' w1 hown1 hb1 _)
            go_roundw
            case rel => exact ⟨k, by omega, by go_num, by rw [← hst.out, ← hfull.out]; exact hown1, hb1⟩
            case measure => first | (simp [intOf]; done) | (simp [intOf]; omega)
    · have hm0 : m = 0 := by omega
      subst hm0
      clear hcell
      go_wp2
      go_ret
      exact ⟨_, rfl, by simpa using hown, hb⟩

/-- The numbers of lesser items, or none. -/
def lehV (l : List Int) : List Int := if pmB l then leh l else []
theorem pm_len {l : List Int} (h : pmB l = true) : 1 ≤ l.length ∧ l.length ≤ 8 := by
  unfold pmB at h
  rw [Bool.and_eq_true] at h
  have := inB_yes h.1
  omega
theorem lehV_len (l : List Int) : (lehV l).length ≤ 1048576 := by
  unfold lehV
  split
  · rename_i h
    have := pm_len h
    rw [leh_len]; omega
  · simp

theorem c_s_LehmerOf (v : Value) (l : List Int) (w : World) (h : Rd w v l) :
    Calls Try.prog 35 #[v] w fun e w' => ∃ v', e = .returned v' ∧ Own w' w.heap.size v' (lehV l) ∧ Below w.heap.size w w' := by
  have H := Lib.hid h
  clear h
  cases e1 : pmB l
  · have hV : Hid (lehV l = []) := by simp [Hid, lehV, e1]
    go_enter Try.func35, Try.ntmps35
    go_wp2_with (go_at_call 26; refine (c_s_PermutationOk _ l _ H.out).mono ?_; rintro e W1 ⟨rfl, hb⟩)
    go_ret
    exact ⟨_, rfl, by rw [hV.out]; exact Own.nil _ _, hb⟩
  · have hV : Hid (lehV l = leh l) := by simp [Hid, lehV, e1]
    have hl : Hid (l.length ≤ 8) := (pm_len e1).2
    go_enter Try.func35, Try.ntmps35
    go_wp2_with (first | (go_at_call 26; refine (c_s_PermutationOk _ l _ H.out).mono ?_; rintro e W1 ⟨rfl, hb⟩) | (go_at_call 48; refine (c_s_l08Lehmer _ l _ (H.out.below hb) hl).mono ?_; rintro e W2 ⟨v', rfl, ho, hb2⟩))
    go_ret
    exact ⟨_, rfl, by rw [hV.out]; exact ho.mono hb.size, hb.trans (hb2.mono hb.size)⟩

theorem mid_set (p : Nat) (c v : Int) (T : List Int) : (List.replicate p (0 : Int) ++ c :: T).set p v = List.replicate p 0 ++ v :: T := by
  rw [List.set_append_right _ _ (by simp)]; simp
theorem mid_get (p : Nat) (c : Int) (T : List Int) : (List.replicate p (0 : Int) ++ c :: T).getD p 0 = c := by
  rw [List.getD_eq_getElem?_getD, List.getElem?_append_right (by simp)]; simp

set_option maxHeartbeats 3200000 in
theorem c_i_LehmerOf (v : Value) (l : List Int) (w : World) (h : Rd w v l) :
    Calls Try.prog 15 #[v] w fun e w' => ∃ v', e = .returned v' ∧ Own w' w.heap.size v' (lehV l) ∧ Below w.heap.size w w' := by
  obtain ⟨a, cap, n, rfl, HN, hm, hc, hcm, hcell⟩ := h.open
  have H := Lib.hid h
  clear h
  cases e1 : pmB l
  · have hV : Hid (lehV l = []) := by simp [Hid, lehV, e1]
    clear hcell
    go_enter Try.func15, Try.ntmps15
    go_wp2_with (go_at_call 16; refine (c_i_PermutationOk _ l _ H.out).mono ?_; rintro e w' ⟨rfl, rfl⟩)
    go_ret
    exact ⟨_, rfl, by rw [hV.out]; exact Own.nil _ _, Below.refl _ _⟩
  · have hV : Hid (lehV l = leh l) := by simp [Hid, lehV, e1]
    have hn8 : n ≤ 8 := by rw [← HN.out]; exact (pm_len e1).2
    go_enter Try.func15, Try.ntmps15
    go_wp2_with (first | (go_at_call 16; refine (c_i_PermutationOk _ l _ H.out).mono ?_; rintro e w' ⟨rfl, rfl⟩) | (at_make; refine wpList_mk _ rfl _ _ rfl n rfl rfl (by omega) ?_; intro w0 hown0 hb0))
    go_loopw [4, 5, 16] (fun _ _ i wr => ∃ (k : Nat) (T : List Int), k ≤ n ∧ i = .int .i64 k ∧ Own wr w.heap.size (.slice (some ⟨w.heap.size, 0, none⟩) n n) (List.replicate (n - k) 0 ++ T) ∧ Hid (T.length = k) ∧ Hid (leh (l.drop k) ++ T = leh l) ∧ Below w.heap.size w wr) (fun _ _ i _ => n - (intOf i).toNat)
    case atStart => exact ⟨0, [], by omega, rfl, by simpa using hown0, rfl, by simp [Hid], hb0⟩
    case round =>
      obtain ⟨k, T, hk, rfl, hown, hT, hq, hb⟩ := hrel
      by_cases hlt : k < n
      · obtain ⟨b, off, rfl, hbl, x, hx, hbd, hcx⟩ := hcell k hlt
        have hcr : wr.cell? ⟨b, off + k, none⟩ = some (.int .i64 x) := (hb.cell (by exact hbl)).trans hcx
        have hd := leh_drop (l := l) (k := k) (by rw [HN.out]; omega)
        rw [hx.out] at hd
        have hkc : (k : Int) + 1 ≤ (cap : Int) := by omega
        have hkn2 : (k : Int) + 1 ≤ (n : Int) := by omega
        have htake : Hid ((l.drop (k + 1)).length = n - (k + 1)) := by show _ = _; rw [List.length_drop, HN.out]
        obtain ⟨p, hp⟩ : ∃ p, n - (k + 1) = p := ⟨_, rfl⟩
        have hpn : (n : Int) - 1 - (k : Int) = (p : Int) := by omega
        have hpi : ((n : Int) - 1 - (k : Int)).toNat = p := by omega
        have hpl : p < n := by omega
        have hown' : Own wr w.heap.size (.slice (some ⟨w.heap.size, 0, none⟩) n n) (List.replicate p 0 ++ (((cntL x ((l.drop (k + 1)).take 0) : Nat) : Int)) :: T) := by
          rw [show n - k = p + 1 by omega, List.replicate_succ', List.append_assoc] at hown
          exact hown
        have hfin : Hid (leh (l.drop (k + 1)) ++ (((cntL x (l.drop (k + 1)) : Nat) : Int)) :: T = leh l) := by
          show _ = _
          rw [← hq.out, hd, List.append_assoc]; rfl
        have hT2 : Hid (((((cntL x (l.drop (k + 1)) : Nat) : Int)) :: T).length = k + 1) := by show _ = _; rw [List.length_cons, hT.out]
        clear hd hcx hown hq
        by_cases hcap : cap = k + 1
        · have hnn : n = k + 1 := by omega
          have hp0 : p = 0 := by omega
          have hfin2 : Hid (leh (l.drop (k + 1)) ++ (((cntL x ((l.drop (k + 1)).take 0) : Nat) : Int)) :: T = leh l) := by
            show _ = _
            rw [← hfin.out, List.eq_nil_of_length_eq_zero (l := l.drop (k + 1)) (by rw [htake.out]; omega)]; rfl
          have hT3 : Hid (((((cntL x ((l.drop (k + 1)).take 0) : Nat) : Int)) :: T).length = k + 1) := by show _ = _; rw [List.length_cons, hT.out]
          subst hp0
          obtain ⟨c0, hc0⟩ : ∃ c0 : Int, ((cntL x ((l.drop (k + 1)).take 0) : Nat) : Int) = c0 := ⟨_, rfl⟩
          rw [hc0] at hown' hfin2 hT3
          clear hcell htake hfin hT2 hpn hpi hc0 hp
          subst hnn
          subst hcap
          go_wp2
          go_loop [7, 26] (fun _ j => j = .int .i64 0) (fun _ _ => 0)
          case atStart => rfl
          case round =>
            subst hrel
            go_wp2
            go_roundw
            case rel => exact ⟨k + 1, c0 :: T, by omega, by go_num, by simpa using hown', hT3, hfin2, hb⟩
            case measure => simp [intOf]
        · have hcap' : ((cap : Int) - ((k : Int) + 1) == 0) = false := by simp; omega
          go_wp2
          go_loopw [7, 26] (fun _ j wi => ∃ q : Nat, q ≤ p ∧ j = .int .i64 q ∧ Own wi w.heap.size (.slice (some ⟨w.heap.size, 0, none⟩) n n) (List.replicate p 0 ++ (((cntL x ((l.drop (k + 1)).take q) : Nat) : Int)) :: T) ∧ Below w.heap.size w wi) (fun _ j _ => n - (intOf j).toNat)
          case atStart => exact ⟨0, by omega, rfl, hown', hb⟩
          case round =>
            obtain ⟨q, hqp, rfl, hown, hb⟩ := hrel
            have hle := cntL_le x (l.drop (k + 1)) q
            by_cases hqn : q < p
            · obtain ⟨b', off', hbo, hbl', y, hy, hbd', hcy⟩ := hcell (k + 1 + q) (by omega)
              cases hbo
              have hcy2 : wr.cell? ⟨b, off + (k + 1) + q, none⟩ = some (.int .i64 y) := by
                rw [Nat.add_assoc]; exact (hb.cell (by exact hbl)).trans hcy
              have hyq : (l.drop (k + 1)).getD q 0 = y := by
                rw [← hy.out]; simp [List.getD_eq_getElem?_getD]
              have hct := cntL_take (x := x) (l := l.drop (k + 1)) (k := q) (by rw [htake.out, hp]; exact hqn)
              rw [hyq] at hct
              have hqi : (q : Int) < ((n - (k + 1) : Nat) : Int) := by omega
              have hzl : (List.replicate p (0 : Int) ++ (((cntL x ((l.drop (k + 1)).take q) : Nat) : Int)) :: T).length = n := by
                rw [List.length_append, List.length_replicate, List.length_cons, hT.out]; omega
              obtain ⟨hfz, z, hz, hcz⟩ := hown.at (k := p) (by rw [hzl]; exact hpl)
              rw [mid_get] at hz
              subst hz
              clear hy hcy hyq hcell
              by_cases hyx : y < x
              · rw [if_pos hyx] at hct
                have hst := (hown.stored hzl.symm p (((cntL x ((l.drop (k + 1)).take q) : Nat) : Int) + 1) (by unfold bd; omega)).1
                rw [mid_set] at hst
                have HC : Hid (((cntL x ((l.drop (k + 1)).take q) : Nat) : Int) + 1 = ((cntL x ((l.drop (k + 1)).take (q + 1)) : Nat) : Int)) := by show _ = _; rw [hct]; simp
                have HP := Lib.hid hp
                clear hct hzl hown hown' hp
                go_wp2
                go_roundw
                case rel => exact ⟨q + 1, by omega, by go_num, by rw [← HC.out]; exact hst, hb.setCell (Nat.le_refl _) _⟩
                case measure => have := HP.out; simp [intOf]; omega
              · rw [if_neg hyx] at hct
                have HC := Lib.hid hct
                have hyx' : x ≤ y := by omega
                have HP := Lib.hid hp
                clear hct hyx hzl hown' hp
                go_wp2
                go_roundw
                case rel => exact ⟨q + 1, by omega, by go_num, by rw [HC.out]; exact hown, hb⟩
                case measure => have := HP.out; simp [intOf]; omega
            · have hfull : Hid (cntL x ((l.drop (k + 1)).take q) = cntL x (l.drop (k + 1))) := by
                show _ = _
                rw [List.take_of_length_le (by rw [htake.out]; omega)]
              have hpk : Hid (p = n - (k + 1)) := hp.symm
              have hqi : ((n - (k + 1) : Nat) : Int) ≤ (q : Int) := by omega
              clear hcell hown' hp
              go_wp2
              go_roundw
              case rel => exact ⟨k + 1, ((cntL x (l.drop (k + 1)) : Nat) : Int) :: T, by omega, by go_num, by rw [← hpk.out, ← hfull.out]; exact hown, hT2, hfin, hb⟩
              case measure => first | (simp [intOf]; done) | (simp [intOf]; omega)
      · have hkn : k = n := by omega
        subst hkn
        have hfin : Hid (T = lehV l) := by
          show _ = _
          rw [hV.out, ← hq.out, List.drop_eq_nil_of_le (by rw [HN.out]; omega)]; rfl
        clear hcell
        go_wp2
        go_ret
        exact ⟨_, rfl, by rw [← hfin.out]; simpa using hown, hb⟩

end Go.Proofs.Ytgkijiekfdeggaa
