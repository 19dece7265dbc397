/- Contracts of MixedAdd and MixedCarries, the program's and the reference's. -/
import Derived.Test.YtehlkoogpgcipaaAdd
namespace Go.Proofs.Ytehlkoogpgcipaa
open Go.RowKit

theorem sumL_cons (x : Int) (l : List Int) : sumL (x :: l) = x + sumL l := by
  have h : ∀ (l : List Int) (a : Int), l.foldl (· + ·) a = a + l.foldl (· + ·) 0 := by
    intro l
    induction l with
    | nil => intro a; simp
    | cons y l ih => intro a; rw [List.foldl_cons, List.foldl_cons, ih (a + y), ih (0 + y)]; omega
  unfold sumL
  rw [List.foldl_cons, h]; omega
theorem fold_last : ∀ (l : List Int) (k : Int), 0 < l.length → l.foldl (fun _ x => x) k = l.getD (l.length - 1) 0 := by
  intro l
  induction l with
  | nil => intro k h; simp at h
  | cons x l ih =>
    intro k _
    cases l with
    | nil => rfl
    | cons y l => rw [List.foldl_cons, ih x (by simp)]; simp

theorem carD_range : ∀ (rs a c : List Int) (k : Int), (∀ x ∈ rs, 2 ≤ x ∧ x ≤ 60) → isMP a rs → isMP c rs → (0 ≤ k ∧ k ≤ 1) → ∀ x ∈ carD rs a c k, 0 ≤ x ∧ x ≤ 1 := by
  intro rs
  induction rs with
  | nil => intro a c k _ h1 h2 _ x hx; cases a <;> cases c <;> simp [carD] at hx
  | cons r rs ih =>
    intro a c k hr h1 h2 hk x hx
    cases a with
    | nil => simp [carD] at hx
    | cons d a => cases c with
      | nil => simp [carD] at hx
      | cons e c =>
        obtain ⟨h3, h4⟩ := isMP_cons h1
        obtain ⟨h5, h6⟩ := isMP_cons h2
        have hp := place_fits (hr r (List.mem_cons_self ..)) h3 h5 hk
        rcases List.mem_cons.1 hx with rfl | hx
        · omega
        · exact ih a c _ (fun x hx => hr x (List.mem_cons_of_mem _ hx)) h4 h6 ⟨hp.1, hp.2.1⟩ x hx

set_option maxHeartbeats 1600000 in
theorem c_s_l07Add (u v z : Value) (xa cs rs : List Int) (w : World) (h : Rd w u xa) (g : Rd w v cs) (f : Rd w z rs) (ha : Hid (mokB xa rs = true)) (hb0 : Hid (mokB cs rs = true)) :
    Calls Try.prog 56 #[u, v, z] w fun e w' => ∃ v1, e = .returned (.tuple #[v1, .int .i64 (outD rs xa cs 0), .int .i64 (sumL (carD rs xa cs 0))]) ∧ Own w' w.heap.size v1 (addD rs xa cs 0) ∧ Below w.heap.size w w' := by
  obtain ⟨a1, cap1, n, rfl, HN, hm, hc, hcm, hcell⟩ := h.open
  obtain ⟨a2, cap2, n2, rfl, HN2, hm2, hc2, hcm2, hcell2⟩ := g.open
  obtain ⟨a3, cap3, n3, rfl, HN3, hm3, hc3, hcm3, hcell3⟩ := f.open
  have q1 := mok_of ha.out
  have q2 := mok_of hb0.out
  have hrr : Hid (∀ x ∈ rs, 2 ≤ x ∧ x ≤ 60) := q1.1.2.1
  have hma : Hid (isMP xa rs) := q1.2
  have hmc : Hid (isMP cs rs) := q2.2
  have hn10 : n3 ≤ 10 := by rw [← HN3.out]; exact q1.1.1.2
  obtain rfl : n = n3 := by rw [← HN.out, ← HN3.out]; exact q1.2.1
  obtain rfl : n2 = n := by rw [← HN2.out, ← HN3.out]; exact q2.2.1
  clear q1 q2 h g f ha hb0
  go_enter Try.func56, Try.ntmps56
  go_wp2
  go_loopw [9, 10, 11, 12, 13, 14, 18] (fun v1 s c _ _ _ i wr => ∃ (k : Nat) (q cnt : Int) (ys : List Int), k ≤ n2 ∧ (0 ≤ q ∧ q ≤ 1) ∧ (0 ≤ cnt ∧ cnt ≤ k) ∧ i = .int .i64 k ∧ s = .int .i64 q ∧ c = .int .i64 cnt ∧ ys.length = k ∧ Own wr w.heap.size v1 ys ∧
      Hid (ys ++ addD (rs.drop k) (xa.drop k) (cs.drop k) q = addD rs xa cs 0) ∧ Hid (cnt + sumL (carD (rs.drop k) (xa.drop k) (cs.drop k) q) = sumL (carD rs xa cs 0)) ∧ Hid (outD (rs.drop k) (xa.drop k) (cs.drop k) q = outD rs xa cs 0) ∧ Below w.heap.size w wr) (fun _ _ _ _ _ _ i _ => n2 - (intOf i).toNat)
  case atStart => exact ⟨0, 0, 0, [], by omega, by omega, by omega, rfl, rfl, rfl, rfl, Own.empty _ _ (Nat.le_refl _), by simp [Hid], by simp [Hid], by simp [Hid], (Below.refl _ _).alloc (Nat.le_refl _) _⟩
  case round =>
    obtain ⟨k, q, cnt, ys, hk, hkk, hcc, rfl, rfl, rfl, hyl, ho1, hq1, hq2, hq3, hb⟩ := hrel
    have HY := Lib.hid hyl
    have HK := Lib.hid hkk
    have hkc := hkk
    clear hyl hkk
    by_cases hlt : k < n2
    · obtain ⟨b, off, rfl, hbl, x, hx, hbd, hcx⟩ := hcell k hlt
      obtain ⟨b2, off2, rfl, hbl2, y, hy, hbd2, hcy⟩ := hcell2 k hlt
      obtain ⟨b3, off3, rfl, hbl3, r, hr, hbd3, hcz⟩ := hcell3 k hlt
      have hcr : wr.cell? ⟨b, off + k, none⟩ = some (.int .i64 x) := (hb.cell (by exact hbl)).trans hcx
      have hcr2 : wr.cell? ⟨b2, off2 + k, none⟩ = some (.int .i64 y) := (hb.cell (by exact hbl2)).trans hcy
      have hcr3 : wr.cell? ⟨b3, off3 + k, none⟩ = some (.int .i64 r) := (hb.cell (by exact hbl3)).trans hcz
      have hr0 := hrr.out r (by rw [← hr.out]; exact getD_mem (by rw [HN3.out]; exact hlt))
      have hx0 := isMP_at hma.out (j := k) (by rw [HN.out]; exact hlt)
      have hy0 := isMP_at hmc.out (j := k) (by rw [HN2.out]; exact hlt)
      rw [hx.out, hr.out] at hx0
      rw [hy.out, hr.out] at hy0
      have hpf := place_fits hr0 hx0 hy0 hkc
      have hi1 : (k : Int) < (n2 : Int) := by omega
      have hs0 : 0 ≤ x + y + q := by omega
      have hs1 : x + y + q ≤ 120 := by omega
      have hA : Hid ((ys ++ [(x + y + q) % r]) ++ addD (rs.drop (k + 1)) (xa.drop (k + 1)) (cs.drop (k + 1)) ((x + y + q) / r) = addD rs xa cs 0) := by
        show _ = _
        rw [← hq1.out, addD_drop (rs := rs) (a := xa) (c := cs) (j := k) q (by rw [HN3.out]; exact hlt) (by rw [HN.out]; exact hlt) (by rw [HN2.out]; exact hlt), hx.out, hy.out, hr.out]; simp
      have hcd := carD_drop (rs := rs) (a := xa) (c := cs) (j := k) q (by rw [HN3.out]; exact hlt) (by rw [HN.out]; exact hlt) (by rw [HN2.out]; exact hlt)
      rw [hx.out, hy.out, hr.out] at hcd
      have hC : Hid ((cnt + (x + y + q) / r) + sumL (carD (rs.drop (k + 1)) (xa.drop (k + 1)) (cs.drop (k + 1)) ((x + y + q) / r)) = sumL (carD rs xa cs 0)) := by
        show _ = _
        rw [← hq2.out, hcd, sumL_cons]; omega
      have hO : Hid (outD (rs.drop (k + 1)) (xa.drop (k + 1)) (cs.drop (k + 1)) ((x + y + q) / r) = outD rs xa cs 0) := by
        show _ = _
        rw [← hq3.out]; unfold outD; rw [hcd, List.foldl_cons]
      have hl1 : Hid (ys.length < 17592186044415) := by show _ < _; rw [HY.out]; omega
      have hl3 : Hid ((ys ++ [(x + y + q) % r]).length = k + 1) := by show _ = _; simp [HY.out]
      clear hcell hcell2 hcell3 hcx hcy hcz hx hy hr hq1 hq2 hq3 hkc HK hcd
      go_wp2
      go_quiet (fail)
      go_wp2_with (at_builtin; refine wpList_app2 _ rfl _ _ rfl w.heap.size w _ ys rfl ((ho1.dN _).alloc _) ((below_dN hb _).alloc hb.size _) (Nat.le_refl _) ⟨wr.heap.size, 0, none⟩ ((x + y + q) % r) rfl (cell_dN _ _ _ _) (by unfold bd; omega) hl1.out ?_; intro v1' w1 hown1 hb1 hg1 hat1; clear ho1 hg1 hat1)
      go_roundw
      case rel => exact ⟨k + 1, (x + y + q) / r, cnt + (x + y + q) / r, ys ++ [(x + y + q) % r], by omega, by omega, by omega, by go_num, rfl, rfl, hl3.out, hown1, hA, hC, hO, hb1⟩
      case measure => simp [intOf]; omega
    · have e0 : rs.drop k = [] := List.drop_eq_nil_of_le (by rw [HN3.out]; omega)
      have hf1 : Hid (ys = addD rs xa cs 0) := by show _ = _; rw [← hq1.out, e0]; simp [addD]
      have hf2 : Hid (cnt = sumL (carD rs xa cs 0)) := by show _ = _; rw [← hq2.out, e0]; simp [carD, sumL]
      have hf3 : Hid (q = outD rs xa cs 0) := by show _ = _; rw [← hq3.out, e0]; simp [outD, carD]
      clear hcell hcell2 hcell3 hq1 hq2 hq3 e0
      go_wp2
      go_ret3
      exact ⟨_, by rw [← hf2.out, ← hf3.out]; rfl, by rw [← hf1.out]; exact ho1, hb⟩

theorem c_s_l07Two (u v z : Value) (xa cs rs : List Int) (w : World) (h : Rd w u xa) (g : Rd w v cs) (f : Rd w z rs) :
    Calls Try.prog 55 #[u, v, z] w fun e w' => e = .returned (.bool (mokB xa rs && mokB cs rs)) ∧ w = w' := by
  have H := Lib.hid h
  have G := Lib.hid g
  have F := Lib.hid f
  clear h g f
  cases e1 : mokB xa rs
  · go_enter Try.func55, Try.ntmps55
    go_wp2_with (go_at_call 30; refine (c_s_MixedOk _ _ xa rs _ H.out F.out).mono ?_; rintro e w' ⟨rfl, rfl⟩)
    go_ret
    exact ⟨ret_b (by simp), rfl⟩
  · go_enter Try.func55, Try.ntmps55
    go_wp2_with fail
    refine (c_s_MixedOk _ _ xa rs _ H.out F.out).mono ?_
    rintro e w' ⟨rfl, rfl⟩
    go_wp2_with fail
    refine (c_s_MixedOk _ _ cs rs _ G.out F.out).mono ?_
    rintro e w' ⟨rfl, rfl⟩
    go_wp2
    go_ret
    exact ⟨ret_b (by simp), rfl⟩

/-- The digits of the sum where there are any; the carry, or -1; the number of carries, or -1. -/
def maL (a c rs : List Int) : List Int := if mokB a rs && mokB c rs then addD rs a c 0 else []
def maC (a c rs : List Int) : Int := if mokB a rs && mokB c rs then outD rs a c 0 else -1
def mcV (a c rs : List Int) : Int := if mokB a rs && mokB c rs then sumL (carD rs a c 0) else -1
theorem maL_len (a c rs : List Int) : (maL a c rs).length ≤ 1048576 := by
  unfold maL
  split
  · rename_i h
    rw [Bool.and_eq_true] at h
    have h1 := mok_of h.1
    have h2 := mok_of h.2
    rw [addD_len _ _ _ _ h1.2.1 h2.2.1]; omega
  · simp

set_option maxHeartbeats 400000 in
theorem c_s_MixedAdd (u v z : Value) (xa cs rs : List Int) (w : World) (h : Rd w u xa) (g : Rd w v cs) (f : Rd w z rs) :
    Calls Try.prog 38 #[u, v, z] w fun e w' => ∃ v1, e = .returned (.tuple #[v1, .int .i64 (maC xa cs rs)]) ∧ Own w' w.heap.size v1 (maL xa cs rs) ∧ Below w.heap.size w w' := by
  have H := Lib.hid h
  have G := Lib.hid g
  have F := Lib.hid f
  clear h g f
  cases e1 : mokB xa rs && mokB cs rs
  · have hL : Hid (maL xa cs rs = []) := by simp [Hid, maL, e1]
    have hC : Hid (maC xa cs rs = -1) := by simp [Hid, maC, e1]
    have E1 := Lib.hid e1
    clear e1
    go_enter Try.func38, Try.ntmps38
    go_wp2_with (go_at_call 55; refine (c_s_l07Two _ _ _ xa cs rs _ H.out G.out F.out).mono ?_; rintro e w' ⟨rfl, rfl⟩; rw [E1.out])
    go_ret2
    exact ⟨_, by rw [hC.out]; rfl, by rw [hL.out]; exact Own.nil _ _, Below.refl _ _⟩
  · have hL : Hid (maL xa cs rs = addD rs xa cs 0) := by simp only [Hid, maL, e1, if_true]
    have hC : Hid (maC xa cs rs = outD rs xa cs 0) := by simp only [Hid, maC, e1, if_true]
    have E1 := Lib.hid e1
    have e2 := e1
    rw [Bool.and_eq_true] at e2
    have A1 := Lib.hid e2.1
    have A2 := Lib.hid e2.2
    clear e1 e2
    go_enter Try.func38, Try.ntmps38
    go_wp2_with (first | (go_at_call 55; refine (c_s_l07Two _ _ _ xa cs rs _ H.out G.out F.out).mono ?_; rintro e w' ⟨rfl, rfl⟩; rw [E1.out]) | (go_at_call 56; refine (c_s_l07Add _ _ _ xa cs rs _ H.out G.out F.out A1 A2).mono ?_; rintro e w' ⟨v1, rfl, ho, hb⟩))
    go_ret2
    exact ⟨_, by rw [hC.out]; rfl, by rw [hL.out]; exact ho, hb⟩

set_option maxHeartbeats 400000 in
theorem c_s_MixedCarries (u v z : Value) (xa cs rs : List Int) (w : World) (h : Rd w u xa) (g : Rd w v cs) (f : Rd w z rs) :
    Calls Try.prog 36 #[u, v, z] w fun e w' => e = .returned (.int .i64 (mcV xa cs rs)) ∧ Below w.heap.size w w' := by
  have H := Lib.hid h
  have G := Lib.hid g
  have F := Lib.hid f
  clear h g f
  cases e1 : mokB xa rs && mokB cs rs
  · have hC : Hid (mcV xa cs rs = -1) := by simp [Hid, mcV, e1]
    have E1 := Lib.hid e1
    clear e1
    go_enter Try.func36, Try.ntmps36
    go_wp2_with (go_at_call 55; refine (c_s_l07Two _ _ _ xa cs rs _ H.out G.out F.out).mono ?_; rintro e w' ⟨rfl, rfl⟩; rw [E1.out])
    go_ret
    exact ⟨ret_i hC.out.symm, Below.refl _ _⟩
  · have hC : Hid (mcV xa cs rs = sumL (carD rs xa cs 0)) := by simp only [Hid, mcV, e1, if_true]
    have E1 := Lib.hid e1
    have e2 := e1
    rw [Bool.and_eq_true] at e2
    have A1 := Lib.hid e2.1
    have A2 := Lib.hid e2.2
    clear e1 e2
    go_enter Try.func36, Try.ntmps36
    go_wp2_with (first | (go_at_call 55; refine (c_s_l07Two _ _ _ xa cs rs _ H.out G.out F.out).mono ?_; rintro e w' ⟨rfl, rfl⟩; rw [E1.out]) | (go_at_call 56; refine (c_s_l07Add _ _ _ xa cs rs _ H.out G.out F.out A1 A2).mono ?_; rintro e w' ⟨v1, rfl, ho, hb⟩))
    go_ret
    exact ⟨ret_i hC.out.symm, hb⟩

set_option maxHeartbeats 800000 in
theorem c_i_MixedAdd (u v z : Value) (xa cs rs : List Int) (w : World) (h : Rd w u xa) (g : Rd w v cs) (f : Rd w z rs) :
    Calls Try.prog 19 #[u, v, z] w fun e w' => ∃ v1, e = .returned (.tuple #[v1, .int .i64 (maC xa cs rs)]) ∧ Own w' w.heap.size v1 (maL xa cs rs) ∧ Below w.heap.size w w' := by
  have H := Lib.hid h
  have G := Lib.hid g
  have F := Lib.hid f
  clear h g f
  cases e1 : mokB xa rs
  · have e2 : True := trivial
    have hL : Hid (maL xa cs rs = []) := by simp [Hid, maL, e1]
    have hC : Hid (maC xa cs rs = -1) := by simp [Hid, maC, e1]
    go_enter Try.func19, Try.ntmps19
    go_wp2_with fail
    refine (c_i_MixedOk _ _ xa rs _ H.out F.out).mono ?_
    rintro e W1 ⟨rfl, hb1⟩
    go_wp2_with fail
    go_ret2
    exact ⟨_, by rw [hC.out]; rfl, by rw [hL.out]; exact Own.nil _ _, hb1⟩
  · cases e2 : mokB cs rs
    · have hL : Hid (maL xa cs rs = []) := by simp [Hid, maL, e1, e2]
      have hC : Hid (maC xa cs rs = -1) := by simp [Hid, maC, e1, e2]
      go_enter Try.func19, Try.ntmps19
      go_wp2_with fail
      refine (c_i_MixedOk _ _ xa rs _ H.out F.out).mono ?_
      rintro e W1 ⟨rfl, hb1⟩
      go_wp2_with fail
      refine (c_i_MixedOk _ _ cs rs _ (G.out.below hb1) (F.out.below hb1)).mono ?_
      rintro e W2 ⟨rfl, hb2⟩
      have hB2 := hb1.trans (hb2.mono hb1.size)
      go_wp2_with fail
      go_ret2
      exact ⟨_, by rw [hC.out]; rfl, by rw [hL.out]; exact Own.nil _ _, hB2⟩
    · have hL : Hid (maL xa cs rs = addD rs xa cs 0) := by simp [Hid, maL, e1, e2]
      have hC : Hid (maC xa cs rs = outD rs xa cs 0) := by simp [Hid, maC, e1, e2]
      have A1 := Lib.hid e1
      have A2 := Lib.hid e2
      have q1 := mok_of e1
      have q2 := mok_of e2
      have hcl : Hid ((carD rs xa cs 0).length = rs.length) := carD_len _ _ _ _ q1.2.1 q2.2.1
      have hcr : Hid (∀ x ∈ carD rs xa cs 0, 0 ≤ x ∧ x ≤ 1) := carD_range rs xa cs 0 q1.1.2.1 q1.2 q2.2 (by omega)
      have hr1 : Hid (1 ≤ rs.length ∧ rs.length ≤ 10) := q1.1.1
      clear q1 q2
      go_enter Try.func19, Try.ntmps19
      go_wp2_with fail
      refine (c_i_MixedOk _ _ xa rs _ H.out F.out).mono ?_
      rintro e W1 ⟨rfl, hb1⟩
      go_wp2_with fail
      refine (c_i_MixedOk _ _ cs rs _ (G.out.below hb1) (F.out.below hb1)).mono ?_
      rintro e W2 ⟨rfl, hb2⟩
      have hB2 := hb1.trans (hb2.mono hb1.size)
      go_wp2_with fail
      refine (c_i_mixedSum _ _ _ xa cs rs _ (H.out.below hB2) (G.out.below hB2) (F.out.below hB2) A1 A2).mono ?_
      rintro e W3 ⟨v1, v2, rfl, ho1, ho2, hb3⟩
      have hB3 := hB2.trans (hb3.mono hB2.size)
      obtain ⟨a, cap, N, rfl, HN, hm, hc, hcm, hcell⟩ := ho2.rd.open
      have hN : 1 ≤ N ∧ N ≤ 10 := by rw [← HN.out, hcl.out]; exact hr1.out
      obtain ⟨b, off, rfl, hbl, y, hy, hbd, hcx⟩ := hcell (N - 1) (by omega)
      have hO : Hid (outD rs xa cs 0 = y) := by
        show _ = _
        unfold outD
        rw [fold_last _ _ (by rw [hcl.out]; have := hr1.out; omega), HN.out, hy.out]
      have hix : ((N : Int) - 1).toNat = N - 1 := by omega
      have hi1 : (N : Int) - 1 < (N : Int) := by omega
      have hi0 : (0 : Int) ≤ (N : Int) - 1 := by omega
      clear hcell hy
      go_wp2
      go_quiet (fail)
      go_wp2
      go_ret2
      exact ⟨_, by rw [hC.out, hO.out]; rfl, by rw [hL.out]; exact ((ho1.mono hB2.size).dN _), below_dN hB3 _⟩

set_option maxHeartbeats 800000 in
theorem c_i_MixedCarries (u v z : Value) (xa cs rs : List Int) (w : World) (h : Rd w u xa) (g : Rd w v cs) (f : Rd w z rs) :
    Calls Try.prog 24 #[u, v, z] w fun e w' => e = .returned (.int .i64 (mcV xa cs rs)) ∧ Below w.heap.size w w' := by
  have H := Lib.hid h
  have G := Lib.hid g
  have F := Lib.hid f
  clear h g f
  cases e1 : mokB xa rs
  · have e2 : True := trivial
    have hC : Hid (mcV xa cs rs = -1) := by simp [Hid, mcV, e1]
    go_enter Try.func24, Try.ntmps24
    go_wp2_with fail
    refine (c_i_MixedOk _ _ xa rs _ H.out F.out).mono ?_
    rintro e W1 ⟨rfl, hb1⟩
    go_wp2_with fail
    go_ret
    exact ⟨ret_i hC.out.symm, hb1⟩
  · cases e2 : mokB cs rs
    · have hC : Hid (mcV xa cs rs = -1) := by simp [Hid, mcV, e1, e2]
      go_enter Try.func24, Try.ntmps24
      go_wp2_with fail
      refine (c_i_MixedOk _ _ xa rs _ H.out F.out).mono ?_
      rintro e W1 ⟨rfl, hb1⟩
      go_wp2_with fail
      refine (c_i_MixedOk _ _ cs rs _ (G.out.below hb1) (F.out.below hb1)).mono ?_
      rintro e W2 ⟨rfl, hb2⟩
      have hB2 := hb1.trans (hb2.mono hb1.size)
      go_wp2_with fail
      go_ret
      exact ⟨ret_i hC.out.symm, hB2⟩
    · have hC : Hid (mcV xa cs rs = sumL (carD rs xa cs 0)) := by simp [Hid, mcV, e1, e2]
      have A1 := Lib.hid e1
      have A2 := Lib.hid e2
      have q1 := mok_of e1
      have q2 := mok_of e2
      have hcl : Hid ((carD rs xa cs 0).length = rs.length) := carD_len _ _ _ _ q1.2.1 q2.2.1
      have hcr : Hid (∀ x ∈ carD rs xa cs 0, 0 ≤ x ∧ x ≤ 1) := carD_range rs xa cs 0 q1.1.2.1 q1.2 q2.2 (by omega)
      have hr1 : Hid (1 ≤ rs.length ∧ rs.length ≤ 10) := q1.1.1
      clear q1 q2
      go_enter Try.func24, Try.ntmps24
      go_wp2_with fail
      refine (c_i_MixedOk _ _ xa rs _ H.out F.out).mono ?_
      rintro e W1 ⟨rfl, hb1⟩
      go_wp2_with fail
      refine (c_i_MixedOk _ _ cs rs _ (G.out.below hb1) (F.out.below hb1)).mono ?_
      rintro e W2 ⟨rfl, hb2⟩
      have hB2 := hb1.trans (hb2.mono hb1.size)
      go_wp2_with fail
      refine (c_i_mixedSum _ _ _ xa cs rs _ (H.out.below hB2) (G.out.below hB2) (F.out.below hB2) A1 A2).mono ?_
      rintro e W3 ⟨v1, v2, rfl, ho1, ho2, hb3⟩
      have hB3 := hB2.trans (hb3.mono hB2.size)
      go_wp2_with fail
      refine (c_i_sumOf _ (carD rs xa cs 0) 1 _ ho2.rd (by show _ ≤ _; rw [hcl.out]; have := hr1.out; omega) (by omega) (by omega) hcr).mono ?_
      rintro e w' ⟨rfl, rfl⟩
      go_wp2
      go_ret
      exact ⟨ret_i hC.out.symm, hB3⟩

end Go.Proofs.Ytehlkoogpgcipaa
