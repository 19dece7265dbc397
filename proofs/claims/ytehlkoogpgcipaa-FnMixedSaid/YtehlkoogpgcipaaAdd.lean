/- Contracts of MixedAdd, MixedCarries and NextMixed, the program's and the reference's. -/
import Derived.Test.YtehlkoogpgcipaaMix
import Derived.Maps.AppendAt
namespace Go.Proofs.Ytehlkoogpgcipaa
open Go.RowKit

/-- Two slices of the call's own that lie apart. -/
def Apart (u v : Value) : Prop := u.ownBlock = none ∨ v.ownBlock = none ∨ u.ownBlock ≠ v.ownBlock
theorem Apart.ne {u v : Value} (h : Apart u v) : u.ownBlock = none ∨ u.ownBlock ≠ v.ownBlock := by
  rcases h with h | h | h
  · exact .inl h
  · cases hu : u.ownBlock with
    | none => exact .inl rfl
    | some k => exact .inr (by rw [h]; simp)
  · exact .inr h
theorem Apart.symm {u v : Value} (h : Apart u v) : Apart v u := by
  rcases h with h | h | h
  · exact .inr (.inl h)
  · exact .inl h
  · exact .inr (.inr (Ne.symm h))
theorem Own.dN {w : World} {B : Nat} {v : Value} {xs : List Int} (h : Own w B v xs) (n : Nat) : Own (w.drewN n) B v xs := h.below (below_dN (Below.refl _ _) _)
theorem Apart.step {w : World} {B : Nat} {u v v' : Value} {xs : List Int} {n : Nat} (h : Apart u v) (ho : Own w B u xs) (hn : w.heap.size ≤ n) (hat : v'.ownBlock = v.ownBlock ∨ v'.ownBlock = some n) : Apart u v' := by
  rcases hat with e | e
  · rcases h with h | h | h
    · exact .inl h
    · exact .inr (.inl (e.trans h))
    · exact .inr (.inr (by rw [e]; exact h))
  · cases hu : u.ownBlock with
    | none => exact .inl hu
    | some k =>
      have := (ho.lt k hu).2
      exact .inr (.inr (by rw [hu, e]; simp; omega))

theorem cell_dN (w : World) (n : Nat) (v : Value) (e : TypeId) : ((w.drewN n).alloc (.cells #[v] e)).cell? ⟨w.heap.size, 0, none⟩ = some v := by
  show ((w.drewN n).alloc (.cells #[v] e)).cell? ⟨(w.drewN n).heap.size, 0, none⟩ = some v
  rw [World.cell?_alloc_at _ _ _ _ rfl]; rfl

/-- append(s, y), and where the new slice lies. -/
theorem wpList_app2 (w : World) {ops : Array Oper} {rest : List Oper} {o : Oper} {a : Act} {Q : Exit → Act → World → Prop} (hgd : o.guard = none) (s x : Operand)
    (ho : o.op = .call { callee := .builtin .append, args := #[s, x], argTypes := #[23, 23] })
    (B : Nat) (w0 : World) (v : Value) (xs : List Int) (hs : a.eval s = v) (hown : Own w B v xs) (hB : Below B w0 w) (hBs : B ≤ w0.heap.size)
    (ad : Addr) (y : Int) (hx : a.eval x = .slice (some ad) 1 1) (hc : w.cell? ad = some (.int .i64 y)) (hy : bd y) (hlen : xs.length < 17592186044415)
    (h : ∀ v' w', Own w' B v' (xs ++ [y]) → Below B w0 w' → w.grownBy w' v.ownBlock → (v'.ownBlock = v.ownBlock ∨ v'.ownBlock = some w.heap.size) → wpList Try.prog ops Q rest (a.put o.dst v') w') : wpList Try.prog ops Q (o :: rest) a w := by
  obtain ⟨i0, hi, hz0, hz1, hz2⟩ := info_parts info_int
  refine wpList_append_own_at w hgd s x 23 ho B 3 i0 (.int .i64 0) 1 8 Try.underlying23 hi hz0 hz1 hz2 rfl (by decide) v _ _ hs hown.2 ad 1 1 [.int .i64 y] hx rfl ?_ ?_ ?_ ?_ ?_ ?_
  · intro j u hu
    match j, hu with
    | 0, hu => simp at hu; subst hu; rw [show ad.add 0 = ad from by obtain ⟨b, o, sp⟩ := ad; cases sp <;> simp [Addr.add]]; exact hc
  · intro u hu; simp at hu; subst hu; rfl
  · unfold maxLen; omega
  · omega
  · exact Nat.le_trans hBs hB.size
  · intro v' w' h1 h2 _ h4
    refine h v' w' ⟨?_, by simpa using h1⟩ (hB.grown h2 (Nat.le_trans hBs hB.size) (fun k hk => (hown.lt k hk).1)) h2 h4
    intro z hz
    rcases List.mem_append.1 hz with hz | hz
    · exact hown.1 z hz
    · simp at hz; subst hz; exact hy

/-- The digits of a sum, and the carries out of its places. -/
def addD : List Int → List Int → List Int → Int → List Int
  | r :: rs, x :: a, y :: c, k => (x + y + k) % r :: addD rs a c ((x + y + k) / r)
  | _, _, _, _ => []
def carD : List Int → List Int → List Int → Int → List Int
  | r :: rs, x :: a, y :: c, k => (x + y + k) / r :: carD rs a c ((x + y + k) / r)
  | _, _, _, _ => []
/-- The carry out of the last place. -/
def outD (rs a c : List Int) (k : Int) : Int := (carD rs a c k).foldl (fun _ x => x) k
theorem addD_drop {rs a c : List Int} {j : Nat} (k : Int) (h1 : j < rs.length) (h2 : j < a.length) (h3 : j < c.length) :
    addD (rs.drop j) (a.drop j) (c.drop j) k = (a.getD j 0 + c.getD j 0 + k) % rs.getD j 0 :: addD (rs.drop (j + 1)) (a.drop (j + 1)) (c.drop (j + 1)) ((a.getD j 0 + c.getD j 0 + k) / rs.getD j 0) := by
  rw [drop_step h1, drop_step h2, drop_step h3]; rfl
theorem carD_drop {rs a c : List Int} {j : Nat} (k : Int) (h1 : j < rs.length) (h2 : j < a.length) (h3 : j < c.length) :
    carD (rs.drop j) (a.drop j) (c.drop j) k = (a.getD j 0 + c.getD j 0 + k) / rs.getD j 0 :: carD (rs.drop (j + 1)) (a.drop (j + 1)) (c.drop (j + 1)) ((a.getD j 0 + c.getD j 0 + k) / rs.getD j 0) := by
  rw [drop_step h1, drop_step h2, drop_step h3]; rfl
theorem carD_len : ∀ (rs a c : List Int) (k : Int), a.length = rs.length → c.length = rs.length → (carD rs a c k).length = rs.length := by
  intro rs
  induction rs with
  | nil => intro a c k _ _; cases a <;> cases c <;> rfl
  | cons r rs ih =>
    intro a c k h1 h2
    cases a with
    | nil => simp at h1
    | cons x a => cases c with
      | nil => simp at h2
      | cons y c => simp [carD, ih a c _ (by simpa using h1) (by simpa using h2)]
theorem addD_len : ∀ (rs a c : List Int) (k : Int), a.length = rs.length → c.length = rs.length → (addD rs a c k).length = rs.length := by
  intro rs
  induction rs with
  | nil => intro a c k _ _; cases a <;> cases c <;> rfl
  | cons r rs ih =>
    intro a c k h1 h2
    cases a with
    | nil => simp at h1
    | cons x a => cases c with
      | nil => simp at h2
      | cons y c => simp [addD, ih a c _ (by simpa using h1) (by simpa using h2)]

/-- What one place does: its sum fits, its digit lies below the radix, its carry is 0 or 1. -/
theorem place_fits {x y r k : Int} (hr : 2 ≤ r ∧ r ≤ 60) (hx : 0 ≤ x ∧ x ≤ r - 1) (hy : 0 ≤ y ∧ y ≤ r - 1) (hk : 0 ≤ k ∧ k ≤ 1) :
    0 ≤ (x + y + k) / r ∧ (x + y + k) / r ≤ 1 ∧ 0 ≤ (x + y + k) % r ∧ (x + y + k) % r ≤ 60 := by
  have h1 : 0 ≤ (x + y + k) / r := Int.ediv_nonneg (by omega) (by omega)
  have h2 : (x + y + k) / r < 2 := Int.ediv_lt_of_lt_mul (by omega) (by omega)
  have h3 := Int.emod_nonneg (x + y + k) (show r ≠ 0 by omega)
  have h4 := Int.emod_lt_of_pos (x + y + k) (show 0 < r by omega)
  omega

theorem mok_of {ds rs : List Int} (h : mokB ds rs = true) : ((1 ≤ rs.length ∧ rs.length ≤ 10) ∧ (∀ x ∈ rs, 2 ≤ x ∧ x ≤ 60) ∧ prodL rs ≤ 1000000000000) ∧ isMP ds rs := by
  unfold mokB at h
  rw [Bool.and_eq_true] at h
  exact ⟨rok_of h.1, of_decide_eq_true h.2⟩
theorem isMP_at {ds rs : List Int} (h : isMP ds rs) {j : Nat} (hj : j < ds.length) : 0 ≤ ds.getD j 0 ∧ ds.getD j 0 ≤ rs.getD j 0 - 1 := inB_yes (h.2 j hj)

set_option maxHeartbeats 1600000 in
theorem c_i_mixedSum (u v z : Value) (xa cs rs : List Int) (w : World) (h : Rd w u xa) (g : Rd w v cs) (f : Rd w z rs) (ha : Hid (mokB xa rs = true)) (hb0 : Hid (mokB cs rs = true)) :
    Calls Try.prog 47 #[u, v, z] w fun e w' => ∃ v1 v2, e = .returned (.tuple #[v1, v2]) ∧ Own w' w.heap.size v1 (addD rs xa cs 0) ∧ Own w' w.heap.size v2 (carD rs xa cs 0) ∧ Below w.heap.size w w' := by
  obtain ⟨a1, cap1, n, rfl, HN, hm, hc, hcm, hcell⟩ := h.open
  obtain ⟨a2, cap2, n2, rfl, HN2, hm2, hc2, hcm2, hcell2⟩ := g.open
  obtain ⟨a3, cap3, n3, rfl, HN3, hm3, hc3, hcm3, hcell3⟩ := f.open
  have q1 := mok_of ha.out
  have q2 := mok_of hb0.out
  have hrr : Hid (∀ x ∈ rs, 2 ≤ x ∧ x ≤ 60) := q1.1.2.1
  have hma : Hid (isMP xa rs) := q1.2
  have hmc : Hid (isMP cs rs) := q2.2
  have hn10 : n3 ≤ 10 := by rw [← HN3.out]; exact q1.1.1.2
  obtain rfl : n = n3 := by rw [← HN.out, ← HN3.out]; exact q1.2.1
  obtain rfl : n2 = n := by rw [← HN2.out, ← HN3.out]; exact q2.2.1
  clear q1 q2 h g f ha hb0
  go_enter Try.func47, Try.ntmps47
  go_wp2
  go_loopw [8, 9, 10, 11, 12, 13, 16] (fun v1 v2 s _ _ _ i wr => ∃ (k : Nat) (q : Int) (ys zs : List Int), k ≤ n2 ∧ (0 ≤ q ∧ q ≤ 1) ∧ i = .int .i64 k ∧ s = .int .i64 q ∧ (ys.length = k ∧ zs.length = k) ∧ Own wr w.heap.size v1 ys ∧ Own wr w.heap.size v2 zs ∧ Apart v1 v2 ∧
      Hid (ys ++ addD (rs.drop k) (xa.drop k) (cs.drop k) q = addD rs xa cs 0) ∧ Hid (zs ++ carD (rs.drop k) (xa.drop k) (cs.drop k) q = carD rs xa cs 0) ∧ Below w.heap.size w wr) (fun _ _ _ _ _ _ i _ => n2 - (intOf i).toNat)
  case atStart => exact ⟨0, 0, [], [], by omega, by omega, rfl, rfl, ⟨rfl, rfl⟩, Own.nil _ _, Own.nil _ _, .inl rfl, by simp [Hid], by simp [Hid], Below.refl _ _⟩
  case round =>
    obtain ⟨k, q, ys, zs, hk, hkk, rfl, rfl, hyl, ho1, ho2, hap, hq1, hq2, hb⟩ := hrel
    have HAp := Lib.hid hap
    clear hap
    have HY := Lib.hid hyl
    have HK := Lib.hid hkk
    have hkc := hkk
    clear hyl hkk
    by_cases hlt : k < n2
    · obtain ⟨b, off, rfl, hbl, x, hx, hbd, hcx⟩ := hcell k hlt
      obtain ⟨b2, off2, rfl, hbl2, y, hy, hbd2, hcy⟩ := hcell2 k hlt
      obtain ⟨b3, off3, rfl, hbl3, r, hr, hbd3, hcz⟩ := hcell3 k hlt
      have hcr : wr.cell? ⟨b, off + k, none⟩ = some (.int .i64 x) := (hb.cell (by exact hbl)).trans hcx
      have hcr2 : wr.cell? ⟨b2, off2 + k, none⟩ = some (.int .i64 y) := (hb.cell (by exact hbl2)).trans hcy
      have hcr3 : wr.cell? ⟨b3, off3 + k, none⟩ = some (.int .i64 r) := (hb.cell (by exact hbl3)).trans hcz
      have hr0 := hrr.out r (by rw [← hr.out]; exact getD_mem (by rw [HN3.out]; exact hlt))
      have hx0 := isMP_at hma.out (j := k) (by rw [HN.out]; exact hlt)
      have hy0 := isMP_at hmc.out (j := k) (by rw [HN2.out]; exact hlt)
      rw [hx.out, hr.out] at hx0
      rw [hy.out, hr.out] at hy0
      have hpf := place_fits hr0 hx0 hy0 hkc
      have hi1 : (k : Int) < (n2 : Int) := by omega
      have hs0 : 0 ≤ x + y + q := by omega
      have hs1 : x + y + q ≤ 120 := by omega
      have hA : Hid ((ys ++ [(x + y + q) % r]) ++ addD (rs.drop (k + 1)) (xa.drop (k + 1)) (cs.drop (k + 1)) ((x + y + q) / r) = addD rs xa cs 0) := by
        show _ = _
        rw [← hq1.out, addD_drop (rs := rs) (a := xa) (c := cs) (j := k) q (by rw [HN3.out]; exact hlt) (by rw [HN.out]; exact hlt) (by rw [HN2.out]; exact hlt), hx.out, hy.out, hr.out]; simp
      have hC : Hid ((zs ++ [(x + y + q) / r]) ++ carD (rs.drop (k + 1)) (xa.drop (k + 1)) (cs.drop (k + 1)) ((x + y + q) / r) = carD rs xa cs 0) := by
        show _ = _
        rw [← hq2.out, carD_drop (rs := rs) (a := xa) (c := cs) (j := k) q (by rw [HN3.out]; exact hlt) (by rw [HN.out]; exact hlt) (by rw [HN2.out]; exact hlt), hx.out, hy.out, hr.out]; simp
      have hl1 : Hid (ys.length < 17592186044415) := by show _ < _; rw [HY.out.1]; omega
      have hl2 : Hid (zs.length < 17592186044415) := by show _ < _; rw [HY.out.2]; omega
      have hl3 : Hid ((ys ++ [(x + y + q) % r]).length = k + 1 ∧ (zs ++ [(x + y + q) / r]).length = k + 1) := by constructor <;> simp [HY.out.1, HY.out.2]
      clear hcell hcell2 hcell3 hcx hcy hcz hx hy hr hq1 hq2 hkc HK
      go_wp2
      go_quiet (fail)
      go_wp2_with (first | (at_builtin; refine wpList_app2 _ rfl (.tmp 35) (.tmp 39) rfl w.heap.size w _ ys rfl ((ho1.dN _).alloc _) ((below_dN hb _).alloc hb.size _) (Nat.le_refl _) ⟨wr.heap.size, 0, none⟩ ((x + y + q) % r) rfl (cell_dN _ _ _ _) (by unfold bd; omega) hl1.out ?_; intro v1' w1 hown1 hb1 hg1 hat1; have ho2' := ((ho2.dN _).alloc _).kept hg1 HAp.out.symm.ne; have hap1 := Lib.hid (HAp.out.symm.step ho2 (by simp) hat1); clear ho1 ho2 hg1 hat1) | (at_builtin; refine wpList_app2 _ rfl (.tmp 41) (.tmp 43) rfl w.heap.size w _ zs rfl (ho2'.alloc _) (hb1.alloc hb1.size _) (Nat.le_refl _) ⟨w1.heap.size, 0, none⟩ ((x + y + q) / r) rfl (by simp) (by unfold bd; omega) hl2.out ?_; intro v2' w2 hown2 hb2 hg2 hat2; have hown1' := (hown1.alloc _).kept hg2 hap1.out.symm.ne; have hap2 := Lib.hid (hap1.out.symm.step hown1 (by simp) hat2); clear hown1 ho2' hg2 hat2 hap1))
      go_wp2
      go_roundw
      case rel => exact ⟨k + 1, (x + y + q) / r, ys ++ [(x + y + q) % r], zs ++ [(x + y + q) / r], by omega, by omega, by go_num, rfl, hl3.out, hown1', hown2, hap2.out, hA, hC, hb2⟩
      case measure => simp [intOf]; omega
    · have hf1 : Hid (ys = addD rs xa cs 0) := by
        show _ = _
        have e0 : rs.drop k = [] := List.drop_eq_nil_of_le (by rw [HN3.out]; omega)
        rw [← hq1.out, e0]; simp [addD]
      have hf2 : Hid (zs = carD rs xa cs 0) := by
        show _ = _
        have e0 : rs.drop k = [] := List.drop_eq_nil_of_le (by rw [HN3.out]; omega)
        rw [← hq2.out, e0]; simp [carD]
      clear hcell hcell2 hcell3 hq1 hq2
      go_wp2
      go_ret2
      exact ⟨_, _, rfl, by rw [← hf1.out]; exact ho1, by rw [← hf2.out]; exact ho2, hb⟩

end Go.Proofs.Ytehlkoogpgcipaa
