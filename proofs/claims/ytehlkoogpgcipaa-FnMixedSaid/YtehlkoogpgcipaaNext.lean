/- Contracts of NextMixed, the program's and the reference's. -/
import Derived.Test.YtehlkoogpgcipaaAdd2
namespace Go.Proofs.Ytehlkoogpgcipaa
open Go.RowKit

/-- The digits of the next number. -/
def nextD : List Int → List Int → List Int
  | r :: rs, d :: ds => if d < r - 1 then (d + 1) :: ds else 0 :: nextD rs ds
  | _, ds => ds

theorem ediv_emod (N R P : Nat) : (N : Int) % ((R : Int) * P) / R = (N : Int) / R % P := by
  have h := Nat.mod_mul_right_div_self N R P
  have h2 : ((N % (R * P) / R : Nat) : Int) = ((N / R % P : Nat) : Int) := by rw [h]
  simpa using h2

theorem mixD_mod : ∀ (rs : List Int) (n : Int), (∀ x ∈ rs, 2 ≤ x ∧ x ≤ 60) → 0 ≤ n → mixD rs (n % prodL rs) = mixD rs n := by
  intro rs
  induction rs with
  | nil => intro n _ _; rfl
  | cons r rs ih =>
    intro n hr hn
    have h1 := hr r (List.mem_cons_self ..)
    have h2 : 1 ≤ prodL rs := prodL_pos fun x hx => by have := hr x (List.mem_cons_of_mem _ hx); omega
    have hrs : ∀ x ∈ rs, 2 ≤ x ∧ x ≤ 60 := fun x hx => hr x (List.mem_cons_of_mem _ hx)
    rw [prodL_cons]
    show n % (r * prodL rs) % r :: mixD rs (n % (r * prodL rs) / r) = n % r :: mixD rs (n / r)
    have e1 : n % (r * prodL rs) % r = n % r := Int.emod_emod_of_dvd n (Int.dvd_mul_right ..)
    have e2 : n % (r * prodL rs) / r = n / r % prodL rs := by
      obtain ⟨N, rfl⟩ := Int.eq_ofNat_of_zero_le hn
      obtain ⟨R, rfl⟩ := Int.eq_ofNat_of_zero_le (show 0 ≤ r by omega)
      obtain ⟨P, hP⟩ := Int.eq_ofNat_of_zero_le (show 0 ≤ prodL rs by omega)
      rw [hP]
      exact ediv_emod N R P
    rw [e1, e2, ih _ hrs (Int.ediv_nonneg hn (by omega))]

theorem mix_low {V r d : Int} (hr : 2 ≤ r) (hd : 0 ≤ d ∧ d ≤ r - 1) : (V * r + d) % r = d ∧ (V * r + d) / r = V := by
  have e : V * r + d = d + V * r := by omega
  constructor
  · rw [e, Int.add_mul_emod_self_right]; exact Int.emod_eq_of_lt hd.1 (by omega)
  · rw [e, Int.add_mul_ediv_right _ _ (by omega), Int.ediv_eq_zero_of_lt hd.1 (by omega)]; omega

theorem mixD_mhv : ∀ (rs ds : List Int), (∀ x ∈ rs, 2 ≤ x ∧ x ≤ 60) → isMP ds rs → mixD rs (mhv rs ds) = ds := by
  intro rs
  induction rs with
  | nil => intro ds _ h; cases ds with
    | nil => rfl
    | cons d ds => exact absurd h.1 (by simp)
  | cons r rs ih =>
    intro ds hr h
    cases ds with
    | nil => exact absurd h.1 (by simp)
    | cons d ds =>
      obtain ⟨h1, h2⟩ := isMP_cons h
      have h3 := mix_low (V := mhv rs ds) (hr r (List.mem_cons_self ..)).1 h1
      show (mhv rs ds * r + d) % r :: mixD rs ((mhv rs ds * r + d) / r) = d :: ds
      rw [h3.1, h3.2, ih ds (fun x hx => hr x (List.mem_cons_of_mem _ hx)) h2]

theorem mixD_next : ∀ (rs ds : List Int), (∀ x ∈ rs, 2 ≤ x ∧ x ≤ 60) → isMP ds rs → mixD rs (mhv rs ds + 1) = nextD rs ds := by
  intro rs
  induction rs with
  | nil => intro ds _ h; cases ds with
    | nil => rfl
    | cons d ds => exact absurd h.1 (by simp)
  | cons r rs ih =>
    intro ds hr h
    cases ds with
    | nil => exact absurd h.1 (by simp)
    | cons d ds =>
      obtain ⟨h1, h2⟩ := isMP_cons h
      have hr0 := hr r (List.mem_cons_self ..)
      have hrs : ∀ x ∈ rs, 2 ≤ x ∧ x ≤ 60 := fun x hx => hr x (List.mem_cons_of_mem _ hx)
      show (mhv rs ds * r + d + 1) % r :: mixD rs ((mhv rs ds * r + d + 1) / r) = if d < r - 1 then (d + 1) :: ds else 0 :: nextD rs ds
      by_cases hd : d < r - 1
      · have h3 := mix_low (V := mhv rs ds) (d := d + 1) hr0.1 ⟨by omega, by omega⟩
        rw [if_pos hd, Int.add_assoc, h3.1, h3.2, mixD_mhv rs ds hrs h2]
      · have h3 := mix_low (V := mhv rs ds + 1) (d := 0) hr0.1 ⟨by omega, by omega⟩
        have e : mhv rs ds * r + d + 1 = (mhv rs ds + 1) * r + 0 := by rw [Int.add_mul]; omega
        rw [if_neg hd, e, h3.1, h3.2, ih ds hrs h2]

/-- What NextMixed gives. -/
def nmV (ds rs : List Int) : List Int := if mokB ds rs then nextD rs ds else []
theorem nextD_len : ∀ (rs ds : List Int), (nextD rs ds).length = ds.length := by
  intro rs
  induction rs with
  | nil => intro ds; cases ds <;> rfl
  | cons r rs ih => intro ds; cases ds with
    | nil => rfl
    | cons d ds => simp only [nextD]; split <;> simp [ih]
theorem nmV_len (ds rs : List Int) : (nmV ds rs).length ≤ 1048576 := by
  unfold nmV
  split
  · rename_i h
    have h1 := mok_of h
    rw [nextD_len, h1.2.1]; omega
  · simp

set_option maxHeartbeats 800000 in
theorem c_i_NextMixed (u v : Value) (ds rs : List Int) (w : World) (h : Rd w u ds) (g : Rd w v rs) :
    Calls Try.prog 22 #[u, v] w fun e w' => ∃ v', e = .returned v' ∧ Own w' w.heap.size v' (nmV ds rs) ∧ Below w.heap.size w w' := by
  have H := Lib.hid h
  have G := Lib.hid g
  clear h g
  cases e1 : mokB ds rs
  · have hV : Hid (nmV ds rs = []) := by simp [Hid, nmV, e1]
    go_enter Try.func22, Try.ntmps22
    go_wp2_with (go_at_call 20; refine (c_i_MixedOk _ _ ds rs _ H.out G.out).mono ?_; rintro e W1 ⟨rfl, hb⟩)
    go_ret
    exact ⟨_, rfl, by rw [hV.out]; exact Own.nil _ _, hb⟩
  · have q1 := mok_of e1
    have A1 := Lib.hid e1
    have hl : Hid (rs.length ≤ 10) := q1.1.1.2
    have hx : Hid (∀ x ∈ rs, 2 ≤ x ∧ x ≤ 60) := q1.1.2.1
    have hbo := mhv_bound rs ds q1.1.2.1 q1.2
    have hp1 : prodL rs ≤ 1000000000000 := q1.1.2.2
    have hp0 : 1 ≤ prodL rs := prodL_pos fun x hx => by have := q1.1.2.1 x hx; omega
    have hV : Hid (nmV ds rs = mixD rs ((mhv rs ds + 1) % prodL rs)) := by
      show _ = _
      rw [mixD_mod rs _ q1.1.2.1 (by omega), mixD_next rs ds q1.1.2.1 q1.2]; simp [nmV, e1]
    have e0 := Int.emod_nonneg (mhv rs ds + 1) (show prodL rs ≠ 0 by omega)
    have e2 := Int.emod_lt_of_pos (mhv rs ds + 1) (show 0 < prodL rs by omega)
    obtain ⟨N, hN⟩ := Int.eq_ofNat_of_zero_le e0
    have hN1 : N ≤ 1000000000000 := by omega
    have HNN := Lib.hid hN
    clear q1 e1 hN e0 e2
    go_enter Try.func22, Try.ntmps22
    go_wp2_with fail
    refine (c_i_MixedOk _ _ ds rs _ H.out G.out).mono ?_
    rintro e W1 ⟨rfl, hb1⟩
    rw [A1.out]
    go_wp2_with fail
    refine (c_i_mixedValue _ _ ds rs _ (H.out.below hb1) (G.out.below hb1) A1).mono ?_
    rintro e W2 ⟨rfl, hb2⟩
    have hB2 := hb1.trans (hb2.mono hb1.size)
    go_wp2_with fail
    refine (c_i_product _ rs _ (G.out.below hB2) hl hx).mono ?_
    rintro e w' ⟨rfl, rfl⟩
    go_wp2_with fail
    rw [HNN.out]
    refine (c_i_mixed N _ rs _ (G.out.below hB2) hN1 hl hx).mono ?_
    rintro e W3 ⟨v', rfl, ho, hb3⟩
    go_wp2
    go_ret
    exact ⟨_, rfl, by rw [hV.out, HNN.out]; exact ho.mono hB2.size, hB2.trans (hb3.mono hB2.size)⟩

/-- append(s, xs...), s one of the call's own, xs read. -/
theorem wpList_appL (w : World) {ops : Array Oper} {rest : List Oper} {o : Oper} {a : Act} {Q : Exit → Act → World → Prop} (hgd : o.guard = none) (s x : Operand)
    (ho : o.op = .call { callee := .builtin .append, args := #[s, x], argTypes := #[23, 23] })
    (B : Nat) (w0 : World) (v : Value) (xs : List Int) (hs : a.eval s = v) (hown : Own w B v xs) (hB : Below B w0 w) (hBs : B ≤ w0.heap.size)
    (b off n cap : Nat) (ys : List Int) (hx : a.eval x = .slice (some ⟨b, off, none⟩) n cap) (hrd : Rd w (.slice (some ⟨b, off, none⟩) n cap) ys) (hn : Hid (ys.length = n)) (hn0 : 0 < n) (hlen : xs.length + n < 17592186044415)
    (h : ∀ v' w', Own w' B v' (xs ++ ys) → Below B w0 w' → w.grownBy w' v.ownBlock → wpList Try.prog ops Q rest (a.put o.dst v') w') : wpList Try.prog ops Q (o :: rest) a w := by
  obtain ⟨i0, hi, hz0, hz1, hz2⟩ := info_parts info_int
  have hn' : ys.length = n := hn
  refine wpList_append_own w hgd s x 23 ho B 3 i0 (.int .i64 0) 1 8 Try.underlying23 hi hz0 hz1 hz2 rfl (by decide) v _ _ hs hown.2 ⟨b, off, none⟩ n cap (ys.map (Value.int .i64)) hx (by simp [hn']) ?_ ?_ ?_ ?_ ?_ ?_
  · intro j u hu
    obtain ⟨_, a', cap', e, _, _, hcell⟩ := hrd
    cases e
    obtain ⟨b', off', e', _, hcell⟩ := hcell (by omega)
    cases e'
    rw [List.getElem?_map] at hu
    obtain ⟨y, hy, rfl⟩ := Option.map_eq_some_iff.1 hu
    have hj : j < ys.length := (List.getElem?_eq_some_iff.1 hy).1
    have hadd : (⟨b, off, none⟩ : Addr).add j = ⟨b, off + j, none⟩ := by unfold Addr.add; split <;> simp_all
    rw [hadd, hcell j hj, List.getD_eq_getElem?_getD, hy]; rfl
  · intro u hu
    obtain ⟨y, _, rfl⟩ := List.mem_map.1 hu
    rfl
  · unfold maxLen; omega
  · omega
  · exact Nat.le_trans hBs hB.size
  · intro v' w' h1 h2 _
    refine h v' w' ⟨?_, by simpa [hn'] using h1⟩ (hB.grown h2 (Nat.le_trans hBs hB.size) (fun k hk => (hown.lt k hk).1)) h2
    intro z hz
    rcases List.mem_append.1 hz with hz | hz
    · exact hown.1 z hz
    · exact hrd.1 z hz

theorem rep_set (k : Nat) (ds : List Int) (v : Int) (h : k < ds.length) : (List.replicate k (0 : Int) ++ ds.drop k).set k v = List.replicate k 0 ++ v :: ds.drop (k + 1) := by
  rw [List.set_append_right _ _ (by simp), drop_step h]; simp

theorem rep_get (k : Nat) (ds : List Int) : (List.replicate k (0 : Int) ++ ds.drop k).getD k 0 = ds.getD k 0 := by
  rw [List.getD_eq_getElem?_getD, List.getElem?_append_right (by simp)]; simp [List.getD_eq_getElem?_getD]

set_option maxHeartbeats 1600000 in
theorem c_s_NextMixed (u v : Value) (ds rs : List Int) (w : World) (h : Rd w u ds) (g : Rd w v rs) :
    Calls Try.prog 37 #[u, v] w fun e w' => ∃ v', e = .returned v' ∧ Own w' w.heap.size v' (nmV ds rs) ∧ Below w.heap.size w w' := by
  obtain ⟨a, cap, n, rfl, HN, hm, hc, hcm, hcell0⟩ := h.open
  obtain ⟨a2, cap2, n2, rfl, HN2, hm2, hc2, hcm2, hcell⟩ := g.open
  have H := Lib.hid h
  have G := Lib.hid g
  clear h g
  cases e1 : mokB ds rs
  · have hV : Hid (nmV ds rs = []) := by simp [Hid, nmV, e1]
    clear hcell hcell0
    go_enter Try.func37, Try.ntmps37
    go_wp2_with (go_at_call 30; refine (c_s_MixedOk _ _ ds rs _ H.out G.out).mono ?_; rintro e w' ⟨rfl, rfl⟩)
    go_ret
    exact ⟨_, rfl, by rw [hV.out]; exact Own.nil _ _, Below.refl _ _⟩
  · have q1 := mok_of e1
    have hrr : Hid (∀ x ∈ rs, 2 ≤ x ∧ x ≤ 60) := q1.1.2.1
    have hmp : Hid (isMP ds rs) := q1.2
    have hn10 : n2 ≤ 10 := by rw [← HN2.out]; exact q1.1.1.2
    have hn1 : 1 ≤ n2 := by rw [← HN2.out]; exact q1.1.1.1
    obtain rfl : n = n2 := by rw [← HN.out, ← HN2.out]; exact q1.2.1
    have hV : Hid (nmV ds rs = nextD rs ds) := by simp [Hid, nmV, e1]
    have A1 := Lib.hid e1
    obtain ⟨b0, off0, rfl, -, -, -, -, -⟩ := hcell0 0 (by omega)
    clear q1 e1 hcell0
    go_enter Try.func37, Try.ntmps37
    go_wp2_with (first | (go_at_call 30; refine (c_s_MixedOk _ _ ds rs _ H.out G.out).mono ?_; rintro e w' ⟨rfl, rfl⟩; rw [A1.out]) | (at_builtin; refine wpList_appL _ rfl _ _ rfl w.heap.size w _ [] rfl (Own.empty _ _ (Nat.le_refl _)) ((Below.refl _ _).alloc (Nat.le_refl _) _) (Nat.le_refl _) b0 off0 n cap ds rfl (H.out.below ((Below.refl _ _).alloc (Nat.le_refl _) _)) HN (by omega) (by simp; omega) ?_; intro v1 w1 hown1 hb1 _; simp only [List.nil_append] at hown1; obtain ⟨a', cap', N', rfl, HN', hc', hcm', hcell'⟩ := hown1.open; obtain rfl := HN.out.symm.trans HN'.out))
    go_loopw [6, 7, 17] (fun _ _ i wr => ∃ k : Nat, k ≤ n ∧ i = .int .i64 k ∧ Own wr w.heap.size (.slice a' n cap') (List.replicate k 0 ++ ds.drop k) ∧ Hid (List.replicate k 0 ++ nextD (rs.drop k) (ds.drop k) = nextD rs ds) ∧ Below w.heap.size w wr) (fun _ _ i _ => n - (intOf i).toNat)
    case atStart => exact ⟨0, by omega, rfl, by simpa using hown1, by simp [Hid], hb1⟩
    case round =>
      obtain ⟨k, hk, rfl, hown, hq, hb⟩ := hrel
      by_cases hlt : k < n
      · obtain ⟨b, off, rfl, hbl, r, hr, hbd, hcx⟩ := hcell k hlt
        obtain ⟨g, rfl, hg1, hg2⟩ := hcell' k hlt
        have hcr : wr.cell? ⟨b, off + k, none⟩ = some (.int .i64 r) := (hb.cell (by exact hbl)).trans hcx
        have hlen : (List.replicate k (0 : Int) ++ ds.drop k).length = n := by rw [List.length_append, List.length_replicate, List.length_drop, HN.out]; omega
        obtain ⟨hfz, x, hx, hcy⟩ := hown.at (k := k) (by rw [hlen]; exact hlt)
        rw [rep_get k ds] at hx
        have hr0 := hrr.out r (by rw [← hr.out]; exact getD_mem (by rw [HN2.out]; exact hlt))
        have hx0 := isMP_at hmp.out (j := k) (by rw [HN.out]; exact hlt)
        rw [hx, hr.out] at hx0
        have hnd : nextD (rs.drop k) (ds.drop k) = if x < r - 1 then (x + 1) :: ds.drop (k + 1) else 0 :: nextD (rs.drop (k + 1)) (ds.drop (k + 1)) := by
          rw [drop_step (xs := rs) (k := k) (by rw [HN2.out]; exact hlt), drop_step (xs := ds) (k := k) (by rw [HN.out]; exact hlt), hx, hr.out]; rfl
        by_cases hxr : x < r - 1
        · have hst := (hown.stored hlen.symm k (x + 1) (by unfold bd; omega)).1
          rw [rep_set k ds (x + 1) (by rw [HN.out]; exact hlt)] at hst
          have hfin : Hid (List.replicate k 0 ++ (x + 1) :: ds.drop (k + 1) = nmV ds rs) := by
            show _ = _
            rw [hV.out, ← hq.out, hnd, if_pos hxr]
          clear hcell hcell' hcx hown hlen hx hr hnd hq
          go_wp2
          go_ret
          exact ⟨_, rfl, by rw [← hfin.out]; exact hst, hb.setCell hg1 _⟩
        · have hxr' : r - 1 ≤ x := by omega
          have hst := (hown.stored hlen.symm k 0 (by unfold bd; omega)).1
          rw [rep_set k ds 0 (by rw [HN.out]; exact hlt)] at hst
          have hst2 : Own (wr.setCell ⟨g, k, none⟩ (.int .i64 0)) w.heap.size (.slice (some ⟨g, 0, none⟩) n cap') (List.replicate (k + 1) 0 ++ ds.drop (k + 1)) := by
            rw [List.replicate_succ', List.append_assoc]; exact hst
          have hq2 : Hid (List.replicate (k + 1) 0 ++ nextD (rs.drop (k + 1)) (ds.drop (k + 1)) = nextD rs ds) := by
            show _ = _
            rw [← hq.out, hnd, if_neg hxr, List.replicate_succ', List.append_assoc]; rfl
          clear hcell hcell' hcx hown hlen hx hr hnd hq hst hxr
          go_wp2
          go_roundw
          case rel => exact ⟨k + 1, by omega, by go_num, hst2, hq2, hb.setCell hg1 _⟩
          case measure => simp [intOf]; omega
      · have hfin : Hid (List.replicate k 0 ++ ds.drop k = nmV ds rs) := by
          show _ = _
          have e0 : ds.drop k = [] := List.drop_eq_nil_of_le (by rw [HN.out]; omega)
          have e2 : rs.drop k = [] := List.drop_eq_nil_of_le (by rw [HN2.out]; omega)
          rw [hV.out, ← hq.out, e0, e2]; rfl
        clear hcell hcell' hq
        go_wp2
        go_ret
        exact ⟨_, rfl, by rw [← hfin.out]; exact hown, hb⟩

end Go.Proofs.Ytehlkoogpgcipaa
