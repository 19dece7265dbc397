/- The plain law of FnMixed: what mixed digits, their sums and their carries satisfy. No program is in sight. -/
import Derived.Test.YtehlkoogpgcipaaNext
namespace Go.Proofs.Ytehlkoogpgcipaa
open Go.RowKit

theorem mhv_mixD : ∀ (rs : List Int) (m : Int), (∀ x ∈ rs, 2 ≤ x ∧ x ≤ 60) → 0 ≤ m → mhv rs (mixD rs m) = m % prodL rs := by
  intro rs
  induction rs with
  | nil => intro m _ _; simp [mhv, prodL, Int.emod_one]
  | cons r rs ih =>
    intro m hx h0
    have hr := hx r (List.mem_cons_self ..)
    have hq : 0 ≤ m / r := Int.ediv_nonneg h0 (by omega)
    have hi := ih (m / r) (fun x h => hx x (List.mem_cons_of_mem _ h)) hq
    have hp := prodL_pos (l := rs) fun x h => by have := hx x (List.mem_cons_of_mem _ h); omega
    show mhv rs (mixD rs (m / r)) * r + m % r = _
    rw [hi, prodL_cons]
    have e := ediv_emod m.toNat r.toNat (prodL rs).toNat
    rw [Int.toNat_of_nonneg h0, Int.toNat_of_nonneg (by omega), Int.toNat_of_nonneg (by omega)] at e
    rw [← e]
    have h2 := Int.mul_ediv_add_emod (m % (r * prodL rs)) r
    have h3 : m % (r * prodL rs) % r = m % r := Int.emod_emod_of_dvd m (Int.dvd_mul_right r (prodL rs))
    rw [h3, Int.mul_comm] at h2
    exact h2
theorem isMP_mixD : ∀ (rs : List Int) (m : Int), (∀ x ∈ rs, 2 ≤ x ∧ x ≤ 60) → isMP (mixD rs m) rs := by
  intro rs
  induction rs with
  | nil => intro m _; exact ⟨rfl, fun j hj => by simp [mixD] at hj⟩
  | cons r rs ih =>
    intro m hx
    have hr := hx r (List.mem_cons_self ..)
    have hi := ih (m / r) fun x h => hx x (List.mem_cons_of_mem _ h)
    refine ⟨by simp [mixD, mixD_len], fun j hj => ?_⟩
    cases j with
    | zero =>
      have h1 := Int.emod_nonneg m (show r ≠ 0 by omega)
      have h2 := Int.emod_lt_of_pos m (show 0 < r by omega)
      exact inB_mk (show 0 ≤ m % r ∧ m % r ≤ r - 1 by omega)
    | succ j =>
      have := hi.2 j (by simpa [mixD] using hj)
      simpa [mixD] using this

/-- Sums with carries. -/
theorem add_value : ∀ (rs a c : List Int) (k : Int), a.length = rs.length → c.length = rs.length → mhv rs (addD rs a c k) + outD rs a c k * prodL rs = mhv rs a + mhv rs c + k := by
  intro rs
  induction rs with
  | nil => intro a c k h1 h2; cases a <;> cases c <;> simp_all [mhv, outD, carD, prodL]
  | cons r rs ih =>
    intro a c k h1 h2
    cases a with
    | nil => simp at h1
    | cons x a => cases c with
      | nil => simp at h2
      | cons y c =>
        have hi := ih a c ((x + y + k) / r) (by simpa using h1) (by simpa using h2)
        have hs := Int.mul_ediv_add_emod (x + y + k) r
        show mhv rs (addD rs a c ((x + y + k) / r)) * r + (x + y + k) % r + outD rs a c ((x + y + k) / r) * prodL (r :: rs) = mhv rs a * r + x + (mhv rs c * r + y) + k
        rw [prodL_cons]
        generalize (x + y + k) / r = q at *
        generalize (x + y + k) % r = t at *
        generalize mhv rs (addD rs a c q) = A at *
        generalize outD rs a c q = O at *
        generalize prodL rs = P at *
        have e1 : O * (r * P) = (O * P) * r := by rw [Int.mul_comm r P, Int.mul_assoc]
        have e2 : (A + O * P) * r = (mhv rs a + mhv rs c + q) * r := by rw [hi]
        rw [Int.add_mul, Int.add_mul, Int.add_mul] at e2
        rw [Int.mul_comm r q] at hs
        omega
theorem add_sums (b : Int) : ∀ (rs a c : List Int) (k : Int), (∀ x ∈ rs, x = b) → a.length = rs.length → c.length = rs.length →
    sumL a + sumL c - sumL (addD rs a c k) = (b - 1) * sumL (carD rs a c k) + outD rs a c k - k := by
  intro rs
  induction rs with
  | nil => intro a c k _ h1 h2; cases a <;> cases c <;> simp_all [addD, outD, carD, sumL]
  | cons r rs ih =>
    intro a c k hb h1 h2
    cases a with
    | nil => simp at h1
    | cons x a => cases c with
      | nil => simp at h2
      | cons y c =>
        obtain rfl := hb r (List.mem_cons_self ..)
        have hi := ih a c ((x + y + k) / r) (fun z h => hb z (List.mem_cons_of_mem _ h)) (by simpa using h1) (by simpa using h2)
        have hs := Int.mul_ediv_add_emod (x + y + k) r
        have ho : outD (r :: rs) (x :: a) (y :: c) k = outD rs a c ((x + y + k) / r) := rfl
        show sumL (x :: a) + sumL (y :: c) - sumL ((x + y + k) % r :: addD rs a c ((x + y + k) / r)) = (r - 1) * sumL ((x + y + k) / r :: carD rs a c ((x + y + k) / r)) + outD (r :: rs) (x :: a) (y :: c) k - k
        rw [ho, sumL_cons, sumL_cons, sumL_cons, sumL_cons]
        generalize (x + y + k) / r = q at *
        generalize (x + y + k) % r = t at *
        rw [Int.mul_add, Int.sub_mul r 1 q, Int.one_mul]
        omega
theorem out_le_sum : ∀ (rs a c : List Int) (k : Int), 0 ≤ k → (∀ x ∈ carD rs a c k, 0 ≤ x) → outD rs a c k ≤ sumL (carD rs a c k) + k := by
  intro rs
  induction rs with
  | nil => intro a c k _ _; cases a <;> cases c <;> simp [outD, carD, sumL]
  | cons r rs ih =>
    intro a c k hk h
    cases a with
    | nil => simp [outD, carD, sumL]
    | cons x a => cases c with
      | nil => simp [outD, carD, sumL]
      | cons y c =>
        have h0 : 0 ≤ (x + y + k) / r := h _ (List.mem_cons_self ..)
        have hi := ih a c ((x + y + k) / r) h0 fun z hz => h z (List.mem_cons_of_mem _ hz)
        have ho : outD (r :: rs) (x :: a) (y :: c) k = outD rs a c ((x + y + k) / r) := rfl
        have hc : carD (r :: rs) (x :: a) (y :: c) k = (x + y + k) / r :: carD rs a c ((x + y + k) / r) := rfl
        rw [ho, hc, sumL_cons]
        omega

/-- Radices of the laws: they are such. -/
theorem rok_mk {l : List Int} (h1 : 1 ≤ l.length) (h2 : l.length ≤ 10) (hx : ∀ x ∈ l, 2 ≤ x ∧ x ≤ 60) (hp : prodL l ≤ 1000000000000) : rokB l = true := by
  unfold rokB
  have hp1 := prodL_pos (l := l) fun x h => by have := hx x h; omega
  rw [Bool.and_eq_true, Bool.and_eq_true]
  exact ⟨inB_mk (by omega), allB_yes fun j hj => inB_mk (hx _ (getD_mem hj)), inB_mk (by omega)⟩
theorem prodL_12 : ∀ (l : List Int), (∀ x ∈ l, 2 ≤ x ∧ x ≤ 12) → prodL l ≤ 12 ^ l.length := by
  intro l
  induction l with
  | nil => intro _; simp [prodL]
  | cons y l ih =>
    intro h
    have h1 := h y (List.mem_cons_self ..)
    have h2 := ih fun x hx => h x (List.mem_cons_of_mem _ hx)
    have h3 := prodL_pos (l := l) fun x hx => by have := h x (List.mem_cons_of_mem _ hx); omega
    rw [prodL_cons, List.length_cons, Int.pow_succ, Int.mul_comm]
    exact Int.mul_le_mul h2 h1.2 (by omega) (by omega)
theorem mix_ok {rs : List Int} {n : Int} (h : rokB rs = true) (h0 : 0 ≤ n) (h1 : n < prodL rs) : mdV n rs = mixD rs n ∧ mokB (mixD rs n) rs = true ∧ mhv rs (mixD rs n) = n := by
  have hr := rok_of h
  refine ⟨?_, ?_, ?_⟩
  · unfold mdV; rw [h, inB_mk (by omega)]; rfl
  · unfold mokB; rw [h, decide_eq_true (isMP_mixD rs n hr.2.1)]; rfl
  · rw [mhv_mixD rs n hr.2.1 h0, Int.emod_eq_of_lt h0 h1]

/-- One place of the sum over places. -/
theorem place_step {rs ds : List Int} {k : Nat} {t : Int} (h : k < rs.length) (g : k < ds.length) (e : t + prodL (rs.take k) * mhv (rs.drop k) (ds.drop k) = mhv rs ds) :
    (t + ds.getD k 0 * prodL (rs.take k)) + prodL (rs.take (k + 1)) * mhv (rs.drop (k + 1)) (ds.drop (k + 1)) = mhv rs ds := by
  rw [mhv_drop h g, Int.mul_add] at e
  rw [prodL_take h, Int.mul_comm (ds.getD k 0)]
  rw [Int.mul_comm (mhv (rs.drop (k + 1)) (ds.drop (k + 1))) (rs.getD k 0), ← Int.mul_assoc] at e
  omega

theorem isMP_addD : ∀ (rs a c : List Int) (k : Int), (∀ x ∈ rs, 2 ≤ x ∧ x ≤ 60) → a.length = rs.length → c.length = rs.length → isMP (addD rs a c k) rs := by
  intro rs
  induction rs with
  | nil => intro a c k _ _ _; cases a <;> cases c <;> exact ⟨rfl, fun j hj => by simp [addD] at hj⟩
  | cons r rs ih =>
    intro a c k hx h1 h2
    cases a with
    | nil => simp at h1
    | cons x a => cases c with
      | nil => simp at h2
      | cons y c =>
        have hr := hx r (List.mem_cons_self ..)
        have hi := ih a c ((x + y + k) / r) (fun z h => hx z (List.mem_cons_of_mem _ h)) (by simpa using h1) (by simpa using h2)
        refine ⟨by simp [addD, hi.1], fun j hj => ?_⟩
        cases j with
        | zero =>
          have e1 := Int.emod_nonneg (x + y + k) (show r ≠ 0 by omega)
          have e2 := Int.emod_lt_of_pos (x + y + k) (show 0 < r by omega)
          exact inB_mk (show 0 ≤ (x + y + k) % r ∧ (x + y + k) % r ≤ r - 1 by omega)
        | succ j =>
          have := hi.2 j (by simpa [addD] using hj)
          simpa [addD] using this
theorem outD_range : ∀ (rs a c : List Int) (k : Int), (0 ≤ k ∧ k ≤ 1) → (∀ x ∈ carD rs a c k, 0 ≤ x ∧ x ≤ 1) → 0 ≤ outD rs a c k ∧ outD rs a c k ≤ 1 := by
  have aux : ∀ (l : List Int) (k : Int), (0 ≤ k ∧ k ≤ 1) → (∀ x ∈ l, 0 ≤ x ∧ x ≤ 1) → 0 ≤ l.foldl (fun _ x => x) k ∧ l.foldl (fun _ x => x) k ≤ 1 := by
    intro l
    induction l with
    | nil => intro k hk _; exact hk
    | cons x l ih => intro k _ h; exact ih x (h x (List.mem_cons_self ..)) fun y hy => h y (List.mem_cons_of_mem _ hy)
  intro rs a c k hk h
  exact aux _ k hk h
theorem mp_range {rs ds : List Int} (hr : ∀ x ∈ rs, 2 ≤ x ∧ x ≤ 60) (h : isMP ds rs) : ∀ x ∈ ds, 0 ≤ x ∧ x ≤ 60 := by
  intro x hx
  obtain ⟨j, hj, rfl⟩ := List.getElem_of_mem hx
  have h1 := isMP_at h hj
  have h2 := hr (rs.getD j 0) (getD_mem (by rw [← h.1]; exact hj))
  rw [List.getD_eq_getElem?_getD, List.getElem?_eq_getElem hj] at h1
  simp only [Option.getD_some] at h1
  omega

/-- All that the law asks of two numbers. -/
theorem mix_facts {rs : List Int} {n m : Int} (h : rokB rs = true) (n0 : 0 ≤ n) (n1 : n < prodL rs) (m0 : 0 ≤ m) (m1 : m < prodL rs) :
    ∃ (a c s : List Int) (o k : Int), (mdV n rs = a ∧ mdV m rs = c ∧ maL a c rs = s ∧ maC a c rs = o ∧ mcV a c rs = k) ∧
      (mokB a rs = true ∧ isMP a rs ∧ a.length = rs.length ∧ mvV a rs = n ∧ mhv rs a = n) ∧ (mvV s rs + o * prodL rs = n + m ∧ 0 ≤ mvV s rs ∧ mvV s rs ≤ 1000000000000) ∧
      (0 ≤ o ∧ o ≤ 1 ∧ o ≤ k ∧ 0 ≤ k ∧ k ≤ 10) ∧ mvV (nmV a rs) rs = (n + 1) % prodL rs ∧
      ((∀ x ∈ a, 0 ≤ x ∧ x ≤ 60) ∧ (∀ x ∈ c, 0 ≤ x ∧ x ≤ 60) ∧ (∀ x ∈ s, 0 ≤ x ∧ x ≤ 60)) ∧ (c.length = rs.length ∧ s.length = rs.length) ∧
      ∀ b, (∀ x ∈ rs, x = b) → sumL a + sumL c - sumL s = (b - 1) * k + o := by
  have hr := rok_of h
  obtain ⟨a1, a2, a3⟩ := mix_ok h n0 n1
  obtain ⟨c1, c2, c3⟩ := mix_ok h m0 m1
  have ha := (mok_of a2).2
  have hc := (mok_of c2).2
  have la : (mixD rs n).length = rs.length := ha.1
  have lc : (mixD rs m).length = rs.length := hc.1
  have hcar := carD_range rs (mixD rs n) (mixD rs m) 0 hr.2.1 ha hc (by omega)
  have hcl := carD_len rs (mixD rs n) (mixD rs m) 0 la lc
  have hs := isMP_addD rs (mixD rs n) (mixD rs m) 0 hr.2.1 la lc
  have hsok : mokB (addD rs (mixD rs n) (mixD rs m) 0) rs = true := by unfold mokB; rw [h, decide_eq_true hs]; rfl
  have hv := add_value rs (mixD rs n) (mixD rs m) 0 la lc
  have hb := mhv_bound rs _ hr.2.1 hs
  have ho := outD_range rs (mixD rs n) (mixD rs m) 0 (by omega) hcar
  have hk := out_le_sum rs (mixD rs n) (mixD rs m) 0 (by omega) fun x hx => (hcar x hx).1
  have hkb := sumL_bound (m := 1) (by omega) hcar (carD rs (mixD rs n) (mixD rs m) 0).length
  rw [List.take_length] at hkb
  have eL : maL (mixD rs n) (mixD rs m) rs = addD rs (mixD rs n) (mixD rs m) 0 := by unfold maL; rw [a2, c2]; rfl
  have eC : maC (mixD rs n) (mixD rs m) rs = outD rs (mixD rs n) (mixD rs m) 0 := by unfold maC; rw [a2, c2]; rfl
  have eK : mcV (mixD rs n) (mixD rs m) rs = sumL (carD rs (mixD rs n) (mixD rs m) 0) := by unfold mcV; rw [a2, c2]; rfl
  have eV : mvV (addD rs (mixD rs n) (mixD rs m) 0) rs = mhv rs (addD rs (mixD rs n) (mixD rs m) 0) := by unfold mvV; rw [hsok]; rfl
  have eN : mvV (nmV (mixD rs n) rs) rs = (n + 1) % prodL rs := by
    have e1 : nmV (mixD rs n) rs = mixD rs (n + 1) := by
      unfold nmV; rw [a2, if_pos rfl, ← mixD_next rs _ hr.2.1 ha, a3]
    have e2 : mokB (mixD rs (n + 1)) rs = true := by unfold mokB; rw [h, decide_eq_true (isMP_mixD rs (n + 1) hr.2.1)]; rfl
    rw [e1]; unfold mvV; rw [e2, if_pos rfl, mhv_mixD rs (n + 1) hr.2.1 (by omega)]
  refine ⟨_, _, _, _, _, ⟨a1, c1, eL, eC, eK⟩, ⟨a2, ha, la, by unfold mvV; rw [a2, if_pos rfl, a3], a3⟩, ⟨?_, ?_, ?_⟩, ⟨ho.1, ho.2, by omega, hkb.1, ?_⟩, eN, ⟨mp_range hr.2.1 ha, mp_range hr.2.1 hc, mp_range hr.2.1 hs⟩, ⟨lc, by rw [addD_len rs _ _ _ la lc]⟩, fun b hbb => ?_⟩
  · rw [eV, hv, a3, c3]; omega
  · rw [eV]; exact hb.1
  · rw [eV]; omega
  · have := hr.1; omega
  · have := add_sums b rs (mixD rs n) (mixD rs m) 0 hbb la lc
    omega

/-- One place of the sum over places, with its bounds. -/
theorem place_bound {rs ds : List Int} {k : Nat} {t n : Int} (hr : ∀ x ∈ rs, 2 ≤ x ∧ x ≤ 60) (hm : isMP ds rs) (hk : k < rs.length) (e : t + prodL (rs.take k) * mhv (rs.drop k) (ds.drop k) = n) :
    0 ≤ ds.getD k 0 * prodL (rs.take k) ∧ t + ds.getD k 0 * prodL (rs.take k) ≤ n ∧ (t + ds.getD k 0 * prodL (rs.take k)) + prodL (rs.take (k + 1)) * mhv (rs.drop (k + 1)) (ds.drop (k + 1)) = n := by
  have hk2 : k < ds.length := by rw [hm.1]; exact hk
  have h1 := (isMP_at hm hk2).1
  have h2 : ∀ j, 1 ≤ prodL (rs.take j) := fun j => prodL_pos fun x hx => by have := hr x (List.mem_of_mem_take hx); omega
  have h3 := (mhv_bound (rs.drop (k + 1)) (ds.drop (k + 1)) (fun x hx => hr x (List.mem_of_mem_drop hx)) (isMP_drop hm (k + 1))).1
  have h4 : (t + ds.getD k 0 * prodL (rs.take k)) + prodL (rs.take (k + 1)) * mhv (rs.drop (k + 1)) (ds.drop (k + 1)) = n := by
    rw [mhv_drop hk hk2, Int.mul_add] at e
    rw [prodL_take hk, Int.mul_comm (ds.getD k 0)]
    rw [Int.mul_comm (mhv (rs.drop (k + 1)) (ds.drop (k + 1))) (rs.getD k 0), ← Int.mul_assoc] at e
    omega
  have h5 := Int.mul_nonneg h1 (show 0 ≤ prodL (rs.take k) by have := h2 k; omega)
  have h6 := Int.mul_nonneg (show 0 ≤ prodL (rs.take (k + 1)) by have := h2 (k + 1); omega) h3
  exact ⟨h5, by omega, h4⟩
theorem plc_get {rs : List Int} {k : Nat} (hk : k < rs.length) : (plcL rs).getD k 0 = prodL (rs.take k) := by
  simp [plcL, List.getD_eq_getElem?_getD, List.getElem?_range hk]
theorem bbb_ok {b : Int} (h2 : 2 ≤ b) (h16 : b ≤ 16) : rokB [b, b, b] = true ∧ prodL [b, b, b] = b * b * b ∧ 8 ≤ b * b * b ∧ b * b * b ≤ 4096 := by
  have e : prodL [b, b, b] = b * b * b := by simp [prodL, Int.mul_assoc]
  have h1 : 2 * 2 ≤ b * b := Int.mul_le_mul h2 h2 (by omega) (by omega)
  have h3 : b * b ≤ 16 * 16 := Int.mul_le_mul h16 h16 (by omega) (by omega)
  have h4 : 4 * 2 ≤ b * b * b := Int.mul_le_mul (by omega) h2 (by omega) (by omega)
  have h5 : b * b * b ≤ 256 * 16 := Int.mul_le_mul (by omega) h16 (by omega) (by omega)
  refine ⟨rok_mk (by simp) (by simp) (fun x hx => ?_) (by omega), e, by omega, by omega⟩
  simp at hx
  omega

end Go.Proofs.Ytehlkoogpgcipaa
