/- Contracts of ParseInt, the program's and the reference's. -/
import Derived.Test.YtjogaoocjcofdaaDoorFin
import Derived.Test.YtjogaoocjcofdaaDoorStr
import Derived.Lib.AtoiErrMem
import Derived.Lib.SmallJoins
namespace Go.Proofs.YtjogaoocjcofdaaDoor
open Go.RowKit
set_option maxRecDepth 8000

/-- The number that digits spell. -/
def pv (l : List UInt8) (a : Nat) : Nat := l.foldl (fun a c => a * 10 + (c.toNat - 48)) a
theorem pv_cons (c : UInt8) (l : List UInt8) (a : Nat) : pv (c :: l) a = pv l (a * 10 + (c.toNat - 48)) := by rw [pv, List.foldl_cons, ← pv]
theorem pv_append (l m : List UInt8) (a : Nat) : pv (l ++ m) a = pv m (pv l a) := by simp [pv, List.foldl_append]
theorem pv_mono : ∀ (l : List UInt8) (a : Nat), a ≤ pv l a := by
  intro l
  induction l with
  | nil => intro a; exact Nat.le_refl _
  | cons c l ih => intro a; rw [pv_cons]; have := ih (a * 10 + (c.toNat - 48)); omega
theorem pv_take (l : List UInt8) (k : Nat) : pv (l.take k) 0 ≤ pv l 0 := by
  have h : pv l 0 = pv (l.drop k) (pv (l.take k) 0) := by rw [← pv_append, List.take_append_drop]
  rw [h]; exact pv_mono _ _
theorem pv_step {l : List UInt8} {k : Nat} (h : k < l.length) : pv (l.take (k + 1)) 0 = pv (l.take k) 0 * 10 + ((l.getD k 0).toNat - 48) := by
  rw [List.take_succ_eq_append_getElem h, pv_append]
  simp [pv, List.getD_eq_getElem?_getD, List.getElem?_eq_getElem h]
def dgc (c : UInt8) : Prop := 48 ≤ c.toNat ∧ c.toNat ≤ 57

theorem ofNat_dg {r : Nat} (h : r < 10) : (UInt8.ofNat (48 + r)).toNat = 48 + r := by simp; omega
/-- What a numeral is. -/
theorem dec_facts : ∀ u : Nat, (∀ c ∈ Lib.decDigits u, dgc c) ∧ pv (Lib.decDigits u) 0 = u ∧ Lib.decDigits u ≠ [] := by
  intro u
  induction u using Nat.strongRecOn with
  | ind u ih =>
    by_cases h : u < 10
    · rw [dec_one h]
      have e := ofNat_dg h
      refine ⟨fun c hc => ?_, ?_, by simp⟩
      · obtain rfl := List.mem_singleton.1 hc
        unfold dgc; omega
      · show 0 * 10 + ((UInt8.ofNat (48 + u)).toNat - 48) = u
        omega
    · have hlt : u / 10 < u := by omega
      obtain ⟨h1, h2, h3⟩ := ih (u / 10) hlt
      rw [dec_more (by omega)]
      have e := ofNat_dg (show u % 10 < 10 by omega)
      refine ⟨fun c hc => ?_, ?_, by simp⟩
      · rcases List.mem_append.1 hc with hc | hc
        · exact h1 c hc
        · obtain rfl := List.mem_singleton.1 hc
          unfold dgc; omega
      · rw [pv_append, h2]
        show u / 10 * 10 + ((UInt8.ofNat (48 + u % 10)).toNat - 48) = u
        omega
theorem dec_len : ∀ (k u : Nat), 1 ≤ k → u < 10 ^ k → (Lib.decDigits u).length ≤ k := by
  intro k
  induction k with
  | zero => intro u h; omega
  | succ k ih =>
    intro u _ hu
    by_cases h : u < 10
    · rw [dec_one h]; simp
    · rw [dec_more (by omega), List.length_append, List.length_singleton]
      have hk : 1 ≤ k := by
        rcases Nat.eq_zero_or_pos k with h0 | h0
        · subst h0; simp at hu; omega
        · exact h0
      have := ih (u / 10) hk (by rw [Nat.pow_succ] at hu; omega)
      omega

theorem parse_ok : ∀ (l : List UInt8) (a : Nat), (∀ c ∈ l, dgc c) → pv l a < 18446744073709551616 → Lib.parseUint10 a l = .ok (pv l a) := by
  intro l
  induction l with
  | nil => intro a _ _; rfl
  | cons c l ih =>
    intro a hd hp
    have hc : 48 ≤ c.toNat ∧ c.toNat ≤ 57 := hd c (List.mem_cons_self ..)
    rw [pv_cons] at hp ⊢
    have hm := pv_mono l (a * 10 + (c.toNat - 48))
    rw [Lib.parseUint10, if_pos hc, if_neg (by omega), if_neg (by omega)]
    exact ih _ (fun x hx => hd x (List.mem_cons_of_mem _ hx)) hp

/-- Reading what was written. -/
theorem atoi_itoa (v : Int) (h0 : -9223372036854775808 ≤ v) (h1 : v ≤ 9223372036854775807) : Lib.atoiAll (Lib.itoa v) = .ok v := by
  by_cases hv : v < 0
  · obtain ⟨u, hu⟩ := Int.eq_ofNat_of_zero_le (show 0 ≤ -v by omega)
    obtain rfl : v = -(u : Int) := by omega
    obtain ⟨d1, d2, d3⟩ := dec_facts u
    rw [Lib.itoa_neg u (by omega)]
    have hp := parse_ok (Lib.decDigits u) 0 d1 (by rw [d2]; omega)
    rw [d2] at hp
    have hm : Lib.parseMag (Lib.decDigits u) = .ok u := by unfold Lib.parseMag; rw [if_neg d3, hp]
    simp [Lib.atoiAll, hm]
    omega
  · obtain ⟨u, rfl⟩ := Int.eq_ofNat_of_zero_le (show 0 ≤ v by omega)
    obtain ⟨d1, d2, d3⟩ := dec_facts u
    rw [Lib.itoa_nonneg]
    have hp := parse_ok (Lib.decDigits u) 0 d1 (by rw [d2]; omega)
    rw [d2] at hp
    have hm : Lib.parseMag (Lib.decDigits u) = .ok u := by unfold Lib.parseMag; rw [if_neg d3, hp]
    cases hd : Lib.decDigits u with
    | nil => exact absurd hd d3
    | cons c r =>
      rw [hd] at hm d1
      have hc : 48 ≤ c.toNat ∧ c.toNat ≤ 57 := d1 c (List.mem_cons_self ..)
      have e1 : ¬ (c.toNat = 43 ∨ c.toNat = 45) := by omega
      have e2 : ¬ c.toNat = 45 := by omega
      have e3 : ¬ 9223372036854775808 ≤ u := by omega
      dsimp only [Lib.atoiAll]
      rw [if_neg e1, hm]
      simp only [e2, e3, not_false_eq_true, true_and, false_and, if_false]
theorem atoi_bd {l : List UInt8} {v : Int} (h : Lib.atoiAll l = .ok v) : -9223372036854775808 ≤ v ∧ v ≤ 9223372036854775807 := by
  cases l with
  | nil => cases h
  | cons c r =>
    dsimp only [Lib.atoiAll] at h
    split at h
    · cases h
    · cases h
    · split at h
      · cases h
      · split at h
        · cases h
        · injection h with h
          subst h
          split <;> omega

/-- What ParseInt answers. -/
def piR (s : ByteArray) : Int × Bool := match Lib.atoiAll s.data.toList with
  | .ok v => if inT v = s then (v, true) else (0, false)
  | _ => (0, false)
theorem inT_list (v : Int) : (inT v).data.toList = Lib.itoa v := rfl
theorem piR_yes {s : ByteArray} {v : Int} (h0 : -9223372036854775808 ≤ v) (h1 : v ≤ 9223372036854775807) (h : inT v = s) : piR s = (v, true) := by
  unfold piR
  rw [← h, inT_list, atoi_itoa v h0 h1]
  simp
theorem piR_no {s : ByteArray} (h : ∀ v : Int, -9223372036854775808 ≤ v → v ≤ 9223372036854775807 → ¬ inT v = s) : piR s = (0, false) := by
  unfold piR
  cases e : Lib.atoiAll s.data.toList with
  | ok v =>
    have hb := atoi_bd e
    show (if inT v = s then (v, true) else (0, false)) = (0, false)
    rw [if_neg (h v hb.1 hb.2)]
  | _ => rfl

/-- The text of a number: a numeral behind an eventual sign. -/
theorem in_neg {s : ByteArray} {v : Int} (h0 : -9223372036854775808 ≤ v) (h1 : v ≤ 9223372036854775807) (h : inT v = s) :
    (v < 0 ∧ ∃ u : Nat, v = -(u : Int) ∧ s.data.toList = 45 :: Lib.decDigits u) ∨ (0 ≤ v ∧ ∃ u : Nat, v = u ∧ s.data.toList = Lib.decDigits u) := by
  by_cases hv : v < 0
  · obtain ⟨u, hu⟩ := Int.eq_ofNat_of_zero_le (show 0 ≤ -v by omega)
    obtain rfl : v = -(u : Int) := by omega
    exact .inl ⟨hv, u, rfl, by rw [← h, inT_list, Lib.itoa_neg u (by omega)]⟩
  · obtain ⟨u, rfl⟩ := Int.eq_ofNat_of_zero_le (show 0 ≤ v by omega)
    exact .inr ⟨by omega, u, rfl, by rw [← h, inT_list, Lib.itoa_nonneg]⟩
theorem dec_head {u : Nat} {c : UInt8} {r : List UInt8} (h : Lib.decDigits u = c :: r) : c ≠ 45 := by
  have := (dec_facts u).1 c (by rw [h]; exact List.mem_cons_self ..)
  intro e; subst e; unfold dgc at this; simp at this
theorem ret_ibp {a b : Int} {c d : Bool} (h : a = b) (k : c = d) : Ending.returned (.tuple #[.int .i64 a, .bool c]) = .returned (.tuple #[.int .i64 b, .bool d]) := by rw [h, k]

theorem sent_below {w w' : World} {g : Nat} (h : ∃ tp p, w.cell? ⟨g, 0, none⟩ = some (.iface tp p)) (hb : Below w.heap.size w w') :
    ∃ tp p, w'.cell? ⟨g, 0, none⟩ = some (.iface tp p) := by
  obtain ⟨tp, p, e⟩ := h
  exact ⟨tp, p, by rw [hb.cell (World.block_lt_of_cell? w _ e)]; exact e⟩
theorem c_Atoi_bad (s : ByteArray) (w : World) (hlim : s.size ≤ 281474976710656) (h : ∀ v, Lib.atoiAll s.data.toList ≠ .ok v)
    (h0 : ∃ tp p, w.cell? ⟨0, 0, none⟩ = some (.iface tp p)) (h1 : ∃ tp p, w.cell? ⟨1, 0, none⟩ = some (.iface tp p)) :
    Calls Tryd.prog 33 #[.string s] w fun e w' => ∃ (r : Int) (t : TypeId) (p : Value), e = .returned (.tuple #[.int .i64 r, .iface t p]) ∧ Below w.heap.size w w' := by
  obtain ⟨tp0, p0, e0⟩ := h0
  obtain ⟨tp1, p1, e1⟩ := h1
  cases hh : Lib.atoiAll s.data.toList
  · exact absurd hh (h _)
  · refine (Any.strconv_Atoi_syntax Tryd.laysC172 s hlim hh _ w e0 (.inr ⟨_, _, rfl⟩)).mono ?_
    rintro e w' ⟨N, rfl, -, -, hb⟩
    exact ⟨_, _, _, rfl, hb⟩
  · refine (Any.strconv_Atoi_range Tryd.laysC172 s hlim hh _ w e1 (.inr ⟨_, _, rfl⟩)).mono ?_
    rintro e w' ⟨N, rfl, -, -, hb⟩
    exact ⟨_, _, _, rfl, hb⟩

set_option maxHeartbeats 400000 in
theorem c_i_ParseInt (s : ByteArray) (w : World) (hlim : s.size ≤ 1048576) (htab : Lib.TabIs Tryd.prog w "internal/strconv.uint64pow10" .u64 Lib.pow10Tab)
    (hg : Tryd.prog.globalNamed "internal/strconv.uint64pow10" = some 3)
    (h0 : ∃ tp p, w.cell? ⟨0, 0, none⟩ = some (.iface tp p)) (h1 : ∃ tp p, w.cell? ⟨1, 0, none⟩ = some (.iface tp p)) :
    Calls Tryd.prog 15 #[.string s] w fun e w' => e = .returned (.tuple #[.int .i64 (piR s).1, .bool (piR s).2]) ∧ Below w.heap.size w w' := by
  have hlt : 3 < w.heap.size := World.block_lt_of_cell? w _ (htab.cell hg 0 (by rw [Lib.pow10Tab_length]; omega))
  have HT := Lib.hid htab
  have HH := Lib.hid (And.intro h0 h1)
  clear htab h0 h1
  by_cases hok : ∃ v, Lib.atoiAll s.data.toList = .ok v
  · obtain ⟨v, hv⟩ := hok
    obtain ⟨b0, b1⟩ := atoi_bd hv
    obtain ⟨t, ht⟩ : ∃ t, inT v = t := ⟨_, rfl⟩
    have q3 : (t.toList == s.toList) = decide (t = s) := str_beq t s
    have HV := Lib.hid hv
    have HX := Lib.hid ht
    clear hv
    by_cases hts : t = s
    · have hP : Hid (piR s = (v, true)) := piR_yes b0 b1 (ht.trans hts)
      rw [decide_eq_true hts] at q3
      clear hts ht
      go_enter Tryd.func15, Tryd.ntmps15
      go_wp2_with fail
      refine (Tryd.strconv_Atoi_ok s (by omega) v HV.out _).mono ?_
      rintro e w1 ⟨rfl, hw1⟩
      have hb1 : Below w.heap.size w w1 := by
        rcases hw1 with rfl | ⟨x, rfl⟩
        · exact Below.refl _ _
        · exact Lib.bytesWorld_below _ _ _
      clear hw1
      go_wp2_with fail
      refine (c_i_FormatInt v b0 b1 _ (tab_below hg hlt HT.out hb1)).mono ?_
      rintro e w2 ⟨rfl, hb2⟩
      rw [HX.out]
      go_wp2
      go_ret2
      exact ⟨ret_ibp (by rw [hP.out]) (by rw [hP.out]), hb1.trans (hb2.mono hb1.size)⟩
    · have hP : Hid (piR s = (0, false)) := by
        unfold piR
        rw [Hid, HV.out]
        show (if inT v = s then (v, true) else (0, false)) = _
        rw [if_neg (by rw [ht]; exact hts)]
      rw [decide_eq_false hts] at q3
      clear hts ht
      go_enter Tryd.func15, Tryd.ntmps15
      go_wp2_with fail
      refine (Tryd.strconv_Atoi_ok s (by omega) v HV.out _).mono ?_
      rintro e w1 ⟨rfl, hw1⟩
      have hb1 : Below w.heap.size w w1 := by
        rcases hw1 with rfl | ⟨x, rfl⟩
        · exact Below.refl _ _
        · exact Lib.bytesWorld_below _ _ _
      clear hw1
      go_wp2_with fail
      refine (c_i_FormatInt v b0 b1 _ (tab_below hg hlt HT.out hb1)).mono ?_
      rintro e w2 ⟨rfl, hb2⟩
      rw [HX.out]
      go_wp2
      go_ret2
      exact ⟨ret_ibp (by rw [hP.out]) (by rw [hP.out]), hb1.trans (hb2.mono hb1.size)⟩
  · have hno : Hid (∀ v, Lib.atoiAll s.data.toList ≠ .ok v) := fun v e => hok ⟨v, e⟩
    have hP : Hid (piR s = (0, false)) := by
      unfold piR
      rw [Hid]
      cases e : Lib.atoiAll s.data.toList with
      | ok v => exact absurd e (hno.out v)
      | _ => rfl
    clear hok
    go_enter Tryd.func15, Tryd.ntmps15
    go_wp2_with fail
    refine (c_Atoi_bad s _ (by omega) hno.out HH.out.1 HH.out.2).mono ?_
    rintro e w1 ⟨r, t, p, rfl, hb1⟩
    go_wp2
    go_ret2
    exact ⟨ret_ibp (by rw [hP.out]) (by rw [hP.out]), hb1⟩

theorem wrap_ten {d : Nat} (_h : d ≤ 9) : (-9223372036854775808 + (d : Int)).tdiv 10 = -(((9223372036854775808 - d) / 10 : Nat) : Int) := by
  have e : (-9223372036854775808 + (d : Int)) = -((9223372036854775808 - d : Nat) : Int) := by omega
  rw [e, neg_tdiv10]

set_option maxHeartbeats 1600000 in
theorem c_s_ParseInt_neg (s : ByteArray) (w : World) (hlim : s.size ≤ 1048576) (h0 : 0 < s.size) (hsign : s[0].toNat = 45) :
    Calls Tryd.prog 14 #[.string s] w fun e w' => e = .returned (.tuple #[.int .i64 (piR s).1, .bool (piR s).2]) ∧ Below w.heap.size w w' := by
  have hb0 : (((s[0].toNat : Int)) == 45) = true := by simp; omega
  have hhead : s.data.toList.getD 0 0 = s[0] := get_list s 0 h0
  obtain ⟨t, ht⟩ : ∃ t, s.extract 1 s.size = t := ⟨_, rfl⟩
  have htl : t.data.toList = s.data.toList.drop 1 := by
    rw [← ht, ByteArray.data_extract, Array.toList_extract, List.extract_eq_take_drop, List.take_of_length_le (by rw [List.length_drop, size_list]; omega)]
  have htz : t.size + 1 = s.size := by
    have := congrArg List.length htl
    rw [size_list, List.length_drop, size_list] at this; omega
  have htz2 : s.size - 1 = t.size := by omega
  have h1i : (1 : Int) ≤ (s.size : Int) := by omega
  have hU : Hid (∀ v : Int, -9223372036854775808 ≤ v → v ≤ 9223372036854775807 → inT v = s → ∃ u : Nat, v = -(u : Int) ∧ t.data.toList = Lib.decDigits u) := by
    intro v b0 b1 hv
    rcases in_neg b0 b1 hv with ⟨_, u, rfl, hl⟩ | ⟨_, u, rfl, hl⟩
    · exact ⟨u, rfl, by rw [htl, hl]; rfl⟩
    · exfalso
      cases hd : Lib.decDigits u with
      | nil => exact (dec_facts u).2.2 hd
      | cons c r =>
        have hc := dec_head hd
        rw [hl, hd] at hhead
        simp at hhead
        apply hc; rw [hhead]
        apply UInt8.toNat_inj.1; rw [hsign]; rfl
  have hNo : Hid ((∀ u : Nat, u ≤ 9223372036854775808 → ¬ t.data.toList = Lib.decDigits u) → piR s = (0, false)) := fun hh => piR_no fun v b0 b1 hv => by
    obtain ⟨u, rfl, hl⟩ := hU.out v b0 b1 hv
    exact hh u (by omega) hl
  have htm : t.size ≤ 1048576 := by omega
  clear hhead hsign
  by_cases hdig : digP t.data.toList
  · have HD : Hid (decide (digP t.data.toList) = true) := decide_eq_true hdig
    have hdd := Lib.hid hdig.2
    clear hdig
    by_cases h19 : t.size ≤ 19
    · have h19i : (t.size : Int) ≤ 19 := by omega
      go_enter Tryd.func14, Tryd.ntmps14
      go_wp2_with fail
      refine (c_s_IsDigits t _ (by omega)).mono ?_
      rintro e w' ⟨rfl, rfl⟩
      rw [HD.out]
      go_wp2
      go_loop [6, 7, 8] (fun n i _ => ∃ (k P : Nat), k ≤ t.size ∧ i = .int .i64 k ∧ n = .int .i64 (-(P : Int)) ∧ P ≤ 9223372036854775808 ∧ Hid (P = pv (t.data.toList.take k) 0)) (fun _ i _ => t.size - (intOf i).toNat)
      case atStart => exact ⟨0, 0, by omega, rfl, rfl, by omega, rfl⟩
      case round =>
        obtain ⟨k, P, hk, rfl, rfl, hP, hq⟩ := hrel
        by_cases hlt : k < t.size
        · have hg := get_list t k hlt
          have hc := hdd.out k (by rw [size_list]; exact hlt)
          rw [hg] at hc
          have hc2 : 48 ≤ t[k].toNat ∧ t[k].toNat ≤ 57 := of_decide_eq_true hc
          obtain ⟨d, hd⟩ : ∃ d, t[k].toNat = d + 48 := ⟨t[k].toNat - 48, by omega⟩
          have hd9 : d ≤ 9 := by omega
          have hst := pv_step (l := t.data.toList) (k := k) (by rw [size_list]; exact hlt)
          rw [← hq.out, hg, hd, Nat.add_sub_cancel] at hst
          obtain ⟨Z, hZ⟩ : ∃ Z, (9223372036854775808 - d) / 10 = Z := ⟨_, rfl⟩
          have hZt := wrap_ten hd9
          have hZ9 : Z ≤ 922337203685477580 := by omega
          rw [hZ] at hZt
          by_cases hbig : P * 10 + d ≤ 9223372036854775808
          · have hcmp : ¬ (-(P : Int) < -(Z : Int)) := by omega
            have HST : Hid (P * 10 + d = pv (t.data.toList.take (k + 1)) 0) := hst.symm
            have hcmp2 : -(Z : Int) ≤ -(P : Int) := by omega
            have hneg : -(P : Int) * 10 - (d : Int) = -((P * 10 + d : Nat) : Int) := by omega
            clear hst hc hc2 hg hq hZ hcmp
            go_wp2
            go_round
            case rel => exact ⟨k + 1, P * 10 + d, by omega, by go_num, by go_num, hbig, HST⟩
            case measure => simp [intOf]; omega
          · have hcmp : -(P : Int) < -(Z : Int) := by omega
            have hR : Hid (piR s = (0, false)) := hNo.out fun u hu hl => by
              have h1 := pv_take t.data.toList (k + 1)
              rw [hst] at h1
              have h2 := (dec_facts u).2.1
              rw [← hl] at h2
              omega
            clear hst hc hc2 hg hq hZ
            go_wp2
            go_ret2
            exact ⟨ret_ibp (by rw [hR.out]) (by rw [hR.out]), Below.refl _ _⟩
        · have hkt : t.size = k := by omega
          have hPv : Hid (P = pv t.data.toList 0) := by rw [Hid, hq.out, List.take_of_length_le (by rw [size_list]; omega)]
          clear hq hdd
          obtain ⟨x, hx⟩ : ∃ x, inT (-(P : Int)) = x := ⟨_, rfl⟩
          have q3 : (x.toList == s.toList) = decide (x = s) := str_beq x s
          by_cases hxs : x = s
          · have hR : Hid (piR s = (-(P : Int), true)) := piR_yes (by omega) (by omega) (hx.trans hxs)
            rw [decide_eq_true hxs] at q3
            have HX := Lib.hid hx
            clear hxs hx
            go_wp2_with fail
            refine (c_s_FormatInt _ (by omega) (by omega) _).mono ?_
            rintro e w2 ⟨rfl, hb2⟩
            rw [HX.out]
            go_wp2
            go_ret2
            exact ⟨ret_ibp (by rw [hR.out]) (by rw [hR.out]), hb2⟩
          · have hR : Hid (piR s = (0, false)) := piR_no fun v b0 b1 hv => by
              obtain ⟨u, rfl, hl⟩ := hU.out v b0 b1 hv
              have h2 := (dec_facts u).2.1
              rw [← hl, ← hPv.out] at h2
              subst h2
              exact hxs (hx.symm.trans hv)
            rw [decide_eq_false hxs] at q3
            have HX := Lib.hid hx
            clear hxs hx
            go_wp2_with fail
            refine (c_s_FormatInt _ (by omega) (by omega) _).mono ?_
            rintro e w2 ⟨rfl, hb2⟩
            rw [HX.out]
            go_wp2
            go_ret2
            exact ⟨ret_ibp (by rw [hR.out]) (by rw [hR.out]), hb2⟩
    · have h19i : (19 : Int) < (t.size : Int) := by omega
      have hR : Hid (piR s = (0, false)) := hNo.out fun u hu hl => by
        have h2 := dec_len 19 u (by omega) (by omega)
        rw [← hl, size_list] at h2
        omega
      clear h19
      go_enter Tryd.func14, Tryd.ntmps14
      go_wp2_with fail
      refine (c_s_IsDigits t _ (by omega)).mono ?_
      rintro e w' ⟨rfl, rfl⟩
      rw [HD.out]
      go_wp2
      go_ret2
      exact ⟨ret_ibp (by rw [hR.out]) (by rw [hR.out]), Below.refl _ _⟩
  · have HD : Hid (decide (digP t.data.toList) = false) := decide_eq_false hdig
    have hR : Hid (piR s = (0, false)) := hNo.out fun u hu hl => hdig (by
      obtain ⟨d1, d2, d3⟩ := dec_facts u
      rw [hl]
      refine ⟨?_, fun j hj => ?_⟩
      · cases h : Lib.decDigits u with
        | nil => exact absurd h d3
        | cons c r => simp
      · have := d1 _ (List.getElem_mem hj)
        rw [List.getD_eq_getElem?_getD, List.getElem?_eq_getElem hj]
        exact decide_eq_true this)
    clear hdig
    go_enter Tryd.func14, Tryd.ntmps14
    go_wp2_with fail
    refine (c_s_IsDigits t _ (by omega)).mono ?_
    rintro e w' ⟨rfl, rfl⟩
    rw [HD.out]
    go_wp2
    go_ret2
    exact ⟨ret_ibp (by rw [hR.out]) (by rw [hR.out]), Below.refl _ _⟩

set_option maxHeartbeats 1600000 in
theorem c_s_ParseInt_pos (s : ByteArray) (w : World) (hlim : s.size ≤ 1048576) (h0 : 0 < s.size) (hsign : ¬ s[0].toNat = 45) :
    Calls Tryd.prog 14 #[.string s] w fun e w' => e = .returned (.tuple #[.int .i64 (piR s).1, .bool (piR s).2]) ∧ Below w.heap.size w w' := by
  have hb0 : (((s[0].toNat : Int)) == 45) = false := by simp; omega
  have hhead : s.data.toList.getD 0 0 = s[0] := get_list s 0 h0
  obtain ⟨t, ht⟩ : ∃ t, t = s := ⟨_, rfl⟩
  have hU : Hid (∀ v : Int, -9223372036854775808 ≤ v → v ≤ 9223372036854775807 → inT v = s → ∃ u : Nat, v = (u : Int) ∧ t.data.toList = Lib.decDigits u) := by
    intro v b0 b1 hv
    rcases in_neg b0 b1 hv with ⟨_, u, rfl, hl⟩ | ⟨_, u, rfl, hl⟩
    · exfalso
      rw [hl] at hhead
      simp at hhead
      apply hsign; rw [← hhead]; rfl
    · exact ⟨u, rfl, by rw [ht, hl]⟩
  subst ht
  have hNo : Hid ((∀ u : Nat, u ≤ 9223372036854775807 → ¬ t.data.toList = Lib.decDigits u) → piR t = (0, false)) := fun hh => piR_no fun v b0 b1 hv => by
    obtain ⟨u, rfl, hl⟩ := hU.out v b0 b1 hv
    exact hh u (by omega) hl
  have htm : t.size ≤ 1048576 := by omega
  clear hhead hsign
  by_cases hdig : digP t.data.toList
  · have HD : Hid (decide (digP t.data.toList) = true) := decide_eq_true hdig
    have hdd := Lib.hid hdig.2
    clear hdig
    by_cases h19 : t.size ≤ 19
    · have h19i : (t.size : Int) ≤ 19 := by omega
      go_enter Tryd.func14, Tryd.ntmps14
      go_wp2_with fail
      refine (c_s_IsDigits t _ (by omega)).mono ?_
      rintro e w' ⟨rfl, rfl⟩
      rw [HD.out]
      go_wp2
      go_loop [6, 7, 8] (fun n i _ => ∃ (k P : Nat), k ≤ t.size ∧ i = .int .i64 k ∧ n = .int .i64 (-(P : Int)) ∧ P ≤ 9223372036854775808 ∧ Hid (P = pv (t.data.toList.take k) 0)) (fun _ i _ => t.size - (intOf i).toNat)
      case atStart => exact ⟨0, 0, by omega, rfl, rfl, by omega, rfl⟩
      case round =>
        obtain ⟨k, P, hk, rfl, rfl, hP, hq⟩ := hrel
        by_cases hlt : k < t.size
        · have hg := get_list t k hlt
          have hc := hdd.out k (by rw [size_list]; exact hlt)
          rw [hg] at hc
          have hc2 : 48 ≤ t[k].toNat ∧ t[k].toNat ≤ 57 := of_decide_eq_true hc
          obtain ⟨d, hd⟩ : ∃ d, t[k].toNat = d + 48 := ⟨t[k].toNat - 48, by omega⟩
          have hd9 : d ≤ 9 := by omega
          have hst := pv_step (l := t.data.toList) (k := k) (by rw [size_list]; exact hlt)
          rw [← hq.out, hg, hd, Nat.add_sub_cancel] at hst
          obtain ⟨Z, hZ⟩ : ∃ Z, (9223372036854775808 - d) / 10 = Z := ⟨_, rfl⟩
          have hZt := wrap_ten hd9
          have hZ9 : Z ≤ 922337203685477580 := by omega
          rw [hZ] at hZt
          by_cases hbig : P * 10 + d ≤ 9223372036854775808
          · have hcmp : ¬ (-(P : Int) < -(Z : Int)) := by omega
            have HST : Hid (P * 10 + d = pv (t.data.toList.take (k + 1)) 0) := hst.symm
            have hcmp2 : -(Z : Int) ≤ -(P : Int) := by omega
            have hneg : -(P : Int) * 10 - (d : Int) = -((P * 10 + d : Nat) : Int) := by omega
            clear hst hc hc2 hg hq hZ hcmp
            go_wp2
            go_round
            case rel => exact ⟨k + 1, P * 10 + d, by omega, by go_num, by go_num, hbig, HST⟩
            case measure => simp [intOf]; omega
          · have hcmp : -(P : Int) < -(Z : Int) := by omega
            have hR : Hid (piR t = (0, false)) := hNo.out fun u hu hl => by
              have h1 := pv_take t.data.toList (k + 1)
              rw [hst] at h1
              have h2 := (dec_facts u).2.1
              rw [← hl] at h2
              omega
            clear hst hc hc2 hg hq hZ
            go_wp2
            go_ret2
            exact ⟨ret_ibp (by rw [hR.out]) (by rw [hR.out]), Below.refl _ _⟩
        · have hkt : t.size = k := by omega
          have hPv : Hid (P = pv t.data.toList 0) := by rw [Hid, hq.out, List.take_of_length_le (by rw [size_list]; omega)]
          clear hq hdd
          by_cases hmin : P = 9223372036854775808
          · have hR : Hid (piR t = (0, false)) := hNo.out fun u hu hl => by
              have h2 := (dec_facts u).2.1
              rw [← hl, ← hPv.out] at h2
              omega
            have hmb : (-(P : Int) == -9223372036854775808) = true := by simp; omega
            clear hmin
            go_wp2
            go_ret2
            exact ⟨ret_ibp (by rw [hR.out]) (by rw [hR.out]), Below.refl _ _⟩
          · have hmb : (-(P : Int) == -9223372036854775808) = false := by simp; omega
            have hP7 : P ≤ 9223372036854775807 := by omega
            have hng : -(-(P : Int)) = (P : Int) := by omega
            clear hmin
            obtain ⟨x, hx⟩ : ∃ x, inT (P : Int) = x := ⟨_, rfl⟩
            have q3 : (x.toList == t.toList) = decide (x = t) := str_beq x t
            by_cases hxs : x = t
            · have hR : Hid (piR t = ((P : Int), true)) := piR_yes (by omega) (by omega) (hx.trans hxs)
              rw [decide_eq_true hxs] at q3
              have HX := Lib.hid hx
              clear hxs hx
              go_wp2_with fail
              refine (c_s_FormatInt _ (by omega) (by omega) _).mono ?_
              rintro e w2 ⟨rfl, hb2⟩
              rw [HX.out]
              go_wp2
              go_ret2
              exact ⟨ret_ibp (by rw [hR.out]) (by rw [hR.out]), hb2⟩
            · have hR : Hid (piR t = (0, false)) := piR_no fun v b0 b1 hv => by
                obtain ⟨u, rfl, hl⟩ := hU.out v b0 b1 hv
                have h2 := (dec_facts u).2.1
                rw [← hl, ← hPv.out] at h2
                subst h2
                exact hxs (hx.symm.trans hv)
              rw [decide_eq_false hxs] at q3
              have HX := Lib.hid hx
              clear hxs hx
              go_wp2_with fail
              refine (c_s_FormatInt _ (by omega) (by omega) _).mono ?_
              rintro e w2 ⟨rfl, hb2⟩
              rw [HX.out]
              go_wp2
              go_ret2
              exact ⟨ret_ibp (by rw [hR.out]) (by rw [hR.out]), hb2⟩
    · have h19i : (19 : Int) < (t.size : Int) := by omega
      have hR : Hid (piR t = (0, false)) := hNo.out fun u hu hl => by
        have h2 := dec_len 19 u (by omega) (by omega)
        rw [← hl, size_list] at h2
        omega
      clear h19
      go_enter Tryd.func14, Tryd.ntmps14
      go_wp2_with fail
      refine (c_s_IsDigits t _ (by omega)).mono ?_
      rintro e w' ⟨rfl, rfl⟩
      rw [HD.out]
      go_wp2
      go_ret2
      exact ⟨ret_ibp (by rw [hR.out]) (by rw [hR.out]), Below.refl _ _⟩
  · have HD : Hid (decide (digP t.data.toList) = false) := decide_eq_false hdig
    have hR : Hid (piR t = (0, false)) := hNo.out fun u hu hl => hdig (by
      obtain ⟨d1, d2, d3⟩ := dec_facts u
      rw [hl]
      refine ⟨?_, fun j hj => ?_⟩
      · cases h : Lib.decDigits u with
        | nil => exact absurd h d3
        | cons c r => simp
      · have := d1 _ (List.getElem_mem hj)
        rw [List.getD_eq_getElem?_getD, List.getElem?_eq_getElem hj]
        exact decide_eq_true this)
    clear hdig
    go_enter Tryd.func14, Tryd.ntmps14
    go_wp2_with fail
    refine (c_s_IsDigits t _ (by omega)).mono ?_
    rintro e w' ⟨rfl, rfl⟩
    rw [HD.out]
    go_wp2
    go_ret2
    exact ⟨ret_ibp (by rw [hR.out]) (by rw [hR.out]), Below.refl _ _⟩

theorem c_s_ParseInt (s : ByteArray) (w : World) (hlim : s.size ≤ 1048576) :
    Calls Tryd.prog 14 #[.string s] w fun e w' => e = .returned (.tuple #[.int .i64 (piR s).1, .bool (piR s).2]) ∧ Below w.heap.size w w' := by
  by_cases h0 : 0 < s.size
  · by_cases hn : s[0].toNat = 45
    · exact c_s_ParseInt_neg s w hlim h0 hn
    · exact c_s_ParseInt_pos s w hlim h0 hn
  · have hz : s = ⟨#[]⟩ := by
      have : s.data.toList = [] := List.eq_nil_of_length_eq_zero (by rw [size_list]; omega)
      apply ByteArray.ext
      simpa using this
    subst hz
    have hR : Hid (piR ⟨#[]⟩ = (0, false)) := rfl
    have HD : Hid (decide (digP (⟨#[]⟩ : ByteArray).data.toList) = false) := decide_eq_false fun h => Nat.lt_irrefl _ h.1
    go_enter Tryd.func14, Tryd.ntmps14
    go_wp2_with fail
    refine (c_s_IsDigits ⟨#[]⟩ _ (by decide)).mono ?_
    rintro e w' ⟨rfl, rfl⟩
    rw [HD.out]
    go_wp2
    go_ret2
    exact ⟨ret_ibp (by rw [hR.out]) (by rw [hR.out]), Below.refl _ _⟩

end Go.Proofs.YtjogaoocjcofdaaDoor
