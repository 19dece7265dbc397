/- Contracts of ParseMixed, the program's and the reference's. -/
import Derived.Test.YtjogaoocjcofdaaDoorSpj
import Derived.Test.YtjogaoocjcofdaaDoorFmx
import Derived.Test.YtjogaoocjcofdaaDoorPin
namespace Go.Proofs.YtjogaoocjcofdaaDoor
open Go.RowKit
set_option maxRecDepth 8000

def pv1 (p : ByteArray) : Int := (piR p).1
/-- The parts' numbers, the last part's first. -/
def pmV (s : ByteArray) : List Int := (spT 58 s).reverse.map pv1
def pmB (s : ByteArray) : Bool := decide (fxT (pmV s) = s)
def pmL (s : ByteArray) : List Int := if pmB s then pmV s else []

theorem piR_bd (p : ByteArray) : bd (piR p).1 := by
  unfold piR
  cases e : Lib.atoiAll p.data.toList with
  | ok v =>
    have h := atoi_bd e
    show bd (if inT v = p then (v, true) else (0, false)).1
    split
    · unfold bd; exact ⟨h.1, h.2⟩
    · unfold bd; decide
  | _ => show bd 0; unfold bd; decide
theorem dec_no {u : Nat} : (58 : UInt8) ∉ Lib.decDigits u := fun h => by
  have := (dec_facts u).1 _ h
  exact absurd this.2 (by decide)
theorem inT_no {v : Int} (h : 0 ≤ v) : (58 : UInt8) ∉ (inT v).data.toList := by
  obtain ⟨u, rfl⟩ := Int.eq_ofNat_of_zero_le h
  rw [inT_list, Lib.itoa_nonneg]
  exact dec_no
/-- Where the text comes back, every part is a numeral. -/
theorem pm_law {s : ByteArray} (h : fxT (pmV s) = s) : (∀ p ∈ spT 58 s, (piR p).2 = true) ∧ (spT 58 s).length ≤ 10 := by
  cases e : fxB (pmV s) with
  | false =>
    exfalso
    have h2 := h
    unfold fxT at h2
    rw [e] at h2
    have h3 : (⟨#[]⟩ : ByteArray) = s := h2
    subst h3
    exact absurd e (by decide)
  | true =>
    have h2 := h
    unfold fxT at h2
    rw [e, if_pos rfl] at h2
    unfold fxB at e
    rw [Bool.and_eq_true] at e
    have hb := allB_of e.2
    have hl := inB_yes e.1
    have hw : fxW (pmV s) = (spT 58 s).map (fun p => inT (pv1 p)) := by
      unfold fxW pmV
      rw [List.map_reverse, List.map_reverse, List.map_reverse, List.reverse_reverse, List.map_map]; rfl
    have hne : spT 58 s ≠ [] := by
      intro e; have := spA_ne 58 s.data.toList []; unfold spT at e; exact this (List.map_eq_nil_iff.1 e)
    have hr : ∀ p ∈ spT 58 s, 0 ≤ pv1 p := fun p hp => (hb (pv1 p) (List.mem_map.2 ⟨p, List.mem_reverse.2 hp, rfl⟩)).1
    have hs : spT 58 s = (spT 58 s).map (fun p => inT (pv1 p)) := by
      have := sp_jnT 58 (fxW (pmV s)) (by rw [hw]; simpa using hne) (fun x hx => by
        rw [hw] at hx
        obtain ⟨p, hp, rfl⟩ := List.mem_map.1 hx
        exact inT_no (hr p hp))
      rw [h2, hw] at this
      exact this
    refine ⟨fun p hp => ?_, by have := hl.2; simp [pmV] at this; omega⟩
    have hp2 : inT (pv1 p) = p := by
      obtain ⟨i, hi, rfl⟩ := List.getElem_of_mem hp
      have := congrArg (fun l => l[i]?) hs
      simp [List.getElem?_eq_getElem hi] at this
      exact this.symm
    have hb2 := piR_bd p
    unfold bd at hb2
    rw [piR_yes hb2.1 hb2.2 hp2]
theorem pm_no {s : ByteArray} (h : ∃ p ∈ spT 58 s, (piR p).2 = false) : pmB s = false := decide_eq_false fun e => by
  obtain ⟨p, hp, e2⟩ := h
  have := (pm_law e).1 p hp
  rw [e2] at this; cases this
theorem pm_long {s : ByteArray} (h : 10 < (spT 58 s).length) : pmB s = false := decide_eq_false fun e => by
  have := (pm_law e).2
  omega
theorem pmL_no {s : ByteArray} (h : pmB s = false) : pmL s = [] := by unfold pmL; rw [h]; rfl
theorem pmL_yes {s : ByteArray} (h : pmB s = true) : pmL s = pmV s := by unfold pmL; rw [h, if_pos rfl]
theorem pmL_len (s : ByteArray) (_h : s.size ≤ 1048576) : (pmL s).length ≤ 1048576 := by
  unfold pmL
  cases e : pmB s
  · simp
  · have := (pm_law (of_decide_eq_true e)).2
    simp [pmV]; omega
theorem ret_lb {v : Value} {a b : Bool} (h : a = b) : Ending.returned (.tuple #[v, .bool a]) = .returned (.tuple #[v, .bool b]) := by rw [h]
theorem takeP_step {xs : List ByteArray} {k : Nat} (h : k < xs.length) : (xs.take k).map pv1 ++ [pv1 (xs.getD k .empty)] = (xs.take (k + 1)).map pv1 := by
  rw [takeS_step h]; simp
theorem dropP_step {xs : List ByteArray} {k : Nat} (h0 : 0 < k) (h : k ≤ xs.length) : (xs.drop k).reverse.map pv1 ++ [pv1 (xs.getD (k - 1) .empty)] = (xs.drop (k - 1)).reverse.map pv1 := by
  have hl : k - 1 < xs.length := by omega
  rw [List.drop_eq_getElem_cons hl, show k - 1 + 1 = k by omega]
  simp [List.getD_eq_getElem?_getD, List.getElem?_eq_getElem hl]

set_option maxHeartbeats 800000 in
theorem c_i_ParseMixed (s : ByteArray) (w : World) (hs : s.size ≤ 1048576) (htab : Lib.TabIs Tryd.prog w "internal/strconv.uint64pow10" .u64 Lib.pow10Tab)
    (hg : Tryd.prog.globalNamed "internal/strconv.uint64pow10" = some 3)
    (h0 : ∃ tp p, w.cell? ⟨0, 0, none⟩ = some (.iface tp p)) (h1 : ∃ tp p, w.cell? ⟨1, 0, none⟩ = some (.iface tp p))
    (h2 : ∃ m, w.cell? ⟨2, 0, none⟩ = some (.int .i64 m)) :
    Calls Tryd.prog 23 #[.string s] w fun e w' => ∃ v', e = .returned (.tuple #[v', .bool (pmB s)]) ∧ Own w' w.heap.size v' (pmL s) ∧ Below w.heap.size w w' := by
  have hlt : 3 < w.heap.size := World.block_lt_of_cell? w _ (htab.cell hg 0 (by rw [Lib.pow10Tab_length]; omega))
  have HT := Lib.hid htab
  have HH := Lib.hid (And.intro h0 h1)
  clear htab h0 h1
  obtain ⟨ps, hps⟩ : ∃ ps, spT 58 s = ps := ⟨_, rfl⟩
  have hpsl := spT_len 58 s
  have hpsb := spT_bd (c := 58) hs
  rw [hps] at hpsl hpsb
  have HP := Lib.hid hps
  have HB := Lib.hid hpsb
  clear hps hpsb
  go_enter Tryd.func23, Tryd.ntmps23
  go_wp2_with fail
  refine (c_Split s 58 _ hs h2).mono ?_
  rintro e w1 ⟨vp, rfl, hop, hb1⟩
  rw [HP.out] at hop
  obtain ⟨a, cap, n, rfl, HN, hcap, hcapm, -⟩ := hop.open
  have hnn : n ≤ 1048577 := by rw [← HN.out]; omega
  by_cases hlong : 10 < n
  · have hR : Hid (pmB s = false) := pm_long (by rw [HP.out, HN.out]; exact hlong)
    go_wp2
    go_ret2
    exact ⟨_, ret_lb hR.out.symm, by rw [pmL_no hR.out]; exact Own.nil _ _, hb1⟩
  · have hn10 : n ≤ 10 := by omega
    clear hlong
    go_wp2
    go_loopw [5, 6, 7, 8] (fun v i _ _ wr => ∃ k : Nat, k ≤ n ∧ i = .int .i64 ((k : Int) - 1) ∧ Own wr w1.heap.size v ((ps.drop k).reverse.map pv1) ∧ OwnS wr w.heap.size (.slice a n cap) ps ∧ Below w1.heap.size w1 wr) (fun _ i _ _ _ => (intOf i + 1).toNat)
    case atStart => exact ⟨n, by omega, rfl, by rw [List.drop_eq_nil_of_le (by rw [HN.out]; omega)]; exact Own.nil _ _, hop, Below.refl _ _⟩
    case round =>
      obtain ⟨k, hk, rfl, hown, hopw, hb⟩ := hrel
      by_cases hlt0 : 0 < k
      · obtain ⟨g, off, rfl, hbl, x, hx, hbd, hcx⟩ := hopw.cellsAt (k - 1) (by omega)
        have hst : Hid ((ps.drop k).reverse.map pv1 ++ [pv1 x] = (ps.drop (k - 1)).reverse.map pv1) := by
          have := dropP_step (xs := ps) hlt0 (by rw [HN.out]; exact hk)
          rw [hx.out] at this
          exact this
        have hxs : x.size ≤ 1048576 := by
          have := HB.out (ps.getD (k - 1) .empty) (getDS_mem (by rw [HN.out]; omega))
          rw [hx.out] at this; exact this
        have hlen : Hid (((ps.drop k).reverse.map pv1).length < 17592186044415) := by
          have := HN.out
          show _ < _
          rw [List.length_map, List.length_reverse, List.length_drop]; omega
        have hix : ((k : Int) - 1).toNat = k - 1 := by omega
        have hbp : bd (pv1 x) := piR_bd x
        have hb0 := hb1.trans (hb.mono hb1.size)
        clear hx
        go_wp2_with fail
        refine (c_i_ParseInt x _ hxs (tab_below hg hlt HT.out hb0) hg (sent_below HH.out.1 hb0) (sent_below HH.out.2 hb0)).mono ?_
        rintro e w2 ⟨rfl, hb2⟩
        have hown2 := hown.below hb2
        have hopw2 := hopw.below hb2
        have hb3 := hb.trans (hb2.mono hb.size)
        go_wp2_with (at_builtin; refine wpList_app2 _ rfl _ _ rfl w1.heap.size w1 _ _ rfl (hown2.alloc _) (hb3.alloc hb3.size _) (Nat.le_refl _) ⟨w2.heap.size, 0, none⟩ (pv1 x) rfl (by simp [pv1]) hbp hlen.out ?_; intro v' w3 hown3 hb4 hg3 _; rw [hst.out] at hown3)
        go_roundw
        case rel =>
          refine ⟨k - 1, by omega, by go_num, hown3, ?_, hb4⟩
          refine (hopw2.alloc _).kept hg3 (.inr fun e => ?_)
          have h5 := (hown2.lt _ e.symm).1
          have h6 := (hop.lt _ rfl).2
          omega
        case measure => simp [intOf]; omega
      · have hk0 : k = 0 := by omega
        subst hk0
        rw [List.drop_zero] at hown
        have hv : Hid (pmV s = ps.reverse.map pv1) := by unfold pmV; rw [Hid, HP.out]
        rw [← hv.out] at hown
        obtain ⟨t, ht⟩ : ∃ t, fxT (pmV s) = t := ⟨_, rfl⟩
        have q3 : (t.toList == s.toList) = decide (t = s) := str_beq t s
        have hb0 := hb1.trans (hb.mono hb1.size)
        by_cases hts : t = s
        · have hR : Hid (pmB s = true) := decide_eq_true (ht.trans hts)
          rw [decide_eq_true hts] at q3
          have HX := Lib.hid ht
          clear hts ht
          go_wp2_with fail
          refine (c_i_FormatMixed _ _ _ hown.rd).mono ?_
          rintro e w2 ⟨rfl, hb2⟩
          rw [HX.out]
          go_wp2
          go_ret2
          exact ⟨_, ret_lb hR.out.symm, by rw [pmL_yes hR.out]; exact (hown.below hb2).mono hb1.size, hb0.trans (hb2.mono hb0.size)⟩
        · have hR : Hid (pmB s = false) := decide_eq_false (by rw [ht]; exact hts)
          rw [decide_eq_false hts] at q3
          have HX := Lib.hid ht
          clear hts ht
          go_wp2_with fail
          refine (c_i_FormatMixed _ _ _ hown.rd).mono ?_
          rintro e w2 ⟨rfl, hb2⟩
          rw [HX.out]
          go_wp2
          go_ret2
          exact ⟨_, ret_lb hR.out.symm, by rw [pmL_no hR.out]; exact Own.nil _ _, hb0.trans (hb2.mono hb0.size)⟩

set_option maxHeartbeats 400000 in
theorem c_s_l02TurnL (v : Value) (xs : List Int) (w : World) (h : Rd w v xs) (hl : xs.length ≤ 2097152) :
    Calls Tryd.prog 28 #[v] w fun e w' => ∃ v', e = .returned v' ∧ Own w' w.heap.size v' xs.reverse ∧ Below w.heap.size w w' := by
  obtain ⟨a, cap, n, rfl, HN, hm, hc, hcm, hcell⟩ := h.open
  have hn : n ≤ 2097152 := by rw [← HN.out]; exact hl
  clear hl h
  go_enter Tryd.func28, Tryd.ntmps28
  go_wp2
  go_loopw [3, 4] (fun v i wr => ∃ k : Nat, k ≤ n ∧ i = .int .i64 ((k : Int) - 1) ∧ Own wr w.heap.size v (xs.drop k).reverse ∧ Below w.heap.size w wr) (fun _ i _ => (intOf i + 1).toNat)
  case atStart => exact ⟨n, by omega, rfl, by rw [List.drop_eq_nil_of_le (by rw [HN.out]; omega)]; exact Own.empty _ _ (Nat.le_refl _), (Below.refl _ _).alloc (Nat.le_refl _) _⟩
  case round =>
    obtain ⟨k, hk, rfl, hown, hb⟩ := hrel
    by_cases hlt : 0 < k
    · obtain ⟨g, off, rfl, hbl, x, hx, hbd, hcx⟩ := hcell (k - 1) (by omega)
      have hcr := (hb.cell (by exact hbl)).trans hcx
      have hst : Hid ((xs.drop k).reverse ++ [x] = (xs.drop (k - 1)).reverse) := by
        have := drop_step (xs := xs) (k := k - 1) (by rw [HN.out]; omega)
        rw [hx.out, show k - 1 + 1 = k from by omega] at this
        rw [Hid, this, List.reverse_cons]
      have hlen : (xs.drop k).reverse.length ≤ 2097152 := by rw [List.length_reverse, List.length_drop, HN.out]; omega
      have hix : ((k : Int) - 1).toNat = k - 1 := by omega
      clear hcell hcx hx
      go_wp2_with (at_builtin; refine wpList_app _ rfl _ _ rfl w.heap.size w _ (xs.drop k).reverse rfl (hown.alloc _) (hb.alloc hb.size _) (Nat.le_refl _) ⟨wr.heap.size, 0, none⟩ x rfl (by simp) hbd (by omega) ?_; intro v' w1 hown1 hb1 _; rw [hst.out] at hown1)
      go_roundw
      case rel => exact ⟨k - 1, by omega, by go_num, hown1, hb1⟩
      case measure => simp [intOf]; omega
    · have hk0 : k = 0 := by omega
      subst hk0
      clear hcell
      go_wp2
      go_ret
      exact ⟨_, rfl, by simpa using hown, hb⟩

set_option maxHeartbeats 800000 in
theorem c_s_ParseMixed (s : ByteArray) (w : World) (hs : s.size ≤ 1048576) :
    Calls Tryd.prog 22 #[.string s] w fun e w' => ∃ v', e = .returned (.tuple #[v', .bool (pmB s)]) ∧ Own w' w.heap.size v' (pmL s) ∧ Below w.heap.size w w' := by
  obtain ⟨ps, hps⟩ : ∃ ps, spT 58 s = ps := ⟨_, rfl⟩
  have hpsl := spT_len 58 s
  have hpsb := spT_bd (c := 58) hs
  rw [hps] at hpsl hpsb
  have HP := Lib.hid hps
  have HB := Lib.hid hpsb
  clear hps hpsb
  have hA : Below w.heap.size w (w.alloc (.cells #[] 3)) := (Below.refl _ _).alloc (Nat.le_refl _) _
  have hE := Own.empty w w.heap.size (Nat.le_refl _)
  go_enter Tryd.func22, Tryd.ntmps22
  go_wp2_with fail
  refine (c_s_SplitAny s 58 _ hs).mono ?_
  rintro e w1 ⟨vp, rfl, hop, hb1⟩
  rw [HP.out] at hop
  have hE1 := hE.below hb1
  have hb01 := hA.trans (hb1.mono hA.size)
  have hzl := World.size_alloc w (.cells #[] 3)
  obtain ⟨a, cap, n, rfl, HN, hcap, hcapm, hblk⟩ := hop.open
  have hnn : n ≤ 1048577 := by rw [← HN.out]; omega
  go_wp2
  go_loopw [4, 6, 7, 8, 13] (fun v _ _ _ i wr => ∃ k : Nat, k ≤ n ∧ i = .int .i64 (k : Int) ∧ Own wr w.heap.size v ((ps.take k).map pv1) ∧ OwnS wr w.heap.size (.slice a n cap) ps ∧ Apart (.slice a n cap) v ∧ Below w.heap.size w wr) (fun _ _ _ _ i _ => n - (intOf i).toNat)
  case atStart =>
    refine ⟨0, by omega, rfl, by simpa using hE1, hop.mono hA.size, ?_, hb01⟩
    cases a with
    | none => exact .inl rfl
    | some x =>
      refine .inr (.inr fun e => ?_)
      have h5 := (hop.lt _ rfl).1
      have h6 : x.block = w.heap.size := by simpa [Value.ownBlock] using e
      omega
  case round =>
    obtain ⟨k, hk, rfl, hown, hopw, hap, hb⟩ := hrel
    by_cases hlt0 : k < n
    · obtain ⟨g, off, rfl, hbl, x, hx, hbd, hcx⟩ := hopw.cellsAt k hlt0
      have hst : Hid ((ps.take k).map pv1 ++ [pv1 x] = (ps.take (k + 1)).map pv1) := by
        have := takeP_step (xs := ps) (k := k) (by rw [HN.out]; exact hlt0)
        rw [hx.out] at this
        exact this
      have hmem : Hid (x ∈ spT 58 s) := by
        have := getDS_mem (xs := ps) (k := k) (by rw [HN.out]; omega)
        rw [hx.out] at this
        rw [Hid, HP.out]; exact this
      have hxs : x.size ≤ 1048576 := HB.out x (by have := hmem.out; rw [HP.out] at this; exact this)
      have hlen : Hid (((ps.take k).map pv1).length < 17592186044415) := by
        have := HN.out
        show _ < _
        rw [List.length_map, List.length_take]; omega
      have hbp : bd (pv1 x) := piR_bd x
      clear hx
      cases hok : (piR x).2 with
      | false =>
        have hR : Hid (pmB s = false) := pm_no ⟨x, hmem.out, hok⟩
        have HO := Lib.hid hok
        clear hok
        go_wp2_with fail
        refine (c_s_ParseInt x _ hxs).mono ?_
        rintro e w2 ⟨rfl, hb2⟩
        rw [HO.out]
        go_wp2
        go_ret2
        exact ⟨_, ret_lb hR.out.symm, by rw [pmL_no hR.out]; exact Own.nil _ _, hb.trans (hb2.mono hb.size)⟩
      | true =>
        have HO := Lib.hid hok
        clear hok
        go_wp2_with fail
        refine (c_s_ParseInt x _ hxs).mono ?_
        rintro e w2 ⟨rfl, hb2⟩
        rw [HO.out]
        have hown2 := hown.below hb2
        have hopw2 := hopw.below hb2
        have hb3 := hb.trans (hb2.mono hb.size)
        go_wp2_with (at_builtin; refine wpList_app2 _ rfl _ _ rfl w.heap.size w _ _ rfl (hown2.alloc _) (hb3.alloc hb3.size _) (Nat.le_refl _) ⟨w2.heap.size, 0, none⟩ (pv1 x) rfl (by simp [pv1]) hbp hlen.out ?_; intro v' w3 hown3 hb4 hg3 hat3; rw [hst.out] at hown3)
        go_roundw
        case rel =>
          exact ⟨k + 1, by omega, by go_num, hown3, (hopw2.alloc _).kept hg3 hap.ne, hap.stepS (hopw2.alloc _) (Nat.le_refl _) hat3, hb4⟩
        case measure => simp [intOf]; omega
    · have hkn : k = n := by omega
      subst hkn
      rw [List.take_of_length_le (by rw [HN.out]; omega)] at hown
      have hl : Hid ((ps.map pv1).length ≤ 2097152) := by have := HN.out; show _ ≤ _; rw [List.length_map]; omega
      have hv : Hid (pmV s = (ps.map pv1).reverse) := by unfold pmV; rw [Hid, HP.out, List.map_reverse]
      go_wp2_with fail
      refine (c_s_l02TurnL _ _ _ hown.rd hl.out).mono ?_
      rintro e w2 ⟨v2, rfl, hown2, hb2⟩
      rw [← hv.out] at hown2
      have hb0 := hb.trans (hb2.mono hb.size)
      obtain ⟨t, ht⟩ : ∃ t, fxT (pmV s) = t := ⟨_, rfl⟩
      have q3 : (t.toList == s.toList) = decide (t = s) := str_beq t s
      by_cases hts : t = s
      · have hR : Hid (pmB s = true) := decide_eq_true (ht.trans hts)
        rw [decide_eq_true hts] at q3
        have HX := Lib.hid ht
        clear hts ht
        go_wp2_with fail
        refine (c_s_FormatMixed _ _ _ hown2.rd).mono ?_
        rintro e w3 ⟨rfl, hb3⟩
        rw [HX.out]
        go_wp2
        go_ret2
        exact ⟨_, ret_lb hR.out.symm, by rw [pmL_yes hR.out]; exact (hown2.below hb3).mono hb.size, hb0.trans (hb3.mono hb0.size)⟩
      · have hR : Hid (pmB s = false) := decide_eq_false (by rw [ht]; exact hts)
        rw [decide_eq_false hts] at q3
        have HX := Lib.hid ht
        clear hts ht
        go_wp2_with fail
        refine (c_s_FormatMixed _ _ _ hown2.rd).mono ?_
        rintro e w3 ⟨rfl, hb3⟩
        rw [HX.out]
        go_wp2
        go_ret2
        exact ⟨_, ret_lb hR.out.symm, by rw [pmL_no hR.out]; exact Own.nil _ _, hb0.trans (hb3.mono hb0.size)⟩

end Go.Proofs.YtjogaoocjcofdaaDoor
