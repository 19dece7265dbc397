/- Proved: the law FnExactParseMixed returns true for every input and leaves its arguments as they were. Conditions: none beyond those that the given row itself names; the card ties the listed variables to the program's text. -/
import Derived.Test.YtjogaoocjcofdaaDoorRows
import Derived.Test.YtjogaoocjcofdaaDoorCards
import Derived.Test.YtjogaoocjcofdaaDoorTie
import Derived.Test.YtjogaoocjcofdaaDoorClo
import Derived.WalkKit
import Derived.Test.YtjogaoocjcofdaaDoorPmx
import Derived.Test.YtjogaoocjcofdaaDoorShp
import Derived.Lay
import Derived.ProofKit
import Derived.LaidMore
import Derived.OpenShut
import Derived.ShutString
import Derived.ChangeOld
import Derived.Below
import Derived.Stop.LaidErr
import Derived.Lib.LaidTab
import Derived.Lib.ItoaNum
import Derived.SevenTiedAt
namespace Go.Proofs.YtjogaoocjcofdaaDoor.fnExactParseMixed
open Go.ChangeShapes Go.WideShapes Go.ChangeAt Go.RowKit Go.WideMaps Go.WideElems
open Go.ChangeMaps (open_string shut_string)
set_option linter.unusedVariables false

theorem own : ownKnob Tryd.prog.godebug = none := by kernel_rfl
theorem laidOut : laidOutB Tryd.prog = true := by kernel_rfl

theorem gPow : Tryd.prog.globalNamed "internal/strconv.uint64pow10" = some 3 := by kernel_rfl
theorem tPow : (Tryd.prog.globals[3]?).map (·.type) = some 99 := by kernel_rfl

/-- The table of the powers, where the condition holds. -/
theorem tab {W : World} (h : laidMetH Tryd.prog Rows.fnExactParseMixedRow.laid W) : Lib.TabIs Tryd.prog W "internal/strconv.uint64pow10" .u64 Lib.pow10Tab := by
  rw [MakeChecks.laidMetH_plain _ _ _ (by kernel_rfl)] at h
  have e : (Rows.laid_internal_strconv_uint64pow10 : DataW Unit) = Lib.tabData .u64 Lib.pow10Tab := by kernel_rfl
  have h2 := h.tail.tail
  rw [e] at h2
  exact Lib.tabIs_of_head gPow tPow Tryd.underlying99 Tryd.underlying80 (by kernel_rfl) (by kernel_rfl) h2

theorem star : "*" ++ "errors.errorString" = "*errors.errorString" := by decide
theorem nameE : Tryd.prog.typeName? 3 104 = some "*errors.errorString" := by kernel_rfl
theorem rowE (u : TypeId) (h : Tryd.prog.typeName? 3 u = some "*errors.errorString") : u = 104 :=
  typeName_ptr_named (nm := "errors.errorString") (by rw [star]; kernel_rfl) (by kernel_rfl) (by decide) u (by rw [star]; exact h)
theorem gRange : Tryd.prog.globalNamed "strconv.ErrRange" = some 1 := by kernel_rfl
theorem gSyn : Tryd.prog.globalNamed "strconv.ErrSyntax" = some 0 := by kernel_rfl
theorem tRange : (Tryd.prog.globals[1]?).map (·.type) = some 46 := by kernel_rfl
theorem tSyn : (Tryd.prog.globals[0]?).map (·.type) = some 46 := by kernel_rfl
theorem cE : Tryd.prog.cellsOf 106 = 1 := by kernel_rfl
theorem cS : Tryd.prog.cellsOf 9 = 1 := by kernel_rfl

/-- The two errors' variables, where the condition holds. -/
theorem sents {W : World} (h : laidMetH Tryd.prog Rows.fnExactParseMixedRow.laid W) :
    (∃ tp p, W.cell? ⟨0, 0, none⟩ = some (.iface tp p)) ∧ ∃ tp p, W.cell? ⟨1, 0, none⟩ = some (.iface tp p) := by
  rw [MakeChecks.laidMetH_plain _ _ _ (by kernel_rfl)] at h
  have h3 := h.tail.tail.tail.tail
  obtain ⟨a, s, e1, -⟩ := laid_sentinel h3 gRange tRange Tryd.underlying46 rowE Tryd.underlying104 Tryd.underlying106 rfl rfl Tryd.underlying9 cE cS
  obtain ⟨b, s2, e2, -⟩ := laid_sentinel h3.tail gSyn tSyn Tryd.underlying46 rowE Tryd.underlying104 Tryd.underlying106 rfl rfl Tryd.underlying9 cE cS
  exact ⟨⟨_, _, by simpa using World.var?_cell gSyn e2 0⟩, ⟨_, _, by simpa using World.var?_cell gRange e1 0⟩⟩

/-! ### The walk -/
theorem walk (a0 : ByteArray) (w : World) (w0 : a0.size ≤ 2 ^ 63 - 1) (hL : laidMetH Tryd.prog Rows.fnExactParseMixedRow.laid w) (hsh : w.ShapedOpen Tryd.prog) :
    Calls Tryd.prog 7 #[.string a0] w fun e w' => e = .returned (.bool true) ∧ Below w.heap.size w w' := by
  have hm := Tryd.laysM146.s1_3 w hsh
  have HM : Hid (∃ m, w.cell? ⟨2, 0, none⟩ = some (.int .i64 m)) := hm
  have ht := Lib.hid (tab hL)
  obtain ⟨es, er⟩ := sents hL
  have HS := Lib.hid (And.intro es er)
  have hlt : 3 < w.heap.size := World.block_lt_of_cell? w _ (ht.out.cell gPow 0 (by rw [Lib.pow10Tab_length]; omega))
  clear hL es er hm hsh
  by_cases hbig0 : 1048576 < a0.size
  · go_enter Tryd.func7, Tryd.ntmps7
    go_wp2_with fail
    go_ret
    exact ⟨rfl, Below.refl _ _⟩
  have hsm0 : a0.size ≤ 1048576 := by omega
  clear hbig0
  have hvl : Hid ((pmL a0).length ≤ 1048576) := pmL_len a0 hsm0
  go_enter Tryd.func7, Tryd.ntmps7
  go_wp2_with fail
  refine (c_s_ParseMixed _ _ (by omega)).mono ?_
  rintro e W1 ⟨v_w, rfl, ho_w, hb1⟩
  have hB1 := hb1
  go_wp2_with fail
  refine (c_i_ParseMixed  _ _ (by omega) (tab_below gPow hlt ht.out hB1) gPow (sent_below HS.out.1 hB1) (sent_below HS.out.2 hB1) (some_below HM.out hB1)).mono ?_
  rintro e W2 ⟨v_g, rfl, ho_g, hb2⟩
  have hB2 := hB1.trans (hb2.mono hB1.size)
  go_wp2_with fail
  refine (c_l_eqIntS _ _ _ _ _ ho_g.rd (ho_w.below hb2).rd).mono ?_
  rintro e W3 ⟨rfl, hb3⟩
  have hB3 := hB2.trans (hb3.mono hB2.size)
  rw [decide_eq_true rfl]
  have HLv : ∃ N : Nat, Hid ((pmL a0).length = N) ∧ N ≤ 1048576 := ⟨_, Lib.hid rfl, hvl.out⟩
  obtain ⟨N, HN, hN⟩ := HLv
  go_wp2_with fail
  refine (c_l_markIntS _ _ _ 1 _ (ho_g.below hb3) hvl.out (by omega)).mono ?_
  rintro e W4 ⟨rfl, hom4, hg4⟩
  have hB4 : Below w.heap.size w W4 := hB3.grown hg4 hB3.size (fun k hk => Nat.le_trans hB1.size ((ho_g.below hb3).lt k hk).1)
  rw [HN.out]
  go_wp2_with fail
  refine (c_l_heldIntS _ _ 1 _ hom4.rd hvl.out (by omega)).mono ?_
  rintro e W5 ⟨rfl, hb5⟩
  have hB5 := hB4.trans (hb5.mono hB4.size)
  rw [HN.out]
  go_wp2_with fail
  refine (c_i_ParseMixed  _ _ (by omega) (tab_below gPow hlt ht.out hB5) gPow (sent_below HS.out.1 hB5) (sent_below HS.out.2 hB5) (some_below HM.out hB5)).mono ?_
  rintro e W6 ⟨v_h, rfl, ho_h, hb6⟩
  have hB6 := hB5.trans (hb6.mono hB5.size)
  go_wp2_with fail
  refine (c_l_eqIntS _ _ _ _ _ ho_h.rd (((((ho_w.below hb2).below hb3).kept hg4 ((ho_g.below hb3).ne' (fun k hk => (ho_w.lt k hk).2))).below hb5).below hb6).rd).mono ?_
  rintro e W7 ⟨rfl, hb7⟩
  have hB7 := hB6.trans (hb7.mono hB6.size)
  rw [decide_eq_true rfl]
  go_wp2_with fail
  refine (c_l_heldIntS _ _ 1 _ (((hom4.below hb5).below hb6).below hb7).rd hvl.out (by omega)).mono ?_
  rintro e W8 ⟨rfl, hb8⟩
  have hB8 := hB7.trans (hb8.mono hB7.size)
  rw [HN.out]
  go_wp2
  go_ret
  exact ⟨rfl, hB8⟩

/-! ### The row -/
theorem door_met (os : Os) (args : Array Value) : laidMetH Tryd.prog Rows.fnExactParseMixedRow.laid ((World.laidAll Tryd.prog os Rows.fnExactParseMixedRow.laid).forCall (fun _ _ => 0) ⟨#[], args, []⟩).memory :=
  by rw [MakeChecks.laidMetH_plain _ _ _ (by kernel_rfl)]; exact laidMet_laidAll _ (by kernel_rfl) (by kernel_rfl)

set_option maxRecDepth 100000 in
theorem lifted (os : Os) (started : os.Started) (H : Type) (enc : TypeId × Value → H) :
    ReturnsInHanded {} Tryd.checked os 7 .any (fun w args => (Rows.fnExactParseMixedSpec.pre enc Tryd.prog Tryd.f7 [] false w args ∧ laidMetH Tryd.prog Rows.fnExactParseMixedRow.laid w) ∧ sizedMet enc Tryd.prog Tryd.f7 (OpenSpec.ofChange Rows.fnExactParseMixedSpec) false w args)
      (Rows.fnExactParseMixedSpec.post enc Tryd.prog Tryd.f7 false true false false) := by
  refine lift_shaped (C := Tryd.checked) (X := fun w _ => laidMetH Tryd.prog Rows.fnExactParseMixedRow.laid w) (fun _ _ _ hh h => h.of_heap hh) own started (by kernel_rfl) Tryd.func7
    (ChangeSpec.witness_shaped (enc := enc) (C := Tryd.checked) (os := os) (X := fun w _ => laidMetH Tryd.prog Rows.fnExactParseMixedRow.laid w) false (World.laidAll Tryd.prog os Rows.fnExactParseMixedRow.laid) #[.string ByteArray.empty] 8 (World.laidAll_os _ _ _) (World.shaped_of_ZipB (by kernel_rfl) (by kernel_rfl)) (by kernel_rfl) (by kernel_rfl) (by kernel_rfl) (door_met os _)) ?_
  intro W base args ds gs before hval0 hW hL hsh
  have hval : ∀ (j : Nat) t v, Tryd.f7.params[j]? = some t → args[j]? = some v → Value.okWide Tryd.prog W .any base t v := hval0
  have hW' := hW
  obtain ⟨p, q, hA0, hV, rfl, hfz, hnd⟩ := hW
  have hA : DataW.TrodAll enc Tryd.prog W 0 (fun _ => true) true Tryd.f7.params.toList args.toList ds p := hA0
  rw [Tryd.params7] at hA hval
  obtain ⟨v0, vs0, d0, ds0, p0, q0, hargs, rfl, rfl, h0, r0⟩ := trodAll_cons hA
  obtain ⟨rfl, rfl, rfl⟩ := trodAll_nil r0
  obtain rfl : args = #[v0] := by cases args; simp_all
  obtain ⟨rfl, rfl⟩ := trodVars_none hV
  obtain ⟨a0, rfl, rfl, rfl, w0⟩ := open_string Tryd.underlying9 (hval 0 9 v0 rfl rfl) h0
  clear hA0 hval0
  refine (walk a0 W w0 hL hsh).mono fun e W' ⟨he, bel⟩ => ?_
  subst he
  exact ⟨_, rfl, _, _, _, [], [], [], hW', trodAll_mk1 (shut_bool Tryd.underlying4 _), (trodAll_cons_mk (shut_string Tryd.underlying9 w0) trodAll_mk0), rfl, bel.frame _, fun h => by cases h⟩

/-- The closed facts of the row: what the function reaches is read off the table of calls. -/
theorem jf : joinedFacts Tryd.prog 7 Tryd.f7 Rows.fnExactParseMixedSpec Rows.fnExactParseMixedRow = true := by
  have e1 : Tryd.prog.inPlace 7 = Rows.fnExactParseMixedRow.inPlace := by unfold Program.inPlace; rw [clo]; kernel_rfl
  have e2 : Tryd.prog.unfollowed 7 = Rows.fnExactParseMixedRow.unfollowed := by unfold Program.unfollowed; rw [clo]; kernel_rfl
  have e3 : Tryd.prog.recurses 7 = Rows.fnExactParseMixedRow.recurses := by unfold Program.recurses; rw [e2]; simp only [clo, leads]; kernel_rfl
  have e4 : Tryd.prog.varsNamed 7 = Rows.fnExactParseMixedRow.named := by unfold Program.varsNamed; rw [clo]; kernel_rfl
  unfold joinedFacts
  rw [e1, e2, e3, e4, p_enter, p_lift, p_make, p_plain, p_heard, p_stops, p_knobs, p_laid, p_maps]
  show (_ : Bool) = true
  kernel_rfl

theorem over : Rows.FnExactParseMixedSaid :=
  OpenClaim.holds_of_wide 7 Tryd.f7 rfl rfl rfl rfl rfl rfl rfl ⟨rfl, rfl, rfl, rfl, rfl⟩ rfl rfl rfl rfl rfl (by kernel_rfl) Tryd.func7 jf
    (of_decide_eq_true (by kernel_rfl)) (by unfold Func.isWrapper; first | (rw [if_pos (by decide +kernel)]; kernel_rfl) | (rw [if_neg (by decide +kernel)]; exact ⟨rfl, rfl⟩))
    (fun os started H enc _ => lifted os started H enc)

/-- The statement: the tied card. -/
theorem proved : Rows.FnExactParseMixedCardSaid :=
  Claim7.holds_tied_plain_at .later [] Rows.fnExactParseMixedCard.laidKinds true Rows.fnExactParseMixedCard.stood.harness true
    over (fun _ h => by cases h) (by kernel_rfl) (fun _ h => by cases h) fnExactParseMixed_row_tie rfl ⟨rfl, rfl⟩ (by kernel_rfl) rfl
    (fun f fn hf hfn => by
      obtain rfl : f = 7 := Option.some.inj ((show Tryd.prog.funcNamed "loop.example/g03203/laws.FnExactParseMixed" = some 7 by kernel_rfl).symm.trans hf) |>.symm
      obtain rfl : fn = Tryd.f7 := (Option.some.inj (Tryd.func7.symm.trans hfn)).symm
      exact ⟨by kernel_rfl, fun j t ht => by
        rw [Tryd.params7] at ht
        have hm : t ∈ [9] := by simpa using Array.mem_of_getElem? ht
        have hall : ([9].all fun u => !Tryd.prog.wantsStandIn u) = true := by kernel_rfl
        exact (show Tryd.prog.wantsStandIn t = false by simpa using List.all_eq_true.1 hall t hm)⟩)
    (by kernel_rfl)
#print axioms proved
end Go.Proofs.YtjogaoocjcofdaaDoor.fnExactParseMixed
