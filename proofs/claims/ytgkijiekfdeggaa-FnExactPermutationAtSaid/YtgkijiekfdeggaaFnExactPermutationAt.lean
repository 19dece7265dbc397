/- Proved: the law FnExactPermutationAt returns true for every input and leaves its arguments as they were. Conditions: none beyond those that the given row itself names. -/
import Derived.Test.YtgkijiekfdeggaaRows
import Derived.Test.YtgkijiekfdeggaaClo
import Derived.WalkKit
import Derived.Test.YtgkijiekfdeggaaPat
import Derived.ProofKit
import Derived.OpenShut
import Derived.ShutString
namespace Go.Proofs.Ytgkijiekfdeggaa.fnExactPermutationAt
open Go.ChangeShapes Go.WideShapes Go.ChangeAt Go.RowKit
open Go.ChangeMaps (open_string shut_string)
set_option linter.unusedVariables false      -- a walk need not use every 'w<i>' (that an integer argument fits its kind)

theorem own : ownKnob Try.prog.godebug = none := by kernel_rfl


/-! ### STEP 1: THE WALK: the Go text returns true. 'Below': what was there is as it was. Part the cases AHEAD of 'go_enter' where a test parts the walk; take each callee by a contract of your own. -/
theorem walk (a0 : Int) (a1 : Int) (w0 : (Lit.int .i64 a0).wf = true) (w1 : (Lit.int .i64 a1).wf = true) (w : World) :
    Calls Try.prog 10 #[.int .i64 a0, .int .i64 a1] w fun e w' => e = .returned (.bool true) ∧ Below w.heap.size w w' := by
  have hvl : Hid ((paV a0 a1).length ≤ 1048576) := paV_len a0 a1
  go_enter Try.func10, Try.ntmps10
  go_wp2_with fail
  refine (c_s_PermutationAt _ _ _ ).mono ?_
  rintro e W1 ⟨v_w, rfl, ho_w, hb1⟩
  have hB1 := hb1
  go_wp2_with fail
  refine (c_i_PermutationAt _ _ _ ).mono ?_
  rintro e W2 ⟨v_g, rfl, ho_g, hb2⟩
  have hB2 := hB1.trans (hb2.mono hB1.size)
  go_wp2_with fail
  refine (c_l_eqIntS _ _ _ _ _ ho_g.rd (ho_w.below hb2).rd).mono ?_
  rintro e W3 ⟨rfl, hb3⟩
  have hB3 := hB2.trans (hb3.mono hB2.size)
  rw [decide_eq_true rfl]
  have HLv : ∃ N : Nat, Hid ((paV a0 a1).length = N) ∧ N ≤ 1048576 := ⟨_, Lib.hid rfl, hvl.out⟩
  obtain ⟨N, HN, hN⟩ := HLv
  go_wp2_with fail
  refine (c_l_markIntS _ _ _ 1 _ (ho_g.below hb3) hvl.out (by omega)).mono ?_
  rintro e W4 ⟨rfl, hom4, hg4⟩
  have hB4 : Below w.heap.size w W4 := hB3.grown hg4 hB3.size (fun k hk => Nat.le_trans hB1.size ((ho_g.below hb3).lt k hk).1)
  rw [HN.out]
  go_wp2_with fail
  refine (c_l_heldIntS _ _ 1 _ hom4.rd hvl.out (by omega)).mono ?_
  rintro e W5 ⟨rfl, hb5⟩
  have hB5 := hB4.trans (hb5.mono hB4.size)
  rw [HN.out]
  go_wp2_with fail
  refine (c_i_PermutationAt _ _ _ ).mono ?_
  rintro e W6 ⟨v_h, rfl, ho_h, hb6⟩
  have hB6 := hB5.trans (hb6.mono hB5.size)
  go_wp2_with fail
  refine (c_l_eqIntS _ _ _ _ _ ho_h.rd (((((ho_w.below hb2).below hb3).kept hg4 ((ho_g.below hb3).ne' (fun k hk => (ho_w.lt k hk).2))).below hb5).below hb6).rd).mono ?_
  rintro e W7 ⟨rfl, hb7⟩
  have hB7 := hB6.trans (hb7.mono hB6.size)
  rw [decide_eq_true rfl]
  go_wp2_with fail
  refine (c_l_heldIntS _ _ 1 _ (((hom4.below hb5).below hb6).below hb7).rd hvl.out (by omega)).mono ?_
  rintro e W8 ⟨rfl, hb8⟩
  have hB8 := hB7.trans (hb8.mono hB7.size)
  rw [HN.out]
  go_wp2
  go_ret
  exact ⟨rfl, hB8⟩

/-! ### THE ROW's STEP: WRITTEN OUT: LEAVE IT -/
set_option maxRecDepth 100000 in
theorem lifted (os : Os) (started : os.Started) (H : Type) (enc : TypeId × Value → H) :
    ReturnsInHanded {} Try.checked os 10 .any (Rows.fnExactPermutationAtSpec.pre6 enc Try.prog Try.f10 Rows.fnExactPermutationAtRow.domain false) (Rows.fnExactPermutationAtSpec.post enc Try.prog Try.f10 false true false false) := by
  refine returnsInHanded_of_change (C := Try.checked) own started (by kernel_rfl) Try.func10
    (ChangeSpec.witness6 (enc := enc) (C := Try.checked) false ⟨#[], #[.int .i64 0, .int .i64 0], []⟩ 8 (by kernel_rfl) (by kernel_rfl) (by kernel_rfl) (by kernel_rfl)) ?_
  intro W base args ds gs before hval0 hW hcnd _
  have hval : ∀ (j : Nat) t v, Try.f10.params[j]? = some t → args[j]? = some v → Value.okWide Try.prog W .any base t v := hval0
  have hW' := hW
  obtain ⟨p, q, hA0, hV, rfl, hfz, hnd⟩ := hW
  have hA : DataW.TrodAll enc Try.prog W 0 (fun _ => true) true Try.f10.params.toList args.toList ds p := hA0
  rw [Try.params10] at hA hval
  obtain ⟨v0, vs0, d0, ds0, p0, q0, hargs, rfl, rfl, h0, r0⟩ := trodAll_cons hA
  obtain ⟨v1, vs1, d1, ds1, p1, q1, rfl, rfl, rfl, h1, r1⟩ := trodAll_cons r0
  obtain ⟨rfl, rfl, rfl⟩ := trodAll_nil r1
  obtain rfl : args = #[v0, v1] := by cases args; simp_all
  obtain ⟨rfl, rfl⟩ := trodVars_none hV
  obtain ⟨a0, rfl, rfl, rfl, w0⟩ := open_int Try.underlying3 (hval 0 3 v0 rfl rfl) h0
  obtain ⟨a1, rfl, rfl, rfl, w1⟩ := open_int Try.underlying3 (hval 1 3 v1 rfl rfl) h1
  clear hA0 hval0
  simp only [List.append_nil] at hW'
  refine (walk a0 a1 w0 w1 W).mono fun e W' ⟨he, hg⟩ => ?_
  subst he
  exact ⟨_, rfl, _, _, _, [], [], [], hW', (trodAll_cons_mk (shut_bool Try.underlying4 _) trodAll_mk0), (trodAll_cons_mk (shut_int Try.underlying3 w0) (trodAll_cons_mk (shut_int Try.underlying3 w1) trodAll_mk0)), rfl, hg.frame _, fun h => by cases h⟩

/-- The closed facts of the row: what the function reaches is read off the table of calls. -/
theorem jf : joinedFacts Try.prog 10 Try.f10 Rows.fnExactPermutationAtSpec Rows.fnExactPermutationAtRow = true := by
  have e1 : Try.prog.inPlace 10 = Rows.fnExactPermutationAtRow.inPlace := by unfold Program.inPlace; rw [clo]; kernel_rfl
  have e2 : Try.prog.unfollowed 10 = Rows.fnExactPermutationAtRow.unfollowed := by unfold Program.unfollowed; rw [clo]; kernel_rfl
  have e3 : Try.prog.recurses 10 = Rows.fnExactPermutationAtRow.recurses := by unfold Program.recurses; rw [e2]; simp only [clo, leads]; kernel_rfl
  have e4 : Try.prog.varsNamed 10 = Rows.fnExactPermutationAtRow.named := by unfold Program.varsNamed; rw [clo]; kernel_rfl
  unfold joinedFacts
  rw [e1, e2, e3, e4, p_enter, p_lift, p_make, p_plain, p_heard, p_stops, p_knobs, p_laid, p_maps]
  show (_ : Bool) = true
  kernel_rfl

theorem over : Rows.fnExactPermutationAtRow.holds Try.pinned (OpenSpec.ofChange Rows.fnExactPermutationAtSpec) :=
  OpenClaim.holds_of_wide 10 Try.f10 rfl rfl rfl rfl rfl rfl rfl ⟨rfl, rfl, rfl, rfl, rfl⟩ rfl rfl rfl rfl rfl (by kernel_rfl) Try.func10 jf
    (of_decide_eq_true (by kernel_rfl)) (by unfold Func.isWrapper; first | (rw [if_pos (by decide +kernel)]; kernel_rfl) | (rw [if_neg (by decide +kernel)]; exact ⟨rfl, rfl⟩))
    (fun os started H enc _ => lifted os started H enc)

/-- ████ THE STATEMENT ████ -/
theorem proved : Rows.FnExactPermutationAtSaid :=
  over
#print axioms proved
end Go.Proofs.Ytgkijiekfdeggaa.fnExactPermutationAt
