/- Proved: the law FnExactReverseNumber returns true for every input and leaves its arguments as they were. Conditions: none beyond those that the given row itself names. -/
import Derived.Test.YtdffcgfllpeppaaRows
import Derived.Test.YtdffcgfllpeppaaClo
import Derived.WalkKit
import Derived.Test.YtdffcgfllpeppaaRev
import Derived.ProofKit
import Derived.OpenShut
import Derived.ShutString
namespace Go.Proofs.Ytdffcgfllpeppaa.fnExactReverseNumber
open Go.ChangeShapes Go.WideShapes Go.ChangeAt Go.RowKit
open Go.ChangeMaps (open_string shut_string)
set_option linter.unusedVariables false      -- a walk need not use every 'w<i>' (that an integer argument fits its kind)

theorem own : ownKnob Try.prog.godebug = none := by kernel_rfl


/-! ### STEP 1: THE WALK: the Go text returns true. 'Below': what was there is as it was. Part the cases AHEAD of 'go_enter' where a test parts the walk; take each callee by a contract of your own. -/
theorem walk (a0 : Int) (a1 : Int) (w0 : (Lit.int .i64 a0).wf = true) (w1 : (Lit.int .i64 a1).wf = true) (w : World) :
    Calls Try.prog 15 #[.int .i64 a0, .int .i64 a1] w fun e w' => e = .returned (.bool true) ∧ Below w.heap.size w w' := by
  go_enter Try.func15, Try.ntmps15
  go_wp2_with fail
  refine (c_s_ReverseNumber _ _ _ ).mono ?_
  rintro e W1 ⟨rfl, hb1⟩
  have hB1 := hb1
  go_wp2_with fail
  refine (c_i_ReverseNumber _ _ _ ).mono ?_
  rintro e W2 ⟨rfl, hb2⟩
  have hB2 := hB1.trans (hb2.mono hB1.size)
  go_wp2
  go_ret
  exact ⟨rfl, hB2⟩

/-! ### THE ROW's STEP: WRITTEN OUT: LEAVE IT -/
set_option maxRecDepth 100000 in
theorem lifted (os : Os) (started : os.Started) (H : Type) (enc : TypeId × Value → H) :
    ReturnsInHanded {} Try.checked os 15 .any (Rows.fnExactReverseNumberSpec.pre6 enc Try.prog Try.f15 Rows.fnExactReverseNumberRow.domain false) (Rows.fnExactReverseNumberSpec.post enc Try.prog Try.f15 false true false false) := by
  refine returnsInHanded_of_change (C := Try.checked) own started (by kernel_rfl) Try.func15
    (ChangeSpec.witness6 (enc := enc) (C := Try.checked) false ⟨#[], #[.int .i64 0, .int .i64 0], []⟩ 8 (by kernel_rfl) (by kernel_rfl) (by kernel_rfl) (by kernel_rfl)) ?_
  intro W base args ds gs before hval0 hW hcnd _
  have hval : ∀ (j : Nat) t v, Try.f15.params[j]? = some t → args[j]? = some v → Value.okWide Try.prog W .any base t v := hval0
  have hW' := hW
  obtain ⟨p, q, hA0, hV, rfl, hfz, hnd⟩ := hW
  have hA : DataW.TrodAll enc Try.prog W 0 (fun _ => true) true Try.f15.params.toList args.toList ds p := hA0
  rw [Try.params15] at hA hval
  obtain ⟨v0, vs0, d0, ds0, p0, q0, hargs, rfl, rfl, h0, r0⟩ := trodAll_cons hA
  obtain ⟨v1, vs1, d1, ds1, p1, q1, rfl, rfl, rfl, h1, r1⟩ := trodAll_cons r0
  obtain ⟨rfl, rfl, rfl⟩ := trodAll_nil r1
  obtain rfl : args = #[v0, v1] := by cases args; simp_all
  obtain ⟨rfl, rfl⟩ := trodVars_none hV
  obtain ⟨a0, rfl, rfl, rfl, w0⟩ := open_int Try.underlying3 (hval 0 3 v0 rfl rfl) h0
  obtain ⟨a1, rfl, rfl, rfl, w1⟩ := open_int Try.underlying3 (hval 1 3 v1 rfl rfl) h1
  clear hA0 hval0
  simp only [List.append_nil] at hW'
  refine (walk a0 a1 w0 w1 W).mono fun e W' ⟨he, hg⟩ => ?_
  subst he
  exact ⟨_, rfl, _, _, _, [], [], [], hW', (trodAll_cons_mk (shut_bool Try.underlying4 _) trodAll_mk0), (trodAll_cons_mk (shut_int Try.underlying3 w0) (trodAll_cons_mk (shut_int Try.underlying3 w1) trodAll_mk0)), rfl, hg.frame _, fun h => by cases h⟩

/-- The closed facts of the row: what the function reaches is read off the table of calls. -/
theorem jf : joinedFacts Try.prog 15 Try.f15 Rows.fnExactReverseNumberSpec Rows.fnExactReverseNumberRow = true := by
  have e1 : Try.prog.inPlace 15 = Rows.fnExactReverseNumberRow.inPlace := by unfold Program.inPlace; rw [clo]; kernel_rfl
  have e2 : Try.prog.unfollowed 15 = Rows.fnExactReverseNumberRow.unfollowed := by unfold Program.unfollowed; rw [clo]; kernel_rfl
  have e3 : Try.prog.recurses 15 = Rows.fnExactReverseNumberRow.recurses := by unfold Program.recurses; rw [e2]; simp only [clo, leads]; kernel_rfl
  have e4 : Try.prog.varsNamed 15 = Rows.fnExactReverseNumberRow.named := by unfold Program.varsNamed; rw [clo]; kernel_rfl
  unfold joinedFacts
  rw [e1, e2, e3, e4, p_enter, p_lift, p_make, p_plain, p_heard, p_stops, p_knobs, p_laid, p_maps]
  show (_ : Bool) = true
  kernel_rfl

theorem over : Rows.fnExactReverseNumberRow.holds Try.pinned (OpenSpec.ofChange Rows.fnExactReverseNumberSpec) :=
  OpenClaim.holds_of_wide 15 Try.f15 rfl rfl rfl rfl rfl rfl rfl ⟨rfl, rfl, rfl, rfl, rfl⟩ rfl rfl rfl rfl rfl (by kernel_rfl) Try.func15 jf
    (of_decide_eq_true (by kernel_rfl)) (by unfold Func.isWrapper; first | (rw [if_pos (by decide +kernel)]; kernel_rfl) | (rw [if_neg (by decide +kernel)]; exact ⟨rfl, rfl⟩))
    (fun os started H enc _ => lifted os started H enc)

/-- ████ THE STATEMENT ████ -/
theorem proved : Rows.FnExactReverseNumberSaid :=
  over
#print axioms proved
end Go.Proofs.Ytdffcgfllpeppaa.fnExactReverseNumber
