/- Proved: the law FnExactNextPermutation returns true for every input and leaves its arguments as they were. Conditions: none beyond those that the given row itself names. -/
import Derived.Test.YtgkijiekfdeggaaRows
import Derived.Test.YtgkijiekfdeggaaClo
import Derived.WalkKit
import Derived.Test.YtgkijiekfdeggaaPnx
import Derived.ProofKit
import Derived.OpenShut
import Derived.ShutString
import Derived.ChangeOld
import Derived.Below
namespace Go.Proofs.Ytgkijiekfdeggaa.fnExactNextPermutation
open Go.ChangeShapes Go.WideShapes Go.ChangeAt Go.RowKit
open Go.ChangeMaps (open_string shut_string)
set_option linter.unusedVariables false

theorem own : ownKnob Try.prog.godebug = none := by kernel_rfl
theorem laidOut : laidOutB Try.prog = true := by kernel_rfl

/-- WHAT THE WALK IS TOLD OF A SLICE OF INTEGERS THAT CAME IN: it is nil; or it leads to a row of 'cap' cells, the numbers 'zs' (the first 'len' are its elements, the rest its spare room), each fitting its kind. -/
def IsRow (k : IntKind) (w : World) (a : Option Addr) (len cap : Nat) (zs : List Int) : Prop :=
  (a = none ∧ len = 0 ∧ cap = 0 ∧ zs = []) ∨
  ∃ x, a = some x ∧ len ≤ cap ∧ cap ≤ maxLen ∧ zs.length = cap ∧ (∀ i, i < zs.length → w.cell? (x.add i) = some (.int k (zs.getD i 0))) ∧ ∀ n ∈ zs, (Lit.int k n).wf = true


/-! ### STEP 1: THE WALK: the Go text returns true, AND WRITES NOTHING THAT WAS THERE: 'Below w.heap.size w w'' (Derived/Below.lean: '.refl', '.alloc', '.drew', '.setCell' at a new block, '.trans'). Open each 'IsRow' by 'rcases' AHEAD of 'go_enter'; part every test ahead of the walk. -/
theorem walk (a0 : Option Addr) (len0 cap0 : Nat) (z0 : List Int) (w : World) (w0 : IsRow .i64 w a0 len0 cap0 z0) :
    Calls Try.prog 12 #[.slice a0 len0 cap0] w fun e w' => e = .returned (.bool true) ∧ Below w.heap.size w w' := by
  obtain ⟨hr0, hlen0⟩ := rd_came w0
  obtain ⟨x0, hx0⟩ : ∃ xs, z0.take len0 = xs := ⟨_, rfl⟩
  rw [hx0] at hr0 hlen0
  clear hx0 w0
  have hl20 : len0 ≤ 9223372036854775807 := by
    obtain ⟨a, cap, n, e, HN, hm, -⟩ := hr0.open
    rw [← hlen0, HN.out]; exact hm
  have HL0 := Lib.hid hlen0
  clear hlen0
  by_cases hbig0 : 1048576 < len0
  · go_enter Try.func12, Try.ntmps12
    go_wp2_with fail
    go_ret
    exact ⟨rfl, Below.refl _ _⟩
  have hsm0 : len0 ≤ 1048576 := by omega
  clear hbig0
  have hsx0 : Hid (x0.length ≤ 1048576) := by show _ ≤ _; rw [HL0.out]; exact hsm0
  have hvl : Hid ((npL x0).length ≤ 1048576) := npL_len x0
  go_enter Try.func12, Try.ntmps12
  go_wp2_with fail
  refine (c_l_toIntS _ _ _ hr0 hsx0.out).mono ?_
  rintro e W1 ⟨v_c0, rfl, ho_c0, hb1⟩
  have hB1 := hb1
  go_wp2_with fail
  refine (c_s_NextPermutation _ _ _ ho_c0.rd).mono ?_
  rintro e W2 ⟨v_w, rfl, ho_w, hb2⟩
  have hB2 := hB1.trans (hb2.mono hB1.size)
  go_wp2_with fail
  refine (c_l_toIntS _ _ _ (hr0.below hB2) hsx0.out).mono ?_
  rintro e W3 ⟨v_x0, rfl, ho_x0, hb3⟩
  have hB3 := hB2.trans (hb3.mono hB2.size)
  go_wp2_with fail
  refine (c_i_NextPermutation _ _ _ ho_x0.rd).mono ?_
  rintro e W4 ⟨v_g, rfl, ho_g, hb4⟩
  have hB4 := hB3.trans (hb4.mono hB3.size)
  go_wp2_with fail
  refine (c_l_eqIntS _ _ _ _ _ ho_g.rd ((ho_w.below hb3).below hb4).rd).mono ?_
  rintro e W5 ⟨rfl, hb5⟩
  have hB5 := hB4.trans (hb5.mono hB4.size)
  rw [decide_eq_true rfl]
  go_wp2_with fail
  refine (c_l_toIntS _ _ _ (hr0.below hB5) hsx0.out).mono ?_
  rintro e W6 ⟨v_y0, rfl, ho_y0, hb6⟩
  have hB6 := hB5.trans (hb6.mono hB5.size)
  go_wp2_with fail
  refine (c_l_eqIntS _ _ _ _ _ (((ho_x0.below hb4).below hb5).below hb6).rd ho_y0.rd).mono ?_
  rintro e W7 ⟨rfl, hb7⟩
  have hB7 := hB6.trans (hb7.mono hB6.size)
  rw [decide_eq_true rfl]
  have HLv : ∃ N : Nat, Hid ((npL x0).length = N) ∧ N ≤ 1048576 := ⟨_, Lib.hid rfl, hvl.out⟩
  obtain ⟨N, HN, hN⟩ := HLv
  go_wp2_with fail
  refine (c_l_markIntS _ _ _ 1 _ ((((ho_x0.below hb4).below hb5).below hb6).below hb7) hsx0.out (by omega)).mono ?_
  rintro e W8 ⟨rfl, hom8, hg8⟩
  have hB8 : Below w.heap.size w W8 := hB7.grown hg8 hB7.size (fun k hk => Nat.le_trans hB2.size (((((ho_x0.below hb4).below hb5).below hb6).below hb7).lt k hk).1)
  rw [HL0.out]
  go_wp2_with fail
  refine (c_l_eqIntS _ _ _ _ _ ((((ho_g.below hb5).below hb6).below hb7).kept hg8 ((((ho_g.below hb5).below hb6).below hb7).ne (fun k hk => (ho_x0.lt k hk).2))).rd ((((((ho_w.below hb3).below hb4).below hb5).below hb6).below hb7).kept hg8 (((((ho_x0.below hb4).below hb5).below hb6).below hb7).ne' (fun k hk => (ho_w.lt k hk).2))).rd).mono ?_
  rintro e W9 ⟨rfl, hb9⟩
  have hB9 := hB8.trans (hb9.mono hB8.size)
  rw [decide_eq_true rfl]
  go_wp2_with fail
  refine (c_l_markIntS _ _ _ 1 _ (((((ho_g.below hb5).below hb6).below hb7).kept hg8 ((((ho_g.below hb5).below hb6).below hb7).ne (fun k hk => (ho_x0.lt k hk).2))).below hb9) hvl.out (by omega)).mono ?_
  rintro e W10 ⟨rfl, hom10, hg10⟩
  have hB10 : Below w.heap.size w W10 := hB9.grown hg10 hB9.size (fun k hk => Nat.le_trans hB3.size ((((((ho_g.below hb5).below hb6).below hb7).kept hg8 ((((ho_g.below hb5).below hb6).below hb7).ne (fun k hk => (ho_x0.lt k hk).2))).below hb9).lt k hk).1)
  rw [HN.out]
  go_wp2_with fail
  refine (c_l_heldIntS _ _ 1 _ hom10.rd hvl.out (by omega)).mono ?_
  rintro e W11 ⟨rfl, hb11⟩
  have hB11 := hB10.trans (hb11.mono hB10.size)
  rw [HN.out]
  go_wp2_with fail
  refine (c_l_toIntS _ _ _ (hr0.below hB11) hsx0.out).mono ?_
  rintro e W12 ⟨v_z0, rfl, ho_z0, hb12⟩
  have hB12 := hB11.trans (hb12.mono hB11.size)
  go_wp2_with fail
  refine (c_i_NextPermutation _ _ _ ho_z0.rd).mono ?_
  rintro e W13 ⟨v_h, rfl, ho_h, hb13⟩
  have hB13 := hB12.trans (hb13.mono hB12.size)
  go_wp2_with fail
  refine (c_l_eqIntS _ _ _ _ _ ho_h.rd (((((((((((ho_w.below hb3).below hb4).below hb5).below hb6).below hb7).kept hg8 (((((ho_x0.below hb4).below hb5).below hb6).below hb7).ne' (fun k hk => (ho_w.lt k hk).2))).below hb9).kept hg10 ((((((ho_g.below hb5).below hb6).below hb7).kept hg8 ((((ho_g.below hb5).below hb6).below hb7).ne (fun k hk => (ho_x0.lt k hk).2))).below hb9).ne' (fun k hk => ((ho_w.below hb3).lt k hk).2))).below hb11).below hb12).below hb13).rd).mono ?_
  rintro e W14 ⟨rfl, hb14⟩
  have hB14 := hB13.trans (hb14.mono hB13.size)
  rw [decide_eq_true rfl]
  go_wp2_with fail
  refine (c_l_heldIntS _ _ 1 _ ((((hom10.below hb11).below hb12).below hb13).below hb14).rd hvl.out (by omega)).mono ?_
  rintro e W15 ⟨rfl, hb15⟩
  have hB15 := hB14.trans (hb15.mono hB14.size)
  rw [HN.out]
  go_wp2
  go_ret
  exact ⟨rfl, hB15⟩

/-! ### THE ROW's STEP: WRITTEN OUT: LEAVE IT -/
set_option maxRecDepth 100000 in
theorem lifted (os : Os) (started : os.Started) (H : Type) (enc : TypeId × Value → H) :
    ReturnsInHanded {} Try.checked os 12 .any (Rows.fnExactNextPermutationSpec.pre6 enc Try.prog Try.f12 Rows.fnExactNextPermutationRow.domain false) (Rows.fnExactNextPermutationSpec.post enc Try.prog Try.f12 false true false false) := by
  refine returnsInHanded_of_change (C := Try.checked) own started (by kernel_rfl) Try.func12
    (ChangeSpec.witness6 (enc := enc) (C := Try.checked) false ⟨#[], #[.slice none 0 0], []⟩ 8 (by kernel_rfl) (by kernel_rfl) (by kernel_rfl) (by kernel_rfl)) ?_
  intro W base args ds gs before hval0 hW hcnd _
  have hval : ∀ (j : Nat) t v, Try.f12.params[j]? = some t → args[j]? = some v → Value.okWide Try.prog W .any base t v := hval0
  have hW' := hW
  obtain ⟨p, q, hA0, hV, rfl, hfz, hnd⟩ := hW
  have hA : DataW.TrodAll enc Try.prog W 0 (fun _ => true) true Try.f12.params.toList args.toList ds p := hA0
  rw [Try.params12] at hA hval
  obtain ⟨v0, vs0, d0, ds0, p0, q0, hargs, rfl, rfl, h0, r0⟩ := trodAll_cons hA
  obtain ⟨rfl, rfl, rfl⟩ := trodAll_nil r0
  obtain rfl : args = #[v0] := by cases args; simp_all
  obtain ⟨rfl, rfl⟩ := trodVars_none hV
  obtain ⟨a0, len0, cap0, rfl⟩ := okWide_slice Try.underlying23 (hval 0 23 v0 rfl rfl)
  have k0 := h0
  have lt0 : ∀ x ∈ p0, x.block < W.heap.size := by obtain ⟨m, hm⟩ := k0; exact DataW.trod_lt m _ _ _ hm
  obtain ⟨z0, w0⟩ : ∃ zs, IsRow .i64 W a0 len0 cap0 zs := by
    obtain ⟨fuel, hf⟩ := h0
    rcases open_ints Try.underlying23 Try.underlying3 (by kernel_rfl) hf with ⟨hcs, _⟩ | ⟨x, l, c, zs, hcs, _, hl, hm, hz, _, hcell, hwz⟩
    · simp [Value.cells] at hcs
      obtain ⟨rfl, rfl, rfl⟩ := hcs
      exact ⟨[], .inl ⟨rfl, rfl, rfl, rfl⟩⟩
    · simp [Value.cells] at hcs
      obtain ⟨rfl, rfl, rfl⟩ := hcs
      exact ⟨zs, .inr ⟨_, rfl, hl, hm, by simpa using hz, hcell, hwz⟩⟩
  clear hA0 hval0
  refine (walk a0 len0 cap0 z0 W w0).mono fun e W' ⟨he, bel⟩ => ?_
  subst he
  exact ⟨_, rfl, _, _, _, [], _, [], hW', trodAll_mk1 (shut_bool Try.underlying4 _), (trodAll_cons_mk (Below.trod laidOut (by kernel_rfl) (of_decide_eq_true (by kernel_rfl)) k0 bel lt0) trodAll_mk0), rfl, bel.frame _, fun h => by cases h⟩

/-- The closed facts of the row: what the function reaches is read off the table of calls. -/
theorem jf : joinedFacts Try.prog 12 Try.f12 Rows.fnExactNextPermutationSpec Rows.fnExactNextPermutationRow = true := by
  have e1 : Try.prog.inPlace 12 = Rows.fnExactNextPermutationRow.inPlace := by unfold Program.inPlace; rw [clo]; kernel_rfl
  have e2 : Try.prog.unfollowed 12 = Rows.fnExactNextPermutationRow.unfollowed := by unfold Program.unfollowed; rw [clo]; kernel_rfl
  have e3 : Try.prog.recurses 12 = Rows.fnExactNextPermutationRow.recurses := by unfold Program.recurses; rw [e2]; simp only [clo, leads]; kernel_rfl
  have e4 : Try.prog.varsNamed 12 = Rows.fnExactNextPermutationRow.named := by unfold Program.varsNamed; rw [clo]; kernel_rfl
  unfold joinedFacts
  rw [e1, e2, e3, e4, p_enter, p_lift, p_make, p_plain, p_heard, p_stops, p_knobs, p_laid, p_maps]
  show (_ : Bool) = true
  kernel_rfl

theorem over : Rows.fnExactNextPermutationRow.holds Try.pinned (OpenSpec.ofChange Rows.fnExactNextPermutationSpec) :=
  OpenClaim.holds_of_wide 12 Try.f12 rfl rfl rfl rfl rfl rfl rfl ⟨rfl, rfl, rfl, rfl, rfl⟩ rfl rfl rfl rfl rfl (by kernel_rfl) Try.func12 jf
    (of_decide_eq_true (by kernel_rfl)) (by unfold Func.isWrapper; first | (rw [if_pos (by decide +kernel)]; kernel_rfl) | (rw [if_neg (by decide +kernel)]; exact ⟨rfl, rfl⟩))
    (fun os started H enc _ => lifted os started H enc)

/-- ████ THE STATEMENT ████ -/
theorem proved : Rows.FnExactNextPermutationSaid := over
#print axioms proved
end Go.Proofs.Ytgkijiekfdeggaa.fnExactNextPermutation
