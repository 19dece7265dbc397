/- Proved: the law FnExactMixedAdd returns true for every input and leaves its arguments as they were. Conditions: none beyond those that the given row itself names. -/
import Derived.Test.YtehlkoogpgcipaaRows
import Derived.Test.YtehlkoogpgcipaaClo
import Derived.WalkKit
import Derived.Test.YtehlkoogpgcipaaAdd2
import Derived.ProofKit
import Derived.OpenShut
import Derived.ShutString
import Derived.ChangeOld
import Derived.Below
namespace Go.Proofs.Ytehlkoogpgcipaa.fnExactMixedAdd
open Go.ChangeShapes Go.WideShapes Go.ChangeAt Go.RowKit
open Go.ChangeMaps (open_string shut_string)
set_option linter.unusedVariables false

theorem own : ownKnob Try.prog.godebug = none := by kernel_rfl
theorem laidOut : laidOutB Try.prog = true := by kernel_rfl

/-- WHAT THE WALK IS TOLD OF A SLICE OF INTEGERS THAT CAME IN: it is nil; or it leads to a row of 'cap' cells, the numbers 'zs' (the first 'len' are its elements, the rest its spare room), each fitting its kind. -/
def IsRow (k : IntKind) (w : World) (a : Option Addr) (len cap : Nat) (zs : List Int) : Prop :=
  (a = none ∧ len = 0 ∧ cap = 0 ∧ zs = []) ∨
  ∃ x, a = some x ∧ len ≤ cap ∧ cap ≤ maxLen ∧ zs.length = cap ∧ (∀ i, i < zs.length → w.cell? (x.add i) = some (.int k (zs.getD i 0))) ∧ ∀ n ∈ zs, (Lit.int k n).wf = true


/-! ### STEP 1: THE WALK: the Go text returns true, AND WRITES NOTHING THAT WAS THERE: 'Below w.heap.size w w'' (Derived/Below.lean: '.refl', '.alloc', '.drew', '.setCell' at a new block, '.trans'). Open each 'IsRow' by 'rcases' AHEAD of 'go_enter'; part every test ahead of the walk. -/
theorem walk (a0 : Option Addr) (len0 cap0 : Nat) (z0 : List Int) (a1 : Option Addr) (len1 cap1 : Nat) (z1 : List Int) (a2 : Option Addr) (len2 cap2 : Nat) (z2 : List Int) (w : World) (w0 : IsRow .i64 w a0 len0 cap0 z0) (w1 : IsRow .i64 w a1 len1 cap1 z1) (w2 : IsRow .i64 w a2 len2 cap2 z2) :
    Calls Try.prog 12 #[.slice a0 len0 cap0, .slice a1 len1 cap1, .slice a2 len2 cap2] w fun e w' => e = .returned (.bool true) ∧ Below w.heap.size w w' := by
  obtain ⟨hr0, hlen0⟩ := rd_came w0
  obtain ⟨x0, hx0⟩ : ∃ xs, z0.take len0 = xs := ⟨_, rfl⟩
  rw [hx0] at hr0 hlen0
  clear hx0 w0
  have hl20 : len0 ≤ 9223372036854775807 := by
    obtain ⟨a, cap, n, e, HN, hm, -⟩ := hr0.open
    rw [← hlen0, HN.out]; exact hm
  have HL0 := Lib.hid hlen0
  clear hlen0
  obtain ⟨hr1, hlen1⟩ := rd_came w1
  obtain ⟨x1, hx1⟩ : ∃ xs, z1.take len1 = xs := ⟨_, rfl⟩
  rw [hx1] at hr1 hlen1
  clear hx1 w1
  have hl21 : len1 ≤ 9223372036854775807 := by
    obtain ⟨a, cap, n, e, HN, hm, -⟩ := hr1.open
    rw [← hlen1, HN.out]; exact hm
  have HL1 := Lib.hid hlen1
  clear hlen1
  obtain ⟨hr2, hlen2⟩ := rd_came w2
  obtain ⟨x2, hx2⟩ : ∃ xs, z2.take len2 = xs := ⟨_, rfl⟩
  rw [hx2] at hr2 hlen2
  clear hx2 w2
  have hl22 : len2 ≤ 9223372036854775807 := by
    obtain ⟨a, cap, n, e, HN, hm, -⟩ := hr2.open
    rw [← hlen2, HN.out]; exact hm
  have HL2 := Lib.hid hlen2
  clear hlen2
  by_cases hbig0 : 1048576 < len0
  · go_enter Try.func12, Try.ntmps12
    go_wp2_with fail
    go_ret
    exact ⟨rfl, Below.refl _ _⟩
  have hsm0 : len0 ≤ 1048576 := by omega
  clear hbig0
  have hsx0 : Hid (x0.length ≤ 1048576) := by show _ ≤ _; rw [HL0.out]; exact hsm0
  by_cases hbig1 : 1048576 < len1
  · go_enter Try.func12, Try.ntmps12
    go_wp2_with fail
    go_ret
    exact ⟨rfl, Below.refl _ _⟩
  have hsm1 : len1 ≤ 1048576 := by omega
  clear hbig1
  have hsx1 : Hid (x1.length ≤ 1048576) := by show _ ≤ _; rw [HL1.out]; exact hsm1
  by_cases hbig2 : 1048576 < len2
  · go_enter Try.func12, Try.ntmps12
    go_wp2_with fail
    go_ret
    exact ⟨rfl, Below.refl _ _⟩
  have hsm2 : len2 ≤ 1048576 := by omega
  clear hbig2
  have hsx2 : Hid (x2.length ≤ 1048576) := by show _ ≤ _; rw [HL2.out]; exact hsm2
  have hvl : Hid ((maL x0 x1 x2).length ≤ 1048576) := maL_len x0 x1 x2
  go_enter Try.func12, Try.ntmps12
  go_wp2_with fail
  refine (c_l_toIntS _ _ _ hr0 hsx0.out).mono ?_
  rintro e W1 ⟨v_c0, rfl, ho_c0, hb1⟩
  have hB1 := hb1
  go_wp2_with fail
  refine (c_l_toIntS _ _ _ (hr1.below hB1) hsx1.out).mono ?_
  rintro e W2 ⟨v_c1, rfl, ho_c1, hb2⟩
  have hB2 := hB1.trans (hb2.mono hB1.size)
  go_wp2_with fail
  refine (c_l_toIntS _ _ _ (hr2.below hB2) hsx2.out).mono ?_
  rintro e W3 ⟨v_c2, rfl, ho_c2, hb3⟩
  have hB3 := hB2.trans (hb3.mono hB2.size)
  go_wp2_with fail
  refine (c_s_MixedAdd _ _ _ _ _ _ _ ((ho_c0.below hb2).below hb3).rd (ho_c1.below hb3).rd ho_c2.rd).mono ?_
  rintro e W4 ⟨v_w, rfl, ho_w, hb4⟩
  have hB4 := hB3.trans (hb4.mono hB3.size)
  go_wp2_with fail
  refine (c_l_toIntS _ _ _ (hr0.below hB4) hsx0.out).mono ?_
  rintro e W5 ⟨v_x0, rfl, ho_x0, hb5⟩
  have hB5 := hB4.trans (hb5.mono hB4.size)
  go_wp2_with fail
  refine (c_l_toIntS _ _ _ (hr1.below hB5) hsx1.out).mono ?_
  rintro e W6 ⟨v_x1, rfl, ho_x1, hb6⟩
  have hB6 := hB5.trans (hb6.mono hB5.size)
  go_wp2_with fail
  refine (c_l_toIntS _ _ _ (hr2.below hB6) hsx2.out).mono ?_
  rintro e W7 ⟨v_x2, rfl, ho_x2, hb7⟩
  have hB7 := hB6.trans (hb7.mono hB6.size)
  go_wp2_with fail
  refine (c_i_MixedAdd _ _ _ _ _ _ _ ((ho_x0.below hb6).below hb7).rd (ho_x1.below hb7).rd ho_x2.rd).mono ?_
  rintro e W8 ⟨v_g, rfl, ho_g, hb8⟩
  have hB8 := hB7.trans (hb8.mono hB7.size)
  go_wp2_with fail
  refine (c_l_eqIntS _ _ _ _ _ ho_g.rd ((((ho_w.below hb5).below hb6).below hb7).below hb8).rd).mono ?_
  rintro e W9 ⟨rfl, hb9⟩
  have hB9 := hB8.trans (hb9.mono hB8.size)
  rw [decide_eq_true rfl]
  go_wp2_with fail
  refine (c_l_toIntS _ _ _ (hr0.below hB9) hsx0.out).mono ?_
  rintro e W10 ⟨v_y0, rfl, ho_y0, hb10⟩
  have hB10 := hB9.trans (hb10.mono hB9.size)
  go_wp2_with fail
  refine (c_l_eqIntS _ _ _ _ _ (((((ho_x0.below hb6).below hb7).below hb8).below hb9).below hb10).rd ho_y0.rd).mono ?_
  rintro e W11 ⟨rfl, hb11⟩
  have hB11 := hB10.trans (hb11.mono hB10.size)
  rw [decide_eq_true rfl]
  go_wp2_with fail
  refine (c_l_toIntS _ _ _ (hr1.below hB11) hsx1.out).mono ?_
  rintro e W12 ⟨v_y1, rfl, ho_y1, hb12⟩
  have hB12 := hB11.trans (hb12.mono hB11.size)
  go_wp2_with fail
  refine (c_l_eqIntS _ _ _ _ _ ((((((ho_x1.below hb7).below hb8).below hb9).below hb10).below hb11).below hb12).rd ho_y1.rd).mono ?_
  rintro e W13 ⟨rfl, hb13⟩
  have hB13 := hB12.trans (hb13.mono hB12.size)
  rw [decide_eq_true rfl]
  go_wp2_with fail
  refine (c_l_toIntS _ _ _ (hr2.below hB13) hsx2.out).mono ?_
  rintro e W14 ⟨v_y2, rfl, ho_y2, hb14⟩
  have hB14 := hB13.trans (hb14.mono hB13.size)
  go_wp2_with fail
  refine (c_l_eqIntS _ _ _ _ _ (((((((ho_x2.below hb8).below hb9).below hb10).below hb11).below hb12).below hb13).below hb14).rd ho_y2.rd).mono ?_
  rintro e W15 ⟨rfl, hb15⟩
  have hB15 := hB14.trans (hb15.mono hB14.size)
  rw [decide_eq_true rfl]
  have HLv : ∃ N : Nat, Hid ((maL x0 x1 x2).length = N) ∧ N ≤ 1048576 := ⟨_, Lib.hid rfl, hvl.out⟩
  obtain ⟨N, HN, hN⟩ := HLv
  go_wp2_with fail
  refine (c_l_markIntS _ _ _ 1 _ ((((((((((ho_x0.below hb6).below hb7).below hb8).below hb9).below hb10).below hb11).below hb12).below hb13).below hb14).below hb15) hsx0.out (by omega)).mono ?_
  rintro e W16 ⟨rfl, hom16, hg16⟩
  have hB16 : Below w.heap.size w W16 := hB15.grown hg16 hB15.size (fun k hk => Nat.le_trans hB4.size (((((((((((ho_x0.below hb6).below hb7).below hb8).below hb9).below hb10).below hb11).below hb12).below hb13).below hb14).below hb15).lt k hk).1)
  rw [HL0.out]
  simp only [Int.natCast_one]
  go_wp2_with fail
  refine (c_l_markIntS _ _ _ (1 + len0) _ ((((((((((ho_x1.below hb7).below hb8).below hb9).below hb10).below hb11).below hb12).below hb13).below hb14).below hb15).kept hg16 ((((((((((ho_x1.below hb7).below hb8).below hb9).below hb10).below hb11).below hb12).below hb13).below hb14).below hb15).ne (fun k hk => (ho_x0.lt k hk).2))) hsx1.out (by omega)).mono ?_
  rintro e W17 ⟨rfl, hom17, hg17⟩
  have hB17 : Below w.heap.size w W17 := hB16.grown hg17 hB16.size (fun k hk => Nat.le_trans hB5.size (((((((((((ho_x1.below hb7).below hb8).below hb9).below hb10).below hb11).below hb12).below hb13).below hb14).below hb15).kept hg16 ((((((((((ho_x1.below hb7).below hb8).below hb9).below hb10).below hb11).below hb12).below hb13).below hb14).below hb15).ne (fun k hk => (ho_x0.lt k hk).2))).lt k hk).1)
  rw [HL1.out]
  simp only [← Int.natCast_add]
  go_wp2_with fail
  refine (c_l_markIntS _ _ _ ((1 + len0) + len1) _ ((((((((((ho_x2.below hb8).below hb9).below hb10).below hb11).below hb12).below hb13).below hb14).below hb15).kept hg16 (((((((((ho_x2.below hb8).below hb9).below hb10).below hb11).below hb12).below hb13).below hb14).below hb15).ne (fun k hk => ((ho_x0.below hb6).lt k hk).2))).kept hg17 ((((((((((ho_x2.below hb8).below hb9).below hb10).below hb11).below hb12).below hb13).below hb14).below hb15).kept hg16 (((((((((ho_x2.below hb8).below hb9).below hb10).below hb11).below hb12).below hb13).below hb14).below hb15).ne (fun k hk => ((ho_x0.below hb6).lt k hk).2))).ne (fun k hk => (ho_x1.lt k hk).2))) hsx2.out (by omega)).mono ?_
  rintro e W18 ⟨rfl, hom18, hg18⟩
  have hB18 : Below w.heap.size w W18 := hB17.grown hg18 hB17.size (fun k hk => Nat.le_trans hB6.size (((((((((((ho_x2.below hb8).below hb9).below hb10).below hb11).below hb12).below hb13).below hb14).below hb15).kept hg16 (((((((((ho_x2.below hb8).below hb9).below hb10).below hb11).below hb12).below hb13).below hb14).below hb15).ne (fun k hk => ((ho_x0.below hb6).lt k hk).2))).kept hg17 ((((((((((ho_x2.below hb8).below hb9).below hb10).below hb11).below hb12).below hb13).below hb14).below hb15).kept hg16 (((((((((ho_x2.below hb8).below hb9).below hb10).below hb11).below hb12).below hb13).below hb14).below hb15).ne (fun k hk => ((ho_x0.below hb6).lt k hk).2))).ne (fun k hk => (ho_x1.lt k hk).2))).lt k hk).1)
  rw [HL2.out]
  go_wp2_with fail
  refine (c_l_eqIntS _ _ _ _ _ ((((((((((ho_g.below hb9).below hb10).below hb11).below hb12).below hb13).below hb14).below hb15).kept hg16 ((((((((ho_g.below hb9).below hb10).below hb11).below hb12).below hb13).below hb14).below hb15).ne (fun k hk => (((ho_x0.below hb6).below hb7).lt k hk).2))).kept hg17 (((((((((ho_g.below hb9).below hb10).below hb11).below hb12).below hb13).below hb14).below hb15).kept hg16 ((((((((ho_g.below hb9).below hb10).below hb11).below hb12).below hb13).below hb14).below hb15).ne (fun k hk => (((ho_x0.below hb6).below hb7).lt k hk).2))).ne (fun k hk => ((ho_x1.below hb7).lt k hk).2))).kept hg18 ((((((((((ho_g.below hb9).below hb10).below hb11).below hb12).below hb13).below hb14).below hb15).kept hg16 ((((((((ho_g.below hb9).below hb10).below hb11).below hb12).below hb13).below hb14).below hb15).ne (fun k hk => (((ho_x0.below hb6).below hb7).lt k hk).2))).kept hg17 (((((((((ho_g.below hb9).below hb10).below hb11).below hb12).below hb13).below hb14).below hb15).kept hg16 ((((((((ho_g.below hb9).below hb10).below hb11).below hb12).below hb13).below hb14).below hb15).ne (fun k hk => (((ho_x0.below hb6).below hb7).lt k hk).2))).ne (fun k hk => ((ho_x1.below hb7).lt k hk).2))).ne (fun k hk => (ho_x2.lt k hk).2))).rd ((((((((((((((ho_w.below hb5).below hb6).below hb7).below hb8).below hb9).below hb10).below hb11).below hb12).below hb13).below hb14).below hb15).kept hg16 (((((((((((ho_x0.below hb6).below hb7).below hb8).below hb9).below hb10).below hb11).below hb12).below hb13).below hb14).below hb15).ne' (fun k hk => (ho_w.lt k hk).2))).kept hg17 (((((((((((ho_x1.below hb7).below hb8).below hb9).below hb10).below hb11).below hb12).below hb13).below hb14).below hb15).kept hg16 ((((((((((ho_x1.below hb7).below hb8).below hb9).below hb10).below hb11).below hb12).below hb13).below hb14).below hb15).ne (fun k hk => (ho_x0.lt k hk).2))).ne' (fun k hk => ((ho_w.below hb5).lt k hk).2))).kept hg18 (((((((((((ho_x2.below hb8).below hb9).below hb10).below hb11).below hb12).below hb13).below hb14).below hb15).kept hg16 (((((((((ho_x2.below hb8).below hb9).below hb10).below hb11).below hb12).below hb13).below hb14).below hb15).ne (fun k hk => ((ho_x0.below hb6).lt k hk).2))).kept hg17 ((((((((((ho_x2.below hb8).below hb9).below hb10).below hb11).below hb12).below hb13).below hb14).below hb15).kept hg16 (((((((((ho_x2.below hb8).below hb9).below hb10).below hb11).below hb12).below hb13).below hb14).below hb15).ne (fun k hk => ((ho_x0.below hb6).lt k hk).2))).ne (fun k hk => (ho_x1.lt k hk).2))).ne' (fun k hk => (((ho_w.below hb5).below hb6).lt k hk).2))).rd).mono ?_
  rintro e W19 ⟨rfl, hb19⟩
  have hB19 := hB18.trans (hb19.mono hB18.size)
  rw [decide_eq_true rfl]
  go_wp2_with fail
  refine (c_l_markIntS _ _ _ 1 _ (((((((((((ho_g.below hb9).below hb10).below hb11).below hb12).below hb13).below hb14).below hb15).kept hg16 ((((((((ho_g.below hb9).below hb10).below hb11).below hb12).below hb13).below hb14).below hb15).ne (fun k hk => (((ho_x0.below hb6).below hb7).lt k hk).2))).kept hg17 (((((((((ho_g.below hb9).below hb10).below hb11).below hb12).below hb13).below hb14).below hb15).kept hg16 ((((((((ho_g.below hb9).below hb10).below hb11).below hb12).below hb13).below hb14).below hb15).ne (fun k hk => (((ho_x0.below hb6).below hb7).lt k hk).2))).ne (fun k hk => ((ho_x1.below hb7).lt k hk).2))).kept hg18 ((((((((((ho_g.below hb9).below hb10).below hb11).below hb12).below hb13).below hb14).below hb15).kept hg16 ((((((((ho_g.below hb9).below hb10).below hb11).below hb12).below hb13).below hb14).below hb15).ne (fun k hk => (((ho_x0.below hb6).below hb7).lt k hk).2))).kept hg17 (((((((((ho_g.below hb9).below hb10).below hb11).below hb12).below hb13).below hb14).below hb15).kept hg16 ((((((((ho_g.below hb9).below hb10).below hb11).below hb12).below hb13).below hb14).below hb15).ne (fun k hk => (((ho_x0.below hb6).below hb7).lt k hk).2))).ne (fun k hk => ((ho_x1.below hb7).lt k hk).2))).ne (fun k hk => (ho_x2.lt k hk).2))).below hb19) hvl.out (by omega)).mono ?_
  rintro e W20 ⟨rfl, hom20, hg20⟩
  have hB20 : Below w.heap.size w W20 := hB19.grown hg20 hB19.size (fun k hk => Nat.le_trans hB7.size ((((((((((((ho_g.below hb9).below hb10).below hb11).below hb12).below hb13).below hb14).below hb15).kept hg16 ((((((((ho_g.below hb9).below hb10).below hb11).below hb12).below hb13).below hb14).below hb15).ne (fun k hk => (((ho_x0.below hb6).below hb7).lt k hk).2))).kept hg17 (((((((((ho_g.below hb9).below hb10).below hb11).below hb12).below hb13).below hb14).below hb15).kept hg16 ((((((((ho_g.below hb9).below hb10).below hb11).below hb12).below hb13).below hb14).below hb15).ne (fun k hk => (((ho_x0.below hb6).below hb7).lt k hk).2))).ne (fun k hk => ((ho_x1.below hb7).lt k hk).2))).kept hg18 ((((((((((ho_g.below hb9).below hb10).below hb11).below hb12).below hb13).below hb14).below hb15).kept hg16 ((((((((ho_g.below hb9).below hb10).below hb11).below hb12).below hb13).below hb14).below hb15).ne (fun k hk => (((ho_x0.below hb6).below hb7).lt k hk).2))).kept hg17 (((((((((ho_g.below hb9).below hb10).below hb11).below hb12).below hb13).below hb14).below hb15).kept hg16 ((((((((ho_g.below hb9).below hb10).below hb11).below hb12).below hb13).below hb14).below hb15).ne (fun k hk => (((ho_x0.below hb6).below hb7).lt k hk).2))).ne (fun k hk => ((ho_x1.below hb7).lt k hk).2))).ne (fun k hk => (ho_x2.lt k hk).2))).below hb19).lt k hk).1)
  rw [HN.out]
  go_wp2_with fail
  refine (c_l_heldIntS _ _ 1 _ hom20.rd hvl.out (by omega)).mono ?_
  rintro e W21 ⟨rfl, hb21⟩
  have hB21 := hB20.trans (hb21.mono hB20.size)
  rw [HN.out]
  go_wp2_with fail
  refine (c_l_toIntS _ _ _ (hr0.below hB21) hsx0.out).mono ?_
  rintro e W22 ⟨v_z0, rfl, ho_z0, hb22⟩
  have hB22 := hB21.trans (hb22.mono hB21.size)
  go_wp2_with fail
  refine (c_l_toIntS _ _ _ (hr1.below hB22) hsx1.out).mono ?_
  rintro e W23 ⟨v_z1, rfl, ho_z1, hb23⟩
  have hB23 := hB22.trans (hb23.mono hB22.size)
  go_wp2_with fail
  refine (c_l_toIntS _ _ _ (hr2.below hB23) hsx2.out).mono ?_
  rintro e W24 ⟨v_z2, rfl, ho_z2, hb24⟩
  have hB24 := hB23.trans (hb24.mono hB23.size)
  go_wp2_with fail
  refine (c_i_MixedAdd _ _ _ _ _ _ _ ((ho_z0.below hb23).below hb24).rd (ho_z1.below hb24).rd ho_z2.rd).mono ?_
  rintro e W25 ⟨v_h, rfl, ho_h, hb25⟩
  have hB25 := hB24.trans (hb25.mono hB24.size)
  go_wp2_with fail
  refine (c_l_eqIntS _ _ _ _ _ ho_h.rd (((((((((((((((((((((ho_w.below hb5).below hb6).below hb7).below hb8).below hb9).below hb10).below hb11).below hb12).below hb13).below hb14).below hb15).kept hg16 (((((((((((ho_x0.below hb6).below hb7).below hb8).below hb9).below hb10).below hb11).below hb12).below hb13).below hb14).below hb15).ne' (fun k hk => (ho_w.lt k hk).2))).kept hg17 (((((((((((ho_x1.below hb7).below hb8).below hb9).below hb10).below hb11).below hb12).below hb13).below hb14).below hb15).kept hg16 ((((((((((ho_x1.below hb7).below hb8).below hb9).below hb10).below hb11).below hb12).below hb13).below hb14).below hb15).ne (fun k hk => (ho_x0.lt k hk).2))).ne' (fun k hk => ((ho_w.below hb5).lt k hk).2))).kept hg18 (((((((((((ho_x2.below hb8).below hb9).below hb10).below hb11).below hb12).below hb13).below hb14).below hb15).kept hg16 (((((((((ho_x2.below hb8).below hb9).below hb10).below hb11).below hb12).below hb13).below hb14).below hb15).ne (fun k hk => ((ho_x0.below hb6).lt k hk).2))).kept hg17 ((((((((((ho_x2.below hb8).below hb9).below hb10).below hb11).below hb12).below hb13).below hb14).below hb15).kept hg16 (((((((((ho_x2.below hb8).below hb9).below hb10).below hb11).below hb12).below hb13).below hb14).below hb15).ne (fun k hk => ((ho_x0.below hb6).lt k hk).2))).ne (fun k hk => (ho_x1.lt k hk).2))).ne' (fun k hk => (((ho_w.below hb5).below hb6).lt k hk).2))).below hb19).kept hg20 ((((((((((((ho_g.below hb9).below hb10).below hb11).below hb12).below hb13).below hb14).below hb15).kept hg16 ((((((((ho_g.below hb9).below hb10).below hb11).below hb12).below hb13).below hb14).below hb15).ne (fun k hk => (((ho_x0.below hb6).below hb7).lt k hk).2))).kept hg17 (((((((((ho_g.below hb9).below hb10).below hb11).below hb12).below hb13).below hb14).below hb15).kept hg16 ((((((((ho_g.below hb9).below hb10).below hb11).below hb12).below hb13).below hb14).below hb15).ne (fun k hk => (((ho_x0.below hb6).below hb7).lt k hk).2))).ne (fun k hk => ((ho_x1.below hb7).lt k hk).2))).kept hg18 ((((((((((ho_g.below hb9).below hb10).below hb11).below hb12).below hb13).below hb14).below hb15).kept hg16 ((((((((ho_g.below hb9).below hb10).below hb11).below hb12).below hb13).below hb14).below hb15).ne (fun k hk => (((ho_x0.below hb6).below hb7).lt k hk).2))).kept hg17 (((((((((ho_g.below hb9).below hb10).below hb11).below hb12).below hb13).below hb14).below hb15).kept hg16 ((((((((ho_g.below hb9).below hb10).below hb11).below hb12).below hb13).below hb14).below hb15).ne (fun k hk => (((ho_x0.below hb6).below hb7).lt k hk).2))).ne (fun k hk => ((ho_x1.below hb7).lt k hk).2))).ne (fun k hk => (ho_x2.lt k hk).2))).below hb19).ne' (fun k hk => ((((ho_w.below hb5).below hb6).below hb7).lt k hk).2))).below hb21).below hb22).below hb23).below hb24).below hb25).rd).mono ?_
  rintro e W26 ⟨rfl, hb26⟩
  have hB26 := hB25.trans (hb26.mono hB25.size)
  rw [decide_eq_true rfl]
  go_wp2_with fail
  refine (c_l_heldIntS _ _ 1 _ ((((((hom20.below hb21).below hb22).below hb23).below hb24).below hb25).below hb26).rd hvl.out (by omega)).mono ?_
  rintro e W27 ⟨rfl, hb27⟩
  have hB27 := hB26.trans (hb27.mono hB26.size)
  rw [HN.out]
  go_wp2
  go_ret
  exact ⟨rfl, hB27⟩

/-! ### THE ROW's STEP: WRITTEN OUT: LEAVE IT -/
set_option maxRecDepth 100000 in
theorem lifted (os : Os) (started : os.Started) (H : Type) (enc : TypeId × Value → H) :
    ReturnsInHanded {} Try.checked os 12 .any (Rows.fnExactMixedAddSpec.pre6 enc Try.prog Try.f12 Rows.fnExactMixedAddRow.domain false) (Rows.fnExactMixedAddSpec.post enc Try.prog Try.f12 false true false false) := by
  refine returnsInHanded_of_change (C := Try.checked) own started (by kernel_rfl) Try.func12
    (ChangeSpec.witness6 (enc := enc) (C := Try.checked) false ⟨#[], #[.slice none 0 0, .slice none 0 0, .slice none 0 0], []⟩ 8 (by kernel_rfl) (by kernel_rfl) (by kernel_rfl) (by kernel_rfl)) ?_
  intro W base args ds gs before hval0 hW hcnd _
  have hval : ∀ (j : Nat) t v, Try.f12.params[j]? = some t → args[j]? = some v → Value.okWide Try.prog W .any base t v := hval0
  have hW' := hW
  obtain ⟨p, q, hA0, hV, rfl, hfz, hnd⟩ := hW
  have hA : DataW.TrodAll enc Try.prog W 0 (fun _ => true) true Try.f12.params.toList args.toList ds p := hA0
  rw [Try.params12] at hA hval
  obtain ⟨v0, vs0, d0, ds0, p0, q0, hargs, rfl, rfl, h0, r0⟩ := trodAll_cons hA
  obtain ⟨v1, vs1, d1, ds1, p1, q1, rfl, rfl, rfl, h1, r1⟩ := trodAll_cons r0
  obtain ⟨v2, vs2, d2, ds2, p2, q2, rfl, rfl, rfl, h2, r2⟩ := trodAll_cons r1
  obtain ⟨rfl, rfl, rfl⟩ := trodAll_nil r2
  obtain rfl : args = #[v0, v1, v2] := by cases args; simp_all
  obtain ⟨rfl, rfl⟩ := trodVars_none hV
  obtain ⟨a0, len0, cap0, rfl⟩ := okWide_slice Try.underlying23 (hval 0 23 v0 rfl rfl)
  have k0 := h0
  have lt0 : ∀ x ∈ p0, x.block < W.heap.size := by obtain ⟨m, hm⟩ := k0; exact DataW.trod_lt m _ _ _ hm
  obtain ⟨z0, w0⟩ : ∃ zs, IsRow .i64 W a0 len0 cap0 zs := by
    obtain ⟨fuel, hf⟩ := h0
    rcases open_ints Try.underlying23 Try.underlying3 (by kernel_rfl) hf with ⟨hcs, _⟩ | ⟨x, l, c, zs, hcs, _, hl, hm, hz, _, hcell, hwz⟩
    · simp [Value.cells] at hcs
      obtain ⟨rfl, rfl, rfl⟩ := hcs
      exact ⟨[], .inl ⟨rfl, rfl, rfl, rfl⟩⟩
    · simp [Value.cells] at hcs
      obtain ⟨rfl, rfl, rfl⟩ := hcs
      exact ⟨zs, .inr ⟨_, rfl, hl, hm, by simpa using hz, hcell, hwz⟩⟩
  obtain ⟨a1, len1, cap1, rfl⟩ := okWide_slice Try.underlying23 (hval 1 23 v1 rfl rfl)
  have k1 := h1
  have lt1 : ∀ x ∈ p1, x.block < W.heap.size := by obtain ⟨m, hm⟩ := k1; exact DataW.trod_lt m _ _ _ hm
  obtain ⟨z1, w1⟩ : ∃ zs, IsRow .i64 W a1 len1 cap1 zs := by
    obtain ⟨fuel, hf⟩ := h1
    rcases open_ints Try.underlying23 Try.underlying3 (by kernel_rfl) hf with ⟨hcs, _⟩ | ⟨x, l, c, zs, hcs, _, hl, hm, hz, _, hcell, hwz⟩
    · simp [Value.cells] at hcs
      obtain ⟨rfl, rfl, rfl⟩ := hcs
      exact ⟨[], .inl ⟨rfl, rfl, rfl, rfl⟩⟩
    · simp [Value.cells] at hcs
      obtain ⟨rfl, rfl, rfl⟩ := hcs
      exact ⟨zs, .inr ⟨_, rfl, hl, hm, by simpa using hz, hcell, hwz⟩⟩
  obtain ⟨a2, len2, cap2, rfl⟩ := okWide_slice Try.underlying23 (hval 2 23 v2 rfl rfl)
  have k2 := h2
  have lt2 : ∀ x ∈ p2, x.block < W.heap.size := by obtain ⟨m, hm⟩ := k2; exact DataW.trod_lt m _ _ _ hm
  obtain ⟨z2, w2⟩ : ∃ zs, IsRow .i64 W a2 len2 cap2 zs := by
    obtain ⟨fuel, hf⟩ := h2
    rcases open_ints Try.underlying23 Try.underlying3 (by kernel_rfl) hf with ⟨hcs, _⟩ | ⟨x, l, c, zs, hcs, _, hl, hm, hz, _, hcell, hwz⟩
    · simp [Value.cells] at hcs
      obtain ⟨rfl, rfl, rfl⟩ := hcs
      exact ⟨[], .inl ⟨rfl, rfl, rfl, rfl⟩⟩
    · simp [Value.cells] at hcs
      obtain ⟨rfl, rfl, rfl⟩ := hcs
      exact ⟨zs, .inr ⟨_, rfl, hl, hm, by simpa using hz, hcell, hwz⟩⟩
  clear hA0 hval0
  refine (walk a0 len0 cap0 z0 a1 len1 cap1 z1 a2 len2 cap2 z2 W w0 w1 w2).mono fun e W' ⟨he, bel⟩ => ?_
  subst he
  exact ⟨_, rfl, _, _, _, [], _, [], hW', trodAll_mk1 (shut_bool Try.underlying4 _), (trodAll_cons_mk (Below.trod laidOut (by kernel_rfl) (of_decide_eq_true (by kernel_rfl)) k0 bel lt0) (trodAll_cons_mk (Below.trod laidOut (by kernel_rfl) (of_decide_eq_true (by kernel_rfl)) k1 bel lt1) (trodAll_cons_mk (Below.trod laidOut (by kernel_rfl) (of_decide_eq_true (by kernel_rfl)) k2 bel lt2) trodAll_mk0))), rfl, bel.frame _, fun h => by cases h⟩

/-- The closed facts of the row: what the function reaches is read off the table of calls. -/
theorem jf : joinedFacts Try.prog 12 Try.f12 Rows.fnExactMixedAddSpec Rows.fnExactMixedAddRow = true := by
  have e1 : Try.prog.inPlace 12 = Rows.fnExactMixedAddRow.inPlace := by unfold Program.inPlace; rw [clo]; kernel_rfl
  have e2 : Try.prog.unfollowed 12 = Rows.fnExactMixedAddRow.unfollowed := by unfold Program.unfollowed; rw [clo]; kernel_rfl
  have e3 : Try.prog.recurses 12 = Rows.fnExactMixedAddRow.recurses := by unfold Program.recurses; rw [e2]; simp only [clo, leads]; kernel_rfl
  have e4 : Try.prog.varsNamed 12 = Rows.fnExactMixedAddRow.named := by unfold Program.varsNamed; rw [clo]; kernel_rfl
  unfold joinedFacts
  rw [e1, e2, e3, e4, p_enter, p_lift, p_make, p_plain, p_heard, p_stops, p_knobs, p_laid, p_maps]
  show (_ : Bool) = true
  kernel_rfl

theorem over : Rows.fnExactMixedAddRow.holds Try.pinned (OpenSpec.ofChange Rows.fnExactMixedAddSpec) :=
  OpenClaim.holds_of_wide 12 Try.f12 rfl rfl rfl rfl rfl rfl rfl ⟨rfl, rfl, rfl, rfl, rfl⟩ rfl rfl rfl rfl rfl (by kernel_rfl) Try.func12 jf
    (of_decide_eq_true (by kernel_rfl)) (by unfold Func.isWrapper; first | (rw [if_pos (by decide +kernel)]; kernel_rfl) | (rw [if_neg (by decide +kernel)]; exact ⟨rfl, rfl⟩))
    (fun os started H enc _ => lifted os started H enc)

/-- ████ THE STATEMENT ████ -/
theorem proved : Rows.FnExactMixedAddSaid := over
#print axioms proved
end Go.Proofs.Ytehlkoogpgcipaa.fnExactMixedAdd
