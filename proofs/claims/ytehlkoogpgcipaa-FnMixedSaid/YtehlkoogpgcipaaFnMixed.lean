/- Proved: FnMixed: mixed digits are added with carries, and each carry takes a radix minus 1 from the digits: the law returns true for every input and leaves its arguments as they were. Conditions: none beyond those that the given row itself names. -/
import Derived.Test.YtehlkoogpgcipaaRows
import Derived.Test.YtehlkoogpgcipaaClo
import Derived.WalkKit
import Derived.Deep.RegionLaw
import Derived.IntWalk
import Derived.Deep.RegionHeld3
import Derived.Test.YtehlkoogpgcipaaMxl
import Derived.Test.YtehlkoogpgcipaaDrw
import Derived.ProofKit
import Derived.OpenShut
import Derived.ShutString
import Derived.ChangeOld
import Derived.Below
namespace Go.Proofs.Ytehlkoogpgcipaa.fnMixed
open Go.ChangeShapes Go.WideShapes Go.ChangeAt Go.RowKit
open Go.ChangeMaps (open_string shut_string)
set_option linter.unusedVariables false

theorem own : ownKnob Try.prog.godebug = none := by kernel_rfl
theorem laidOut : laidOutB Try.prog = true := by kernel_rfl

/-- WHAT THE WALK IS TOLD OF A SLICE OF INTEGERS THAT CAME IN: it is nil; or it leads to a row of 'cap' cells, the numbers 'zs' (the first 'len' are its elements, the rest its spare room), each fitting its kind. -/
def IsRow (k : IntKind) (w : World) (a : Option Addr) (len cap : Nat) (zs : List Int) : Prop :=
  (a = none ∧ len = 0 ∧ cap = 0 ∧ zs = []) ∨
  ∃ x, a = some x ∧ len ≤ cap ∧ cap ≤ maxLen ∧ zs.length = cap ∧ (∀ i, i < zs.length → w.cell? (x.add i) = some (.int k (zs.getD i 0))) ∧ ∀ n ∈ zs, (Lit.int k n).wf = true

open Pl
set_option maxRecDepth 10000
set_option maxHeartbeats 1500000
theorem prodL_two {l : List Int} (h1 : 1 ≤ l.length) (h : ∀ x ∈ l, 2 ≤ x) : 2 ≤ prodL l := by
  cases l with
  | nil => simp at h1
  | cons y l =>
    have h2 := h y (List.mem_cons_self ..)
    have h3 := prodL_pos (l := l) fun x hx => by have := h x (List.mem_cons_of_mem _ hx); omega
    have := Int.mul_le_mul h2 h3 (by omega) (by omega)
    rw [prodL_cons]; omega
theorem Own.three (w : World) (B : Nat) (x : Int) (hB : B ≤ w.heap.size) (hx : bd x) : Own (w.alloc (.cells #[.int .i64 x, .int .i64 x, .int .i64 x] 3)) B (.slice (some ⟨w.heap.size, 0, none⟩) 3 3) [x, x, x] :=
  ⟨by intro y hy; simp at hy; subst hy; exact hx, by simpa using World.ownsRow_lit (base := B) (e := 3) (size := 1) w #[.int .i64 x, .int .i64 x, .int .i64 x] 3 hB (by unfold maxLen; omega) rfl⟩

/-! ### STEP 1: THE WALK: the Go text returns true, AND WRITES NOTHING THAT WAS THERE: 'Below w.heap.size w w'' (Derived/Below.lean: '.refl', '.alloc', '.drew', '.setCell' at a new block, '.trans'). Open each 'IsRow' by 'rcases' AHEAD of 'go_enter'; part every test ahead of the walk. -/
theorem walk (a0 : Option Addr) (len0 cap0 : Nat) (z0 : List Int) (w : World) (w0 : IsRow .u8 w a0 len0 cap0 z0) :
    Calls Try.prog 3 #[.slice a0 len0 cap0] w fun e w' => e = .returned (.bool true) ∧ Below w.heap.size w w' := by
  have hr := Lib.hid (rdu_came w0)
  clear w0
  by_cases hbig : 1048576 < len0
  · go_enter Try.func3, Try.ntmps3
    go_wp2_with fail
    go_ret
    exact ⟨rfl, Below.refl _ _⟩
  have hsm : len0 ≤ 1048576 := by omega
  clear hbig
  go_enter Try.func3, Try.ntmps3
  go_wp2_with fail
  refine (c_s_MakeRadices _ _ _ _ _ 0 hr.out hsm (by omega)).mono ?_
  rintro e W1 ⟨v, rs, rfl, ho, ⟨hl1, hl4⟩, hx12, hb1⟩
  have hB1 := hb1
  have hrok := rok_mk hl1 (by omega) (fun x hx => by have := hx12 x hx; omega) (by
    have h1 := prodL_12 rs hx12
    have h2 : (12 : Int) ^ rs.length ≤ 12 ^ 4 := (show ∀ n, n ≤ 4 → (12 : Int) ^ n ≤ 12 ^ 4 by decide) _ hl4
    have h3 : (12 : Int) ^ 4 = 20736 := by decide
    omega)
  have hP2 : prodL rs ≤ 20736 := by
    have h1 := prodL_12 rs hx12
    have h2 : (12 : Int) ^ rs.length ≤ 12 ^ 4 := (show ∀ n, n ≤ 4 → (12 : Int) ^ n ≤ 12 ^ 4 by decide) _ hl4
    have h3 : (12 : Int) ^ 4 = 20736 := by decide
    omega
  have hP1 : 2 ≤ prodL rs := prodL_two hl1 (fun x hx => (hx12 x hx).1)
  have hRng : rngV rs = prodL rs := by unfold rngV; rw [hrok]; rfl
  have hPlc : Hid (plcV rs = plcL rs) := by unfold plcV; rw [hrok]; rfl
  have HRK := Lib.hid hrok
  have hplen : Hid ((plcL rs).length = rs.length) := by simp [Hid, plcL]
  obtain ⟨P, hP⟩ : ∃ P, prodL rs = P := ⟨_, rfl⟩
  rw [hP] at hP1 hP2 hRng
  have HP := Lib.hid hP
  have HRng := Lib.hid hRng
  clear hP hRng hrok hx12
  obtain ⟨a0r, capr, L, rfl, HN, -, -, -, hcellr⟩ := ho.rd.open
  rw [HN.out] at hl1 hl4
  clear hcellr
  have Rr := Lib.hid (ho.rd)
  clear ho
  go_wp2_with fail
  refine (c_i_RangeOf _ rs _ Rr.out).mono ?_
  rintro e W2 ⟨rfl, hb2⟩
  have hB2 := hB1.trans (hb2.mono hB1.size)
  have T := Rr.out.below hb2
  clear Rr
  have Rr := Lib.hid T
  clear T
  rw [HRng.out]
  go_wp2_with fail
  refine (c_i_PlacesOf _ rs _ Rr.out).mono ?_
  rintro e W3 ⟨v2, rfl, ho2, hb3⟩
  have hB3 := hB2.trans (hb3.mono hB2.size)
  have T := Rr.out.below hb3
  clear Rr
  have Rr := Lib.hid T
  clear T
  rw [hPlc.out] at ho2
  obtain ⟨ap, capp, Lp, rfl, HNp, -, -, -, -⟩ := ho2.rd.open
  obtain rfl : L = Lp := by rw [← HNp.out, hplen.out, HN.out]
  have Rp := Lib.hid (ho2.rd)
  clear ho2
  go_wp2_with fail
  refine (c_i_RadicesOk _ rs _ Rr.out).mono ?_
  rintro e W4 ⟨rfl, hb4⟩
  have hB4 := hB3.trans (hb4.mono hB3.size)
  have T := Rr.out.below hb4
  clear Rr
  have Rr := Lib.hid T
  clear T
  have T := Rp.out.below hb4
  clear Rp
  have Rp := Lib.hid T
  clear T
  rw [HRK.out]
  go_wp2_with fail
  refine (c_s_MakeNum _ _ _ _ _ 10 (hr.out.below hB4) hsm (by omega)).mono ?_
  rintro e W5 ⟨n0, rfl, hn0, hn1, hb5⟩
  have hB5 := hB4.trans (hb5.mono hB4.size)
  have T := Rr.out.below hb5
  clear Rr
  have Rr := Lib.hid T
  clear T
  have T := Rp.out.below hb5
  clear Rp
  have Rp := Lib.hid T
  clear T
  have hnr0 := Int.emod_nonneg n0 (show P ≠ 0 by omega)
  have hnr1 := Int.emod_lt_of_pos n0 (show 0 < P by omega)
  obtain ⟨n, hn⟩ : ∃ n, n0 % P = n := ⟨_, rfl⟩
  rw [hn] at hnr0 hnr1
  go_wp2_with fail
  refine (c_s_MakeNum _ _ _ _ _ 12 (hr.out.below hB5) hsm (by omega)).mono ?_
  rintro e W6 ⟨m0, rfl, hm0, hm1, hb6⟩
  have hB6 := hB5.trans (hb6.mono hB5.size)
  have T := Rr.out.below hb6
  clear Rr
  have Rr := Lib.hid T
  clear T
  have T := Rp.out.below hb6
  clear Rp
  have Rp := Lib.hid T
  clear T
  have hmr0 := Int.emod_nonneg m0 (show P ≠ 0 by omega)
  have hmr1 := Int.emod_lt_of_pos m0 (show 0 < P by omega)
  obtain ⟨m, hm⟩ : ∃ m, m0 % P = m := ⟨_, rfl⟩
  rw [hm] at hmr0 hmr1
  obtain ⟨a, c, s, q, k, F1, F2, F3, F4, F5, F6, F7, -⟩ := mix_facts HRK.out hnr0 (by rw [HP.out]; exact hnr1) hmr0 (by rw [HP.out]; exact hmr1)
  rw [HP.out] at F3 F5
  obtain ⟨f31, f32, f33⟩ := F3
  obtain ⟨f41, f42, f43, f44, f45⟩ := F4
  obtain ⟨S, hS⟩ : ∃ S, mvV s rs = S := ⟨_, rfl⟩
  rw [hS] at f31 f32 f33
  have hqP : 0 ≤ q * P ∧ q * P ≤ 20736 := by
    have h : q = 0 ∨ q = 1 := by omega
    rcases h with rfl | rfl <;> omega
  obtain ⟨hqP0, hqP1⟩ := hqP
  have HF1 := Lib.hid F1
  have HF2 := Lib.hid F2
  have HF5 := Lib.hid F5
  have HF7 := Lib.hid F7
  have HS := Lib.hid hS
  clear F1 F2 F5 F6 F7 hS
  go_wp2_with fail
  refine (c_i_MixedDigits _ _ rs _ Rr.out).mono ?_
  rintro e W7 ⟨va, rfl, hoa, hb7⟩
  have hB7 := hB6.trans (hb7.mono hB6.size)
  have T := Rr.out.below hb7
  clear Rr
  have Rr := Lib.hid T
  clear T
  have T := Rp.out.below hb7
  clear Rp
  have Rp := Lib.hid T
  clear T
  rw [HF1.out.1] at hoa
  obtain ⟨aa, capa, La, rfl, HNa, -, -, -, -⟩ := hoa.rd.open
  obtain rfl : L = La := by rw [← HNa.out, HF2.out.2.2.1, HN.out]
  have Ra := Lib.hid (hoa.rd)
  clear hoa
  go_wp2_with fail
  refine (c_i_MixedDigits _ _ rs _ Rr.out).mono ?_
  rintro e W8 ⟨vc, rfl, hoc, hb8⟩
  have hB8 := hB7.trans (hb8.mono hB7.size)
  have T := Rr.out.below hb8
  clear Rr
  have Rr := Lib.hid T
  clear T
  have T := Rp.out.below hb8
  clear Rp
  have Rp := Lib.hid T
  clear T
  have T := Ra.out.below hb8
  clear Ra
  have Ra := Lib.hid T
  clear T
  rw [HF1.out.2.1] at hoc
  have Rc := Lib.hid (hoc.rd)
  clear hoc
  go_wp2_with fail
  refine (c_i_MixedAdd _ _ _ a c rs _ Ra.out Rc.out Rr.out).mono ?_
  rintro e W9 ⟨vs, rfl, hos, hb9⟩
  have hB9 := hB8.trans (hb9.mono hB8.size)
  have T := Rr.out.below hb9
  clear Rr
  have Rr := Lib.hid T
  clear T
  have T := Rp.out.below hb9
  clear Rp
  have Rp := Lib.hid T
  clear T
  have T := Ra.out.below hb9
  clear Ra
  have Ra := Lib.hid T
  clear T
  have T := Rc.out.below hb9
  clear Rc
  have Rc := Lib.hid T
  clear T
  rw [HF1.out.2.2.1] at hos
  rw [HF1.out.2.2.2.1]
  have Rs := Lib.hid (hos.rd)
  clear hos
  go_wp2_with fail
  refine (c_i_MixedOk _ _ a rs _ Ra.out Rr.out).mono ?_
  rintro e W10 ⟨rfl, hb10⟩
  have hB10 := hB9.trans (hb10.mono hB9.size)
  have T := Rr.out.below hb10
  clear Rr
  have Rr := Lib.hid T
  clear T
  have T := Rp.out.below hb10
  clear Rp
  have Rp := Lib.hid T
  clear T
  have T := Ra.out.below hb10
  clear Ra
  have Ra := Lib.hid T
  clear T
  have T := Rc.out.below hb10
  clear Rc
  have Rc := Lib.hid T
  clear T
  have T := Rs.out.below hb10
  clear Rs
  have Rs := Lib.hid T
  clear T
  rw [HF2.out.1]
  go_wp2_with fail
  refine (c_i_MixedValue _ _ a rs _ Ra.out Rr.out).mono ?_
  rintro e W11 ⟨rfl, hb11⟩
  have hB11 := hB10.trans (hb11.mono hB10.size)
  have T := Rr.out.below hb11
  clear Rr
  have Rr := Lib.hid T
  clear T
  have T := Rp.out.below hb11
  clear Rp
  have Rp := Lib.hid T
  clear T
  have T := Ra.out.below hb11
  clear Ra
  have Ra := Lib.hid T
  clear T
  have T := Rc.out.below hb11
  clear Rc
  have Rc := Lib.hid T
  clear T
  have T := Rs.out.below hb11
  clear Rs
  have Rs := Lib.hid T
  clear T
  rw [HF2.out.2.2.2.1]
  go_wp2_with fail
  refine (c_i_MixedValue _ _ s rs _ Rs.out Rr.out).mono ?_
  rintro e W12 ⟨rfl, hb12⟩
  have hB12 := hB11.trans (hb12.mono hB11.size)
  have T := Rr.out.below hb12
  clear Rr
  have Rr := Lib.hid T
  clear T
  have T := Rp.out.below hb12
  clear Rp
  have Rp := Lib.hid T
  clear T
  have T := Ra.out.below hb12
  clear Ra
  have Ra := Lib.hid T
  clear T
  have T := Rc.out.below hb12
  clear Rc
  have Rc := Lib.hid T
  clear T
  have T := Rs.out.below hb12
  clear Rs
  have Rs := Lib.hid T
  clear T
  rw [HS.out]
  obtain ⟨_, _, _, e1, _, _, _, _, hcella⟩ := Ra.out.open
  obtain ⟨_, _, _, e2, _, _, _, _, hcellp⟩ := Rp.out.open
  cases e1
  cases e2
  have hcella' := Lib.hid hcella
  have hcellp' := Lib.hid hcellp
  clear hcella hcellp
  go_wp2
  go_loopw [12, 13, 14, 102] (fun t _ _ i wr => ∃ (j : Nat) (x : Int), j ≤ L ∧ i = .int .i64 j ∧ t = .int .i64 x ∧ 0 ≤ x ∧ x ≤ n ∧ Hid (x + prodL (rs.take j) * mhv (rs.drop j) (a.drop j) = n) ∧ wr = W12) (fun _ _ _ i _ => L - (intOf i).toNat)
  case atStart => exact ⟨0, 0, by omega, rfl, rfl, by omega, by omega, by have := HF2.out.2.2.2.2; simpa [Hid, prodL] using this, rfl⟩
  case round =>
    obtain ⟨j, x, hj, rfl, rfl, hx0, hx1, hq, rfl⟩ := hrel
    by_cases hlt : j < L
    · obtain ⟨ga, offa, rfl, hbla, da, hda, hbda, hca⟩ := hcella'.out j hlt
      obtain ⟨gp, offp, rfl, hblp, dp, hdp, hbdp, hcp⟩ := hcellp'.out j hlt
      have hpb := place_bound (rok_of HRK.out).2.1 HF2.out.2.1 (by rw [HN.out]; exact hlt) hq.out
      have hdp2 : prodL (rs.take j) = dp := by rw [← hdp.out]; exact (plc_get (by rw [HN.out]; exact hlt)).symm
      rw [hda.out, hdp2] at hpb
      obtain ⟨hp1, hp2, hp3⟩ := hpb
      have HP3 := Lib.hid hp3
      clear hda hdp hp3 hdp2 hq
      go_wp2
      go_roundw
      case rel => exact ⟨j + 1, x + da * dp, by omega, by go_num, by go_num, by omega, by omega, HP3.out, by first | rfl | trivial⟩
      case measure => simp [intOf]; omega
    · have hjL : L = j := by omega
      subst hjL
      have hxn : x = n := by
        have e := hq.out
        rw [List.drop_eq_nil_of_le (show rs.length ≤ _ by rw [HN.out]; exact Nat.le_refl _)] at e
        simpa [mhv] using e
      subst hxn
      clear hcella' hcellp' hq
      go_wp2_with fail
      refine (c_i_NextMixed _ _ a rs _ Ra.out Rr.out).mono ?_
      rintro e W13 ⟨vn, rfl, hon, hb13⟩
      have hB13 := hB12.trans (hb13.mono hB12.size)
      have T := Rr.out.below hb13
      clear Rr
      have Rr := Lib.hid T
      clear T
      have T := Rp.out.below hb13
      clear Rp
      have Rp := Lib.hid T
      clear T
      have T := Ra.out.below hb13
      clear Ra
      have Ra := Lib.hid T
      clear T
      have T := Rc.out.below hb13
      clear Rc
      have Rc := Lib.hid T
      clear T
      have T := Rs.out.below hb13
      clear Rs
      have Rs := Lib.hid T
      clear T
      have Rn := Lib.hid (hon.rd)
      clear hon
      go_wp2_with fail
      refine (c_s_MakeBase _ _ _ _ _ 20 (hr.out.below hB13) hsm (by omega)).mono ?_
      rintro e W14 ⟨b, rfl, hb0, hb1x, hb14⟩
      have hB14 := hB13.trans (hb14.mono hB13.size)
      have T := Rr.out.below hb14
      clear Rr
      have Rr := Lib.hid T
      clear T
      have T := Rp.out.below hb14
      clear Rp
      have Rp := Lib.hid T
      clear T
      have T := Ra.out.below hb14
      clear Ra
      have Ra := Lib.hid T
      clear T
      have T := Rc.out.below hb14
      clear Rc
      have Rc := Lib.hid T
      clear T
      have T := Rs.out.below hb14
      clear Rs
      have Rs := Lib.hid T
      clear T
      have T := Rn.out.below hb14
      clear Rn
      have Rn := Lib.hid T
      clear T
      obtain ⟨hbk, hbp, hbb1, hbb2⟩ := bbb_ok hb0 hb1x
      have hbq1 : 4 ≤ b * b ∧ b * b ≤ 256 := ⟨by have := Int.mul_le_mul hb0 hb0 (by omega) (by omega); omega, by have := Int.mul_le_mul hb1x hb1x (by omega) (by omega); omega⟩
      obtain ⟨hbq2, hbq3⟩ := hbq1
      have hoe : Own (W14.alloc (.cells #[.int .i64 b, .int .i64 b, .int .i64 b] 3)) W14.heap.size (.slice (some ⟨W14.heap.size, 0, none⟩) 3 3) [b, b, b] := Own.three W14 W14.heap.size b (Nat.le_refl _) (by unfold bd; omega)
      have hAl : Below W14.heap.size W14 (W14.alloc (.cells #[.int .i64 b, .int .i64 b, .int .i64 b] 3)) := (Below.refl _ _).alloc (Nat.le_refl _) _
      have hBA := hB14.alloc hB14.size (.cells #[.int .i64 b, .int .i64 b, .int .i64 b] 3)
      have T := Rr.out.below hAl
      clear Rr
      have Rr := Lib.hid T
      clear T
      have T := Rp.out.below hAl
      clear Rp
      have Rp := Lib.hid T
      clear T
      have T := Ra.out.below hAl
      clear Ra
      have Ra := Lib.hid T
      clear T
      have T := Rc.out.below hAl
      clear Rc
      have Rc := Lib.hid T
      clear T
      have T := Rs.out.below hAl
      clear Rs
      have Rs := Lib.hid T
      clear T
      have T := Rn.out.below hAl
      clear Rn
      have Rn := Lib.hid T
      clear T
      have Re := Lib.hid (hoe.rd)
      clear hoe hAl
      go_wp2_with fail
      refine (c_s_MakeNum _ _ _ _ _ 22 (hr.out.below hBA) hsm (by omega)).mono ?_
      rintro e W15 ⟨x0, rfl, hx0x, hx1x, hb15⟩
      have hB15 := hBA.trans (hb15.mono hBA.size)
      have T := Rr.out.below hb15
      clear Rr
      have Rr := Lib.hid T
      clear T
      have T := Rp.out.below hb15
      clear Rp
      have Rp := Lib.hid T
      clear T
      have T := Ra.out.below hb15
      clear Ra
      have Ra := Lib.hid T
      clear T
      have T := Rc.out.below hb15
      clear Rc
      have Rc := Lib.hid T
      clear T
      have T := Rs.out.below hb15
      clear Rs
      have Rs := Lib.hid T
      clear T
      have T := Rn.out.below hb15
      clear Rn
      have Rn := Lib.hid T
      clear T
      have T := Re.out.below hb15
      clear Re
      have Re := Lib.hid T
      clear T
      have hxr0 := Int.emod_nonneg x0 (show b * b * b ≠ 0 by omega)
      have hxr1 := Int.emod_lt_of_pos x0 (show 0 < b * b * b by omega)
      obtain ⟨y, hy⟩ : ∃ y, x0 % (b * b * b) = y := ⟨_, rfl⟩
      rw [hy] at hxr0 hxr1
      go_wp2_with fail
      refine (c_s_MakeNum _ _ _ _ _ 24 (hr.out.below hB15) hsm (by omega)).mono ?_
      rintro e W16 ⟨z0, rfl, hz0x, hz1x, hb16⟩
      have hB16 := hB15.trans (hb16.mono hB15.size)
      have T := Rr.out.below hb16
      clear Rr
      have Rr := Lib.hid T
      clear T
      have T := Rp.out.below hb16
      clear Rp
      have Rp := Lib.hid T
      clear T
      have T := Ra.out.below hb16
      clear Ra
      have Ra := Lib.hid T
      clear T
      have T := Rc.out.below hb16
      clear Rc
      have Rc := Lib.hid T
      clear T
      have T := Rs.out.below hb16
      clear Rs
      have Rs := Lib.hid T
      clear T
      have T := Rn.out.below hb16
      clear Rn
      have Rn := Lib.hid T
      clear T
      have T := Re.out.below hb16
      clear Re
      have Re := Lib.hid T
      clear T
      have hzr0 := Int.emod_nonneg z0 (show b * b * b ≠ 0 by omega)
      have hzr1 := Int.emod_lt_of_pos z0 (show 0 < b * b * b by omega)
      obtain ⟨z, hz⟩ : ∃ z, z0 % (b * b * b) = z := ⟨_, rfl⟩
      rw [hz] at hzr0 hzr1
      obtain ⟨u, v, s2, q2, k2, G1, -, -, G4, -, G6, G7, G8⟩ := mix_facts hbk hxr0 (by rw [hbp]; exact hxr1) hzr0 (by rw [hbp]; exact hzr1)
      have hsum := G8 b (fun x hx => by simpa using hx)
      obtain ⟨g41, g42, g43, g44, g45⟩ := G4
      have HG1 := Lib.hid G1
      have HG6 := Lib.hid G6
      have HG7 := Lib.hid G7
      have HBK := Lib.hid (And.intro hbk hbp)
      clear G1 G6 G7 G8 hbk hbp
      go_wp2_with fail
      refine (c_i_MixedDigits _ _ [b, b, b] _ Re.out).mono ?_
      rintro e W17 ⟨vu, rfl, hou, hb17⟩
      have hB17 := hB16.trans (hb17.mono hB16.size)
      have T := Rr.out.below hb17
      clear Rr
      have Rr := Lib.hid T
      clear T
      have T := Rp.out.below hb17
      clear Rp
      have Rp := Lib.hid T
      clear T
      have T := Ra.out.below hb17
      clear Ra
      have Ra := Lib.hid T
      clear T
      have T := Rc.out.below hb17
      clear Rc
      have Rc := Lib.hid T
      clear T
      have T := Rs.out.below hb17
      clear Rs
      have Rs := Lib.hid T
      clear T
      have T := Rn.out.below hb17
      clear Rn
      have Rn := Lib.hid T
      clear T
      have T := Re.out.below hb17
      clear Re
      have Re := Lib.hid T
      clear T
      rw [HG1.out.1] at hou
      have Ru := Lib.hid (hou.rd)
      clear hou
      go_wp2_with fail
      refine (c_i_MixedDigits _ _ [b, b, b] _ Re.out).mono ?_
      rintro e W18 ⟨vv, rfl, hov, hb18⟩
      have hB18 := hB17.trans (hb18.mono hB17.size)
      have T := Rr.out.below hb18
      clear Rr
      have Rr := Lib.hid T
      clear T
      have T := Rp.out.below hb18
      clear Rp
      have Rp := Lib.hid T
      clear T
      have T := Ra.out.below hb18
      clear Ra
      have Ra := Lib.hid T
      clear T
      have T := Rc.out.below hb18
      clear Rc
      have Rc := Lib.hid T
      clear T
      have T := Rs.out.below hb18
      clear Rs
      have Rs := Lib.hid T
      clear T
      have T := Rn.out.below hb18
      clear Rn
      have Rn := Lib.hid T
      clear T
      have T := Re.out.below hb18
      clear Re
      have Re := Lib.hid T
      clear T
      have T := Ru.out.below hb18
      clear Ru
      have Ru := Lib.hid T
      clear T
      rw [HG1.out.2.1] at hov
      have Rv := Lib.hid (hov.rd)
      clear hov
      go_wp2_with fail
      refine (c_i_MixedAdd _ _ _ u v [b, b, b] _ Ru.out Rv.out Re.out).mono ?_
      rintro e W19 ⟨vw, rfl, how, hb19⟩
      have hB19 := hB18.trans (hb19.mono hB18.size)
      have T := Rr.out.below hb19
      clear Rr
      have Rr := Lib.hid T
      clear T
      have T := Rp.out.below hb19
      clear Rp
      have Rp := Lib.hid T
      clear T
      have T := Ra.out.below hb19
      clear Ra
      have Ra := Lib.hid T
      clear T
      have T := Rc.out.below hb19
      clear Rc
      have Rc := Lib.hid T
      clear T
      have T := Rs.out.below hb19
      clear Rs
      have Rs := Lib.hid T
      clear T
      have T := Rn.out.below hb19
      clear Rn
      have Rn := Lib.hid T
      clear T
      have T := Re.out.below hb19
      clear Re
      have Re := Lib.hid T
      clear T
      have T := Ru.out.below hb19
      clear Ru
      have Ru := Lib.hid T
      clear T
      have T := Rv.out.below hb19
      clear Rv
      have Rv := Lib.hid T
      clear T
      rw [HG1.out.2.2.1] at how
      rw [HG1.out.2.2.2.1]
      have Rw := Lib.hid (how.rd)
      clear how
      go_wp2_with fail
      refine (c_i_MixedCarries _ _ _ u v [b, b, b] _ Ru.out Rv.out Re.out).mono ?_
      rintro e W20 ⟨rfl, hb20⟩
      have hB20 := hB19.trans (hb20.mono hB19.size)
      have T := Rr.out.below hb20
      clear Rr
      have Rr := Lib.hid T
      clear T
      have T := Rp.out.below hb20
      clear Rp
      have Rp := Lib.hid T
      clear T
      have T := Ra.out.below hb20
      clear Ra
      have Ra := Lib.hid T
      clear T
      have T := Rc.out.below hb20
      clear Rc
      have Rc := Lib.hid T
      clear T
      have T := Rs.out.below hb20
      clear Rs
      have Rs := Lib.hid T
      clear T
      have T := Rn.out.below hb20
      clear Rn
      have Rn := Lib.hid T
      clear T
      have T := Re.out.below hb20
      clear Re
      have Re := Lib.hid T
      clear T
      have T := Ru.out.below hb20
      clear Ru
      have Ru := Lib.hid T
      clear T
      have T := Rv.out.below hb20
      clear Rv
      have Rv := Lib.hid T
      clear T
      have T := Rw.out.below hb20
      clear Rw
      have Rw := Lib.hid T
      clear T
      rw [HG1.out.2.2.2.2]
      have RnD := Lib.hid (Rn.out.below (Below.refl W20.heap.size W20).drew)
      have RrD := Lib.hid (Rr.out.below (Below.refl W20.heap.size W20).drew)
      have RuD := Lib.hid (Ru.out.below (Below.refl W20.heap.size W20).drew)
      have RvD := Lib.hid (Rv.out.below (Below.refl W20.heap.size W20).drew)
      have RwD := Lib.hid (Rw.out.below (Below.refl W20.heap.size W20).drew)
      have RaD := Lib.hid (Ra.out.below (Below.refl W20.heap.size W20).drew)
      have RcD := Lib.hid (Rc.out.below (Below.refl W20.heap.size W20).drew)
      have lu : u.length = 3 := by have := (mixD_len [b, b, b] y); have e := HG1.out.1; have hh := HBK.out.1; rw [← e]; unfold mdV; rw [hh, inB_mk (by rw [HBK.out.2]; omega)]; exact this
      have lv : v.length = 3 := HG7.out.1
      have lw : s2.length = 3 := HG7.out.2
      have bu := sumL_bound (m := 60) (by omega) HG6.out.1 u.length
      have bv := sumL_bound (m := 60) (by omega) HG6.out.2.1 v.length
      have bw := sumL_bound (m := 60) (by omega) HG6.out.2.2 s2.length
      rw [List.take_length, lu] at bu
      rw [List.take_length, lv] at bv
      rw [List.take_length, lw] at bw
      have hLu : Hid (u.length ≤ 1048576) := by show _ ≤ _; omega
      have hLv : Hid (v.length ≤ 1048576) := by show _ ≤ _; omega
      have hLw : Hid (s2.length ≤ 1048576) := by show _ ≤ _; omega
      have hXu : Hid (∀ x ∈ u, 0 ≤ x ∧ x ≤ 60) := HG6.out.1
      have hXv : Hid (∀ x ∈ v, 0 ≤ x ∧ x ≤ 60) := HG6.out.2.1
      have hXw : Hid (∀ x ∈ s2, 0 ≤ x ∧ x ≤ 60) := HG6.out.2.2
      obtain ⟨su, hsu⟩ : ∃ x, sumL u = x := ⟨_, rfl⟩
      obtain ⟨sv, hsv⟩ : ∃ x, sumL v = x := ⟨_, rfl⟩
      obtain ⟨sw, hsw⟩ : ∃ x, sumL s2 = x := ⟨_, rfl⟩
      rw [hsu] at bu hsum
      rw [hsv] at bv hsum
      rw [hsw] at bw hsum
      have hbk1 := Int.mul_nonneg (show 0 ≤ b - 1 by omega) g44
      have hbk2 := Int.mul_le_mul (show b - 1 ≤ 15 by omega) g45 g44 (by omega)
      have HSu := Lib.hid hsu
      have HSv := Lib.hid hsv
      have HSw := Lib.hid hsw
      clear hsu hsv hsw lu lv lw
      obtain ⟨bu0, bu1⟩ := bu
      obtain ⟨bv0, bv1⟩ := bv
      obtain ⟨bw0, bw1⟩ := bw
      go_wp2_with fail
      have hEq : (su + sv - sw == (b - 1) * k2 + q2) = true := by rw [hsum]; simp
      have hTm : (x + 1).tmod P = (x + 1) % P := Int.tmod_eq_emod_of_nonneg (by omega)
      have hw1 : IntKind.i64.wrap (x + 1) = x + 1 := IntWalk.i64_in _ (by omega)
      have hw2 : IntKind.i64.wrap (su + sv) = su + sv := IntWalk.i64_in _ (by omega)
      have hw3 : IntKind.i64.wrap (su + sv - sw) = su + sv - sw := IntWalk.i64_in _ (by omega)
      have hw4 : IntKind.i64.wrap (b - 1) = b - 1 := IntWalk.i64_in _ (by omega)
      have hw5 : IntKind.i64.wrap ((b - 1) * k2) = (b - 1) * k2 := IntWalk.i64_in _ (by omega)
      have hw6 : IntKind.i64.wrap ((b - 1) * k2 + q2) = (b - 1) * k2 + q2 := IntWalk.i64_in _ (by omega)
      have hP0 : (P == 0) = false := by simp; omega
      have hP00 : ¬ P = 0 := by omega
      have hEm : IntKind.i64.wrap ((x + 1) % P) = (x + 1) % P := by
        have e0 := Int.emod_nonneg (x + 1) hP00
        have e1 := Int.emod_lt_of_pos (x + 1) (show 0 < P by omega)
        exact IntWalk.i64_in _ (by omega)
      have HSUM := Lib.hid hsum
      clear hsum
      clear hx0x hx1x hz0x hz1x hnr0 hnr1 hmr0 hmr1 hxr0 hxr1 hzr0 hzr1 hbq2 hbq3 hbb1 hbb2 hqP0 hqP1 f31 f32 f33 bu0 bu1 bv0 bv1 bw0 bw1 hbk1 hbk2 hl1 hl4 hn0 hn1 hm0 hm1
      go_region_held3 (fun _ => True) (trivial) (first | (go_at_call 21; refine (c_i_MixedValue _ _ (nmV a rs) rs _ RnD.out RrD.out).mono ?_; rintro e X1 ⟨rfl, hx1⟩; rw [HF5.out]) | (go_at_call 25; have _q := RuD; refine (c_l_sum _ u 60 _ (RuD.out.below hx1) hLu (by omega) (by omega) hXu).mono ?_; rintro e w' ⟨rfl, rfl⟩; rw [HSu.out]; clear RuD) | (go_at_call 25; have _q := RvD; refine (c_l_sum _ v 60 _ (RvD.out.below hx1) hLv (by omega) (by omega) hXv).mono ?_; rintro e w' ⟨rfl, rfl⟩; rw [HSv.out]; clear RvD) | (go_at_call 25; have _q := RwD; refine (c_l_sum _ s2 60 _ (RwD.out.below hx1) hLw (by omega) (by omega) hXw).mono ?_; rintro e w' ⟨rfl, rfl⟩; rw [HSw.out]; clear RwD) | (go_at_call 24; refine (c_i_MixedCarries _ _ _ a c rs _ (RaD.out.below hx1) (RcD.out.below hx1) (RrD.out.below hx1)).mono ?_; rintro e X2 ⟨rfl, hx2⟩; rw [HF1.out.2.2.2.2]))
      all_goals
        have hBX := (hB20.drew).trans ((hx1.trans (hx2.mono hx1.size)).mono hB20.drew.size)
        go_wp2
        go_ret
        exact ⟨ret_b (by first | rfl | simp), hBX⟩

/-! ### THE ROW's STEP: WRITTEN OUT: LEAVE IT -/
set_option maxRecDepth 100000 in
theorem lifted (os : Os) (started : os.Started) (H : Type) (enc : TypeId × Value → H) :
    ReturnsInHanded {} Try.checked os 3 .any (Rows.fnMixedSpec.pre6 enc Try.prog Try.f3 Rows.fnMixedRow.domain false) (Rows.fnMixedSpec.post enc Try.prog Try.f3 false true false false) := by
  refine returnsInHanded_of_change (C := Try.checked) own started (by kernel_rfl) Try.func3
    (ChangeSpec.witness6 (enc := enc) (C := Try.checked) false ⟨#[], #[.slice none 0 0], []⟩ 8 (by kernel_rfl) (by kernel_rfl) (by kernel_rfl) (by kernel_rfl)) ?_
  intro W base args ds gs before hval0 hW hcnd _
  have hval : ∀ (j : Nat) t v, Try.f3.params[j]? = some t → args[j]? = some v → Value.okWide Try.prog W .any base t v := hval0
  have hW' := hW
  obtain ⟨p, q, hA0, hV, rfl, hfz, hnd⟩ := hW
  have hA : DataW.TrodAll enc Try.prog W 0 (fun _ => true) true Try.f3.params.toList args.toList ds p := hA0
  rw [Try.params3] at hA hval
  obtain ⟨v0, vs0, d0, ds0, p0, q0, hargs, rfl, rfl, h0, r0⟩ := trodAll_cons hA
  obtain ⟨rfl, rfl, rfl⟩ := trodAll_nil r0
  obtain rfl : args = #[v0] := by cases args; simp_all
  obtain ⟨rfl, rfl⟩ := trodVars_none hV
  obtain ⟨a0, len0, cap0, rfl⟩ := okWide_slice Try.underlying22 (hval 0 22 v0 rfl rfl)
  have k0 := h0
  have lt0 : ∀ x ∈ p0, x.block < W.heap.size := by obtain ⟨m, hm⟩ := k0; exact DataW.trod_lt m _ _ _ hm
  obtain ⟨z0, w0⟩ : ∃ zs, IsRow .u8 W a0 len0 cap0 zs := by
    obtain ⟨fuel, hf⟩ := h0
    rcases open_ints Try.underlying22 Try.underlying5 (by kernel_rfl) hf with ⟨hcs, _⟩ | ⟨x, l, c, zs, hcs, _, hl, hm, hz, _, hcell, hwz⟩
    · simp [Value.cells] at hcs
      obtain ⟨rfl, rfl, rfl⟩ := hcs
      exact ⟨[], .inl ⟨rfl, rfl, rfl, rfl⟩⟩
    · simp [Value.cells] at hcs
      obtain ⟨rfl, rfl, rfl⟩ := hcs
      exact ⟨zs, .inr ⟨_, rfl, hl, hm, by simpa using hz, hcell, hwz⟩⟩
  clear hA0 hval0
  refine (walk a0 len0 cap0 z0 W w0).mono fun e W' ⟨he, bel⟩ => ?_
  subst he
  exact ⟨_, rfl, _, _, _, [], _, [], hW', trodAll_mk1 (shut_bool Try.underlying4 _), (trodAll_cons_mk (Below.trod laidOut (by kernel_rfl) (of_decide_eq_true (by kernel_rfl)) k0 bel lt0) trodAll_mk0), rfl, bel.frame _, fun h => by cases h⟩

/-- The closed facts of the row: what the function reaches is read off the table of calls. -/
theorem jf : joinedFacts Try.prog 3 Try.f3 Rows.fnMixedSpec Rows.fnMixedRow = true := by
  have e1 : Try.prog.inPlace 3 = Rows.fnMixedRow.inPlace := by unfold Program.inPlace; rw [clo]; kernel_rfl
  have e2 : Try.prog.unfollowed 3 = Rows.fnMixedRow.unfollowed := by unfold Program.unfollowed; rw [clo]; kernel_rfl
  have e3 : Try.prog.recurses 3 = Rows.fnMixedRow.recurses := by unfold Program.recurses; rw [e2]; simp only [clo, leads]; kernel_rfl
  have e4 : Try.prog.varsNamed 3 = Rows.fnMixedRow.named := by unfold Program.varsNamed; rw [clo]; kernel_rfl
  unfold joinedFacts
  rw [e1, e2, e3, e4, p_enter, p_lift, p_make, p_plain, p_heard, p_stops, p_knobs, p_laid, p_maps]
  show (_ : Bool) = true
  kernel_rfl

theorem over : Rows.fnMixedRow.holds Try.pinned (OpenSpec.ofChange Rows.fnMixedSpec) :=
  OpenClaim.holds_of_wide 3 Try.f3 rfl rfl rfl rfl rfl rfl rfl ⟨rfl, rfl, rfl, rfl, rfl⟩ rfl rfl rfl rfl rfl (by kernel_rfl) Try.func3 jf
    (of_decide_eq_true (by kernel_rfl)) (by unfold Func.isWrapper; first | (rw [if_pos (by decide +kernel)]; kernel_rfl) | (rw [if_neg (by decide +kernel)]; exact ⟨rfl, rfl⟩))
    (fun os started H enc _ => lifted os started H enc)

/-- ████ THE STATEMENT ████ -/
theorem proved : Rows.FnMixedSaid := over
#print axioms proved
end Go.Proofs.Ytehlkoogpgcipaa.fnMixed
