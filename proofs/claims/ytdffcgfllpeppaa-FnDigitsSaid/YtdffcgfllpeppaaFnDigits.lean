/- Proved: FnDigits: digits are the places of a number, and reversed digits have the same sum: the law returns true for every input and leaves its arguments as they were. Conditions: none beyond those that the given row itself names. -/
import Derived.Test.YtdffcgfllpeppaaRows
import Derived.Test.YtdffcgfllpeppaaClo
import Derived.WalkKit
import Derived.Test.YtdffcgfllpeppaaDlw
import Derived.Test.YtdffcgfllpeppaaCur
import Derived.ProofKit
import Derived.OpenShut
import Derived.ShutString
import Derived.ChangeOld
import Derived.Below
namespace Go.Proofs.Ytdffcgfllpeppaa.fnDigits
open Go.ChangeShapes Go.WideShapes Go.ChangeAt Go.RowKit
open Go.ChangeMaps (open_string shut_string)
set_option linter.unusedVariables false

theorem own : ownKnob Try.prog.godebug = none := by kernel_rfl
theorem laidOut : laidOutB Try.prog = true := by kernel_rfl

/-- WHAT THE WALK IS TOLD OF A SLICE OF INTEGERS THAT CAME IN: it is nil; or it leads to a row of 'cap' cells, the numbers 'zs' (the first 'len' are its elements, the rest its spare room), each fitting its kind. -/
def IsRow (k : IntKind) (w : World) (a : Option Addr) (len cap : Nat) (zs : List Int) : Prop :=
  (a = none ∧ len = 0 ∧ cap = 0 ∧ zs = []) ∨
  ∃ x, a = some x ∧ len ≤ cap ∧ cap ≤ maxLen ∧ zs.length = cap ∧ (∀ i, i < zs.length → w.cell? (x.add i) = some (.int k (zs.getD i 0))) ∧ ∀ n ∈ zs, (Lit.int k n).wf = true

open Pl

/-! ### STEP 1: THE WALK: the Go text returns true, AND WRITES NOTHING THAT WAS THERE: 'Below w.heap.size w w'' (Derived/Below.lean: '.refl', '.alloc', '.drew', '.setCell' at a new block, '.trans'). Open each 'IsRow' by 'rcases' AHEAD of 'go_enter'; part every test ahead of the walk. -/
theorem walk (a0 : Option Addr) (len0 cap0 : Nat) (z0 : List Int) (w : World) (w0 : IsRow .u8 w a0 len0 cap0 z0) :
    Calls Try.prog 18 #[.slice a0 len0 cap0] w fun e w' => e = .returned (.bool true) ∧ Below w.heap.size w w' := by
  have hr := Lib.hid (rdu_came w0)
  clear w0
  by_cases hbig : 1048576 < len0
  · go_enter Try.func18, Try.ntmps18
    go_wp2_with fail
    go_ret
    exact ⟨rfl, Below.refl _ _⟩
  have hsm : len0 ≤ 1048576 := by omega
  clear hbig
  go_enter Try.func18, Try.ntmps18
  go_wp2_with fail
  refine (c_s_MakeNumber _ _ _ _ _ 0 hr.out hsm (by omega)).mono ?_
  rintro e W1 ⟨n, rfl, hn0, hn1, hb1⟩
  obtain ⟨n, rfl⟩ := Int.eq_ofNat_of_zero_le hn0
  go_wp2_with fail
  refine (c_s_MakeBase _ _ _ _ _ 10 (hr.out.below hb1) hsm (by omega)).mono ?_
  rintro e W2 ⟨b, rfl, hq0, hq1, hb2⟩
  obtain ⟨b, rfl⟩ := Int.eq_ofNat_of_zero_le (show 0 ≤ b by omega)
  have hB2 := hb1.trans (hb2.mono hb1.size)
  have hn12 : n ≤ 1000000000000 := by omega
  have hk2 : 2 ≤ b := by omega
  have hk16 : b ≤ 16 := by omega
  have hF := Lib.hid (dig_facts hn12 hk2 hk16)
  have h59 := Lib.hid (dig_59 hn12 hk2 hk16)
  have hAt : Hid (∀ k : Nat, k ≤ 59 → atV n b k = (digs b n).getD k 0) := fun k hk => dig_at hn12 hk2 hk16 hk
  have hOk := Lib.hid (dig_ok hn12 hk2 hk16)
  have hTx := Lib.hid (dig_txt hn12 hk2 hk16)
  have hRv := Lib.hid (fun h => rev_facts hn12 hk2 hk16 h)
  have h40 := digs40 n b hk2 hn12
  have hRg : Hid (∀ x ∈ digs b n, 0 ≤ x ∧ x ≤ 15) := fun x hx => by have := digs_range b hk2 n x hx; omega
  obtain ⟨D, HD⟩ : ∃ D, digs b n = D := ⟨_, rfl⟩
  rw [HD] at hF hAt hOk hTx hRv h40 hRg
  clear HD
  go_wp2_with fail
  refine (c_i_DigitsOf _ _ _).mono ?_
  rintro e W3 ⟨v, rfl, ho, hb3⟩
  rw [hF.out.1] at ho
  have hB3 := hB2.trans (hb3.mono hB2.size)
  obtain ⟨a, cap, m, rfl, HN, hm, hc, hcm, hcell⟩ := ho.rd.open
  have HO := Lib.hid ho.rd
  clear ho
  rw [HN.out] at h40
  go_wp2_with fail
  refine (c_i_ValueOf _ D _ _ HO.out).mono ?_
  rintro e W4 ⟨rfl, hb4⟩
  rw [hF.out.2.1, hF.out.2.2.1]
  have hB4 := hB3.trans (hb4.mono hB3.size)
  go_wp2_with fail
  refine (c_i_CountDigits _ _ _).mono ?_
  rintro e W5 ⟨rfl, hb5⟩
  rw [hF.out.2.2.2.1, HN.out]
  have hB5 := hB4.trans (hb5.mono hB4.size)
  have hb35 := hb4.trans (hb5.mono hb4.size)
  go_wp2_with fail
  refine (c_i_DigitsOk _ D _ _ (HO.out.below hb35)).mono ?_
  rintro e W6 ⟨rfl, hb6⟩
  rw [hOk.out]
  have hB6 := hB5.trans (hb6.mono hB5.size)
  have hb36 := hb35.trans (hb6.mono hb35.size)
  go_wp2_with fail
  refine (c_i_BaseOk _ _).mono ?_
  rintro e w' ⟨rfl, rfl⟩
  rw [inB_mk (show 2 ≤ (b : Int) ∧ (b : Int) ≤ 16 by omega)]
  go_wp2
  go_loopw [8, 9, 10, 59] (fun t _ _ i wr => ∃ k : Nat, k ≤ m ∧ i = .int .i64 k ∧ t = .int .i64 (sumL (D.take k)) ∧ Below W3.heap.size W3 wr) (fun _ _ _ i _ => m - (intOf i).toNat)
  case atStart => exact ⟨0, by omega, rfl, rfl, hb36⟩
  case round =>
    obtain ⟨k, hk, rfl, rfl, hbr⟩ := hrel
    have hBr := hB3.trans (hbr.mono hB3.size)
    have hsb := sum_bound hRg.out k
    rw [HN.out] at hsb
    by_cases hlt : k < m
    · obtain ⟨g, off, rfl, hbl, x, hx, hbd, hcx⟩ := hcell k hlt
      have hcr := (hbr.cell (by exact hbl)).trans hcx
      have hxr := hRg.out x (by rw [← hx.out]; exact getD_mem (by rw [HN.out]; exact hlt))
      have hst : Hid (sumL (D.take k) + x = sumL (D.take (k + 1))) := by rw [Hid, ← sum_take (by rw [HN.out]; exact hlt), hx.out]
      have hax : Hid (atV n b k = x) := by rw [Hid, hAt.out k (by omega), hx.out]
      clear hcell hcx hx
      go_wp2_with (go_at_call 57; refine (c_i_DigitAt _ _ _ _).mono ?_; rintro e w7 ⟨rfl, hb7⟩; rw [hax.out])
      go_roundw
      case rel => exact ⟨k + 1, by omega, by go_num, by rw [← hst.out], hbr.trans (hb7.mono hbr.size)⟩
      case measure => simp [intOf]; omega
    · have hkm : m = k := by omega
      subst hkm
      have hsum : Hid (sumL (D.take m) = sumL D) := by rw [Hid, List.take_of_length_le (by rw [HN.out]; omega)]
      rw [hsum.out] at hsb ⊢
      obtain ⟨S, hS⟩ : ∃ S, sumL D = S := ⟨_, rfl⟩
      rw [hS] at hsb hF hRv ⊢
      clear hcell
      obtain ⟨t, ht⟩ : ∃ t, fdT D b = t := ⟨_, rfl⟩
      rw [ht, HN.out] at hTx
      have HT := Lib.hid ht
      have hlen : Hid (((t.size : Int) == max 1 (m : Int)) = true) := by have := hTx.out; rw [Hid, beq_iff_eq]; omega
      clear ht
      go_wp2_with fail
      refine (c_i_ReverseNumber _ _ _).mono ?_
      rintro e W8 ⟨rfl, hb8⟩
      have hB8 := hBr.trans (hb8.mono hBr.size)
      have hbr8 := hbr.trans (hb8.mono hbr.size)
      cases hrv : rvB n b
      · obtain ⟨y0, hy0⟩ : ∃ y, rvN n b = y := ⟨_, rfl⟩
        rw [hy0]
        clear hy0 hrv
        go_wp2_with fail
        refine (c_i_DigitSum _ _ _).mono ?_
        rintro e W9 ⟨rfl, hb9⟩
        rw [hF.out.2.2.2.2]
        have hB9 := hB8.trans (hb9.mono hB8.size)
        have hbr9 := hbr8.trans (hb9.mono hbr8.size)
        go_wp2_with fail
        refine (c_i_DigitAt _ _ _ _).mono ?_
        rintro e W10 ⟨rfl, hb10⟩
        rw [h59.out]
        have hB10 := hB9.trans (hb10.mono hB9.size)
        have hbr10 := hbr9.trans (hb10.mono hbr9.size)
        go_wp2_with fail
        refine (c_i_ReverseNumber _ _ _).mono ?_
        rintro e W11 ⟨rfl, hb11⟩
        have hB11 := hB10.trans (hb11.mono hB10.size)
        have hbr11 := hbr10.trans (hb11.mono hbr10.size)
        go_wp2_with fail
        refine (c_i_FormatDigits _ D _ _ (HO.out.below hbr11)).mono ?_
        rintro e W12 ⟨rfl, hb12⟩
        rw [HT.out]
        have hB12 := hB11.trans (hb12.mono hB11.size)
        go_wp2
        go_ret
        exact ⟨ret_b hlen.out, hB12⟩
      · obtain ⟨r, hr1, hr2, hr3, hr4, hr5⟩ := hRv.out hrv
        rw [hr1]
        have hR := Lib.hid hr5
        have hds := Lib.hid hr3
        have hcn := Lib.hid (dig_facts hr2 hk2 hk16).2.2.2.1
        obtain ⟨c, hc⟩ : ∃ c, (digs b r).length = c := ⟨_, rfl⟩
        rw [hc] at hr4 hcn
        rw [HN.out] at hr4
        have hem : (n : Int) % (b : Int) = ((n % b : Nat) : Int) := by simp
        clear hr1 hr3 hr5 hrv hc
        by_cases hA : n % b = 0
        · have hA1 : ((n : Int) % (b : Int) != 0) = false := by rw [hem, hA]; rfl
          have hA2 : ((n : Int) % (b : Int) == 0) = true := by rw [hem, hA]; rfl
          obtain ⟨y, hy⟩ : ∃ y, rvN r b = y := ⟨_, rfl⟩
          obtain ⟨o3, ho3⟩ : ∃ o, rvB r b = o := ⟨_, rfl⟩
          have HY := Lib.hid (And.intro hy ho3)
          clear hy ho3 hem
          by_cases h0 : n = 0
          · have hce : (((c : Int) == (m : Int))) = true := by have := hr4.1 (.inr h0); simp; omega
            have hz : ((n : Int) == 0) = true := by simp [h0]
            have HAA := Lib.hid (And.intro h0 hA)
            clear h0 hA hr4
            go_wp2_with fail
            refine (c_i_DigitSum _ _ _).mono ?_
            rintro e W9 ⟨rfl, hb9⟩
            rw [hF.out.2.2.2.2]
            have hB9 := hB8.trans (hb9.mono hB8.size)
            have hbr9 := hbr8.trans (hb9.mono hbr8.size)
            go_wp2_with fail
            refine (c_i_DigitAt _ _ _ _).mono ?_
            rintro e W10 ⟨rfl, hb10⟩
            rw [h59.out]
            have hB10 := hB9.trans (hb10.mono hB9.size)
            have hbr10 := hbr9.trans (hb10.mono hbr9.size)
            go_wp2_with fail
            refine (c_i_DigitSum _ _ _).mono ?_
            rintro e W13 ⟨rfl, hb13⟩
            rw [hds.out]
            have hB13 := hB10.trans (hb13.mono hB10.size)
            have hbr13 := hbr10.trans (hb13.mono hbr10.size)
            go_wp2_with fail
            refine (c_i_CountDigits _ _ _).mono ?_
            rintro e W14 ⟨rfl, hb14⟩
            rw [hcn.out]
            have hB14 := hB13.trans (hb14.mono hB13.size)
            have hbr14 := hbr13.trans (hb14.mono hbr13.size)
            go_wp2_with fail
            refine (c_i_ReverseNumber _ _ _).mono ?_
            rintro e W11 ⟨rfl, hb11⟩
            rw [HY.out.1, HY.out.2]
            have hB11 := hB14.trans (hb11.mono hB14.size)
            have hbr11 := hbr14.trans (hb11.mono hbr14.size)
            go_wp2_with fail
            refine (c_i_FormatDigits _ D _ _ (HO.out.below hbr11)).mono ?_
            rintro e W12 ⟨rfl, hb12⟩
            rw [HT.out]
            have hB12 := hB11.trans (hb12.mono hB11.size)
            go_wp2
            go_ret
            exact ⟨ret_b hlen.out, hB12⟩
          · have hce : (((c : Int) == (m : Int))) = false := by
              have : ¬ c = m := fun e => by rcases hr4.2 e with h | h <;> contradiction
              simp; omega
            have hz : ((n : Int) == 0) = false := by simp; omega
            have HAA := Lib.hid (And.intro h0 hA)
            clear h0 hA hr4
            go_wp2_with fail
            refine (c_i_DigitSum _ _ _).mono ?_
            rintro e W9 ⟨rfl, hb9⟩
            rw [hF.out.2.2.2.2]
            have hB9 := hB8.trans (hb9.mono hB8.size)
            have hbr9 := hbr8.trans (hb9.mono hbr8.size)
            go_wp2_with fail
            refine (c_i_DigitAt _ _ _ _).mono ?_
            rintro e W10 ⟨rfl, hb10⟩
            rw [h59.out]
            have hB10 := hB9.trans (hb10.mono hB9.size)
            have hbr10 := hbr9.trans (hb10.mono hbr9.size)
            go_wp2_with fail
            refine (c_i_DigitSum _ _ _).mono ?_
            rintro e W13 ⟨rfl, hb13⟩
            rw [hds.out]
            have hB13 := hB10.trans (hb13.mono hB10.size)
            have hbr13 := hbr10.trans (hb13.mono hbr10.size)
            go_wp2_with fail
            refine (c_i_CountDigits _ _ _).mono ?_
            rintro e W14 ⟨rfl, hb14⟩
            rw [hcn.out]
            have hB14 := hB13.trans (hb14.mono hB13.size)
            have hbr14 := hbr13.trans (hb14.mono hbr13.size)
            go_wp2_with fail
            refine (c_i_ReverseNumber _ _ _).mono ?_
            rintro e W11 ⟨rfl, hb11⟩
            rw [HY.out.1, HY.out.2]
            have hB11 := hB14.trans (hb11.mono hB14.size)
            have hbr11 := hbr14.trans (hb11.mono hbr14.size)
            go_wp2_with fail
            refine (c_i_FormatDigits _ D _ _ (HO.out.below hbr11)).mono ?_
            rintro e W12 ⟨rfl, hb12⟩
            rw [HT.out]
            have hB12 := hB11.trans (hb12.mono hB11.size)
            go_wp2
            go_ret
            exact ⟨ret_b hlen.out, hB12⟩
        · have hA1 : ((n : Int) % (b : Int) != 0) = true := by rw [hem]; simp; omega
          have hA2 : ((n : Int) % (b : Int) == 0) = false := by rw [hem]; simp; omega
          have hce : (((c : Int) == (m : Int))) = true := by have := hr4.1 (.inl hA); simp; omega
          obtain ⟨y, hy⟩ : ∃ y, rvN r b = y := ⟨_, rfl⟩
          obtain ⟨o3, ho3⟩ : ∃ o, rvB r b = o := ⟨_, rfl⟩
          have hyo := hR.out hA
          rw [hy, ho3] at hyo
          obtain ⟨rfl, rfl⟩ := hyo
          have HY := Lib.hid (And.intro hy ho3)
          have HAA := Lib.hid hA
          clear hy ho3 hem hA hr4
          go_wp2_with fail
          refine (c_i_DigitSum _ _ _).mono ?_
          rintro e W9 ⟨rfl, hb9⟩
          rw [hF.out.2.2.2.2]
          have hB9 := hB8.trans (hb9.mono hB8.size)
          have hbr9 := hbr8.trans (hb9.mono hbr8.size)
          go_wp2_with fail
          refine (c_i_DigitAt _ _ _ _).mono ?_
          rintro e W10 ⟨rfl, hb10⟩
          rw [h59.out]
          have hB10 := hB9.trans (hb10.mono hB9.size)
          have hbr10 := hbr9.trans (hb10.mono hbr9.size)
          go_wp2_with fail
          refine (c_i_DigitSum _ _ _).mono ?_
          rintro e W13 ⟨rfl, hb13⟩
          rw [hds.out]
          have hB13 := hB10.trans (hb13.mono hB10.size)
          have hbr13 := hbr10.trans (hb13.mono hbr10.size)
          go_wp2_with fail
          refine (c_i_CountDigits _ _ _).mono ?_
          rintro e W14 ⟨rfl, hb14⟩
          rw [hcn.out]
          have hB14 := hB13.trans (hb14.mono hB13.size)
          have hbr14 := hbr13.trans (hb14.mono hbr13.size)
          go_wp2_with fail
          refine (c_i_ReverseNumber _ _ _).mono ?_
          rintro e W11 ⟨rfl, hb11⟩
          rw [HY.out.1, HY.out.2]
          have hB11 := hB14.trans (hb11.mono hB14.size)
          have hbr11 := hbr14.trans (hb11.mono hbr14.size)
          go_wp2_with fail
          refine (c_i_FormatDigits _ D _ _ (HO.out.below hbr11)).mono ?_
          rintro e W12 ⟨rfl, hb12⟩
          rw [HT.out]
          have hB12 := hB11.trans (hb12.mono hB11.size)
          go_wp2
          go_ret
          exact ⟨ret_b hlen.out, hB12⟩

/-! ### THE ROW's STEP: WRITTEN OUT: LEAVE IT -/
set_option maxRecDepth 100000 in
theorem lifted (os : Os) (started : os.Started) (H : Type) (enc : TypeId × Value → H) :
    ReturnsInHanded {} Try.checked os 18 .any (Rows.fnDigitsSpec.pre6 enc Try.prog Try.f18 Rows.fnDigitsRow.domain false) (Rows.fnDigitsSpec.post enc Try.prog Try.f18 false true false false) := by
  refine returnsInHanded_of_change (C := Try.checked) own started (by kernel_rfl) Try.func18
    (ChangeSpec.witness6 (enc := enc) (C := Try.checked) false ⟨#[], #[.slice none 0 0], []⟩ 8 (by kernel_rfl) (by kernel_rfl) (by kernel_rfl) (by kernel_rfl)) ?_
  intro W base args ds gs before hval0 hW hcnd _
  have hval : ∀ (j : Nat) t v, Try.f18.params[j]? = some t → args[j]? = some v → Value.okWide Try.prog W .any base t v := hval0
  have hW' := hW
  obtain ⟨p, q, hA0, hV, rfl, hfz, hnd⟩ := hW
  have hA : DataW.TrodAll enc Try.prog W 0 (fun _ => true) true Try.f18.params.toList args.toList ds p := hA0
  rw [Try.params18] at hA hval
  obtain ⟨v0, vs0, d0, ds0, p0, q0, hargs, rfl, rfl, h0, r0⟩ := trodAll_cons hA
  obtain ⟨rfl, rfl, rfl⟩ := trodAll_nil r0
  obtain rfl : args = #[v0] := by cases args; simp_all
  obtain ⟨rfl, rfl⟩ := trodVars_none hV
  obtain ⟨a0, len0, cap0, rfl⟩ := okWide_slice Try.underlying44 (hval 0 44 v0 rfl rfl)
  have k0 := h0
  have lt0 : ∀ x ∈ p0, x.block < W.heap.size := by obtain ⟨m, hm⟩ := k0; exact DataW.trod_lt m _ _ _ hm
  obtain ⟨z0, w0⟩ : ∃ zs, IsRow .u8 W a0 len0 cap0 zs := by
    obtain ⟨fuel, hf⟩ := h0
    rcases open_ints Try.underlying44 Try.underlying5 (by kernel_rfl) hf with ⟨hcs, _⟩ | ⟨x, l, c, zs, hcs, _, hl, hm, hz, _, hcell, hwz⟩
    · simp [Value.cells] at hcs
      obtain ⟨rfl, rfl, rfl⟩ := hcs
      exact ⟨[], .inl ⟨rfl, rfl, rfl, rfl⟩⟩
    · simp [Value.cells] at hcs
      obtain ⟨rfl, rfl, rfl⟩ := hcs
      exact ⟨zs, .inr ⟨_, rfl, hl, hm, by simpa using hz, hcell, hwz⟩⟩
  clear hA0 hval0
  refine (walk a0 len0 cap0 z0 W w0).mono fun e W' ⟨he, bel⟩ => ?_
  subst he
  exact ⟨_, rfl, _, _, _, [], _, [], hW', trodAll_mk1 (shut_bool Try.underlying4 _), (trodAll_cons_mk (Below.trod laidOut (by kernel_rfl) (of_decide_eq_true (by kernel_rfl)) k0 bel lt0) trodAll_mk0), rfl, bel.frame _, fun h => by cases h⟩

/-- The closed facts of the row: what the function reaches is read off the table of calls. -/
theorem jf : joinedFacts Try.prog 18 Try.f18 Rows.fnDigitsSpec Rows.fnDigitsRow = true := by
  have e1 : Try.prog.inPlace 18 = Rows.fnDigitsRow.inPlace := by unfold Program.inPlace; rw [clo]; kernel_rfl
  have e2 : Try.prog.unfollowed 18 = Rows.fnDigitsRow.unfollowed := by unfold Program.unfollowed; rw [clo]; kernel_rfl
  have e3 : Try.prog.recurses 18 = Rows.fnDigitsRow.recurses := by unfold Program.recurses; rw [e2]; simp only [clo, leads]; kernel_rfl
  have e4 : Try.prog.varsNamed 18 = Rows.fnDigitsRow.named := by unfold Program.varsNamed; rw [clo]; kernel_rfl
  unfold joinedFacts
  rw [e1, e2, e3, e4, p_enter, p_lift, p_make, p_plain, p_heard, p_stops, p_knobs, p_laid, p_maps]
  show (_ : Bool) = true
  kernel_rfl

theorem over : Rows.fnDigitsRow.holds Try.pinned (OpenSpec.ofChange Rows.fnDigitsSpec) :=
  OpenClaim.holds_of_wide 18 Try.f18 rfl rfl rfl rfl rfl rfl rfl ⟨rfl, rfl, rfl, rfl, rfl⟩ rfl rfl rfl rfl rfl (by kernel_rfl) Try.func18 jf
    (of_decide_eq_true (by kernel_rfl)) (by unfold Func.isWrapper; first | (rw [if_pos (by decide +kernel)]; kernel_rfl) | (rw [if_neg (by decide +kernel)]; exact ⟨rfl, rfl⟩))
    (fun os started H enc _ => lifted os started H enc)

/-- ████ THE STATEMENT ████ -/
theorem proved : Rows.FnDigitsSaid := over
#print axioms proved
end Go.Proofs.Ytdffcgfllpeppaa.fnDigits
