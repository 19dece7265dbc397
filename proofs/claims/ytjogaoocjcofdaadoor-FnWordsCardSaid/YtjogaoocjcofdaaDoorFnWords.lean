/- Proved: FnWords: integers are recovered from their text, and strings from their parts: the law returns true for every input and leaves its arguments as they were. Conditions: none beyond those that the given row itself names; the card ties the listed variables to the program's text. -/
import Derived.Test.YtjogaoocjcofdaaDoorRows
import Derived.Test.YtjogaoocjcofdaaDoorCards
import Derived.Test.YtjogaoocjcofdaaDoorTie
import Derived.Test.YtjogaoocjcofdaaDoorClo
import Derived.WalkKit
import Derived.Test.YtjogaoocjcofdaaDoorWrd
import Derived.Test.YtjogaoocjcofdaaDoorPin
import Derived.Test.YtjogaoocjcofdaaDoorShp
import Derived.Lay
import Derived.ProofKit
import Derived.LaidMore
import Derived.OpenShut
import Derived.ShutString
import Derived.ChangeOld
import Derived.Below
import Derived.Stop.LaidErr
import Derived.Lib.LaidTab
import Derived.Lib.ItoaNum
import Derived.SevenTiedAt
namespace Go.Proofs.YtjogaoocjcofdaaDoor.fnWords
open Go.ChangeShapes Go.WideShapes Go.ChangeAt Go.RowKit Go.WideMaps Go.WideElems
open Go.ChangeMaps (open_string shut_string)
set_option linter.unusedVariables false

theorem own : ownKnob Tryd.prog.godebug = none := by kernel_rfl
theorem laidOut : laidOutB Tryd.prog = true := by kernel_rfl

theorem gPow : Tryd.prog.globalNamed "internal/strconv.uint64pow10" = some 3 := by kernel_rfl
theorem tPow : (Tryd.prog.globals[3]?).map (·.type) = some 99 := by kernel_rfl

/-- The table of the powers, where the condition holds. -/
theorem tab {W : World} (h : laidMetH Tryd.prog Rows.fnWordsRow.laid W) : Lib.TabIs Tryd.prog W "internal/strconv.uint64pow10" .u64 Lib.pow10Tab := by
  rw [MakeChecks.laidMetH_plain _ _ _ (by kernel_rfl)] at h
  have e : (Rows.laid_internal_strconv_uint64pow10 : DataW Unit) = Lib.tabData .u64 Lib.pow10Tab := by kernel_rfl
  have h2 := h.tail.tail
  rw [e] at h2
  exact Lib.tabIs_of_head gPow tPow Tryd.underlying99 Tryd.underlying80 (by kernel_rfl) (by kernel_rfl) h2

theorem star : "*" ++ "errors.errorString" = "*errors.errorString" := by decide
theorem nameE : Tryd.prog.typeName? 3 104 = some "*errors.errorString" := by kernel_rfl
theorem rowE (u : TypeId) (h : Tryd.prog.typeName? 3 u = some "*errors.errorString") : u = 104 :=
  typeName_ptr_named (nm := "errors.errorString") (by rw [star]; kernel_rfl) (by kernel_rfl) (by decide) u (by rw [star]; exact h)
theorem gRange : Tryd.prog.globalNamed "strconv.ErrRange" = some 1 := by kernel_rfl
theorem gSyn : Tryd.prog.globalNamed "strconv.ErrSyntax" = some 0 := by kernel_rfl
theorem tRange : (Tryd.prog.globals[1]?).map (·.type) = some 46 := by kernel_rfl
theorem tSyn : (Tryd.prog.globals[0]?).map (·.type) = some 46 := by kernel_rfl
theorem cE : Tryd.prog.cellsOf 106 = 1 := by kernel_rfl
theorem cS : Tryd.prog.cellsOf 9 = 1 := by kernel_rfl

/-- The two errors' variables, where the condition holds. -/
theorem sents {W : World} (h : laidMetH Tryd.prog Rows.fnWordsRow.laid W) :
    (∃ tp p, W.cell? ⟨0, 0, none⟩ = some (.iface tp p)) ∧ ∃ tp p, W.cell? ⟨1, 0, none⟩ = some (.iface tp p) := by
  rw [MakeChecks.laidMetH_plain _ _ _ (by kernel_rfl)] at h
  have h3 := h.tail.tail.tail.tail
  obtain ⟨a, s, e1, -⟩ := laid_sentinel h3 gRange tRange Tryd.underlying46 rowE Tryd.underlying104 Tryd.underlying106 rfl rfl Tryd.underlying9 cE cS
  obtain ⟨b, s2, e2, -⟩ := laid_sentinel h3.tail gSyn tSyn Tryd.underlying46 rowE Tryd.underlying104 Tryd.underlying106 rfl rfl Tryd.underlying9 cE cS
  exact ⟨⟨_, _, by simpa using World.var?_cell gSyn e2 0⟩, ⟨_, _, by simpa using World.var?_cell gRange e1 0⟩⟩

/-! ### The walk -/
def IsRow (k : IntKind) (w : World) (a : Option Addr) (len cap : Nat) (zs : List Int) : Prop :=
  (a = none ∧ len = 0 ∧ cap = 0 ∧ zs = []) ∨
  ∃ x, a = some x ∧ len ≤ cap ∧ cap ≤ maxLen ∧ zs.length = cap ∧ (∀ i, i < zs.length → w.cell? (x.add i) = some (.int k (zs.getD i 0))) ∧ ∀ n ∈ zs, (Lit.int k n).wf = true

theorem walk (a0 : Option Addr) (len0 cap0 : Nat) (z0 : List Int) (w : World) (w0 : IsRow .u8 w a0 len0 cap0 z0) (hL : laidMetH Tryd.prog Rows.fnWordsRow.laid w) (hsh : w.ShapedOpen Tryd.prog) :
    Calls Tryd.prog 6 #[.slice a0 len0 cap0] w fun e w' => e = .returned (.bool true) ∧ Below w.heap.size w w' := by
  have hm := Tryd.laysM146.s1_3 w hsh
  have HM : Hid (∃ m, w.cell? ⟨2, 0, none⟩ = some (.int .i64 m)) := hm
  have ht := Lib.hid (tab hL)
  obtain ⟨es, er⟩ := sents hL
  have HS := Lib.hid (And.intro es er)
  have hlt : 3 < w.heap.size := World.block_lt_of_cell? w _ (ht.out.cell gPow 0 (by rw [Lib.pow10Tab_length]; omega))
  clear hL es er hm hsh
  have hr := Lib.hid (rdu_came w0)
  clear w0
  by_cases hbig : 1048576 < len0
  · go_enter Tryd.func6, Tryd.ntmps6
    go_wp2_with fail
    go_ret
    exact ⟨rfl, Below.refl _ _⟩
  have hsm : len0 ≤ 1048576 := by omega
  clear hbig
  have hnm : Hid (decide (nmP (⟨#[120, 49]⟩ : ByteArray).data.toList) = true) := decide_eq_true ⟨by decide, by decide⟩
  go_enter Tryd.func6, Tryd.ntmps6
  go_wp2_with fail
  refine (c_s_MakeNum _ _ _ _ _ 1 hr.out hsm (by omega)).mono ?_
  rintro e W1 ⟨x, rfl, hx0, hx1, hB1⟩
  go_wp2_with fail
  refine (c_i_FormatInt (x - 30000) (by omega) (by omega) _ (tab_below gPow hlt ht.out hB1)).mono ?_
  rintro e W2 ⟨rfl, hb2⟩
  have hB2 := hB1.trans (hb2.mono hB1.size)
  have hp : Hid (piR (inT (x - 30000)) = (x - 30000, true)) := piR_yes (by omega) (by omega) rfl
  have hsz : (inT (x - 30000)).size ≤ 1048576 := by have := inT_len (x - 30000) (by omega) (by omega); omega
  go_wp2_with fail
  refine (c_i_ParseInt (inT (x - 30000)) _ hsz (tab_below gPow hlt ht.out hB2) gPow (sent_below HS.out.1 hB2) (sent_below HS.out.2 hB2)).mono ?_
  rintro e W3 ⟨rfl, hb3⟩
  have hB3 := hB2.trans (hb3.mono hB2.size)
  rw [hp.out]
  clear hsz
  go_wp2_with fail
  refine (c_s_MakeText _ _ _ _ _ (hr.out.below hB3) hsm).mono ?_
  rintro e W4 ⟨s, rfl, hs, hb4⟩
  have hB4 := hB3.trans (hb4.mono hB3.size)
  have q3 : (s.toList == s.toList) = true := by simp
  have hl : Hid ((spT 32 s).length + lensT (spT 32 s) ≤ 1048576) := by
    have h1 := spT_len 32 s
    have h2 := lensT_le (spT 32 s) (fun y hy => by have := spT_le 32 s y hy; omega)
    show _ ≤ _
    omega
  go_wp2_with fail
  refine (c_i_SplitAny s 32 _ (by omega)).mono ?_
  rintro e W5 ⟨vp, rfl, hop, hb5⟩
  have hB5 := hB4.trans (hb5.mono hB4.size)
  go_wp2_with fail
  refine (c_i_Join vp (spT 32 s) ⟨#[32]⟩ _ hop.rd hl.out (by decide)).mono ?_
  rintro e W6 ⟨rfl, hb6⟩
  have hB6 := hB5.trans (hb6.mono hB5.size)
  rw [jn_spT]
  go_wp2_with fail
  refine (c_i_IsName ⟨#[120, 49]⟩ _ (by decide)).mono ?_
  rintro e w' ⟨rfl, rfl⟩
  rw [hnm.out]
  go_wp2_with fail
  refine (c_i_SplitLines4 _ (some_below HM.out hB6)).mono ?_
  rintro e W7 ⟨a, rfl, hb7⟩
  go_wp2
  go_ret
  exact ⟨rfl, hB6.trans (hb7.mono hB6.size)⟩

/-! ### The row -/
theorem door_met (os : Os) (args : Array Value) : laidMetH Tryd.prog Rows.fnWordsRow.laid ((World.laidAll Tryd.prog os Rows.fnWordsRow.laid).forCall (fun _ _ => 0) ⟨#[], args, []⟩).memory :=
  by rw [MakeChecks.laidMetH_plain _ _ _ (by kernel_rfl)]; exact laidMet_laidAll _ (by kernel_rfl) (by kernel_rfl)

set_option maxRecDepth 100000 in
theorem lifted (os : Os) (started : os.Started) (H : Type) (enc : TypeId × Value → H) :
    ReturnsInHanded {} Tryd.checked os 6 .any (fun w args => (Rows.fnWordsSpec.pre enc Tryd.prog Tryd.f6 [] false w args ∧ laidMetH Tryd.prog Rows.fnWordsRow.laid w) ∧ sizedMet enc Tryd.prog Tryd.f6 (OpenSpec.ofChange Rows.fnWordsSpec) false w args)
      (Rows.fnWordsSpec.post enc Tryd.prog Tryd.f6 false true false false) := by
  refine lift_shaped (C := Tryd.checked) (X := fun w _ => laidMetH Tryd.prog Rows.fnWordsRow.laid w) (fun _ _ _ hh h => h.of_heap hh) own started (by kernel_rfl) Tryd.func6
    (ChangeSpec.witness_shaped (enc := enc) (C := Tryd.checked) (os := os) (X := fun w _ => laidMetH Tryd.prog Rows.fnWordsRow.laid w) false (World.laidAll Tryd.prog os Rows.fnWordsRow.laid) #[.slice none 0 0] 8 (World.laidAll_os _ _ _) (World.shaped_of_ZipB (by kernel_rfl) (by kernel_rfl)) (by kernel_rfl) (by kernel_rfl) (by kernel_rfl) (door_met os _)) ?_
  intro W base args ds gs before hval0 hW hL hsh
  have hval : ∀ (j : Nat) t v, Tryd.f6.params[j]? = some t → args[j]? = some v → Value.okWide Tryd.prog W .any base t v := hval0
  have hW' := hW
  obtain ⟨p, q, hA0, hV, rfl, hfz, hnd⟩ := hW
  have hA : DataW.TrodAll enc Tryd.prog W 0 (fun _ => true) true Tryd.f6.params.toList args.toList ds p := hA0
  rw [Tryd.params6] at hA hval
  obtain ⟨v0, vs0, d0, ds0, p0, q0, hargs, rfl, rfl, h0, r0⟩ := trodAll_cons hA
  obtain ⟨rfl, rfl, rfl⟩ := trodAll_nil r0
  obtain rfl : args = #[v0] := by cases args; simp_all
  obtain ⟨rfl, rfl⟩ := trodVars_none hV
  obtain ⟨a0, len0, cap0, rfl⟩ := okWide_slice Tryd.underlying32 (hval 0 32 v0 rfl rfl)
  have k0 := h0
  have lt0 : ∀ x ∈ p0, x.block < W.heap.size := by obtain ⟨m, hm⟩ := k0; exact DataW.trod_lt m _ _ _ hm
  obtain ⟨z0, w0⟩ : ∃ zs, IsRow .u8 W a0 len0 cap0 zs := by
    obtain ⟨fuel, hf⟩ := h0
    rcases open_ints Tryd.underlying32 Tryd.underlying5 (by kernel_rfl) hf with ⟨hcs, _⟩ | ⟨x, l, c, zs, hcs, _, hl, hm, hz, _, hcell, hwz⟩
    · simp [Value.cells] at hcs
      obtain ⟨rfl, rfl, rfl⟩ := hcs
      exact ⟨[], .inl ⟨rfl, rfl, rfl, rfl⟩⟩
    · simp [Value.cells] at hcs
      obtain ⟨rfl, rfl, rfl⟩ := hcs
      exact ⟨zs, .inr ⟨_, rfl, hl, hm, by simpa using hz, hcell, hwz⟩⟩
  clear hA0 hval0
  refine (walk a0 len0 cap0 z0 W w0 hL hsh).mono fun e W' ⟨he, bel⟩ => ?_
  subst he
  exact ⟨_, rfl, _, _, _, [], _, [], hW', trodAll_mk1 (shut_bool Tryd.underlying4 _), (trodAll_cons_mk (Below.trod laidOut (by kernel_rfl) (of_decide_eq_true (by kernel_rfl)) k0 bel lt0) trodAll_mk0), rfl, bel.frame _, fun h => by cases h⟩

/-- The closed facts of the row: what the function reaches is read off the table of calls. -/
theorem jf : joinedFacts Tryd.prog 6 Tryd.f6 Rows.fnWordsSpec Rows.fnWordsRow = true := by
  have e1 : Tryd.prog.inPlace 6 = Rows.fnWordsRow.inPlace := by unfold Program.inPlace; rw [clo]; kernel_rfl
  have e2 : Tryd.prog.unfollowed 6 = Rows.fnWordsRow.unfollowed := by unfold Program.unfollowed; rw [clo]; kernel_rfl
  have e3 : Tryd.prog.recurses 6 = Rows.fnWordsRow.recurses := by unfold Program.recurses; rw [e2]; simp only [clo, leads]; kernel_rfl
  have e4 : Tryd.prog.varsNamed 6 = Rows.fnWordsRow.named := by unfold Program.varsNamed; rw [clo]; kernel_rfl
  unfold joinedFacts
  rw [e1, e2, e3, e4, p_enter, p_lift, p_make, p_plain, p_heard, p_stops, p_knobs, p_laid, p_maps]
  show (_ : Bool) = true
  kernel_rfl

theorem over : Rows.FnWordsSaid :=
  OpenClaim.holds_of_wide 6 Tryd.f6 rfl rfl rfl rfl rfl rfl rfl ⟨rfl, rfl, rfl, rfl, rfl⟩ rfl rfl rfl rfl rfl (by kernel_rfl) Tryd.func6 jf
    (of_decide_eq_true (by kernel_rfl)) (by unfold Func.isWrapper; first | (rw [if_pos (by decide +kernel)]; kernel_rfl) | (rw [if_neg (by decide +kernel)]; exact ⟨rfl, rfl⟩))
    (fun os started H enc _ => lifted os started H enc)

/-- The statement: the tied card. -/
theorem proved : Rows.FnWordsCardSaid :=
  Claim7.holds_tied_plain_at .later [] Rows.fnWordsCard.laidKinds true Rows.fnWordsCard.stood.harness true
    over (fun _ h => by cases h) (by kernel_rfl) (fun _ h => by cases h) fnWords_row_tie rfl ⟨rfl, rfl⟩ (by kernel_rfl) rfl
    (fun f fn hf hfn => by
      obtain rfl : f = 6 := Option.some.inj ((show Tryd.prog.funcNamed "loop.example/g03203/laws.FnWords" = some 6 by kernel_rfl).symm.trans hf) |>.symm
      obtain rfl : fn = Tryd.f6 := (Option.some.inj (Tryd.func6.symm.trans hfn)).symm
      exact ⟨by kernel_rfl, fun j t ht => by
        rw [Tryd.params6] at ht
        have hm : t ∈ [32] := by simpa using Array.mem_of_getElem? ht
        have hall : ([32].all fun u => !Tryd.prog.wantsStandIn u) = true := by kernel_rfl
        exact (show Tryd.prog.wantsStandIn t = false by simpa using List.all_eq_true.1 hall t hm)⟩)
    (by kernel_rfl)
#print axioms proved
end Go.Proofs.YtjogaoocjcofdaaDoor.fnWords
