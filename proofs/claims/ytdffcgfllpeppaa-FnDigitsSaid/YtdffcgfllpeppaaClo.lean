/- Which functions each function of this translation leads to, as a table: what a law reaches is reckoned on the table. -/
import Derived.Test.YtdffcgfllpeppaaRows
import Derived.ProofKit
namespace Go.Proofs.Ytdffcgfllpeppaa

/-- The table: in the place f the functions that f leads to. -/
def tbl : List (List Nat) := [[], [], [1], [20, 19, 20, 21, 22, 20, 22, 23, 22, 23, 24, 20, 21, 22, 24], [20, 25, 20, 26, 20, 22], [27, 28], [20, 29, 20, 30, 20, 22], [20, 31, 20, 32, 20, 22], [33, 34, 22, 23, 24, 34, 22, 24], [20, 35, 20, 36, 20, 22], [20, 37, 20, 38, 20, 22], [20, 39, 20, 40, 20, 22], [20, 41, 20, 42, 20, 22], [20, 43, 20, 44, 20, 22], [20, 45, 20, 46, 22, 20, 22, 23, 22, 23, 24, 20, 46, 22, 24], [47, 48], [49, 50, 22, 23, 24, 50, 22, 24], [51, 52, 22, 23, 24, 52, 22, 24], [53, 54, 34, 44, 55, 32, 56, 57, 48, 28, 57, 28, 55, 48, 40], [], [], [], [], [], [], [58], [59, 60], [61, 63, 62], [64, 56, 66, 65], [67, 58], [68, 59, 60], [69, 58], [56, 59, 60], [61, 63], [64, 56, 66], [25], [26], [25, 70], [26, 71], [31, 72], [32], [29], [30], [31, 73], [32], [29, 58], [30, 74, 75], [61, 63, 76, 73], [64, 56, 66, 77, 78, 44], [41], [79, 42], [80, 39], [79, 40], [81, 82, 83, 82, 83, 82], [81, 82], [64, 56, 66], [74], [64, 56, 74], [], [], [85, 84], [69, 58], [], [], [74], [], [], [58], [74], [58], [], [], [], [], [], [], [], [], [86], [87], [], [88, 89], [89, 89, 89, 89, 89], [82], [90], [74], [], [91], [], [], [], [], [], [], [], [], [], [], [], [], [], [], [], [], [], [], [], []]

theorem tbl_is : Try.prog.funcs.toList.map Try.prog.leadsTo = tbl := by kernel_rfl

def ledBy (f : FuncId) : List FuncId := (tbl[f]?).getD []

theorem leads (f : FuncId) : (Try.prog.funcs[f]?).elim [] Try.prog.leadsTo = ledBy f := by
  unfold ledBy
  rw [← tbl_is, List.getElem?_map, Array.getElem?_toList]
  cases Try.prog.funcs[f]? <;> rfl

/-- The search on the table. -/
def cloT : Nat → List FuncId → List FuncId → List FuncId
  | 0, _, seen => seen.reverse
  | _, [], seen => seen.reverse
  | n + 1, f :: todo, seen => if seen.contains f then cloT n todo seen else cloT n (ledBy f ++ todo) (f :: seen)

theorem cloT_is : ∀ (n : Nat) (todo seen : List FuncId), Try.prog.closureVia n todo seen = cloT n todo seen := by
  intro n
  induction n with
  | zero => intro todo seen; cases todo <;> rfl
  | succ n ih =>
    intro todo seen
    cases todo with
    | nil => rfl
    | cons f todo =>
      simp only [Program.closureVia, cloT]
      rw [leads, ih, ih]

def fuel : Nat := 1 + (tbl.map fun l => l.length + 1).sum

theorem fuel_gen {α : Type} (l : List α) (f : α → List Nat) : 1 + (l.map fun g => (f g).length + 1).sum = 1 + ((l.map f).map fun x => x.length + 1).sum := by
  rw [List.map_map]; rfl

theorem fuel_is : 1 + (Try.prog.funcs.toList.map fun g => (Try.prog.leadsTo g).length + 1).sum = fuel := by
  rw [fuel_gen, tbl_is]; unfold fuel; with_reducible rfl

/-- What a function reaches. -/
theorem clo (f : FuncId) : Try.prog.closure f = cloT fuel [f] [] := by
  unfold Program.closure
  rw [fuel_is, cloT_is]

/-! What does not hang on the law: reckoned once. -/
set_option maxRecDepth 100000 in
theorem p_all : (Try.prog.mayEnter && (Try.prog.liftsFinal == Rows.fnExactNegateDigitsRow.lifted) && (Try.prog.make == some Rows.fnExactNegateDigitsRow.make)) = true := by kernel_rfl
theorem p_enter : Try.prog.mayEnter = true := by have h := p_all; simp only [Bool.and_eq_true] at h; exact h.1.1
theorem p_lift : Try.prog.liftsFinal = Rows.fnExactNegateDigitsRow.lifted := by have h := p_all; simp only [Bool.and_eq_true] at h; exact eq_of_beq h.1.2
theorem p_make : Try.prog.make = some Rows.fnExactNegateDigitsRow.make := by have h := p_all; simp only [Bool.and_eq_true] at h; exact eq_of_beq h.2
theorem p_plain : Try.prog.plainKeys = Rows.fnExactNegateDigitsRow.plainKeys := by kernel_rfl
theorem p_heard : Try.prog.stopsHeard = true := by kernel_rfl
theorem p_stops : Try.prog.stops = [] := by kernel_rfl
theorem p_knobs : Try.prog.stopKnobs = [] := by kernel_rfl
theorem p_laid : laidOutB Try.prog = true := by kernel_rfl
theorem p_maps : mapsRowed Try.prog = true := by kernel_rfl

end Go.Proofs.Ytdffcgfllpeppaa
