/- Which functions each function of this translation leads to, as a table: what a law reaches is reckoned on the table. -/
import Derived.Test.YtehlkoogpgcipaaRows
import Derived.ProofKit
namespace Go.Proofs.Ytehlkoogpgcipaa

/-- The table: in the place f the functions that f leads to. -/
def tbl : List (List Nat) := [[], [], [1], [13, 14, 15, 16, 17, 17, 18, 18, 19, 20, 21, 21, 22, 23, 17, 17, 18, 18, 19, 24, 21, 25, 25, 25, 24], [27, 26, 27, 16, 27, 28], [27, 29, 27, 14, 27, 28], [27, 27, 30, 27, 27, 20, 27, 28, 27, 28], [27, 31, 27, 15, 28, 27, 28, 32, 28, 32, 33, 27, 15, 28, 33], [27, 27, 34, 27, 27, 21, 27, 28, 27, 28], [27, 35, 27, 18, 28, 27, 28, 32, 28, 32, 33, 27, 18, 28, 33], [27, 27, 27, 36, 27, 27, 27, 24, 27, 28, 27, 28, 27, 28], [27, 27, 37, 27, 27, 22, 28, 27, 28, 27, 28, 32, 32, 28, 32, 33, 27, 27, 22, 28, 33], [27, 27, 27, 38, 27, 27, 27, 19, 28, 27, 28, 27, 28, 27, 28, 32, 32, 32, 28, 32, 33, 27, 27, 27, 19, 28, 33], [40, 39], [16, 41], [16, 41], [42, 43, 41, 44], [40, 45, 45], [14, 42, 46], [20, 20, 47], [16, 48], [20, 49], [20, 49, 41, 46], [40, 50], [20, 20, 47, 51], [], [52, 52], [], [], [26, 53], [26, 52], [26], [], [], [30, 54], [26, 53, 52], [55, 56], [30], [55, 56], [50, 50], [57, 45], [], [], [59, 58], [42], [], [], [], [42], [], [45, 45, 45, 45, 45], [], [], [], [], [30, 30], [], [], [60], [42], [], [], [], [], [], [], [], [], [], [], [], [], [], [], [], [], []]

theorem tbl_is : Try.prog.funcs.toList.map Try.prog.leadsTo = tbl := by kernel_rfl

def ledBy (f : FuncId) : List FuncId := (tbl[f]?).getD []

theorem leads (f : FuncId) : (Try.prog.funcs[f]?).elim [] Try.prog.leadsTo = ledBy f := by
  unfold ledBy
  rw [← tbl_is, List.getElem?_map, Array.getElem?_toList]
  cases Try.prog.funcs[f]? <;> rfl

/-- The search on the table. -/
def cloT : Nat → List FuncId → List FuncId → List FuncId
  | 0, _, seen => seen.reverse
  | _, [], seen => seen.reverse
  | n + 1, f :: todo, seen => if seen.contains f then cloT n todo seen else cloT n (ledBy f ++ todo) (f :: seen)

theorem cloT_is : ∀ (n : Nat) (todo seen : List FuncId), Try.prog.closureVia n todo seen = cloT n todo seen := by
  intro n
  induction n with
  | zero => intro todo seen; cases todo <;> rfl
  | succ n ih =>
    intro todo seen
    cases todo with
    | nil => rfl
    | cons f todo =>
      simp only [Program.closureVia, cloT]
      rw [leads, ih, ih]

def fuel : Nat := 1 + (tbl.map fun l => l.length + 1).sum

theorem fuel_gen {α : Type} (l : List α) (f : α → List Nat) : 1 + (l.map fun g => (f g).length + 1).sum = 1 + ((l.map f).map fun x => x.length + 1).sum := by
  rw [List.map_map]; rfl

theorem fuel_is : 1 + (Try.prog.funcs.toList.map fun g => (Try.prog.leadsTo g).length + 1).sum = fuel := by
  rw [fuel_gen, tbl_is]; unfold fuel; with_reducible rfl

/-- What a function reaches. -/
theorem clo (f : FuncId) : Try.prog.closure f = cloT fuel [f] [] := by
  unfold Program.closure
  rw [fuel_is, cloT_is]

/-! What does not hang on the law: reckoned once. -/
set_option maxRecDepth 100000 in
theorem p_all : (Try.prog.mayEnter && (Try.prog.liftsFinal == Rows.fnMixedRow.lifted) && (Try.prog.make == some Rows.fnMixedRow.make)) = true := by kernel_rfl
theorem p_enter : Try.prog.mayEnter = true := by have h := p_all; simp only [Bool.and_eq_true] at h; exact h.1.1
theorem p_lift : Try.prog.liftsFinal = Rows.fnMixedRow.lifted := by have h := p_all; simp only [Bool.and_eq_true] at h; exact eq_of_beq h.1.2
theorem p_make : Try.prog.make = some Rows.fnMixedRow.make := by have h := p_all; simp only [Bool.and_eq_true] at h; exact eq_of_beq h.2
theorem p_plain : Try.prog.plainKeys = Rows.fnMixedRow.plainKeys := by kernel_rfl
theorem p_heard : Try.prog.stopsHeard = true := by kernel_rfl
theorem p_stops : Try.prog.stops = [] := by kernel_rfl
theorem p_knobs : Try.prog.stopKnobs = [] := by kernel_rfl
theorem p_laid : laidOutB Try.prog = true := by kernel_rfl
theorem p_maps : mapsRowed Try.prog = true := by kernel_rfl

end Go.Proofs.Ytehlkoogpgcipaa
