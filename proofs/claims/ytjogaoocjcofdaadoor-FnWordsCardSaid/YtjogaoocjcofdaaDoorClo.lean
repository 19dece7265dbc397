/- Which functions each function of this translation leads to, as a table: what a law reaches is reckoned on the table. -/
import Derived.Test.YtjogaoocjcofdaaDoorRows
import Derived.ProofKit
namespace Go.Proofs.YtjogaoocjcofdaaDoor

/-- The table: in the place f the functions that f leads to. -/
def tbl : List (List Nat) := [[], [], [1], [8, 9], [11, 10, 11, 12, 11, 13], [14, 15], [16, 9, 15, 17, 19, 18, 20, 21], [22, 23, 13, 24, 25, 23, 13, 25], [8], [26], [27, 28, 27, 8, 29], [], [30, 31, 9, 18], [], [32, 8], [33, 9], [34, 35, 35], [36, 37, 38], [39], [40], [41], [42, 43], [44, 14, 28, 10], [42, 15, 12], [], [], [45], [], [], [], [], [47, 46], [], [48, 49], [36, 35], [], [], [35, 35, 35, 35, 35], [37], [50, 51, 51, 51, 52], [53], [], [54], [], [], [55], [56], [30], [57], [58, 59, 60, 61], [62, 63], [62], [], [64], [65, 66, 67], [68, 69, 70, 71], [], [72], [73], [73], [73, 26, 74], [73, 26, 74], [75], [76], [], [77, 78], [77, 79, 67], [80], [], [82, 81, 83], [], [84, 85], [86, 86, 86, 86, 86, 86, 87], [], [], [], [], [], [88], [], [53, 89, 53, 90, 89, 91], [], [], [], [], [92, 93], [], [86, 86, 86, 86, 86, 86], [], [], [], [94], [], [], [], [], [], [], [], [], [], [], [], [], [], [], [], [], [], [], [], [], [], [], [], [], [], [], [], [], [], [], [], [], [], [], [74, 74]]

theorem tbl_is : Tryd.prog.funcs.toList.map Tryd.prog.leadsTo = tbl := by kernel_rfl

def ledBy (f : FuncId) : List FuncId := (tbl[f]?).getD []

theorem leads (f : FuncId) : (Tryd.prog.funcs[f]?).elim [] Tryd.prog.leadsTo = ledBy f := by
  unfold ledBy
  rw [← tbl_is, List.getElem?_map, Array.getElem?_toList]
  cases Tryd.prog.funcs[f]? <;> rfl

/-- The search on the table. -/
def cloT : Nat → List FuncId → List FuncId → List FuncId
  | 0, _, seen => seen.reverse
  | _, [], seen => seen.reverse
  | n + 1, f :: todo, seen => if seen.contains f then cloT n todo seen else cloT n (ledBy f ++ todo) (f :: seen)

theorem cloT_is : ∀ (n : Nat) (todo seen : List FuncId), Tryd.prog.closureVia n todo seen = cloT n todo seen := by
  intro n
  induction n with
  | zero => intro todo seen; cases todo <;> rfl
  | succ n ih =>
    intro todo seen
    cases todo with
    | nil => rfl
    | cons f todo =>
      simp only [Program.closureVia, cloT]
      rw [leads, ih, ih]

def fuel : Nat := 1 + (tbl.map fun l => l.length + 1).sum

theorem fuel_gen {α : Type} (l : List α) (f : α → List Nat) : 1 + (l.map fun g => (f g).length + 1).sum = 1 + ((l.map f).map fun x => x.length + 1).sum := by
  rw [List.map_map]; rfl

theorem fuel_is : 1 + (Tryd.prog.funcs.toList.map fun g => (Tryd.prog.leadsTo g).length + 1).sum = fuel := by
  rw [fuel_gen, tbl_is]; unfold fuel; with_reducible rfl

/-- What a function reaches. -/
theorem clo (f : FuncId) : Tryd.prog.closure f = cloT fuel [f] [] := by
  unfold Program.closure
  rw [fuel_is, cloT_is]

/-! What does not hang on the law: reckoned once. -/
set_option maxRecDepth 100000 in
theorem p_all : (Tryd.prog.mayEnter && (Tryd.prog.liftsFinal == Rows.fnExactFormatIntRow.lifted) && (Tryd.prog.make == some Rows.fnExactFormatIntRow.make)) = true := by kernel_rfl
theorem p_enter : Tryd.prog.mayEnter = true := by have h := p_all; simp only [Bool.and_eq_true] at h; exact h.1.1
theorem p_lift : Tryd.prog.liftsFinal = Rows.fnExactFormatIntRow.lifted := by have h := p_all; simp only [Bool.and_eq_true] at h; exact eq_of_beq h.1.2
theorem p_make : Tryd.prog.make = some Rows.fnExactFormatIntRow.make := by have h := p_all; simp only [Bool.and_eq_true] at h; exact eq_of_beq h.2
theorem p_plain : Tryd.prog.plainKeys = Rows.fnExactFormatIntRow.plainKeys := by kernel_rfl
theorem p_heard : Tryd.prog.stopsHeard = true := by kernel_rfl
theorem p_stops : Tryd.prog.stops = [] := by kernel_rfl
theorem p_knobs : Tryd.prog.stopKnobs = [] := by kernel_rfl
theorem p_laid : laidOutB Tryd.prog = true := by kernel_rfl
theorem p_maps : mapsRowed Tryd.prog = true := by kernel_rfl

end Go.Proofs.YtjogaoocjcofdaaDoor
