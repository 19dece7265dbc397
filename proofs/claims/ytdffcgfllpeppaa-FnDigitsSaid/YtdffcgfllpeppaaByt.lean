/- Slices of bytes that the call itself made: make, a store, and their text. -/
import Derived.Test.YtdffcgfllpeppaaCopy
import Derived.Laws.IdiomStrings
namespace Go.Proofs.Ytdffcgfllpeppaa
open Go.RowKit

/-- A byte as a cell. -/
def enB (b : UInt8) : Value := .int .u8 (b.toNat : Int)

/-- The slice v is one of the call's own, in a block from B on, and holds the bytes l. -/
def OwnB (w : World) (B : Nat) (v : Value) (l : List UInt8) : Prop := w.ownsRow B 5 1 v l.length (l.map enB)

theorem OwnB.below {w w' : World} {B : Nat} {v : Value} {l : List UInt8} (h : OwnB w B v l) (hb : Below w.heap.size w w') : OwnB w' B v l := World.ownsRow.kept h (grown_below hb) (by cases v.ownBlock <;> simp)

theorem info_u8 : (Try.prog.info? 5).map (fun i => (i.zero, i.size, i.bytes)) = some (some (.int .u8 0), 1, 1) := by kernel_rfl

/-- make([]byte, n): n zeros. -/
theorem wpList_mkB (w : World) {ops : Array Oper} {rest : List Oper} {o : Oper} {a : Act} {Q : Exit → Act → World → Prop} (hgd : o.guard = none) (l c : Operand)
    (ho : o.op = .makeSlice 44 l c) (n : Nat) (hl : a.eval l = .int .i64 n) (hc : a.eval c = .int .i64 n) (hn : n < 17592186044415)
    (h : ∀ w', OwnB w' w.heap.size (.slice (some ⟨w.heap.size, 0, none⟩) n n) (List.replicate n 0) → Below w.heap.size w w' → wpList Try.prog ops Q rest (a.put o.dst (.slice (some ⟨w.heap.size, 0, none⟩) n n)) w') : wpList Try.prog ops Q (o :: rest) a w := by
  obtain ⟨i0, hi, hz0, hz1, hz2⟩ := info_parts info_u8
  refine wpList_make_full w hgd l c 44 ho w.heap.size 5 i0 (.int .u8 0) 1 Try.underlying44 hi hz0 hz1 .i64 .i64 n n n hl hc rfl rfl ?_ ?_ (Nat.le_refl _) ?_
  · rw [hz2]; omega
  · unfold maxLen; omega
  · intro w' h1 h2
    refine h w' ?_ (below_grown h2)
    simpa [OwnB, enB, Value.cells, toList_madeCells_one] using h1

/-- Own bytes can be written. -/
theorem OwnB.stored {w : World} {B : Nat} {g n cap : Nat} {l : List UInt8} (h : OwnB w B (.slice (some ⟨g, 0, none⟩) n cap) l) (hn : n = l.length) (j : Nat) (y : UInt8) :
    OwnB (w.setCell ⟨g, j, none⟩ (.int .u8 (y.toNat : Int))) B (.slice (some ⟨g, 0, none⟩) n cap) (l.set j y) := by
  subst hn
  obtain ⟨h1, h2⟩ := World.ownsRow.stored h j (.int .u8 (y.toNat : Int))
  simpa [OwnB, List.map_set, enB] using h1

/-- What a store into own bytes asks. -/
theorem OwnB.at {w : World} {B : Nat} {g n cap : Nat} {l : List UInt8} (h : OwnB w B (.slice (some ⟨g, 0, none⟩) n cap) l) {k : Nat} (hk : k < l.length) :
    w.frozen? ⟨g, k, none⟩ = false ∧ ∃ y, l.getD k 0 = y ∧ w.cell? ⟨g, k, none⟩ = some (.int .u8 (y.toNat : Int)) := by
  rcases h.2 with ⟨e, hn⟩ | ⟨g', cap', cur, e, hB, hg, hc, hm, hs, ht⟩
  · cases e
  · have e' := e
    simp only [Value.slice.injEq, Option.some.injEq, Addr.mk.injEq, and_true] at e'
    obtain ⟨e1, e2, e3⟩ := e'
    subst e1 e2 e3
    refine ⟨World.ownsRow.frozenAt h k, _, rfl, ?_⟩
    rw [World.ownsRow.cellAt h k (by omega)]
    simp [enB, List.getElem?_map, List.getElem?_eq_getElem hk, List.getD_eq_getElem?_getD]

/-- string(b), b the call's own. -/
theorem OwnB.conv {w : World} {B g n cap : Nat} {l : List UInt8} (h : OwnB w B (.slice (some ⟨g, 0, none⟩) n cap) l) (hn : l.length = n) :
    (convert 44 9 (.slice (some ⟨g, 0, none⟩) n cap)).run Try.prog w = .ok (.string ⟨l.toArray⟩) w := by
  subst hn
  refine run_convert_bytes_back (P := Try.prog) w 44 9 5 ⟨g, 0, none⟩ cap l Try.underlying44 Try.underlying5 Try.underlying9 (fun j hj => ?_)
  obtain ⟨_, y, hy, hcx⟩ := h.at hj
  rw [show (⟨g, 0, none⟩ : Addr).add j = ⟨g, j, none⟩ from by simp [Addr.add]; omega, hcx, ← hy, List.getD_eq_getElem?_getD, List.getElem?_eq_getElem hj]
  rfl

end Go.Proofs.Ytdffcgfllpeppaa
