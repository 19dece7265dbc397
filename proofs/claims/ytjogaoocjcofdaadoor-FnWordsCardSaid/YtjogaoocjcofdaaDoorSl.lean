/- Slices of ints: a slice that reads as a list (Rd), a slice of the call's own that holds a list (Own), and the laws on append and make in these words. -/
import Derived.Test.YtjogaoocjcofdaaDoorRows
import Derived.WalkKit
import Derived.OpenShut
import Derived.BigQuiet
import Derived.Deep.QuietTactic
import Derived.Lib.Hide
namespace Go.Proofs.YtjogaoocjcofdaaDoor
open Go.RowKit

theorem ret_i {a b : Int} (h : a = b) : Ending.returned (.int .i64 a) = .returned (.int .i64 b) := by rw [h]
theorem ret_b {a b : Bool} (h : a = b) : Ending.returned (.bool a) = .returned (.bool b) := by rw [h]

/-- An int fits 64 bits. -/
def bd (x : Int) : Prop := -9223372036854775808 ≤ x ∧ x ≤ 9223372036854775807

theorem bd_wf {x : Int} (h : bd x) : (Lit.int .i64 x).wf = true := WalkArith.wf_i64 h

/-- The slice v reads as the list xs. -/
def Rd (w : World) (v : Value) (xs : List Int) : Prop :=
  (∀ x ∈ xs, bd x) ∧ ∃ a cap, v = .slice a xs.length cap ∧ xs.length ≤ cap ∧ cap ≤ maxLen ∧ (0 < xs.length → ∃ b off, a = some ⟨b, off, none⟩ ∧ b < w.heap.size ∧ ∀ i, i < xs.length → w.cell? ⟨b, off + i, none⟩ = some (.int .i64 (xs.getD i 0)))

/-- The slice v is one of the call's own, in a block from B on, and holds the list xs. -/
def Own (w : World) (B : Nat) (v : Value) (xs : List Int) : Prop :=
  (∀ x ∈ xs, bd x) ∧ w.ownsRow B 3 1 v xs.length (xs.map (Value.int .i64))

theorem getD_mem {xs : List Int} {k : Nat} (h : k < xs.length) : xs.getD k 0 ∈ xs := by
  simp [List.getD_eq_getElem?_getD, List.getElem?_eq_getElem h]

theorem Rd.elt {w : World} {v : Value} {xs : List Int} (h : Rd w v xs) {k : Nat} (hk : k < xs.length) : bd (xs.getD k 0) := h.1 _ (getD_mem hk)

/-- What a walk opens of a slice that reads as xs. -/
theorem Rd.open {w : World} {v : Value} {xs : List Int} (h : Rd w v xs) : ∃ a cap n, v = .slice a n cap ∧ Hid (xs.length = n) ∧ n ≤ 9223372036854775807 ∧ n ≤ cap ∧ cap ≤ 9223372036854775807 ∧
    ∀ k, k < n → ∃ b off, a = some ⟨b, off, none⟩ ∧ b < w.heap.size ∧ ∃ x, Hid (xs.getD k 0 = x) ∧ bd x ∧ w.cell? ⟨b, off + k, none⟩ = some (.int .i64 x) := by
  obtain ⟨hb, a, cap, rfl, hc, hm, hcell⟩ := h
  unfold maxLen at hm
  refine ⟨a, cap, xs.length, rfl, Lib.hid rfl, by omega, hc, by omega, fun k hk => ?_⟩
  obtain ⟨b, off, rfl, hlt, hcell⟩ := hcell (by omega)
  exact ⟨b, off, rfl, hlt, _, Lib.hid rfl, hb _ (getD_mem hk), hcell k hk⟩

theorem Rd.kept {w w' : World} {v : Value} {xs : List Int} {row : Option Nat} (h : Rd w v xs) (hg : w.grownBy w' row) (hne : v.ownBlock = none ∨ v.ownBlock ≠ row) : Rd w' v xs := by
  obtain ⟨hb, a, cap, rfl, hc, hm, hcell⟩ := h
  refine ⟨hb, a, cap, rfl, hc, hm, fun h0 => ?_⟩
  obtain ⟨b, off, rfl, hlt, hcell⟩ := hcell h0
  have hn : some b ≠ row := by simpa [Value.ownBlock] using hne
  refine ⟨b, off, rfl, Nat.lt_of_lt_of_le hlt hg.size, fun i hi => ?_⟩
  rw [World.cell?_of_block (w := w) (hg.block b hlt hn)]
  exact hcell i hi

theorem below_dN {B : Nat} {a w : World} (h : Below B a w) (n : Nat) : Below B a (w.drewN n) := h.trans ⟨rfl, rfl, rfl, Nat.le_refl _, fun _ _ => rfl⟩
theorem grown_below {w w' : World} (h : Below w.heap.size w w') : w.grownBy w' none := ⟨h.os, h.tape, h.output, h.size, fun k hk _ => h.block k hk⟩
theorem below_grown {w w' : World} (h : w.grownBy w' none) : Below w.heap.size w w' := ⟨h.os, h.tape, h.output, h.size, fun k hk => h.block k hk (by simp)⟩

theorem Rd.below {w w' : World} {v : Value} {xs : List Int} (h : Rd w v xs) (hb : Below w.heap.size w w') : Rd w' v xs := h.kept (grown_below hb) (by cases v.ownBlock <;> simp)

theorem Own.kept {w w' : World} {B : Nat} {v : Value} {xs : List Int} {row : Option Nat} (h : Own w B v xs) (hg : w.grownBy w' row) (hne : v.ownBlock = none ∨ v.ownBlock ≠ row) : Own w' B v xs := ⟨h.1, h.2.kept hg hne⟩

theorem Own.below {w w' : World} {B : Nat} {v : Value} {xs : List Int} (h : Own w B v xs) (hb : Below w.heap.size w w') : Own w' B v xs := h.kept (grown_below hb) (by cases v.ownBlock <;> simp)

theorem Own.alloc {w : World} {B : Nat} {v : Value} {xs : List Int} (h : Own w B v xs) (o : Obj) : Own (w.alloc o) B v xs := ⟨h.1, h.2.alloc o⟩
theorem Own.drew {w : World} {B : Nat} {v : Value} {xs : List Int} (h : Own w B v xs) : Own w.drew B v xs := h.below (Below.refl _ _).drew
theorem Own.nil (w : World) (B : Nat) : Own w B (.slice none 0 0) [] := ⟨by simp, World.ownsRow_nil _ _ _ _⟩

/-- An empty literal. -/
theorem Own.empty (w : World) (B : Nat) (hB : B ≤ w.heap.size) : Own (w.alloc (.cells #[] 3)) B (.slice (some ⟨w.heap.size, 0, none⟩) 0 0) [] :=
  ⟨by simp, by simpa using World.ownsRow_lit (base := B) (e := 3) (size := 1) w #[] 0 hB (by unfold maxLen; omega) rfl⟩

theorem Own.mono {w : World} {B B' : Nat} {v : Value} {xs : List Int} (h : Own w B v xs) (hB : B' ≤ B) : Own w B' v xs := by
  obtain ⟨h1, h2, h3⟩ := h
  refine ⟨h1, h2, ?_⟩
  rcases h3 with h3 | ⟨g, cap, cur, a, b, c⟩
  · exact .inl h3
  · exact .inr ⟨g, cap, cur, a, Nat.le_trans hB b, c⟩

theorem Own.lt {w : World} {B : Nat} {v : Value} {xs : List Int} (h : Own w B v xs) : ∀ k, v.ownBlock = some k → B ≤ k ∧ k < w.heap.size := h.2.lt

theorem Own.rd {w : World} {B : Nat} {v : Value} {xs : List Int} (h : Own w B v xs) : Rd w v xs := by
  refine ⟨h.1, ?_⟩
  have h2 := h.2
  have hlt := h.lt
  rcases h2.2 with ⟨rfl, hn⟩ | ⟨g, cap, cur, rfl, hB, hg, hc, hm, hs, ht⟩
  · have hx : xs = [] := List.eq_nil_of_length_eq_zero hn
    subst hx
    exact ⟨none, 0, rfl, by simp, by simp, fun h0 => by simp at h0⟩
  · refine ⟨_, cap, rfl, hc, hm, fun _ => ⟨g, 0, rfl, (hlt g rfl).2, fun i hi => ?_⟩⟩
    rw [Nat.zero_add, h2.cellAt i (by omega)]
    simp [List.getElem?_map, List.getElem?_eq_getElem hi, List.getD_eq_getElem?_getD]

/-- A slice that came in, as the shell of a law tells of it. -/
theorem rd_came {w : World} {a : Option Addr} {len cap : Nat} {zs : List Int}
    (h : (a = none ∧ len = 0 ∧ cap = 0 ∧ zs = []) ∨ ∃ x, a = some x ∧ len ≤ cap ∧ cap ≤ maxLen ∧ zs.length = cap ∧ (∀ i, i < zs.length → w.cell? (x.add i) = some (.int .i64 (zs.getD i 0))) ∧ ∀ n ∈ zs, (Lit.int .i64 n).wf = true) :
    Rd w (.slice a len cap) (zs.take len) ∧ (zs.take len).length = len := by
  rcases h with ⟨rfl, rfl, rfl, rfl⟩ | ⟨x, rfl, hl, hm, hz, hcell, hwf⟩
  · exact ⟨⟨by simp, none, 0, rfl, by simp, by simp, fun h0 => by simp at h0⟩, rfl⟩
  · have hlen : (zs.take len).length = len := by rw [List.length_take]; omega
    refine ⟨⟨fun n hn => bounds_i64 (hwf n (List.mem_of_mem_take hn)), some x, cap, by rw [hlen], by omega, hm, fun h0 => ?_⟩, hlen⟩
    rw [hlen] at h0
    have h00 := hcell 0 (by omega)
    obtain ⟨b, off, spot⟩ := x
    have hspot : spot = none := by simpa [Addr.add] using World.cell?_spot h00
    subst hspot
    refine ⟨b, off, rfl, ?_, fun i hi => ?_⟩
    · have := World.block_lt_of_cell? w _ h00
      simpa [Addr.add] using this
    · rw [hlen] at hi
      have := hcell i (by omega)
      rw [List.getD_eq_getElem?_getD, List.getElem?_take, if_pos hi, ← List.getD_eq_getElem?_getD, ← this]
      congr 1
      unfold Addr.add
      split <;> simp_all

/-- Two of the call's own, the later one made when the first was there: different blocks. -/
theorem Own.ne {w : World} {B : Nat} {v v' : Value} {xs : List Int} (h : Own w B v xs) (h' : ∀ k, v'.ownBlock = some k → k < B) : v.ownBlock = none ∨ v.ownBlock ≠ v'.ownBlock := by
  cases hv : v.ownBlock with
  | none => exact .inl rfl
  | some k =>
    refine .inr fun e => ?_
    have := h' k e.symm
    have := (h.lt k hv).1
    omega

theorem Own.ne' {w : World} {B : Nat} {v v' : Value} {xs : List Int} (h : Own w B v xs) (h' : ∀ k, v'.ownBlock = some k → k < B) : v'.ownBlock = none ∨ v'.ownBlock ≠ v.ownBlock := by
  cases hv : v'.ownBlock with
  | none => exact .inl rfl
  | some k =>
    refine .inr fun e => ?_
    have := h' k hv
    have := (h.lt k e.symm).1
    omega

theorem info_int : (Tryd.prog.info? 3).map (fun i => (i.zero, i.size, i.bytes)) = some (some (.int .i64 0), 1, 8) := by kernel_rfl

/-- append(s, y), s one of the call's own: it may grow. -/
theorem wpList_app (w : World) {ops : Array Oper} {rest : List Oper} {o : Oper} {a : Act} {Q : Exit → Act → World → Prop} (hgd : o.guard = none) (s x : Operand)
    (ho : o.op = .call { callee := .builtin .append, args := #[s, x], argTypes := #[24, 24] })
    (B : Nat) (w0 : World) (v : Value) (xs : List Int) (hs : a.eval s = v) (hown : Own w B v xs) (hB : Below B w0 w) (hBs : B ≤ w0.heap.size)
    (ad : Addr) (y : Int) (hx : a.eval x = .slice (some ad) 1 1) (hc : w.cell? ad = some (.int .i64 y)) (hy : bd y) (hlen : xs.length < 17592186044415)
    (h : ∀ v' w', Own w' B v' (xs ++ [y]) → Below B w0 w' → w.grownBy w' v.ownBlock → wpList Tryd.prog ops Q rest (a.put o.dst v') w') : wpList Tryd.prog ops Q (o :: rest) a w := by
  obtain ⟨i0, hi, hz0, hz1, hz2⟩ := info_parts info_int
  refine wpList_append_own w hgd s x 24 ho B 3 i0 (.int .i64 0) 1 8 Tryd.underlying24 hi hz0 hz1 hz2 rfl (by decide) v _ _ hs hown.2 ad 1 1 [.int .i64 y] hx rfl ?_ ?_ ?_ ?_ ?_ ?_
  · intro j u hu
    match j, hu with
    | 0, hu => simp at hu; subst hu; rw [show ad.add 0 = ad from by obtain ⟨b, o, sp⟩ := ad; cases sp <;> simp [Addr.add]]; exact hc
  · intro u hu; simp at hu; subst hu; rfl
  · unfold maxLen; omega
  · omega
  · exact Nat.le_trans hBs hB.size
  · intro v' w' h1 h2 _
    refine h v' w' ⟨?_, by simpa using h1⟩ (hB.grown h2 (Nat.le_trans hBs hB.size) (fun k hk => (hown.lt k hk).1)) h2
    intro z hz
    rcases List.mem_append.1 hz with hz | hz
    · exact hown.1 z hz
    · simp at hz; subst hz; exact hy

/-- make([]int, n): n zeros. -/
theorem wpList_mk (w : World) {ops : Array Oper} {rest : List Oper} {o : Oper} {a : Act} {Q : Exit → Act → World → Prop} (hgd : o.guard = none) (l c : Operand)
    (ho : o.op = .makeSlice 24 l c) (n : Nat) (hl : a.eval l = .int .i64 n) (hc : a.eval c = .int .i64 n) (hn : n < 17592186044415)
    (h : ∀ w', Own w' w.heap.size (.slice (some ⟨w.heap.size, 0, none⟩) n n) (List.replicate n 0) → Below w.heap.size w w' → wpList Tryd.prog ops Q rest (a.put o.dst (.slice (some ⟨w.heap.size, 0, none⟩) n n)) w') : wpList Tryd.prog ops Q (o :: rest) a w := by
  obtain ⟨i0, hi, hz0, hz1, hz2⟩ := info_parts info_int
  refine wpList_make_full w hgd l c 24 ho w.heap.size 3 i0 (.int .i64 0) 1 Tryd.underlying24 hi hz0 hz1 .i64 .i64 n n n hl hc rfl rfl ?_ ?_ (Nat.le_refl _) ?_
  · rw [hz2]; omega
  · unfold maxLen; omega
  · intro w' h1 h2
    refine h w' ⟨fun x hx => ?_, ?_⟩ (below_grown h2)
    · have := List.eq_of_mem_replicate hx; subst this; unfold bd; omega
    · simpa [Value.cells, toList_madeCells_one] using h1

end Go.Proofs.YtjogaoocjcofdaaDoor
