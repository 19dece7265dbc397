/- Slices of strings: one that reads as a list (RdS), one of the call's own (OwnS), and the laws on append and make in these words (printed by mkstr.py). -/
import Derived.Test.YtjogaoocjcofdaaDoorBas
namespace Go.Proofs.YtjogaoocjcofdaaDoor
open Go.RowKit

/-- A string's length. -/
def bdS (x : ByteArray) : Prop := x.size ≤ 9223372036854775807

theorem getDS_mem {xs : List ByteArray} {k : Nat} (h : k < xs.length) : xs.getD k .empty ∈ xs := by
  simp [List.getD_eq_getElem?_getD, List.getElem?_eq_getElem h]

/-- The slice v reads as the list xs. -/
def RdS (w : World) (v : Value) (xs : List ByteArray) : Prop :=
  (∀ x ∈ xs, bdS x) ∧ ∃ a cap, v = .slice a xs.length cap ∧ xs.length ≤ cap ∧ cap ≤ maxLen ∧ (0 < xs.length → ∃ b off, a = some ⟨b, off, none⟩ ∧ b < w.heap.size ∧ ∀ i, i < xs.length → w.cell? ⟨b, off + i, none⟩ = some (.string (xs.getD i .empty)))

/-- The slice v is one of the call's own, in a block from B on, and holds the list xs. -/
def OwnS (w : World) (B : Nat) (v : Value) (xs : List ByteArray) : Prop :=
  (∀ x ∈ xs, bdS x) ∧ w.ownsRow B 9 1 v xs.length (xs.map (Value.string))

theorem RdS.elt {w : World} {v : Value} {xs : List ByteArray} (h : RdS w v xs) {k : Nat} (hk : k < xs.length) : bdS (xs.getD k .empty) := h.1 _ (getDS_mem hk)

/-- What a walk opens of a slice that reads as xs. -/
theorem RdS.open {w : World} {v : Value} {xs : List ByteArray} (h : RdS w v xs) : ∃ a cap n, v = .slice a n cap ∧ Hid (xs.length = n) ∧ n ≤ 9223372036854775807 ∧ n ≤ cap ∧ cap ≤ 9223372036854775807 ∧
    ∀ k, k < n → ∃ b off, a = some ⟨b, off, none⟩ ∧ b < w.heap.size ∧ ∃ x, Hid (xs.getD k .empty = x) ∧ bdS x ∧ w.cell? ⟨b, off + k, none⟩ = some (.string x) := by
  obtain ⟨hb, a, cap, rfl, hc, hm, hcell⟩ := h
  unfold maxLen at hm
  refine ⟨a, cap, xs.length, rfl, Lib.hid rfl, by omega, hc, by omega, fun k hk => ?_⟩
  obtain ⟨b, off, rfl, hlt, hcell⟩ := hcell (by omega)
  exact ⟨b, off, rfl, hlt, _, Lib.hid rfl, hb _ (getDS_mem hk), hcell k hk⟩

theorem RdS.kept {w w' : World} {v : Value} {xs : List ByteArray} {row : Option Nat} (h : RdS w v xs) (hg : w.grownBy w' row) (hne : v.ownBlock = none ∨ v.ownBlock ≠ row) : RdS w' v xs := by
  obtain ⟨hb, a, cap, rfl, hc, hm, hcell⟩ := h
  refine ⟨hb, a, cap, rfl, hc, hm, fun h0 => ?_⟩
  obtain ⟨b, off, rfl, hlt, hcell⟩ := hcell h0
  have hn : some b ≠ row := by simpa [Value.ownBlock] using hne
  refine ⟨b, off, rfl, Nat.lt_of_lt_of_le hlt hg.size, fun i hi => ?_⟩
  rw [World.cell?_of_block (w := w) (hg.block b hlt hn)]
  exact hcell i hi

theorem RdS.below {w w' : World} {v : Value} {xs : List ByteArray} (h : RdS w v xs) (hb : Below w.heap.size w w') : RdS w' v xs := h.kept (grown_below hb) (by cases v.ownBlock <;> simp)

theorem OwnS.kept {w w' : World} {B : Nat} {v : Value} {xs : List ByteArray} {row : Option Nat} (h : OwnS w B v xs) (hg : w.grownBy w' row) (hne : v.ownBlock = none ∨ v.ownBlock ≠ row) : OwnS w' B v xs := ⟨h.1, h.2.kept hg hne⟩

theorem OwnS.below {w w' : World} {B : Nat} {v : Value} {xs : List ByteArray} (h : OwnS w B v xs) (hb : Below w.heap.size w w') : OwnS w' B v xs := h.kept (grown_below hb) (by cases v.ownBlock <;> simp)

theorem OwnS.alloc {w : World} {B : Nat} {v : Value} {xs : List ByteArray} (h : OwnS w B v xs) (o : Obj) : OwnS (w.alloc o) B v xs := ⟨h.1, h.2.alloc o⟩
theorem OwnS.drew {w : World} {B : Nat} {v : Value} {xs : List ByteArray} (h : OwnS w B v xs) : OwnS w.drew B v xs := h.below (Below.refl _ _).drew
theorem OwnS.nil (w : World) (B : Nat) : OwnS w B (.slice none 0 0) [] := ⟨by simp, World.ownsRow_nil _ _ _ _⟩

/-- An empty literal. -/
theorem OwnS.empty (w : World) (B : Nat) (hB : B ≤ w.heap.size) : OwnS (w.alloc (.cells #[] 9)) B (.slice (some ⟨w.heap.size, 0, none⟩) 0 0) [] :=
  ⟨by simp, by simpa using World.ownsRow_lit (base := B) (e := 9) (size := 1) w #[] 0 hB (by unfold maxLen; omega) rfl⟩

theorem OwnS.mono {w : World} {B B' : Nat} {v : Value} {xs : List ByteArray} (h : OwnS w B v xs) (hB : B' ≤ B) : OwnS w B' v xs := by
  obtain ⟨h1, h2, h3⟩ := h
  refine ⟨h1, h2, ?_⟩
  rcases h3 with h3 | ⟨g, cap, cur, a, b, c⟩
  · exact .inl h3
  · exact .inr ⟨g, cap, cur, a, Nat.le_trans hB b, c⟩

theorem OwnS.lt {w : World} {B : Nat} {v : Value} {xs : List ByteArray} (h : OwnS w B v xs) : ∀ k, v.ownBlock = some k → B ≤ k ∧ k < w.heap.size := h.2.lt

theorem OwnS.rd {w : World} {B : Nat} {v : Value} {xs : List ByteArray} (h : OwnS w B v xs) : RdS w v xs := by
  refine ⟨h.1, ?_⟩
  have h2 := h.2
  have hlt := h.lt
  rcases h2.2 with ⟨rfl, hn⟩ | ⟨g, cap, cur, rfl, hB, hg, hc, hm, hs, ht⟩
  · have hx : xs = [] := List.eq_nil_of_length_eq_zero hn
    subst hx
    exact ⟨none, 0, rfl, by simp, by simp, fun h0 => by simp at h0⟩
  · refine ⟨_, cap, rfl, hc, hm, fun _ => ⟨g, 0, rfl, (hlt g rfl).2, fun i hi => ?_⟩⟩
    rw [Nat.zero_add, h2.cellAt i (by omega)]
    simp [List.getElem?_map, List.getElem?_eq_getElem hi, List.getD_eq_getElem?_getD]

/-- Two of the call's own, the later one made when the first was there: different blocks. -/
theorem OwnS.ne {w : World} {B : Nat} {v v' : Value} {xs : List ByteArray} (h : OwnS w B v xs) (h' : ∀ k, v'.ownBlock = some k → k < B) : v.ownBlock = none ∨ v.ownBlock ≠ v'.ownBlock := by
  cases hv : v.ownBlock with
  | none => exact .inl rfl
  | some k =>
    refine .inr fun e => ?_
    have := h' k e.symm
    have := (h.lt k hv).1
    omega

theorem OwnS.ne' {w : World} {B : Nat} {v v' : Value} {xs : List ByteArray} (h : OwnS w B v xs) (h' : ∀ k, v'.ownBlock = some k → k < B) : v'.ownBlock = none ∨ v'.ownBlock ≠ v.ownBlock := by
  cases hv : v'.ownBlock with
  | none => exact .inl rfl
  | some k =>
    refine .inr fun e => ?_
    have := h' k hv
    have := (h.lt k e.symm).1
    omega

theorem info_str : (Tryd.prog.info? 9).map (fun i => (i.zero, i.size, i.bytes)) = some (some (.string .empty), 1, 16) := by kernel_rfl

/-- append(s, y), s one of the call's own: it may grow. -/
theorem wpList_appS (w : World) {ops : Array Oper} {rest : List Oper} {o : Oper} {a : Act} {Q : Exit → Act → World → Prop} (hgd : o.guard = none) (s x : Operand)
    (ho : o.op = .call { callee := .builtin .append, args := #[s, x], argTypes := #[36, 36] })
    (B : Nat) (w0 : World) (v : Value) (xs : List ByteArray) (hs : a.eval s = v) (hown : OwnS w B v xs) (hB : Below B w0 w) (hBs : B ≤ w0.heap.size)
    (ad : Addr) (y : ByteArray) (hx : a.eval x = .slice (some ad) 1 1) (hc : w.cell? ad = some (.string y)) (hy : bdS y) (hlen : xs.length < 8796093022207)
    (h : ∀ v' w', OwnS w' B v' (xs ++ [y]) → Below B w0 w' → w.grownBy w' v.ownBlock → wpList Tryd.prog ops Q rest (a.put o.dst v') w') : wpList Tryd.prog ops Q (o :: rest) a w := by
  obtain ⟨i0, hi, hz0, hz1, hz2⟩ := info_parts info_str
  refine wpList_append_own w hgd s x 36 ho B 9 i0 (.string .empty) 1 16 Tryd.underlying36 hi hz0 hz1 hz2 rfl (by decide) v _ _ hs hown.2 ad 1 1 [.string y] hx rfl ?_ ?_ ?_ ?_ ?_ ?_
  · intro j u hu
    match j, hu with
    | 0, hu => simp at hu; subst hu; rw [show ad.add 0 = ad from by obtain ⟨b, o, sp⟩ := ad; cases sp <;> simp [Addr.add]]; exact hc
  · intro u hu; simp at hu; subst hu; rfl
  · unfold maxLen; omega
  · omega
  · exact Nat.le_trans hBs hB.size
  · intro v' w' h1 h2 _
    refine h v' w' ⟨?_, by simpa using h1⟩ (hB.grown h2 (Nat.le_trans hBs hB.size) (fun k hk => (hown.lt k hk).1)) h2
    intro z hz
    rcases List.mem_append.1 hz with hz | hz
    · exact hown.1 z hz
    · simp at hz; subst hz; exact hy

/-- make([]int, n): n zeros. -/
theorem wpList_mkS (w : World) {ops : Array Oper} {rest : List Oper} {o : Oper} {a : Act} {Q : Exit → Act → World → Prop} (hgd : o.guard = none) (l c : Operand)
    (ho : o.op = .makeSlice 36 l c) (n : Nat) (hl : a.eval l = .int .i64 n) (hc : a.eval c = .int .i64 n) (hn : n < 8796093022207)
    (h : ∀ w', OwnS w' w.heap.size (.slice (some ⟨w.heap.size, 0, none⟩) n n) (List.replicate n .empty) → Below w.heap.size w w' → wpList Tryd.prog ops Q rest (a.put o.dst (.slice (some ⟨w.heap.size, 0, none⟩) n n)) w') : wpList Tryd.prog ops Q (o :: rest) a w := by
  obtain ⟨i0, hi, hz0, hz1, hz2⟩ := info_parts info_str
  refine wpList_make_full w hgd l c 36 ho w.heap.size 9 i0 (.string .empty) 1 Tryd.underlying36 hi hz0 hz1 .i64 .i64 n n n hl hc rfl rfl ?_ ?_ (Nat.le_refl _) ?_
  · rw [hz2]; omega
  · unfold maxLen; omega
  · intro w' h1 h2
    refine h w' ⟨fun x hx => ?_, ?_⟩ (below_grown h2)
    · have := List.eq_of_mem_replicate hx; subst this; unfold bdS; decide
    · simpa [Value.cells, toList_madeCells_one] using h1

/-- OwnS cells can be written. -/
theorem OwnS.stored {w : World} {B : Nat} {g n cap : Nat} {xs : List ByteArray} (h : OwnS w B (.slice (some ⟨g, 0, none⟩) n cap) xs) (hn : n = xs.length) (j : Nat) (y : ByteArray) (hy : bdS y) :
    OwnS (w.setCell ⟨g, j, none⟩ (.string y)) B (.slice (some ⟨g, 0, none⟩) n cap) (xs.set j y) ∧ w.grownBy (w.setCell ⟨g, j, none⟩ (.string y)) (some g) := by
  subst hn
  obtain ⟨h1, h2⟩ := h.2.stored j (.string y)
  refine ⟨⟨fun x hx => ?_, by simpa [List.map_set] using h1⟩, h2⟩
  rcases List.mem_or_eq_of_mem_set hx with hx | rfl
  · exact h.1 x hx
  · exact hy

/-- What a store into one of the call's own asks. -/
theorem OwnS.at {w : World} {B : Nat} {g n cap : Nat} {xs : List ByteArray} (h : OwnS w B (.slice (some ⟨g, 0, none⟩) n cap) xs) {k : Nat} (hk : k < xs.length) :
    w.frozen? ⟨g, k, none⟩ = false ∧ ∃ y : ByteArray, xs.getD k .empty = y ∧ w.cell? ⟨g, k, none⟩ = some (.string y) := by
  obtain ⟨hb, h2⟩ := h
  rcases h2.2 with ⟨e, hn⟩ | ⟨g', cap', cur, e, hB, hg, hc, hm, hs, ht⟩
  · cases e
  · have e' := e
    simp only [Value.slice.injEq, Option.some.injEq, Addr.mk.injEq, and_true] at e'
    obtain ⟨e1, e2, e3⟩ := e'
    subst e1 e2 e3
    refine ⟨h2.frozenAt k, _, rfl, ?_⟩
    rw [h2.cellAt k (by omega)]
    simp [List.getElem?_map, List.getElem?_eq_getElem hk, List.getD_eq_getElem?_getD]

/-- One of the call's own: nil, or the head of a block. -/
theorem OwnS.open {w : World} {B : Nat} {v : Value} {xs : List ByteArray} (h : OwnS w B v xs) : ∃ a cap n, v = .slice a n cap ∧ Hid (xs.length = n) ∧ n ≤ cap ∧ cap ≤ 9223372036854775807 ∧
    ∀ k, k < n → ∃ g, a = some ⟨g, 0, none⟩ ∧ B ≤ g ∧ g < w.heap.size := by
  obtain ⟨hb, h2⟩ := h
  rcases h2.2 with ⟨rfl, hn⟩ | ⟨g, cap, cur, rfl, hB, hg, hc, hm, hs, ht⟩
  · exact ⟨none, 0, 0, rfl, hn, by omega, by omega, fun k hk => by omega⟩
  · unfold maxLen at hm
    exact ⟨_, cap, _, rfl, Lib.hid rfl, hc, by omega, fun k hk => ⟨g, rfl, hB, (h2.lt g rfl).2⟩⟩

theorem OwnS.dN {w : World} {B : Nat} {v : Value} {xs : List ByteArray} (h : OwnS w B v xs) (n : Nat) : OwnS (w.drewN n) B v xs := h.below (below_dN (Below.refl _ _) _)
theorem cellS_dN (w : World) (n : Nat) (v : Value) (e : TypeId) : ((w.drewN n).alloc (.cells #[v] e)).cell? ⟨w.heap.size, 0, none⟩ = some v := by
  show ((w.drewN n).alloc (.cells #[v] e)).cell? ⟨(w.drewN n).heap.size, 0, none⟩ = some v
  rw [World.cell?_alloc_at _ _ _ _ rfl]; rfl

/-- append(s, y), and where the new slice lies. -/
theorem wpList_appS2 (w : World) {ops : Array Oper} {rest : List Oper} {o : Oper} {a : Act} {Q : Exit → Act → World → Prop} (hgd : o.guard = none) (s x : Operand)
    (ho : o.op = .call { callee := .builtin .append, args := #[s, x], argTypes := #[36, 36] })
    (B : Nat) (w0 : World) (v : Value) (xs : List ByteArray) (hs : a.eval s = v) (hown : OwnS w B v xs) (hB : Below B w0 w) (hBs : B ≤ w0.heap.size)
    (ad : Addr) (y : ByteArray) (hx : a.eval x = .slice (some ad) 1 1) (hc : w.cell? ad = some (.string y)) (hy : bdS y) (hlen : xs.length < 8796093022207)
    (h : ∀ v' w', OwnS w' B v' (xs ++ [y]) → Below B w0 w' → w.grownBy w' v.ownBlock → (v'.ownBlock = v.ownBlock ∨ v'.ownBlock = some w.heap.size) → wpList Tryd.prog ops Q rest (a.put o.dst v') w') : wpList Tryd.prog ops Q (o :: rest) a w := by
  obtain ⟨i0, hi, hz0, hz1, hz2⟩ := info_parts info_str
  refine wpList_append_own_at w hgd s x 36 ho B 9 i0 (.string .empty) 1 16 Tryd.underlying36 hi hz0 hz1 hz2 rfl (by decide) v _ _ hs hown.2 ad 1 1 [.string y] hx rfl ?_ ?_ ?_ ?_ ?_ ?_
  · intro j u hu
    match j, hu with
    | 0, hu => simp at hu; subst hu; rw [show ad.add 0 = ad from by obtain ⟨b, o, sp⟩ := ad; cases sp <;> simp [Addr.add]]; exact hc
  · intro u hu; simp at hu; subst hu; rfl
  · unfold maxLen; omega
  · omega
  · exact Nat.le_trans hBs hB.size
  · intro v' w' h1 h2 _ h4
    refine h v' w' ⟨?_, by simpa using h1⟩ (hB.grown h2 (Nat.le_trans hBs hB.size) (fun k hk => (hown.lt k hk).1)) h2 h4
    intro z hz
    rcases List.mem_append.1 hz with hz | hz
    · exact hown.1 z hz
    · simp at hz; subst hz; exact hy
theorem Apart.stepS {w : World} {B : Nat} {u v v' : Value} {xs : List ByteArray} {n : Nat} (h : Apart u v) (ho : OwnS w B u xs) (hn : w.heap.size ≤ n) (hat : v'.ownBlock = v.ownBlock ∨ v'.ownBlock = some n) : Apart u v' := by
  rcases hat with e | e
  · rcases h with h | h | h
    · exact .inl h
    · exact .inr (.inl (e.trans h))
    · exact .inr (.inr (by rw [e]; exact h))
  · cases hu : u.ownBlock with
    | none => exact .inl hu
    | some k =>
      have := (ho.lt k hu).2
      exact .inr (.inr (by rw [hu, e]; simp; omega))


end Go.Proofs.YtjogaoocjcofdaaDoor
