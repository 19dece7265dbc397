/- Splitting and joining: the plain laws; the library's Split in these words. -/
import Derived.Test.YtjogaoocjcofdaaDoorSpl
import Derived.Test.YtjogaoocjcofdaaDoorJon
namespace Go.Proofs.YtjogaoocjcofdaaDoor
open Go.RowKit

theorem spA_app (c : UInt8) : ∀ (x cur l : List UInt8), c ∉ x → spA c cur (x ++ l) = spA c (cur ++ x) l := by
  intro x
  induction x with
  | nil => intro cur l _; simp
  | cons b x ih =>
    intro cur l h
    have hb : ¬ b = c := fun e => h (by rw [e]; exact List.mem_cons_self ..)
    rw [List.cons_append, spA, if_neg hb, ih _ _ (fun e => h (List.mem_cons_of_mem _ e))]
    simp
theorem spA_sep (c : UInt8) (cur l : List UInt8) : spA c cur (c :: l) = cur :: spA c [] l := by rw [spA, if_pos rfl]
theorem spA_all (c : UInt8) (x : List UInt8) (h : c ∉ x) : spA c [] x = [x] := by
  have := spA_app c x [] [] h
  rw [List.append_nil, List.nil_append] at this
  rw [this, spA]
theorem spA_join (c : UInt8) : ∀ (r : List (List UInt8)) (x : List UInt8), (∀ y ∈ x :: r, c ∉ y) → spA c [] (x ++ Lib.joinTail [c] r) = x :: r := by
  intro r
  induction r with
  | nil => intro x h; rw [show Lib.joinTail [c] [] = [] from rfl, List.append_nil]; exact spA_all c x (h x (List.mem_cons_self ..))
  | cons y r ih =>
    intro x h
    have e : Lib.joinTail [c] (y :: r) = c :: (y ++ Lib.joinTail [c] r) := by simp [Lib.joinTail]
    rw [e, spA_app c x [] _ (h x (List.mem_cons_self ..)), List.nil_append, spA_sep, ih y fun z hz => h z (List.mem_cons_of_mem _ hz)]
theorem spA_ne (c : UInt8) : ∀ (l cur : List UInt8), spA c cur l ≠ [] := by
  intro l
  induction l with
  | nil => intro cur; simp [spA]
  | cons b r ih => intro cur; unfold spA; split <;> simp [ih]
theorem join_cc (x : List UInt8) {z : List (List UInt8)} (sep : List UInt8) (h : z ≠ []) : Lib.join (x :: z) sep = x ++ sep ++ Lib.join z sep := by
  cases z with
  | nil => exact absurd rfl h
  | cons y r => rw [Lib.join_cons, Lib.join_cons]; simp [Lib.joinTail]
/-- Joining what was split. -/
theorem join_spA (c : UInt8) : ∀ (l cur : List UInt8), Lib.join (spA c cur l) [c] = cur ++ l := by
  intro l
  induction l with
  | nil => intro cur; simp [spA, Lib.join_one]
  | cons b r ih =>
    intro cur
    unfold spA
    split
    · rename_i e; subst e; rw [join_cc _ _ (spA_ne _ _ _), ih]; simp
    · rw [ih]; simp
theorem ba_map (l : List (List UInt8)) : (l.map ba).map (fun s : ByteArray => s.data.toList) = l := by
  rw [List.map_map]
  have e : ((fun s : ByteArray => s.data.toList) ∘ ba) = id := by funext x; simp [ba]
  rw [e, List.map_id]
theorem map_ba (l : List ByteArray) : (l.map (fun s : ByteArray => s.data.toList)).map ba = l := by
  rw [List.map_map]
  have e : (ba ∘ (fun s : ByteArray => s.data.toList)) = id := by funext x; simp [ba]
  rw [e, List.map_id]
theorem jn_spT (c : UInt8) (s : ByteArray) : jnT (spT c s) ⟨#[c]⟩ = s := by
  show (⟨(Lib.join ((spT c s).map (·.data.toList)) [c]).toArray⟩ : ByteArray) = s
  unfold spT
  rw [ba_map, join_spA, List.nil_append]
theorem sp_jnT (c : UInt8) (xs : List ByteArray) (h0 : xs ≠ []) (h : ∀ x ∈ xs, c ∉ x.data.toList) : spT c (jnT xs ⟨#[c]⟩) = xs := by
  show ((spA c [] (Lib.join (xs.map (·.data.toList)) [c])).map ba) = xs
  cases xs with
  | nil => exact absurd rfl h0
  | cons x r =>
    rw [List.map_cons, Lib.join_cons, spA_join c _ _ fun y hy => ?_, ← List.map_cons (f := fun s : ByteArray => s.data.toList), map_ba]
    rw [← List.map_cons (f := fun s : ByteArray => s.data.toList)] at hy
    obtain ⟨z, hz, rfl⟩ := List.mem_map.1 hy
    exact h z hz

/-- The first place of one byte. -/
theorem index_one (c : UInt8) : ∀ l : List UInt8, (Lib.index l [c] = -1 ∧ c ∉ l) ∨ ∃ x r, l = x ++ c :: r ∧ c ∉ x ∧ Lib.index l [c] = (x.length : Int) := by
  intro l
  induction l with
  | nil => exact .inl ⟨by simp [Lib.index], by simp⟩
  | cons b l ih =>
    by_cases hb : c = b
    · subst hb
      exact .inr ⟨[], l, rfl, by simp, by simp [Lib.index]⟩
    · have hp : ¬ ([c] : List UInt8).isPrefixOf (b :: l) = true := by simp [List.isPrefixOf, hb]
      rcases ih with ⟨h1, h2⟩ | ⟨x, r, rfl, h2, h3⟩
      · exact .inl ⟨by rw [Lib.index, if_neg hp, h1]; rfl, by simp [hb, h2]⟩
      · refine .inr ⟨b :: x, r, rfl, by simp [hb, h2], ?_⟩
        rw [Lib.index, if_neg hp, h3, if_neg (by rw [beq_iff_eq]; omega), List.length_cons]
        omega
theorem split_spT (c : UInt8) : ∀ (k : Nat) (s : ByteArray), Lib.countB s ⟨#[c]⟩ = k → Lib.splitB ⟨#[c]⟩ 0 k s = spT c s := by
  intro k
  induction k with
  | zero =>
    intro s hk
    rcases index_one c s.data.toList with ⟨h1, h2⟩ | ⟨x, r, e, h2, h3⟩
    · rw [Lib.splitB_zero]
      unfold spT
      rw [spA_all c _ h2, List.map_cons, List.map_nil, ba_list]
    · have := Lib.countB_hit s ⟨#[c]⟩ x.length (Nat.le_refl 1) h3
      omega
  | succ k ih =>
    intro s hk
    rcases index_one c s.data.toList with ⟨h1, h2⟩ | ⟨x, r, e, h2, h3⟩
    · have := Lib.countB_miss s ⟨#[c]⟩ h1
      omega
    · have hc := Lib.countB_hit s ⟨#[c]⟩ x.length (Nat.le_refl 1) h3
      rw [Lib.splitB_hit _ _ _ _ _ h3]
      have e1 : s.extract 0 (x.length + 0) = ba x := by
        apply ByteArray.ext; apply Array.ext'
        rw [ByteArray.data_extract, Array.toList_extract, List.extract_eq_take_drop, e]
        simp [ba]
      have e2 : s.extract (x.length + (⟨#[c]⟩ : ByteArray).size) s.size = ba r := by
        apply ByteArray.ext; apply Array.ext'
        rw [ByteArray.data_extract, Array.toList_extract, List.extract_eq_take_drop, ← size_list, e]
        show ((x ++ c :: r).drop (x.length + 1)).take _ = r
        rw [List.drop_append, List.drop_eq_nil_of_le (by omega), List.nil_append, Nat.add_sub_cancel_left, List.drop_succ_cons, List.drop_zero, List.take_of_length_le]
        have hz : (⟨#[c]⟩ : ByteArray).size = 1 := rfl
        simp; omega
      rw [e1, e2, ih (ba r) (by rw [← e2]; omega)]
      unfold spT
      rw [e, spA_app c x [] _ h2, List.nil_append, spA_sep, List.map_cons]
      simp [ba]

/-- One of the call's own, opened at a place. -/
theorem OwnS.cellsAt {w : World} {B : Nat} {a : Option Addr} {n cap : Nat} {xs : List ByteArray} (h : OwnS w B (.slice a n cap) xs) (k : Nat) (hk : k < n) :
    ∃ b off, a = some ⟨b, off, none⟩ ∧ b < w.heap.size ∧ ∃ x, Hid (xs.getD k .empty = x) ∧ bdS x ∧ w.cell? ⟨b, off + k, none⟩ = some (.string x) := by
  obtain ⟨a', cap', n', e, HN, _, _, _, hcell⟩ := h.rd.open
  cases e
  exact hcell k hk
theorem OwnS.ofAlloc (w : World) (xs : List ByteArray) (h : ∀ x ∈ xs, bdS x) (hl : xs.length ≤ maxLen) : OwnS (w.alloc (.cells (xs.map Value.string).toArray 9)) w.heap.size (.slice (some ⟨w.heap.size, 0, none⟩) xs.length xs.length) xs :=
  ⟨h, by simpa using World.ownsRow_lit (base := w.heap.size) (e := 9) (size := 1) w (xs.map Value.string).toArray xs.length (Nat.le_refl _) hl (by simp)⟩
theorem spT_bd {c : UInt8} {s : ByteArray} (hs : s.size ≤ 1048576) : ∀ x ∈ spT c s, x.size ≤ 1048576 := by
  have h : ∀ (l cur : List UInt8), ∀ y ∈ spA c cur l, y.length ≤ cur.length + l.length := by
    intro l
    induction l with
    | nil => intro cur y hy; simp [spA] at hy; subst hy; simp
    | cons b r ih =>
      intro cur y hy
      unfold spA at hy
      split at hy
      · rcases List.mem_cons.1 hy with rfl | hy
        · simp
        · have := ih [] y hy; simp at this ⊢; omega
      · have := ih (cur ++ [b]) y hy; simp at this ⊢; omega
  intro x hx
  obtain ⟨y, hy, rfl⟩ := List.mem_map.1 hx
  have := h _ _ y hy
  rw [size_list] at this
  have e : (ba y).size = y.length := by simp [ba, ByteArray.size]
  rw [e]
  simp at this; omega

theorem some_below {w w' : World} {g : Nat} (h : ∃ m, w.cell? ⟨g, 0, none⟩ = some (.int .i64 m)) (hb : Below w.heap.size w w') :
    ∃ m, w'.cell? ⟨g, 0, none⟩ = some (.int .i64 m) := by
  obtain ⟨m, e⟩ := h
  exact ⟨m, by rw [hb.cell (World.block_lt_of_cell? w _ e)]; exact e⟩

theorem c_Split (s : ByteArray) (c : UInt8) (w : World) (hs : s.size ≤ 1048576) (hm : ∃ m, w.cell? ⟨2, 0, none⟩ = some (.int .i64 m)) :
    Calls Tryd.prog 42 #[.string s, .string ⟨#[c]⟩] w fun e w' => ∃ v, e = .returned v ∧ OwnS w' w.heap.size v (spT c s) ∧ Below w.heap.size w w' := by
  obtain ⟨m, hm⟩ := hm
  refine (Tryd.strings_Split s ⟨#[c]⟩ m w (by omega) hm (Nat.le_refl 1)).mono ?_
  rintro e w' ⟨rfl, rfl⟩
  have e1 := split_spT c _ s rfl
  have e2 := Lib.splitB_all (⟨#[c]⟩ : ByteArray) (Nat.le_refl 1) 0 _ s rfl
  rw [e1] at e2
  have hl := spT_len c s
  have ho := OwnS.ofAlloc w (spT c s) (fun x hx => by have := spT_bd hs x hx; unfold bdS; omega) (by unfold maxLen; omega)
  rw [← e2, e1]
  exact ⟨_, rfl, ho, (Below.refl _ _).alloc (Nat.le_refl _) _⟩

end Go.Proofs.YtjogaoocjcofdaaDoor
