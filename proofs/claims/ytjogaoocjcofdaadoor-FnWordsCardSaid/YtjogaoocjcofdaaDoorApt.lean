/- Two slices of the call's own that lie apart; append with the place of its result. -/
import Derived.Test.YtjogaoocjcofdaaDoorCopy
import Derived.Maps.AppendAt
import Derived.Deep.RegionLaw
namespace Go.Proofs.YtjogaoocjcofdaaDoor
open Go.RowKit

/-- Two slices of the call's own that lie apart. -/
def Apart (u v : Value) : Prop := u.ownBlock = none ∨ v.ownBlock = none ∨ u.ownBlock ≠ v.ownBlock
theorem Apart.ne {u v : Value} (h : Apart u v) : u.ownBlock = none ∨ u.ownBlock ≠ v.ownBlock := by
  rcases h with h | h | h
  · exact .inl h
  · cases hu : u.ownBlock with
    | none => exact .inl rfl
    | some k => exact .inr (by rw [h]; simp)
  · exact .inr h
theorem Apart.symm {u v : Value} (h : Apart u v) : Apart v u := by
  rcases h with h | h | h
  · exact .inr (.inl h)
  · exact .inl h
  · exact .inr (.inr (Ne.symm h))
theorem Own.dN {w : World} {B : Nat} {v : Value} {xs : List Int} (h : Own w B v xs) (n : Nat) : Own (w.drewN n) B v xs := h.below (below_dN (Below.refl _ _) _)
theorem Apart.step {w : World} {B : Nat} {u v v' : Value} {xs : List Int} {n : Nat} (h : Apart u v) (ho : Own w B u xs) (hn : w.heap.size ≤ n) (hat : v'.ownBlock = v.ownBlock ∨ v'.ownBlock = some n) : Apart u v' := by
  rcases hat with e | e
  · rcases h with h | h | h
    · exact .inl h
    · exact .inr (.inl (e.trans h))
    · exact .inr (.inr (by rw [e]; exact h))
  · cases hu : u.ownBlock with
    | none => exact .inl hu
    | some k =>
      have := (ho.lt k hu).2
      exact .inr (.inr (by rw [hu, e]; simp; omega))

theorem cell_dN (w : World) (n : Nat) (v : Value) (e : TypeId) : ((w.drewN n).alloc (.cells #[v] e)).cell? ⟨w.heap.size, 0, none⟩ = some v := by
  show ((w.drewN n).alloc (.cells #[v] e)).cell? ⟨(w.drewN n).heap.size, 0, none⟩ = some v
  rw [World.cell?_alloc_at _ _ _ _ rfl]; rfl

/-- append(s, y), and where the new slice lies. -/
theorem wpList_app2 (w : World) {ops : Array Oper} {rest : List Oper} {o : Oper} {a : Act} {Q : Exit → Act → World → Prop} (hgd : o.guard = none) (s x : Operand)
    (ho : o.op = .call { callee := .builtin .append, args := #[s, x], argTypes := #[24, 24] })
    (B : Nat) (w0 : World) (v : Value) (xs : List Int) (hs : a.eval s = v) (hown : Own w B v xs) (hB : Below B w0 w) (hBs : B ≤ w0.heap.size)
    (ad : Addr) (y : Int) (hx : a.eval x = .slice (some ad) 1 1) (hc : w.cell? ad = some (.int .i64 y)) (hy : bd y) (hlen : xs.length < 17592186044415)
    (h : ∀ v' w', Own w' B v' (xs ++ [y]) → Below B w0 w' → w.grownBy w' v.ownBlock → (v'.ownBlock = v.ownBlock ∨ v'.ownBlock = some w.heap.size) → wpList Tryd.prog ops Q rest (a.put o.dst v') w') : wpList Tryd.prog ops Q (o :: rest) a w := by
  obtain ⟨i0, hi, hz0, hz1, hz2⟩ := info_parts info_int
  refine wpList_append_own_at w hgd s x 24 ho B 3 i0 (.int .i64 0) 1 8 Tryd.underlying24 hi hz0 hz1 hz2 rfl (by decide) v _ _ hs hown.2 ad 1 1 [.int .i64 y] hx rfl ?_ ?_ ?_ ?_ ?_ ?_
  · intro j u hu
    match j, hu with
    | 0, hu => simp at hu; subst hu; rw [show ad.add 0 = ad from by obtain ⟨b, o, sp⟩ := ad; cases sp <;> simp [Addr.add]]; exact hc
  · intro u hu; simp at hu; subst hu; rfl
  · unfold maxLen; omega
  · omega
  · exact Nat.le_trans hBs hB.size
  · intro v' w' h1 h2 _ h4
    refine h v' w' ⟨?_, by simpa using h1⟩ (hB.grown h2 (Nat.le_trans hBs hB.size) (fun k hk => (hown.lt k hk).1)) h2 h4
    intro z hz
    rcases List.mem_append.1 hz with hz | hz
    · exact hown.1 z hz
    · simp at hz; subst hz; exact hy

/-- append(s, ys...), s one of the call's own, ys read, and where the new slice lies. -/
theorem wpList_appX2 (w : World) {ops : Array Oper} {rest : List Oper} {o : Oper} {a : Act} {Q : Exit → Act → World → Prop} (hgd : o.guard = none) (s x : Operand)
    (ho : o.op = .call { callee := .builtin .append, args := #[s, x], argTypes := #[24, 24] })
    (B : Nat) (w0 : World) (v : Value) (xs : List Int) (hs : a.eval s = v) (hown : Own w B v xs) (hB : Below B w0 w) (hBs : B ≤ w0.heap.size)
    (b off n cap : Nat) (ys : List Int) (hx : a.eval x = .slice (some ⟨b, off, none⟩) n cap) (hrd : Rd w (.slice (some ⟨b, off, none⟩) n cap) ys) (hn : Hid (ys.length = n)) (hlen : xs.length + n < 17592186044415)
    (h : ∀ v' w', Own w' B v' (xs ++ ys) → Below B w0 w' → w.grownBy w' v.ownBlock → (v'.ownBlock = v.ownBlock ∨ v'.ownBlock = some w.heap.size) → wpList Tryd.prog ops Q rest (a.put o.dst v') w') : wpList Tryd.prog ops Q (o :: rest) a w := by
  obtain ⟨i0, hi, hz0, hz1, hz2⟩ := info_parts info_int
  have hn' : ys.length = n := hn
  refine wpList_append_own_at w hgd s x 24 ho B 3 i0 (.int .i64 0) 1 8 Tryd.underlying24 hi hz0 hz1 hz2 rfl (by decide) v _ _ hs hown.2 ⟨b, off, none⟩ n cap (ys.map (Value.int .i64)) hx (by simp [hn']) ?_ ?_ ?_ ?_ ?_ ?_
  · intro j u hu
    obtain ⟨_, a', cap', e, _, _, hcell⟩ := hrd
    rw [List.getElem?_map] at hu
    obtain ⟨y, hy, rfl⟩ := Option.map_eq_some_iff.1 hu
    have hj : j < ys.length := (List.getElem?_eq_some_iff.1 hy).1
    cases e
    obtain ⟨b', off', e', _, hcell⟩ := hcell (by omega)
    cases e'
    have hadd : (⟨b, off, none⟩ : Addr).add j = ⟨b, off + j, none⟩ := by unfold Addr.add; split <;> simp_all
    rw [hadd, hcell j hj, List.getD_eq_getElem?_getD, hy]; rfl
  · intro u hu
    obtain ⟨y, _, rfl⟩ := List.mem_map.1 hu
    rfl
  · unfold maxLen; omega
  · omega
  · exact Nat.le_trans hBs hB.size
  · intro v' w' h1 h2 _ h4
    refine h v' w' ⟨?_, by simpa [hn'] using h1⟩ (hB.grown h2 (Nat.le_trans hBs hB.size) (fun k hk => (hown.lt k hk).1)) h2 h4
    intro z hz
    rcases List.mem_append.1 hz with hz | hz
    · exact hown.1 z hz
    · exact hrd.1 z hz

/-- At a step of a region that draws: append(s, ys...), s one of the call's own, ys read, and where the new slice lies. -/
theorem step_appX2 (w : World) {ops : Array Oper} {o : Oper} {a : Act} {K : Act → World → Prop} {Q : Exit → Act → World → Prop} {E : Prop} (hgd : o.guard = none) (s x : Operand)
    (ho : o.op = .call { callee := .builtin .append, args := #[s, x], argTypes := #[24, 24] })
    (B : Nat) (w0 : World) (v : Value) (xs : List Int) (hs : a.eval s = v) (hown : Own w B v xs) (hB : Below B w0 w) (hBs : B ≤ w0.heap.size)
    (b off n cap : Nat) (ys : List Int) (hx : a.eval x = .slice (some ⟨b, off, none⟩) n cap) (hrd : Rd w (.slice (some ⟨b, off, none⟩) n cap) ys) (hn : Hid (ys.length = n)) (hlen : xs.length + n < 17592186044415)
    (h : ∀ v' w', Own w' B v' (xs ++ ys) → Below B w0 w' → w.grownBy w' v.ownBlock → (v'.ownBlock = v.ownBlock ∨ v'.ownBlock = some w.heap.size) → K (a.put o.dst v') w') : if Region.wanted o (yielded ops a.tmps) = true then Oper.wp Tryd.prog o a w K Q else E := by
  obtain ⟨i0, hi, hz0, hz1, hz2⟩ := info_parts info_int
  have hn' : ys.length = n := hn
  have hw : Region.wanted o (yielded ops a.tmps) = true := by simp [Region.wanted, hgd]
  rw [if_pos hw]
  have hnews : ∀ j u, (ys.map (Value.int .i64))[j]? = some u → w.cell? ((⟨b, off, none⟩ : Addr).add j) = some u := by
    intro j u hu
    obtain ⟨_, a', cap', e, _, _, hcell⟩ := hrd
    rw [List.getElem?_map] at hu
    obtain ⟨y, hy, rfl⟩ := Option.map_eq_some_iff.1 hu
    have hj : j < ys.length := (List.getElem?_eq_some_iff.1 hy).1
    cases e
    obtain ⟨b', off', e', _, hcell⟩ := hcell (by omega)
    cases e'
    have hadd : (⟨b, off, none⟩ : Addr).add j = ⟨b, off + j, none⟩ := by unfold Addr.add; split <;> simp_all
    rw [hadd, hcell j hj, List.getD_eq_getElem?_getD, hy]; rfl
  have h1c : ∀ u ∈ ys.map (Value.int .i64), u.oneCell' = true := by
    intro u hu
    obtain ⟨y, _, rfl⟩ := List.mem_map.1 hu
    rfl
  obtain ⟨v', w', hr, h2, h3, -, h5⟩ := run_append_own_at (P := Tryd.prog) w B 24 o.type 3 i0 (.int .i64 0) 1 8 Tryd.underlying24 hi hz0 hz1 hz2 rfl (by decide) v _ _ hown.2 ⟨b, off, none⟩ n cap (ys.map (Value.int .i64)) (by simp [hn']) hnews h1c (by unfold maxLen; omega) (by omega) (Nat.le_trans hBs hB.size)
  unfold Oper.wp execOp
  simp only [ho, resolve, invoke, builtin, Sem.run_bind, Sem.run_pure, Result.andThen_ok, List.map_toArray, List.map_cons, List.map_nil, hs, hx, hr]
  refine h v' w' ⟨?_, by simpa [hn'] using h2⟩ (hB.grown h3 (Nat.le_trans hBs hB.size) (fun k hk => (hown.lt k hk).1)) h3 h5
  intro z hz
  rcases List.mem_append.1 hz with hz | hz
  · exact hown.1 z hz
  · exact hrd.1 z hz

end Go.Proofs.YtjogaoocjcofdaaDoor
