/- append of a slice that reads as a list to one of the call's own. -/
import Derived.Test.YtdffcgfllpeppaaCopy
namespace Go.Proofs.Ytdffcgfllpeppaa
open Go.RowKit

/-- append(s, xs...), s one of the call's own, xs read. -/
theorem wpList_appX (w : World) {ops : Array Oper} {rest : List Oper} {o : Oper} {a : Act} {Q : Exit → Act → World → Prop} (hgd : o.guard = none) (s x : Operand)
    (ho : o.op = .call { callee := .builtin .append, args := #[s, x], argTypes := #[22, 22] })
    (B : Nat) (w0 : World) (v : Value) (xs : List Int) (hs : a.eval s = v) (hown : Own w B v xs) (hB : Below B w0 w) (hBs : B ≤ w0.heap.size)
    (b off n cap : Nat) (ys : List Int) (hx : a.eval x = .slice (some ⟨b, off, none⟩) n cap) (hrd : Rd w (.slice (some ⟨b, off, none⟩) n cap) ys) (hn : Hid (ys.length = n)) (hn0 : 0 < n) (hlen : xs.length + n < 17592186044415)
    (h : ∀ v' w', Own w' B v' (xs ++ ys) → Below B w0 w' → w.grownBy w' v.ownBlock → wpList Try.prog ops Q rest (a.put o.dst v') w') : wpList Try.prog ops Q (o :: rest) a w := by
  obtain ⟨i0, hi, hz0, hz1, hz2⟩ := info_parts info_int
  have hn' : ys.length = n := hn
  refine wpList_append_own w hgd s x 22 ho B 3 i0 (.int .i64 0) 1 8 Try.underlying22 hi hz0 hz1 hz2 rfl (by decide) v _ _ hs hown.2 ⟨b, off, none⟩ n cap (ys.map (Value.int .i64)) hx (by simp [hn']) ?_ ?_ ?_ ?_ ?_ ?_
  · intro j u hu
    obtain ⟨_, a', cap', e, _, _, hcell⟩ := hrd
    cases e
    obtain ⟨b', off', e', _, hcell⟩ := hcell (by omega)
    cases e'
    rw [List.getElem?_map] at hu
    obtain ⟨y, hy, rfl⟩ := Option.map_eq_some_iff.1 hu
    have hj : j < ys.length := (List.getElem?_eq_some_iff.1 hy).1
    have hadd : (⟨b, off, none⟩ : Addr).add j = ⟨b, off + j, none⟩ := by unfold Addr.add; split <;> simp_all
    rw [hadd, hcell j hj, List.getD_eq_getElem?_getD, hy]; rfl
  · intro u hu
    obtain ⟨y, _, rfl⟩ := List.mem_map.1 hu
    rfl
  · unfold maxLen; omega
  · omega
  · exact Nat.le_trans hBs hB.size
  · intro v' w' h1 h2 _
    refine h v' w' ⟨?_, by simpa [hn'] using h1⟩ (hB.grown h2 (Nat.le_trans hBs hB.size) (fun k hk => (hown.lt k hk).1)) h2
    intro z hz
    rcases List.mem_append.1 hz with hz | hz
    · exact hown.1 z hz
    · exact hrd.1 z hz

end Go.Proofs.Ytdffcgfllpeppaa
