/- The draws of the laws: a cursor over the code's bytes, and the numbers that are made of it. -/
import Derived.Test.YtjogaoocjcofdaaDoorCopy
import Derived.Laws.BitsLemmas
import Derived.WalkSpells
namespace Go.Proofs.YtjogaoocjcofdaaDoor
open Go.RowKit

/-- A row of n bytes that came in, below the block B. -/
def RdU (w : World) (B : Nat) (a : Option Addr) (n cap : Nat) : Prop :=
  B ≤ w.heap.size ∧ n ≤ cap ∧ cap ≤ 9223372036854775807 ∧ ∀ k, k < n → ∃ b off, a = some ⟨b, off, none⟩ ∧ b < B ∧ ∃ x : Int, 0 ≤ x ∧ x ≤ 255 ∧ w.cell? ⟨b, off + k, none⟩ = some (.int .u8 x)

theorem rdu_came {w : World} {a : Option Addr} {len cap : Nat} {zs : List Int}
    (h : (a = none ∧ len = 0 ∧ cap = 0 ∧ zs = []) ∨ ∃ x, a = some x ∧ len ≤ cap ∧ cap ≤ maxLen ∧ zs.length = cap ∧ (∀ i, i < zs.length → w.cell? (x.add i) = some (.int .u8 (zs.getD i 0))) ∧ ∀ n ∈ zs, (Lit.int .u8 n).wf = true) :
    RdU w w.heap.size a len cap := by
  rcases h with ⟨rfl, rfl, rfl, rfl⟩ | ⟨x, rfl, hl, hm, hz, hcell, hwf⟩
  · exact ⟨Nat.le_refl _, Nat.le_refl _, by omega, fun k hk => by omega⟩
  · unfold maxLen at hm
    refine ⟨Nat.le_refl _, hl, by omega, fun k hk => ?_⟩
    have h00 := hcell 0 (by omega)
    obtain ⟨b, off, spot⟩ := x
    have hspot : spot = none := by simpa [Addr.add] using World.cell?_spot h00
    subst hspot
    have hk2 := hcell k (by omega)
    have hlt : b < w.heap.size := by
      have := World.block_lt_of_cell? w _ h00
      simpa [Addr.add] using this
    have hb := bounds_u8 (hwf (zs.getD k 0) (getD_mem (by omega)))
    refine ⟨b, off, rfl, hlt, zs.getD k 0, hb.1, hb.2, ?_⟩
    rw [← hk2]
    congr 1
    unfold Addr.add
    split <;> simp_all

theorem RdU.grown {w w' : World} {B : Nat} {a : Option Addr} {n cap : Nat} {row : Option Nat} (h : RdU w B a n cap) (hg : w.grownBy w' row) (hr : ∀ k, row = some k → B ≤ k) : RdU w' B a n cap := by
  obtain ⟨h1, h2, h3, h4⟩ := h
  refine ⟨Nat.le_trans h1 hg.size, h2, h3, fun k hk => ?_⟩
  obtain ⟨b, off, rfl, hb, x, hx0, hx1, hc⟩ := h4 k hk
  refine ⟨b, off, rfl, hb, x, hx0, hx1, ?_⟩
  rw [World.cell?_of_block (w := w) (hg.block b (by omega) (fun e => by have := hr b e.symm; omega))]
  exact hc
theorem RdU.below {w w' : World} {B : Nat} {a : Option Addr} {n cap : Nat} (h : RdU w B a n cap) (hb : Below w.heap.size w w') : RdU w' B a n cap := h.grown (grown_below hb) (fun _ e => by cases e)

/-- The cursor at the block g, over that row. -/
def Cur (w : World) (B g : Nat) (a : Option Addr) (n cap : Nat) : Prop :=
  RdU w B a n cap ∧ B ≤ g ∧ g < w.heap.size ∧ w.cell? ⟨g, 0, none⟩ = some (.slice a n cap) ∧ (∃ k : Nat, k ≤ n ∧ w.cell? ⟨g, 1, none⟩ = some (.int .i64 k)) ∧ (∃ h : Int, w.cell? ⟨g, 2, none⟩ = some (.int .i64 h)) ∧ w.frozen? ⟨g, 1, none⟩ = false ∧ w.frozen? ⟨g, 2, none⟩ = false

theorem and255 (y : Int) : 0 ≤ bits .and .i64 y 255 ∧ bits .and .i64 y 255 ≤ 255 := by
  have h1 : (BitVec.ofInt 64 y &&& BitVec.ofInt 64 255).toNat ≤ 255 := by
    rw [BitVec.toNat_and]
    exact Nat.and_le_right
  show 0 ≤ IntKind.i64.wrap ((BitVec.ofInt 64 y &&& BitVec.ofInt 64 255).toNat : Int) ∧ IntKind.i64.wrap ((BitVec.ofInt 64 y &&& BitVec.ofInt 64 255).toNat : Int) ≤ 255
  generalize (BitVec.ofInt 64 y &&& BitVec.ofInt 64 255).toNat = m at *
  rw [IntKind.wrap_i64]
  omega

theorem ne_spot {g i j : Nat} (h : i ≠ j) : (⟨g, i, none⟩ : Addr) ≠ ⟨g, j, none⟩ := by intro e; cases e; exact h rfl
theorem cell_apart (w : World) (g i j : Nat) (v : Value) (h : i ≠ j) : (w.setCell ⟨g, i, none⟩ v).cell? ⟨g, j, none⟩ = w.cell? ⟨g, j, none⟩ := by
  first | exact World.cell?_setCell_other _ _ _ (ne_spot h) | exact World.cell?_setCell_other _ _ _ _ (ne_spot h) | exact World.cell?_setCell_other _ _ (ne_spot h)
theorem grown_cell (w : World) (g j : Nat) (v : Value) : w.grownBy (w.setCell ⟨g, j, none⟩ v) (some g) :=
  ⟨rfl, rfl, rfl, by simp, fun i hi hne => by
    have : (⟨g, j, none⟩ : Addr).block ≠ i := by intro e; subst e; exact hne rfl
    simp [World.setCell, Array.getElem?_modify, this]⟩
theorem Cur.set2 {w : World} {B g : Nat} {a : Option Addr} {n cap : Nat} (h : Cur w B g a n cap) (H : Int) : Cur (w.setCell ⟨g, 2, none⟩ (.int .i64 H)) B g a n cap ∧ w.grownBy (w.setCell ⟨g, 2, none⟩ (.int .i64 H)) (some g) := by
  have hg := grown_cell w g 2 (.int .i64 H)
  obtain ⟨hR, hBg, hlt, hc0, ⟨k, hk, hc1⟩, ⟨hh, hc2⟩, hf1, hf2⟩ := h
  refine ⟨⟨hR.grown hg (fun k e => by cases e; exact hBg), hBg, by simpa using hlt, ?_, ⟨k, hk, ?_⟩, ⟨H, by first | exact World.cell?_setCell_same _ _ _ hc2 | exact World.cell?_setCell_same _ _ hc2⟩, by simpa using hf1, by simpa using hf2⟩, hg⟩
  · exact (cell_apart w g _ _ _ (by decide)).trans hc0
  · exact (cell_apart w g _ _ _ (by decide)).trans hc1
theorem Cur.set1 {w : World} {B g : Nat} {a : Option Addr} {n cap : Nat} (h : Cur w B g a n cap) (k : Nat) (hk : k ≤ n) : Cur (w.setCell ⟨g, 1, none⟩ (.int .i64 k)) B g a n cap ∧ w.grownBy (w.setCell ⟨g, 1, none⟩ (.int .i64 k)) (some g) := by
  have hg := grown_cell w g 1 (.int .i64 k)
  obtain ⟨hR, hBg, hlt, hc0, ⟨k', hk', hc1⟩, ⟨hh, hc2⟩, hf1, hf2⟩ := h
  refine ⟨⟨hR.grown hg (fun k e => by cases e; exact hBg), hBg, by simpa using hlt, ?_, ⟨k, hk, by first | exact World.cell?_setCell_same _ _ _ hc1 | exact World.cell?_setCell_same _ _ hc1⟩, ⟨hh, ?_⟩, by simpa using hf1, by simpa using hf2⟩, hg⟩
  · exact (cell_apart w g _ _ _ (by decide)).trans hc0
  · exact (cell_apart w g _ _ _ (by decide)).trans hc2
theorem Cur.below {w w' : World} {B g : Nat} {a : Option Addr} {n cap : Nat} (h : Cur w B g a n cap) (hb : Below w.heap.size w w') : Cur w' B g a n cap := by
  obtain ⟨hR, hBg, hlt, hc0, ⟨k, hk, hc1⟩, ⟨hh, hc2⟩, hf1, hf2⟩ := h
  exact ⟨hR.below hb, hBg, Nat.lt_of_lt_of_le hlt hb.size, (hb.cell (by exact hlt)).trans hc0, ⟨k, hk, (hb.cell (by exact hlt)).trans hc1⟩, ⟨hh, (hb.cell (by exact hlt)).trans hc2⟩,
    (World.frozen?_of_block (hb.block g hlt)).trans hf1, (World.frozen?_of_block (hb.block g hlt)).trans hf2⟩
theorem grown_of {w w' : World} {row : Option Nat} (h : Below w.heap.size w w') : w.grownBy w' row := ⟨h.os, h.tape, h.output, h.size, fun k hk _ => h.block k hk⟩
theorem grown_dN {a b : World} {row : Option Nat} (h : a.grownBy b row) (n : Nat) : a.grownBy (b.drewN n) row := grown_trans h (grown_of (below_dN (Below.refl _ _) n))

set_option maxHeartbeats 800000 in
theorem c_s_l01Byte (w : World) (B g : Nat) (a : Option Addr) (n cap : Nat) (h : Cur w B g a n cap) :
    Calls Tryd.prog 35 #[.pointer (some ⟨g, 0, none⟩)] w fun e w' => ∃ x : Int, e = .returned (.int .i64 x) ∧ 0 ≤ x ∧ x ≤ 255 ∧ Cur w' B g a n cap ∧ w.grownBy w' (some g) := by
  have HC := Lib.hid h
  obtain ⟨hR, hBg, hg, hc0, ⟨k, hk, hc1⟩, ⟨hh, hc2⟩, hf1, hf2⟩ := h
  obtain ⟨H, hH⟩ : ∃ H : Int, wrap64 (wrap64 (hh * 6364136223846793005) + 1442695040888963407) = H := ⟨_, rfl⟩
  have HS := Lib.hid (HC.out.set2 H)
  by_cases hlt : k < n
  · obtain ⟨_, _, _, hcell⟩ := hR
    obtain ⟨b, off, rfl, hb, x, hx0, hx1, hcx⟩ := hcell k hlt
    have hbg : b ≠ g := by omega
    have HS1 := Lib.hid ((HS.out.1).set1 (k + 1) (by omega))
    have hki : ((k : Int)) < (n : Int) := by omega
    clear hcell
    go_enter Tryd.func35, Tryd.ntmps35
    go_wp2
    go_quiet (fail)
    go_wp2
    go_quiet (fail)
    go_wp2
    go_quiet (fail)
    go_wp2
    go_ret
    exact ⟨_, rfl, (and255 _).1, (and255 _).2, HS1.out.1.below (below_dN (Below.refl _ _) _), grown_dN (grown_trans HS.out.2 HS1.out.2) _⟩
  · have hki : (n : Int) ≤ (k : Int) := by omega
    go_enter Tryd.func35, Tryd.ntmps35
    go_wp2
    go_quiet (fail)
    go_wp2
    go_quiet (fail)
    go_wp2
    go_ret
    exact ⟨_, rfl, (and255 _).1, (and255 _).2, HS.out.1.below (below_dN (below_dN (Below.refl _ _) _) _), grown_dN (grown_dN HS.out.2 _) _⟩

set_option maxHeartbeats 800000 in
theorem c_s_l01New (w : World) (B : Nat) (a : Option Addr) (n cap : Nat) (h : RdU w B a n cap) (hn : n ≤ 1048576) :
    Calls Tryd.prog 36 #[.slice a n cap] w fun e w' => e = .returned (.pointer (some ⟨w.heap.size, 0, none⟩)) ∧ Cur w' B w.heap.size a n cap ∧ Below w.heap.size w w' := by
  have HR := Lib.hid h
  obtain ⟨hB, hnc, hcap, hcell⟩ := h
  go_enter Tryd.func36, Tryd.ntmps36
  go_wp2
  go_loop [3, 4] (fun s i => ∃ (k : Nat) (hh : Int), k ≤ n ∧ i = .int .i64 k ∧ s = .int .i64 hh) (fun _ i => n - (intOf i).toNat)
  case atStart => exact ⟨0, _, by omega, rfl, rfl⟩
  case round =>
    obtain ⟨k, hh, hk, rfl, rfl⟩ := hrel
    have hfin : ∀ hh : Int, Cur (w.alloc (.cells #[.slice a n cap, .int .i64 0, .int .i64 hh] 60)) B w.heap.size a n cap := fun hh => by
      have hb : Below w.heap.size w (w.alloc (.cells #[.slice a n cap, .int .i64 0, .int .i64 hh] 60)) := (Below.refl _ _).alloc (Nat.le_refl _) _
      refine ⟨HR.out.below hb, hB, by simp, ?_, ⟨0, by omega, ?_⟩, ⟨hh, ?_⟩, ?_, ?_⟩
      · simp
      · simp
      · simp
      · simp
      · simp
    have HF := Lib.hid hfin
    clear hfin
    by_cases hlt : k < n
    · obtain ⟨b, off, rfl, hb, x, hx0, hx1, hcx⟩ := hcell k hlt
      clear hcell
      by_cases h4 : (k : Int) < 4000
      · go_wp2
        go_round
        case rel => exact ⟨k + 1, _, by omega, by go_num, rfl⟩
        case measure => simp [intOf]; omega
      · go_wp2
        go_ret
        exact ⟨rfl, HF.out _, (Below.refl _ _).alloc (Nat.le_refl _) _⟩
    · clear hcell
      go_wp2
      go_ret
      exact ⟨rfl, HF.out _, (Below.refl _ _).alloc (Nat.le_refl _) _⟩

/-- The cursor behind k draws. -/
theorem c_s_l31New (w : World) (B : Nat) (a : Option Addr) (n cap m : Nat) (h : RdU w B a n cap) (hn : n ≤ 1048576) (hm : m ≤ 1000) :
    Calls Tryd.prog 34 #[.slice a n cap, .int .i64 m] w fun e w' => e = .returned (.pointer (some ⟨w.heap.size, 0, none⟩)) ∧ Cur w' B w.heap.size a n cap ∧ Below w.heap.size w w' := by
  have HR := Lib.hid h
  clear h
  go_enter Tryd.func34, Tryd.ntmps34
  go_wp2_with fail
  refine (c_s_l01New _ _ _ _ _ HR.out hn).mono ?_
  rintro e w1 ⟨rfl, hc1, hb1⟩
  go_wp2
  go_loopw [6] (fun i wr => ∃ k : Nat, k ≤ m ∧ i = .int .i64 k ∧ Cur wr B w.heap.size a n cap ∧ Below w.heap.size w wr) (fun i _ => m - (intOf i).toNat)
  case atStart => exact ⟨0, by omega, rfl, hc1, hb1⟩
  case round =>
    obtain ⟨k, hk, rfl, hc, hb⟩ := hrel
    by_cases hlt : k < m
    · have HC := Lib.hid hc
      clear hc hc1
      go_wp2_with (go_at_call 35; refine (c_s_l01Byte _ _ _ _ _ _ HC.out).mono ?_; rintro e w2 ⟨x, rfl, hx0, hx1, hc2, hg2⟩)
      go_roundw
      case rel => exact ⟨k + 1, by omega, by go_num, hc2, hb.grown hg2 hb.size (fun k e => by cases e; exact Nat.le_refl _)⟩
      case measure => simp [intOf]; omega
    · go_wp2
      go_ret
      exact ⟨rfl, hc, hb⟩

/-- A number below m. -/
theorem c_s_l01Below (w : World) (B g : Nat) (a : Option Addr) (n cap m : Nat) (h : Cur w B g a n cap) (hm1 : 1 ≤ m) (hm2 : m ≤ 4294967296) :
    Calls Tryd.prog 37 #[.pointer (some ⟨g, 0, none⟩), .int .i64 m] w fun e w' => ∃ x : Int, e = .returned (.int .i64 x) ∧ 0 ≤ x ∧ x < m ∧ Cur w' B g a n cap ∧ w.grownBy w' (some g) := by
  have HC := Lib.hid h
  clear h
  by_cases h256 : m ≤ 256
  · go_enter Tryd.func37, Tryd.ntmps37
    go_wp2_with fail
    refine (c_s_l01Byte _ _ _ _ _ _ HC.out).mono ?_
    rintro e w2 ⟨x, rfl, hx0, hx1, hc2, hg2⟩
    have hr0 := Int.emod_nonneg x (show (m : Int) ≠ 0 by omega)
    have hr1 := Int.emod_lt_of_pos x (show 0 < (m : Int) by omega)
    go_wp2
    go_ret
    exact ⟨_, rfl, hr0, hr1, hc2, hg2⟩
  · have h256' : (256 : Int) < (m : Int) := by omega
    go_enter Tryd.func37, Tryd.ntmps37
    go_wp2_with fail
    refine (c_s_l01Byte _ _ _ _ _ _ HC.out).mono ?_
    rintro e w2 ⟨x, rfl, hx0, hx1, hc2, hg2⟩
    go_wp2_with fail
    refine (c_s_l01Byte _ _ _ _ _ _ hc2).mono ?_
    rintro e w3 ⟨y, rfl, hy0, hy1, hc3, hg3⟩
    go_wp2_with fail
    refine (c_s_l01Byte _ _ _ _ _ _ hc3).mono ?_
    rintro e w4 ⟨z, rfl, hz0, hz1, hc4, hg4⟩
    go_wp2_with fail
    refine (c_s_l01Byte _ _ _ _ _ _ hc4).mono ?_
    rintro e w5 ⟨u, rfl, hu0, hu1, hc5, hg5⟩
    have hr0 := Int.emod_nonneg (x * 16777216 + y * 65536 + z * 256 + u) (show (m : Int) ≠ 0 by omega)
    have hr1 := Int.emod_lt_of_pos (x * 16777216 + y * 65536 + z * 256 + u) (show 0 < (m : Int) by omega)
    go_wp2
    go_ret
    exact ⟨_, rfl, hr0, hr1, hc5, grown_trans (grown_trans (grown_trans hg2 hg3) hg4) hg5⟩

theorem c_s_MakeNum (w : World) (B : Nat) (a : Option Addr) (n cap m : Nat) (h : RdU w B a n cap) (hn : n ≤ 1048576) (hm : m ≤ 1000) :
    Calls Tryd.prog 16 #[.slice a n cap, .int .i64 m] w fun e w' => ∃ x : Int, e = .returned (.int .i64 x) ∧ 0 ≤ x ∧ x ≤ 65535 ∧ Below w.heap.size w w' := by
  have HR := Lib.hid h
  clear h
  go_enter Tryd.func16, Tryd.ntmps16
  go_wp2_with fail
  refine (c_s_l31New _ _ _ _ _ _ HR.out hn hm).mono ?_
  rintro e w1 ⟨rfl, hc1, hb1⟩
  go_wp2_with fail
  refine (c_s_l01Byte _ _ _ _ _ _ hc1).mono ?_
  rintro e w2 ⟨x, rfl, hx0, hx1, hc2, hg2⟩
  have hb2 : Below w.heap.size w w2 := hb1.grown hg2 hb1.size (fun k e => by cases e; exact Nat.le_refl _)
  go_wp2_with fail
  refine (c_s_l01Byte _ _ _ _ _ _ hc2).mono ?_
  rintro e w3 ⟨y, rfl, hy0, hy1, hc3, hg3⟩
  have hb3 : Below w.heap.size w w3 := hb2.grown hg3 hb2.size (fun k e => by cases e; exact Nat.le_refl _)
  go_wp2
  go_ret
  exact ⟨_, rfl, by omega, by omega, hb3⟩




end Go.Proofs.YtjogaoocjcofdaaDoor
