/- What FnWords calls besides: the drawn text, SplitLines at one text, Clip of strings. -/
import Derived.Test.YtjogaoocjcofdaaDoorSpj
import Derived.Test.YtjogaoocjcofdaaDoorCur
import Derived.Test.YtjogaoocjcofdaaDoorFmx
namespace Go.Proofs.YtjogaoocjcofdaaDoor
open Go.RowKit
set_option maxRecDepth 8000

theorem spT_le (c : UInt8) (s : ByteArray) : ∀ x ∈ spT c s, x.size ≤ s.size := by
  have h : ∀ (l cur : List UInt8), ∀ y ∈ spA c cur l, y.length ≤ cur.length + l.length := by
    intro l
    induction l with
    | nil => intro cur y hy; simp [spA] at hy; subst hy; simp
    | cons b r ih =>
      intro cur y hy
      unfold spA at hy
      split at hy
      · rcases List.mem_cons.1 hy with rfl | hy
        · simp
        · have := ih [] y hy; simp at this ⊢; omega
      · have := ih (cur ++ [b]) y hy; simp at this ⊢; omega
  intro x hx
  obtain ⟨y, hy, rfl⟩ := List.mem_map.1 hx
  have := h _ _ y hy
  rw [size_list] at this
  have e : (ba y).size = y.length := by simp [ba, ByteArray.size]
  rw [e]
  simp at this; omega

theorem c_ClipS (a : Option Addr) (n cap : Nat) (w : World) (_hc : n ≤ cap) (_hm : cap ≤ 9223372036854775807) :
    Calls Tryd.prog 43 #[.slice a n cap] w fun e w' => e = .returned (.slice a n n) ∧ w = w' := by
  go_enter Tryd.func43, Tryd.ntmps43
  go_wp2
  go_ret
  exact ⟨rfl, rfl⟩

set_option maxHeartbeats 400000 in
theorem c_i_SplitLines4 (w : World) (hm : ∃ m, w.cell? ⟨2, 0, none⟩ = some (.int .i64 m)) :
    Calls Tryd.prog 21 #[.string ⟨#[97, 10, 98, 10]⟩] w fun e w' => ∃ a, e = .returned (.slice a 2 2) ∧ Below w.heap.size w w' := by
  have hsp : Hid (spT 10 (⟨#[97, 10, 98, 10]⟩ : ByteArray) = [⟨#[97]⟩, ⟨#[98]⟩, ⟨#[]⟩]) := by rw [Hid]; decide
  go_enter Tryd.func21, Tryd.ntmps21
  go_wp2_with fail
  refine (c_Split ⟨#[97, 10, 98, 10]⟩ 10 _ (by decide) hm).mono ?_
  rintro e w1 ⟨vp, rfl, hop, hb1⟩
  rw [hsp.out] at hop
  obtain ⟨a, cap, n, rfl, HN, hcap, hcapm, -⟩ := hop.open
  obtain rfl : 3 = n := HN.out
  obtain ⟨g, off, rfl, hbl, x, hx, hbd, hcx⟩ := hop.cellsAt 2 (by omega)
  obtain rfl : (⟨#[]⟩ : ByteArray) = x := hx.out
  go_wp2_with fail
  refine (c_ClipS _ _ _ _ (by omega) (by omega)).mono ?_
  rintro e w2 ⟨rfl, rfl⟩
  go_wp2
  go_ret
  exact ⟨_, rfl, hb1⟩

set_option maxHeartbeats 400000 in
theorem c_s_l01Str (w : World) (B g : Nat) (a : Option Addr) (n cap : Nat) (h : Cur w B g a n cap) (v : Value) (xs : List ByteArray) (hx : RdS w v xs) (hne : v.ownBlock = none ∨ v.ownBlock ≠ some g) (hl1 : 1 ≤ xs.length) (hl2 : xs.length ≤ 256) :
    Calls Tryd.prog 38 #[.pointer (some ⟨g, 0, none⟩), v] w fun e w' => ∃ y, e = .returned (.string y) ∧ y ∈ xs ∧ Cur w' B g a n cap ∧ w.grownBy w' (some g) := by
  have HX := Lib.hid hx
  obtain ⟨a2, cap2, n2, rfl, HN, hn2, hc2, hcm2, -⟩ := hx.open
  clear hx
  have HNe := Lib.hid hne
  clear hne
  rw [HN.out] at hl1 hl2
  have HC := Lib.hid h
  clear h
  go_enter Tryd.func38, Tryd.ntmps38
  go_wp2_with fail
  refine (c_s_l01Below _ _ _ _ _ _ _ HC.out hl1 (by omega)).mono ?_
  rintro e w1 ⟨x, rfl, hx0, hx1, hc1, hg1⟩
  obtain ⟨k, rfl⟩ := Int.eq_ofNat_of_zero_le hx0
  have hr := HX.out.kept hg1 HNe.out
  obtain ⟨-, a3, cap3, e3, -, -, hcell⟩ := hr
  cases e3
  obtain ⟨b, off, rfl, hbl, hcell⟩ := hcell (by omega)
  have hk : k < xs.length := by omega
  have hck := hcell k hk
  have hmem : Hid (xs.getD k .empty ∈ xs) := getDS_mem hk
  obtain ⟨y, hy⟩ : ∃ y, xs.getD k .empty = y := ⟨_, rfl⟩
  rw [hy] at hck hmem
  clear hcell hy
  go_wp2
  go_ret
  exact ⟨y, rfl, hmem.out, hc1, hg1⟩

def wl : List ByteArray := [⟨#[97]⟩, ⟨#[98, 99]⟩, ⟨#[32]⟩, ⟨#[44]⟩, ⟨#[120, 49]⟩]
theorem wl_len : ∀ y ∈ wl, y.size ≤ 2 := by
  intro y hy
  simp only [wl, List.mem_cons, List.mem_nil_iff, or_false] at hy
  rcases hy with rfl | rfl | rfl | rfl | rfl <;> decide
set_option maxHeartbeats 800000 in
theorem c_s_MakeText (w : World) (B : Nat) (a : Option Addr) (n cap : Nat) (h : RdU w B a n cap) (hn : n ≤ 1048576) :
    Calls Tryd.prog 17 #[.slice a n cap] w fun e w' => ∃ t : ByteArray, e = .returned (.string t) ∧ t.size ≤ 14 ∧ Below w.heap.size w w' := by
  have HR := Lib.hid h
  clear h
  go_enter Tryd.func17, Tryd.ntmps17
  go_wp2_with fail
  refine (c_s_l01New _ _ _ _ _ HR.out hn).mono ?_
  rintro e w1 ⟨rfl, hc1, hb1⟩
  have HC1 := Lib.hid hc1
  clear hc1
  go_wp2_with fail
  refine (c_s_l01Below _ _ _ _ _ _ 8 HC1.out (by omega) (by omega)).mono ?_
  rintro e w2 ⟨x, rfl, hx0, hx1, hc2, hg2⟩
  have hb2 := hb1.grown hg2 hb1.size (fun k e => by cases e; exact Nat.le_refl _)
  obtain ⟨m, rfl⟩ := Int.eq_ofNat_of_zero_le hx0
  go_wp2
  go_loopw [4, 5] (fun s i wr => ∃ (k : Nat) (t : ByteArray), k ≤ 7 ∧ i = .int .i64 (k : Int) ∧ s = .string t ∧ t.size + 2 * k ≤ 14 ∧ Cur wr B w.heap.size a n cap ∧ Below w.heap.size w wr) (fun _ i _ => (intOf i).toNat)
  case atStart => exact ⟨m, ⟨#[]⟩, by omega, rfl, rfl, by show 0 + 2 * m ≤ 14; omega, hc2, hb2⟩
  case round =>
    obtain ⟨k, t, hk, rfl, rfl, ht, hc, hb⟩ := hrel
    by_cases hlt : 0 < k
    · have HC := Lib.hid hc
      have hgl : w.heap.size < wr.heap.size := hc.2.2.1
      have hbA : Below wr.heap.size wr (wr.alloc (.cells #[.string ⟨#[97]⟩, .string ⟨#[98, 99]⟩, .string ⟨#[32]⟩, .string ⟨#[44]⟩, .string ⟨#[120, 49]⟩] 9)) := (Below.refl _ _).alloc (Nat.le_refl _) _
      have hA : OwnS (wr.alloc (.cells #[.string ⟨#[97]⟩, .string ⟨#[98, 99]⟩, .string ⟨#[32]⟩, .string ⟨#[44]⟩, .string ⟨#[120, 49]⟩] 9)) wr.heap.size (.slice (some ⟨wr.heap.size, 0, none⟩) 5 5) wl :=
        OwnS.ofAlloc wr wl (fun y hy => by have := wl_len y hy; unfold bdS; omega) (by decide)
      clear hc
      go_wp2_with fail
      refine (c_s_l01Str _ _ _ _ _ _ (HC.out.below hbA) _ wl hA.rd (.inr (by simp [Value.ownBlock]; omega)) (by decide) (by decide)).mono ?_
      rintro e w3 ⟨y, rfl, hy, hc3, hg3⟩
      have hy2 := wl_len y hy
      have hb3 := (hb.trans (hbA.mono hb.size)).grown hg3 (hb.trans (hbA.mono hb.size)).size (fun k e => by cases e; exact Nat.le_refl _)
      clear hy hA hbA
      go_wp2
      go_roundw
      case rel => exact ⟨k - 1, t ++ y, by omega, by go_num, rfl, by rw [ByteArray.size_append]; omega, hc3, hb3⟩
      case measure => simp [intOf]; omega
    · go_wp2
      go_ret
      exact ⟨t, rfl, by omega, hb⟩

end Go.Proofs.YtjogaoocjcofdaaDoor
