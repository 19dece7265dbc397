/- Contracts of SplitAny at one separator, the program's and the reference's. -/
import Derived.Test.YtjogaoocjcofdaaDoorTxs
import Derived.Test.YtjogaoocjcofdaaDoorStr
import Derived.Test.YtjogaoocjcofdaaDoorShelf
namespace Go.Proofs.YtjogaoocjcofdaaDoor
open Go.RowKit
set_option maxRecDepth 8000

/-- The parts between the separators; cur is what the first part has so far. -/
def spA (c : UInt8) : List UInt8 → List UInt8 → List (List UInt8)
  | cur, [] => [cur]
  | cur, b :: r => if b = c then cur :: spA c [] r else spA c (cur ++ [b]) r
def ba (l : List UInt8) : ByteArray := ⟨l.toArray⟩
def spT (c : UInt8) (s : ByteArray) : List ByteArray := (spA c [] s.data.toList).map ba
theorem ba_list (s : ByteArray) : ba s.data.toList = s := by apply ByteArray.ext; simp [ba]
theorem spA_len (c : UInt8) : ∀ (l cur : List UInt8), (spA c cur l).length ≤ l.length + 1 := by
  intro l
  induction l with
  | nil => intro cur; simp [spA]
  | cons b r ih =>
    intro cur
    unfold spA
    split
    · have := ih []; simp; omega
    · have := ih (cur ++ [b]); simp; omega
theorem spT_len (c : UInt8) (s : ByteArray) : (spT c s).length ≤ s.size + 1 := by
  have := spA_len c s.data.toList []
  rw [size_list] at this
  unfold spT; rw [List.length_map]; exact this

/-- What is left to split, the part from f on being met as far as k. -/
def rest (c : UInt8) (s : ByteArray) (f k : Nat) : List ByteArray := (spA c ((s.data.toList.drop f).take (k - f)) (s.data.toList.drop k)).map ba
theorem rest_start (c : UInt8) (s : ByteArray) : rest c s 0 0 = spT c s := by simp [rest, spT]
theorem part_ext (s : ByteArray) (f k : Nat) : ba ((s.data.toList.drop f).take (k - f)) = s.extract f k := by
  apply ByteArray.ext
  apply Array.ext'
  rw [ByteArray.data_extract, Array.toList_extract, List.extract_eq_take_drop]
  rfl
theorem rest_hit {c : UInt8} {s : ByteArray} {f k : Nat} (hk : k < s.size) (h : s[k] = c) : rest c s f k = s.extract f k :: rest c s (k + 1) (k + 1) := by
  have hl : k < s.data.toList.length := by rw [size_list]; exact hk
  have hg : s.data.toList[k] = c := h
  unfold rest
  rw [List.drop_eq_getElem_cons hl, hg, spA, if_pos rfl, List.map_cons, part_ext, Nat.sub_self, List.take_zero]
theorem rest_miss {c : UInt8} {s : ByteArray} {f k : Nat} (hk : k < s.size) (hf : f ≤ k) (h : ¬ s[k] = c) : rest c s f k = rest c s f (k + 1) := by
  have hl : k < s.data.toList.length := by rw [size_list]; exact hk
  have hg : ¬ s.data.toList[k] = c := h
  have e : (s.data.toList.drop f).take (k + 1 - f) = (s.data.toList.drop f).take (k - f) ++ [s.data.toList[k]] := by
    have hl2 : k - f < (s.data.toList.drop f).length := by rw [List.length_drop]; omega
    rw [show k + 1 - f = (k - f) + 1 by omega, List.take_succ_eq_append_getElem hl2, List.getElem_drop]
    simp [show f + (k - f) = k by omega]
  unfold rest
  rw [List.drop_eq_getElem_cons hl, spA, if_neg hg, e]
theorem rest_end {c : UInt8} {s : ByteArray} {f k : Nat} (hk : k = s.size) : rest c s f k = [s.extract f s.size] := by
  subst hk
  unfold rest
  have e : s.data.toList.drop s.size = [] := List.drop_eq_nil_of_le (by rw [size_list]; omega)
  rw [e, spA, List.map_cons, List.map_nil, part_ext]
theorem rest_pos (c : UInt8) (s : ByteArray) (f k : Nat) : 1 ≤ (rest c s f k).length := by
  have h : ∀ (l cur : List UInt8), 1 ≤ (spA c cur l).length := by
    intro l
    induction l with
    | nil => intro cur; simp [spA]
    | cons b r ih => intro cur; unfold spA; split <;> simp [ih]
  unfold rest; rw [List.length_map]; exact h _ _
theorem indexByte_one (a b : UInt8) : Lib.indexByte [a] b = if a = b then 0 else -1 := by
  unfold Lib.indexByte
  simp [Lib.indexByte]
theorem ext_size (s : ByteArray) (f k : Nat) (h : k ≤ s.size) (hs : s.size ≤ 1048576) : bdS (s.extract f k) := by
  unfold bdS; rw [ByteArray.size_extract]; omega

theorem c_Idx1 (c b : UInt8) (w : World) :
    Calls Tryd.prog 40 #[.string ⟨#[c]⟩, .int .u8 (b.toNat : Int)] w fun e w' => e = .returned (.int .i64 (if c = b then 0 else -1)) ∧ w = w' := by
  refine (Tryd.strings_IndexByte _ _ w).mono ?_
  rintro e w' ⟨rfl, rfl⟩
  refine ⟨ret_i ?_, rfl⟩
  rw [show ((b.toNat : Int).toNat.toUInt8) = b from by simp, ← indexByte_one]
set_option maxHeartbeats 800000 in
theorem c_i_SplitAny (s : ByteArray) (c : UInt8) (w : World) (hlim : s.size ≤ 1048576) :
    Calls Tryd.prog 19 #[.string s, .string ⟨#[c]⟩] w fun e w' => ∃ v, e = .returned v ∧ OwnS w' w.heap.size v (spT c s) ∧ Below w.heap.size w w' := by
  go_enter Tryd.func19, Tryd.ntmps19
  go_wp2
  go_loopw [5, 6, 7, 10] (fun v f _ i wr => ∃ (k fr : Nat) (xs : List ByteArray), k ≤ s.size ∧ fr ≤ k ∧ i = .int .i64 k ∧ f = .int .i64 fr ∧ OwnS wr w.heap.size v xs ∧ Hid (xs ++ rest c s fr k = spT c s) ∧ Below w.heap.size w wr) (fun _ _ _ i _ => s.size - (intOf i).toNat)
  case atStart => exact ⟨0, 0, [], by omega, by omega, rfl, rfl, OwnS.nil _ _, by rw [Hid, rest_start]; rfl, Below.refl _ _⟩
  case round =>
    obtain ⟨k, fr, xs, hk, hfr, rfl, rfl, hown, hq, hb⟩ := hrel
    have hlen : Hid (xs.length < 8796093022207) := by
      have h1 := congrArg List.length hq.out
      have h2 := spT_len c s
      rw [List.length_append] at h1
      show _ < _
      omega
    by_cases hlt : k < s.size
    · by_cases hc : s[k] = c
      · have hx : Hid ((xs ++ [s.extract fr k]) ++ rest c s (k + 1) (k + 1) = spT c s) := by rw [Hid, ← hq.out, rest_hit hlt hc, List.append_assoc]; rfl
        have hex := ext_size s fr k hk hlim
        have HC := Lib.hid hc
        clear hq hc
        go_wp2_with fail
        refine (c_Idx1 _ _ _).mono ?_
        rintro e w' ⟨rfl, rfl⟩
        rw [if_pos HC.out.symm]
        go_wp2_with (at_builtin; refine wpList_appS _ rfl _ _ rfl w.heap.size w _ xs rfl (hown.alloc _) (hb.alloc hb.size _) (Nat.le_refl _) ⟨wr.heap.size, 0, none⟩ (s.extract fr k) rfl (by simp) hex hlen.out ?_; intro v' w1 hown1 hb1 _)
        go_roundw
        case rel => exact ⟨k + 1, k + 1, xs ++ [s.extract fr k], by omega, by omega, by go_num, by go_num, hown1, hx, hb1⟩
        case measure => simp [intOf]; omega
      · have hx : Hid (xs ++ rest c s fr (k + 1) = spT c s) := by rw [Hid, ← hq.out, rest_miss hlt hfr hc]
        have HC := Lib.hid hc
        clear hq hc
        go_wp2_with fail
        refine (c_Idx1 _ _ _).mono ?_
        rintro e w' ⟨rfl, rfl⟩
        rw [if_neg (fun e => HC.out e.symm)]
        go_wp2
        go_roundw
        case rel => exact ⟨k + 1, fr, xs, by omega, by omega, by go_num, rfl, hown, hx, hb⟩
        case measure => simp [intOf]; omega
    · have hks : k = s.size := by omega
      have hx : Hid (xs ++ [s.extract fr s.size] = spT c s) := by rw [Hid, ← hq.out, rest_end hks]
      have hex := ext_size s fr s.size (Nat.le_refl _) hlim
      clear hq
      go_wp2_with (at_builtin; refine wpList_appS _ rfl _ _ rfl w.heap.size w _ xs rfl (hown.alloc _) (hb.alloc hb.size _) (Nat.le_refl _) ⟨wr.heap.size, 0, none⟩ (s.extract fr s.size) rfl (by simp) hex hlen.out ?_; intro v' w1 hown1 hb1 _)
      go_ret
      exact ⟨_, rfl, by rw [← hx.out]; exact hown1, hb1⟩

set_option maxHeartbeats 800000 in
theorem c_s_SplitAny (s : ByteArray) (c : UInt8) (w : World) (hlim : s.size ≤ 1048576) :
    Calls Tryd.prog 44 #[.string s, .string ⟨#[c]⟩] w fun e w' => ∃ v, e = .returned v ∧ OwnS w' w.heap.size v (spT c s) ∧ Below w.heap.size w w' := by
  go_enter Tryd.func44, Tryd.ntmps44
  go_wp2
  go_loopw [5, 6, 7, 8] (fun v f i _ wr => ∃ (k fr : Nat) (xs : List ByteArray), k ≤ s.size ∧ fr ≤ k ∧ i = .int .i64 k ∧ f = .int .i64 fr ∧ OwnS wr w.heap.size v xs ∧ Hid (xs ++ rest c s fr k = spT c s) ∧ Below w.heap.size w wr) (fun _ _ i _ _ => s.size - (intOf i).toNat)
  case atStart => exact ⟨0, 0, [], by omega, by omega, rfl, rfl, OwnS.empty _ _ (Nat.le_refl _), by rw [Hid, rest_start]; rfl, (Below.refl _ _).alloc (Nat.le_refl _) _⟩
  case round =>
    obtain ⟨k, fr, xs, hk, hfr, rfl, rfl, hown, hq, hb⟩ := hrel
    have hlen : Hid (xs.length < 8796093022207) := by
      have h1 := congrArg List.length hq.out
      have h2 := spT_len c s
      rw [List.length_append] at h1
      show _ < _
      omega
    by_cases hlt : k < s.size
    · by_cases hc : s[k] = c
      · have hx : Hid ((xs ++ [s.extract fr k]) ++ rest c s (k + 1) (k + 1) = spT c s) := by rw [Hid, ← hq.out, rest_hit hlt hc, List.append_assoc]; rfl
        have hex := ext_size s fr k hk hlim
        have hci : ((s[k].toNat : Int) == (((⟨#[c]⟩ : ByteArray)[0]'(by show 0 < 1; omega)).toNat : Int)) = true := by
          rw [beq_iff_eq, hc]; rfl
        clear hq hc
        go_wp2
        go_loopw [5, 6, 8] (fun v f q wi => q = .int .i64 0 ∧ f = .int .i64 fr ∧ OwnS wi w.heap.size v xs ∧ Below w.heap.size w wi) (fun _ _ _ _ => 0)
        case atStart => exact ⟨rfl, rfl, hown, hb⟩
        case round =>
          obtain ⟨rfl, rfl, hown, hb⟩ := hrel
          go_wp2
          go_quiet (fail)
          go_wp2_with (at_builtin; refine wpList_appS _ rfl _ _ rfl w.heap.size w _ xs rfl ((hown.dN _).alloc _) ((below_dN hb _).alloc hb.size _) (Nat.le_refl _) ⟨wr.heap.size, 0, none⟩ (s.extract fr k) rfl (cellS_dN _ _ _ _) hex hlen.out ?_; intro v' w1 hown1 hb1 _)
          go_roundw
          case rel => exact ⟨k + 1, k + 1, xs ++ [s.extract fr k], by omega, by omega, by go_num, by go_num, hown1, hx, hb1⟩
          case measure => simp [intOf]; omega
      · have hx : Hid (xs ++ rest c s fr (k + 1) = spT c s) := by rw [Hid, ← hq.out, rest_miss hlt hfr hc]
        have hci : ((s[k].toNat : Int) == (((⟨#[c]⟩ : ByteArray)[0]'(by show 0 < 1; omega)).toNat : Int)) = false := by
          rw [beq_eq_false_iff_ne]
          exact fun e => hc (UInt8.toNat_inj.1 (by have e2 : (s[k].toNat : Int) = (c.toNat : Int) := e; omega))
        clear hq hc
        go_wp2
        go_loopw [5, 6, 8] (fun v f q wi => (∃ j : Nat, j ≤ 1 ∧ q = .int .i64 j) ∧ f = .int .i64 fr ∧ OwnS wi w.heap.size v xs ∧ Below w.heap.size w wi) (fun _ _ q _ => 1 - (intOf q).toNat)
        case atStart => exact ⟨⟨0, by omega, rfl⟩, rfl, hown, hb⟩
        case round =>
          obtain ⟨⟨j, hj, rfl⟩, rfl, hown, hb⟩ := hrel
          by_cases hj1 : j = 1
          · subst hj1
            go_wp2
            go_roundw
            case rel => exact ⟨k + 1, fr, xs, by omega, by omega, by go_num, rfl, hown, hx, hb⟩
            case measure => simp [intOf]; omega
          · obtain rfl : j = 0 := by omega
            go_wp2
            go_quiet (fail)
            go_wp2
            go_roundw
            case rel => exact ⟨⟨1, by omega, by go_num⟩, rfl, hown.dN _, below_dN hb _⟩
            case measure => simp [intOf]
    · have hks : k = s.size := by omega
      have hx : Hid (xs ++ [s.extract fr s.size] = spT c s) := by rw [Hid, ← hq.out, rest_end hks]
      have hex := ext_size s fr s.size (Nat.le_refl _) hlim
      clear hq
      go_wp2_with (at_builtin; refine wpList_appS _ rfl _ _ rfl w.heap.size w _ xs rfl (hown.alloc _) (hb.alloc hb.size _) (Nat.le_refl _) ⟨wr.heap.size, 0, none⟩ (s.extract fr s.size) rfl (by simp) hex hlen.out ?_; intro v' w1 hown1 hb1 _)
      go_ret
      exact ⟨_, rfl, by rw [← hx.out]; exact hown1, hb1⟩

end Go.Proofs.YtjogaoocjcofdaaDoor
