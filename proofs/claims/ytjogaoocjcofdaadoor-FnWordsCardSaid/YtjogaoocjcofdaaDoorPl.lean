/- Plain facts on integers and lists, for the contracts of this seat. No program is in sight. -/
namespace Go.Proofs.YtjogaoocjcofdaaDoor.Pl

/-- The factorial. -/
def fac : Nat → Int
  | 0 => 1
  | n + 1 => fac n * (n + 1)

theorem fac_pos (n : Nat) : 1 ≤ fac n := by
  induction n with
  | zero => simp [fac]
  | succ n ih =>
    have : 1 * 1 ≤ fac n * ((n : Int) + 1) := Int.mul_le_mul ih (by omega) (by omega) (by omega)
    simp only [fac]; omega

theorem fac_le : ∀ n, n ≤ 12 → fac n ≤ 479001600 := by decide

theorem fac_step (k : Nat) (h : 1 ≤ k) : fac (k - 1) * (k : Int) = fac k := by
  obtain ⟨j, rfl⟩ : ∃ j, k = j + 1 := ⟨k - 1, by omega⟩
  simp [fac]

/-- The binomial coefficient. -/
def bin : Nat → Nat → Int
  | _, 0 => 1
  | 0, _ + 1 => 0
  | n + 1, k + 1 => bin n k + bin n (k + 1)

theorem bin_zero (n : Nat) : bin n 0 = 1 := by cases n <;> rfl

theorem bin_nonneg : ∀ n k, 0 ≤ bin n k := by
  intro n
  induction n with
  | zero => intro k; cases k <;> simp [bin]
  | succ n ih => intro k; cases k with
    | zero => simp [bin]
    | succ k => have := ih k; have := ih (k + 1); simp only [bin]; omega

theorem bin_le : ∀ n k, bin n k ≤ ((2 ^ n : Nat) : Int) := by
  intro n
  induction n with
  | zero => intro k; cases k <;> simp [bin]
  | succ n ih =>
    intro k
    cases k with
    | zero => simp only [bin]; have := Nat.one_le_two_pow (n := n + 1); omega
    | succ k => have := ih k; have := ih (k + 1); simp only [bin, Nat.pow_succ]; omega

theorem bin_mul : ∀ n k : Nat, ((k : Int) + 1) * bin (n + 1) (k + 1) = ((n : Int) + 1) * bin n k := by
  intro n
  induction n with
  | zero =>
    intro k
    cases k with
    | zero => simp [bin]
    | succ k => simp [bin]
  | succ n ih =>
    intro k
    cases k with
    | zero =>
      have h := ih 0
      simp only [bin_zero] at h
      rw [show bin (n + 1 + 1) (0 + 1) = bin (n + 1) 0 + bin (n + 1) (0 + 1) from rfl, bin_zero, Int.mul_add, h]
      omega
    | succ k =>
      have h1 := ih k
      have h2 := ih (k + 1)
      rw [show bin (n + 1 + 1) (k + 1 + 1) = bin (n + 1) (k + 1) + bin (n + 1) (k + 1 + 1) from rfl, Int.mul_add, h2]
      have h3 : bin (n + 1) (k + 1) = bin n k + bin n (k + 1) := rfl
      have e : ((k + 1 : Nat) : Int) + 1 = ((k : Int) + 1) + 1 := by omega
      rw [e, Int.add_mul, h1, Int.one_mul]
      have e2 : ((n + 1 : Nat) : Int) + 1 = ((n : Int) + 1) + 1 := by omega
      rw [e2, Int.add_mul ((n : Int) + 1) 1, Int.one_mul, h3, Int.mul_add]
      omega

/-- The step of the reference: x * (m + 1) / (j + 1). -/
theorem bin_up (m j : Nat) : bin m j * ((m : Int) + 1) / ((j : Int) + 1) = bin (m + 1) (j + 1) := by
  rw [Int.mul_comm, ← bin_mul m j, Int.mul_comm]
  exact Int.mul_ediv_cancel _ (by omega)

/-- The step of the program: x * (n - i) / (i + 1). -/
theorem bin_across (n i : Nat) : bin n i * ((n : Int) - i) / ((i : Int) + 1) = bin n (i + 1) := by
  have h1 := bin_mul n i
  have h3 : bin (n + 1) (i + 1) = bin n i + bin n (i + 1) := rfl
  rw [h3, Int.mul_add, Int.add_mul] at h1
  have : ((i : Int) + 1) * bin n (i + 1) = bin n i * ((n : Int) - i) := by
    rw [Int.mul_sub, Int.mul_comm (bin n i) (n : Int), Int.mul_comm (bin n i) (i : Int)]
    rw [Int.add_mul (n : Int) 1] at h1
    omega
  rw [← this, Int.mul_comm]
  exact Int.mul_ediv_cancel _ (by omega)

theorem bin_bound (m j : Nat) (c : Int) (hm : m ≤ 30) (h0 : 0 ≤ c) (hc : c ≤ 31) : 0 ≤ bin m j * c ∧ bin m j * c ≤ 33285996544 := by
  have h1 := bin_nonneg m j
  have h2 := bin_le m j
  have h3 : 2 ^ m ≤ 2 ^ 30 := Nat.pow_le_pow_right (by omega) hm
  have h4 : bin m j ≤ 1073741824 := by omega
  exact ⟨Int.mul_nonneg h1 h0, by have := Int.mul_le_mul h4 hc h0 (by omega); omega⟩

/-- The digits of n in base b, the least place first; the fuel is n itself. -/
def digsF : Nat → Nat → Nat → List Int
  | 0, _, _ => []
  | f + 1, b, n => if n = 0 then [] else ((n % b : Nat) : Int) :: digsF f b (n / b)

def digs (b n : Nat) : List Int := digsF n b n

theorem digsF_fuel (b : Nat) (hb : 2 ≤ b) : ∀ n f g, n ≤ f → n ≤ g → digsF f b n = digsF g b n := by
  intro n
  induction n using Nat.strongRecOn with
  | ind n ih =>
    intro f g hf hg
    by_cases h0 : n = 0
    · subst h0
      cases f <;> cases g <;> simp [digsF]
    · obtain ⟨f, rfl⟩ : ∃ k, f = k + 1 := ⟨f - 1, by omega⟩
      obtain ⟨g, rfl⟩ : ∃ k, g = k + 1 := ⟨g - 1, by omega⟩
      have hlt : n / b < n := Nat.div_lt_self (by omega) (by omega)
      simp only [digsF, h0, if_false]
      rw [ih (n / b) hlt f g (by omega) (by omega)]

theorem digs_zero (b : Nat) : digs b 0 = [] := rfl

theorem digs_pos (b n : Nat) (hb : 2 ≤ b) (h : 0 < n) : digs b n = ((n % b : Nat) : Int) :: digs b (n / b) := by
  obtain ⟨m, rfl⟩ : ∃ k, n = k + 1 := ⟨n - 1, by omega⟩
  have hlt : (m + 1) / b < m + 1 := Nat.div_lt_self (by omega) (by omega)
  show digsF (m + 1) b (m + 1) = _
  simp only [digsF, Nat.add_eq_zero_iff, Nat.one_ne_zero, and_false, if_false]
  rw [digsF_fuel b hb ((m + 1) / b) m ((m + 1) / b) (by omega) (by omega)]
  rfl

/-- At most k digits below b to the power of k. -/
theorem digs_len (b : Nat) (hb : 2 ≤ b) : ∀ k n, n < 2 ^ k → (digs b n).length ≤ k := by
  intro k
  induction k with
  | zero => intro n h; have : n = 0 := by omega
            subst this; simp [digs_zero]
  | succ k ih =>
    intro n h
    by_cases h0 : n = 0
    · subst h0; simp [digs_zero]
    · rw [digs_pos b n hb (by omega)]
      have h2 : n / b ≤ n / 2 := Nat.div_le_div_left hb (by omega)
      have := ih (n / b) (by rw [Nat.pow_succ] at h; omega)
      simp; omega

theorem digs_range (b : Nat) (hb : 2 ≤ b) : ∀ n, ∀ d ∈ digs b n, 0 ≤ d ∧ d < b := by
  intro n
  induction n using Nat.strongRecOn with
  | ind n ih =>
    intro d hd
    by_cases h0 : n = 0
    · subst h0; simp [digs_zero] at hd
    · rw [digs_pos b n hb (by omega)] at hd
      have hlt : n / b < n := Nat.div_lt_self (by omega) (by omega)
      rcases List.mem_cons.1 hd with rfl | hd
      · have := Nat.mod_lt n (show b > 0 by omega); omega
      · exact ih _ hlt d hd

/-- b to the power of i. -/
def pw (b : Int) : Nat → Int
  | 0 => 1
  | i + 1 => pw b i * b

theorem pw_pos (b : Int) (hb : 2 ≤ b) : ∀ i, 1 ≤ pw b i := by
  intro i
  induction i with
  | zero => simp [pw]
  | succ i ih =>
    have := Int.mul_le_mul ih (show (1 : Int) ≤ b by omega) (by omega) (by omega)
    simp only [pw]; omega

theorem pw_le (b : Int) (h0 : 0 ≤ b) (hb : b ≤ 16) : ∀ i, pw b i ≤ pw 16 i := by
  intro i
  induction i with
  | zero => simp [pw]
  | succ i ih =>
    simp only [pw]
    have h16 : 0 ≤ pw 16 i := by have := pw_pos 16 (by omega) i; omega
    exact Int.mul_le_mul ih hb h0 h16

theorem pw_mono16 (i : Nat) (h : i ≤ 9) : pw 16 i ≤ 68719476736 := by
  have : ∀ i, i ≤ 9 → pw 16 i ≤ 68719476736 := by decide
  exact this i h

/-- The greatest and the least integer with i digits in base -b. -/
def ngHi (b : Int) : Nat → Int
  | 0 => 0
  | i + 1 => if i % 2 = 0 then ngHi b i + (b - 1) * pw b i else ngHi b i
def ngLo (b : Int) : Nat → Int
  | 0 => 0
  | i + 1 => if i % 2 = 0 then ngLo b i else ngLo b i - (b - 1) * pw b i

theorem pw_sub (b : Int) (i : Nat) : (b - 1) * pw b i = pw b (i + 1) - pw b i := by
  simp only [pw]; rw [Int.sub_mul, Int.one_mul, Int.mul_comm]

theorem ng_bound (b : Int) (hb : 2 ≤ b) : ∀ i, 0 ≤ ngHi b i ∧ ngHi b i ≤ pw b i ∧ -(pw b i) ≤ ngLo b i ∧ ngLo b i ≤ 0 := by
  intro i
  induction i with
  | zero => simp [ngHi, ngLo, pw]
  | succ i ih =>
    have h1 := pw_pos b hb i
    have h2 := pw_sub b i
    have h3 : pw b i ≤ pw b (i + 1) := by
      have := Int.mul_le_mul (Int.le_refl (pw b i)) (show (1 : Int) ≤ b by omega) (by omega) (by omega)
      simp only [pw]; omega
    simp only [ngHi, ngLo, h2]
    split <;> omega

/-- The number of lists of p digits -1, 0, 1 with the value n and the weight w. -/
def cs : Nat → Int → Int → Int
  | 0, n, w => if n = 0 ∧ w = 0 then 1 else 0
  | p + 1, n, w => if w < 0 then 0 else if n.tmod 2 = 0 then cs p (n.tdiv 2) w else cs p ((n - 1).tdiv 2) (w - 1) + cs p ((n + 1).tdiv 2) (w - 1)

theorem cs_bound : ∀ p n w, 0 ≤ cs p n w ∧ cs p n w ≤ ((2 ^ p : Nat) : Int) := by
  intro p
  induction p with
  | zero => intro n w; simp only [cs]; split <;> simp
  | succ p ih =>
    intro n w
    have h1 := ih (n.tdiv 2) w
    have h2 := ih ((n - 1).tdiv 2) (w - 1)
    have h3 := ih ((n + 1).tdiv 2) (w - 1)
    simp only [cs, Nat.pow_succ]
    split
    · omega
    · split <;> omega

theorem cs_neg (p : Nat) (n w : Int) (h : w < 0) : cs p n w = 0 := by
  cases p with
  | zero => simp only [cs]; rw [if_neg (by omega)]
  | succ p => simp only [cs, h, if_true]

theorem cs_over : ∀ (p : Nat) (n w : Int), (p : Int) < w → cs p n w = 0 := by
  intro p
  induction p with
  | zero => intro n w h; simp only [cs]; rw [if_neg (by omega)]
  | succ p ih =>
    intro n w h
    simp only [cs]
    rw [if_neg (by omega), ih _ w (by omega), ih _ (w - 1) (by omega), ih _ (w - 1) (by omega)]
    simp

theorem tdiv2_bound (n : Int) (h : -5001 ≤ n) (g : n ≤ 5001) : -2500 ≤ n.tdiv 2 ∧ n.tdiv 2 ≤ 2500 := by
  rcases Int.le_total 0 n with h0 | h0
  · rw [Int.tdiv_eq_ediv_of_nonneg h0]; omega
  · have : n = -(-n) := by omega
    rw [this, Int.neg_tdiv, Int.tdiv_eq_ediv_of_nonneg (by omega)]; omega

end Go.Proofs.YtjogaoocjcofdaaDoor.Pl
