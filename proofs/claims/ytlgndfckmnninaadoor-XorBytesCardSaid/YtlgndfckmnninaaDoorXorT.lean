/- Plain laws of xor'd values: the bits of a value, and what bits say of a value: no program, no memory. Conditions: each lemma's own. -/
import Derived.Test.YtlgndfckmnninaaDoorPlain
import Derived.Lib.TrailingZeros
namespace Go.Proofs.YtlgndfckmnninaaDoor

/-- How many noughts are ahead of a number. -/
def lz (x : Nat) : Nat := 64 - Lib.bitLen x
/-- How many noughts are behind a number. -/
def tz (x : Nat) : Nat := Lib.ctz 64 x

theorem aux_lt : ∀ (f x : Nat), x < 2 ^ f → x < 2 ^ Lib.bitLenAux f x
  | 0, x, h => by simpa [Lib.bitLenAux] using h
  | f + 1, x, h => by
    unfold Lib.bitLenAux
    split
    · subst x; decide
    · have := aux_lt f (x / 2) (by rw [Nat.pow_succ] at h; omega)
      rw [Nat.add_comm, Nat.pow_succ]; omega
theorem lz_iff {x a : Nat} (hx : x < 2 ^ 64) (ha : a ≤ 64) : a ≤ lz x ↔ x < 2 ^ (64 - a) := by
  unfold lz
  have h1 : x < 2 ^ Lib.bitLen x := aux_lt 64 x hx
  have h2 := Lib.bitLen_le x 64 (by omega) hx
  constructor
  · intro h
    exact Nat.lt_of_lt_of_le h1 (Nat.pow_le_pow_right (by omega) (by omega))
  · intro h
    have := Lib.bitLen_le x (64 - a) (by omega) h
    omega
theorem tz_spec {x : Nat} (h0 : x ≠ 0) (hx : x < 2 ^ 64) : ∃ m, x = 2 ^ tz x * (2 * m + 1) ∧ tz x < 64 := by
  unfold tz Lib.ctz
  rw [if_neg h0]
  exact Lib.ctzFrom_spec 64 x (by omega) hx
theorem pow_dvd_odd : ∀ {b m : Nat}, 2 ^ b ∣ 2 * m + 1 → b = 0
  | 0, _, _ => rfl
  | b + 1, m, ⟨k, h⟩ => by rw [Nat.pow_succ, Nat.mul_right_comm] at h; omega
theorem tz_iff {x b : Nat} (h0 : x ≠ 0) (hx : x < 2 ^ 64) : b ≤ tz x ↔ 2 ^ b ∣ x := by
  obtain ⟨m, h1, h2⟩ := tz_spec h0 hx
  constructor
  · intro h
    rw [h1]
    exact Nat.dvd_trans (Nat.pow_dvd_pow 2 h) (Nat.dvd_mul_right _ _)
  · intro h
    rcases Nat.lt_or_ge (tz x) b with hlt | hge
    · rw [h1, show b = tz x + (b - tz x) by omega, Nat.pow_add] at h
      have := pow_dvd_odd (Nat.dvd_of_mul_dvd_mul_left (Nat.two_pow_pos _) h)
      omega
    · exact hge
theorem tz_le {x : Nat} (h0 : x ≠ 0) (hx : x < 2 ^ 64) : 2 ^ tz x ≤ x := Nat.le_of_dvd (by omega) ((tz_iff h0 hx).1 (Nat.le_refl _))
theorem lz_tz {x : Nat} (h0 : x ≠ 0) (hx : x < 2 ^ 64) : lz x + tz x ≤ 63 := by
  have h1 := tz_le h0 hx
  have h2 := (tz_spec h0 hx).choose_spec.2
  have h3 : lz x ≤ 64 := by unfold lz; omega
  have h4 := (lz_iff hx h3).1 (Nat.le_refl _)
  have : tz x < 64 - lz x := (Nat.pow_lt_pow_iff_right (by omega)).1 (Nat.lt_of_le_of_lt h1 h4)
  omega

/-- A state of values that may be. -/
def rightX (N Ld Tr : Int) : Bool := decide (0 ≤ N ∧ N ≤ 4096 ∧ (Ld = 64 ∧ Tr = 0 ∨ 0 ≤ Ld ∧ 0 ≤ Tr ∧ Ld + Tr ≤ 63))
theorem rightX_of {N Ld Tr : Int} (h : rightX N Ld Tr = true) : 0 ≤ N ∧ N ≤ 4096 ∧ (Ld = 64 ∧ Tr = 0 ∨ 0 ≤ Ld ∧ 0 ≤ Tr ∧ Ld + Tr ≤ 63) := by simpa [rightX] using h
theorem rightX_mk {N Ld Tr : Int} (h : 0 ≤ N ∧ N ≤ 4096 ∧ (Ld = 64 ∧ Tr = 0 ∨ 0 ≤ Ld ∧ 0 ≤ Tr ∧ Ld + Tr ≤ 63)) : rightX N Ld Tr = true := decide_eq_true h
theorem rightX_no {N Ld Tr : Int} (h : rightX N Ld Tr = false) : ¬ (0 ≤ N ∧ N ≤ 4096 ∧ (Ld = 64 ∧ Tr = 0 ∨ 0 ≤ Ld ∧ 0 ≤ Tr ∧ Ld + Tr ≤ 63)) := of_decide_eq_false h
/-- Is the number within the window? -/
def inW (a b x : Nat) : Bool := decide (a < 64 ∧ a ≤ lz x ∧ b ≤ tz x)
theorem inW_of {a b x : Nat} (h : inW a b x = true) : a < 64 ∧ a ≤ lz x ∧ b ≤ tz x := by simpa [inW] using h
theorem inW_mk {a b x : Nat} (h : a < 64 ∧ a ≤ lz x ∧ b ≤ tz x) : inW a b x = true := decide_eq_true h
theorem inW_no {a b x : Nat} (h : inW a b x = false) : ¬ (a < 64 ∧ a ≤ lz x ∧ b ≤ tz x) := of_decide_eq_false h

/-- A number's bits within a window. -/
def mid (a b x : Nat) : List Bool := bitsOf (64 - a - b) (x / 2 ^ b)
/-- The bits of what a value differs by. -/
def encD (a b x : Nat) : List Bool :=
  if x = 0 then [false]
  else if inW a b x = true then [true, false] ++ mid a b x
  else [true, true] ++ (bitsOf 6 (lz x) ++ (bitsOf 6 (64 - lz x - tz x - 1) ++ mid (lz x) (tz x) x))
/-- The window behind. -/
def winD (a b x : Nat) : Nat × Nat := if x = 0 then (a, b) else if inW a b x = true then (a, b) else (lz x, tz x)
/-- The bits of a value. -/
def encX (N : Int) (V a b v : Nat) : List Bool := if N = 0 then bitsOf 64 v else encD a b (v ^^^ V)
def winX (N : Int) (V a b v : Nat) : Nat × Nat := if N = 0 then (a, b) else winD a b (v ^^^ V)

/-- The number within a window. -/
def outW (a b : Nat) (l : List Bool) : Nat := val (l.take (64 - a - b)) * 2 ^ b
/-- What bits say of what a value differs by: what goes wrong, the number, the window, how many bits. -/
def getD (l : List Bool) (a b : Nat) : Int × Nat × Nat × Nat × Nat :=
  if l.length < 1 then (50, 0, 0, 0, 0)
  else if val (l.take 1) = 0 then (0, 0, a, b, 1)
  else if l.length < 2 then (50, 0, 0, 0, 0)
  else if val ((l.drop 1).take 1) = 0 then
    if a = 64 then (50, 0, 0, 0, 0)
    else if l.length < 2 + (64 - a - b) then (50, 0, 0, 0, 0)
    else if outW a b (l.drop 2) = 0 then (50, 0, 0, 0, 0)
    else (0, outW a b (l.drop 2), a, b, 2 + (64 - a - b))
  else if l.length < 14 then (50, 0, 0, 0, 0)
  else if 64 < val ((l.drop 2).take 6) + (val ((l.drop 8).take 6) + 1) then (50, 0, 0, 0, 0)
  else if l.length < 14 + (val ((l.drop 8).take 6) + 1) then (50, 0, 0, 0, 0)
  else if outW (val ((l.drop 2).take 6)) (64 - val ((l.drop 2).take 6) - (val ((l.drop 8).take 6) + 1)) (l.drop 14) = 0 then (50, 0, 0, 0, 0)
  else if lz (outW (val ((l.drop 2).take 6)) (64 - val ((l.drop 2).take 6) - (val ((l.drop 8).take 6) + 1)) (l.drop 14)) ≠ val ((l.drop 2).take 6) ∨
      tz (outW (val ((l.drop 2).take 6)) (64 - val ((l.drop 2).take 6) - (val ((l.drop 8).take 6) + 1)) (l.drop 14)) ≠ 64 - val ((l.drop 2).take 6) - (val ((l.drop 8).take 6) + 1) ∨
      inW a b (outW (val ((l.drop 2).take 6)) (64 - val ((l.drop 2).take 6) - (val ((l.drop 8).take 6) + 1)) (l.drop 14)) = true then (50, 0, 0, 0, 0)
  else (0, outW (val ((l.drop 2).take 6)) (64 - val ((l.drop 2).take 6) - (val ((l.drop 8).take 6) + 1)) (l.drop 14), val ((l.drop 2).take 6), 64 - val ((l.drop 2).take 6) - (val ((l.drop 8).take 6) + 1), 14 + (val ((l.drop 8).take 6) + 1))
/-- What bits say of a value: what goes wrong, the value, the window, how many bits. -/
def getX (l : List Bool) (N : Int) (V a b : Nat) : Int × Nat × Nat × Nat × Nat :=
  if N = 0 then (if l.length < 64 then (50, 0, 0, 0, 0) else (0, val (l.take 64), a, b, 64))
  else if (getD l a b).1 ≠ 0 then (50, 0, 0, 0, 0)
  else (0, V ^^^ (getD l a b).2.1, (getD l a b).2.2.1, (getD l a b).2.2.2.1, (getD l a b).2.2.2.2)

theorem length_mid (a b x : Nat) : (mid a b x).length = 64 - a - b := by simp [mid, length_bitsOf]

/-- A number within a window is what its bits say. -/
theorem outW_mid {a b x : Nat} (m : List Bool) (h0 : x ≠ 0) (hx : x < 2 ^ 64) (ha : a ≤ lz x) (hb : b ≤ tz x) (hab : a + b ≤ 64) : outW a b (mid a b x ++ m) = x := by
  have hd := (tz_iff h0 hx).1 hb
  have hl := (lz_iff hx (by omega)).1 ha
  unfold outW
  rw [List.take_left' (length_mid _ _ _), mid, val_bitsOf, Nat.mod_eq_of_lt]
  · exact Nat.div_mul_cancel hd
  · rw [Nat.div_lt_iff_lt_mul (Nat.two_pow_pos _), ← Nat.pow_add, show 64 - a - b + b = 64 - a by omega]
    exact hl
/-- What bits say of a number within a window. -/
theorem outW_in {a b : Nat} {l : List Bool} (hab : a + b ≤ 64) (hl : 64 - a - b ≤ l.length) (h0 : outW a b l ≠ 0) : outW a b l < 2 ^ 64 ∧ a ≤ lz (outW a b l) ∧ b ≤ tz (outW a b l) ∧ mid a b (outW a b l) = l.take (64 - a - b) := by
  have h1 := val_lt (l.take (64 - a - b))
  rw [List.length_take, Nat.min_eq_left hl] at h1
  have h2 : outW a b l < 2 ^ (64 - a) := by
    unfold outW
    calc val (l.take (64 - a - b)) * 2 ^ b < 2 ^ (64 - a - b) * 2 ^ b := Nat.mul_lt_mul_of_pos_right h1 (Nat.two_pow_pos _)
      _ = 2 ^ (64 - a) := by rw [← Nat.pow_add, show 64 - a - b + b = 64 - a by omega]
  have h3 : outW a b l < 2 ^ 64 := Nat.lt_of_lt_of_le h2 (Nat.pow_le_pow_right (by omega) (by omega))
  refine ⟨h3, (lz_iff h3 (by omega)).2 h2, (tz_iff h0 h3).2 (Nat.dvd_mul_left _ _), ?_⟩
  unfold mid
  have e : outW a b l / 2 ^ b = val (l.take (64 - a - b)) := Nat.mul_div_cancel _ (Nat.two_pow_pos _)
  rw [e]
  have := bitsOf_val (l.take (64 - a - b))
  rw [List.length_take, Nat.min_eq_left hl] at this
  exact this

theorem bit_one (l : List Bool) (h : 1 ≤ l.length) : (val (l.take 1) = 0 ∧ l.take 1 = [false]) ∨ (val (l.take 1) = 1 ∧ l.take 1 = [true]) := by
  cases l with
  | nil => simp at h
  | cons b l => cases b <;> simp [val]
theorem cut_two (l : List Bool) (n : Nat) : l.take (1 + n) = l.take 1 ++ (l.drop 1).take n := List.take_add

/-- What was written is read back. -/
theorem getD_back (a b x : Nat) (m : List Bool) (hab : a = 64 ∧ b = 0 ∨ a + b ≤ 63) (hx : x < 2 ^ 64) : getD (encD a b x ++ m) a b = (0, x, (winD a b x).1, (winD a b x).2, (encD a b x).length) := by
  unfold encD winD
  by_cases h0 : x = 0
  · subst h0
    unfold getD
    simp [val]
  · simp only [if_neg h0]
    by_cases hi : inW a b x = true
    · obtain ⟨i1, i2, i3⟩ := inW_of hi
      simp only [if_pos hi]
      have e := outW_mid m h0 hx i2 i3 (by omega)
      unfold getD
      have hd : ([true, false] ++ mid a b x ++ m).drop 2 = mid a b x ++ m := rfl
      have t1 : val (([true, false] ++ mid a b x ++ m).take 1) = 1 := by simp [val]
      have t2 : val ((([true, false] ++ mid a b x ++ m).drop 1).take 1) = 0 := by simp [val]
      have hl : ([true, false] ++ mid a b x ++ m).length = 2 + (64 - a - b) + m.length := by simp [length_mid]; omega
      have hl2 : ([true, false] ++ mid a b x).length = 2 + (64 - a - b) := by simp [length_mid]; omega
      rw [hd, e, t1, t2, hl, hl2, if_neg (by omega), if_neg (by omega), if_neg (by omega), if_pos rfl, if_neg (by omega), if_neg (by omega), if_neg h0]
    · simp only [if_neg hi]
      have hlt := lz_tz h0 hx
      have e := outW_mid m h0 hx (Nat.le_refl (lz x)) (Nat.le_refl (tz x)) (by omega)
      have v1 : val (bitsOf 6 (lz x)) = lz x := by rw [val_bitsOf]; exact Nat.mod_eq_of_lt (by omega)
      have v2 : val (bitsOf 6 (64 - lz x - tz x - 1)) = 64 - lz x - tz x - 1 := by rw [val_bitsOf]; exact Nat.mod_eq_of_lt (by omega)
      obtain ⟨l, hl⟩ : ∃ l, [true, true] ++ (bitsOf 6 (lz x) ++ (bitsOf 6 (64 - lz x - tz x - 1) ++ mid (lz x) (tz x) x)) ++ m = l := ⟨_, rfl⟩
      have hll : l.length = 14 + (64 - lz x - tz x) + m.length := by rw [← hl]; simp [length_mid, length_bitsOf]; omega
      have hl2 : ([true, true] ++ (bitsOf 6 (lz x) ++ (bitsOf 6 (64 - lz x - tz x - 1) ++ mid (lz x) (tz x) x))).length = 14 + (64 - lz x - tz x) := by simp [length_mid, length_bitsOf]; omega
      have t1 : val (l.take 1) = 1 := by rw [← hl]; simp [val]
      have t2 : val ((l.drop 1).take 1) = 1 := by rw [← hl]; simp [val]
      have d2 : l.drop 2 = bitsOf 6 (lz x) ++ (bitsOf 6 (64 - lz x - tz x - 1) ++ (mid (lz x) (tz x) x ++ m)) := by rw [← hl]; simp
      have d8 : l.drop 8 = bitsOf 6 (64 - lz x - tz x - 1) ++ (mid (lz x) (tz x) x ++ m) := by
        rw [show 8 = 2 + 6 by rfl, ← List.drop_drop, d2, List.drop_left' (length_bitsOf _ _)]
      have d14 : l.drop 14 = mid (lz x) (tz x) x ++ m := by
        rw [show 14 = 8 + 6 by rfl, ← List.drop_drop, d8, List.drop_left' (length_bitsOf _ _)]
      rw [hl, hl2]
      unfold getD
      rw [d2, d8, d14, List.take_left' (length_bitsOf _ _), List.take_left' (length_bitsOf _ _), v1, v2, t1, t2, hll, show 64 - lz x - tz x - 1 + 1 = 64 - lz x - tz x by omega, show 64 - lz x - (64 - lz x - tz x) = tz x by omega, e]
      rw [if_neg (by omega), if_neg (by omega), if_neg (by omega), if_neg (by omega), if_neg (by omega), if_neg (by omega), if_neg (by omega), if_neg h0, if_neg]
      simp
      simpa using hi

/-- What is read has, written again, just those bits. -/
theorem getD_take (l : List Bool) (a b x a' b' c : Nat) (hab : a = 64 ∧ b = 0 ∨ a + b ≤ 63) (h : getD l a b = (0, x, a', b', c)) : x < 2 ^ 64 ∧ (a', b') = winD a b x ∧ c ≤ l.length ∧ encD a b x = l.take c ∧ (a' = 64 ∧ b' = 0 ∨ a' + b' ≤ 63) := by
  unfold getD at h
  by_cases h1 : l.length < 1
  · rw [if_pos h1] at h; simp at h
  rw [if_neg h1] at h
  have b1 := bit_one l (by omega)
  by_cases h2 : val (l.take 1) = 0
  · rw [if_pos h2] at h
    simp only [Prod.mk.injEq, true_and] at h
    obtain ⟨rfl, rfl, rfl, rfl⟩ := h
    refine ⟨by omega, by simp [winD], by omega, ?_, hab⟩
    rcases b1 with ⟨_, e⟩ | ⟨e, _⟩
    · rw [e]; rfl
    · omega
  rw [if_neg h2] at h
  by_cases h3 : l.length < 2
  · rw [if_pos h3] at h; simp at h
  rw [if_neg h3] at h
  have b2 := bit_one (l.drop 1) (by simp; omega)
  have e1 : l.take 1 = [true] := by rcases b1 with ⟨e, _⟩ | ⟨_, e⟩; · omega
                                    · exact e
  by_cases h4 : val ((l.drop 1).take 1) = 0
  · rw [if_pos h4] at h
    have e2 : (l.drop 1).take 1 = [false] := by rcases b2 with ⟨_, e⟩ | ⟨e, _⟩; · exact e
                                                · omega
    have e3 : l.take 2 = [true, false] := by rw [show 2 = 1 + 1 by rfl, cut_two, e1, e2]; rfl
    by_cases h5 : a = 64
    · rw [if_pos h5] at h; simp at h
    rw [if_neg h5] at h
    by_cases h6 : l.length < 2 + (64 - a - b)
    · rw [if_pos h6] at h; simp at h
    rw [if_neg h6] at h
    by_cases h7 : outW a b (l.drop 2) = 0
    · rw [if_pos h7] at h; simp at h
    rw [if_neg h7] at h
    simp only [Prod.mk.injEq, true_and] at h
    obtain ⟨rfl, rfl, rfl, rfl⟩ := h
    obtain ⟨o1, o2, o3, o4⟩ := outW_in (a := a) (b := b) (l := l.drop 2) (by omega) (by simp; omega) h7
    have hi := inW_mk (a := a) (b := b) (x := outW a b (l.drop 2)) ⟨by omega, o2, o3⟩
    refine ⟨o1, by rw [winD, if_neg h7, if_pos hi], by omega, ?_, hab⟩
    rw [encD, if_neg h7, if_pos hi, o4, ← e3]
    exact List.take_add.symm
  · rw [if_neg h4] at h
    have e2 : (l.drop 1).take 1 = [true] := by rcases b2 with ⟨e, _⟩ | ⟨_, e⟩; · omega
                                               · exact e
    have e3 : l.take 2 = [true, true] := by rw [show 2 = 1 + 1 by rfl, cut_two, e1, e2]; rfl
    by_cases h5 : l.length < 14
    · rw [if_pos h5] at h; simp at h
    rw [if_neg h5] at h
    obtain ⟨A, hA⟩ : ∃ A, val ((l.drop 2).take 6) = A := ⟨_, rfl⟩
    obtain ⟨M, hM⟩ : ∃ M, val ((l.drop 8).take 6) = M := ⟨_, rfl⟩
    rw [hA, hM] at h
    by_cases h6 : 64 < A + (M + 1)
    · rw [if_pos h6] at h; simp at h
    rw [if_neg h6] at h
    by_cases h7 : l.length < 14 + (M + 1)
    · rw [if_pos h7] at h; simp at h
    rw [if_neg h7] at h
    obtain ⟨B, hB⟩ : ∃ B, 64 - A - (M + 1) = B := ⟨_, rfl⟩
    rw [hB] at h
    obtain ⟨X, hX⟩ : ∃ X, outW A B (l.drop 14) = X := ⟨_, rfl⟩
    rw [hX] at h
    by_cases h8 : X = 0
    · rw [if_pos h8] at h; simp at h
    rw [if_neg h8] at h
    have hM' : 64 - A - B = M + 1 := by omega
    obtain ⟨o1, o2, o3, o4⟩ := outW_in (a := A) (b := B) (l := l.drop 14) (by omega) (by simp; omega) (by rw [hX]; exact h8)
    rw [hX] at o1 o2 o3 o4
    by_cases h9 : lz X ≠ A ∨ tz X ≠ B ∨ inW a b X = true
    · rw [if_pos h9] at h; simp at h
    rw [if_neg h9] at h
    simp only [not_or, ne_eq, Decidable.not_not] at h9
    obtain ⟨g1, g2, g3⟩ := h9
    simp only [Prod.mk.injEq, true_and] at h
    obtain ⟨rfl, rfl, rfl, rfl⟩ := h
    refine ⟨o1, by rw [winD, if_neg h8, if_neg g3, g1, g2], by omega, ?_, by omega⟩
    rw [encD, if_neg h8, if_neg g3, g1, g2, o4, ← e3]
    have t6 : ∀ k, k + 6 ≤ l.length → bitsOf 6 (val ((l.drop k).take 6)) = (l.drop k).take 6 := fun k hk => by
      have := bitsOf_val ((l.drop k).take 6)
      rw [List.length_take, List.length_drop, Nat.min_eq_left (by omega)] at this
      exact this
    have q1 := t6 2 (by omega)
    have q2 := t6 8 (by omega)
    rw [hA] at q1
    rw [hM] at q2
    have s3 : (l.drop 8).take (6 + (M + 1)) = (l.drop 8).take 6 ++ (l.drop 14).take (M + 1) := by rw [List.take_add, List.drop_drop]
    have s2 : (l.drop 2).take (6 + (6 + (M + 1))) = (l.drop 2).take 6 ++ (l.drop 8).take (6 + (M + 1)) := by rw [List.take_add, List.drop_drop]
    have s1 : l.take (2 + (6 + (6 + (M + 1)))) = l.take 2 ++ (l.drop 2).take (6 + (6 + (M + 1))) := List.take_add
    rw [q1, show 64 - A - B - 1 = M by omega, q2, hM', show 14 + (M + 1) = 2 + (6 + (6 + (M + 1))) by omega, s1, s2, s3]

theorem xor_lt {v V : Nat} (hv : v < 2 ^ 64) (hV : V < 2 ^ 64) : v ^^^ V < 2 ^ 64 := Nat.xor_lt_two_pow hv hV
theorem xor_back (v V : Nat) : V ^^^ (v ^^^ V) = v := by rw [Nat.xor_comm v V, ← Nat.xor_assoc, Nat.xor_self, Nat.zero_xor]
theorem xor_back' (x V : Nat) : (V ^^^ x) ^^^ V = x := by rw [Nat.xor_comm V x, Nat.xor_assoc, Nat.xor_self, Nat.xor_zero]
theorem xor_zero_iff (v V : Nat) : v ^^^ V = 0 ↔ v = V := by
  constructor
  · intro h
    have := xor_back v V
    rw [h, Nat.xor_zero] at this
    exact this.symm
  · rintro rfl; exact Nat.xor_self _

theorem getX_back (N : Int) (V a b v : Nat) (m : List Bool) (hab : a = 64 ∧ b = 0 ∨ a + b ≤ 63) (hv : v < 2 ^ 64) (hV : V < 2 ^ 64) : getX (encX N V a b v ++ m) N V a b = (0, v, (winX N V a b v).1, (winX N V a b v).2, (encX N V a b v).length) := by
  unfold getX encX winX
  by_cases hN : N = 0
  · simp only [if_pos hN]
    rw [if_neg (by rw [List.length_append, length_bitsOf]; omega), List.take_left' (length_bitsOf _ _), val_bitsOf, Nat.mod_eq_of_lt hv, length_bitsOf]
  · simp only [if_neg hN]
    rw [getD_back a b _ m hab (xor_lt hv hV)]
    simp [xor_back]

theorem getX_take (l : List Bool) (N : Int) (V a b v a' b' c : Nat) (hab : a = 64 ∧ b = 0 ∨ a + b ≤ 63) (hV : V < 2 ^ 64) (h : getX l N V a b = (0, v, a', b', c)) :
    v < 2 ^ 64 ∧ (a', b') = winX N V a b v ∧ c ≤ l.length ∧ encX N V a b v = l.take c ∧ (a' = 64 ∧ b' = 0 ∨ a' + b' ≤ 63) := by
  unfold getX at h
  unfold winX encX
  by_cases hN : N = 0
  · simp only [if_pos hN] at h ⊢
    split at h
    · simp at h
    · rename_i hl
      simp only [Prod.mk.injEq, true_and] at h
      obtain ⟨rfl, rfl, rfl, rfl⟩ := h
      have h1 := val_lt (l.take 64)
      rw [List.length_take, Nat.min_eq_left (by omega)] at h1
      have h2 := bitsOf_val (l.take 64)
      rw [List.length_take, Nat.min_eq_left (by omega)] at h2
      exact ⟨h1, rfl, by omega, h2, hab⟩
  · simp only [if_neg hN] at h ⊢
    split at h
    · simp at h
    · rename_i hz
      have hz' : (getD l a b).1 = 0 := by simpa using hz
      simp only [Prod.mk.injEq, true_and] at h
      obtain ⟨rfl, rfl, rfl, rfl⟩ := h
      obtain ⟨k1, k2, k3, k4, k5⟩ := getD_take l a b (getD l a b).2.1 (getD l a b).2.2.1 (getD l a b).2.2.2.1 (getD l a b).2.2.2.2 hab (by rw [← hz'])
      rw [xor_back']
      exact ⟨xor_lt hV k1, k2, k3, k4, k5⟩
theorem getD_code (l : List Bool) (a b : Nat) : (getD l a b).1 = 0 ∨ getD l a b = (50, 0, 0, 0, 0) := by
  unfold getD
  repeat' split
  all_goals first | (left; rfl) | (right; rfl)
theorem getX_code (l : List Bool) (N : Int) (V a b : Nat) : (getX l N V a b).1 = 0 ∨ getX l N V a b = (50, 0, 0, 0, 0) := by
  unfold getX
  repeat' split
  all_goals first | (left; rfl) | (right; rfl)

theorem encD_len (a b x : Nat) (hab : a = 64 ∧ b = 0 ∨ a + b ≤ 63) (hx : x < 2 ^ 64) : (x = 0 → (encD a b x).length = 1) ∧ (x ≠ 0 → 2 ≤ (encD a b x).length) ∧ (encD a b x).length ≤ 78 := by
  have h1 := hab
  unfold encD
  by_cases h0 : x = 0
  · simp [h0]
  · have := lz_tz h0 hx
    rw [if_neg h0]
    split
    · simp [length_mid, h0]; omega
    · simp [length_mid, length_bitsOf, h0]; omega
theorem winD_ok (a b x : Nat) (hab : a = 64 ∧ b = 0 ∨ a + b ≤ 63) (hx : x < 2 ^ 64) : (winD a b x).1 = 64 ∧ (winD a b x).2 = 0 ∨ (winD a b x).1 + (winD a b x).2 ≤ 63 := by
  unfold winD
  by_cases h0 : x = 0
  · rw [if_pos h0]; exact hab
  · have := lz_tz h0 hx
    rw [if_neg h0]
    split
    · exact hab
    · exact .inr this
theorem winX_ok (N : Int) (V a b v : Nat) (hab : a = 64 ∧ b = 0 ∨ a + b ≤ 63) (hv : v < 2 ^ 64) (hV : V < 2 ^ 64) : (winX N V a b v).1 = 64 ∧ (winX N V a b v).2 = 0 ∨ (winX N V a b v).1 + (winX N V a b v).2 ≤ 63 := by
  unfold winX
  split
  · exact hab
  · exact winD_ok a b _ hab (xor_lt hv hV)
theorem encX_le (N : Int) (V a b v : Nat) (hab : a = 64 ∧ b = 0 ∨ a + b ≤ 63) (hv : v < 2 ^ 64) (hV : V < 2 ^ 64) : (encX N V a b v).length ≤ 78 := by
  unfold encX
  split
  · rw [length_bitsOf]; omega
  · exact (encD_len a b _ hab (xor_lt hv hV)).2.2
end Go.Proofs.YtlgndfckmnninaaDoor
