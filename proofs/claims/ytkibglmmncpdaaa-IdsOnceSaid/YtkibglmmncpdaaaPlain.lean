/- Plain lemmas on the bytes of numbers: no program, no memory. Conditions: none beyond each lemma's own. -/
import Derived.Lib.BitFns
namespace Go.Proofs.Ytkibglmmncpdaaa

/-- The bytes of a number. -/
def enc (n : Nat) : List Int :=
  if n < 128 then [(n : Int)] else ((128 + n % 128 : Nat) : Int) :: enc (n / 128)
termination_by n
decreasing_by omega

theorem enc_small {n : Nat} (h : n < 128) : enc n = [(n : Int)] := by rw [enc, if_pos h]
theorem enc_big {n : Nat} (h : 128 ≤ n) : enc n = ((128 + n % 128 : Nat) : Int) :: enc (n / 128) := by rw [enc, if_neg (by omega)]

/-- A byte. -/
def Byte (x : Int) : Prop := 0 ≤ x ∧ x ≤ 255

theorem enc_byte (n : Nat) : ∀ x ∈ enc n, Byte x := by
  induction n using Nat.strongRecOn with
  | _ n ih =>
    intro x hx
    by_cases h : n < 128
    · rw [enc_small h] at hx
      simp at hx
      subst hx
      exact ⟨by omega, by omega⟩
    · rw [enc_big (by omega)] at hx
      rcases List.mem_cons.1 hx with rfl | hx
      · exact ⟨by omega, by omega⟩
      · exact ih (n / 128) (by omega) x hx

theorem enc_pos (n : Nat) : 1 ≤ (enc n).length := by
  by_cases h : n < 128
  · rw [enc_small h]; simp
  · rw [enc_big (by omega)]; simp

theorem enc_mono : ∀ (b a : Nat), a ≤ b → (enc a).length ≤ (enc b).length := by
  intro b
  induction b using Nat.strongRecOn with
  | _ b ih =>
    intro a hab
    by_cases ha : a < 128
    · rw [enc_small ha]; exact enc_pos b
    · rw [enc_big (n := a) (by omega), enc_big (n := b) (by omega)]
      simp only [List.length_cons]
      have := ih (b / 128) (by omega) (a / 128) (by omega)
      omega

theorem enc_le (k : Nat) : ∀ n, n < 128 ^ (k + 1) → (enc n).length ≤ k + 1 := by
  induction k with
  | zero => intro n h; rw [enc_small (by simpa using h)]; simp
  | succ k ih =>
    intro n h
    by_cases hn : n < 128
    · rw [enc_small hn]; simp
    · rw [enc_big (by omega)]
      simp only [List.length_cons]
      have := ih (n / 128) (by rw [Nat.pow_succ] at h; omega)
      omega

theorem enc_le10 (n : Nat) (h : n < 18446744073709551616) : (enc n).length ≤ 10 := enc_le 9 n (by omega)

theorem bitLen_div128 (n : Nat) (h : 128 ≤ n) (h' : n < 18446744073709551616) : Lib.bitLen n = 7 + Lib.bitLen (n / 128) := Lib.bitLen_shift 7 n h h'

theorem bitLen_pos (n : Nat) (h : n ≠ 0) (h' : n < 18446744073709551616) : 1 ≤ Lib.bitLen n := by
  rw [Lib.bitLen_half n h h']; omega

theorem enc_size (n : Nat) (h : n < 18446744073709551616) : (enc n).length = max 1 ((Lib.bitLen n + 6) / 7) := by
  induction n using Nat.strongRecOn with
  | _ n ih =>
    by_cases hn : n < 128
    · have h7 := Lib.bitLen_le n 7 (by omega) (by omega)
      rw [enc_small hn]
      simp only [List.length_cons, List.length_nil]
      omega
    · rw [enc_big (by omega)]
      simp only [List.length_cons]
      have h1 := ih (n / 128) (by omega) (by omega)
      rw [h1, bitLen_div128 n (by omega) h]
      have := bitLen_pos (n / 128) (by omega) (by omega)
      omega

/-- A number with a sign as one without. -/
def zig (k : Int) : Nat := if k < 0 then (2 * (-(k + 1)) + 1).toNat else (2 * k).toNat
/-- And back. -/
def unzig (n : Nat) : Int := if n % 2 = 1 then -((n / 2 : Nat) : Int) - 1 else ((n / 2 : Nat) : Int)

theorem unzig_zig (k : Int) : unzig (zig k) = k := by unfold unzig zig; split <;> split <;> omega
theorem zig_unzig (n : Nat) : zig (unzig n) = n := by unfold unzig zig; split <;> split <;> omega
theorem zig_lt (k : Int) (h1 : -9223372036854775808 ≤ k) (h2 : k ≤ 9223372036854775807) : zig k < 18446744073709551616 := by unfold zig; split <;> omega
theorem unzig_range (n : Nat) (h : n < 18446744073709551616) : -9223372036854775808 ≤ unzig n ∧ unzig n ≤ 9223372036854775807 := by unfold unzig; split <;> omega

/-- What is read from the i-th byte on, 'acc' having come: the number, how many bytes, what went wrong. -/
def rdv (i acc : Nat) : List Int → Nat × Nat × Int
  | [] => (0, 0, 7)
  | x :: r => if (i = 9 ∧ 1 < x) ∨ (0 < i ∧ x = 0) then (0, 0, 10) else if x < 128 then (acc + x.toNat * 128 ^ i, i + 1, 0) else rdv (i + 1) (acc + (x.toNat - 128) * 128 ^ i) r

theorem rdv_nil (i acc : Nat) : rdv i acc [] = (0, 0, 7) := rfl
theorem rdv_bad {i acc : Nat} {x : Int} {r : List Int} (h : (i = 9 ∧ 1 < x) ∨ (0 < i ∧ x = 0)) : rdv i acc (x :: r) = (0, 0, 10) := by rw [rdv, if_pos h]
theorem rdv_end {i acc : Nat} {x : Int} {r : List Int} (h : ¬ ((i = 9 ∧ 1 < x) ∨ (0 < i ∧ x = 0))) (h' : x < 128) : rdv i acc (x :: r) = (acc + x.toNat * 128 ^ i, i + 1, 0) := by rw [rdv, if_neg h, if_pos h']
theorem rdv_on {i acc : Nat} {x : Int} {r : List Int} (h : ¬ ((i = 9 ∧ 1 < x) ∨ (0 < i ∧ x = 0))) (h' : ¬ x < 128) : rdv i acc (x :: r) = rdv (i + 1) (acc + (x.toNat - 128) * 128 ^ i) r := by rw [rdv, if_neg h, if_neg h']

/-- What was put is read back. -/
theorem rdv_enc : ∀ (n i acc : Nat) (r : List Int), (i = 0 ∨ 0 < n) → i ≤ 9 → n * 128 ^ i < 18446744073709551616 →
    rdv i acc (enc n ++ r) = (acc + n * 128 ^ i, i + (enc n).length, 0) := by
  intro n
  induction n using Nat.strongRecOn with
  | _ n ih =>
    intro i acc r h0 hi hn
    by_cases h : n < 128
    · rw [enc_small h]
      rw [show [(n : Int)] ++ r = (n : Int) :: r from rfl, rdv_end _ (by omega)]
      · simp
      · rintro (⟨rfl, h1⟩ | ⟨h1, h2⟩) <;> omega
    · rw [enc_big (by omega)]
      rw [List.cons_append, rdv_on _ (by omega)]
      · have hpow : 128 ^ (i + 1) = 128 * 128 ^ i := by rw [Nat.pow_succ, Nat.mul_comm]
        have hle : n / 128 * 128 ^ (i + 1) ≤ n * 128 ^ i := by
          rw [hpow, ← Nat.mul_assoc]
          exact Nat.mul_le_mul_right _ (by omega)
        have hi9 : i + 1 ≤ 9 := by
          rcases Nat.lt_or_ge i 9 with h9 | h9
          · omega
          · obtain rfl : i = 9 := by omega
            omega
        rw [ih (n / 128) (by omega) (i + 1) _ r (.inr (by omega)) hi9 (by omega)]
        have e : acc + ((((128 + n % 128 : Nat) : Int)).toNat - 128) * 128 ^ i + n / 128 * 128 ^ (i + 1) = acc + n * 128 ^ i := by
          rw [Int.toNat_natCast, hpow, show 128 + n % 128 - 128 = n % 128 by omega, ← Nat.mul_assoc, Nat.add_assoc, ← Nat.add_mul, show n % 128 + n / 128 * 128 = n by omega]
        rw [e]
        simp only [List.length_cons, Prod.mk.injEq, true_and, and_true]
        omega
      · rintro (⟨rfl, h1⟩ | ⟨h1, h2⟩) <;> omega

theorem rdv_enc0 (n : Nat) (r : List Int) (h : n < 18446744073709551616) : rdv 0 0 (enc n ++ r) = (n, (enc n).length, 0) := by
  have := rdv_enc n 0 0 r (.inl rfl) (by omega) (by simpa using h)
  simpa using this

/-- What is read has just those bytes. -/
theorem rdv_once : ∀ (l : List Int) (i acc n c : Nat), (∀ x ∈ l, Byte x) → i ≤ 9 → rdv i acc l = (n, c, 0) →
    ∃ m, n = acc + m * 128 ^ i ∧ c = i + (enc m).length ∧ enc m = l.take (enc m).length ∧ (enc m).length ≤ l.length ∧ m < 128 ^ (9 - i) * 2 ∧ (0 < i → 0 < m) := by
  intro l
  induction l with
  | nil => intro i acc n c _ _ h; simp [rdv] at h
  | cons x r ih =>
    intro i acc n c hb hi h
    have hx := hb x (by simp)
    obtain ⟨hx0, hx1⟩ := hx
    by_cases hbad : (i = 9 ∧ 1 < x) ∨ (0 < i ∧ x = 0)
    · rw [rdv_bad hbad] at h; simp at h
    · by_cases hlt : x < 128
      · rw [rdv_end hbad hlt] at h
        simp only [Prod.mk.injEq, and_true] at h
        obtain ⟨rfl, rfl⟩ := h
        have he : enc x.toNat = [x] := by rw [enc_small (by omega)]; simp; omega
        refine ⟨x.toNat, rfl, by rw [he]; rfl, by rw [he]; rfl, by rw [he]; simp, ?_, fun h => by omega⟩
        rcases Nat.lt_or_ge i 9 with h9 | h9
        · have : 128 ^ 1 ≤ 128 ^ (9 - i) := Nat.pow_le_pow_right (by omega) (by omega)
          omega
        · obtain rfl : i = 9 := by omega
          simp; omega
      · rw [rdv_on hbad hlt] at h
        have hi9 : i + 1 ≤ 9 := by
          rcases Nat.lt_or_ge i 9 with h9 | h9
          · omega
          · obtain rfl : i = 9 := by omega
            exfalso; omega
        obtain ⟨m, rfl, rfl, h3, h4, h5, h6⟩ := ih (i + 1) _ n c (fun y hy => hb y (by simp [hy])) hi9 h
        have hm := h6 (by omega)
        have he : enc (x.toNat - 128 + m * 128) = x :: enc m := by
          rw [enc_big (by omega), show (x.toNat - 128 + m * 128) / 128 = m by omega]
          congr 1
          omega
        have hpow : 128 ^ (i + 1) = 128 * 128 ^ i := by rw [Nat.pow_succ, Nat.mul_comm]
        refine ⟨x.toNat - 128 + m * 128, ?_, ?_, ?_, ?_, ?_, fun _ => by omega⟩
        · rw [hpow, Nat.add_mul, Nat.mul_assoc]; omega
        · rw [he]; simp only [List.length_cons]; omega
        · rw [he]; simp only [List.length_cons, List.take_succ_cons]; rw [← h3]
        · rw [he]; simp only [List.length_cons]; omega
        · have e : 128 ^ (9 - i) = 128 * 128 ^ (9 - (i + 1)) := by
            rw [show 9 - i = (9 - (i + 1)) + 1 by omega, Nat.pow_succ, Nat.mul_comm]
          rw [e]
          omega

theorem rdv_once0 {l : List Int} {n c : Nat} (hb : ∀ x ∈ l, Byte x) (h : rdv 0 0 l = (n, c, 0)) :
    n < 18446744073709551616 ∧ c = (enc n).length ∧ enc n = l.take c ∧ 1 ≤ c ∧ c ≤ l.length := by
  obtain ⟨m, h1, h2, h3, h4, h5, _⟩ := rdv_once l 0 0 n c hb (by omega) h
  obtain rfl : n = m := by simpa using h1
  have hc : c = (enc n).length := by simpa using h2
  exact ⟨by simpa using h5, hc, by rw [hc]; exact h3, by rw [hc]; exact enc_pos n, by rw [hc]; exact h4⟩

theorem rdv_err : ∀ (l : List Int) (i acc : Nat), rdv i acc l = (0, 0, 7) ∨ rdv i acc l = (0, 0, 10) ∨ (rdv i acc l).2.2 = 0 := by
  intro l
  induction l with
  | nil => intro i acc; exact .inl rfl
  | cons x r ih =>
    intro i acc
    by_cases hbad : (i = 9 ∧ 1 < x) ∨ (0 < i ∧ x = 0)
    · rw [rdv_bad hbad]; exact .inr (.inl rfl)
    · by_cases hlt : x < 128
      · rw [rdv_end hbad hlt]; exact .inr (.inr rfl)
      · rw [rdv_on hbad hlt]; exact ih _ _

theorem rdv_cases {l : List Int} (hb : ∀ x ∈ l, Byte x) : rdv 0 0 l = (0, 0, 7) ∨ rdv 0 0 l = (0, 0, 10) ∨
    ∃ n c, rdv 0 0 l = (n, c, 0) ∧ n < 18446744073709551616 ∧ c = (enc n).length ∧ enc n = l.take c ∧ 1 ≤ c ∧ c ≤ l.length := by
  rcases rdv_err l 0 0 with h | h | h
  · exact .inl h
  · exact .inr (.inl h)
  · refine .inr (.inr ?_)
    generalize hr : rdv 0 0 l = r at h
    obtain ⟨n, c, e⟩ := r
    simp only at h
    subst h
    exact ⟨n, c, rfl, rdv_once0 hb hr⟩

end Go.Proofs.Ytkibglmmncpdaaa
