/- Walks of package bits: a writer's Put. Conditions: as stated. -/
import Derived.Test.YtlgndfckmnninaaDoorBitsA
namespace Go.Proofs.YtlgndfckmnninaaDoor
open Go.RowKit

theorem low_int (x n : Int) (w : World) (h0 : 0 ≤ x) (hx : x < 18446744073709551616) (hn0 : 0 ≤ n) (hn : n ≤ 64) :
    Calls Tryd.prog 58 #[.int .u64 x, .int .i64 n] w fun e w' => e = .returned (.int .u64 ((x.toNat % 2 ^ n.toNat : Nat) : Int)) ∧ w = w' := by
  obtain ⟨x, rfl⟩ := Int.eq_ofNat_of_zero_le h0
  obtain ⟨n, rfl⟩ := Int.eq_ofNat_of_zero_le hn0
  rw [Int.toNat_natCast, Int.toNat_natCast]
  exact low_any x n w (by omega) (by omega)

theorem add_int (w : World) (base g : Nat) (B : Option Nat) (L : List Bool) (x k : Int) (h : Wr w base g B L) (h0 : 0 ≤ x) (hx : x.toNat < 2 ^ k.toNat) (h1 : 1 ≤ k) (h8 : L.length % 8 + k.toNat ≤ 8) (hL : L.length ≤ 600000) (hbase : base ≤ w.heap.size) :
    Calls Tryd.prog 59 #[.pointer (some ⟨g, 0, none⟩), .int .u64 x, .int .i64 k] w fun e w' => e = .returned (.tuple #[]) ∧
      ∃ B', Wr w' base g B' (L ++ bitsOf k.toNat x.toNat) ∧ (B' = B ∨ ∃ b, B' = some b ∧ w.heap.size ≤ b) ∧ Touch g B w w' := by
  obtain ⟨x, rfl⟩ := Int.eq_ofNat_of_zero_le h0
  obtain ⟨k, rfl⟩ := Int.eq_ofNat_of_zero_le (show 0 ≤ k by omega)
  rw [Int.toNat_natCast, Int.toNat_natCast] at hx
  rw [Int.toNat_natCast] at h8
  rw [Int.toNat_natCast, Int.toNat_natCast]
  exact add_any w base g B L x k h hx (by omega) h8 hL hbase

theorem bits_step (L : List Bool) (X n m k : Nat) (hmn : m ≤ n) (hkm : k ≤ m) :
    L ++ bitsOf (n - m) (X / 2 ^ m) ++ bitsOf k (X / 2 ^ (m - k) % 2 ^ k) = L ++ bitsOf (n - (m - k)) (X / 2 ^ (m - k)) := by
  rw [bitsOf_mod, List.append_assoc, show n - (m - k) = (n - m) + k by omega, bitsOf_add, Nat.div_div_eq_div_mul, ← Nat.pow_add, show m - k + k = m by omega]

theorem row_step {B B1 B2 : Option Nat} {a b : Nat} (h1 : B1 = B ∨ ∃ x, B1 = some x ∧ a ≤ x) (h2 : B2 = B1 ∨ ∃ x, B2 = some x ∧ b ≤ x) (hab : a ≤ b) : B2 = B ∨ ∃ x, B2 = some x ∧ a ≤ x := by
  rcases h2 with rfl | ⟨x, rfl, hx⟩
  · exact h1
  · exact .inr ⟨x, rfl, Nat.le_trans hab hx⟩

set_option maxHeartbeats 1600000 in
/-- Put, where the bits have room. -/
theorem put_nat (w : World) (base g : Nat) (B : Option Nat) (L : List Bool) (x n : Nat) (h : Wr w base g B L) (hx : x < 18446744073709551616) (hn : n ≤ 64) (hL : L.length + n ≤ 524288) (hbase : base ≤ w.heap.size) :
    Calls Tryd.prog 19 #[.pointer (some ⟨g, 0, none⟩), .int .u64 x, .int .i64 n] w fun e w' => e = .returned (.int .i64 0) ∧
      ∃ B', Wr w' base g B' (L ++ bitsOf n x) ∧ (B' = B ∨ ∃ b, B' = some b ∧ w.heap.size ≤ b) ∧ Touch g B w w' := by
  have hW := h
  obtain ⟨hg0, v, hg, ho, hB⟩ := h
  have c1 := hg.cell 1
  simp at c1
  obtain ⟨X, hX⟩ : ∃ X, x % 2 ^ n = X := ⟨_, rfl⟩
  have hXn : X < 2 ^ n := by rw [← hX]; exact Nat.mod_lt _ (Nat.two_pow_pos n)
  have hX64 : X < 18446744073709551616 := Nat.lt_of_lt_of_le hXn (Nat.le_trans (Nat.pow_le_pow_right (by omega) hn) (by omega))
  have low1 := fun W => low_any x n W hx hn
  rw [hX] at low1
  have LOW := Lib.hid low1
  have HX := Lib.hid hX
  clear low1 hX ho hB hg
  go_enter Tryd.func19, Tryd.ntmps19
  go_wp2_with (first
    | (go_at_call 56; refine (is_any _ base g B L hW).mono ?_; rintro e w' ⟨rfl, rfl⟩)
    | (go_at_call 58; refine (LOW.out _).mono ?_; rintro e w' ⟨rfl, rfl⟩))
  go_loopw [2] (fun a wr => ∃ (m : Nat) (B' : Option Nat), a = .int .i64 m ∧ m ≤ n ∧ Wr wr base g B' (L ++ bitsOf (n - m) (X / 2 ^ m)) ∧ (B' = B ∨ ∃ b, B' = some b ∧ w.heap.size ≤ b) ∧ Touch g B w wr) (fun a _ => (intOf a).toNat)
  case atStart =>
    refine ⟨n, B, rfl, Nat.le_refl _, ?_, .inl rfl, Touch.refl g B w⟩
    rw [Nat.sub_self]
    simpa [bitsOf] using hW
  case round =>
    obtain ⟨m, B1, rfl, hmn, hW1, hB1, hT1⟩ := hrel
    rcases Nat.eq_zero_or_pos m with h0 | h0
    · subst h0
      rw [Nat.sub_zero, Nat.pow_zero, Nat.div_one, ← HX.out, bitsOf_mod] at hW1
      go_wp2
      go_ret
      exact ⟨rfl, B1, hW1, hB1, hT1⟩
    · obtain ⟨hg0', v1, hg1, ho1, hBv1⟩ := id hW1
      have d1 := hg1.cell 1
      simp only [List.length_append, length_bitsOf] at d1
      obtain ⟨N, hN⟩ : ∃ N, L.length + (n - m) = N := ⟨_, rfl⟩
      rw [hN] at d1
      simp at d1
      have HN := Lib.hid hN
      have hNle : N + m ≤ 524288 := by omega
      have hWd := hW1.drewN 1
      clear hN hg1 ho1 hBv1
      rcases Nat.lt_or_ge (8 - N % 8) m with hlt | hge
      · obtain ⟨k, he⟩ : ∃ k : Nat, (8 : Int) - (N : Int) % 8 = (k : Int) := ⟨8 - N % 8, by omega⟩
        have hk1 : 1 ≤ k := by omega
        have hk8 : N % 8 + k ≤ 8 := by omega
        have hkm : k < m := by omega
        obtain ⟨m', hm'⟩ : ∃ m' : Nat, (m : Int) - (k : Int) = (m' : Int) := ⟨m - k, by omega⟩
        have hst := bits_step L X n m k hmn (by omega)
        rw [show m - k = m' by omega] at hst
        have HST := Lib.hid hst
        have hlen8 : (L ++ bitsOf (n - m) (X / 2 ^ m)).length % 8 + k ≤ 8 := by rw [List.length_append, length_bitsOf, HN.out]; exact hk8
        have hlen6 : (L ++ bitsOf (n - m) (X / 2 ^ m)).length ≤ 600000 := by rw [List.length_append, length_bitsOf, HN.out]; omega
        have HL8 := Lib.hid hlen8
        have HL6 := Lib.hid hlen6
        have hYlt : X / 2 ^ m' < 18446744073709551616 := Nat.lt_of_le_of_lt (Nat.div_le_self _ _) hX64
        have hYk : X / 2 ^ m' % 2 ^ k < 2 ^ k := Nat.mod_lt _ (Nat.two_pow_pos k)
        have hlt' : ¬ (m : Int) ≤ (k : Int) := by omega
        have low2 := fun W => low_any (X / 2 ^ m') k W hYlt (by omega)
        have add2 := fun W h => add_any W base g B1 (L ++ bitsOf (n - m) (X / 2 ^ m)) (X / 2 ^ m' % 2 ^ k) k h hYk hk1 HL8.out HL6.out
        have hmm : m' < m := by omega
        have hmn' : m' ≤ n := by omega
        have LOW2 := Lib.hid low2
        have ADD2 := Lib.hid add2
        clear low2 add2 hst hlen8 hlen6 hYk hYlt
        go_wp2
        go_region_held3 (fun _ => True) (trivial) (first
          | (go_at_call 58; refine (LOW2.out _).mono ?_; rintro e w' ⟨rfl, rfl⟩)
          | (go_at_call 59; refine (ADD2.out _ hWd (Nat.le_trans hbase hT1.size)).mono ?_; rintro e w' ⟨rfl, B2, hW2, hB2, hT2⟩))
        go_wp2
        go_roundw
        case rel =>
          refine ⟨m', B2, rfl, hmn', by rw [← HST.out]; exact hW2, row_step hB1 hB2 hT1.size, hT1.trans hT2.of_drew hB1⟩
        case measure => simp [intOf]; omega
      · have hk8 : N % 8 + m ≤ 8 := by omega
        have hst := bits_step L X n m m hmn (by omega)
        rw [Nat.sub_self, Nat.pow_zero, Nat.div_one, Nat.sub_zero] at hst
        have HST := Lib.hid hst
        have hlen8 : (L ++ bitsOf (n - m) (X / 2 ^ m)).length % 8 + m ≤ 8 := by rw [List.length_append, length_bitsOf, HN.out]; exact hk8
        have hlen6 : (L ++ bitsOf (n - m) (X / 2 ^ m)).length ≤ 600000 := by rw [List.length_append, length_bitsOf, HN.out]; omega
        have HL8 := Lib.hid hlen8
        have HL6 := Lib.hid hlen6
        have hYk : X % 2 ^ m < 2 ^ m := Nat.mod_lt _ (Nat.two_pow_pos m)
        have hle' : (m : Int) ≤ 8 - (N : Int) % 8 := by omega
        have low2 := fun W => low_any X m W hX64 (by omega)
        have add2 := fun W h => add_any W base g B1 (L ++ bitsOf (n - m) (X / 2 ^ m)) (X % 2 ^ m) m h hYk h0 HL8.out HL6.out
        have LOW2 := Lib.hid low2
        have ADD2 := Lib.hid add2
        clear low2 add2 hst hlen8 hlen6 hYk
        go_wp2
        go_region_held3 (fun _ => True) (trivial) (first
          | (go_at_call 58; refine (LOW2.out _).mono ?_; rintro e w' ⟨rfl, rfl⟩)
          | (go_at_call 59; refine (ADD2.out _ hWd (Nat.le_trans hbase hT1.size)).mono ?_; rintro e w' ⟨rfl, B2, hW2, hB2, hT2⟩))
        go_wp2
        go_roundw
        case rel =>
          refine ⟨0, B2, rfl, Nat.zero_le _, ?_, row_step hB1 hB2 hT1.size, hT1.trans hT2.of_drew hB1⟩
          rw [Nat.sub_zero, Nat.pow_zero, Nat.div_one, ← HST.out]
          exact hW2
        case measure => simp [intOf]; omega

/-- What Put answers. -/
def putCode (len : Nat) (n : Int) : Int := if n < 0 ∨ 64 < n then 2 else if 524288 < (len : Int) + n then 3 else 0
/-- The bits behind a Put. -/
def putBits (L : List Bool) (n : Int) (x : Nat) : List Bool := if putCode L.length n = 0 then L ++ bitsOf n.toNat x else L

/-- Put, whatever it is asked. -/
theorem put_any (w : World) (base g : Nat) (B : Option Nat) (L : List Bool) (x : Nat) (n : Int) (h : Wr w base g B L) (hx : x < 18446744073709551616) (hL : L.length ≤ 524288) (hbase : base ≤ w.heap.size) :
    Calls Tryd.prog 19 #[.pointer (some ⟨g, 0, none⟩), .int .u64 x, .int .i64 n] w fun e w' => e = .returned (.int .i64 (putCode L.length n)) ∧
      ∃ B', Wr w' base g B' (putBits L n x) ∧ (B' = B ∨ ∃ b, B' = some b ∧ w.heap.size ≤ b) ∧ Touch g B w w' := by
  by_cases h1 : n < 0 ∨ 64 < n
  · have e1 : putCode L.length n = 2 := by unfold putCode; rw [if_pos h1]
    have e2 : putBits L n x = L := by unfold putBits; rw [e1, if_neg (by decide)]
    rw [e1, e2]
    clear e1 e2
    have hg0 := h
    rcases Int.lt_or_le n 0 with h2 | h2
    · have d1 : decide (n < 0) = true := by simp [h2]
      clear h1
      go_enter Tryd.func19, Tryd.ntmps19
      go_wp2_with (go_at_call 56; refine (is_any _ base g B L h).mono ?_; rintro e w' ⟨rfl, rfl⟩)
      go_ret
      exact ⟨rfl, B, h, .inl rfl, Touch.refl g B _⟩
    · have h3 : 64 < n := by omega
      clear h1
      go_enter Tryd.func19, Tryd.ntmps19
      go_wp2_with (go_at_call 56; refine (is_any _ base g B L h).mono ?_; rintro e w' ⟨rfl, rfl⟩)
      go_ret
      exact ⟨rfl, B, h, .inl rfl, Touch.refl g B _⟩
  · obtain ⟨N, rfl⟩ : ∃ N : Nat, n = N := Int.eq_ofNat_of_zero_le (by omega)
    have hN : N ≤ 64 := by omega
    by_cases h2 : 524288 < L.length + N
    · have e1 : putCode L.length N = 3 := by unfold putCode; rw [if_neg h1, if_pos (by omega)]
      have e2 : putBits L N x = L := by unfold putBits; rw [e1, if_neg (by decide)]
      rw [e1, e2]
      clear e1 e2 h1
      obtain ⟨_, v, hg, _, _⟩ := id h
      have c1 := hg.cell 1
      simp at c1
      have h3 : (524288 : Int) < (L.length : Int) + (N : Int) := by omega
      go_enter Tryd.func19, Tryd.ntmps19
      go_wp2_with (go_at_call 56; refine (is_any _ base g B L h).mono ?_; rintro e w' ⟨rfl, rfl⟩)
      go_ret
      exact ⟨rfl, B, h, .inl rfl, Touch.refl g B _⟩
    · have e1 : putCode L.length N = 0 := by unfold putCode; rw [if_neg h1, if_neg (by omega)]
      have e2 : putBits L N x = L ++ bitsOf N x := by unfold putBits; rw [e1, if_pos rfl, Int.toNat_natCast]
      rw [e1, e2]
      exact put_nat w base g B L x N h hx hN (by omega) hbase
end Go.Proofs.YtlgndfckmnninaaDoor
