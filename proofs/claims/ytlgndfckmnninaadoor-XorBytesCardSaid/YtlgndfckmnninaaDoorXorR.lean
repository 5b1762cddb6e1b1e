/- Walks of the reference's right, ends, Put of a value. Conditions: as stated. -/
import Derived.Test.YtlgndfckmnninaaDoorXorP
import Derived.Test.YtlgndfckmnninaaDoorStampR
namespace Go.Proofs.YtlgndfckmnninaaDoor
open Go.RowKit
set_option linter.unusedVariables false

theorem ends_lead {x k : Nat} (h0 : x ≠ 0) (hx : x < 2 ^ 64) (hk : k ≤ lz x) : (k < lz x → x * 2 ^ k < 2 ^ 63) ∧ (k = lz x → 2 ^ 63 ≤ x * 2 ^ k) ∧ x * 2 ^ k < 2 ^ 64 := by
  have h1 := lz_tz h0 hx
  have hp := Nat.two_pow_pos k
  refine ⟨fun h => ?_, fun h => ?_, ?_⟩
  · have h2 := (lz_iff hx (show k + 1 ≤ 64 by omega)).1 h
    calc x * 2 ^ k < 2 ^ (64 - (k + 1)) * 2 ^ k := Nat.mul_lt_mul_of_pos_right h2 hp
      _ = 2 ^ 63 := by rw [← Nat.pow_add, show 64 - (k + 1) + k = 63 by omega]
  · have h2 : ¬ x < 2 ^ (64 - (k + 1)) := fun h3 => by
      have := (lz_iff hx (show k + 1 ≤ 64 by omega)).2 h3
      omega
    calc 2 ^ 63 = 2 ^ (64 - (k + 1)) * 2 ^ k := by rw [← Nat.pow_add, show 64 - (k + 1) + k = 63 by omega]
      _ ≤ x * 2 ^ k := Nat.mul_le_mul_right _ (by omega)
  · have h2 := (lz_iff hx (show k ≤ 64 by omega)).1 hk
    calc x * 2 ^ k < 2 ^ (64 - k) * 2 ^ k := Nat.mul_lt_mul_of_pos_right h2 hp
      _ = 2 ^ 64 := by rw [← Nat.pow_add, show 64 - k + k = 64 by omega]
theorem ends_trail {x k : Nat} (h0 : x ≠ 0) (hx : x < 2 ^ 64) (hk : k ≤ tz x) : (k < tz x → x / 2 ^ k % 2 = 0) ∧ (k = tz x → x / 2 ^ k % 2 = 1) := by
  obtain ⟨m, h1, h2⟩ := tz_spec h0 hx
  obtain ⟨d, hd⟩ : ∃ d, tz x = k + d := ⟨tz x - k, by omega⟩
  have h3 : x / 2 ^ k = 2 ^ d * (2 * m + 1) := by
    conv => lhs; rw [h1, hd, Nat.pow_add, Nat.mul_assoc]
    exact Nat.mul_div_cancel_left _ (Nat.two_pow_pos k)
  rw [h3]
  refine ⟨fun h => ?_, fun h => ?_⟩
  · obtain ⟨e, rfl⟩ : ∃ e, d = e + 1 := ⟨d - 1, by omega⟩
    rw [Nat.pow_succ, Nat.mul_right_comm, Nat.mul_mod_left]
  · obtain rfl : d = 0 := by omega
    rw [Nat.pow_zero, Nat.one_mul]; omega

set_option maxHeartbeats 800000 in
theorem ends_any (x : Nat) (w : World) (h0 : x ≠ 0) (hx : x < 18446744073709551616) :
    Calls Tryd.prog 70 #[.int .u64 (x : Nat)] w fun e w' => e = .returned (.tuple #[.int .i64 (lz x : Nat), .int .i64 (tz x : Nat)]) ∧ w' = w := by
  have hlt := lz_tz h0 (show x < 2 ^ 64 by omega)
  have EL := fun k hk => ends_lead (k := k) h0 (show x < 2 ^ 64 by omega) hk
  have ET := fun k hk => ends_trail (k := k) h0 (show x < 2 ^ 64 by omega) hk
  generalize lz x = l at *
  generalize tz x = t at *
  have HEL := Lib.hid EL
  have HET := Lib.hid ET
  clear EL ET h0
  obtain ⟨xi, hxi⟩ : ∃ xi : Int, ((x : Nat) : Int) = xi := ⟨_, rfl⟩
  have hxi0 : 0 ≤ xi := by omega
  have hxi1 : xi < 18446744073709551616 := by omega
  rw [hxi]
  have HXI := Lib.hid hxi
  clear hxi hx
  go_enter Tryd.func70, Tryd.ntmps70
  go_wp2_with fail
  go_loop [6, 4] (fun yv kv => ∃ (k : Nat) (Y : Int), kv = .int .i64 k ∧ yv = .int .u64 Y ∧ k ≤ l ∧ 0 ≤ Y ∧ Y < 18446744073709551616 ∧ Hid (((x * 2 ^ k : Nat) : Int) = Y)) (fun _ kv => l - (intOf kv).toNat)
  case atStart => exact ⟨0, xi, rfl, rfl, Nat.zero_le _, hxi0, hxi1, by rw [Nat.pow_zero, Nat.mul_one]; exact HXI.out⟩
  case round =>
    obtain ⟨k, Y, rfl, rfl, hk, hY0, hY1, hYe⟩ := hrel
    obtain ⟨g1, g2, _⟩ := HEL.out k hk
    have hye := hYe.out
    rcases Nat.eq_or_lt_of_le hk with e | hlt2
    · have h3 : ¬ Y < 9223372036854775808 := by have := g2 e; omega
      subst e
      clear g1 g2 hye hYe
      go_wp2_with fail
      go_loop [7, 5] (fun yv kv => ∃ (j Z : Nat), kv = .int .i64 j ∧ yv = .int .u64 (Z : Nat) ∧ j ≤ t ∧ (Z : Int) < 18446744073709551616 ∧ Hid (x / 2 ^ j = Z)) (fun _ kv => t - (intOf kv).toNat)
      case atStart => exact ⟨0, x, rfl, by rw [HXI.out], Nat.zero_le _, by rw [HXI.out]; exact hxi1, by rw [Nat.pow_zero, Nat.div_one]; exact rfl⟩
      case round =>
        obtain ⟨j, Z, rfl, rfl, hj, hzb, hZ⟩ := hrel
        obtain ⟨g1, g2⟩ := HET.out j hj
        rw [hZ.out] at g1 g2
        rcases Nat.eq_or_lt_of_le hj with e | hlt3
        · have hm : ((Z : Int) % 2 == 0) = false := by have := g2 e; simp only [beq_eq_false_iff_ne, ne_eq]; omega
          subst e
          clear g1 g2
          go_wp2_with fail
          go_ret2
          exact ⟨rfl, rfl⟩
        · have hm : ((Z : Int) % 2 == 0) = true := by have := g1 hlt3; simp only [beq_iff_eq]; omega
          have hn : Hid (x / 2 ^ (j + 1) = Z / 2) := by rw [Nat.pow_succ, ← Nat.div_div_eq_div_mul, hZ.out]; exact rfl
          clear g1 g2
          go_wp2_with fail
          go_round
          case rel => exact ⟨j + 1, Z / 2, by go_num, by first | rfl | go_num, hlt3, by omega, hn⟩
          case measure => simp [intOf]; omega
    · have h3 : Y < 9223372036854775808 := by have := g1 hlt2; omega
      have hn : Hid (((x * 2 ^ (k + 1) : Nat) : Int) = 2 * Y) := by rw [Nat.pow_succ, ← Nat.mul_assoc]; unfold Hid; push_cast at hye ⊢; omega
      clear g1 g2 hye hYe
      go_wp2_with fail
      go_round
      case rel => exact ⟨k + 1, 2 * Y, by go_num, rfl, hlt2, by omega, by omega, hn⟩
      case measure => simp [intOf]; omega

set_option maxHeartbeats 1600000 in
theorem xrefRight_yes (N V a b : Int) (w : World) (h : rightX N a b = true) :
    Calls Tryd.prog 69 #[.agg #[.int .i64 N, .int .u64 V, .int .i64 a, .int .i64 b]] w fun e w' => e = .returned (.bool true) ∧ Below w.heap.size w w' := by
  obtain ⟨h1, h2, hc⟩ := rightX_of h
  clear h
  rcases hc with ⟨rfl, rfl⟩ | ⟨h3, h4, h5⟩
  · have n0 : decide (N < 0) = false := decide_eq_false (by omega)
    have n1 : decide (4096 < N) = false := decide_eq_false (by omega)
    go_enter Tryd.func69, Tryd.ntmps69
    go_wp2_with fail
    go_ret
    exact ⟨rfl, (Below.refl _ _).alloc (Nat.le_refl _) _⟩
  · have n0 : decide (N < 0) = false := decide_eq_false (by omega)
    have n1 : decide (4096 < N) = false := decide_eq_false (by omega)
    have n2 : (a == 64) = false := beq_eq_false_iff_ne.2 (by omega)
    have n3 : decide (0 ≤ a) = true := decide_eq_true (by omega)
    have n4 : decide (a ≤ 63) = true := decide_eq_true (by omega)
    have n5 : decide (0 ≤ b) = true := decide_eq_true (by omega)
    have n6 : decide (b ≤ 63) = true := decide_eq_true (by omega)
    have n7 : decide (a + b ≤ 63) = true := decide_eq_true (by omega)
    go_enter Tryd.func69, Tryd.ntmps69
    go_wp2_with fail
    go_ret
    exact ⟨rfl, (Below.refl _ _).alloc (Nat.le_refl _) _⟩

set_option maxHeartbeats 1600000 in
theorem xrefRight_no (N V a b : Int) (w : World) (h : rightX N a b = false) :
    Calls Tryd.prog 69 #[.agg #[.int .i64 N, .int .u64 V, .int .i64 a, .int .i64 b]] w fun e w' => e = .returned (.bool false) ∧ Below w.heap.size w w' := by
  have h := rightX_no h
  have hcs : N < 0 ∨ (¬ N < 0 ∧ 4096 < N) ∨ (¬ N < 0 ∧ ¬ 4096 < N ∧ a ≠ 64 ∧ (a < 0 ∨ (0 ≤ a ∧ 63 < a) ∨ (0 ≤ a ∧ a ≤ 63 ∧ b < 0) ∨ (0 ≤ a ∧ a ≤ 63 ∧ 0 ≤ b ∧ 63 < b) ∨ (0 ≤ a ∧ a ≤ 63 ∧ 0 ≤ b ∧ b ≤ 63 ∧ 63 < a + b))) ∨ (¬ N < 0 ∧ ¬ 4096 < N ∧ a = 64 ∧ b ≠ 0) := by omega
  clear h
  rcases hcs with g1 | ⟨g1, g2⟩ | ⟨g1, g2, g3, g4 | ⟨g4, g5⟩ | ⟨g4, g5, g6⟩ | ⟨g4, g5, g6, g7⟩ | ⟨g4, g5, g6, g7, g8⟩⟩ | ⟨g1, g2, rfl, g3⟩
  · have n0 : decide (N < 0) = true := decide_eq_true (by omega)
    go_enter Tryd.func69, Tryd.ntmps69
    go_wp2_with fail
    go_ret
    exact ⟨rfl, (Below.refl _ _).alloc (Nat.le_refl _) _⟩
  · have n0 : decide (N < 0) = false := decide_eq_false (by omega)
    have n1 : decide (4096 < N) = true := decide_eq_true (by omega)
    go_enter Tryd.func69, Tryd.ntmps69
    go_wp2_with fail
    go_ret
    exact ⟨rfl, (Below.refl _ _).alloc (Nat.le_refl _) _⟩
  · have n0 : decide (N < 0) = false := decide_eq_false (by omega)
    have n1 : decide (4096 < N) = false := decide_eq_false (by omega)
    have n2 : (a == 64) = false := beq_eq_false_iff_ne.2 (by omega)
    have n3 : decide (0 ≤ a) = false := decide_eq_false (by omega)
    go_enter Tryd.func69, Tryd.ntmps69
    go_wp2_with fail
    go_ret
    exact ⟨rfl, (Below.refl _ _).alloc (Nat.le_refl _) _⟩
  · have n0 : decide (N < 0) = false := decide_eq_false (by omega)
    have n1 : decide (4096 < N) = false := decide_eq_false (by omega)
    have n2 : (a == 64) = false := beq_eq_false_iff_ne.2 (by omega)
    have n3 : decide (0 ≤ a) = true := decide_eq_true (by omega)
    have n4 : decide (a ≤ 63) = false := decide_eq_false (by omega)
    go_enter Tryd.func69, Tryd.ntmps69
    go_wp2_with fail
    go_ret
    exact ⟨rfl, (Below.refl _ _).alloc (Nat.le_refl _) _⟩
  · have n0 : decide (N < 0) = false := decide_eq_false (by omega)
    have n1 : decide (4096 < N) = false := decide_eq_false (by omega)
    have n2 : (a == 64) = false := beq_eq_false_iff_ne.2 (by omega)
    have n3 : decide (0 ≤ a) = true := decide_eq_true (by omega)
    have n4 : decide (a ≤ 63) = true := decide_eq_true (by omega)
    have n5 : decide (0 ≤ b) = false := decide_eq_false (by omega)
    go_enter Tryd.func69, Tryd.ntmps69
    go_wp2_with fail
    go_ret
    exact ⟨rfl, (Below.refl _ _).alloc (Nat.le_refl _) _⟩
  · have n0 : decide (N < 0) = false := decide_eq_false (by omega)
    have n1 : decide (4096 < N) = false := decide_eq_false (by omega)
    have n2 : (a == 64) = false := beq_eq_false_iff_ne.2 (by omega)
    have n3 : decide (0 ≤ a) = true := decide_eq_true (by omega)
    have n4 : decide (a ≤ 63) = true := decide_eq_true (by omega)
    have n5 : decide (0 ≤ b) = true := decide_eq_true (by omega)
    have n6 : decide (b ≤ 63) = false := decide_eq_false (by omega)
    go_enter Tryd.func69, Tryd.ntmps69
    go_wp2_with fail
    go_ret
    exact ⟨rfl, (Below.refl _ _).alloc (Nat.le_refl _) _⟩
  · have n0 : decide (N < 0) = false := decide_eq_false (by omega)
    have n1 : decide (4096 < N) = false := decide_eq_false (by omega)
    have n2 : (a == 64) = false := beq_eq_false_iff_ne.2 (by omega)
    have n3 : decide (0 ≤ a) = true := decide_eq_true (by omega)
    have n4 : decide (a ≤ 63) = true := decide_eq_true (by omega)
    have n5 : decide (0 ≤ b) = true := decide_eq_true (by omega)
    have n6 : decide (b ≤ 63) = true := decide_eq_true (by omega)
    have n7 : decide (a + b ≤ 63) = false := decide_eq_false (by omega)
    go_enter Tryd.func69, Tryd.ntmps69
    go_wp2_with fail
    go_ret
    exact ⟨rfl, (Below.refl _ _).alloc (Nat.le_refl _) _⟩
  · have n0 : decide (N < 0) = false := decide_eq_false (by omega)
    have n1 : decide (4096 < N) = false := decide_eq_false (by omega)
    have n2 : (b == 0) = false := beq_eq_false_iff_ne.2 g3
    go_enter Tryd.func69, Tryd.ntmps69
    go_wp2_with fail
    go_ret
    exact ⟨rfl, (Below.refl _ _).alloc (Nat.le_refl _) _⟩

theorem Rw.set4 {w : World} {base g r : Nat} {B : Option Nat} {L : List Bool} (h : Rw w base g B L) (h1 : g ≠ r) (h2 : B ≠ some r) (x y z u : Value) : Rw (Go.Proofs.YtlgndfckmnninaaDoor.set4 w r x y z u) base g B L :=
  h.touch (touch_set4 w r x y z u) h1 (by simp) h2 (by cases B <;> simp)
theorem new_bits (l t : Nat) (h : l + t ≤ 63) : bitsOf 14 (12288 + 64 * l + (63 - l - t)) = [true, true] ++ (bitsOf 6 l ++ bitsOf 6 (63 - l - t)) := by
  obtain ⟨m, hm⟩ : ∃ m, 63 - l - t = m := ⟨_, rfl⟩
  rw [hm, show 14 = 2 + (6 + 6) by rfl, bitsOf_add, bitsOf_add, show (12288 + 64 * l + m) / 2 ^ (6 + 6) = 3 by omega]
  congr 1
  rw [← bitsOf_mod 6 ((12288 + 64 * l + m) / 2 ^ 6), ← bitsOf_mod 6 (12288 + 64 * l + m), show (2 : Nat) ^ 6 = 64 by rfl, show (12288 + 64 * l + m) / 64 = 192 + l by omega, show (192 + l) % 64 = l by omega, show (12288 + 64 * l + m) % 64 = m by omega]

set_option maxHeartbeats 400000 in
theorem xrPut_no (w : World) (g : Nat) (N V a b v : Int) (hno : rightX N a b = false) :
    Calls Tryd.prog 28 #[.pointer (some ⟨g, 0, none⟩), .agg #[.int .i64 N, .int .u64 V, .int .i64 a, .int .i64 b], .int .u64 v] w fun e w' =>
      e = .returned (.tuple #[.agg #[.int .i64 0, .int .u64 0, .int .i64 0, .int .i64 0], .int .i64 2]) ∧ Below w.heap.size w w' := by
  obtain ⟨S0, R0, H0⟩ := four_new w (.int .i64 N) (.int .u64 V) (.int .i64 a) (.int .i64 b) (.int .i64 0) (.int .u64 0) (.int .i64 0) (.int .i64 0) 53 53
  go_enter Tryd.func28, Tryd.ntmps28
  go_wp2_with fail
  refine (xrefRight_no N V a b _ hno).mono ?_
  rintro e w1 ⟨rfl, hB1⟩
  have H1 := below_more H0 hB1
  have R1 := R0.below hB1
  obtain ⟨d0, d1, d2, d3⟩ := R1.cells4
  obtain ⟨e0, e1, e2, e3⟩ := R1.free4
  go_wp2_with fail
  obtain ⟨q0, q1, q2, q3⟩ := (R1.set4 (.int .i64 0) (.int .u64 0) (.int .i64 0) (.int .i64 0)).cells4
  refine bodyPost_ret (v := .tuple #[.agg #[.int .i64 0, .int .u64 0, .int .i64 0, .int .i64 0], .int .i64 2]) (by simp [results, Tryd.results28, go_sem, q0, q1, q2, q3]) rfl ⟨rfl, ?_⟩
  exact below_set4 H1 (by omega) _ _ _ _

set_option maxHeartbeats 3200000 in
theorem xrPut_first (w : World) (base g : Nat) (B : Option Nat) (Lb : List Bool) (N : Int) (V a b v : Nat) (h : Rw w base g B Lb) (hLb : Lb.length ≤ 400000) (hbase : base ≤ w.heap.size) (hr : rightX N a b = true) (hV : V < 18446744073709551616) (hv : v < 18446744073709551616) (hN : N = 0) :
    Calls Tryd.prog 28 #[.pointer (some ⟨g, 0, none⟩), .agg #[.int .i64 N, .int .u64 (V : Nat), .int .i64 (a : Nat), .int .i64 (b : Nat)], .int .u64 (v : Nat)] w fun e w' =>
      e = .returned (.tuple #[.agg #[.int .i64 (N + 1), .int .u64 (v : Nat), .int .i64 (a : Nat), .int .i64 (b : Nat)], .int .i64 0]) ∧ ∃ B', Rw w' base g B' (Lb ++ bitsOf 64 v) ∧ (B' = B ∨ ∃ b, B' = some b ∧ w.heap.size ≤ b) ∧ Touch g B w w' := by
  obtain ⟨S0, R0, H0⟩ := four_new w (.int .i64 N) (.int .u64 (V : Nat)) (.int .i64 (a : Nat)) (.int .i64 (b : Nat)) (.int .i64 0) (.int .u64 0) (.int .i64 0) (.int .i64 0) 53 53
  have hlt := h.lt
  have hrow := h.row
  obtain ⟨n1, n2, n3⟩ := rightX_of hr
  have hab : a = 64 ∧ b = 0 ∨ a + b ≤ 63 := by omega
  have HR := Lib.hid hr
  have HV := Lib.hid hV
  have Hv := Lib.hid hv
  obtain ⟨X, hX⟩ : ∃ X, v ^^^ V = X := ⟨_, rfl⟩
  have hX64 : X < 18446744073709551616 := by rw [← hX]; exact xor_lt (by omega) (by omega)
  have hxx := u64_xor_nat v V hv hV
  rw [hX] at hxx
  have HX := Lib.hid hX
  have HX64 := Lib.hid hX64
  subst hN
  have henc : Lb ++ bitsOf (64 : Int).toNat (v : Int).toNat = Lb ++ bitsOf 64 v := rfl
  have HENC := Lib.hid henc
  clear hr hV hX hX64 henc hab
  go_enter Tryd.func28, Tryd.ntmps28
  go_wp2_with fail
  refine (xrefRight_yes _ V a b _ HR.out).mono ?_
  rintro e w1 ⟨rfl, hB1⟩
  have H1 := below_more H0 hB1
  have A1 : Below w1.heap.size w1 (w1.alloc (.cells #[.int .i64 1, .int .u64 (v : Nat), .int .i64 (a : Nat), .int .i64 (b : Nat)] 53)) := (Below.refl _ w1).alloc (Nat.le_refl _) _
  have S2 := (S0.below hB1).below A1
  have R2 := (R0.below hB1).below A1
  have W2 := (h.below H1).below A1
  have X2 := Blk.new w1 53 #[.int .i64 1, .int .u64 (v : Nat), .int .i64 (a : Nat), .int .i64 (b : Nat)]
  have H2 := H1.trans (A1.mono H1.size)
  have hz1 : w.heap.size + 1 < w1.heap.size := (R0.below hB1).lt
  obtain ⟨s0, s1, s2, s3⟩ := (S0.below hB1).cells4
  obtain ⟨t0, t1, t2, t3⟩ := S2.cells4
  clear S0 R0 H0 hB1 H1
  go_wp2_with fail
  obtain ⟨x, hx⟩ : ∃ x, w1.heap.size = x := ⟨_, rfl⟩
  have hx2 := X2.lt
  rw [hx] at X2 hz1 hx2 ⊢
  generalize w1.alloc (.cells #[.int .i64 1, .int .u64 (v : Nat), .int .i64 (a : Nat), .int .i64 (b : Nat)] 53) = w2 at *
  clear A1 hx s0 s1 s2 s3 t0 t1 t2 t3
  refine (refPut_int w2 base g B Lb v 64 W2 (by omega) (by omega) (by omega) (by omega) (by omega) (Nat.le_trans hbase H2.size)).mono ?_
  rintro e w7 ⟨rfl, B7, W7, hB7, hT7⟩
  rw [HENC.out] at W7
  have R7 := R2.touch hT7 (by omega) (fun e => by have := (hrow _ e.symm).2; omega)
  have X7 := X2.touch hT7 (by omega) (fun e => by have := (hrow _ e.symm).2; omega)
  have T7 := (Touch.of_below H2 g B).trans hT7 (.inl rfl)
  have nb : ∀ r, w.heap.size ≤ r → r ≤ x → B7 ≠ some r := fun r h1 h2 e => by
    rcases hB7 with rfl | ⟨b, rfl, hb⟩
    · have := (hrow _ e).2; omega
    · have : b = r := by injection e
      omega
  have NB := Lib.hid nb
  have hBB : B7 = B ∨ ∃ b, B7 = some b ∧ w.heap.size ≤ b := by
    rcases hB7 with rfl | ⟨b, rfl, hb⟩
    · exact .inl rfl
    · exact .inr ⟨b, rfl, Nat.le_trans H2.size hb⟩
  have HBB := Lib.hid hBB
  clear nb hBB hB7 hT7
  obtain ⟨x0, x1, x2, x3⟩ := X7.cells4
  obtain ⟨d0, d1, d2, d3⟩ := R7.cells4
  obtain ⟨e0, e1, e2, e3⟩ := R7.free4
  go_wp2_with fail
  obtain ⟨q0, q1, q2, q3⟩ := (R7.set4 (.int .i64 1) (.int .u64 (v : Nat)) (.int .i64 (a : Nat)) (.int .i64 (b : Nat))).cells4
  refine bodyPost_ret (v := .tuple #[.agg #[.int .i64 1, .int .u64 (v : Nat), .int .i64 (a : Nat), .int .i64 (b : Nat)], .int .i64 0]) (by simp [results, Tryd.results28, go_sem, q0, q1, q2, q3]) rfl ⟨rfl, B7, W7.set4 (by omega) (NB.out _ (by omega) (by omega)) _ _ _ _, HBB.out, T7.set4 (by omega) _ _ _ _⟩

set_option maxHeartbeats 3200000 in
theorem xrPut_same (w : World) (base g : Nat) (B : Option Nat) (Lb : List Bool) (N : Int) (V a b v : Nat) (h : Rw w base g B Lb) (hLb : Lb.length ≤ 400000) (hbase : base ≤ w.heap.size) (hr : rightX N a b = true) (hV : V < 18446744073709551616) (hv : v < 18446744073709551616) (hN : N ≠ 0) (hx0 : v ^^^ V = 0) :
    Calls Tryd.prog 28 #[.pointer (some ⟨g, 0, none⟩), .agg #[.int .i64 N, .int .u64 (V : Nat), .int .i64 (a : Nat), .int .i64 (b : Nat)], .int .u64 (v : Nat)] w fun e w' =>
      e = .returned (.tuple #[.agg #[.int .i64 (N + 1), .int .u64 (v : Nat), .int .i64 (a : Nat), .int .i64 (b : Nat)], .int .i64 0]) ∧ ∃ B', Rw w' base g B' (Lb ++ [false]) ∧ (B' = B ∨ ∃ b, B' = some b ∧ w.heap.size ≤ b) ∧ Touch g B w w' := by
  obtain ⟨S0, R0, H0⟩ := four_new w (.int .i64 N) (.int .u64 (V : Nat)) (.int .i64 (a : Nat)) (.int .i64 (b : Nat)) (.int .i64 0) (.int .u64 0) (.int .i64 0) (.int .i64 0) 53 53
  have hlt := h.lt
  have hrow := h.row
  obtain ⟨n1, n2, n3⟩ := rightX_of hr
  have hab : a = 64 ∧ b = 0 ∨ a + b ≤ 63 := by omega
  have HR := Lib.hid hr
  have HV := Lib.hid hV
  have Hv := Lib.hid hv
  obtain ⟨X, hX⟩ : ∃ X, v ^^^ V = X := ⟨_, rfl⟩
  have hX64 : X < 18446744073709551616 := by rw [← hX]; exact xor_lt (by omega) (by omega)
  have hxx := u64_xor_nat v V hv hV
  rw [hX] at hxx
  have HX := Lib.hid hX
  have HX64 := Lib.hid hX64
  have h0 : (N == 0) = false := beq_eq_false_iff_ne.2 hN
  obtain rfl : X = 0 := by rw [← hX]; exact hx0
  have henc : Lb ++ bitsOf (1 : Int).toNat (0 : Int).toNat = Lb ++ [false] := rfl
  have HENC := Lib.hid henc
  clear hr hV hX hX64 henc hab hN hx0
  go_enter Tryd.func28, Tryd.ntmps28
  go_wp2_with fail
  refine (xrefRight_yes N V a b _ HR.out).mono ?_
  rintro e w1 ⟨rfl, hB1⟩
  have H1 := below_more H0 hB1
  have A1 : Below w1.heap.size w1 (w1.alloc (.cells #[.int .i64 (N + 1), .int .u64 (v : Nat), .int .i64 (a : Nat), .int .i64 (b : Nat)] 53)) := (Below.refl _ w1).alloc (Nat.le_refl _) _
  have S2 := (S0.below hB1).below A1
  have R2 := (R0.below hB1).below A1
  have W2 := (h.below H1).below A1
  have X2 := Blk.new w1 53 #[.int .i64 (N + 1), .int .u64 (v : Nat), .int .i64 (a : Nat), .int .i64 (b : Nat)]
  have H2 := H1.trans (A1.mono H1.size)
  have hz1 : w.heap.size + 1 < w1.heap.size := (R0.below hB1).lt
  obtain ⟨s0, s1, s2, s3⟩ := (S0.below hB1).cells4
  obtain ⟨t0, t1, t2, t3⟩ := S2.cells4
  clear S0 R0 H0 hB1 H1
  go_wp2_with fail
  obtain ⟨x, hx⟩ : ∃ x, w1.heap.size = x := ⟨_, rfl⟩
  have hx2 := X2.lt
  rw [hx] at X2 hz1 hx2 ⊢
  generalize w1.alloc (.cells #[.int .i64 (N + 1), .int .u64 (v : Nat), .int .i64 (a : Nat), .int .i64 (b : Nat)] 53) = w2 at *
  clear A1 hx s0 s1 s2 s3 t0 t1 t2 t3
  refine (refPut_int w2 base g B Lb 0 1 W2 (by omega) (by omega) (by omega) (by omega) (by omega) (Nat.le_trans hbase H2.size)).mono ?_
  rintro e w7 ⟨rfl, B7, W7, hB7, hT7⟩
  rw [HENC.out] at W7
  have R7 := R2.touch hT7 (by omega) (fun e => by have := (hrow _ e.symm).2; omega)
  have X7 := X2.touch hT7 (by omega) (fun e => by have := (hrow _ e.symm).2; omega)
  have T7 := (Touch.of_below H2 g B).trans hT7 (.inl rfl)
  have nb : ∀ r, w.heap.size ≤ r → r ≤ x → B7 ≠ some r := fun r h1 h2 e => by
    rcases hB7 with rfl | ⟨b, rfl, hb⟩
    · have := (hrow _ e).2; omega
    · have : b = r := by injection e
      omega
  have NB := Lib.hid nb
  have hBB : B7 = B ∨ ∃ b, B7 = some b ∧ w.heap.size ≤ b := by
    rcases hB7 with rfl | ⟨b, rfl, hb⟩
    · exact .inl rfl
    · exact .inr ⟨b, rfl, Nat.le_trans H2.size hb⟩
  have HBB := Lib.hid hBB
  clear nb hBB hB7 hT7
  obtain ⟨x0, x1, x2, x3⟩ := X7.cells4
  obtain ⟨d0, d1, d2, d3⟩ := R7.cells4
  obtain ⟨e0, e1, e2, e3⟩ := R7.free4
  go_wp2_with fail
  obtain ⟨q0, q1, q2, q3⟩ := (R7.set4 (.int .i64 (N + 1)) (.int .u64 (v : Nat)) (.int .i64 (a : Nat)) (.int .i64 (b : Nat))).cells4
  refine bodyPost_ret (v := .tuple #[.agg #[.int .i64 (N + 1), .int .u64 (v : Nat), .int .i64 (a : Nat), .int .i64 (b : Nat)], .int .i64 0]) (by simp [results, Tryd.results28, go_sem, q0, q1, q2, q3]) rfl ⟨rfl, B7, W7.set4 (by omega) (NB.out _ (by omega) (by omega)) _ _ _ _, HBB.out, T7.set4 (by omega) _ _ _ _⟩

set_option maxHeartbeats 3200000 in
theorem xrPut_in (w : World) (base g : Nat) (B : Option Nat) (Lb : List Bool) (N : Int) (V a b v : Nat) (h : Rw w base g B Lb) (hLb : Lb.length ≤ 400000) (hbase : base ≤ w.heap.size) (hr : rightX N a b = true) (hV : V < 18446744073709551616) (hv : v < 18446744073709551616) (hN : N ≠ 0) (hx0 : v ^^^ V ≠ 0) (hin : inW a b (v ^^^ V) = true) :
    Calls Tryd.prog 28 #[.pointer (some ⟨g, 0, none⟩), .agg #[.int .i64 N, .int .u64 (V : Nat), .int .i64 (a : Nat), .int .i64 (b : Nat)], .int .u64 (v : Nat)] w fun e w' =>
      e = .returned (.tuple #[.agg #[.int .i64 (N + 1), .int .u64 (v : Nat), .int .i64 (a : Nat), .int .i64 (b : Nat)], .int .i64 0]) ∧ ∃ B', Rw w' base g B' (Lb ++ encD a b (v ^^^ V)) ∧ (B' = B ∨ ∃ b, B' = some b ∧ w.heap.size ≤ b) ∧ Touch g B w w' := by
  obtain ⟨S0, R0, H0⟩ := four_new w (.int .i64 N) (.int .u64 (V : Nat)) (.int .i64 (a : Nat)) (.int .i64 (b : Nat)) (.int .i64 0) (.int .u64 0) (.int .i64 0) (.int .i64 0) 53 53
  have hlt := h.lt
  have hrow := h.row
  obtain ⟨n1, n2, n3⟩ := rightX_of hr
  have hab : a = 64 ∧ b = 0 ∨ a + b ≤ 63 := by omega
  have HR := Lib.hid hr
  have HV := Lib.hid hV
  have Hv := Lib.hid hv
  obtain ⟨X, hX⟩ : ∃ X, v ^^^ V = X := ⟨_, rfl⟩
  have hX64 : X < 18446744073709551616 := by rw [← hX]; exact xor_lt (by omega) (by omega)
  have hxx := u64_xor_nat v V hv hV
  rw [hX] at hxx
  have HX := Lib.hid hX
  have HX64 := Lib.hid hX64
  have h0 : (N == 0) = false := beq_eq_false_iff_ne.2 hN
  rw [hX] at hx0 hin ⊢
  have hx1 : ((X : Int) == 0) = false := by simp; exact hx0
  have hx2 : (X == 0) = false := beq_eq_false_iff_ne.2 hx0
  have hlt3 := lz_tz hx0 (show X < 2 ^ 64 by omega)
  have ENDS := fun W => ends_any X W hx0 hX64
  obtain ⟨l, hl⟩ : ∃ l, lz X = l := ⟨_, rfl⟩
  obtain ⟨t, ht⟩ : ∃ t, tz X = t := ⟨_, rfl⟩
  rw [hl, ht] at ENDS hlt3
  have HENDS := Lib.hid ENDS
  obtain ⟨i1, i2, i3⟩ := inW_of hin
  rw [hl] at i2
  rw [ht] at i3
  have hab2 : a + b ≤ 63 := by omega
  obtain ⟨M3, hM3⟩ : ∃ M3, Lb ++ bitsOf (2 : Int).toNat (2 : Int).toNat = M3 := ⟨_, rfl⟩
  have hl3 : M3.length ≤ 410000 := by rw [← hM3, List.length_append, length_bitsOf]; have : (2 : Int).toNat = 2 := rfl; omega
  have HM3 := Lib.hid hM3
  have he3 : M3 ++ bitsOf (64 - a - b) (X / 2 ^ b) = Lb ++ encD a b X := by
    rw [encD, if_neg hx0, if_pos hin, mid, ← hM3, List.append_assoc]; rfl
  have HE3 := Lib.hid he3
  have g1 : ((a : Nat) : Int) < 64 := by omega
  have g2 : ((a : Nat) : Int) ≤ (l : Int) := by omega
  have g3 : ((b : Nat) : Int) ≤ (t : Int) := by omega
  clear hr hV hX hX64 hab hN hx0 hin ENDS hl ht hlt3 i1 hM3 he3
  go_enter Tryd.func28, Tryd.ntmps28
  go_wp2_with fail
  refine (xrefRight_yes N V a b _ HR.out).mono ?_
  rintro e w1 ⟨rfl, hB1⟩
  have H1 := below_more H0 hB1
  have A1 : Below w1.heap.size w1 (w1.alloc (.cells #[.int .i64 (N + 1), .int .u64 (v : Nat), .int .i64 (a : Nat), .int .i64 (b : Nat)] 53)) := (Below.refl _ w1).alloc (Nat.le_refl _) _
  have S2 := (S0.below hB1).below A1
  have R2 := (R0.below hB1).below A1
  have W2 := (h.below H1).below A1
  have X2 := Blk.new w1 53 #[.int .i64 (N + 1), .int .u64 (v : Nat), .int .i64 (a : Nat), .int .i64 (b : Nat)]
  have H2 := H1.trans (A1.mono H1.size)
  have hz1 : w.heap.size + 1 < w1.heap.size := (R0.below hB1).lt
  obtain ⟨s0, s1, s2, s3⟩ := (S0.below hB1).cells4
  obtain ⟨t0, t1, t2, t3⟩ := S2.cells4
  clear S0 R0 H0 hB1 H1
  go_wp2_with fail
  refine (HENDS.out _).mono ?_
  rintro e w2 ⟨rfl, rfl⟩
  go_wp2_with fail
  obtain ⟨x, hx⟩ : ∃ x, w1.heap.size = x := ⟨_, rfl⟩
  have hx2 := X2.lt
  rw [hx] at X2 hz1 hx2 ⊢
  generalize w1.alloc (.cells #[.int .i64 (N + 1), .int .u64 (v : Nat), .int .i64 (a : Nat), .int .i64 (b : Nat)] 53) = w2 at *
  clear A1 hx s0 s1 s2 s3 t0 t1 t2 t3
  refine (refPut_int w2 base g B Lb 2 2 W2 (by omega) (by omega) (by omega) (by omega) (by omega) (Nat.le_trans hbase H2.size)).mono ?_
  rintro e w3 ⟨rfl, B3, W3, hB3, hT3⟩
  rw [HM3.out] at W3
  have R3 := R2.touch hT3 (by omega) (fun e => by have := (hrow _ e.symm).2; omega)
  have X3 := X2.touch hT3 (by omega) (fun e => by have := (hrow _ e.symm).2; omega)
  have T3 := (Touch.of_below H2 g B).trans hT3 (.inl rfl)
  have nb3 : ∀ r, w.heap.size ≤ r → r ≤ x → B3 ≠ some r := fun r h1 h2 e => by
    rcases hB3 with rfl | ⟨b, rfl, hb⟩
    · have := (hrow _ e).2; omega
    · have : b = r := by injection e
      omega
  have NB3 := Lib.hid nb3
  have hBB3 : B3 = B ∨ ∃ b, B3 = some b ∧ w.heap.size ≤ b := by
    rcases hB3 with rfl | ⟨b, rfl, hb⟩
    · exact .inl rfl
    · exact .inr ⟨b, rfl, Nat.le_trans H2.size hb⟩
  have HBB3 := Lib.hid hBB3
  have hz3 : x < w3.heap.size := X3.lt
  clear nb3 hBB3 hB3 hT3 W2 R2 X2 S2
  obtain ⟨x0, x1, x2, x3⟩ := X3.cells4
  go_wp2_with fail
  go_loop [10, 15] (fun yv kv => ∃ (j Z : Nat), kv = .int .i64 j ∧ yv = .int .u64 (Z : Nat) ∧ j ≤ b ∧ (Z : Int) < 18446744073709551616 ∧ Hid (X / 2 ^ j = Z)) (fun _ kv => b - (intOf kv).toNat)
  case atStart => exact ⟨0, X, rfl, rfl, Nat.zero_le _, by have := HX64.out; omega, by rw [Nat.pow_zero, Nat.div_one]; exact rfl⟩
  case round =>
    obtain ⟨j, Z, rfl, rfl, hj, hzb, hZ⟩ := hrel
    rcases Nat.eq_or_lt_of_le hj with e | hlt4
    · subst e
      have hz64 := hzb
      have HZ64 := Lib.hid hz64
      have henc : M3 ++ bitsOf (64 - (a : Int) - (j : Int)).toNat (Z : Int).toNat = Lb ++ encD a j X := by
        rw [Int.toNat_natCast, ← hZ.out, show (64 - (a : Int) - (j : Int)).toNat = 64 - a - j by omega]
        exact HE3.out
      have HENC := Lib.hid henc
      clear henc hz64 hZ hzb
      go_wp2_with fail
      refine (refPut_int w3 base g B3 M3 Z (64 - (a : Int) - (j : Int)) W3 (by omega) HZ64.out (by omega) (by omega) (by omega) (Nat.le_trans hbase T3.size)).mono ?_
      rintro e w7 ⟨rfl, B7, W7, hB7, hT7⟩
      rw [HENC.out] at W7
      have R7 := R3.touch hT7 (by omega) (fun e => NB3.out _ (by omega) (by omega) e.symm)
      have X7 := X3.touch hT7 (by omega) (fun e => NB3.out _ (by omega) (by omega) e.symm)
      have T7 := T3.trans hT7 HBB3.out
      have nb : ∀ r, w.heap.size ≤ r → r ≤ x → B7 ≠ some r := fun r h1 h2 e => by
        rcases hB7 with rfl | ⟨b, rfl, hb⟩
        · exact NB3.out _ h1 h2 e
        · have : b = r := by injection e
          omega
      have NB := Lib.hid nb
      have HBB := Lib.hid (row_step HBB3.out hB7 T3.size)
      clear nb hB7 hT7 x0 x1 x2 x3
      obtain ⟨x0, x1, x2, x3⟩ := X7.cells4
      obtain ⟨d0, d1, d2, d3⟩ := R7.cells4
      obtain ⟨e0, e1, e2, e3⟩ := R7.free4
      go_wp2_with fail
      obtain ⟨q0, q1, q2, q3⟩ := (R7.set4 (.int .i64 (N + 1)) (.int .u64 (v : Nat)) (.int .i64 (a : Nat)) (.int .i64 (j : Nat))).cells4
      refine bodyPost_ret (v := .tuple #[.agg #[.int .i64 (N + 1), .int .u64 (v : Nat), .int .i64 (a : Nat), .int .i64 (j : Nat)], .int .i64 0]) (by simp [results, Tryd.results28, go_sem, q0, q1, q2, q3]) rfl ⟨rfl, B7, W7.set4 (by omega) (NB.out _ (by omega) (by omega)) _ _ _ _, HBB.out, T7.set4 (by omega) _ _ _ _⟩
    · have hn : Hid (X / 2 ^ (j + 1) = Z / 2) := by rw [Nat.pow_succ, ← Nat.div_div_eq_div_mul, hZ.out]; exact rfl
      go_wp2_with fail
      go_round
      case rel => exact ⟨j + 1, Z / 2, by go_num, by first | rfl | go_num, hlt4, by omega, hn⟩
      case measure => simp [intOf]; omega

set_option maxHeartbeats 3200000 in
theorem xrPut_new (w : World) (base g : Nat) (B : Option Nat) (Lb : List Bool) (N : Int) (V a b v : Nat) (h : Rw w base g B Lb) (hLb : Lb.length ≤ 400000) (hbase : base ≤ w.heap.size) (hr : rightX N a b = true) (hV : V < 18446744073709551616) (hv : v < 18446744073709551616) (hN : N ≠ 0) (hx0 : v ^^^ V ≠ 0) (hin : inW a b (v ^^^ V) = false) :
    Calls Tryd.prog 28 #[.pointer (some ⟨g, 0, none⟩), .agg #[.int .i64 N, .int .u64 (V : Nat), .int .i64 (a : Nat), .int .i64 (b : Nat)], .int .u64 (v : Nat)] w fun e w' =>
      e = .returned (.tuple #[.agg #[.int .i64 (N + 1), .int .u64 (v : Nat), .int .i64 (lz (v ^^^ V) : Nat), .int .i64 (tz (v ^^^ V) : Nat)], .int .i64 0]) ∧ ∃ B', Rw w' base g B' (Lb ++ encD a b (v ^^^ V)) ∧ (B' = B ∨ ∃ b, B' = some b ∧ w.heap.size ≤ b) ∧ Touch g B w w' := by
  obtain ⟨S0, R0, H0⟩ := four_new w (.int .i64 N) (.int .u64 (V : Nat)) (.int .i64 (a : Nat)) (.int .i64 (b : Nat)) (.int .i64 0) (.int .u64 0) (.int .i64 0) (.int .i64 0) 53 53
  have hlt := h.lt
  have hrow := h.row
  obtain ⟨n1, n2, n3⟩ := rightX_of hr
  have hab : a = 64 ∧ b = 0 ∨ a + b ≤ 63 := by omega
  have HR := Lib.hid hr
  have HV := Lib.hid hV
  have Hv := Lib.hid hv
  obtain ⟨X, hX⟩ : ∃ X, v ^^^ V = X := ⟨_, rfl⟩
  have hX64 : X < 18446744073709551616 := by rw [← hX]; exact xor_lt (by omega) (by omega)
  have hxx := u64_xor_nat v V hv hV
  rw [hX] at hxx
  have HX := Lib.hid hX
  have HX64 := Lib.hid hX64
  have h0 : (N == 0) = false := beq_eq_false_iff_ne.2 hN
  rw [hX] at hx0 hin ⊢
  have hx1 : ((X : Int) == 0) = false := by simp; exact hx0
  have hx2 : (X == 0) = false := beq_eq_false_iff_ne.2 hx0
  have hlt3 := lz_tz hx0 (show X < 2 ^ 64 by omega)
  have ENDS := fun W => ends_any X W hx0 hX64
  obtain ⟨l, hl⟩ : ∃ l, lz X = l := ⟨_, rfl⟩
  obtain ⟨t, ht⟩ : ∃ t, tz X = t := ⟨_, rfl⟩
  rw [hl, ht] at ENDS hlt3
  have HENDS := Lib.hid ENDS
  rw [hl, ht]
  obtain ⟨P, hP⟩ : ∃ P : Int, 12288 + 64 * (l : Int) + 64 - (l : Int) - (t : Int) - 1 = P := ⟨_, rfl⟩
  have hP0 : 0 ≤ P := by omega
  have hP1 : P < 20000 := by omega
  have hPn : P.toNat = 12288 + 64 * l + (63 - l - t) := by omega
  have hPu : IntKind.u64.wrap P = P := by rw [IntKind.wrap_u64]; omega
  obtain ⟨M3, hM3⟩ : ∃ M3, Lb ++ bitsOf (14 : Int).toNat P.toNat = M3 := ⟨_, rfl⟩
  have hl3 : M3.length ≤ 410000 := by rw [← hM3, List.length_append, length_bitsOf]; have : (14 : Int).toNat = 14 := rfl; omega
  have HM3 := Lib.hid hM3
  have he3 : M3 ++ bitsOf (64 - l - t) (X / 2 ^ t) = Lb ++ encD a b X := by
    rw [encD, if_neg hx0, if_neg (by rw [hin]; decide), mid, ← hM3, hl, ht, hPn, show (14 : Int).toNat = 14 from rfl, new_bits l t hlt3, show 64 - l - t - 1 = 63 - l - t by omega]
    simp only [List.append_assoc]
  have HE3 := Lib.hid he3
  have hcs : (¬ (a : Int) < 64 ∧ 64 ≤ a) ∨ ((a : Int) < 64 ∧ (l : Int) < (a : Int)) ∨ ((a : Int) < 64 ∧ (a : Int) ≤ (l : Int) ∧ (t : Int) < (b : Int)) := by
    have := inW_no hin
    rw [hl, ht] at this
    omega
  clear hr hV hX hX64 hab hN hx0 hin ENDS hl ht hM3 he3 hPn
  rcases hcs with ⟨g1, g2⟩ | ⟨g1, g2⟩ | ⟨g1, g2, g3⟩
  all_goals
    go_enter Tryd.func28, Tryd.ntmps28
    go_wp2_with fail
    refine (xrefRight_yes N V a b _ HR.out).mono ?_
    rintro e w1 ⟨rfl, hB1⟩
    have H1 := below_more H0 hB1
    have A1 : Below w1.heap.size w1 (w1.alloc (.cells #[.int .i64 (N + 1), .int .u64 (v : Nat), .int .i64 (a : Nat), .int .i64 (b : Nat)] 53)) := (Below.refl _ w1).alloc (Nat.le_refl _) _
    have S2 := (S0.below hB1).below A1
    have R2 := (R0.below hB1).below A1
    have W2 := (h.below H1).below A1
    have X2 := Blk.new w1 53 #[.int .i64 (N + 1), .int .u64 (v : Nat), .int .i64 (a : Nat), .int .i64 (b : Nat)]
    have H2 := H1.trans (A1.mono H1.size)
    have hz1 : w.heap.size + 1 < w1.heap.size := (R0.below hB1).lt
    obtain ⟨s0, s1, s2, s3⟩ := (S0.below hB1).cells4
    obtain ⟨t0, t1, t2, t3⟩ := S2.cells4
    clear S0 R0 H0 hB1 H1
    go_wp2_with fail
    refine (HENDS.out _).mono ?_
    rintro e w2 ⟨rfl, rfl⟩
    go_wp2_with fail
    try rw [hP]
    obtain ⟨x, hx⟩ : ∃ x, w1.heap.size = x := ⟨_, rfl⟩
    have hx2 := X2.lt
    rw [hx] at X2 hz1 hx2 ⊢
    generalize w1.alloc (.cells #[.int .i64 (N + 1), .int .u64 (v : Nat), .int .i64 (a : Nat), .int .i64 (b : Nat)] 53) = w2 at *
    clear A1 hx s0 s1 s2 s3 t0 t1 t2 t3
    refine (refPut_int w2 base g B Lb P 14 W2 hP0 (by omega) (by omega) (by omega) (by omega) (Nat.le_trans hbase H2.size)).mono ?_
    rintro e w3' ⟨rfl, B3, W3', hB3, hT3⟩
    rw [HM3.out] at W3'
    have R3' := R2.touch hT3 (by omega) (fun e => by have := (hrow _ e.symm).2; omega)
    have X3' := X2.touch hT3 (by omega) (fun e => by have := (hrow _ e.symm).2; omega)
    have T3' := (Touch.of_below H2 g B).trans hT3 (.inl rfl)
    have nb3 : ∀ r, w.heap.size ≤ r → r ≤ x → B3 ≠ some r := fun r h1 h2 e => by
      rcases hB3 with rfl | ⟨b, rfl, hb⟩
      · have := (hrow _ e).2; omega
      · have : b = r := by injection e
        omega
    have NB3 := Lib.hid nb3
    have hBB3 : B3 = B ∨ ∃ b, B3 = some b ∧ w.heap.size ≤ b := by
      rcases hB3 with rfl | ⟨b, rfl, hb⟩
      · exact .inl rfl
      · exact .inr ⟨b, rfl, Nat.le_trans H2.size hb⟩
    have HBB3 := Lib.hid hBB3
    have hz3' : x < w3'.heap.size := X3'.lt
    clear nb3 hBB3 hB3 hT3 W2 R2 X2 S2
    obtain ⟨x0, x1, x2, x3⟩ := X3'.cells4
    obtain ⟨y0, y1, y2, y3⟩ := X3'.free4
    go_wp2_with fail
    have X3 : Blk ((w3'.setCell ⟨x, 2, none⟩ (.int .i64 (l : Nat))).setCell ⟨x, 3, none⟩ (.int .i64 (t : Nat))) x 53 #[.int .i64 (N + 1), .int .u64 (v : Nat), .int .i64 (l : Nat), .int .i64 (t : Nat)] := (X3'.set_ 2 (.int .i64 (l : Nat))).set_ 3 (.int .i64 (t : Nat))
    have R3 := (R3'.far (p := ⟨x, 2, none⟩) (show w.heap.size + 1 ≠ x by omega) (.int .i64 (l : Nat))).far (p := ⟨x, 3, none⟩) (show w.heap.size + 1 ≠ x by omega) (.int .i64 (t : Nat))
    have W3 := W3'.touch (((Touch.refl x none w3').set_ 2 (.int .i64 (l : Nat))).set_ 3 (.int .i64 (t : Nat))) (show g ≠ x by omega) (by simp) (NB3.out _ (by omega) (Nat.le_refl _)) (by cases B3 <;> simp)
    have T3 := (T3'.setRow (r := x) (.inr (by omega)) 2 (.int .i64 (l : Nat))).setRow (r := x) (.inr (by omega)) 3 (.int .i64 (t : Nat))
    have hz3 := X3.lt
    clear X3' R3' W3' T3' x0 x1 x2 x3 y0 y1 y2 y3 hz3'
    generalize (w3'.setCell ⟨x, 2, none⟩ (.int .i64 (l : Nat))).setCell ⟨x, 3, none⟩ (.int .i64 (t : Nat)) = w3 at *
    obtain ⟨x0, x1, x2, x3⟩ := X3.cells4
    go_wp2_with fail
    go_loop [10, 15] (fun yv kv => ∃ (j Z : Nat), kv = .int .i64 j ∧ yv = .int .u64 (Z : Nat) ∧ j ≤ t ∧ (Z : Int) < 18446744073709551616 ∧ Hid (X / 2 ^ j = Z)) (fun _ kv => t - (intOf kv).toNat)
    case atStart => exact ⟨0, X, rfl, rfl, Nat.zero_le _, by have := HX64.out; omega, by rw [Nat.pow_zero, Nat.div_one]; exact rfl⟩
    case round =>
      obtain ⟨j, Z, rfl, rfl, hj, hzb, hZ⟩ := hrel
      rcases Nat.eq_or_lt_of_le hj with e | hlt4
      · subst e
        have hz64 := hzb
        have HZ64 := Lib.hid hz64
        have henc : M3 ++ bitsOf (64 - (l : Int) - (j : Int)).toNat (Z : Int).toNat = Lb ++ encD a b X := by
          rw [Int.toNat_natCast, ← hZ.out, show (64 - (l : Int) - (j : Int)).toNat = 64 - l - j by omega]
          exact HE3.out
        have HENC := Lib.hid henc
        clear henc hz64 hZ hzb
        go_wp2_with fail
        refine (refPut_int w3 base g B3 M3 Z (64 - (l : Int) - (j : Int)) W3 (by omega) HZ64.out (by omega) (by omega) (by omega) (Nat.le_trans hbase T3.size)).mono ?_
        rintro e w7 ⟨rfl, B7, W7, hB7, hT7⟩
        rw [HENC.out] at W7
        have R7 := R3.touch hT7 (by omega) (fun e => NB3.out _ (by omega) (by omega) e.symm)
        have X7 := X3.touch hT7 (by omega) (fun e => NB3.out _ (by omega) (by omega) e.symm)
        have T7 := T3.trans hT7 HBB3.out
        have nb : ∀ r, w.heap.size ≤ r → r ≤ x → B7 ≠ some r := fun r h1 h2 e => by
          rcases hB7 with rfl | ⟨b, rfl, hb⟩
          · exact NB3.out _ h1 h2 e
          · have : b = r := by injection e
            omega
        have NB := Lib.hid nb
        have HBB := Lib.hid (row_step HBB3.out hB7 T3.size)
        clear nb hB7 hT7 x0 x1 x2 x3
        obtain ⟨x0, x1, x2, x3⟩ := X7.cells4
        obtain ⟨d0, d1, d2, d3⟩ := R7.cells4
        obtain ⟨e0, e1, e2, e3⟩ := R7.free4
        go_wp2_with fail
        obtain ⟨q0, q1, q2, q3⟩ := (R7.set4 (.int .i64 (N + 1)) (.int .u64 (v : Nat)) (.int .i64 (l : Nat)) (.int .i64 (j : Nat))).cells4
        refine bodyPost_ret (v := .tuple #[.agg #[.int .i64 (N + 1), .int .u64 (v : Nat), .int .i64 (l : Nat), .int .i64 (j : Nat)], .int .i64 0]) (by simp [results, Tryd.results28, go_sem, q0, q1, q2, q3]) rfl ⟨rfl, B7, W7.set4 (by omega) (NB.out _ (by omega) (by omega)) _ _ _ _, HBB.out, T7.set4 (by omega) _ _ _ _⟩
      · have hn : Hid (X / 2 ^ (j + 1) = Z / 2) := by rw [Nat.pow_succ, ← Nat.div_div_eq_div_mul, hZ.out]; exact rfl
        go_wp2_with fail
        go_round
        case rel => exact ⟨j + 1, Z / 2, by go_num, by first | rfl | go_num, hlt4, by omega, hn⟩
        case measure => simp [intOf]; omega

/-- The reference's Put, at a state that may be. -/
theorem xrPut_yes (w : World) (base g : Nat) (B : Option Nat) (Lb : List Bool) (N : Int) (V a b v : Nat) (h : Rw w base g B Lb) (hLb : Lb.length ≤ 400000) (hbase : base ≤ w.heap.size) (hr : rightX N a b = true) (hV : V < 18446744073709551616) (hv : v < 18446744073709551616) :
    Calls Tryd.prog 28 #[.pointer (some ⟨g, 0, none⟩), .agg #[.int .i64 N, .int .u64 (V : Nat), .int .i64 (a : Nat), .int .i64 (b : Nat)], .int .u64 (v : Nat)] w fun e w' =>
      e = .returned (.tuple #[.agg #[.int .i64 (N + 1), .int .u64 (v : Nat), .int .i64 ((winX N V a b v).1 : Nat), .int .i64 ((winX N V a b v).2 : Nat)], .int .i64 0]) ∧ ∃ B', Rw w' base g B' (Lb ++ encX N V a b v) ∧ (B' = B ∨ ∃ b, B' = some b ∧ w.heap.size ≤ b) ∧ Touch g B w w' := by
  unfold winX encX
  by_cases hN : N = 0
  · rw [if_pos hN, if_pos hN]
    exact xrPut_first w base g B Lb N V a b v h hLb hbase hr hV hv hN
  · rw [if_neg hN, if_neg hN]
    by_cases hx0 : v ^^^ V = 0
    · rw [winD, encD, if_pos hx0, if_pos hx0]
      exact xrPut_same w base g B Lb N V a b v h hLb hbase hr hV hv hN hx0
    · cases hin : inW a b (v ^^^ V) with
      | true =>
        rw [winD, if_neg hx0, if_pos hin]
        exact xrPut_in w base g B Lb N V a b v h hLb hbase hr hV hv hN hx0 hin
      | false =>
        rw [winD, if_neg hx0, if_neg (by rw [hin]; decide)]
        exact xrPut_new w base g B Lb N V a b v h hLb hbase hr hV hv hN hx0 hin
end Go.Proofs.YtlgndfckmnninaaDoor
