/- Walk of the reference's Put of a time. Conditions: as stated. -/
import Derived.Test.YtlgndfckmnninaaDoorStampX
namespace Go.Proofs.YtlgndfckmnninaaDoor
open Go.RowKit

theorem Rw.put3 {w : World} {base g r : Nat} {B : Option Nat} {L : List Bool} (h : Rw w base g B L) (h1 : g ≠ r) (h2 : B ≠ some r) (x y z : Value) : Rw (Go.Proofs.YtlgndfckmnninaaDoor.put3 w r x y z) base g B L :=
  h.touch ((((Touch.refl r none w).set_ 0 x).set_ 1 y).set_ 2 z) h1 (by simp) h2 (by cases B <;> simp)
theorem refPut_int (w : World) (base g : Nat) (B : Option Nat) (L : List Bool) (x n : Int) (h : Rw w base g B L) (h0 : 0 ≤ x) (hx : x < 18446744073709551616) (hn0 : 0 ≤ n) (hn : n ≤ 64) (hL : L.length ≤ 524000) (hbase : base ≤ w.heap.size) :
    Calls Tryd.prog 20 #[.pointer (some ⟨g, 0, none⟩), .int .u64 x, .int .i64 n] w fun e w' => e = .returned (.int .i64 0) ∧
      ∃ B', Rw w' base g B' (L ++ bitsOf n.toNat x.toNat) ∧ (B' = B ∨ ∃ b, B' = some b ∧ w.heap.size ≤ b) ∧ Touch g B w w' := by
  obtain ⟨x, rfl⟩ := Int.eq_ofNat_of_zero_le h0
  obtain ⟨n, rfl⟩ := Int.eq_ofNat_of_zero_le hn0
  rw [Int.toNat_natCast, Int.toNat_natCast]
  exact refPut_nat w base g B L x n h (by omega) (by omega) (by omega) hbase
theorem class_int (z : Nat) (a b : Int) (w : World) (hz : z < 281474976710656) (ha : (ofc z : Int) = a) (hb : (wid (ofc z) : Int) = b) :
    Calls Tryd.prog 61 #[.int .u64 z] w fun e w' => e = .returned (.tuple #[.int .i64 a, .int .i64 b]) ∧ w' = w := by
  subst ha hb
  exact class_any z w hz

theorem zig_neg (d : Int) (h0 : d < 0) (h : -70368744177664 ≤ d) : IntKind.u64.wrap (-2 * d - 1) = (zig d : Int) := by
  unfold zig; rw [if_pos h0, IntKind.wrap_u64]; omega
theorem zig_pos (d : Int) (h0 : ¬ d < 0) (h : d ≤ 70368744177664) : IntKind.u64.wrap (2 * d) = (zig d : Int) := by
  unfold zig; rw [if_neg h0, IntKind.wrap_u64]; omega

theorem rPut_no (w : World) (g : Nat) (N L D t : Int) (hno : nextS N L t = false ∨ rightS N L D = false) :
    Calls Tryd.prog 21 #[.pointer (some ⟨g, 0, none⟩), .agg #[.int .i64 N, .int .i64 L, .int .i64 D], .int .i64 t] w fun e w' =>
      e = .returned (.tuple #[.agg #[.int .i64 0, .int .i64 0, .int .i64 0], .int .i64 60]) ∧ Below w.heap.size w w' := by
  obtain ⟨S0, R0, H0⟩ := two_new w (.int .i64 N) (.int .i64 L) (.int .i64 0) (.int .i64 0) (.int .i64 0) (.int .i64 D) 39 39
  cases hr : rightS N L D with
  | false =>
    clear hno
    go_enter Tryd.func21, Tryd.ntmps21
    go_wp2_with fail
    refine (refRight_no N L D _ hr).mono ?_
    rintro e w1 ⟨rfl, hB1⟩
    have H1 := below_more H0 hB1
    have R1 := R0.below hB1
    obtain ⟨d0, d1, d2⟩ := R1.cells3
    obtain ⟨e0, e1, e2⟩ := R1.free3
    go_wp2_with fail
    obtain ⟨q0, q1, q2⟩ := (R1.put3 (.int .i64 0) (.int .i64 0) (.int .i64 0)).cells3
    refine bodyPost_ret (v := .tuple #[.agg #[.int .i64 0, .int .i64 0, .int .i64 0], .int .i64 60]) (by simp [results, Tryd.results21, go_sem, q0, q1, q2]) rfl ⟨rfl, ?_⟩
    exact below_put3 H1 (by omega) _ _ _
  | true =>
    have hn : nextS N L t = false := by
      rcases hno with h | h
      · exact h
      · rw [h] at hr; cases hr
    have hn := nextS_no hn
    obtain ⟨a1, _⟩ := rightS_of hr
    have hc : t < 0 ∨ (0 ≤ t ∧ 35184372088832 < t) ∨ (0 ≤ t ∧ t ≤ 35184372088832 ∧ 0 < N ∧ t ≤ L) := by omega
    clear hno hn a1
    rcases hc with h1 | ⟨h1, h2⟩ | ⟨h1, h2, h3, h4⟩
    all_goals
      go_enter Tryd.func21, Tryd.ntmps21
      go_wp2_with fail
      refine (refRight_yes N L D _ hr).mono ?_
      rintro e w1 ⟨rfl, hB1⟩
      have H1 := below_more H0 hB1
      have S1 := S0.below hB1
      have R1 := R0.below hB1
      obtain ⟨c0, c1, c2⟩ := S1.cells3
      obtain ⟨d0, d1, d2⟩ := R1.cells3
      obtain ⟨e0, e1, e2⟩ := R1.free3
      go_wp2_with fail
      obtain ⟨q0, q1, q2⟩ := (R1.put3 (.int .i64 0) (.int .i64 0) (.int .i64 0)).cells3
      refine bodyPost_ret (v := .tuple #[.agg #[.int .i64 0, .int .i64 0, .int .i64 0], .int .i64 60]) (by simp [results, Tryd.results21, go_sem, q0, q1, q2]) rfl ⟨rfl, ?_⟩
      exact below_put3 H1 (by omega) _ _ _

set_option maxHeartbeats 800000 in
theorem rPut_first (w : World) (base g : Nat) (B : Option Nat) (Lb : List Bool) (L D t : Int) (h : Rw w base g B Lb) (hLb : Lb.length ≤ 500000) (hbase : base ≤ w.heap.size) (hn : nextS 0 L t = true) (hr : rightS 0 L D = true) :
    Calls Tryd.prog 21 #[.pointer (some ⟨g, 0, none⟩), .agg #[.int .i64 0, .int .i64 L, .int .i64 D], .int .i64 t] w fun e w' =>
      e = .returned (.tuple #[.agg #[.int .i64 1, .int .i64 t, .int .i64 0], .int .i64 0]) ∧ ∃ B', Rw w' base g B' (Lb ++ bitsOf 46 t.toNat) ∧ (B' = B ∨ ∃ b, B' = some b ∧ w.heap.size ≤ b) ∧ Touch g B w w' := by
  obtain ⟨S0, R0, H0⟩ := two_new w (.int .i64 0) (.int .i64 L) (.int .i64 0) (.int .i64 0) (.int .i64 0) (.int .i64 D) 39 39
  have hlt := h.lt
  have hrow := h.row
  obtain ⟨b1, b2, _⟩ := nextS_of hn
  obtain ⟨T, rfl⟩ := Int.eq_ofNat_of_zero_le b1
  rw [Int.toNat_natCast]
  have hu : IntKind.u64.wrap (T : Int) = (T : Int) := by rw [IntKind.wrap_u64]; omega
  clear hn
  go_enter Tryd.func21, Tryd.ntmps21
  go_wp2_with fail
  refine (refRight_yes 0 L D _ hr).mono ?_
  rintro e w1 ⟨rfl, hB1⟩
  have H1 := below_more H0 hB1
  have S1 := S0.below hB1
  have R1 := R0.below hB1
  have W1 := h.below H1
  have hz1 := R1.lt
  obtain ⟨c0, c1, c2⟩ := S1.cells3
  go_wp2_with fail
  refine (refPut_int w1 base g B Lb T 46 W1 b1 (by omega) (by omega) (by omega) (by omega) (Nat.le_trans hbase H1.size)).mono ?_
  rintro e w3 ⟨rfl, B3, W3, hB3, hT3⟩
  have R3 := R1.touch hT3 (by omega) (fun e => by have := hrow _ e.symm; omega)
  obtain ⟨d0, d1, d2⟩ := R3.cells3
  obtain ⟨e0, e1, e2⟩ := R3.free3
  go_wp2_with fail
  obtain ⟨q0, q1, q2⟩ := (R3.put3 (.int .i64 1) (.int .i64 T) (.int .i64 0)).cells3
  refine bodyPost_ret (v := .tuple #[.agg #[.int .i64 1, .int .i64 T, .int .i64 0], .int .i64 0]) (by simp [results, Tryd.results21, go_sem, q0, q1, q2]) rfl ⟨rfl, B3, W3.put3 (by omega) ?_ _ _ _, ?_, ?_⟩
  · intro e
    rcases hB3 with rfl | ⟨b, rfl, hb⟩
    · have := hrow _ e; omega
    · have : b = w.heap.size + 1 := by injection e
      omega
  · rcases hB3 with rfl | ⟨b, rfl, hb⟩
    · exact .inl rfl
    · exact .inr ⟨b, rfl, Nat.le_trans H1.size hb⟩
  · exact ((Touch.of_below H1 g B).trans hT3 (.inl rfl)).put3 (by omega) _ _ _

set_option maxHeartbeats 1600000 in
theorem rPut_k0 (w : World) (base g : Nat) (B : Option Nat) (Lb : List Bool) (N L D t : Int) (h : Rw w base g B Lb) (hLb : Lb.length ≤ 500000) (hbase : base ≤ w.heap.size) (hn : nextS N L t = true) (hr : rightS N L D = true) (hN : N ≠ 0) (hk : ofc (zig (t - L - D)) = 0) :
    Calls Tryd.prog 21 #[.pointer (some ⟨g, 0, none⟩), .agg #[.int .i64 N, .int .i64 L, .int .i64 D], .int .i64 t] w fun e w' =>
      e = .returned (.tuple #[.agg #[.int .i64 (N + 1), .int .i64 t, .int .i64 (t - L)], .int .i64 0]) ∧ ∃ B', Rw w' base g B' (Lb ++ encZ (zig (t - L - D))) ∧ (B' = B ∨ ∃ b, B' = some b ∧ w.heap.size ≤ b) ∧ Touch g B w w' := by
  obtain ⟨S0, R0, H0⟩ := two_new w (.int .i64 N) (.int .i64 L) (.int .i64 0) (.int .i64 0) (.int .i64 0) (.int .i64 D) 39 39
  have hlt := h.lt
  have hrow := h.row
  obtain ⟨b1, b2, b3⟩ := nextS_of hn
  obtain ⟨a1, a2, a3, a4, a5, a6⟩ := rightS_of hr
  have hb3 : L < t := by rcases b3 with b3 | b3; · exact absurd b3 hN
                         · exact b3
  have hN0 : (N == 0) = false := beq_eq_false_iff_ne.2 hN
  have hN1 : 0 < N := by omega
  clear b3 hn hN
  obtain ⟨Z, hZ⟩ : ∃ Z, zig (t - L - D) = Z := ⟨_, rfl⟩
  have HZ := Lib.hid hZ
  rw [hZ] at hk
  have HZl := Lib.hid (hZ ▸ zig_lt (t - L - D) (by omega) : Z < 281474976710656)
  have CL := fun W => class_int Z 0 0 W HZl.out (by omega) (by rw [hk]; rfl)
  have HCL := Lib.hid CL
  have EZ := Lib.hid (encZ_k0 Z hk)
  have hzn := zig_neg (t - L - D)
  have hzp := zig_pos (t - L - D)
  rw [hZ] at hzn hzp
  rw [hZ]
  have HK := Lib.hid hk
  have HR := Lib.hid hr
  clear hr hk CL hZ
  have hcs : (t - L - D < 0 ∧ IntKind.u64.wrap (-2 * (t - L - D) - 1) = (Z : Int)) ∨ (¬ t - L - D < 0 ∧ IntKind.u64.wrap (2 * (t - L - D)) = (Z : Int)) := by
    by_cases hneg : t - L - D < 0
    · exact .inl ⟨hneg, hzn hneg (by omega)⟩
    · exact .inr ⟨hneg, hzp hneg (by omega)⟩
  clear hzn hzp
  rcases hcs with ⟨hneg, hzz⟩ | ⟨hneg, hzz⟩
  all_goals
    go_enter Tryd.func21, Tryd.ntmps21
    go_wp2_with fail
    refine (refRight_yes N L D _ HR.out).mono ?_
    rintro e w1 ⟨rfl, hB1⟩
    have H1 := below_more H0 hB1
    have S1 := S0.below hB1
    have R1 := R0.below hB1
    have W1 := h.below H1
    have hz1 := R1.lt
    obtain ⟨c0, c1, c2⟩ := S1.cells3
    go_wp2_with fail
    refine (HCL.out _).mono ?_
    rintro e w2 ⟨rfl, rfl⟩
    go_wp2_with fail
    clear c0 c1 c2
    go_loopw [14] (fun iv wr => ∃ i : Nat, ∃ B', iv = .int .i64 i ∧ i ≤ 0 ∧ Rw wr base g B' (Lb ++ List.replicate i true) ∧ Hid (B' = B ∨ ∃ b, B' = some b ∧ w2.heap.size ≤ b) ∧ Touch g B w wr ∧ w2.heap.size ≤ wr.heap.size ∧ Blk wr w.heap.size 39 #[.int .i64 N, .int .i64 L, .int .i64 D] ∧ Blk wr (w.heap.size + 1) 39 #[.int .i64 0, .int .i64 0, .int .i64 0]) (fun iv _ => 0 - (intOf iv).toNat)
    case atStart => exact ⟨0, B, rfl, by omega, by simpa using W1, .inl rfl, Touch.of_below H1 g B, Nat.le_refl _, S1, R1⟩
    case round =>
      obtain ⟨i, B', rfl, hi, hW, hBB, hT, hsz, hS, hR⟩ := hrel
      have hrow' := hW.row
      have nx : ∀ r, w.heap.size ≤ r → r < w2.heap.size → B' ≠ some r := fun r h1 h2 e => by
        rcases hBB.out with rfl | ⟨b, rfl, hb⟩
        · have := (hrow _ e).2; omega
        · have : b = r := by injection e
          omega
      have NX := Lib.hid nx
      have nB : B' = B ∨ ∃ b, B' = some b ∧ w.heap.size ≤ b := by
        rcases hBB.out with rfl | ⟨b, rfl, hb⟩
        · exact .inl rfl
        · exact .inr ⟨b, rfl, Nat.le_trans H1.size hb⟩
      have NB := Lib.hid nB
      clear nx nB R1 S1 W1
      rcases Nat.lt_or_ge i 0 with hi1 | hi1
      · omega
      · obtain rfl : i = 0 := by omega
        clear hi hi1
        go_wp2_with fail
        refine (refPut_int wr base g B' _ 0 1 hW (by omega) (by omega) (by omega) (by omega) (by simp; omega) (Nat.le_trans hbase hT.size)).mono ?_
        rintro e w5 ⟨rfl, B5, W5, hB5, hT5⟩
        have S5 := hS.touch hT5 (by omega) (fun e => NX.out _ (by omega) (by omega) e.symm)
        have R5 := hR.touch hT5 (by omega) (fun e => NX.out _ (by omega) (by omega) e.symm)
        have T5 := hT.trans hT5 NB.out
        have HB5 := Lib.hid (row_step (a := w2.heap.size) (b := wr.heap.size) hBB.out hB5 hsz)
        have hz5 : w2.heap.size ≤ w5.heap.size := Nat.le_trans hsz hT5.size
        have W6 : Rw w5 base g B5 (Lb ++ bitsOf 1 0) := by rw [List.append_assoc] at W5; exact W5
        clear hB5 W5
        go_wp2_with fail
        refine (refPut_int w5 base g B5 _ Z 0 W6 (by omega) (by have := HZl.out; omega) (by omega) (by omega) (by simp [length_bitsOf]; omega) (Nat.le_trans hbase T5.size)).mono ?_
        rintro e w7 ⟨rfl, B7, W7, hB7, hT7⟩
        have nx5 : ∀ r, w.heap.size ≤ r → r < w2.heap.size → B5 ≠ some r := fun r h1 h2 e => by
          rcases HB5.out with rfl | ⟨b, rfl, hb⟩
          · have := (hrow _ e).2; omega
          · have : b = r := by injection e
            omega
        have nB5 : B5 = B ∨ ∃ b, B5 = some b ∧ w.heap.size ≤ b := by
          rcases HB5.out with rfl | ⟨b, rfl, hb⟩
          · exact .inl rfl
          · exact .inr ⟨b, rfl, Nat.le_trans H1.size hb⟩
        have S7 := S5.touch hT7 (by omega) (fun e => nx5 _ (by omega) (by omega) e.symm)
        have R7 := R5.touch hT7 (by omega) (fun e => nx5 _ (by omega) (by omega) e.symm)
        have T7 := T5.trans hT7 nB5
        have hBB7 : B7 = B ∨ ∃ b, B7 = some b ∧ w.heap.size ≤ b := row_step nB5 hB7 T5.size
        have HX : B7 ≠ some (w.heap.size + 1) := fun e => by
          rcases hB7 with rfl | ⟨b, rfl, hb⟩
          · exact nx5 _ (by omega) (by omega) e
          · have : b = w.heap.size + 1 := by injection e
            omega
        have W7' : Rw w7 base g B7 (Lb ++ encZ Z) := by rw [EZ.out, ← List.append_assoc]; exact W7
        have NX5 := Lib.hid nx5
        have NB5 := Lib.hid nB5
        have HBB7 := Lib.hid hBB7
        have HXX := Lib.hid HX
        clear nx5 nB5 hBB7 HX hB7 W7
        obtain ⟨c0, c1, c2⟩ := S7.cells3
        obtain ⟨d0, d1, d2⟩ := R7.cells3
        obtain ⟨e0, e1, e2⟩ := R7.free3
        go_wp2_with fail
        obtain ⟨q0, q1, q2⟩ := (R7.put3 (.int .i64 (N + 1)) (.int .i64 t) (.int .i64 (t - L))).cells3
        refine bodyPost_ret (v := .tuple #[.agg #[.int .i64 (N + 1), .int .i64 t, .int .i64 (t - L)], .int .i64 0]) (by simp [results, Tryd.results21, go_sem, q0, q1, q2]) rfl ⟨rfl, B7, W7'.put3 (by omega) HXX.out _ _ _, HBB7.out, T7.put3 (by omega) _ _ _⟩

set_option maxHeartbeats 1600000 in
theorem rPut_k1 (w : World) (base g : Nat) (B : Option Nat) (Lb : List Bool) (N L D t : Int) (h : Rw w base g B Lb) (hLb : Lb.length ≤ 500000) (hbase : base ≤ w.heap.size) (hn : nextS N L t = true) (hr : rightS N L D = true) (hN : N ≠ 0) (hk : ofc (zig (t - L - D)) = 1) :
    Calls Tryd.prog 21 #[.pointer (some ⟨g, 0, none⟩), .agg #[.int .i64 N, .int .i64 L, .int .i64 D], .int .i64 t] w fun e w' =>
      e = .returned (.tuple #[.agg #[.int .i64 (N + 1), .int .i64 t, .int .i64 (t - L)], .int .i64 0]) ∧ ∃ B', Rw w' base g B' (Lb ++ encZ (zig (t - L - D))) ∧ (B' = B ∨ ∃ b, B' = some b ∧ w.heap.size ≤ b) ∧ Touch g B w w' := by
  obtain ⟨S0, R0, H0⟩ := two_new w (.int .i64 N) (.int .i64 L) (.int .i64 0) (.int .i64 0) (.int .i64 0) (.int .i64 D) 39 39
  have hlt := h.lt
  have hrow := h.row
  obtain ⟨b1, b2, b3⟩ := nextS_of hn
  obtain ⟨a1, a2, a3, a4, a5, a6⟩ := rightS_of hr
  have hb3 : L < t := by rcases b3 with b3 | b3; · exact absurd b3 hN
                         · exact b3
  have hN0 : (N == 0) = false := beq_eq_false_iff_ne.2 hN
  have hN1 : 0 < N := by omega
  clear b3 hn hN
  obtain ⟨Z, hZ⟩ : ∃ Z, zig (t - L - D) = Z := ⟨_, rfl⟩
  have HZ := Lib.hid hZ
  rw [hZ] at hk
  have HZl := Lib.hid (hZ ▸ zig_lt (t - L - D) (by omega) : Z < 281474976710656)
  have CL := fun W => class_int Z 1 7 W HZl.out (by omega) (by rw [hk]; rfl)
  have HCL := Lib.hid CL
  have EZ := Lib.hid (encZ_k1 Z hk)
  have hzn := zig_neg (t - L - D)
  have hzp := zig_pos (t - L - D)
  rw [hZ] at hzn hzp
  rw [hZ]
  have HK := Lib.hid hk
  have HR := Lib.hid hr
  clear hr hk CL hZ
  have hcs : (t - L - D < 0 ∧ IntKind.u64.wrap (-2 * (t - L - D) - 1) = (Z : Int)) ∨ (¬ t - L - D < 0 ∧ IntKind.u64.wrap (2 * (t - L - D)) = (Z : Int)) := by
    by_cases hneg : t - L - D < 0
    · exact .inl ⟨hneg, hzn hneg (by omega)⟩
    · exact .inr ⟨hneg, hzp hneg (by omega)⟩
  clear hzn hzp
  rcases hcs with ⟨hneg, hzz⟩ | ⟨hneg, hzz⟩
  all_goals
    go_enter Tryd.func21, Tryd.ntmps21
    go_wp2_with fail
    refine (refRight_yes N L D _ HR.out).mono ?_
    rintro e w1 ⟨rfl, hB1⟩
    have H1 := below_more H0 hB1
    have S1 := S0.below hB1
    have R1 := R0.below hB1
    have W1 := h.below H1
    have hz1 := R1.lt
    obtain ⟨c0, c1, c2⟩ := S1.cells3
    go_wp2_with fail
    refine (HCL.out _).mono ?_
    rintro e w2 ⟨rfl, rfl⟩
    go_wp2_with fail
    clear c0 c1 c2
    go_loopw [14] (fun iv wr => ∃ i : Nat, ∃ B', iv = .int .i64 i ∧ i ≤ 1 ∧ Rw wr base g B' (Lb ++ List.replicate i true) ∧ Hid (B' = B ∨ ∃ b, B' = some b ∧ w2.heap.size ≤ b) ∧ Touch g B w wr ∧ w2.heap.size ≤ wr.heap.size ∧ Blk wr w.heap.size 39 #[.int .i64 N, .int .i64 L, .int .i64 D] ∧ Blk wr (w.heap.size + 1) 39 #[.int .i64 0, .int .i64 0, .int .i64 0]) (fun iv _ => 1 - (intOf iv).toNat)
    case atStart => exact ⟨0, B, rfl, by omega, by simpa using W1, .inl rfl, Touch.of_below H1 g B, Nat.le_refl _, S1, R1⟩
    case round =>
      obtain ⟨i, B', rfl, hi, hW, hBB, hT, hsz, hS, hR⟩ := hrel
      have hrow' := hW.row
      have nx : ∀ r, w.heap.size ≤ r → r < w2.heap.size → B' ≠ some r := fun r h1 h2 e => by
        rcases hBB.out with rfl | ⟨b, rfl, hb⟩
        · have := (hrow _ e).2; omega
        · have : b = r := by injection e
          omega
      have NX := Lib.hid nx
      have nB : B' = B ∨ ∃ b, B' = some b ∧ w.heap.size ≤ b := by
        rcases hBB.out with rfl | ⟨b, rfl, hb⟩
        · exact .inl rfl
        · exact .inr ⟨b, rfl, Nat.le_trans H1.size hb⟩
      have NB := Lib.hid nB
      clear nx nB R1 S1 W1
      rcases Nat.lt_or_ge i 1 with hi1 | hi1
      · go_wp2_with fail
        refine (refPut_int wr base g B' _ 1 1 hW (by omega) (by omega) (by omega) (by omega) (by simp; omega) (Nat.le_trans hbase hT.size)).mono ?_
        rintro e w5 ⟨rfl, B5, W5, hB5, hT5⟩
        have S5 := hS.touch hT5 (by omega) (fun e => NX.out _ (by omega) (by omega) e.symm)
        have R5 := hR.touch hT5 (by omega) (fun e => NX.out _ (by omega) (by omega) e.symm)
        have T5 := hT.trans hT5 NB.out
        have HB5 := Lib.hid (row_step (a := w2.heap.size) (b := wr.heap.size) hBB.out hB5 hsz)
        have hz5 := hT5.size
        have W5' : Rw w5 base g B5 (Lb ++ List.replicate (i + 1) true) := by
          rw [List.replicate_succ', ← List.append_assoc]; exact W5
        clear hB5 W5
        go_wp2_with fail
        go_roundw
        case rel => exact ⟨i + 1, B5, rfl, hi1, W5', HB5, T5, by omega, S5, R5⟩
        case measure => simp [intOf]; omega
      · obtain rfl : i = 1 := by omega
        clear hi hi1
        go_wp2_with fail
        refine (refPut_int wr base g B' _ 0 1 hW (by omega) (by omega) (by omega) (by omega) (by simp; omega) (Nat.le_trans hbase hT.size)).mono ?_
        rintro e w5 ⟨rfl, B5, W5, hB5, hT5⟩
        have S5 := hS.touch hT5 (by omega) (fun e => NX.out _ (by omega) (by omega) e.symm)
        have R5 := hR.touch hT5 (by omega) (fun e => NX.out _ (by omega) (by omega) e.symm)
        have T5 := hT.trans hT5 NB.out
        have HB5 := Lib.hid (row_step (a := w2.heap.size) (b := wr.heap.size) hBB.out hB5 hsz)
        have hz5 : w2.heap.size ≤ w5.heap.size := Nat.le_trans hsz hT5.size
        have W6 : Rw w5 base g B5 (Lb ++ bitsOf 2 2) := by rw [List.append_assoc] at W5; exact W5
        clear hB5 W5
        go_wp2_with fail
        refine (refPut_int w5 base g B5 _ Z 7 W6 (by omega) (by have := HZl.out; omega) (by omega) (by omega) (by simp [length_bitsOf]; omega) (Nat.le_trans hbase T5.size)).mono ?_
        rintro e w7 ⟨rfl, B7, W7, hB7, hT7⟩
        have nx5 : ∀ r, w.heap.size ≤ r → r < w2.heap.size → B5 ≠ some r := fun r h1 h2 e => by
          rcases HB5.out with rfl | ⟨b, rfl, hb⟩
          · have := (hrow _ e).2; omega
          · have : b = r := by injection e
            omega
        have nB5 : B5 = B ∨ ∃ b, B5 = some b ∧ w.heap.size ≤ b := by
          rcases HB5.out with rfl | ⟨b, rfl, hb⟩
          · exact .inl rfl
          · exact .inr ⟨b, rfl, Nat.le_trans H1.size hb⟩
        have S7 := S5.touch hT7 (by omega) (fun e => nx5 _ (by omega) (by omega) e.symm)
        have R7 := R5.touch hT7 (by omega) (fun e => nx5 _ (by omega) (by omega) e.symm)
        have T7 := T5.trans hT7 nB5
        have hBB7 : B7 = B ∨ ∃ b, B7 = some b ∧ w.heap.size ≤ b := row_step nB5 hB7 T5.size
        have HX : B7 ≠ some (w.heap.size + 1) := fun e => by
          rcases hB7 with rfl | ⟨b, rfl, hb⟩
          · exact nx5 _ (by omega) (by omega) e
          · have : b = w.heap.size + 1 := by injection e
            omega
        have W7' : Rw w7 base g B7 (Lb ++ encZ Z) := by rw [EZ.out, ← List.append_assoc]; exact W7
        have NX5 := Lib.hid nx5
        have NB5 := Lib.hid nB5
        have HBB7 := Lib.hid hBB7
        have HXX := Lib.hid HX
        clear nx5 nB5 hBB7 HX hB7 W7
        obtain ⟨c0, c1, c2⟩ := S7.cells3
        obtain ⟨d0, d1, d2⟩ := R7.cells3
        obtain ⟨e0, e1, e2⟩ := R7.free3
        go_wp2_with fail
        obtain ⟨q0, q1, q2⟩ := (R7.put3 (.int .i64 (N + 1)) (.int .i64 t) (.int .i64 (t - L))).cells3
        refine bodyPost_ret (v := .tuple #[.agg #[.int .i64 (N + 1), .int .i64 t, .int .i64 (t - L)], .int .i64 0]) (by simp [results, Tryd.results21, go_sem, q0, q1, q2]) rfl ⟨rfl, B7, W7'.put3 (by omega) HXX.out _ _ _, HBB7.out, T7.put3 (by omega) _ _ _⟩

set_option maxHeartbeats 1600000 in
theorem rPut_k2 (w : World) (base g : Nat) (B : Option Nat) (Lb : List Bool) (N L D t : Int) (h : Rw w base g B Lb) (hLb : Lb.length ≤ 500000) (hbase : base ≤ w.heap.size) (hn : nextS N L t = true) (hr : rightS N L D = true) (hN : N ≠ 0) (hk : ofc (zig (t - L - D)) = 2) :
    Calls Tryd.prog 21 #[.pointer (some ⟨g, 0, none⟩), .agg #[.int .i64 N, .int .i64 L, .int .i64 D], .int .i64 t] w fun e w' =>
      e = .returned (.tuple #[.agg #[.int .i64 (N + 1), .int .i64 t, .int .i64 (t - L)], .int .i64 0]) ∧ ∃ B', Rw w' base g B' (Lb ++ encZ (zig (t - L - D))) ∧ (B' = B ∨ ∃ b, B' = some b ∧ w.heap.size ≤ b) ∧ Touch g B w w' := by
  obtain ⟨S0, R0, H0⟩ := two_new w (.int .i64 N) (.int .i64 L) (.int .i64 0) (.int .i64 0) (.int .i64 0) (.int .i64 D) 39 39
  have hlt := h.lt
  have hrow := h.row
  obtain ⟨b1, b2, b3⟩ := nextS_of hn
  obtain ⟨a1, a2, a3, a4, a5, a6⟩ := rightS_of hr
  have hb3 : L < t := by rcases b3 with b3 | b3; · exact absurd b3 hN
                         · exact b3
  have hN0 : (N == 0) = false := beq_eq_false_iff_ne.2 hN
  have hN1 : 0 < N := by omega
  clear b3 hn hN
  obtain ⟨Z, hZ⟩ : ∃ Z, zig (t - L - D) = Z := ⟨_, rfl⟩
  have HZ := Lib.hid hZ
  rw [hZ] at hk
  have HZl := Lib.hid (hZ ▸ zig_lt (t - L - D) (by omega) : Z < 281474976710656)
  have CL := fun W => class_int Z 2 12 W HZl.out (by omega) (by rw [hk]; rfl)
  have HCL := Lib.hid CL
  have EZ := Lib.hid (encZ_k2 Z hk)
  have hzn := zig_neg (t - L - D)
  have hzp := zig_pos (t - L - D)
  rw [hZ] at hzn hzp
  rw [hZ]
  have HK := Lib.hid hk
  have HR := Lib.hid hr
  clear hr hk CL hZ
  have hcs : (t - L - D < 0 ∧ IntKind.u64.wrap (-2 * (t - L - D) - 1) = (Z : Int)) ∨ (¬ t - L - D < 0 ∧ IntKind.u64.wrap (2 * (t - L - D)) = (Z : Int)) := by
    by_cases hneg : t - L - D < 0
    · exact .inl ⟨hneg, hzn hneg (by omega)⟩
    · exact .inr ⟨hneg, hzp hneg (by omega)⟩
  clear hzn hzp
  rcases hcs with ⟨hneg, hzz⟩ | ⟨hneg, hzz⟩
  all_goals
    go_enter Tryd.func21, Tryd.ntmps21
    go_wp2_with fail
    refine (refRight_yes N L D _ HR.out).mono ?_
    rintro e w1 ⟨rfl, hB1⟩
    have H1 := below_more H0 hB1
    have S1 := S0.below hB1
    have R1 := R0.below hB1
    have W1 := h.below H1
    have hz1 := R1.lt
    obtain ⟨c0, c1, c2⟩ := S1.cells3
    go_wp2_with fail
    refine (HCL.out _).mono ?_
    rintro e w2 ⟨rfl, rfl⟩
    go_wp2_with fail
    clear c0 c1 c2
    go_loopw [14] (fun iv wr => ∃ i : Nat, ∃ B', iv = .int .i64 i ∧ i ≤ 2 ∧ Rw wr base g B' (Lb ++ List.replicate i true) ∧ Hid (B' = B ∨ ∃ b, B' = some b ∧ w2.heap.size ≤ b) ∧ Touch g B w wr ∧ w2.heap.size ≤ wr.heap.size ∧ Blk wr w.heap.size 39 #[.int .i64 N, .int .i64 L, .int .i64 D] ∧ Blk wr (w.heap.size + 1) 39 #[.int .i64 0, .int .i64 0, .int .i64 0]) (fun iv _ => 2 - (intOf iv).toNat)
    case atStart => exact ⟨0, B, rfl, by omega, by simpa using W1, .inl rfl, Touch.of_below H1 g B, Nat.le_refl _, S1, R1⟩
    case round =>
      obtain ⟨i, B', rfl, hi, hW, hBB, hT, hsz, hS, hR⟩ := hrel
      have hrow' := hW.row
      have nx : ∀ r, w.heap.size ≤ r → r < w2.heap.size → B' ≠ some r := fun r h1 h2 e => by
        rcases hBB.out with rfl | ⟨b, rfl, hb⟩
        · have := (hrow _ e).2; omega
        · have : b = r := by injection e
          omega
      have NX := Lib.hid nx
      have nB : B' = B ∨ ∃ b, B' = some b ∧ w.heap.size ≤ b := by
        rcases hBB.out with rfl | ⟨b, rfl, hb⟩
        · exact .inl rfl
        · exact .inr ⟨b, rfl, Nat.le_trans H1.size hb⟩
      have NB := Lib.hid nB
      clear nx nB R1 S1 W1
      rcases Nat.lt_or_ge i 2 with hi1 | hi1
      · go_wp2_with fail
        refine (refPut_int wr base g B' _ 1 1 hW (by omega) (by omega) (by omega) (by omega) (by simp; omega) (Nat.le_trans hbase hT.size)).mono ?_
        rintro e w5 ⟨rfl, B5, W5, hB5, hT5⟩
        have S5 := hS.touch hT5 (by omega) (fun e => NX.out _ (by omega) (by omega) e.symm)
        have R5 := hR.touch hT5 (by omega) (fun e => NX.out _ (by omega) (by omega) e.symm)
        have T5 := hT.trans hT5 NB.out
        have HB5 := Lib.hid (row_step (a := w2.heap.size) (b := wr.heap.size) hBB.out hB5 hsz)
        have hz5 := hT5.size
        have W5' : Rw w5 base g B5 (Lb ++ List.replicate (i + 1) true) := by
          rw [List.replicate_succ', ← List.append_assoc]; exact W5
        clear hB5 W5
        go_wp2_with fail
        go_roundw
        case rel => exact ⟨i + 1, B5, rfl, hi1, W5', HB5, T5, by omega, S5, R5⟩
        case measure => simp [intOf]; omega
      · obtain rfl : i = 2 := by omega
        clear hi hi1
        go_wp2_with fail
        refine (refPut_int wr base g B' _ 0 1 hW (by omega) (by omega) (by omega) (by omega) (by simp; omega) (Nat.le_trans hbase hT.size)).mono ?_
        rintro e w5 ⟨rfl, B5, W5, hB5, hT5⟩
        have S5 := hS.touch hT5 (by omega) (fun e => NX.out _ (by omega) (by omega) e.symm)
        have R5 := hR.touch hT5 (by omega) (fun e => NX.out _ (by omega) (by omega) e.symm)
        have T5 := hT.trans hT5 NB.out
        have HB5 := Lib.hid (row_step (a := w2.heap.size) (b := wr.heap.size) hBB.out hB5 hsz)
        have hz5 : w2.heap.size ≤ w5.heap.size := Nat.le_trans hsz hT5.size
        have W6 : Rw w5 base g B5 (Lb ++ bitsOf 3 6) := by rw [List.append_assoc] at W5; exact W5
        clear hB5 W5
        go_wp2_with fail
        refine (refPut_int w5 base g B5 _ Z 12 W6 (by omega) (by have := HZl.out; omega) (by omega) (by omega) (by simp [length_bitsOf]; omega) (Nat.le_trans hbase T5.size)).mono ?_
        rintro e w7 ⟨rfl, B7, W7, hB7, hT7⟩
        have nx5 : ∀ r, w.heap.size ≤ r → r < w2.heap.size → B5 ≠ some r := fun r h1 h2 e => by
          rcases HB5.out with rfl | ⟨b, rfl, hb⟩
          · have := (hrow _ e).2; omega
          · have : b = r := by injection e
            omega
        have nB5 : B5 = B ∨ ∃ b, B5 = some b ∧ w.heap.size ≤ b := by
          rcases HB5.out with rfl | ⟨b, rfl, hb⟩
          · exact .inl rfl
          · exact .inr ⟨b, rfl, Nat.le_trans H1.size hb⟩
        have S7 := S5.touch hT7 (by omega) (fun e => nx5 _ (by omega) (by omega) e.symm)
        have R7 := R5.touch hT7 (by omega) (fun e => nx5 _ (by omega) (by omega) e.symm)
        have T7 := T5.trans hT7 nB5
        have hBB7 : B7 = B ∨ ∃ b, B7 = some b ∧ w.heap.size ≤ b := row_step nB5 hB7 T5.size
        have HX : B7 ≠ some (w.heap.size + 1) := fun e => by
          rcases hB7 with rfl | ⟨b, rfl, hb⟩
          · exact nx5 _ (by omega) (by omega) e
          · have : b = w.heap.size + 1 := by injection e
            omega
        have W7' : Rw w7 base g B7 (Lb ++ encZ Z) := by rw [EZ.out, ← List.append_assoc]; exact W7
        have NX5 := Lib.hid nx5
        have NB5 := Lib.hid nB5
        have HBB7 := Lib.hid hBB7
        have HXX := Lib.hid HX
        clear nx5 nB5 hBB7 HX hB7 W7
        obtain ⟨c0, c1, c2⟩ := S7.cells3
        obtain ⟨d0, d1, d2⟩ := R7.cells3
        obtain ⟨e0, e1, e2⟩ := R7.free3
        go_wp2_with fail
        obtain ⟨q0, q1, q2⟩ := (R7.put3 (.int .i64 (N + 1)) (.int .i64 t) (.int .i64 (t - L))).cells3
        refine bodyPost_ret (v := .tuple #[.agg #[.int .i64 (N + 1), .int .i64 t, .int .i64 (t - L)], .int .i64 0]) (by simp [results, Tryd.results21, go_sem, q0, q1, q2]) rfl ⟨rfl, B7, W7'.put3 (by omega) HXX.out _ _ _, HBB7.out, T7.put3 (by omega) _ _ _⟩

set_option maxHeartbeats 1600000 in
theorem rPut_k3 (w : World) (base g : Nat) (B : Option Nat) (Lb : List Bool) (N L D t : Int) (h : Rw w base g B Lb) (hLb : Lb.length ≤ 500000) (hbase : base ≤ w.heap.size) (hn : nextS N L t = true) (hr : rightS N L D = true) (hN : N ≠ 0) (hk : ofc (zig (t - L - D)) = 3) :
    Calls Tryd.prog 21 #[.pointer (some ⟨g, 0, none⟩), .agg #[.int .i64 N, .int .i64 L, .int .i64 D], .int .i64 t] w fun e w' =>
      e = .returned (.tuple #[.agg #[.int .i64 (N + 1), .int .i64 t, .int .i64 (t - L)], .int .i64 0]) ∧ ∃ B', Rw w' base g B' (Lb ++ encZ (zig (t - L - D))) ∧ (B' = B ∨ ∃ b, B' = some b ∧ w.heap.size ≤ b) ∧ Touch g B w w' := by
  obtain ⟨S0, R0, H0⟩ := two_new w (.int .i64 N) (.int .i64 L) (.int .i64 0) (.int .i64 0) (.int .i64 0) (.int .i64 D) 39 39
  have hlt := h.lt
  have hrow := h.row
  obtain ⟨b1, b2, b3⟩ := nextS_of hn
  obtain ⟨a1, a2, a3, a4, a5, a6⟩ := rightS_of hr
  have hb3 : L < t := by rcases b3 with b3 | b3; · exact absurd b3 hN
                         · exact b3
  have hN0 : (N == 0) = false := beq_eq_false_iff_ne.2 hN
  have hN1 : 0 < N := by omega
  clear b3 hn hN
  obtain ⟨Z, hZ⟩ : ∃ Z, zig (t - L - D) = Z := ⟨_, rfl⟩
  have HZ := Lib.hid hZ
  rw [hZ] at hk
  have HZl := Lib.hid (hZ ▸ zig_lt (t - L - D) (by omega) : Z < 281474976710656)
  have CL := fun W => class_int Z 3 20 W HZl.out (by omega) (by rw [hk]; rfl)
  have HCL := Lib.hid CL
  have EZ := Lib.hid (encZ_k3 Z hk)
  have hzn := zig_neg (t - L - D)
  have hzp := zig_pos (t - L - D)
  rw [hZ] at hzn hzp
  rw [hZ]
  have HK := Lib.hid hk
  have HR := Lib.hid hr
  clear hr hk CL hZ
  have hcs : (t - L - D < 0 ∧ IntKind.u64.wrap (-2 * (t - L - D) - 1) = (Z : Int)) ∨ (¬ t - L - D < 0 ∧ IntKind.u64.wrap (2 * (t - L - D)) = (Z : Int)) := by
    by_cases hneg : t - L - D < 0
    · exact .inl ⟨hneg, hzn hneg (by omega)⟩
    · exact .inr ⟨hneg, hzp hneg (by omega)⟩
  clear hzn hzp
  rcases hcs with ⟨hneg, hzz⟩ | ⟨hneg, hzz⟩
  all_goals
    go_enter Tryd.func21, Tryd.ntmps21
    go_wp2_with fail
    refine (refRight_yes N L D _ HR.out).mono ?_
    rintro e w1 ⟨rfl, hB1⟩
    have H1 := below_more H0 hB1
    have S1 := S0.below hB1
    have R1 := R0.below hB1
    have W1 := h.below H1
    have hz1 := R1.lt
    obtain ⟨c0, c1, c2⟩ := S1.cells3
    go_wp2_with fail
    refine (HCL.out _).mono ?_
    rintro e w2 ⟨rfl, rfl⟩
    go_wp2_with fail
    clear c0 c1 c2
    go_loopw [14] (fun iv wr => ∃ i : Nat, ∃ B', iv = .int .i64 i ∧ i ≤ 3 ∧ Rw wr base g B' (Lb ++ List.replicate i true) ∧ Hid (B' = B ∨ ∃ b, B' = some b ∧ w2.heap.size ≤ b) ∧ Touch g B w wr ∧ w2.heap.size ≤ wr.heap.size ∧ Blk wr w.heap.size 39 #[.int .i64 N, .int .i64 L, .int .i64 D] ∧ Blk wr (w.heap.size + 1) 39 #[.int .i64 0, .int .i64 0, .int .i64 0]) (fun iv _ => 3 - (intOf iv).toNat)
    case atStart => exact ⟨0, B, rfl, by omega, by simpa using W1, .inl rfl, Touch.of_below H1 g B, Nat.le_refl _, S1, R1⟩
    case round =>
      obtain ⟨i, B', rfl, hi, hW, hBB, hT, hsz, hS, hR⟩ := hrel
      have hrow' := hW.row
      have nx : ∀ r, w.heap.size ≤ r → r < w2.heap.size → B' ≠ some r := fun r h1 h2 e => by
        rcases hBB.out with rfl | ⟨b, rfl, hb⟩
        · have := (hrow _ e).2; omega
        · have : b = r := by injection e
          omega
      have NX := Lib.hid nx
      have nB : B' = B ∨ ∃ b, B' = some b ∧ w.heap.size ≤ b := by
        rcases hBB.out with rfl | ⟨b, rfl, hb⟩
        · exact .inl rfl
        · exact .inr ⟨b, rfl, Nat.le_trans H1.size hb⟩
      have NB := Lib.hid nB
      clear nx nB R1 S1 W1
      rcases Nat.lt_or_ge i 3 with hi1 | hi1
      · go_wp2_with fail
        refine (refPut_int wr base g B' _ 1 1 hW (by omega) (by omega) (by omega) (by omega) (by simp; omega) (Nat.le_trans hbase hT.size)).mono ?_
        rintro e w5 ⟨rfl, B5, W5, hB5, hT5⟩
        have S5 := hS.touch hT5 (by omega) (fun e => NX.out _ (by omega) (by omega) e.symm)
        have R5 := hR.touch hT5 (by omega) (fun e => NX.out _ (by omega) (by omega) e.symm)
        have T5 := hT.trans hT5 NB.out
        have HB5 := Lib.hid (row_step (a := w2.heap.size) (b := wr.heap.size) hBB.out hB5 hsz)
        have hz5 := hT5.size
        have W5' : Rw w5 base g B5 (Lb ++ List.replicate (i + 1) true) := by
          rw [List.replicate_succ', ← List.append_assoc]; exact W5
        clear hB5 W5
        go_wp2_with fail
        go_roundw
        case rel => exact ⟨i + 1, B5, rfl, hi1, W5', HB5, T5, by omega, S5, R5⟩
        case measure => simp [intOf]; omega
      · obtain rfl : i = 3 := by omega
        clear hi hi1
        go_wp2_with fail
        refine (refPut_int wr base g B' _ 0 1 hW (by omega) (by omega) (by omega) (by omega) (by simp; omega) (Nat.le_trans hbase hT.size)).mono ?_
        rintro e w5 ⟨rfl, B5, W5, hB5, hT5⟩
        have S5 := hS.touch hT5 (by omega) (fun e => NX.out _ (by omega) (by omega) e.symm)
        have R5 := hR.touch hT5 (by omega) (fun e => NX.out _ (by omega) (by omega) e.symm)
        have T5 := hT.trans hT5 NB.out
        have HB5 := Lib.hid (row_step (a := w2.heap.size) (b := wr.heap.size) hBB.out hB5 hsz)
        have hz5 : w2.heap.size ≤ w5.heap.size := Nat.le_trans hsz hT5.size
        have W6 : Rw w5 base g B5 (Lb ++ bitsOf 4 14) := by rw [List.append_assoc] at W5; exact W5
        clear hB5 W5
        go_wp2_with fail
        refine (refPut_int w5 base g B5 _ Z 20 W6 (by omega) (by have := HZl.out; omega) (by omega) (by omega) (by simp [length_bitsOf]; omega) (Nat.le_trans hbase T5.size)).mono ?_
        rintro e w7 ⟨rfl, B7, W7, hB7, hT7⟩
        have nx5 : ∀ r, w.heap.size ≤ r → r < w2.heap.size → B5 ≠ some r := fun r h1 h2 e => by
          rcases HB5.out with rfl | ⟨b, rfl, hb⟩
          · have := (hrow _ e).2; omega
          · have : b = r := by injection e
            omega
        have nB5 : B5 = B ∨ ∃ b, B5 = some b ∧ w.heap.size ≤ b := by
          rcases HB5.out with rfl | ⟨b, rfl, hb⟩
          · exact .inl rfl
          · exact .inr ⟨b, rfl, Nat.le_trans H1.size hb⟩
        have S7 := S5.touch hT7 (by omega) (fun e => nx5 _ (by omega) (by omega) e.symm)
        have R7 := R5.touch hT7 (by omega) (fun e => nx5 _ (by omega) (by omega) e.symm)
        have T7 := T5.trans hT7 nB5
        have hBB7 : B7 = B ∨ ∃ b, B7 = some b ∧ w.heap.size ≤ b := row_step nB5 hB7 T5.size
        have HX : B7 ≠ some (w.heap.size + 1) := fun e => by
          rcases hB7 with rfl | ⟨b, rfl, hb⟩
          · exact nx5 _ (by omega) (by omega) e
          · have : b = w.heap.size + 1 := by injection e
            omega
        have W7' : Rw w7 base g B7 (Lb ++ encZ Z) := by rw [EZ.out, ← List.append_assoc]; exact W7
        have NX5 := Lib.hid nx5
        have NB5 := Lib.hid nB5
        have HBB7 := Lib.hid hBB7
        have HXX := Lib.hid HX
        clear nx5 nB5 hBB7 HX hB7 W7
        obtain ⟨c0, c1, c2⟩ := S7.cells3
        obtain ⟨d0, d1, d2⟩ := R7.cells3
        obtain ⟨e0, e1, e2⟩ := R7.free3
        go_wp2_with fail
        obtain ⟨q0, q1, q2⟩ := (R7.put3 (.int .i64 (N + 1)) (.int .i64 t) (.int .i64 (t - L))).cells3
        refine bodyPost_ret (v := .tuple #[.agg #[.int .i64 (N + 1), .int .i64 t, .int .i64 (t - L)], .int .i64 0]) (by simp [results, Tryd.results21, go_sem, q0, q1, q2]) rfl ⟨rfl, B7, W7'.put3 (by omega) HXX.out _ _ _, HBB7.out, T7.put3 (by omega) _ _ _⟩

set_option maxHeartbeats 1600000 in
theorem rPut_k4 (w : World) (base g : Nat) (B : Option Nat) (Lb : List Bool) (N L D t : Int) (h : Rw w base g B Lb) (hLb : Lb.length ≤ 500000) (hbase : base ≤ w.heap.size) (hn : nextS N L t = true) (hr : rightS N L D = true) (hN : N ≠ 0) (hk : ofc (zig (t - L - D)) = 4) :
    Calls Tryd.prog 21 #[.pointer (some ⟨g, 0, none⟩), .agg #[.int .i64 N, .int .i64 L, .int .i64 D], .int .i64 t] w fun e w' =>
      e = .returned (.tuple #[.agg #[.int .i64 (N + 1), .int .i64 t, .int .i64 (t - L)], .int .i64 0]) ∧ ∃ B', Rw w' base g B' (Lb ++ encZ (zig (t - L - D))) ∧ (B' = B ∨ ∃ b, B' = some b ∧ w.heap.size ≤ b) ∧ Touch g B w w' := by
  obtain ⟨S0, R0, H0⟩ := two_new w (.int .i64 N) (.int .i64 L) (.int .i64 0) (.int .i64 0) (.int .i64 0) (.int .i64 D) 39 39
  have hlt := h.lt
  have hrow := h.row
  obtain ⟨b1, b2, b3⟩ := nextS_of hn
  obtain ⟨a1, a2, a3, a4, a5, a6⟩ := rightS_of hr
  have hb3 : L < t := by rcases b3 with b3 | b3; · exact absurd b3 hN
                         · exact b3
  have hN0 : (N == 0) = false := beq_eq_false_iff_ne.2 hN
  have hN1 : 0 < N := by omega
  clear b3 hn hN
  obtain ⟨Z, hZ⟩ : ∃ Z, zig (t - L - D) = Z := ⟨_, rfl⟩
  have HZ := Lib.hid hZ
  rw [hZ] at hk
  have HZl := Lib.hid (hZ ▸ zig_lt (t - L - D) (by omega) : Z < 281474976710656)
  have CL := fun W => class_int Z 4 48 W HZl.out (by omega) (by rw [hk]; rfl)
  have HCL := Lib.hid CL
  have EZ := Lib.hid (encZ_k4 Z hk)
  have hzn := zig_neg (t - L - D)
  have hzp := zig_pos (t - L - D)
  rw [hZ] at hzn hzp
  rw [hZ]
  have HK := Lib.hid hk
  have HR := Lib.hid hr
  clear hr hk CL hZ
  have hcs : (t - L - D < 0 ∧ IntKind.u64.wrap (-2 * (t - L - D) - 1) = (Z : Int)) ∨ (¬ t - L - D < 0 ∧ IntKind.u64.wrap (2 * (t - L - D)) = (Z : Int)) := by
    by_cases hneg : t - L - D < 0
    · exact .inl ⟨hneg, hzn hneg (by omega)⟩
    · exact .inr ⟨hneg, hzp hneg (by omega)⟩
  clear hzn hzp
  rcases hcs with ⟨hneg, hzz⟩ | ⟨hneg, hzz⟩
  all_goals
    go_enter Tryd.func21, Tryd.ntmps21
    go_wp2_with fail
    refine (refRight_yes N L D _ HR.out).mono ?_
    rintro e w1 ⟨rfl, hB1⟩
    have H1 := below_more H0 hB1
    have S1 := S0.below hB1
    have R1 := R0.below hB1
    have W1 := h.below H1
    have hz1 := R1.lt
    obtain ⟨c0, c1, c2⟩ := S1.cells3
    go_wp2_with fail
    refine (HCL.out _).mono ?_
    rintro e w2 ⟨rfl, rfl⟩
    go_wp2_with fail
    clear c0 c1 c2
    go_loopw [14] (fun iv wr => ∃ i : Nat, ∃ B', iv = .int .i64 i ∧ i ≤ 4 ∧ Rw wr base g B' (Lb ++ List.replicate i true) ∧ Hid (B' = B ∨ ∃ b, B' = some b ∧ w2.heap.size ≤ b) ∧ Touch g B w wr ∧ w2.heap.size ≤ wr.heap.size ∧ Blk wr w.heap.size 39 #[.int .i64 N, .int .i64 L, .int .i64 D] ∧ Blk wr (w.heap.size + 1) 39 #[.int .i64 0, .int .i64 0, .int .i64 0]) (fun iv _ => 4 - (intOf iv).toNat)
    case atStart => exact ⟨0, B, rfl, by omega, by simpa using W1, .inl rfl, Touch.of_below H1 g B, Nat.le_refl _, S1, R1⟩
    case round =>
      obtain ⟨i, B', rfl, hi, hW, hBB, hT, hsz, hS, hR⟩ := hrel
      have hrow' := hW.row
      have nx : ∀ r, w.heap.size ≤ r → r < w2.heap.size → B' ≠ some r := fun r h1 h2 e => by
        rcases hBB.out with rfl | ⟨b, rfl, hb⟩
        · have := (hrow _ e).2; omega
        · have : b = r := by injection e
          omega
      have NX := Lib.hid nx
      have nB : B' = B ∨ ∃ b, B' = some b ∧ w.heap.size ≤ b := by
        rcases hBB.out with rfl | ⟨b, rfl, hb⟩
        · exact .inl rfl
        · exact .inr ⟨b, rfl, Nat.le_trans H1.size hb⟩
      have NB := Lib.hid nB
      clear nx nB R1 S1 W1
      rcases Nat.lt_or_ge i 4 with hi1 | hi1
      · go_wp2_with fail
        refine (refPut_int wr base g B' _ 1 1 hW (by omega) (by omega) (by omega) (by omega) (by simp; omega) (Nat.le_trans hbase hT.size)).mono ?_
        rintro e w5 ⟨rfl, B5, W5, hB5, hT5⟩
        have S5 := hS.touch hT5 (by omega) (fun e => NX.out _ (by omega) (by omega) e.symm)
        have R5 := hR.touch hT5 (by omega) (fun e => NX.out _ (by omega) (by omega) e.symm)
        have T5 := hT.trans hT5 NB.out
        have HB5 := Lib.hid (row_step (a := w2.heap.size) (b := wr.heap.size) hBB.out hB5 hsz)
        have hz5 := hT5.size
        have W5' : Rw w5 base g B5 (Lb ++ List.replicate (i + 1) true) := by
          rw [List.replicate_succ', ← List.append_assoc]; exact W5
        clear hB5 W5
        go_wp2_with fail
        go_roundw
        case rel => exact ⟨i + 1, B5, rfl, hi1, W5', HB5, T5, by omega, S5, R5⟩
        case measure => simp [intOf]; omega
      · obtain rfl : i = 4 := by omega
        clear hi hi1
        go_wp2_with fail
        have S5 := hS
        have R5 := hR
        have T5 := hT
        have HB5 := hBB
        have hz5 := hsz
        have W6 : Rw wr base g B' (Lb ++ bitsOf 4 15) := hW
        obtain ⟨B5, rfl⟩ : ∃ B5, B5 = B' := ⟨_, rfl⟩
        obtain ⟨w5, rfl⟩ : ∃ w5, w5 = wr := ⟨_, rfl⟩
        refine (refPut_int w5 base g B5 _ Z 48 W6 (by omega) (by have := HZl.out; omega) (by omega) (by omega) (by simp [length_bitsOf]; omega) (Nat.le_trans hbase T5.size)).mono ?_
        rintro e w7 ⟨rfl, B7, W7, hB7, hT7⟩
        have nx5 : ∀ r, w.heap.size ≤ r → r < w2.heap.size → B5 ≠ some r := fun r h1 h2 e => by
          rcases HB5.out with rfl | ⟨b, rfl, hb⟩
          · have := (hrow _ e).2; omega
          · have : b = r := by injection e
            omega
        have nB5 : B5 = B ∨ ∃ b, B5 = some b ∧ w.heap.size ≤ b := by
          rcases HB5.out with rfl | ⟨b, rfl, hb⟩
          · exact .inl rfl
          · exact .inr ⟨b, rfl, Nat.le_trans H1.size hb⟩
        have S7 := S5.touch hT7 (by omega) (fun e => nx5 _ (by omega) (by omega) e.symm)
        have R7 := R5.touch hT7 (by omega) (fun e => nx5 _ (by omega) (by omega) e.symm)
        have T7 := T5.trans hT7 nB5
        have hBB7 : B7 = B ∨ ∃ b, B7 = some b ∧ w.heap.size ≤ b := row_step nB5 hB7 T5.size
        have HX : B7 ≠ some (w.heap.size + 1) := fun e => by
          rcases hB7 with rfl | ⟨b, rfl, hb⟩
          · exact nx5 _ (by omega) (by omega) e
          · have : b = w.heap.size + 1 := by injection e
            omega
        have W7' : Rw w7 base g B7 (Lb ++ encZ Z) := by rw [EZ.out, ← List.append_assoc]; exact W7
        have NX5 := Lib.hid nx5
        have NB5 := Lib.hid nB5
        have HBB7 := Lib.hid hBB7
        have HXX := Lib.hid HX
        clear nx5 nB5 hBB7 HX hB7 W7
        obtain ⟨c0, c1, c2⟩ := S7.cells3
        obtain ⟨d0, d1, d2⟩ := R7.cells3
        obtain ⟨e0, e1, e2⟩ := R7.free3
        go_wp2_with fail
        obtain ⟨q0, q1, q2⟩ := (R7.put3 (.int .i64 (N + 1)) (.int .i64 t) (.int .i64 (t - L))).cells3
        refine bodyPost_ret (v := .tuple #[.agg #[.int .i64 (N + 1), .int .i64 t, .int .i64 (t - L)], .int .i64 0]) (by simp [results, Tryd.results21, go_sem, q0, q1, q2]) rfl ⟨rfl, B7, W7'.put3 (by omega) HXX.out _ _ _, HBB7.out, T7.put3 (by omega) _ _ _⟩

/-- The reference's Put, at a time that may be. -/
theorem rPut_yes (w : World) (base g : Nat) (B : Option Nat) (Lb : List Bool) (N L D t : Int) (h : Rw w base g B Lb) (hLb : Lb.length ≤ 500000) (hbase : base ≤ w.heap.size) (hn : nextS N L t = true) (hr : rightS N L D = true) :
    Calls Tryd.prog 21 #[.pointer (some ⟨g, 0, none⟩), .agg #[.int .i64 N, .int .i64 L, .int .i64 D], .int .i64 t] w fun e w' =>
      e = .returned (.tuple #[.agg #[.int .i64 (N + 1), .int .i64 t, .int .i64 (difS N L t)], .int .i64 0]) ∧ ∃ B', Rw w' base g B' (Lb ++ encS N L D t) ∧ (B' = B ∨ ∃ b, B' = some b ∧ w.heap.size ≤ b) ∧ Touch g B w w' := by
  obtain ⟨a1, a2, a3, a4, a5, a6⟩ := rightS_of hr
  obtain ⟨b1, b2, b3⟩ := nextS_of hn
  by_cases hN : N = 0
  · subst hN
    exact rPut_first w base g B Lb L D t h hLb hbase hn hr
  · rw [show difS N L t = t - L from if_neg hN, show encS N L D t = encZ (zig (t - L - D)) from if_neg hN]
    have h4 := ofc_lt (zig (t - L - D)) (zig_lt _ (by omega))
    have hc : ofc (zig (t - L - D)) = 0 ∨ ofc (zig (t - L - D)) = 1 ∨ ofc (zig (t - L - D)) = 2 ∨ ofc (zig (t - L - D)) = 3 ∨ ofc (zig (t - L - D)) = 4 := by omega
    rcases hc with hk | hk | hk | hk | hk
    · exact rPut_k0 w base g B Lb N L D t h hLb hbase hn hr hN hk
    · exact rPut_k1 w base g B Lb N L D t h hLb hbase hn hr hN hk
    · exact rPut_k2 w base g B Lb N L D t h hLb hbase hn hr hN hk
    · exact rPut_k3 w base g B Lb N L D t h hLb hbase hn hr hN hk
    · exact rPut_k4 w base g B Lb N L D t h hLb hbase hn hr hN hk
end Go.Proofs.YtlgndfckmnninaaDoor
