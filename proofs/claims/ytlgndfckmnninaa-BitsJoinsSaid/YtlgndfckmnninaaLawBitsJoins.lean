/- The Go function tidepole/tidepolelaw05.BitsJoins returns true for every input, and each argument reads afterwards as it read before. Conditions: none beyond the given row's own. -/
import Derived.Test.YtlgndfckmnninaaRows
import Derived.Test.YtlgndfckmnninaaBitsC
import Derived.Test.YtlgndfckmnninaaFields
import Derived.WalkKit
import Derived.ProofKit
import Derived.OpenShut
import Derived.ChangeOld
import Derived.Below
import Derived.Deep.QuietTactic
import Derived.BigQuiet
import Derived.Deep.RegionHeld3
namespace Go.Proofs.Ytlgndfckmnninaa.bitsJoins
open Go.ChangeShapes Go.WideShapes Go.ChangeAt Go.RowKit
set_option linter.unusedVariables false

theorem own : ownKnob Try.prog.godebug = none := by kernel_rfl
theorem laidOut : laidOutB Try.prog = true := by kernel_rfl

set_option maxHeartbeats 3200000 in
theorem walk (a0 : Int) (a1 : Int) (a2 : Int) (a3 : Int) (w : World) (w0 : (Lit.int .u64 a0).wf = true) (w1 : (Lit.int .u64 a1).wf = true) (w2 : (Lit.int .i64 a2).wf = true) (w3 : (Lit.int .i64 a3).wf = true) :
    Calls Try.prog 4 #[.int .u64 a0, .int .u64 a1, .int .i64 a2, .int .i64 a3] w fun e w' => e = .returned (.bool true) ∧ Below w.heap.size w w' := by
  obtain ⟨X, rfl, hX⟩ := nat_of_u64 w0
  obtain ⟨Y, rfl, hY⟩ := nat_of_u64 w1
  have hn := amo_lt a2 (show 0 < 65 by omega)
  have am1 := fun W => among_any a2 65 W (by omega) (by omega)
  generalize amo a2 65 = n at *
  have hm := amo_lt a3 (show 0 < 65 - n by omega)
  have am2 := fun W => among_any a3 (65 - n) W (by omega) (by omega)
  rw [show ((65 - n : Nat) : Int) = 65 - (n : Int) by omega] at am2
  generalize amo a3 (65 - n) = m at *
  obtain ⟨Z, hZ, hZ1, hZ2, hZ3, hZ4⟩ : ∃ Z : Nat, bitsOf (n + m) Z = bitsOf n X ++ bitsOf m Y ∧ Z < 18446744073709551616 ∧ (m < 64 → IntKind.u64.wrap (((X % 2 ^ n : Nat) : Int) * 2 ^ m) + ((Y % 2 ^ m : Nat) : Int) = Z) ∧ (m < 64 → ((Y % 2 ^ m : Nat) : Int) + IntKind.u64.wrap (((X % 2 ^ n : Nat) : Int) * 2 ^ m) = Z) ∧ (m = 64 → Y % 2 ^ m = Z) := joins X Y n m (by omega)
  have l1 := fun W => lawlow_any Y m W hY (by omega)
  have l2 := fun W => lawlow_any X n W hX (by omega)
  have AM1 := Lib.hid am1
  have AM2 := Lib.hid am2
  have L1 := Lib.hid l1
  have L2 := Lib.hid l2
  have HZ := Lib.hid hZ
  clear am1 am2 l1 l2 hZ w0 w1
  generalize X % 2 ^ n = Xn at *
  generalize Y % 2 ^ m = Ym at *
  have hw1 : IntKind.u64.wrap (m : Int) = (m : Int) := by rw [IntKind.wrap_u64]; omega
  rcases Nat.lt_or_ge m 64 with h | h
  · have hZ5 := hZ2 h
    have hZ6 := hZ3 h
    clear hZ2 hZ3 hZ4
    go_enter Try.func4, Try.ntmps4
    go_wp2_with fail
    refine (works_any _).mono ?_
    rintro e w1 ⟨rfl, hB1⟩
    go_wp2_with fail
    refine (AM1.out _).mono ?_
    rintro e w2 ⟨rfl, rfl⟩
    go_wp2_with fail
    refine (AM2.out _).mono ?_
    rintro e w2 ⟨rfl, rfl⟩
    go_wp2_with fail
    refine (NewWriter_any w2 w.heap.size hB1.size).mono ?_
    rintro e w3 ⟨g1, rfl, hg1, hW1, hB3⟩
    have hb3 := hB1.trans (hB3.mono hB1.size)
    have hl1 := hW1.lt
    have hz2 := hB1.size
    go_wp2_with fail
    refine (NewWriter_any w3 w.heap.size hb3.size).mono ?_
    rintro e w4 ⟨g2, rfl, hg2, hW2, hB4⟩
    have hb4 := hb3.trans (hB4.mono hb3.size)
    have hW1 := hW1.below hB4
    have hl2 := hW2.lt
    go_wp2_with fail
    refine (put_nat w4 w.heap.size g1 none [] X n hW1 hX (by omega) (by simp; omega) hb4.size).mono ?_
    rintro e w5 ⟨rfl, B1, hW1, hR1, hT1⟩
    have hb5 := hb4.trans (hT1.below hb4.size (by omega) (fun _ h => by cases h))
    have hW2 := hW2.touch hT1 (by omega) (by simp) (by simp) (.inl rfl)
    have hr1 := hW1.row
    rw [List.nil_append] at hW1
    have hne1 : B1 ≠ some g2 := by
      rintro rfl
      rcases hR1 with h | ⟨b, h, h'⟩
      · cases h
      · injection h with h; omega
    go_wp2_with fail
    refine (put_nat w5 w.heap.size g1 B1 _ Y m hW1 hY (by omega) (by rw [length_bitsOf]; omega) hb5.size).mono ?_
    rintro e w6 ⟨rfl, B2, hW1, hR2, hT2⟩
    have hb6 := hb5.trans (hT2.below hb5.size (by omega) (fun k hk => (hr1 k hk).1))
    have hW2 := hW2.touch hT2 (by omega) (fun e => hne1 e.symm) (by simp) (.inl rfl)
    have hr2 := hW1.row
    have hz5 := hT1.size
    have hne2 : B2 ≠ some g2 := by
      rintro rfl
      rcases hR2 with h | ⟨b, h, h'⟩
      · exact hne1 h.symm
      · injection h with h; omega
    rw [← HZ.out] at hW1
    go_wp2_with fail
    refine (L1.out _).mono ?_
    rintro e w7 ⟨rfl, rfl⟩
    go_wp2_with fail
    refine (L2.out _).mono ?_
    rintro e w7 ⟨rfl, rfl⟩
    go_wp2_with fail
    refine (put_nat _ w.heap.size g2 none [] Z (n + m) hW2 hZ1 (by omega) (by simp; omega) hb6.size).mono ?_
    rintro e w8 ⟨rfl, B3, hW2, hR3, hT3⟩
    have hb8 := hb6.trans (hT3.below hb6.size (by omega) (fun _ h => by cases h))
    have hW1 := hW1.touch hT3 (by omega) (by simp) hne2 (by cases B2 <;> simp)
    rw [List.nil_append] at hW2
    have hpl : (bitsOf (n + m) Z).length ≤ 1000000 := by rw [length_bitsOf]; omega
    go_wp2_with fail
    refine (WBytes_any w8 w.heap.size g1 B2 _ hW1 hpl).mono ?_
    rintro e w9 ⟨v, rfl, hO1, hB9⟩
    obtain ⟨A1, c1, rfl, hRb1⟩ := RB.of_own hO1
    have hb9 := hb8.trans (hB9.mono hb8.size)
    have hW1 := hW1.below hB9
    have hW2 := hW2.below hB9
    go_wp2_with fail
    refine (WBytes_any w9 w.heap.size g2 B3 _ hW2 hpl).mono ?_
    rintro e w10 ⟨v2, rfl, hO2, hB10⟩
    obtain ⟨A2, c2, rfl, hRb2⟩ := RB.of_own hO2
    have hb10 := hb9.trans (hB10.mono hb9.size)
    have hW1 := hW1.below hB10
    have hW2 := hW2.below hB10
    have hRb3 := hRb1.below hB10
    go_wp2_with fail
    refine (same_any A1 A2 _ c1 _ c2 _ _ hRb3 hRb2).mono ?_
    rintro e w11 ⟨rfl, rfl⟩
    go_wp2_with fail
    refine (Len_any _ w.heap.size g1 B2 _ hW1).mono ?_
    rintro e w11 ⟨rfl, rfl⟩
    go_wp2_with fail
    refine (Len_any _ w.heap.size g2 B3 _ hW2).mono ?_
    rintro e w11 ⟨rfl, rfl⟩
    go_wp2_with fail
    go_ret
    exact ⟨ret_bool (by simp), hb10⟩
  · obtain rfl : m = 64 := by omega
    have hZ5 := hZ4 rfl
    clear hZ2 hZ3 hZ4
    go_enter Try.func4, Try.ntmps4
    go_wp2_with fail
    refine (works_any _).mono ?_
    rintro e w1 ⟨rfl, hB1⟩
    go_wp2_with fail
    refine (AM1.out _).mono ?_
    rintro e w2 ⟨rfl, rfl⟩
    go_wp2_with fail
    refine (AM2.out _).mono ?_
    rintro e w2 ⟨rfl, rfl⟩
    go_wp2_with fail
    refine (NewWriter_any w2 w.heap.size hB1.size).mono ?_
    rintro e w3 ⟨g1, rfl, hg1, hW1, hB3⟩
    have hb3 := hB1.trans (hB3.mono hB1.size)
    have hl1 := hW1.lt
    have hz2 := hB1.size
    go_wp2_with fail
    refine (NewWriter_any w3 w.heap.size hb3.size).mono ?_
    rintro e w4 ⟨g2, rfl, hg2, hW2, hB4⟩
    have hb4 := hb3.trans (hB4.mono hb3.size)
    have hW1 := hW1.below hB4
    have hl2 := hW2.lt
    go_wp2_with fail
    refine (put_nat w4 w.heap.size g1 none [] X n hW1 hX (by omega) (by simp; omega) hb4.size).mono ?_
    rintro e w5 ⟨rfl, B1, hW1, hR1, hT1⟩
    have hb5 := hb4.trans (hT1.below hb4.size (by omega) (fun _ h => by cases h))
    have hW2 := hW2.touch hT1 (by omega) (by simp) (by simp) (.inl rfl)
    have hr1 := hW1.row
    rw [List.nil_append] at hW1
    have hne1 : B1 ≠ some g2 := by
      rintro rfl
      rcases hR1 with h | ⟨b, h, h'⟩
      · cases h
      · injection h with h; omega
    go_wp2_with fail
    refine (put_nat w5 w.heap.size g1 B1 _ Y 64 hW1 hY (by omega) (by rw [length_bitsOf]; omega) hb5.size).mono ?_
    rintro e w6 ⟨rfl, B2, hW1, hR2, hT2⟩
    have hb6 := hb5.trans (hT2.below hb5.size (by omega) (fun k hk => (hr1 k hk).1))
    have hW2 := hW2.touch hT2 (by omega) (fun e => hne1 e.symm) (by simp) (.inl rfl)
    have hr2 := hW1.row
    have hz5 := hT1.size
    have hne2 : B2 ≠ some g2 := by
      rintro rfl
      rcases hR2 with h | ⟨b, h, h'⟩
      · exact hne1 h.symm
      · injection h with h; omega
    rw [← HZ.out] at hW1
    go_wp2_with fail
    refine (L1.out _).mono ?_
    rintro e w7 ⟨rfl, rfl⟩
    rw [hZ5]
    go_wp2_with fail
    refine (put_nat _ w.heap.size g2 none [] Z (n + 64) hW2 hZ1 (by omega) (by simp; omega) hb6.size).mono ?_
    rintro e w8 ⟨rfl, B3, hW2, hR3, hT3⟩
    have hb8 := hb6.trans (hT3.below hb6.size (by omega) (fun _ h => by cases h))
    have hW1 := hW1.touch hT3 (by omega) (by simp) hne2 (by cases B2 <;> simp)
    rw [List.nil_append] at hW2
    have hpl : (bitsOf (n + 64) Z).length ≤ 1000000 := by rw [length_bitsOf]; omega
    go_wp2_with fail
    refine (WBytes_any w8 w.heap.size g1 B2 _ hW1 hpl).mono ?_
    rintro e w9 ⟨v, rfl, hO1, hB9⟩
    obtain ⟨A1, c1, rfl, hRb1⟩ := RB.of_own hO1
    have hb9 := hb8.trans (hB9.mono hb8.size)
    have hW1 := hW1.below hB9
    have hW2 := hW2.below hB9
    go_wp2_with fail
    refine (WBytes_any w9 w.heap.size g2 B3 _ hW2 hpl).mono ?_
    rintro e w10 ⟨v2, rfl, hO2, hB10⟩
    obtain ⟨A2, c2, rfl, hRb2⟩ := RB.of_own hO2
    have hb10 := hb9.trans (hB10.mono hb9.size)
    have hW1 := hW1.below hB10
    have hW2 := hW2.below hB10
    have hRb3 := hRb1.below hB10
    go_wp2_with fail
    refine (same_any A1 A2 _ c1 _ c2 _ _ hRb3 hRb2).mono ?_
    rintro e w11 ⟨rfl, rfl⟩
    go_wp2_with fail
    refine (Len_any _ w.heap.size g1 B2 _ hW1).mono ?_
    rintro e w11 ⟨rfl, rfl⟩
    go_wp2_with fail
    refine (Len_any _ w.heap.size g2 B3 _ hW2).mono ?_
    rintro e w11 ⟨rfl, rfl⟩
    go_wp2_with fail
    go_ret
    exact ⟨ret_bool (by simp), hb10⟩

set_option maxRecDepth 100000 in
theorem lifted (os : Os) (started : os.Started) (H : Type) (enc : TypeId × Value → H) :
    ReturnsInHanded {} Try.checked os 4 .any (Rows.bitsJoinsSpec.pre6 enc Try.prog Try.f4 Rows.bitsJoinsRow.domain false) (Rows.bitsJoinsSpec.post enc Try.prog Try.f4 false true false false) := by
  refine returnsInHanded_of_change (C := Try.checked) own started (by kernel_rfl) Try.func4
    (ChangeSpec.witness6 (enc := enc) (C := Try.checked) false ⟨#[], #[.int .u64 0, .int .u64 0, .int .i64 0, .int .i64 0], []⟩ 8 (by kernel_rfl) (by kernel_rfl) (by kernel_rfl) (by kernel_rfl)) ?_
  intro W base args ds gs before hval0 hW hcnd _
  have hval : ∀ (j : Nat) t v, Try.f4.params[j]? = some t → args[j]? = some v → Value.okWide Try.prog W .any base t v := hval0
  have hW' := hW
  obtain ⟨p, q, hA0, hV, rfl, hfz, hnd⟩ := hW
  have hA : DataW.TrodAll enc Try.prog W 0 (fun _ => true) true Try.f4.params.toList args.toList ds p := hA0
  rw [Try.params4] at hA hval
  obtain ⟨v0, vs0, d0, ds0, p0, q0, hargs, rfl, rfl, h0, r0⟩ := trodAll_cons hA
  obtain ⟨v1, vs1, d1, ds1, p1, q1, rfl, rfl, rfl, h1, r1⟩ := trodAll_cons r0
  obtain ⟨v2, vs2, d2, ds2, p2, q2, rfl, rfl, rfl, h2, r2⟩ := trodAll_cons r1
  obtain ⟨v3, vs3, d3, ds3, p3, q3, rfl, rfl, rfl, h3, r3⟩ := trodAll_cons r2
  obtain ⟨rfl, rfl, rfl⟩ := trodAll_nil r3
  obtain rfl : args = #[v0, v1, v2, v3] := by cases args; simp_all
  obtain ⟨rfl, rfl⟩ := trodVars_none hV
  have k0 := h0
  have lt0 : ∀ x ∈ p0, x.block < W.heap.size := by obtain ⟨m, hm⟩ := k0; exact DataW.trod_lt m _ _ _ hm
  have k1 := h1
  have lt1 : ∀ x ∈ p1, x.block < W.heap.size := by obtain ⟨m, hm⟩ := k1; exact DataW.trod_lt m _ _ _ hm
  have k2 := h2
  have lt2 : ∀ x ∈ p2, x.block < W.heap.size := by obtain ⟨m, hm⟩ := k2; exact DataW.trod_lt m _ _ _ hm
  have k3 := h3
  have lt3 : ∀ x ∈ p3, x.block < W.heap.size := by obtain ⟨m, hm⟩ := k3; exact DataW.trod_lt m _ _ _ hm
  obtain ⟨a0, rfl, rfl, rfl, w0⟩ := open_int Try.underlying31 (hval 0 31 v0 rfl rfl) h0
  obtain ⟨a1, rfl, rfl, rfl, w1⟩ := open_int Try.underlying31 (hval 1 31 v1 rfl rfl) h1
  obtain ⟨a2, rfl, rfl, rfl, w2⟩ := open_int Try.underlying3 (hval 2 3 v2 rfl rfl) h2
  obtain ⟨a3, rfl, rfl, rfl, w3⟩ := open_int Try.underlying3 (hval 3 3 v3 rfl rfl) h3
  clear hA0 hval0
  refine (walk a0 a1 a2 a3 W w0 w1 w2 w3).mono fun e W' ⟨he, bel⟩ => ?_
  subst he
  exact ⟨_, rfl, _, _, _, [], _, [], hW', trodAll_mk1 (shut_bool Try.underlying4 _), (trodAll_cons_mk (shut_int Try.underlying31 w0) (trodAll_cons_mk (shut_int Try.underlying31 w1) (trodAll_cons_mk (shut_int Try.underlying3 w2) (trodAll_cons_mk (shut_int Try.underlying3 w3) trodAll_mk0)))), rfl, bel.frame _, fun h => by cases h⟩

theorem over : Rows.bitsJoinsRow.holds Try.pinned (OpenSpec.ofChange Rows.bitsJoinsSpec) :=
  OpenClaim.holds_of_wide 4 Try.f4 rfl rfl rfl rfl rfl rfl rfl ⟨rfl, rfl, rfl, rfl, rfl⟩ rfl rfl rfl rfl rfl (by kernel_rfl) Try.func4 (by kernel_rfl)
    (of_decide_eq_true (by kernel_rfl)) (by unfold Func.isWrapper; first | (rw [if_pos (by decide +kernel)]; kernel_rfl) | (rw [if_neg (by decide +kernel)]; exact ⟨rfl, rfl⟩))
    (fun os started H enc _ => lifted os started H enc)

theorem proved : Rows.BitsJoinsSaid := over
#print axioms proved
end Go.Proofs.Ytlgndfckmnninaa.bitsJoins
