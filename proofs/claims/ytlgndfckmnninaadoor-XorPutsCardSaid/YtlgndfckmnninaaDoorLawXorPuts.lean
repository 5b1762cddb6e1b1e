/- The Go function tidepole/tidepolelaw07.XorPuts returns true for every input, and each argument reads afterwards as it read before. Conditions: none beyond the given row's own. -/
import Derived.Test.YtlgndfckmnninaaDoorRows
import Derived.Test.YtlgndfckmnninaaDoorXorK
import Derived.Test.YtlgndfckmnninaaDoorXorR
import Derived.Test.YtlgndfckmnninaaDoorBitsC
import Derived.Test.YtlgndfckmnninaaDoorPicks
import Derived.Test.YtlgndfckmnninaaDoorFields
import Derived.WalkKit
import Derived.ProofKit
import Derived.OpenShut
import Derived.ChangeOld
import Derived.Below
import Derived.Deep.QuietTactic
import Derived.BigQuiet
import Derived.Deep.RegionHeld3
import Derived.LaidMore
import Derived.Stop.Joined
import Derived.SevenTiedAt
import Derived.Test.YtlgndfckmnninaaDoorCards
import Derived.Test.YtlgndfckmnninaaDoorTie
namespace Go.Proofs.YtlgndfckmnninaaDoor.xorPuts
open Go.ChangeShapes Go.WideShapes Go.ChangeAt Go.RowKit
set_option linter.unusedVariables false

theorem own : ownKnob Tryd.prog.godebug = none := by kernel_rfl
theorem laidOut : laidOutB Tryd.prog = true := by kernel_rfl

set_option maxHeartbeats 6400000 in
theorem walk (x0_0 x0_1 x0_2 x0_3 : Int) (a1 : Int) (a2 : Int) (w : World) (w0_0 : (Lit.int .i64 x0_0).wf = true) (w0_1 : (Lit.int .u64 x0_1).wf = true) (w0_2 : (Lit.int .i64 x0_2).wf = true) (w0_3 : (Lit.int .i64 x0_3).wf = true) (w1 : (Lit.int .u64 a1).wf = true) (w2 : (Lit.int .i64 a2).wf = true) (hT : XorTab w) :
    Calls Tryd.prog 6 #[.agg #[.int .i64 x0_0, .int .u64 x0_1, .int .i64 x0_2, .int .i64 x0_3], .int .u64 a1, .int .i64 a2] w fun e w' => e = .returned (.bool true) ∧ Below w.heap.size w w' := by
  cases hr : rightX x0_0 x0_2 x0_3 with
  | true =>
    obtain ⟨V, hV, hV64⟩ := nat_of_u64 w0_1
    obtain ⟨v, hv, hv64⟩ := nat_of_u64 w1
    obtain ⟨n1, n2, n3⟩ := rightX_of hr
    obtain ⟨a, ha⟩ := Int.eq_ofNat_of_zero_le (show 0 ≤ x0_2 by omega)
    obtain ⟨b, hb⟩ := Int.eq_ofNat_of_zero_le (show 0 ≤ x0_3 by omega)
    subst hV hv ha hb
    have hle := encX_le x0_0 V a b v (by omega) (by omega) (by omega)
    have HLE := Lib.hid hle
    have HV := Lib.hid hV64
    have Hv := Lib.hid hv64
    clear w0_0 w0_1 w0_2 w0_3 w1 w2 n1 n2 n3 hle hV64 hv64
    go_enter Tryd.func6, Tryd.ntmps6
    go_wp2_with fail
    refine (NewWriter_any _ (w.heap.size + 1) (by simp)).mono ?_
    rintro e u1 ⟨g, rfl, hg, W1, hB1⟩
    have S1 := (Blk.new w 48 #[.int .i64 x0_0, .int .u64 (V : Int), .int .i64 (a : Int), .int .i64 (b : Int)]).below hB1
    have H1 := below_more ((Below.refl _ w).alloc (Nat.le_refl _) (.cells #[.int .i64 x0_0, .int .u64 (V : Int), .int .i64 (a : Int), .int .i64 (b : Int)] 48)) hB1
    have hz1 : w.heap.size + 1 ≤ u1.heap.size := by simpa using hB1.size
    have hg1 : w.heap.size + 1 ≤ g := by simpa using hg
    go_wp2_with fail
    have BA : Below u1.heap.size u1 (u1.alloc (.cells #[.slice none 0 0] 36)) := (Below.refl _ u1).alloc (Nat.le_refl _) _
    have Y2 := Rw.new u1 (w.heap.size + 1) hz1
    have W2 := W1.below BA
    have S2 := S1.below BA
    have H2 := H1.trans (BA.mono H1.size)
    have hgl := W1.lt
    obtain ⟨gy, hgy⟩ : ∃ gy, u1.heap.size = gy := ⟨_, rfl⟩
    rw [hgy] at Y2 hgl hz1 ⊢
    have hz2 : gy < (u1.alloc (.cells #[.slice none 0 0] 36)).heap.size := by simp; omega
    generalize u1.alloc (.cells #[.slice none 0 0] 36) = u2 at *
    clear hB1 S1 H1 W1 BA hgy
    refine (among_any a2 20 _ (by omega) (by omega)).mono ?_
    rintro e u ⟨rfl, rfl⟩
    have am := amo_lt a2 (m := 20) (by omega)
    generalize amo a2 20 = A at *
    go_wp2_with fail
    have ap1 := Y2.apart W2
    refine (put_int _ _ g none [] 0 A W2 (by omega) (by omega) (by omega) (by omega) (by simp) (by omega)).mono ?_
    rintro e u3 ⟨rfl, B3, W3, hB3, hT3⟩
    obtain ⟨Lb, hLb⟩ : ∃ Lb, [] ++ bitsOf (A : Int).toNat (0 : Int).toNat = Lb := ⟨_, rfl⟩
    have hll : Lb.length ≤ 20 := by rw [← hLb]; simp [length_bitsOf]; omega
    rw [hLb] at W3
    have Y3 := Y2.touch hT3 ap1.1 ap1.2.1 ap1.2.2.1 ap1.2.2.2
    have S3 := S2.touch hT3 (by omega) (by simp)
    have H3 := H2.trans (hT3.below H2.size (by omega) (fun _ h => by cases h))
    have hz3 := hT3.size
    have ap2 := W3.apart Y3
    go_wp2_with fail
    refine (refPut_int _ _ gy none [] 0 A Y3 (by omega) (by omega) (by omega) (by omega) (by simp) (by omega)).mono ?_
    rintro e u4 ⟨rfl, B4, Y4, hB4, hT4⟩
    rw [hLb] at Y4
    have W4 := W3.touch hT4 ap2.1 ap2.2.1 ap2.2.2.1 ap2.2.2.2
    have S4 := S3.touch hT4 (by omega) (by simp)
    have H4 := H3.trans (hT4.below H3.size (by omega) (fun _ h => by cases h))
    have hz4 := hT4.size
    have hz24 : gy < u4.heap.size := by omega
    have T4 := hT.below H4
    have hrW := W4.row
    have hrY := Y4.row
    have ap3 := Y4.apart W4
    have HLB := Lib.hid hLb
    clear hLb hB3 hB4 hT3 hT4 Y2 Y3 W2 W3 S2 S3 H2 H3 ap1 ap2
    obtain ⟨c0, c1, c2, c3⟩ := S4.cells4
    go_wp2_with fail
    refine (xPut_yes u4 _ g B3 Lb x0_0 V a b v W4 T4 (by omega) (by omega) hr HV.out Hv.out).mono ?_
    rintro e u5 ⟨rfl, B5, W5, hB5, hT5⟩
    obtain ⟨ML, hML⟩ : ∃ ML, Lb ++ encX x0_0 V a b v = ML := ⟨_, rfl⟩
    have hlM : ML.length ≤ 100 := by rw [← hML, List.length_append]; have := HLE.out; omega
    rw [hML] at W5
    generalize hA2 : (((winX x0_0 V a b v).1 : Nat) : Int) = A2
    generalize hB2 : (((winX x0_0 V a b v).2 : Nat) : Int) = B2
    generalize hN2 : x0_0 + 1 = N2
    generalize hv2 : (v : Int) = v2
    have Y5 := Y4.touch hT5 ap3.1 ap3.2.1 ap3.2.2.1 ap3.2.2.2
    have S5 := S4.touch hT5 (by omega) (fun e => by have := (hrW _ e.symm).1; omega)
    have H5 := H4.trans (hT5.below H4.size (by omega) (fun k hk => by have := (hrW k hk).1; omega))
    have hz5 := hT5.size
    have A5 : Below u5.heap.size u5 (u5.alloc (.cells #[.int .i64 N2, .int .u64 v2, .int .i64 A2, .int .i64 B2] 48)) := (Below.refl _ u5).alloc (Nat.le_refl _) _
    have X6 := Blk.new u5 48 #[.int .i64 N2, .int .u64 v2, .int .i64 A2, .int .i64 B2]
    have W6 := W5.below A5
    have Y6 := Y5.below A5
    have S6 := S5.below A5
    have H6 := H5.trans (A5.mono H5.size)
    clear c0 c1 c2 c3
    obtain ⟨c0, c1, c2, c3⟩ := S6.cells4
    have HML := Lib.hid hML
    have HA2 := Lib.hid hA2
    have HB2 := Lib.hid hB2
    have HN2 := Lib.hid hN2
    have Hv2 := Lib.hid hv2
    clear hML hA2 hB2 hN2 hv2
    go_wp2_with fail
    obtain ⟨x, hx⟩ : ∃ x, u5.heap.size = x := ⟨_, rfl⟩
    have hz6 : x < (u5.alloc (.cells #[.int .i64 N2, .int .u64 v2, .int .i64 A2, .int .i64 B2] 48)).heap.size := by simp; omega
    have hxl : gy < x := by omega
    rw [hx] at X6 ⊢
    generalize u5.alloc (.cells #[.int .i64 N2, .int .u64 v2, .int .i64 A2, .int .i64 B2] 48) = u6 at *
    have hrW6 := W6.row
    clear A5 S5 Y5 W5 hT5 W4 Y4 S4 c0 c1 c2 c3
    refine (plain_any x0_0 V a b u6).mono ?_
    rintro e u7 ⟨rfl, hB7⟩
    have W6 := W6.below hB7
    have Y6 := Y6.below hB7
    have X6 := X6.below hB7
    have H6 := below_more H6 hB7
    have hz67 := hB7.size
    have ap6 := W6.apart Y6
    clear hB7
    rw [← Hv2.out]
    go_wp2_with fail
    refine (xrPut_yes u7 _ gy B4 Lb x0_0 V a b v Y6 (by omega) (by omega) hr HV.out Hv.out).mono ?_
    rintro e u7 ⟨rfl, B7, Y7, hB7, hT7⟩
    rw [HML.out] at Y7
    rw [HA2.out, HB2.out, HN2.out, Hv2.out]
    have W7 := W6.touch hT7 ap6.1 ap6.2.1 ap6.2.2.1 ap6.2.2.2
    have X7 := X6.touch hT7 (by omega) (fun e => by have := (hrY _ e.symm).2; omega)
    have H7 := H6.trans (hT7.below H6.size (by omega) (fun k hk => by have := (hrY k hk).1; omega))
    have hz7 := hT7.size
    have A7 : Below u7.heap.size u7 (u7.alloc (.cells #[.int .i64 N2, .int .u64 v2, .int .i64 A2, .int .i64 B2] 53)) := (Below.refl _ u7).alloc (Nat.le_refl _) _
    have Z8 := Blk.new u7 53 #[.int .i64 N2, .int .u64 v2, .int .i64 A2, .int .i64 B2]
    have X8 := X7.below A7
    have W8 := W7.below A7
    have Y8 := Y7.below A7
    have H8 := H7.trans (A7.mono H7.size)
    have T8 := hT.below H8
    go_wp2_with fail
    obtain ⟨z, hz⟩ : ∃ z, u7.heap.size = z := ⟨_, rfl⟩
    rw [hz] at Z8 ⊢
    generalize u7.alloc (.cells #[.int .i64 N2, .int .u64 v2, .int .i64 A2, .int .i64 B2] 53) = u8 at *
    clear A7 X7 W7 Y7 hT7 W6 Y6 S6 hB5 hB7 ap6 ap3 HLB hz
    obtain ⟨_, vy, G8, O8, _⟩ := id Y8
    obtain ⟨Ay, cy, rfl, _, _⟩ := own_slice O8
    obtain ⟨lm, hlm⟩ : ∃ lm, ML.length = lm := ⟨_, rfl⟩
    have HLM := Lib.hid hlm
    rw [hlm] at G8
    have hl0 : lm ≤ 100 := by omega
    clear hlm
    refine wp_region_noPanic ?_
    refine wp_region_held_drew (S := fun W : World => Blk W x 48 #[.int .i64 N2, .int .u64 v2, .int .i64 A2, .int .i64 B2] ∧ Blk W z 53 #[.int .i64 N2, .int .u64 v2, .int .i64 A2, .int .i64 B2] ∧ Blk W gy 36 #[.slice Ay lm cy]) (by kernel_rfl) (⟨X8.drewN 1, Z8.drewN 1, G8.drewN 1⟩) (fun hSt => ?_)
    refine wpAnyH_picks [0, 2] 38 (by rfl) (by kernel_rfl) (by kernel_rfl) (by kernel_rfl) (fun _ _ _ _ _ h => h) (by assumption) ?_
    simp only [picks, List.drop_succ_cons, List.drop_zero, List.take_succ_cons, List.take_zero, List.cons_append, List.nil_append]
    repeat (first
      | (refine wpY_skip (by rfl) ?_; simp only [Act.put, List.setIfInBounds_toArray, List.set_cons_zero, List.set_cons_succ])
      | (refine wpY_want (v := ?_) (by rfl) (fun W hW => ?_) ?_; rotate_left; (obtain ⟨hW0, hW1, hW2⟩ := hW; obtain ⟨hx0, hx1, hx2, hx3⟩ := hW0.cells4; obtain ⟨hy0, hy1, hy2, hy3⟩ := hW1.cells4; have hg0 := hW2.cell 0; simp at hg0; go_simp; try with_reducible rfl); simp only [Act.put, List.setIfInBounds_toArray, List.set_cons_zero, List.set_cons_succ]))
    refine wpY_nil ?_
    refine wpAnyH_one 1 37 (by rfl) (by rfl) (by kernel_rfl) (fun K hK => ?_)
    go_simp
    refine (plain_any N2 v2 A2 B2 _).mono ?_
    rintro e p1 ⟨rfl, hP1⟩
    have X8 := (X8.drewN 1).below hP1
    have Z8 := (Z8.drewN 1).below hP1
    have G8 := (G8.drewN 1).below hP1
    have W8 := (W8.drewN 1).below hP1
    have Y8 := (Y8.drewN 1).below hP1
    have H8 := below_more (below_drewN H8 1) hP1
    clear hP1
    refine hK.out _ _ (⟨X8, Z8, G8⟩) (fun hSt => ?_)
    clear hK K
    try simp only [Act.put, List.setIfInBounds_toArray, List.set_cons_zero, List.set_cons_succ]
    refine wpAnyH_picks [3, 4, 5, 6, 7, 8, 9, 10, 11, 12, 13, 15] 25 (by rfl) (by kernel_rfl) (by kernel_rfl) (by kernel_rfl) (fun _ _ _ _ _ h => h) (by assumption) ?_
    simp only [picks, List.drop_succ_cons, List.drop_zero, List.take_succ_cons, List.take_zero, List.cons_append, List.nil_append]
    repeat (first
      | (refine wpY_skip (by rfl) ?_; simp only [Act.put, List.setIfInBounds_toArray, List.set_cons_zero, List.set_cons_succ])
      | (refine wpY_want (v := ?_) (by rfl) (fun W hW => ?_) ?_; rotate_left; (obtain ⟨hW0, hW1, hW2⟩ := hW; obtain ⟨hx0, hx1, hx2, hx3⟩ := hW0.cells4; obtain ⟨hy0, hy1, hy2, hy3⟩ := hW1.cells4; have hg0 := hW2.cell 0; simp at hg0; go_simp; try with_reducible rfl); simp only [Act.put, List.setIfInBounds_toArray, List.set_cons_zero, List.set_cons_succ]))
    refine wpY_nil ?_
    refine wpAnyH_one 14 24 (by rfl) (by rfl) (by kernel_rfl) (fun K hK => ?_)
    go_simp
    refine (WBytes_any _ _ g B5 ML W8 (by omega)).mono ?_
    rintro e u9 ⟨v9, rfl, O9, hB9⟩
    obtain ⟨A9, c9, rfl, R9⟩ := RB.of_own O9
    have X9 := X8.below hB9
    have Z9 := Z8.below hB9
    have G9 := G8.below hB9
    have Y9 := Y8.below hB9
    have W9 := W8.below hB9
    have H9 := below_more H8 hB9
    refine hK.out _ _ (⟨X9, Z9, G9⟩) (fun hSt => ?_)
    clear hK K
    try simp only [Act.put, List.setIfInBounds_toArray, List.set_cons_zero, List.set_cons_succ]
    refine wpAnyH_one 16 23 (by rfl) (by rfl) (by kernel_rfl) (fun K hK => ?_)
    go_simp
    refine (refBytes_any _ _ gy B7 ML Y9 (by omega)).mono ?_
    rintro e v1 ⟨v10, rfl, O10, hB10⟩
    obtain ⟨A10, c10, rfl, R10⟩ := RB.of_own O10
    have X10 := X9.below hB10
    have Z10 := Z9.below hB10
    have G10 := G9.below hB10
    have W10 := W9.below hB10
    have H10 := below_more H9 hB10
    refine hK.out _ _ (⟨X10, Z10, G10⟩) (fun hSt => ?_)
    clear hK K
    try simp only [Act.put, List.setIfInBounds_toArray, List.set_cons_zero, List.set_cons_succ]
    refine wpAnyH_one 17 22 (by rfl) (by rfl) (by kernel_rfl) (fun K hK => ?_)
    go_simp
    refine (same_any A9 A10 _ c9 _ c10 _ _ (R9.below hB10) R10).mono ?_
    rintro e v2 ⟨rfl, rfl⟩
    refine hK.out _ _ (⟨X10, Z10, G10⟩) (fun hSt => ?_)
    clear hK K
    try simp only [Act.put, List.setIfInBounds_toArray, List.set_cons_zero, List.set_cons_succ]
    refine wpAnyH_picks [18, 19, 21, 22, 23, 24, 25] 15 (by rfl) (by kernel_rfl) (by kernel_rfl) (by kernel_rfl) (fun _ _ _ _ _ h => h) (by assumption) ?_
    simp only [picks, List.drop_succ_cons, List.drop_zero, List.take_succ_cons, List.take_zero, List.cons_append, List.nil_append]
    repeat (first
      | (refine wpY_skip (by rfl) ?_; simp only [Act.put, List.setIfInBounds_toArray, List.set_cons_zero, List.set_cons_succ])
      | (refine wpY_want (v := ?_) (by rfl) (fun W hW => ?_) ?_; rotate_left; (obtain ⟨hW0, hW1, hW2⟩ := hW; obtain ⟨hx0, hx1, hx2, hx3⟩ := hW0.cells4; obtain ⟨hy0, hy1, hy2, hy3⟩ := hW1.cells4; have hg0 := hW2.cell 0; simp at hg0; go_simp; try with_reducible rfl); simp only [Act.put, List.setIfInBounds_toArray, List.set_cons_zero, List.set_cons_succ]))
    refine wpY_nil ?_
    refine wpAnyH_one 20 14 (by rfl) (by rfl) (by kernel_rfl) (fun K hK => ?_)
    go_simp
    refine (lenI _ _ g B5 ML (lm : Int) W10 (by rw [HLM.out])).mono ?_
    rintro e v3 ⟨rfl, rfl⟩
    refine hK.out _ _ (⟨X10, Z10, G10⟩) (fun hSt => ?_)
    clear hK K
    try simp only [Act.put, List.setIfInBounds_toArray, List.set_cons_zero, List.set_cons_succ]
    refine wpAnyH_picks [26, 27, 28, 29, 30] 9 (by rfl) (by kernel_rfl) (by kernel_rfl) (by kernel_rfl) (fun _ _ _ _ _ h => h) (by assumption) ?_
    simp only [picks, List.drop_succ_cons, List.drop_zero, List.take_succ_cons, List.take_zero, List.cons_append, List.nil_append]
    repeat (first
      | (refine wpY_skip (by rfl) ?_; simp only [Act.put, List.setIfInBounds_toArray, List.set_cons_zero, List.set_cons_succ])
      | (refine wpY_want (v := ?_) (by rfl) (fun W hW => ?_) ?_; rotate_left; (go_simp; try with_reducible rfl); simp only [Act.put, List.setIfInBounds_toArray, List.set_cons_zero, List.set_cons_succ]))
    refine wpY_nil ?_
    refine wpAnyH_one 31 8 (by rfl) (by rfl) (by kernel_rfl) (fun K hK => ?_)
    go_simp
    refine (begin_any _).mono ?_
    rintro e q1 ⟨rfl, hQ1⟩
    have Xn1 := X10.below hQ1
    have Zn1 := Z10.below hQ1
    have Hn1 := below_more H10 hQ1
    have Gn1 := G10.below hQ1
    refine hK.out _ _ (⟨Xn1, Zn1, Gn1⟩) (fun hSt => ?_)
    clear hK K
    try simp only [Act.put, List.setIfInBounds_toArray, List.set_cons_zero, List.set_cons_succ]
    refine wpAnyH_one 32 7 (by rfl) (by rfl) (by kernel_rfl) (fun K hK => ?_)
    go_simp
    refine (plain_any 0 0 64 0 _).mono ?_
    rintro e q2 ⟨rfl, hQ2⟩
    have Xn2 := Xn1.below hQ2
    have Zn2 := Zn1.below hQ2
    have Hn2 := below_more Hn1 hQ2
    have Gn2 := Gn1.below hQ2
    refine hK.out _ _ (⟨Xn2, Zn2, Gn2⟩) (fun hSt => ?_)
    clear hK K
    try simp only [Act.put, List.setIfInBounds_toArray, List.set_cons_zero, List.set_cons_succ]
    refine wpAnyH_one 33 6 (by rfl) (by rfl) (by kernel_rfl) (fun K hK => ?_)
    go_simp
    refine (refBegin_any _).mono ?_
    rintro e q3 ⟨rfl, hQ3⟩
    have Xn3 := Xn2.below hQ3
    have Zn3 := Zn2.below hQ3
    have Hn3 := below_more Hn2 hQ3
    have Gn3 := Gn2.below hQ3
    refine hK.out _ _ (⟨Xn3, Zn3, Gn3⟩) (fun hSt => ?_)
    clear hK K
    try simp only [Act.put, List.setIfInBounds_toArray, List.set_cons_zero, List.set_cons_succ]
    refine wpAnyH_picks [34, 35, 36] 3 (by rfl) (by kernel_rfl) (by kernel_rfl) (by kernel_rfl) (fun _ _ _ _ _ h => h) (by assumption) ?_
    simp only [picks, List.drop_succ_cons, List.drop_zero, List.take_succ_cons, List.take_zero, List.cons_append, List.nil_append]
    repeat (first
      | (refine wpY_skip (by rfl) ?_; simp only [Act.put, List.setIfInBounds_toArray, List.set_cons_zero, List.set_cons_succ])
      | (refine wpY_want (v := ?_) (by rfl) (fun W hW => ?_) ?_; rotate_left; (go_simp; try with_reducible rfl); simp only [Act.put, List.setIfInBounds_toArray, List.set_cons_zero, List.set_cons_succ]))
    refine wpY_nil ?_
    refine wpAnyH_one 37 2 (by rfl) (by rfl) (by kernel_rfl) (fun K hK => ?_)
    go_simp
    refine (works7_any _ (hT.below Hn3)).mono ?_
    rintro e q4 ⟨rfl, hQ4⟩
    have Xn4 := Xn3.below hQ4
    have Zn4 := Zn3.below hQ4
    have Hn4 := below_more Hn3 hQ4
    have Gn4 := Gn3.below hQ4
    refine hK.out _ _ (⟨Xn4, Zn4, Gn4⟩) (fun hSt => ?_)
    clear hK K
    try simp only [Act.put, List.setIfInBounds_toArray, List.set_cons_zero, List.set_cons_succ]
    refine wpAnyH_picks [38, 39] 0 (by rfl) (by kernel_rfl) (by kernel_rfl) (by kernel_rfl) (fun _ _ _ _ _ h => h) (by assumption) ?_
    simp only [picks, List.drop_succ_cons, List.drop_zero, List.take_succ_cons, List.take_zero, List.cons_append, List.nil_append]
    repeat (first
      | (refine wpY_skip (by rfl) ?_; simp only [Act.put, List.setIfInBounds_toArray, List.set_cons_zero, List.set_cons_succ])
      | (refine wpY_want (v := ?_) (by rfl) (fun W hW => ?_) ?_; rotate_left; (go_simp; try with_reducible rfl); simp only [Act.put, List.setIfInBounds_toArray, List.set_cons_zero, List.set_cons_succ]))
    refine wpY_nil ?_
    refine wpAnyH_done (by kernel_rfl) ?_ _
    refine NoPanic.normal ?_
    go_wp2_with fail
    go_ret
    exact ⟨rfl, Hn4⟩
  | false =>
    have hno := hr
    clear w0_0 w0_1 w0_2 w0_3 w1 w2 hr
    go_enter Tryd.func6, Tryd.ntmps6
    go_wp2_with fail
    refine (NewWriter_any _ (w.heap.size + 1) (by simp)).mono ?_
    rintro e u1 ⟨g, rfl, hg, W1, hB1⟩
    have S1 := (Blk.new w 48 #[.int .i64 x0_0, .int .u64 x0_1, .int .i64 x0_2, .int .i64 x0_3]).below hB1
    have H1 := below_more ((Below.refl _ w).alloc (Nat.le_refl _) (.cells #[.int .i64 x0_0, .int .u64 x0_1, .int .i64 x0_2, .int .i64 x0_3] 48)) hB1
    have hz1 : w.heap.size + 1 ≤ u1.heap.size := by simpa using hB1.size
    have hg1 : w.heap.size + 1 ≤ g := by simpa using hg
    go_wp2_with fail
    have BA : Below u1.heap.size u1 (u1.alloc (.cells #[.slice none 0 0] 36)) := (Below.refl _ u1).alloc (Nat.le_refl _) _
    have Y2 := Rw.new u1 (w.heap.size + 1) hz1
    have W2 := W1.below BA
    have S2 := S1.below BA
    have H2 := H1.trans (BA.mono H1.size)
    have hgl := W1.lt
    obtain ⟨gy, hgy⟩ : ∃ gy, u1.heap.size = gy := ⟨_, rfl⟩
    rw [hgy] at Y2 hgl hz1 ⊢
    have hz2 : gy < (u1.alloc (.cells #[.slice none 0 0] 36)).heap.size := by simp; omega
    generalize u1.alloc (.cells #[.slice none 0 0] 36) = u2 at *
    clear hB1 S1 H1 W1 BA hgy
    refine (among_any a2 20 _ (by omega) (by omega)).mono ?_
    rintro e u ⟨rfl, rfl⟩
    have am := amo_lt a2 (m := 20) (by omega)
    generalize amo a2 20 = A at *
    go_wp2_with fail
    have ap1 := Y2.apart W2
    refine (put_int _ _ g none [] 0 A W2 (by omega) (by omega) (by omega) (by omega) (by simp) (by omega)).mono ?_
    rintro e u3 ⟨rfl, B3, W3, hB3, hT3⟩
    obtain ⟨Lb, hLb⟩ : ∃ Lb, [] ++ bitsOf (A : Int).toNat (0 : Int).toNat = Lb := ⟨_, rfl⟩
    have hll : Lb.length ≤ 20 := by rw [← hLb]; simp [length_bitsOf]; omega
    rw [hLb] at W3
    have Y3 := Y2.touch hT3 ap1.1 ap1.2.1 ap1.2.2.1 ap1.2.2.2
    have S3 := S2.touch hT3 (by omega) (by simp)
    have H3 := H2.trans (hT3.below H2.size (by omega) (fun _ h => by cases h))
    have hz3 := hT3.size
    have ap2 := W3.apart Y3
    go_wp2_with fail
    refine (refPut_int _ _ gy none [] 0 A Y3 (by omega) (by omega) (by omega) (by omega) (by simp) (by omega)).mono ?_
    rintro e u4 ⟨rfl, B4, Y4, hB4, hT4⟩
    rw [hLb] at Y4
    have W4 := W3.touch hT4 ap2.1 ap2.2.1 ap2.2.2.1 ap2.2.2.2
    have S4 := S3.touch hT4 (by omega) (by simp)
    have H4 := H3.trans (hT4.below H3.size (by omega) (fun _ h => by cases h))
    have hz4 := hT4.size
    have hz24 : gy < u4.heap.size := by omega
    have T4 := hT.below H4
    have hrW := W4.row
    have hrY := Y4.row
    have ap3 := Y4.apart W4
    have HLB := Lib.hid hLb
    clear hLb hB3 hB4 hT3 hT4 Y2 Y3 W2 W3 S2 S3 H2 H3 ap1 ap2
    obtain ⟨c0, c1, c2, c3⟩ := S4.cells4
    go_wp2_with fail
    refine (xPut_no u4 g x0_0 x0_1 x0_2 x0_3 a1 hno).mono ?_
    rintro e u5 ⟨rfl, hB5⟩
    have H5 := below_more H4 hB5
    have S5 := S4.below hB5
    have A5 : Below u5.heap.size u5 (u5.alloc (.cells #[.int .i64 0, .int .u64 0, .int .i64 0, .int .i64 0] 48)) := (Below.refl _ u5).alloc (Nat.le_refl _) _
    have X6 := Blk.new u5 48 #[.int .i64 0, .int .u64 0, .int .i64 0, .int .i64 0]
    have S6 := S5.below A5
    have H6 := H5.trans (A5.mono H5.size)
    clear c0 c1 c2 c3
    obtain ⟨c0, c1, c2, c3⟩ := S6.cells4
    go_wp2_with fail
    obtain ⟨x, hx⟩ : ∃ x, u5.heap.size = x := ⟨_, rfl⟩
    rw [hx] at X6 ⊢
    generalize u5.alloc (.cells #[.int .i64 0, .int .u64 0, .int .i64 0, .int .i64 0] 48) = u6 at *
    clear A5 S5 W4 Y4 S4 c0 c1 c2 c3 hx
    refine (plain_any x0_0 x0_1 x0_2 x0_3 u6).mono ?_
    rintro e u7 ⟨rfl, hB7⟩
    have X6 := X6.below hB7
    have H6 := below_more H6 hB7
    clear hB7
    go_wp2_with fail
    refine (xrPut_no u7 gy x0_0 x0_1 x0_2 x0_3 a1 hno).mono ?_
    rintro e u7 ⟨rfl, hB7⟩
    have X7 := X6.below hB7
    have H7 := below_more H6 hB7
    have A7 : Below u7.heap.size u7 (u7.alloc (.cells #[.int .i64 0, .int .u64 0, .int .i64 0, .int .i64 0] 53)) := (Below.refl _ u7).alloc (Nat.le_refl _) _
    have Z8 := Blk.new u7 53 #[.int .i64 0, .int .u64 0, .int .i64 0, .int .i64 0]
    have X8 := X7.below A7
    have H8 := H7.trans (A7.mono H7.size)
    go_wp2_with fail
    obtain ⟨z, hz⟩ : ∃ z, u7.heap.size = z := ⟨_, rfl⟩
    rw [hz] at Z8 ⊢
    generalize u7.alloc (.cells #[.int .i64 0, .int .u64 0, .int .i64 0, .int .i64 0] 53) = u8 at *
    clear A7 X7 hz
    refine wp_region_noPanic ?_
    refine wp_region_held_drew (S := fun W : World => Blk W x 48 #[.int .i64 0, .int .u64 0, .int .i64 0, .int .i64 0] ∧ Blk W z 53 #[.int .i64 0, .int .u64 0, .int .i64 0, .int .i64 0]) (by kernel_rfl) (⟨X8.drewN 1, Z8.drewN 1⟩) (fun hSt => ?_)
    refine wpAnyH_picks [0, 2] 38 (by rfl) (by kernel_rfl) (by kernel_rfl) (by kernel_rfl) (fun _ _ _ _ _ h => h) (by assumption) ?_
    simp only [picks, List.drop_succ_cons, List.drop_zero, List.take_succ_cons, List.take_zero, List.cons_append, List.nil_append]
    repeat (first
      | (refine wpY_skip (by rfl) ?_; simp only [Act.put, List.setIfInBounds_toArray, List.set_cons_zero, List.set_cons_succ])
      | (refine wpY_want (v := ?_) (by rfl) (fun W hW => ?_) ?_; rotate_left; (obtain ⟨hW0, hW1⟩ := hW; obtain ⟨hx0, hx1, hx2, hx3⟩ := hW0.cells4; obtain ⟨hy0, hy1, hy2, hy3⟩ := hW1.cells4; go_simp; try with_reducible rfl); simp only [Act.put, List.setIfInBounds_toArray, List.set_cons_zero, List.set_cons_succ]))
    refine wpY_nil ?_
    refine wpAnyH_one 1 37 (by rfl) (by rfl) (by kernel_rfl) (fun K hK => ?_)
    go_simp
    refine (plain_any 0 0 0 0 _).mono ?_
    rintro e p1 ⟨rfl, hP1⟩
    have X8 := (X8.drewN 1).below hP1
    have Z8 := (Z8.drewN 1).below hP1
    have H8 := below_more (below_drewN H8 1) hP1
    clear hP1
    refine hK.out _ _ (⟨X8, Z8⟩) (fun hSt => ?_)
    clear hK K
    try simp only [Act.put, List.setIfInBounds_toArray, List.set_cons_zero, List.set_cons_succ]
    refine wpAnyH_picks [3, 4, 5, 6, 7, 8, 9, 10, 11, 12, 13, 15] 25 (by rfl) (by kernel_rfl) (by kernel_rfl) (by kernel_rfl) (fun _ _ _ _ _ h => h) (by assumption) ?_
    simp only [picks, List.drop_succ_cons, List.drop_zero, List.take_succ_cons, List.take_zero, List.cons_append, List.nil_append]
    repeat (first
      | (refine wpY_skip (by rfl) ?_; simp only [Act.put, List.setIfInBounds_toArray, List.set_cons_zero, List.set_cons_succ])
      | (refine wpY_want (v := ?_) (by rfl) (fun W hW => ?_) ?_; rotate_left; (obtain ⟨hW0, hW1⟩ := hW; obtain ⟨hx0, hx1, hx2, hx3⟩ := hW0.cells4; obtain ⟨hy0, hy1, hy2, hy3⟩ := hW1.cells4; go_simp; try with_reducible rfl); simp only [Act.put, List.setIfInBounds_toArray, List.set_cons_zero, List.set_cons_succ]))
    refine wpY_nil ?_
    refine wpAnyH_one 14 24 (by rfl) (by rfl) (by kernel_rfl) (fun K hK => ?_)
    go_simp
    refine hK.out _ _ (⟨X8, Z8⟩) (fun hSt => ?_)
    clear hK K
    try simp only [Act.put, List.setIfInBounds_toArray, List.set_cons_zero, List.set_cons_succ]
    refine wpAnyH_one 16 23 (by rfl) (by rfl) (by kernel_rfl) (fun K hK => ?_)
    go_simp
    refine hK.out _ _ (⟨X8, Z8⟩) (fun hSt => ?_)
    clear hK K
    try simp only [Act.put, List.setIfInBounds_toArray, List.set_cons_zero, List.set_cons_succ]
    refine wpAnyH_one 17 22 (by rfl) (by rfl) (by kernel_rfl) (fun K hK => ?_)
    go_simp
    refine hK.out _ _ (⟨X8, Z8⟩) (fun hSt => ?_)
    clear hK K
    try simp only [Act.put, List.setIfInBounds_toArray, List.set_cons_zero, List.set_cons_succ]
    refine wpAnyH_picks [18, 19, 21, 22, 23, 24, 25] 15 (by rfl) (by kernel_rfl) (by kernel_rfl) (by kernel_rfl) (fun _ _ _ _ _ h => h) (by assumption) ?_
    simp only [picks, List.drop_succ_cons, List.drop_zero, List.take_succ_cons, List.take_zero, List.cons_append, List.nil_append]
    repeat (first
      | (refine wpY_skip (by rfl) ?_; simp only [Act.put, List.setIfInBounds_toArray, List.set_cons_zero, List.set_cons_succ])
      | (refine wpY_want (v := ?_) (by rfl) (fun W hW => ?_) ?_; rotate_left; (obtain ⟨hW0, hW1⟩ := hW; obtain ⟨hx0, hx1, hx2, hx3⟩ := hW0.cells4; obtain ⟨hy0, hy1, hy2, hy3⟩ := hW1.cells4; go_simp; try with_reducible rfl); simp only [Act.put, List.setIfInBounds_toArray, List.set_cons_zero, List.set_cons_succ]))
    refine wpY_nil ?_
    refine wpAnyH_one 20 14 (by rfl) (by rfl) (by kernel_rfl) (fun K hK => ?_)
    go_simp
    refine hK.out _ _ (⟨X8, Z8⟩) (fun hSt => ?_)
    clear hK K
    try simp only [Act.put, List.setIfInBounds_toArray, List.set_cons_zero, List.set_cons_succ]
    refine wpAnyH_picks [26, 27, 28, 29, 30] 9 (by rfl) (by kernel_rfl) (by kernel_rfl) (by kernel_rfl) (fun _ _ _ _ _ h => h) (by assumption) ?_
    simp only [picks, List.drop_succ_cons, List.drop_zero, List.take_succ_cons, List.take_zero, List.cons_append, List.nil_append]
    repeat (first
      | (refine wpY_skip (by rfl) ?_; simp only [Act.put, List.setIfInBounds_toArray, List.set_cons_zero, List.set_cons_succ])
      | (refine wpY_want (v := ?_) (by rfl) (fun W hW => ?_) ?_; rotate_left; (go_simp; try with_reducible rfl); simp only [Act.put, List.setIfInBounds_toArray, List.set_cons_zero, List.set_cons_succ]))
    refine wpY_nil ?_
    refine wpAnyH_one 31 8 (by rfl) (by rfl) (by kernel_rfl) (fun K hK => ?_)
    go_simp
    refine (begin_any _).mono ?_
    rintro e q1 ⟨rfl, hQ1⟩
    have Xn1 := X8.below hQ1
    have Zn1 := Z8.below hQ1
    have Hn1 := below_more H8 hQ1
    refine hK.out _ _ (⟨Xn1, Zn1⟩) (fun hSt => ?_)
    clear hK K
    try simp only [Act.put, List.setIfInBounds_toArray, List.set_cons_zero, List.set_cons_succ]
    refine wpAnyH_one 32 7 (by rfl) (by rfl) (by kernel_rfl) (fun K hK => ?_)
    go_simp
    refine (plain_any 0 0 64 0 _).mono ?_
    rintro e q2 ⟨rfl, hQ2⟩
    have Xn2 := Xn1.below hQ2
    have Zn2 := Zn1.below hQ2
    have Hn2 := below_more Hn1 hQ2
    refine hK.out _ _ (⟨Xn2, Zn2⟩) (fun hSt => ?_)
    clear hK K
    try simp only [Act.put, List.setIfInBounds_toArray, List.set_cons_zero, List.set_cons_succ]
    refine wpAnyH_one 33 6 (by rfl) (by rfl) (by kernel_rfl) (fun K hK => ?_)
    go_simp
    refine (refBegin_any _).mono ?_
    rintro e q3 ⟨rfl, hQ3⟩
    have Xn3 := Xn2.below hQ3
    have Zn3 := Zn2.below hQ3
    have Hn3 := below_more Hn2 hQ3
    refine hK.out _ _ (⟨Xn3, Zn3⟩) (fun hSt => ?_)
    clear hK K
    try simp only [Act.put, List.setIfInBounds_toArray, List.set_cons_zero, List.set_cons_succ]
    refine wpAnyH_picks [34, 35, 36] 3 (by rfl) (by kernel_rfl) (by kernel_rfl) (by kernel_rfl) (fun _ _ _ _ _ h => h) (by assumption) ?_
    simp only [picks, List.drop_succ_cons, List.drop_zero, List.take_succ_cons, List.take_zero, List.cons_append, List.nil_append]
    repeat (first
      | (refine wpY_skip (by rfl) ?_; simp only [Act.put, List.setIfInBounds_toArray, List.set_cons_zero, List.set_cons_succ])
      | (refine wpY_want (v := ?_) (by rfl) (fun W hW => ?_) ?_; rotate_left; (go_simp; try with_reducible rfl); simp only [Act.put, List.setIfInBounds_toArray, List.set_cons_zero, List.set_cons_succ]))
    refine wpY_nil ?_
    refine wpAnyH_one 37 2 (by rfl) (by rfl) (by kernel_rfl) (fun K hK => ?_)
    go_simp
    refine (works7_any _ (hT.below Hn3)).mono ?_
    rintro e q4 ⟨rfl, hQ4⟩
    have Xn4 := Xn3.below hQ4
    have Zn4 := Zn3.below hQ4
    have Hn4 := below_more Hn3 hQ4
    refine hK.out _ _ (⟨Xn4, Zn4⟩) (fun hSt => ?_)
    clear hK K
    try simp only [Act.put, List.setIfInBounds_toArray, List.set_cons_zero, List.set_cons_succ]
    refine wpAnyH_picks [38, 39] 0 (by rfl) (by kernel_rfl) (by kernel_rfl) (by kernel_rfl) (fun _ _ _ _ _ h => h) (by assumption) ?_
    simp only [picks, List.drop_succ_cons, List.drop_zero, List.take_succ_cons, List.take_zero, List.cons_append, List.nil_append]
    repeat (first
      | (refine wpY_skip (by rfl) ?_; simp only [Act.put, List.setIfInBounds_toArray, List.set_cons_zero, List.set_cons_succ])
      | (refine wpY_want (v := ?_) (by rfl) (fun W hW => ?_) ?_; rotate_left; (go_simp; try with_reducible rfl); simp only [Act.put, List.setIfInBounds_toArray, List.set_cons_zero, List.set_cons_succ]))
    refine wpY_nil ?_
    refine wpAnyH_done (by kernel_rfl) ?_ _
    refine NoPanic.normal ?_
    go_wp2_with fail
    go_ret
    exact ⟨rfl, Hn4⟩

/-- The table as the program's text lays it. -/
theorem door_met (os : Os) (args : Array Value) : laidMetH Tryd.prog [("math/bits.deBruijn64tab", Rows.laid_math_bits_deBruijn64tab)] ((World.doorLaid Tryd.prog 400 os).forCall (fun _ _ => 0) ⟨#[], args, []⟩).memory :=
  laidMetH_of_parts3 (fuel := 8) (laidMet_of_run' 8 (by kernel_rfl) (by kernel_rfl)) (by kernel_rfl) (by kernel_rfl)

set_option maxRecDepth 100000 in
theorem lifted (os : Os) (started : os.Started) (H : Type) (enc : TypeId × Value → H) :
    ReturnsInHanded {} Tryd.checked os 6 .any (fun w args => (Rows.xorPutsSpec.pre enc Tryd.prog Tryd.f6 [] false w args ∧ laidMetH Tryd.prog [("math/bits.deBruijn64tab", Rows.laid_math_bits_deBruijn64tab)] w) ∧ sizedMet enc Tryd.prog Tryd.f6 (OpenSpec.ofChange Rows.xorPutsSpec) false w args) (Rows.xorPutsSpec.post enc Tryd.prog Tryd.f6 false true false false) := by
  refine returnsInHanded_of_change_and (C := Tryd.checked) (X := fun w _ => laidMetH Tryd.prog [("math/bits.deBruijn64tab", Rows.laid_math_bits_deBruijn64tab)] w) (fun _ _ _ hh h => h.of_heap hh) own started (by kernel_rfl) Tryd.func6
    (ChangeSpec.witness_shaped (enc := enc) (C := Tryd.checked) (os := os) (X := fun w _ => laidMetH Tryd.prog [("math/bits.deBruijn64tab", Rows.laid_math_bits_deBruijn64tab)] w) false (World.doorLaid Tryd.prog 400 os) #[.agg #[.int .i64 0, .int .u64 0, .int .i64 0, .int .i64 0], .int .u64 0, .int .i64 0] 8 rfl (World.shaped_of_RefB (by kernel_rfl) (by kernel_rfl)) (by kernel_rfl) (by kernel_rfl) (by kernel_rfl) (door_met os _)) ?_
  intro W base args ds gs before hval0 hW _ _ hL _
  have hval : ∀ (j : Nat) t v, Tryd.f6.params[j]? = some t → args[j]? = some v → Value.okWide Tryd.prog W .any base t v := hval0
  have hW' := hW
  obtain ⟨p, q, hA0, hV, rfl, hfz, hnd⟩ := hW
  have hA : DataW.TrodAll enc Tryd.prog W 0 (fun _ => true) true Tryd.f6.params.toList args.toList ds p := hA0
  rw [Tryd.params6] at hA hval
  obtain ⟨v0, vs0, d0, ds0, p0, q0, hargs, rfl, rfl, h0, r0⟩ := trodAll_cons hA
  obtain ⟨v1, vs1, d1, ds1, p1, q1, rfl, rfl, rfl, h1, r1⟩ := trodAll_cons r0
  obtain ⟨v2, vs2, d2, ds2, p2, q2, rfl, rfl, rfl, h2, r2⟩ := trodAll_cons r1
  obtain ⟨rfl, rfl, rfl⟩ := trodAll_nil r2
  obtain rfl : args = #[v0, v1, v2] := by cases args; simp_all
  obtain ⟨rfl, rfl⟩ := trodVars_none hV
  have k0 := h0
  have lt0 : ∀ x ∈ p0, x.block < W.heap.size := by obtain ⟨m, hm⟩ := k0; exact DataW.trod_lt m _ _ _ hm
  have k1 := h1
  have lt1 : ∀ x ∈ p1, x.block < W.heap.size := by obtain ⟨m, hm⟩ := k1; exact DataW.trod_lt m _ _ _ hm
  have k2 := h2
  have lt2 : ∀ x ∈ p2, x.block < W.heap.size := by obtain ⟨m, hm⟩ := k2; exact DataW.trod_lt m _ _ _ hm
  obtain ⟨x0_0, x0_1, x0_2, x0_3, rfl, w0_0, w0_1, w0_2, w0_3⟩ := agg4_of Tryd.underlying48 (by kernel_rfl) (by kernel_rfl) Tryd.underlying3 Tryd.underlying38 Tryd.underlying3 Tryd.underlying3 (hval 0 48 v0 rfl rfl) h0
  obtain ⟨a1, rfl, rfl, rfl, w1⟩ := open_int Tryd.underlying38 (hval 1 38 v1 rfl rfl) h1
  obtain ⟨a2, rfl, rfl, rfl, w2⟩ := open_int Tryd.underlying3 (hval 2 3 v2 rfl rfl) h2
  have hT : XorTab W := xorTab_of hL
  clear hA0 hval0
  refine (walk x0_0 x0_1 x0_2 x0_3 a1 a2 W w0_0 w0_1 w0_2 w0_3 w1 w2 hT).mono fun e W' ⟨he, bel⟩ => ?_
  subst he
  exact ⟨_, rfl, _, _, _, [], _, [], hW', trodAll_mk1 (shut_bool Tryd.underlying4 _), (trodAll_cons_mk (Below.trod laidOut (by kernel_rfl) (of_decide_eq_true (by kernel_rfl)) k0 bel lt0) (trodAll_cons_mk (shut_int Tryd.underlying38 w1) (trodAll_cons_mk (shut_int Tryd.underlying3 w2) trodAll_mk0))), rfl, bel.frame _, fun h => by cases h⟩

theorem over : Rows.xorPutsRow.holds Tryd.pinned (OpenSpec.ofChange Rows.xorPutsSpec) :=
  OpenClaim.holds_of_wide 6 Tryd.f6 rfl rfl rfl rfl rfl rfl rfl ⟨rfl, rfl, rfl, rfl, rfl⟩ rfl rfl rfl rfl rfl (by kernel_rfl) Tryd.func6 (by kernel_rfl)
    (of_decide_eq_true (by kernel_rfl)) (by unfold Func.isWrapper; first | (rw [if_pos (by decide +kernel)]; kernel_rfl) | (rw [if_neg (by decide +kernel)]; exact ⟨rfl, rfl⟩))
    (fun os started H enc _ => lifted os started H enc)

theorem proved : Rows.XorPutsSaid := over

theorem card_holds : Rows.XorPutsCardSaid :=
  Claim7.holds_tied_plain_at .later [] [.data] true (true, "be161dddcf822252aefe1cd3c089d2ded8312abac7a911784b1c12d962751af1") false
    over (fun _ h => by cases h) (by kernel_rfl) (fun _ h => by cases h) xorPuts_row_tie rfl ⟨rfl, rfl⟩ (by kernel_rfl) rfl
    (fun f fn hf hfn => by
      obtain rfl : f = 6 := Option.some.inj ((show Tryd.prog.funcNamed "tidepole/tidepolelaw07.XorPuts" = some 6 by kernel_rfl).symm.trans hf) |>.symm
      obtain rfl : fn = Tryd.f6 := (Option.some.inj (Tryd.func6.symm.trans hfn)).symm
      exact ⟨by kernel_rfl, fun j t ht => by
        rw [Tryd.params6] at ht
        have hm : t ∈ ([48, 38, 3] : List Nat) := by simpa using Array.mem_of_getElem? ht
        have hall : (([48, 38, 3] : List Nat).all fun u => !Tryd.prog.wantsStandIn u) = true := by kernel_rfl
        exact (show Tryd.prog.wantsStandIn t = false by simpa using List.all_eq_true.1 hall t hm)⟩)
    (by kernel_rfl)
#print axioms card_holds
end Go.Proofs.YtlgndfckmnninaaDoor.xorPuts
