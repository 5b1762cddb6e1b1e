/- The Go function tidepole/tidepolelaw06.StampSmall returns true for every input, and each argument reads afterwards as it read before. Conditions: none beyond the given row's own. -/
import Derived.Test.YtlgndfckmnninaaDoorRows
import Derived.Test.YtlgndfckmnninaaDoorStampK
import Derived.Test.YtlgndfckmnninaaDoorPicks
import Derived.Test.YtlgndfckmnninaaDoorFields
import Derived.WalkKit
import Derived.ProofKit
import Derived.OpenShut
import Derived.ChangeOld
import Derived.Below
import Derived.Deep.QuietTactic
import Derived.BigQuiet
import Derived.Deep.RegionHeld3
import Derived.LaidMore
import Derived.Stop.Joined
import Derived.SevenTiedAt
import Derived.Test.YtlgndfckmnninaaDoorCards
import Derived.Test.YtlgndfckmnninaaDoorTie
namespace Go.Proofs.YtlgndfckmnninaaDoor.stampSmall
open Go.ChangeShapes Go.WideShapes Go.ChangeAt Go.RowKit
set_option linter.unusedVariables false

theorem own : ownKnob Tryd.prog.godebug = none := by kernel_rfl
theorem laidOut : laidOutB Tryd.prog = true := by kernel_rfl

set_option maxHeartbeats 3200000 in
theorem walk (a0 : Int) (a1 : Int) (a2 : Int) (w : World) (w0 : (Lit.int .i64 a0).wf = true) (w1 : (Lit.int .i64 a1).wf = true) (w2 : (Lit.int .i64 a2).wf = true) (hT : StampTab w) :
    Calls Tryd.prog 3 #[.int .i64 a0, .int .i64 a1, .int .i64 a2] w fun e w' => e = .returned (.bool true) ∧ Below w.heap.size w w' := by
  clear w0 w1 w2
  go_enter Tryd.func3, Tryd.ntmps3
  go_wp2_with fail
  refine (works6_any w hT).mono ?_
  rintro e u1 ⟨rfl, hB1⟩
  go_wp2_with fail
  refine (among_some a0 17592186044416 _ (by omega) (by omega)).mono ?_
  rintro e u ⟨⟨A, rfl, hA0, hA1⟩, rfl⟩
  go_wp2_with fail
  refine (among_some a1 175921860444 _ (by omega) (by omega)).mono ?_
  rintro e u' ⟨⟨S, rfl, hS0, hS1⟩, rfl⟩
  go_wp2_with fail
  refine (NewWriter_any _ w.heap.size hB1.size).mono ?_
  rintro e u2 ⟨g, rfl, hg, W2, hB2⟩
  have H2 := hB1.trans (hB2.mono hB1.size)
  have hg0 : w.heap.size ≤ g := by have := hB1.size; omega
  have hgl := W2.lt
  have X3 := Blk.new u2 27 #[.int .i64 0, .int .i64 0, .int .i64 0]
  have H3 := H2.alloc H2.size (.cells #[.int .i64 0, .int .i64 0, .int .i64 0] 27)
  have W3 := W2.below ((Below.refl _ u2).alloc (Nat.le_refl _) (.cells #[.int .i64 0, .int .i64 0, .int .i64 0] 27))
  have hx2 := H2.size
  go_wp2_with fail
  obtain ⟨x, hx⟩ : ∃ x, u2.heap.size = x := ⟨_, rfl⟩
  rw [hx] at hgl hx2 X3 ⊢
  generalize u2.alloc (.cells #[.int .i64 0, .int .i64 0, .int .i64 0] 27) = u3 at *
  clear hB1 hB2 H2 W2 hx
  obtain ⟨st, hst⟩ : ∃ st, (1 : Int) + S = st := ⟨_, rfl⟩
  have hS2 : 1 ≤ st := by omega
  have hS3 : st ≤ 175921860444 := by omega
  rw [hst]
  clear hst hS0 hS1
  have am := amo_lt a2 (m := 50) (by omega)
  generalize hM : amo a2 50 = M at *
  have AM := fun W => among_any a2 50 W (by omega) (by omega)
  rw [hM] at AM
  have HAM := Lib.hid AM
  clear AM hM
  go_loopw [7, 10, 11] (fun tv lv iv wr => ∃ (i : Nat) (T L D : Int) (B : Option Nat) (Lb : List Bool), iv = .int .i64 i ∧ tv = .int .i64 T ∧ lv = .int .i64 (Lb.length : Int) ∧ i ≤ 3 + M ∧ Wr wr w.heap.size g B Lb ∧ Blk wr x 27 #[.int .i64 i, .int .i64 L, .int .i64 D] ∧ Below w.heap.size w wr ∧ B ≠ some x ∧ Lb.length ≤ 52 * i ∧
      0 ≤ T ∧ T ≤ 17592186044416 + 175921860444 * (i : Int) ∧ (i = 0 → L = 0 ∧ D = 0) ∧ (1 ≤ i → 0 ≤ L ∧ T = L + st ∧ 0 ≤ D) ∧ (i = 1 → D = 0) ∧ (2 ≤ i → D = st)) (fun _ _ iv _ => 100 - (intOf iv).toNat)
  case atStart => exact ⟨0, A, 0, 0, none, [], rfl, rfl, rfl, by omega, W3, X3, H3, by simp, by simp, hA0, by omega, fun _ => ⟨rfl, rfl⟩, fun h => by omega, fun h => by omega, fun h => by omega⟩
  case round =>
    obtain ⟨i, T, L, D, B, Lb, rfl, rfl, rfl, hi, hW, hX, hH, hBx, hLb, hT0, hT1, g0, g1, g2, g3⟩ := hrel
    clear W3 X3 H3
    obtain ⟨ln, hln⟩ : ∃ ln, Lb.length = ln := ⟨_, rfl⟩
    rw [hln] at hLb ⊢
    have HLN := Lib.hid hln
    have HBX := Lib.hid hBx
    have hrow := hW.row
    have hwz := hX.lt
    clear hln hBx
    go_wp2_with fail
    refine (HAM.out _).mono ?_
    rintro e u4 ⟨rfl, rfl⟩
    rcases Nat.lt_or_ge i (3 + M) with hlt | hge
    · have hlt' : (i : Int) < 3 + (M : Int) := by omega
      obtain ⟨D2, hD2⟩ : ∃ D2, difS i L T = D2 := ⟨_, rfl⟩
      obtain ⟨M2, hM2⟩ : ∃ M2, Lb ++ encS i L D T = M2 := ⟨_, rfl⟩
      have hnx : nextS i L T = true := nextS_mk ⟨by omega, by omega, by omega⟩
      have hrt : rightS i L D = true := rightS_mk ⟨by omega, by omega, by omega, by omega, by omega, by omega⟩
      have hl2 : M2.length ≤ 52 * (i + 1) := by rw [← hM2, List.length_append, HLN.out]; have := encS_le _ _ _ _ hrt hnx; omega
      have hl3 : 2 ≤ i → M2.length = ln + 1 := fun h => by rw [← hM2, encS_same _ _ _ _ (by omega) (by omega), List.length_append, HLN.out]; rfl
      have hd0 : i = 0 → D2 = 0 := fun h => by subst h; exact hD2.symm
      have hd1 : 1 ≤ i → D2 = st := fun h => by rw [← hD2, difS, if_neg (by omega)]; omega
      obtain ⟨i2, hi2⟩ : ∃ i2, ((i + 1 : Nat) : Int) = i2 := ⟨_, rfl⟩
      have PUT := fun W h1 h2 h3 => sPut_to W w.heap.size g B Lb M2 i L D T i2 D2 h1 h2 (by rw [HLN.out]; omega) h3 hnx hrt (by rw [← hi2]; push_cast; rfl) hD2 hM2
      have HPUT := Lib.hid PUT
      have HI2 := Lib.hid hi2
      have HL3 := Lib.hid hl3
      have HD0 := Lib.hid hd0
      have HD1 := Lib.hid hd1
      have G0 := Lib.hid g0
      have G1 := Lib.hid g1
      clear hi2 hl3 hd0 hd1 hD2 hM2 PUT hnx hrt g0 g1 g2 g3 HLN
      obtain ⟨c0, c1, c2⟩ := hX.cells3
      have T4 := hT.below hH
      go_wp2_with fail
      refine (HPUT.out _ hW T4 hH.size).mono ?_
      rintro e u5 ⟨rfl, B5, W5, hB5, hT5⟩
      have H5 := hH.trans (hT5.below hH.size hg0 (fun k hk => (hrow k hk).1))
      have X5 := (hX.touch hT5 (by omega) (fun e => HBX.out e.symm)).alloc (.cells #[.int .i64 i2, .int .i64 T, .int .i64 D2] 27)
      have Y5 := Blk.new u5 27 #[.int .i64 i2, .int .i64 T, .int .i64 D2]
      have W5a := W5.below ((Below.refl _ u5).alloc (Nat.le_refl _) (.cells #[.int .i64 i2, .int .i64 T, .int .i64 D2] 27))
      have H5a := H5.alloc H5.size (.cells #[.int .i64 i2, .int .i64 T, .int .i64 D2] 27)
      have hz5 := hT5.size
      have nb5 : B5 ≠ some x := fun e => by
        rcases hB5 with rfl | ⟨b, rfl, hb⟩
        · exact HBX.out e
        · have : b = x := by injection e
          omega
      have hg5 := W5.lt
      have HB5 := Lib.hid nb5
      clear nb5 c0 c1 c2 HPUT hB5
      obtain ⟨l2, hl2e⟩ : ∃ l2, M2.length = l2 := ⟨_, rfl⟩
      rw [hl2e] at hl2 HL3
      have HL := Lib.hid hl2e
      clear hl2e
      have hcs : (¬ (2 : Int) ≤ (i : Int) ∧ i < 2) ∨ ((2 : Int) ≤ (i : Int) ∧ 2 ≤ i) := by omega
      rcases hcs with ⟨hcs, hcn⟩ | ⟨hcs, hcn⟩
      · skip
        go_wp2_with fail
        obtain ⟨y, hy⟩ : ∃ y, u5.heap.size = y := ⟨_, rfl⟩
        rw [hy] at hz5 Y5 ⊢
        generalize u5.alloc (.cells #[.int .i64 i2, .int .i64 T, .int .i64 D2] 27) = u6 at *
        have ws : IntKind.i64.wrap (T + st) = T + st := by rw [IntKind.wrap_i64]; omega
        refine wp_region_noPanic ?_
        refine wp_region_held_drew (S := fun W : World => W.cell? ⟨y, 0, none⟩ = some (.int .i64 i2) ∧ W.cell? ⟨y, 1, none⟩ = some (.int .i64 T) ∧ W.cell? ⟨y, 2, none⟩ = some (.int .i64 D2)) (by kernel_rfl) (Y5.cells3) (fun hSt => ?_)
        refine wpAnyH_picks [0, 1, 3, 4, 5] 4 (by rfl) (by kernel_rfl) (by kernel_rfl) (by kernel_rfl) (fun _ _ _ _ _ h => h) (by assumption) ?_
        simp only [picks, List.drop_succ_cons, List.drop_zero, List.take_succ_cons, List.take_zero, List.cons_append, List.nil_append]
        repeat (first
          | (refine wpY_skip (by rfl) ?_; simp only [Act.put, List.setIfInBounds_toArray, List.set_cons_zero, List.set_cons_succ])
          | (refine wpY_want (v := ?_) (by rfl) (fun W hW => ?_) ?_; rotate_left; (obtain ⟨hW0, hW1, hW2⟩ := hW; go_simp; try with_reducible rfl); simp only [Act.put, List.setIfInBounds_toArray, List.set_cons_zero, List.set_cons_succ]))
        refine wpY_nil ?_
        refine wpAnyH_one 2 3 (by rfl) (by rfl) (by kernel_rfl) (fun K hK => ?_)
        go_simp
        refine (Len_int _ w.heap.size g B5 M2 (l2 : Int) (W5a.drewN 1) (by rw [HL.out])).mono ?_
        rintro e u ⟨rfl, rfl⟩
        refine hK.out _ _ (Y5.cells3) (fun hSt => ?_)
        clear hK K
        try simp only [Act.put, List.setIfInBounds_toArray, List.set_cons_zero, List.set_cons_succ]
        obtain ⟨d0, d1, d2⟩ := (X5.drewN 1).cells3
        obtain ⟨f0, f1, f2⟩ := (X5.drewN 1).free3
        refine wpAnyH_one 6 2 (by rfl) (by rfl) (by kernel_rfl) (fun K hK => ?_)
        go_simp
        refine hK.out _ _ (((Y5.drewN 1).farPut3 (by omega) _ _ _).cells3) (fun hSt => ?_)
        clear hK K
        try simp only [Act.put, List.setIfInBounds_toArray, List.set_cons_zero, List.set_cons_succ]
        refine wpAnyH_picks [7, 8] 0 (by rfl) (by kernel_rfl) (by kernel_rfl) (by kernel_rfl) (fun _ _ _ _ _ h => h) (by assumption) ?_
        simp only [picks, List.drop_succ_cons, List.drop_zero, List.take_succ_cons, List.take_zero, List.cons_append, List.nil_append]
        repeat (first
          | (refine wpY_skip (by rfl) ?_; simp only [Act.put, List.setIfInBounds_toArray, List.set_cons_zero, List.set_cons_succ])
          | (refine wpY_want (v := ?_) (by rfl) (fun W hW => ?_) ?_; rotate_left; (go_simp; try with_reducible rfl); simp only [Act.put, List.setIfInBounds_toArray, List.set_cons_zero, List.set_cons_succ]))
        refine wpY_nil ?_
        refine wpAnyH_done (by kernel_rfl) ?_ _
        refine NoPanic.normal ?_
        clear hy ws
        go_wp2_with fail
        have X7 := (X5.drewN 1).put3 (.int .i64 i2) (.int .i64 T) (.int .i64 D2)
        have W7 := (W5a.drewN 1).put3 (r := x) (by omega) HB5.out (.int .i64 i2) (.int .i64 T) (.int .i64 D2)
        have H7 := below_put3 (below_drewN H5a 1) (g := x) (by omega) (.int .i64 i2) (.int .i64 T) (.int .i64 D2)
        unfold put3 at *
        have hd0 := HD0.out
        have hd1 := HD1.out
        have g0' := G0.out
        have g1' := G1.out
        go_roundw
        case rel => exact ⟨i + 1, T + st, T, D2, B5, M2, by go_num, rfl, by rw [HL.out], by omega, W7, by rw [HI2.out]; exact X7, H7, HB5.out, by rw [HL.out]; exact hl2, by omega, by omega, fun h => by omega, fun h => ⟨by omega, by omega, by omega⟩, fun h => by omega, fun h => by omega⟩
        case measure => simp [intOf]; omega
      · skip
        go_wp2_with fail
        refine (Len_int _ w.heap.size g B5 M2 ((ln : Int) + 1) W5a (by rw [HL.out, HL3.out hcn]; rfl)).mono ?_
        rintro e u ⟨rfl, rfl⟩
        go_wp2_with fail
        obtain ⟨y, hy⟩ : ∃ y, u5.heap.size = y := ⟨_, rfl⟩
        rw [hy] at hz5 Y5 ⊢
        generalize u5.alloc (.cells #[.int .i64 i2, .int .i64 T, .int .i64 D2] 27) = u6 at *
        have ws : IntKind.i64.wrap (T + st) = T + st := by rw [IntKind.wrap_i64]; omega
        refine wp_region_noPanic ?_
        refine wp_region_held_drew (S := fun W : World => W.cell? ⟨y, 0, none⟩ = some (.int .i64 i2) ∧ W.cell? ⟨y, 1, none⟩ = some (.int .i64 T) ∧ W.cell? ⟨y, 2, none⟩ = some (.int .i64 D2)) (by kernel_rfl) (Y5.cells3) (fun hSt => ?_)
        refine wpAnyH_picks [0, 1, 3, 4, 5] 4 (by rfl) (by kernel_rfl) (by kernel_rfl) (by kernel_rfl) (fun _ _ _ _ _ h => h) (by assumption) ?_
        simp only [picks, List.drop_succ_cons, List.drop_zero, List.take_succ_cons, List.take_zero, List.cons_append, List.nil_append]
        repeat (first
          | (refine wpY_skip (by rfl) ?_; simp only [Act.put, List.setIfInBounds_toArray, List.set_cons_zero, List.set_cons_succ])
          | (refine wpY_want (v := ?_) (by rfl) (fun W hW => ?_) ?_; rotate_left; (obtain ⟨hW0, hW1, hW2⟩ := hW; go_simp; try with_reducible rfl); simp only [Act.put, List.setIfInBounds_toArray, List.set_cons_zero, List.set_cons_succ]))
        refine wpY_nil ?_
        refine wpAnyH_one 2 3 (by rfl) (by rfl) (by kernel_rfl) (fun K hK => ?_)
        go_simp
        refine (Len_int _ w.heap.size g B5 M2 (l2 : Int) (W5a.drewN 1) (by rw [HL.out])).mono ?_
        rintro e u ⟨rfl, rfl⟩
        refine hK.out _ _ (Y5.cells3) (fun hSt => ?_)
        clear hK K
        try simp only [Act.put, List.setIfInBounds_toArray, List.set_cons_zero, List.set_cons_succ]
        obtain ⟨d0, d1, d2⟩ := (X5.drewN 1).cells3
        obtain ⟨f0, f1, f2⟩ := (X5.drewN 1).free3
        refine wpAnyH_one 6 2 (by rfl) (by rfl) (by kernel_rfl) (fun K hK => ?_)
        go_simp
        refine hK.out _ _ (((Y5.drewN 1).farPut3 (by omega) _ _ _).cells3) (fun hSt => ?_)
        clear hK K
        try simp only [Act.put, List.setIfInBounds_toArray, List.set_cons_zero, List.set_cons_succ]
        refine wpAnyH_picks [7, 8] 0 (by rfl) (by kernel_rfl) (by kernel_rfl) (by kernel_rfl) (fun _ _ _ _ _ h => h) (by assumption) ?_
        simp only [picks, List.drop_succ_cons, List.drop_zero, List.take_succ_cons, List.take_zero, List.cons_append, List.nil_append]
        repeat (first
          | (refine wpY_skip (by rfl) ?_; simp only [Act.put, List.setIfInBounds_toArray, List.set_cons_zero, List.set_cons_succ])
          | (refine wpY_want (v := ?_) (by rfl) (fun W hW => ?_) ?_; rotate_left; (go_simp; try with_reducible rfl); simp only [Act.put, List.setIfInBounds_toArray, List.set_cons_zero, List.set_cons_succ]))
        refine wpY_nil ?_
        refine wpAnyH_done (by kernel_rfl) ?_ _
        refine NoPanic.normal ?_
        clear hy ws
        go_wp2_with fail
        have X7 := (X5.drewN 1).put3 (.int .i64 i2) (.int .i64 T) (.int .i64 D2)
        have W7 := (W5a.drewN 1).put3 (r := x) (by omega) HB5.out (.int .i64 i2) (.int .i64 T) (.int .i64 D2)
        have H7 := below_put3 (below_drewN H5a 1) (g := x) (by omega) (.int .i64 i2) (.int .i64 T) (.int .i64 D2)
        unfold put3 at *
        have hd0 := HD0.out
        have hd1 := HD1.out
        have g0' := G0.out
        have g1' := G1.out
        go_roundw
        case rel => exact ⟨i + 1, T + st, T, D2, B5, M2, by go_num, rfl, by rw [HL.out], by omega, W7, by rw [HI2.out]; exact X7, H7, HB5.out, by rw [HL.out]; exact hl2, by omega, by omega, fun h => by omega, fun h => ⟨by omega, by omega, by omega⟩, fun h => by omega, fun h => by omega⟩
        case measure => simp [intOf]; omega
    · have hge' : ¬ (i : Int) < 3 + (M : Int) := by omega
      go_wp2_with fail
      go_ret
      exact ⟨rfl, hH⟩

/-- The table as the program's text lays it. -/
theorem door_met (os : Os) (args : Array Value) : laidMetH Tryd.prog [("tidepole/stamp.classes", Rows.laid_tidepole_stamp_classes)] ((World.doorLaid Tryd.prog 400 os).forCall (fun _ _ => 0) ⟨#[], args, []⟩).memory :=
  laidMetH_of_parts3 (fuel := 8) (laidMet_of_run' 8 (by kernel_rfl) (by kernel_rfl)) (by kernel_rfl) (by kernel_rfl)

set_option maxRecDepth 100000 in
theorem lifted (os : Os) (started : os.Started) (H : Type) (enc : TypeId × Value → H) :
    ReturnsInHanded {} Tryd.checked os 3 .any (fun w args => (Rows.stampSmallSpec.pre enc Tryd.prog Tryd.f3 [] false w args ∧ laidMetH Tryd.prog [("tidepole/stamp.classes", Rows.laid_tidepole_stamp_classes)] w) ∧ sizedMet enc Tryd.prog Tryd.f3 (OpenSpec.ofChange Rows.stampSmallSpec) false w args) (Rows.stampSmallSpec.post enc Tryd.prog Tryd.f3 false true false false) := by
  refine returnsInHanded_of_change_and (C := Tryd.checked) (X := fun w _ => laidMetH Tryd.prog [("tidepole/stamp.classes", Rows.laid_tidepole_stamp_classes)] w) (fun _ _ _ hh h => h.of_heap hh) own started (by kernel_rfl) Tryd.func3
    (ChangeSpec.witness_shaped (enc := enc) (C := Tryd.checked) (os := os) (X := fun w _ => laidMetH Tryd.prog [("tidepole/stamp.classes", Rows.laid_tidepole_stamp_classes)] w) false (World.doorLaid Tryd.prog 400 os) #[.int .i64 0, .int .i64 0, .int .i64 0] 8 rfl (World.shaped_of_RefB (by kernel_rfl) (by kernel_rfl)) (by kernel_rfl) (by kernel_rfl) (by kernel_rfl) (door_met os _)) ?_
  intro W base args ds gs before hval0 hW _ _ hL _
  have hval : ∀ (j : Nat) t v, Tryd.f3.params[j]? = some t → args[j]? = some v → Value.okWide Tryd.prog W .any base t v := hval0
  have hW' := hW
  obtain ⟨p, q, hA0, hV, rfl, hfz, hnd⟩ := hW
  have hA : DataW.TrodAll enc Tryd.prog W 0 (fun _ => true) true Tryd.f3.params.toList args.toList ds p := hA0
  rw [Tryd.params3] at hA hval
  obtain ⟨v0, vs0, d0, ds0, p0, q0, hargs, rfl, rfl, h0, r0⟩ := trodAll_cons hA
  obtain ⟨v1, vs1, d1, ds1, p1, q1, rfl, rfl, rfl, h1, r1⟩ := trodAll_cons r0
  obtain ⟨v2, vs2, d2, ds2, p2, q2, rfl, rfl, rfl, h2, r2⟩ := trodAll_cons r1
  obtain ⟨rfl, rfl, rfl⟩ := trodAll_nil r2
  obtain rfl : args = #[v0, v1, v2] := by cases args; simp_all
  obtain ⟨rfl, rfl⟩ := trodVars_none hV
  have k0 := h0
  have lt0 : ∀ x ∈ p0, x.block < W.heap.size := by obtain ⟨m, hm⟩ := k0; exact DataW.trod_lt m _ _ _ hm
  have k1 := h1
  have lt1 : ∀ x ∈ p1, x.block < W.heap.size := by obtain ⟨m, hm⟩ := k1; exact DataW.trod_lt m _ _ _ hm
  have k2 := h2
  have lt2 : ∀ x ∈ p2, x.block < W.heap.size := by obtain ⟨m, hm⟩ := k2; exact DataW.trod_lt m _ _ _ hm
  obtain ⟨a0, rfl, rfl, rfl, w0⟩ := open_int Tryd.underlying3 (hval 0 3 v0 rfl rfl) h0
  obtain ⟨a1, rfl, rfl, rfl, w1⟩ := open_int Tryd.underlying3 (hval 1 3 v1 rfl rfl) h1
  obtain ⟨a2, rfl, rfl, rfl, w2⟩ := open_int Tryd.underlying3 (hval 2 3 v2 rfl rfl) h2
  have hT : StampTab W := stampTab_of hL
  clear hA0 hval0
  refine (walk a0 a1 a2 W w0 w1 w2 hT).mono fun e W' ⟨he, bel⟩ => ?_
  subst he
  exact ⟨_, rfl, _, _, _, [], _, [], hW', trodAll_mk1 (shut_bool Tryd.underlying4 _), (trodAll_cons_mk (shut_int Tryd.underlying3 w0) (trodAll_cons_mk (shut_int Tryd.underlying3 w1) (trodAll_cons_mk (shut_int Tryd.underlying3 w2) trodAll_mk0))), rfl, bel.frame _, fun h => by cases h⟩

theorem over : Rows.stampSmallRow.holds Tryd.pinned (OpenSpec.ofChange Rows.stampSmallSpec) :=
  OpenClaim.holds_of_wide 3 Tryd.f3 rfl rfl rfl rfl rfl rfl rfl ⟨rfl, rfl, rfl, rfl, rfl⟩ rfl rfl rfl rfl rfl (by kernel_rfl) Tryd.func3 (by kernel_rfl)
    (of_decide_eq_true (by kernel_rfl)) (by unfold Func.isWrapper; first | (rw [if_pos (by decide +kernel)]; kernel_rfl) | (rw [if_neg (by decide +kernel)]; exact ⟨rfl, rfl⟩))
    (fun os started H enc _ => lifted os started H enc)

theorem proved : Rows.StampSmallSaid := over

theorem card_holds : Rows.StampSmallCardSaid :=
  Claim7.holds_tied_plain_at .later [] [.data] true (true, "be161dddcf822252aefe1cd3c089d2ded8312abac7a911784b1c12d962751af1") false
    over (fun _ h => by cases h) (by kernel_rfl) (fun _ h => by cases h) stampSmall_row_tie rfl ⟨rfl, rfl⟩ (by kernel_rfl) rfl
    (fun f fn hf hfn => by
      obtain rfl : f = 3 := Option.some.inj ((show Tryd.prog.funcNamed "tidepole/tidepolelaw06.StampSmall" = some 3 by kernel_rfl).symm.trans hf) |>.symm
      obtain rfl : fn = Tryd.f3 := (Option.some.inj (Tryd.func3.symm.trans hfn)).symm
      exact ⟨by kernel_rfl, fun j t ht => by
        rw [Tryd.params3] at ht
        have hm : t ∈ ([3, 3, 3] : List Nat) := by simpa using Array.mem_of_getElem? ht
        have hall : (([3, 3, 3] : List Nat).all fun u => !Tryd.prog.wantsStandIn u) = true := by kernel_rfl
        exact (show Tryd.prog.wantsStandIn t = false by simpa using List.all_eq_true.1 hall t hm)⟩)
    (by kernel_rfl)
#print axioms card_holds
end Go.Proofs.YtlgndfckmnninaaDoor.stampSmall
