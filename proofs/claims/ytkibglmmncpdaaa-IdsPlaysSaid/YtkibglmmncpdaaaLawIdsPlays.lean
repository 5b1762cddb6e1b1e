/- The Go function tidepole/tidepolelaw18.IdsPlays returns true for every input, and each argument reads afterwards as it read before. Conditions: none beyond the given row's own. -/
import Derived.Test.YtkibglmmncpdaaaRows
import Derived.Test.YtkibglmmncpdaaaIdsW
import Derived.Test.YtkibglmmncpdaaaFields
import Derived.WalkKit
import Derived.ProofKit
import Derived.OpenShut
import Derived.ChangeOld
import Derived.Below
import Derived.Deep.QuietTactic
import Derived.BigQuiet
import Derived.Deep.RegionHeld3
namespace Go.Proofs.Ytkibglmmncpdaaa.idsPlays
open Go.ChangeShapes Go.WideShapes Go.ChangeAt Go.RowKit
set_option linter.unusedVariables false

theorem own : ownKnob Try.prog.godebug = none := by kernel_rfl
theorem laidOut : laidOutB Try.prog = true := by kernel_rfl

set_option maxRecDepth 20000 in
set_option maxHeartbeats 1600000 in
theorem walk (a0 : Int) (a1 : Option Addr) (len1 cap1 : Nat) (U1 V1 : Nat → Int) (w : World) (w0 : (Lit.int .u64 a0).wf = true) (w1 : IsPairs .i64 .u64 w a1 len1 cap1 U1 V1) :
    Calls Try.prog 9 #[.int .u64 a0, .slice a1 len1 cap1] w fun e w' => e = .returned (.bool true) ∧ Below w.heap.size w w' := by
  have hrow := w1
  obtain ⟨T, rfl, hT⟩ := nat_of_u64 w0
  clear w0 w1
  rcases Nat.lt_or_ge 9223372036854775807 T with h | h
  · go_enter Try.func9, Try.ntmps9
    go_wp2_with fail
    refine (New_bad T _ h).mono ?_
    rintro e w1 ⟨rfl, rfl⟩
    go_wp2_with fail
    refine (refNew_bad T _ h).mono ?_
    rintro e w1 ⟨rfl, rfl⟩
    go_wp2_with fail
    refine (worksIds_any _).mono ?_
    rintro e w1 ⟨rfl, hB1⟩
    go_wp2_with fail
    go_ret
    exact ⟨rfl, hB1⟩
  · go_enter Try.func9, Try.ntmps9
    go_wp2_with fail
    refine (New_good T _ h).mono ?_
    rintro e w1 ⟨rfl, hG, hB1⟩
    have hgl1 := hG.lt
    go_wp2_with fail
    refine (refNew_good T _ h).mono ?_
    rintro e w2 ⟨rfl, hR, hB2⟩
    have hG := hG.below hB2
    go_wp2_with fail
    have hb2 := below_more hB1 hB2
    have hz1 := hB1.size
    have hne : w.heap.size ≠ w1.heap.size := by omega
    go_loopw [5, 6, 7, 8, 9] (fun xv _ yv _ iv wr => ∃ m gx gy l t : Nat, iv = .int .i64 m ∧ xv = .pointer (some ⟨gx, 0, none⟩) ∧ yv = .pointer (some ⟨gy, 0, none⟩) ∧ m ≤ len1 ∧ m ≤ 80 ∧ Gv wr gx l t ∧ Gr wr gy l t ∧ gx ≠ gy ∧ w.heap.size ≤ gx ∧ w.heap.size ≤ gy ∧ Below w.heap.size w wr) (fun _ _ _ _ iv _ => 80 - (intOf iv).toNat)
    case atStart => exact ⟨0, _, _, T, T, rfl, rfl, rfl, by omega, by omega, hG, hR, hne, Nat.le_refl _, hz1, hb2⟩
    case round =>
      obtain ⟨m, gx, gy, l, t, rfl, rfl, rfl, hm1, hm2, hGx, hRx, hnx, hgx, hgy, hbx⟩ := hrel
      clear hG hR hne hb2
      by_cases hmm : m < len1 ∧ m < 80
      · obtain ⟨h1, h2⟩ := hmm
        obtain ⟨b, off, rfl, hc⟩ := hrow.2.2 (by omega)
        obtain ⟨cU, cV, _, wV⟩ := hc m h1
        obtain ⟨n, hn, hn64⟩ := nat_of_u64 wV
        rw [hn] at cV
        have dU := cell_keep hbx cU
        have dV := cell_keep hbx cV
        have am := fun W => among_any (U1 m) 7 W (by omega) (by omega)
        have hv := amo_lt (U1 m) (show 0 < 7 by omega)
        generalize amo (U1 m) 7 = v at *
        generalize U1 m = u at *
        have AM := Lib.hid am
        have hll := hrow.1
        have hlc := hrow.2.1
        clear am hc hrow hn wV cU
        have hcase : (v = 0 ∨ v = 1 ∨ v = 2 ∨ v = 3) ∨ v = 4 ∨ v = 5 ∨ v = 6 := by omega
        rcases hcase with hv03 | rfl | rfl | rfl
        · have htk := fun W h => Take_any W gx l t h
          have hrt := fun W h => refTake_any W gy l t h
          generalize takeV l t = a at *
          generalize takeC l t = c at *
          obtain ⟨L2, hL2⟩ : ∃ L2, takeL l t = L2 := ⟨_, rfl⟩
          rw [hL2] at htk hrt
          have TK := Lib.hid htk
          have RT := Lib.hid hrt
          obtain ⟨T2, rfl⟩ : ∃ T2, T2 = t := ⟨_, rfl⟩
          clear htk hrt hL2
          rcases hv03 with rfl | rfl | rfl | rfl
          all_goals
            go_wp2_with (go_at_call 27; refine (AM.out _).mono ?_; rintro e w' ⟨rfl, rfl⟩)
            refine (TK.out _ hGx).mono ?_
            rintro e w4 ⟨rfl, hGx, hT4⟩
            have hRx := hRx.touch hT4 (fun e => hnx e.symm) (by simp)
            have hbx := hbx.trans (hT4.below hbx.size hgx (fun _ h => by cases h))
            go_wp2_with fail
            refine (RT.out _ hRx).mono ?_
            rintro e w5 ⟨rfl, hRx, hT5⟩
            have hGx := hGx.touch hT5 hnx (by simp)
            have hbx := hbx.trans (hT5.below hbx.size hgy (fun _ h => by cases h))
            have k0 := hRx.1.cell 0
            have k1 := hRx.1.cell 1
            simp at k0 k1
            have hle := hRx.2.1
            have hle2 := hRx.2.2
            have eL : ((T2 - L2 : Nat) : Int) = (T2 : Int) - (L2 : Int) := by omega
            go_wp2_with fail
            go_quiet (first
              | (go_at_call 34; exact Calls.quiet_of_same (Last_any _ _ _ _ hGx))
              | (go_at_call 35; exact Calls.quiet_of_same (Top_any _ _ _ _ hGx))
              | (go_at_call 40; exact Calls.quiet_of_same (Left_any _ _ _ _ hGx)))
            go_wp2_with fail
            go_roundw
            case rel => exact ⟨m + 1, _, _, L2, T2, rfl, rfl, rfl, by omega, by omega, hGx, hRx, hnx, hgx, hgy, below_drewN hbx nq⟩
            case measure => simp [intOf]; omega
        · have htk := fun W h => Raise_any W gx l t n h
          have hrt := fun W h => refRaise_any W gy l t n h
          generalize raiseV t n = a at *
          generalize raiseC t n = c at *
          obtain ⟨T2, hL2⟩ : ∃ T2, raiseT t n = T2 := ⟨_, rfl⟩
          rw [hL2] at htk hrt
          have TK := Lib.hid htk
          have RT := Lib.hid hrt
          obtain ⟨L2, rfl⟩ : ∃ L2, L2 = l := ⟨_, rfl⟩
          clear htk hrt hL2
          · skip
            go_wp2_with (go_at_call 27; refine (AM.out _).mono ?_; rintro e w' ⟨rfl, rfl⟩)
            refine (TK.out _ hGx).mono ?_
            rintro e w4 ⟨rfl, hGx, hT4⟩
            have hRx := hRx.touch hT4 (fun e => hnx e.symm) (by simp)
            have hbx := hbx.trans (hT4.below hbx.size hgx (fun _ h => by cases h))
            have dV := cell_keep hbx cV
            go_wp2_with fail
            refine (RT.out _ hRx).mono ?_
            rintro e w5 ⟨rfl, hRx, hT5⟩
            have hGx := hGx.touch hT5 hnx (by simp)
            have hbx := hbx.trans (hT5.below hbx.size hgy (fun _ h => by cases h))
            have k0 := hRx.1.cell 0
            have k1 := hRx.1.cell 1
            simp at k0 k1
            have hle := hRx.2.1
            have hle2 := hRx.2.2
            have eL : ((T2 - L2 : Nat) : Int) = (T2 : Int) - (L2 : Int) := by omega
            go_wp2_with fail
            go_quiet (first
              | (go_at_call 34; exact Calls.quiet_of_same (Last_any _ _ _ _ hGx))
              | (go_at_call 35; exact Calls.quiet_of_same (Top_any _ _ _ _ hGx))
              | (go_at_call 40; exact Calls.quiet_of_same (Left_any _ _ _ _ hGx)))
            go_wp2_with fail
            go_roundw
            case rel => exact ⟨m + 1, _, _, L2, T2, rfl, rfl, rfl, by omega, by omega, hGx, hRx, hnx, hgx, hgy, below_drewN hbx nq⟩
            case measure => simp [intOf]; omega
        · have htk := fun W h => Past_any W gx l t n h
          have hrt := fun W h => refPast_any W gy l t n h
          generalize pastC n = c at *
          obtain ⟨L2, hL2⟩ : ∃ L2, pastL l n = L2 := ⟨_, rfl⟩
          obtain ⟨T2, hT2⟩ : ∃ T2, pastL t n = T2 := ⟨_, rfl⟩
          rw [hL2, hT2] at htk hrt
          have TK := Lib.hid htk
          have RT := Lib.hid hrt
          clear htk hrt hL2 hT2
          · skip
            go_wp2_with (go_at_call 27; refine (AM.out _).mono ?_; rintro e w' ⟨rfl, rfl⟩)
            have hS : w'.drew.cell? ⟨b, off + m * 2 + 1, none⟩ = some (.int .u64 (n : Int)) ∧ Below w.heap.size w w'.drew := ⟨dV, below_drewN hbx 1⟩
            have hGd : Gv w'.drew gx l t := hGx
            have hRd : Gr w'.drew gy l t := hRx
            have hbd : Below w.heap.size w w'.drew := below_drewN hbx 1
            go_region_held3 (fun W : World => W.cell? ⟨b, off + m * 2 + 1, none⟩ = some (.int .u64 (n : Int)) ∧ Below w.heap.size w W) (first | assumption | exact ⟨cell_keep hbz cV, hbz⟩) (first
              | (go_at_call 30; refine (TK.out _ hGd).mono ?_; rintro e w4 ⟨rfl, hGz, hT4⟩; have hRz := hRd.touch hT4 (fun e => hnx e.symm) (by simp); have hbz := hbd.trans (hT4.below hbd.size hgx (fun _ h => by cases h)))
              | (go_at_call 39; refine (RT.out _ hRz).mono ?_; rintro e w5 ⟨rfl, hRv, hT5⟩; have hGv := hGz.touch hT5 hnx (by simp); have hby := hbz.trans (hT5.below hbz.size hgy (fun _ h => by cases h)); have hbz := hby))
            have hGx := hGv
            have hRx := hRv
            have hbx := hby
            have k0 := hRx.1.cell 0
            have k1 := hRx.1.cell 1
            simp at k0 k1
            have hle := hRx.2.1
            have hle2 := hRx.2.2
            have eL : ((T2 - L2 : Nat) : Int) = (T2 : Int) - (L2 : Int) := by omega
            go_wp2_with fail
            go_quiet (first
              | (go_at_call 34; exact Calls.quiet_of_same (Last_any _ _ _ _ hGx))
              | (go_at_call 35; exact Calls.quiet_of_same (Top_any _ _ _ _ hGx))
              | (go_at_call 40; exact Calls.quiet_of_same (Left_any _ _ _ _ hGx)))
            go_wp2_with fail
            go_roundw
            case rel => exact ⟨m + 1, _, _, L2, T2, rfl, rfl, rfl, by omega, by omega, hGx, hRx, hnx, hgx, hgy, below_drewN hbx nq⟩
            case measure => simp [intOf]; omega
        · have hEnc := enc_le10 t (by have := hGx.2.2; omega)
          have hEb := enc_byte t
          have htG := hGx.2.2
          have hgv := giver_enc t htG
          · skip
            go_wp2_with (go_at_call 27; refine (AM.out _).mono ?_; rintro e w' ⟨rfl, rfl⟩)
            refine (Bytes_any _ gx l t hGx).mono ?_
            rintro e w4 ⟨v4, rfl, hO4, hB4⟩
            obtain ⟨A4, c4, rfl, hR4⟩ := RB.of_own hO4
            have hb4 := hbx.trans (hB4.mono hbx.size)
            have hRx4 := hRx.below hB4
            have kt := hRx4.1.cell 1
            simp at kt
            go_wp2_with fail
            refine (refPut_any none 0 0 [] t _ (RB.nil _) (by omega) (by omega) (by omega)).mono ?_
            rintro e w5 ⟨v5, rfl, hO5, hB5⟩
            rw [List.nil_append, Int.toNat_natCast, Nat.zero_add] at hO5
            obtain ⟨A5, c5, rfl, hR5⟩ := RB.of_own hO5
            have hb5 := hb4.trans (hB5.mono hb4.size)
            have hR4' := hR4.below hB5
            have hRx5 := hRx4.below hB5
            go_wp2_with fail
            refine (same_any A4 A5 _ c4 _ c5 _ _ hR4' hR5).mono ?_
            rintro e w6 ⟨rfl, rfl⟩
            go_wp2_with fail
            refine (IdsRead_good A4 _ c4 _ _ t hR4' (by omega) hEb hgv).mono ?_
            rintro e w6 ⟨rfl, hG6, hB6⟩
            have hb6 := hb5.trans (hB6.mono hb5.size)
            have hRx6 := hRx5.below hB6
            have kt6 := hRx6.1.cell 1
            simp at kt6
            have hl6 := hG6.lt
            go_wp2_with fail
            refine (refNew_good t _ htG).mono ?_
            rintro e w7 ⟨rfl, hR7, hB7⟩
            have hG7 := hG6.below hB7
            have hbx := hb6.trans (hB7.mono hb6.size)
            have hgx : w.heap.size ≤ _ := hb5.size
            have hgy : w.heap.size ≤ _ := hb6.size
            have hnx : _ ≠ _ := Nat.ne_of_lt hl6
            have hGx := hG7
            have hRx := hR7
            have k0 := hRx.1.cell 0
            have k1 := hRx.1.cell 1
            simp at k0 k1
            have eL : ((t - t : Nat) : Int) = (t : Int) - (t : Int) := by omega
            go_wp2_with fail
            go_quiet (first
              | (go_at_call 34; exact Calls.quiet_of_same (Last_any _ _ _ _ hGx))
              | (go_at_call 35; exact Calls.quiet_of_same (Top_any _ _ _ _ hGx))
              | (go_at_call 40; exact Calls.quiet_of_same (Left_any _ _ _ _ hGx)))
            go_wp2_with fail
            go_roundw
            case rel => exact ⟨m + 1, _, _, t, t, rfl, rfl, rfl, by omega, by omega, hGx, hRx, hnx, hgx, hgy, below_drewN hbx nq⟩
            case measure => simp [intOf]; omega
      · have hex : (m < len1 ∧ ¬ m < 80) ∨ ¬ m < len1 := by omega
        clear hmm hrow
        rcases hex with ⟨d1, d2⟩ | d1
        all_goals
          go_wp2_with fail
          refine (worksIds_any _).mono ?_
          rintro e w4 ⟨rfl, hB4⟩
          go_wp2_with fail
          go_ret
          exact ⟨rfl, below_more hbx hB4⟩

set_option maxRecDepth 100000 in
theorem lifted (os : Os) (started : os.Started) (H : Type) (enc : TypeId × Value → H) :
    ReturnsInHanded {} Try.checked os 9 .any (Rows.idsPlaysSpec.pre6 enc Try.prog Try.f9 Rows.idsPlaysRow.domain false) (Rows.idsPlaysSpec.post enc Try.prog Try.f9 false true false false) := by
  refine returnsInHanded_of_change (C := Try.checked) own started (by kernel_rfl) Try.func9
    (ChangeSpec.witness6 (enc := enc) (C := Try.checked) false ⟨#[], #[.int .u64 0, .slice none 0 0], []⟩ 8 (by kernel_rfl) (by kernel_rfl) (by kernel_rfl) (by kernel_rfl)) ?_
  intro W base args ds gs before hval0 hW hcnd _
  have hval : ∀ (j : Nat) t v, Try.f9.params[j]? = some t → args[j]? = some v → Value.okWide Try.prog W .any base t v := hval0
  have hW' := hW
  obtain ⟨p, q, hA0, hV, rfl, hfz, hnd⟩ := hW
  have hA : DataW.TrodAll enc Try.prog W 0 (fun _ => true) true Try.f9.params.toList args.toList ds p := hA0
  rw [Try.params9] at hA hval
  obtain ⟨v0, vs0, d0, ds0, p0, q0, hargs, rfl, rfl, h0, r0⟩ := trodAll_cons hA
  obtain ⟨v1, vs1, d1, ds1, p1, q1, rfl, rfl, rfl, h1, r1⟩ := trodAll_cons r0
  obtain ⟨rfl, rfl, rfl⟩ := trodAll_nil r1
  obtain rfl : args = #[v0, v1] := by cases args; simp_all
  obtain ⟨rfl, rfl⟩ := trodVars_none hV
  have k0 := h0
  have lt0 : ∀ x ∈ p0, x.block < W.heap.size := by obtain ⟨m, hm⟩ := k0; exact DataW.trod_lt m _ _ _ hm
  have k1 := h1
  have lt1 : ∀ x ∈ p1, x.block < W.heap.size := by obtain ⟨m, hm⟩ := k1; exact DataW.trod_lt m _ _ _ hm
  obtain ⟨a0, rfl, rfl, rfl, w0⟩ := open_int Try.underlying23 (hval 0 23 v0 rfl rfl) h0
  obtain ⟨a1, len1, cap1, rfl⟩ := okWide_slice Try.underlying43 (hval 1 43 v1 rfl rfl)
  obtain ⟨U1, V1, w1⟩ : ∃ U V, IsPairs .i64 .u64 W a1 len1 cap1 U V := by
    obtain ⟨fuel, hf⟩ := h1
    exact pairs_of Try.underlying43 Try.underlying49 (by kernel_rfl) (by kernel_rfl) Try.underlying3 Try.underlying23 hf
  clear hA0 hval0
  refine (walk a0 a1 len1 cap1 U1 V1 W w0 w1).mono fun e W' ⟨he, bel⟩ => ?_
  subst he
  exact ⟨_, rfl, _, _, _, [], _, [], hW', trodAll_mk1 (shut_bool Try.underlying4 _), (trodAll_cons_mk (shut_int Try.underlying23 w0) (trodAll_cons_mk (Below.trod laidOut (by kernel_rfl) (of_decide_eq_true (by kernel_rfl)) k1 bel lt1) trodAll_mk0)), rfl, bel.frame _, fun h => by cases h⟩

theorem over : Rows.idsPlaysRow.holds Try.pinned (OpenSpec.ofChange Rows.idsPlaysSpec) :=
  OpenClaim.holds_of_wide 9 Try.f9 rfl rfl rfl rfl rfl rfl rfl ⟨rfl, rfl, rfl, rfl, rfl⟩ rfl rfl rfl rfl rfl (by kernel_rfl) Try.func9 (by kernel_rfl)
    (of_decide_eq_true (by kernel_rfl)) (by unfold Func.isWrapper; first | (rw [if_pos (by decide +kernel)]; kernel_rfl) | (rw [if_neg (by decide +kernel)]; exact ⟨rfl, rfl⟩))
    (fun os started H enc _ => lifted os started H enc)

theorem proved : Rows.IdsPlaysSaid := over
#print axioms proved
end Go.Proofs.Ytkibglmmncpdaaa.idsPlays
