/- The Go function tidepole/tidepolelaw18.IdsOnce returns true for every input, and each argument reads afterwards as it read before. Conditions: none beyond the given row's own. -/
import Derived.Test.YtkibglmmncpdaaaRows
import Derived.Test.YtkibglmmncpdaaaIdsW
import Derived.Test.YtkibglmmncpdaaaFields
import Derived.WalkKit
import Derived.ProofKit
import Derived.OpenShut
import Derived.ChangeOld
import Derived.Below
import Derived.Deep.QuietTactic
import Derived.BigQuiet
import Derived.Deep.RegionHeld3
namespace Go.Proofs.Ytkibglmmncpdaaa.idsOnce
open Go.ChangeShapes Go.WideShapes Go.ChangeAt Go.RowKit
set_option linter.unusedVariables false

theorem own : ownKnob Try.prog.godebug = none := by kernel_rfl
theorem laidOut : laidOutB Try.prog = true := by kernel_rfl

set_option maxRecDepth 20000 in
set_option maxHeartbeats 1600000 in
theorem walk (a0 : Int) (a1 : Option Addr) (len1 cap1 : Nat) (U1 V1 : Nat → Int) (w : World) (w0 : (Lit.int .u64 a0).wf = true) (w1 : IsPairs .i64 .u64 w a1 len1 cap1 U1 V1) :
    Calls Try.prog 7 #[.int .u64 a0, .slice a1 len1 cap1] w fun e w' => e = .returned (.bool true) ∧ Below w.heap.size w w' := by
  have hrow := w1
  obtain ⟨T, rfl, hT⟩ := nat_of_u64 w0
  clear w0 w1
  rcases Nat.lt_or_ge 9223372036854775807 T with h | h
  · go_enter Try.func7, Try.ntmps7
    go_wp2_with fail
    refine (worksIds_any _).mono ?_
    rintro e w1 ⟨rfl, hB1⟩
    go_wp2_with fail
    refine (New_bad T _ h).mono ?_
    rintro e w2 ⟨rfl, rfl⟩
    go_wp2_with fail
    go_ret
    exact ⟨rfl, hB1⟩
  · go_enter Try.func7, Try.ntmps7
    go_wp2_with fail
    refine (worksIds_any _).mono ?_
    rintro e w1 ⟨rfl, hB1⟩
    go_wp2_with fail
    refine (New_good T _ h).mono ?_
    rintro e w2 ⟨rfl, hG, hB2⟩
    have hb2 := below_more hB1 hB2
    have hz1 := hB1.size
    go_wp2_with fail
    go_loopw [5, 6, 7, 8, 9] (fun xv _ lv ev iv wr => ∃ m gx l t s : Nat, ∃ d : Bool, iv = .int .i64 m ∧ xv = .pointer (some ⟨gx, 0, none⟩) ∧ lv = .int .u64 s ∧ ev = .bool d ∧ m ≤ len1 ∧ m ≤ 80 ∧ s ≤ l ∧ (d = true → l = 9223372036854775807) ∧ True ∧ Gv wr gx l t ∧ w.heap.size ≤ gx ∧ Below w.heap.size w wr) (fun _ _ _ _ iv _ => 80 - (intOf iv).toNat)
    case atStart => exact ⟨0, _, T, T, T, false, rfl, rfl, rfl, rfl, by omega, by omega, Nat.le_refl _, (fun h => by cases h), trivial, hG, hz1, hb2⟩
    case round =>
      obtain ⟨m, gx, l, t, s, d, rfl, rfl, rfl, rfl, hm1, hm2, hs, hd, _, hGx, hgx, hbx⟩ := hrel
      clear hG hb2
      by_cases hmm : m < len1 ∧ m < 80
      · obtain ⟨h1, h2⟩ := hmm
        obtain ⟨b, off, rfl, hc⟩ := hrow.2.2 (by omega)
        obtain ⟨cU, cV, _, wV⟩ := hc m h1
        obtain ⟨n, hn, hn64⟩ := nat_of_u64 wV
        rw [hn] at cV
        have dU := cell_keep hbx cU
        have dV := cell_keep hbx cV
        have am := fun W => among_any (U1 m) 7 W (by omega) (by omega)
        have hv := amo_lt (U1 m) (show 0 < 7 by omega)
        generalize amo (U1 m) 7 = v at *
        generalize U1 m = u at *
        have AM := Lib.hid am
        have hll := hrow.1
        have hlc := hrow.2.1
        have hlt := hGx.2.1
        have htg := hGx.2.2
        clear am hc hrow hn wV cU
        have hcase : (v = 0 ∨ v = 1 ∨ v = 2 ∨ v = 3) ∨ v = 4 ∨ v = 5 ∨ v = 6 := by omega
        rcases hcase with hv03 | rfl | rfl | rfl
        · have htk := fun W h => Take_any W gx l t h
          rcases take_cases l t hlt htg with ⟨g1, e1, e2, e3⟩ | ⟨g1, g2, e1, e2, e3⟩ | ⟨g1, e1, e2, e3⟩
          · rw [e1, e2, e3] at htk
            have TK := Lib.hid htk
            clear htk e1 e2 e3
            rcases hv03 with rfl | rfl | rfl | rfl
            all_goals
              rcases d with _ | _
              all_goals
                go_wp2_with (go_at_call 27; refine (AM.out _).mono ?_; rintro e w' ⟨rfl, rfl⟩)
                refine (TK.out _ hGx).mono ?_
                rintro e w4 ⟨rfl, hGx, hT4⟩
                have hbx := hbx.trans (hT4.below hbx.size hgx (fun _ h => by cases h))
                go_wp2_with fail
                go_roundw
                case rel => exact ⟨m + 1, _, l, t, s, true, rfl, rfl, rfl, rfl, by omega, by omega, hs, (fun _ => g1), trivial, hGx, hgx, hbx⟩
                case measure => simp [intOf]; omega
          · have hd0 : d = false := by cases d with
              | false => rfl
              | true => have := hd rfl; omega
            subst hd0
            rw [e1, e2, e3] at htk
            have TK := Lib.hid htk
            clear htk e1 e2 e3 hd
            rcases hv03 with rfl | rfl | rfl | rfl
            all_goals
              · skip
                go_wp2_with (go_at_call 27; refine (AM.out _).mono ?_; rintro e w' ⟨rfl, rfl⟩)
                refine (TK.out _ hGx).mono ?_
                rintro e w4 ⟨rfl, hGx, hT4⟩
                have hbx := hbx.trans (hT4.below hbx.size hgx (fun _ h => by cases h))
                go_wp2_with fail
                go_roundw
                case rel => exact ⟨m + 1, _, l, t, s, false, rfl, rfl, rfl, rfl, by omega, by omega, hs, (fun h => by cases h), trivial, hGx, hgx, hbx⟩
                case measure => simp [intOf]; omega
          · have hd0 : d = false := by cases d with
              | false => rfl
              | true => have := hd rfl; omega
            subst hd0
            rw [e1, e2, e3] at htk
            have TK := Lib.hid htk
            clear htk e1 e2 e3 hd
            have hq1 : ¬ ((l + 1 : Nat) : Int) ≤ (s : Int) := by omega
            have hq2 : ¬ (9223372036854775807 : Int) < ((l + 1 : Nat) : Int) := by omega
            obtain ⟨L2, hL2⟩ : ∃ L2, l + 1 = L2 := ⟨_, rfl⟩
            rw [hL2] at TK hq1 hq2
            have hq3 : ¬ L2 ≤ s := by omega
            have hq4 : L2 ≤ 9223372036854775807 := by omega
            clear hL2
            rcases hv03 with rfl | rfl | rfl | rfl
            all_goals
              · skip
                go_wp2_with (go_at_call 27; refine (AM.out _).mono ?_; rintro e w' ⟨rfl, rfl⟩)
                refine (TK.out _ hGx).mono ?_
                rintro e w4 ⟨rfl, hGx, hT4⟩
                have hbx := hbx.trans (hT4.below hbx.size hgx (fun _ h => by cases h))
                go_wp2_with fail
                go_roundw
                case rel => exact ⟨m + 1, _, L2, t, L2, false, rfl, rfl, rfl, rfl, by omega, by omega, Nat.le_refl _, (fun h => by cases h), trivial, hGx, hgx, hbx⟩
                case measure => simp [intOf]; omega
        · have htk := fun W h => Raise_any W gx l t n h
          generalize raiseV t n = a at *
          generalize raiseC t n = c at *
          generalize raiseT t n = T2 at *
          have TK := Lib.hid htk
          clear htk
          · skip
            go_wp2_with (go_at_call 27; refine (AM.out _).mono ?_; rintro e w' ⟨rfl, rfl⟩)
            refine (TK.out _ hGx).mono ?_
            rintro e w4 ⟨rfl, hGx, hT4⟩
            have hbx := hbx.trans (hT4.below hbx.size hgx (fun _ h => by cases h))
            go_wp2_with fail
            go_roundw
            case rel => exact ⟨m + 1, _, l, T2, s, d, rfl, rfl, rfl, rfl, by omega, by omega, hs, hd, trivial, hGx, hgx, hbx⟩
            case measure => simp [intOf]; omega
        · have htk := fun W h => Past_any W gx l t n h
          rcases past_cases l t n with ⟨g1, e1, e2, e3⟩ | ⟨g1, e1, e2, e3⟩ | ⟨g0, g1, e1, e2, e3⟩
          · rw [e1, e2, e3] at htk
            have TK := Lib.hid htk
            clear htk e1 e2 e3 g1
            go_wp2_with (go_at_call 27; refine (AM.out _).mono ?_; rintro e w' ⟨rfl, rfl⟩)
            refine (TK.out _ hGx).mono ?_
            rintro e w4 ⟨rfl, hGx, hT4⟩
            have hbx := hbx.trans (hT4.below hbx.size hgx (fun _ h => by cases h))
            go_wp2_with fail
            go_roundw
            case rel => exact ⟨m + 1, _, l, t, s, d, rfl, rfl, rfl, rfl, by omega, by omega, hs, hd, trivial, hGx, hgx, hbx⟩
            case measure => simp [intOf]; omega
          · rw [e1, e2, e3] at htk
            have TK := Lib.hid htk
            clear htk e1 e2 e3
            go_wp2_with (go_at_call 27; refine (AM.out _).mono ?_; rintro e w' ⟨rfl, rfl⟩)
            refine (TK.out _ hGx).mono ?_
            rintro e w4 ⟨rfl, hGx, hT4⟩
            have hbx := hbx.trans (hT4.below hbx.size hgx (fun _ h => by cases h))
            go_wp2_with fail
            go_roundw
            case rel => exact ⟨m + 1, _, l, t, s, d, rfl, rfl, rfl, rfl, by omega, by omega, hs, hd, trivial, hGx, hgx, hbx⟩
            case measure => simp [intOf]; omega
          · rw [e1, e2, e3] at htk
            obtain ⟨L2, hL2⟩ : ∃ L2, max l n = L2 := ⟨_, rfl⟩
            obtain ⟨T2, hT2⟩ : ∃ T2, max t n = T2 := ⟨_, rfl⟩
            obtain ⟨S2, hS2⟩ : ∃ S2 : Nat, max (s : Int) (n : Int) = S2 := ⟨max s n, by omega⟩
            rw [hL2, hT2] at htk
            have hs2 : S2 ≤ L2 := by omega
            have hd2 : d = true → L2 = 9223372036854775807 := fun h => by have := hd h; omega
            have TK := Lib.hid htk
            clear htk e1 e2 e3 hL2 hT2 hd
            go_wp2_with (go_at_call 27; refine (AM.out _).mono ?_; rintro e w' ⟨rfl, rfl⟩)
            refine (TK.out _ hGx).mono ?_
            rintro e w4 ⟨rfl, hGx, hT4⟩
            have hbx := hbx.trans (hT4.below hbx.size hgx (fun _ h => by cases h))
            have dV := cell_keep hbx cV
            go_wp2_with fail
            go_roundw
            case rel => exact ⟨m + 1, _, L2, T2, S2, d, rfl, rfl, rfl, rfl, by omega, by omega, hs2, hd2, trivial, hGx, hgx, hbx⟩
            case measure => simp [intOf]; omega
        · have hEnc := enc_le10 t (by have := hGx.2.2; omega)
          have hEb := enc_byte t
          have hgv := giver_enc t htg
          · skip
            go_wp2_with (go_at_call 27; refine (AM.out _).mono ?_; rintro e w' ⟨rfl, rfl⟩)
            refine (Bytes_any _ gx l t hGx).mono ?_
            rintro e w4 ⟨v4, rfl, hO4, hB4⟩
            obtain ⟨A4, c4, rfl, hR4⟩ := RB.of_own hO4
            have hb4 := hbx.trans (hB4.mono hbx.size)
            go_wp2_with fail
            refine (IdsRead_good A4 _ c4 _ _ t hR4 (by omega) hEb hgv).mono ?_
            rintro e w6 ⟨rfl, hG6, hB6⟩
            have hbx := hb4.trans (hB6.mono hb4.size)
            have hGx := hG6
            have hgx := hb4.size
            go_wp2_with fail
            go_roundw
            case rel => exact ⟨m + 1, _, t, t, s, d, rfl, rfl, rfl, rfl, by omega, by omega, by omega, (fun h => by have := hd h; omega), trivial, hGx, hgx, hbx⟩
            case measure => simp [intOf]; omega
      · have hex : (m < len1 ∧ ¬ m < 80) ∨ ¬ m < len1 := by omega
        clear hmm hrow
        rcases hex with ⟨d1, d2⟩ | d1
        all_goals
          go_wp2_with fail
          go_ret
          exact ⟨rfl, hbx⟩

set_option maxRecDepth 100000 in
theorem lifted (os : Os) (started : os.Started) (H : Type) (enc : TypeId × Value → H) :
    ReturnsInHanded {} Try.checked os 7 .any (Rows.idsOnceSpec.pre6 enc Try.prog Try.f7 Rows.idsOnceRow.domain false) (Rows.idsOnceSpec.post enc Try.prog Try.f7 false true false false) := by
  refine returnsInHanded_of_change (C := Try.checked) own started (by kernel_rfl) Try.func7
    (ChangeSpec.witness6 (enc := enc) (C := Try.checked) false ⟨#[], #[.int .u64 0, .slice none 0 0], []⟩ 8 (by kernel_rfl) (by kernel_rfl) (by kernel_rfl) (by kernel_rfl)) ?_
  intro W base args ds gs before hval0 hW hcnd _
  have hval : ∀ (j : Nat) t v, Try.f7.params[j]? = some t → args[j]? = some v → Value.okWide Try.prog W .any base t v := hval0
  have hW' := hW
  obtain ⟨p, q, hA0, hV, rfl, hfz, hnd⟩ := hW
  have hA : DataW.TrodAll enc Try.prog W 0 (fun _ => true) true Try.f7.params.toList args.toList ds p := hA0
  rw [Try.params7] at hA hval
  obtain ⟨v0, vs0, d0, ds0, p0, q0, hargs, rfl, rfl, h0, r0⟩ := trodAll_cons hA
  obtain ⟨v1, vs1, d1, ds1, p1, q1, rfl, rfl, rfl, h1, r1⟩ := trodAll_cons r0
  obtain ⟨rfl, rfl, rfl⟩ := trodAll_nil r1
  obtain rfl : args = #[v0, v1] := by cases args; simp_all
  obtain ⟨rfl, rfl⟩ := trodVars_none hV
  have k0 := h0
  have lt0 : ∀ x ∈ p0, x.block < W.heap.size := by obtain ⟨m, hm⟩ := k0; exact DataW.trod_lt m _ _ _ hm
  have k1 := h1
  have lt1 : ∀ x ∈ p1, x.block < W.heap.size := by obtain ⟨m, hm⟩ := k1; exact DataW.trod_lt m _ _ _ hm
  obtain ⟨a0, rfl, rfl, rfl, w0⟩ := open_int Try.underlying23 (hval 0 23 v0 rfl rfl) h0
  obtain ⟨a1, len1, cap1, rfl⟩ := okWide_slice Try.underlying43 (hval 1 43 v1 rfl rfl)
  obtain ⟨U1, V1, w1⟩ : ∃ U V, IsPairs .i64 .u64 W a1 len1 cap1 U V := by
    obtain ⟨fuel, hf⟩ := h1
    exact pairs_of Try.underlying43 Try.underlying49 (by kernel_rfl) (by kernel_rfl) Try.underlying3 Try.underlying23 hf
  clear hA0 hval0
  refine (walk a0 a1 len1 cap1 U1 V1 W w0 w1).mono fun e W' ⟨he, bel⟩ => ?_
  subst he
  exact ⟨_, rfl, _, _, _, [], _, [], hW', trodAll_mk1 (shut_bool Try.underlying4 _), (trodAll_cons_mk (shut_int Try.underlying23 w0) (trodAll_cons_mk (Below.trod laidOut (by kernel_rfl) (of_decide_eq_true (by kernel_rfl)) k1 bel lt1) trodAll_mk0)), rfl, bel.frame _, fun h => by cases h⟩

theorem over : Rows.idsOnceRow.holds Try.pinned (OpenSpec.ofChange Rows.idsOnceSpec) :=
  OpenClaim.holds_of_wide 7 Try.f7 rfl rfl rfl rfl rfl rfl rfl ⟨rfl, rfl, rfl, rfl, rfl⟩ rfl rfl rfl rfl rfl (by kernel_rfl) Try.func7 (by kernel_rfl)
    (of_decide_eq_true (by kernel_rfl)) (by unfold Func.isWrapper; first | (rw [if_pos (by decide +kernel)]; kernel_rfl) | (rw [if_neg (by decide +kernel)]; exact ⟨rfl, rfl⟩))
    (fun os started H enc _ => lifted os started H enc)

theorem proved : Rows.IdsOnceSaid := over
#print axioms proved
end Go.Proofs.Ytkibglmmncpdaaa.idsOnce
