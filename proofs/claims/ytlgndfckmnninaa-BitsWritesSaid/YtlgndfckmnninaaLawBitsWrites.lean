/- The Go function tidepole/tidepolelaw05.BitsWrites returns true for every input, and each argument reads afterwards as it read before. Conditions: none beyond the given row's own. -/
import Derived.Test.YtlgndfckmnninaaRows
import Derived.Test.YtlgndfckmnninaaBitsC
import Derived.Test.YtlgndfckmnninaaPicks
import Derived.Test.YtlgndfckmnninaaFields
import Derived.WalkKit
import Derived.ProofKit
import Derived.OpenShut
import Derived.ChangeOld
import Derived.Below
import Derived.Deep.QuietTactic
import Derived.BigQuiet
import Derived.Deep.RegionHeld3
namespace Go.Proofs.Ytlgndfckmnninaa.bitsWrites
open Go.ChangeShapes Go.WideShapes Go.ChangeAt Go.RowKit
set_option linter.unusedVariables false

theorem own : ownKnob Try.prog.godebug = none := by kernel_rfl
theorem laidOut : laidOutB Try.prog = true := by kernel_rfl

set_option maxRecDepth 20000 in
set_option maxHeartbeats 3200000 in
theorem walk (a0 : Option Addr) (len0 cap0 : Nat) (U0 V0 : Nat → Int) (w : World) (w0 : IsPairs .u64 .i64 w a0 len0 cap0 U0 V0) :
    Calls Try.prog 3 #[.slice a0 len0 cap0] w fun e w' => e = .returned (.bool true) ∧ Below w.heap.size w w' := by
  have hrow := w0
  have hll := w0.1
  have hlc := w0.2.1
  clear w0
  go_enter Try.func3, Try.ntmps3
  go_wp2_with fail
  refine (NewWriter_any w w.heap.size (Nat.le_refl _)).mono ?_
  rintro e w2 ⟨g, rfl, hg, hW, hB2⟩
  have hBa : Below w2.heap.size w2 (w2.alloc (.cells #[.slice none 0 0] 28)) := (Below.refl _ _).alloc (Nat.le_refl _) _
  have hb3 := below_more hB2 hBa
  have hX3 := hW.below hBa
  have hY3 := Rw.new w2 w.heap.size hB2.size
  have hgy := hB2.size
  go_wp2_with fail
  go_loopw [5] (fun iv wr => ∃ m : Nat, ∃ Bx By L, iv = .int .i64 m ∧ m ≤ len0 ∧ m ≤ 100 ∧ L.length ≤ 64 * m ∧ Wr wr w.heap.size g Bx L ∧ Rw wr w.heap.size w2.heap.size By L ∧ Below w.heap.size w wr) (fun iv _ => 100 - (intOf iv).toNat)
  case atStart => exact ⟨0, none, none, [], rfl, by omega, by omega, by simp, hX3, hY3, hb3⟩
  case round =>
    obtain ⟨m, Bx, By, L, rfl, hm, hm2, hL, hX, hY, hb⟩ := hrel
    clear hX3 hY3 hb3 hBa hW hB2
    generalize w2.heap.size = gy at *
    by_cases hmm : m < len0 ∧ m < 100
    · obtain ⟨h1, h2⟩ := hmm
      · skip
        · skip
          obtain ⟨b, off, rfl, hc⟩ := hrow.2.2 (by omega)
          obtain ⟨cU, cV, wU, _⟩ := hc m h1
          obtain ⟨X, hXe, hX64⟩ := nat_of_u64 wU
          rw [hXe] at cU
          generalize V0 m = v at *
          have dU := cell_keep hb cU
          have dV := cell_keep hb cV
          have hpx := fun W h hs => put_any W w.heap.size g Bx L X v h hX64 (by omega) hs
          have hpy := fun W h hs => refPut_any W w.heap.size gy By L X v h hX64 (by omega) hs
          have hlen := putBits_len L v X
          generalize putCode L.length v = C at *
          obtain ⟨L', hL'⟩ : ∃ L', putBits L v X = L' := ⟨_, rfl⟩
          rw [hL'] at hpx hpy hlen
          have PX := Lib.hid hpx
          have PY := Lib.hid hpy
          have ap1 := hY.apart hX
          have hXr := hX.row
          have hYr := hY.row
          clear hpx hpy hL' hc hrow wU hXe
          go_wp2_with fail
          have hS0 : wr.drew.cell? ⟨b, off + m * 2, none⟩ = some (.int .u64 (X : Int)) ∧ wr.drew.cell? ⟨b, off + m * 2 + 1, none⟩ = some (.int .i64 v) := ⟨dU, dV⟩
          have hXd : Wr wr.drew w.heap.size g Bx L := hX
          have hYd : Rw wr.drew w.heap.size gy By L := hY
          have hbd : Below w.heap.size w wr.drew := below_drewN hb 1
          refine wp_region_noPanic ?_
          refine wp_region_held_drew (S := fun W : World => W.cell? ⟨b, off + m * 2, none⟩ = some (.int .u64 (X : Int)) ∧ W.cell? ⟨b, off + m * 2 + 1, none⟩ = some (.int .i64 v)) (by kernel_rfl) (hS0) (fun hSt => ?_)
          refine wpAnyH_picks [0, 1, 2, 3, 4, 5, 6, 7, 8, 9, 10, 12, 13, 14, 15, 16, 17, 18, 19, 20, 21, 22] 13 (by rfl) (by kernel_rfl) (by kernel_rfl) (by kernel_rfl) (fun _ _ _ _ _ h => h) (by assumption) ?_
          simp only [picks, List.drop_succ_cons, List.drop_zero, List.take_succ_cons, List.take_zero, List.cons_append, List.nil_append]
          repeat (first
            | (refine wpY_skip (by rfl) ?_; simp only [Act.put, List.setIfInBounds_toArray, List.set_cons_zero, List.set_cons_succ])
            | (refine wpY_want (v := ?_) (by rfl) (fun W hW => ?_) ?_; rotate_left; (obtain ⟨hW1, hW2⟩ := hW; go_simp; try with_reducible rfl); simp only [Act.put, List.setIfInBounds_toArray, List.set_cons_zero, List.set_cons_succ]))
          refine wpY_nil ?_
          refine wpAnyH_one 11 12 (by rfl) (by rfl) (by kernel_rfl) (fun K hK => ?_)
          go_simp
          refine (PX.out _ hXd hbd.size).mono ?_
          rintro e w4 ⟨rfl, B4, hX4, hR4, hT4⟩
          have hb4 := hbd.trans (hT4.below hbd.size hg (fun k hk => (hXr k hk).1))
          have hY4 := hYd.touch hT4 ap1.1 ap1.2.1 ap1.2.2.1 ap1.2.2.2
          refine hK.out _ _ (⟨cell_keep hb4 cU, cell_keep hb4 cV⟩) (fun hSt => ?_)
          clear hK K
          try simp only [Act.put, List.setIfInBounds_toArray, List.set_cons_zero, List.set_cons_succ]
          have ap2 := hX4.apart hY4
          refine wpAnyH_one 23 11 (by rfl) (by rfl) (by kernel_rfl) (fun K hK => ?_)
          go_simp
          refine (PY.out _ hY4 hb4.size).mono ?_
          rintro e w5 ⟨rfl, B5, hY5, hR5, hT5⟩
          have hb5 := hb4.trans (hT5.below hb4.size hgy (fun k hk => (hYr k hk).1))
          have hX5 := hX4.touch hT5 ap2.1 ap2.2.1 ap2.2.2.1 ap2.2.2.2
          refine hK.out _ _ (⟨cell_keep hb5 cU, cell_keep hb5 cV⟩) (fun hSt => ?_)
          clear hK K
          try simp only [Act.put, List.setIfInBounds_toArray, List.set_cons_zero, List.set_cons_succ]
          refine wpAnyH_picks [24, 25, 26, 28, 29, 30] 5 (by rfl) (by kernel_rfl) (by kernel_rfl) (by kernel_rfl) (fun _ _ _ _ _ h => h) (by assumption) ?_
          simp only [picks, List.drop_succ_cons, List.drop_zero, List.take_succ_cons, List.take_zero, List.cons_append, List.nil_append]
          repeat (first
            | (refine wpY_skip (by rfl) ?_; simp only [Act.put, List.setIfInBounds_toArray, List.set_cons_zero, List.set_cons_succ])
            | (refine wpY_want (v := ?_) (by rfl) (fun W hW => ?_) ?_; rotate_left; (obtain ⟨hW1, hW2⟩ := hW; go_simp; try with_reducible rfl); simp only [Act.put, List.setIfInBounds_toArray, List.set_cons_zero, List.set_cons_succ]))
          refine wpY_nil ?_
          obtain ⟨_, vy, hgy5, hoy5, _⟩ := id hY5
          obtain ⟨Ay, cy, rfl, _, _⟩ := own_slice hoy5
          have cy0 := hgy5.cell 0
          simp at cy0
          refine wpAnyH_two 27 31 4 (by rfl) (by rfl) (by rfl) (by kernel_rfl) (fun K hK => ?_) (fun K hK => ?_)
          · skip
            go_simp
            refine (Len_any _ w.heap.size g B4 _ hX5).mono ?_
            rintro e w6 ⟨rfl, rfl⟩
            refine hK.out _ _ (⟨cell_keep hb5 cU, cell_keep hb5 cV⟩) (fun hSt => ?_)
            clear hK K
            try simp only [Act.put, List.setIfInBounds_toArray, List.set_cons_zero, List.set_cons_succ]
            refine wpAnyH_one 31 3 (by rfl) (by rfl) (by kernel_rfl) (fun K hK => ?_)
            go_simp
            refine hK.out _ _ (⟨cell_keep hb5 cU, cell_keep hb5 cV⟩) (fun hSt => ?_)
            clear hK K
            try simp only [Act.put, List.setIfInBounds_toArray, List.set_cons_zero, List.set_cons_succ]
            refine wpAnyH_picks [32, 33, 34] 0 (by rfl) (by kernel_rfl) (by kernel_rfl) (by kernel_rfl) (fun _ _ _ _ _ h => h) (by assumption) ?_
            simp only [picks, List.drop_succ_cons, List.drop_zero, List.take_succ_cons, List.take_zero, List.cons_append, List.nil_append]
            repeat (first
              | (refine wpY_skip (by rfl) ?_; simp only [Act.put, List.setIfInBounds_toArray, List.set_cons_zero, List.set_cons_succ])
              | (refine wpY_want (v := ?_) (by rfl) (fun W hW => ?_) ?_; rotate_left; (obtain ⟨hW1, hW2⟩ := hW; go_simp; try with_reducible rfl); simp only [Act.put, List.setIfInBounds_toArray, List.set_cons_zero, List.set_cons_succ]))
            refine wpY_nil ?_
            refine wpAnyH_done (by kernel_rfl) ?_ _
            refine NoPanic.normal ?_
            go_wp2_with fail
            go_roundw
            case rel => exact ⟨m + 1, B4, B5, _, rfl, h1, by omega, by omega, hX5, hY5, hb5⟩
            case measure => simp [intOf]; omega
          · skip
            go_simp
            refine hK.out _ _ (⟨cell_keep hb5 cU, cell_keep hb5 cV⟩) (fun hSt => ?_)
            clear hK K
            try simp only [Act.put, List.setIfInBounds_toArray, List.set_cons_zero, List.set_cons_succ]
            refine wpAnyH_picks [32] 3 (by rfl) (by kernel_rfl) (by kernel_rfl) (by kernel_rfl) (fun _ _ _ _ _ h => h) (by assumption) ?_
            simp only [picks, List.drop_succ_cons, List.drop_zero, List.take_succ_cons, List.take_zero, List.cons_append, List.nil_append]
            repeat (first
              | (refine wpY_skip (by rfl) ?_; simp only [Act.put, List.setIfInBounds_toArray, List.set_cons_zero, List.set_cons_succ])
              | (refine wpY_want (v := ?_) (by rfl) (fun W hW => ?_) ?_; rotate_left; (obtain ⟨hW1, hW2⟩ := hW; go_simp; try with_reducible rfl); simp only [Act.put, List.setIfInBounds_toArray, List.set_cons_zero, List.set_cons_succ]))
            refine wpY_nil ?_
            refine wpAnyH_one 27 2 (by rfl) (by rfl) (by kernel_rfl) (fun K hK => ?_)
            go_simp
            refine (Len_any _ w.heap.size g B4 _ hX5).mono ?_
            rintro e w6 ⟨rfl, rfl⟩
            refine hK.out _ _ (⟨cell_keep hb5 cU, cell_keep hb5 cV⟩) (fun hSt => ?_)
            clear hK K
            try simp only [Act.put, List.setIfInBounds_toArray, List.set_cons_zero, List.set_cons_succ]
            refine wpAnyH_picks [33, 34] 0 (by rfl) (by kernel_rfl) (by kernel_rfl) (by kernel_rfl) (fun _ _ _ _ _ h => h) (by assumption) ?_
            simp only [picks, List.drop_succ_cons, List.drop_zero, List.take_succ_cons, List.take_zero, List.cons_append, List.nil_append]
            repeat (first
              | (refine wpY_skip (by rfl) ?_; simp only [Act.put, List.setIfInBounds_toArray, List.set_cons_zero, List.set_cons_succ])
              | (refine wpY_want (v := ?_) (by rfl) (fun W hW => ?_) ?_; rotate_left; (obtain ⟨hW1, hW2⟩ := hW; go_simp; try with_reducible rfl); simp only [Act.put, List.setIfInBounds_toArray, List.set_cons_zero, List.set_cons_succ]))
            refine wpY_nil ?_
            refine wpAnyH_done (by kernel_rfl) ?_ _
            refine NoPanic.normal ?_
            go_wp2_with fail
            go_roundw
            case rel => exact ⟨m + 1, B4, B5, _, rfl, h1, by omega, by omega, hX5, hY5, hb5⟩
            case measure => simp [intOf]; omega
    · have hex : (m < len0 ∧ ¬ m < 100) ∨ ¬ m < len0 := by omega
      clear hmm hrow
      have ap1 := hY.apart hX
      rcases hex with ⟨d1, d2⟩ | d1
      all_goals
        go_wp2_with fail
        refine (WBytes_any wr w.heap.size g Bx L hX (by omega)).mono ?_
        rintro e w4 ⟨v4, rfl, hO4, hB4⟩
        obtain ⟨A4, c4, rfl, hR4⟩ := RB.of_own hO4
        have hb4 := hb.trans (hB4.mono hb.size)
        have hY4 := hY.below hB4
        go_wp2_with fail
        refine (refBytes_any w4 w.heap.size gy By L hY4 (by omega)).mono ?_
        rintro e w5 ⟨v5, rfl, hO5, hB5⟩
        obtain ⟨A5, c5, rfl, hR5⟩ := RB.of_own hO5
        have hb5 := hb4.trans (hB5.mono hb4.size)
        have hR4' := hR4.below hB5
        go_wp2_with fail
        refine (same_any A4 A5 _ c4 _ c5 _ _ hR4' hR5).mono ?_
        rintro e w6 ⟨rfl, rfl⟩
        go_wp2_with fail
        refine (works_any _).mono ?_
        rintro e w7 ⟨rfl, hB7⟩
        go_wp2_with fail
        go_ret
        exact ⟨rfl, below_more hb5 hB7⟩

set_option maxRecDepth 100000 in
theorem lifted (os : Os) (started : os.Started) (H : Type) (enc : TypeId × Value → H) :
    ReturnsInHanded {} Try.checked os 3 .any (Rows.bitsWritesSpec.pre6 enc Try.prog Try.f3 Rows.bitsWritesRow.domain false) (Rows.bitsWritesSpec.post enc Try.prog Try.f3 false true false false) := by
  refine returnsInHanded_of_change (C := Try.checked) own started (by kernel_rfl) Try.func3
    (ChangeSpec.witness6 (enc := enc) (C := Try.checked) false ⟨#[], #[.slice none 0 0], []⟩ 8 (by kernel_rfl) (by kernel_rfl) (by kernel_rfl) (by kernel_rfl)) ?_
  intro W base args ds gs before hval0 hW hcnd _
  have hval : ∀ (j : Nat) t v, Try.f3.params[j]? = some t → args[j]? = some v → Value.okWide Try.prog W .any base t v := hval0
  have hW' := hW
  obtain ⟨p, q, hA0, hV, rfl, hfz, hnd⟩ := hW
  have hA : DataW.TrodAll enc Try.prog W 0 (fun _ => true) true Try.f3.params.toList args.toList ds p := hA0
  rw [Try.params3] at hA hval
  obtain ⟨v0, vs0, d0, ds0, p0, q0, hargs, rfl, rfl, h0, r0⟩ := trodAll_cons hA
  obtain ⟨rfl, rfl, rfl⟩ := trodAll_nil r0
  obtain rfl : args = #[v0] := by cases args; simp_all
  obtain ⟨rfl, rfl⟩ := trodVars_none hV
  have k0 := h0
  have lt0 : ∀ x ∈ p0, x.block < W.heap.size := by obtain ⟨m, hm⟩ := k0; exact DataW.trod_lt m _ _ _ hm
  obtain ⟨a0, len0, cap0, rfl⟩ := okWide_slice Try.underlying22 (hval 0 22 v0 rfl rfl)
  obtain ⟨U0, V0, w0⟩ : ∃ U V, IsPairs .u64 .i64 W a0 len0 cap0 U V := by
    obtain ⟨fuel, hf⟩ := h0
    exact pairs_of Try.underlying22 Try.underlying33 (by kernel_rfl) (by kernel_rfl) Try.underlying31 Try.underlying3 hf
  clear hA0 hval0
  refine (walk a0 len0 cap0 U0 V0 W w0).mono fun e W' ⟨he, bel⟩ => ?_
  subst he
  exact ⟨_, rfl, _, _, _, [], _, [], hW', trodAll_mk1 (shut_bool Try.underlying4 _), (trodAll_cons_mk (Below.trod laidOut (by kernel_rfl) (of_decide_eq_true (by kernel_rfl)) k0 bel lt0) trodAll_mk0), rfl, bel.frame _, fun h => by cases h⟩

theorem over : Rows.bitsWritesRow.holds Try.pinned (OpenSpec.ofChange Rows.bitsWritesSpec) :=
  OpenClaim.holds_of_wide 3 Try.f3 rfl rfl rfl rfl rfl rfl rfl ⟨rfl, rfl, rfl, rfl, rfl⟩ rfl rfl rfl rfl rfl (by kernel_rfl) Try.func3 (by kernel_rfl)
    (of_decide_eq_true (by kernel_rfl)) (by unfold Func.isWrapper; first | (rw [if_pos (by decide +kernel)]; kernel_rfl) | (rw [if_neg (by decide +kernel)]; exact ⟨rfl, rfl⟩))
    (fun os started H enc _ => lifted os started H enc)

theorem proved : Rows.BitsWritesSaid := over
#print axioms proved
end Go.Proofs.Ytlgndfckmnninaa.bitsWrites
