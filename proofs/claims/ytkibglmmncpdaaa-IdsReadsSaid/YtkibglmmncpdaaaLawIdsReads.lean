/- The Go function tidepole/tidepolelaw18.IdsReads returns true for every input, and each argument reads afterwards as it read before. Conditions: none beyond the given row's own. -/
import Derived.Test.YtkibglmmncpdaaaRows
import Derived.Test.YtkibglmmncpdaaaIdsW
import Derived.Test.YtkibglmmncpdaaaPicks
import Derived.Test.YtkibglmmncpdaaaFields
import Derived.WalkKit
import Derived.ProofKit
import Derived.OpenShut
import Derived.ChangeOld
import Derived.Below
import Derived.Deep.QuietTactic
import Derived.BigQuiet
import Derived.Deep.RegionHeld3
namespace Go.Proofs.Ytkibglmmncpdaaa.idsReads
open Go.ChangeShapes Go.WideShapes Go.ChangeAt Go.RowKit
set_option linter.unusedVariables false

theorem own : ownKnob Try.prog.godebug = none := by kernel_rfl
theorem laidOut : laidOutB Try.prog = true := by kernel_rfl

set_option maxHeartbeats 3200000 in
theorem walk (a0 : Option Addr) (len0 cap0 : Nat) (z0 : List Int) (w : World) (w0 : IsRow .u8 w a0 len0 cap0 z0) :
    Calls Try.prog 8 #[.slice a0 len0 cap0] w fun e w' => e = .returned (.bool true) ∧ Below w.heap.size w w' := by
  have hR0 : RB w a0 len0 cap0 z0 := ⟨w0.1, w0.2.1, w0.2.2.1, w0.2.2.2.2⟩
  have hb0 : ∀ x ∈ z0, Byte x := fun x hx => byte_of_wf (w0.2.2.2.1 x hx)
  clear w0
  have hcap := hR0.2.2.1
  have hlc := hR0.2.1
  obtain ⟨M, hM, hM1, hM2⟩ : ∃ M : Nat, min (len0 : Int) 40 = (M : Int) ∧ M ≤ len0 ∧ M ≤ 40 := ⟨min len0 40, by omega, by omega, by omega⟩
  have hR := hR0.head hM1
  have hb : ∀ x ∈ z0.take M, Byte x := fun x hx => hb0 x (List.mem_of_mem_take hx)
  generalize z0.take M = bs at hR hb
  clear hb0 hR0
  go_enter Try.func8, Try.ntmps8
  go_wp2_with fail
  refine (bytes_any a0 _ cap0 bs w hR (by omega)).mono ?_
  rintro e w1 ⟨v, rfl, hO, hB1⟩
  obtain ⟨A1, c1, rfl, hR1⟩ := RB.of_own hO
  have hR2 := hR.below hB1
  go_wp2_with fail
  rcases giver_cases hb with ⟨k, hN⟩ | ⟨t, hG⟩
  · refine (IdsRead_bad A1 _ c1 bs _ k hR1 (by omega) hb hN).mono ?_
    rintro e w2 ⟨rfl, rfl⟩
    go_wp2_with fail
    refine (refIdsRead_bad a0 _ cap0 bs _ k hR2 (by omega) hb hN).mono ?_
    rintro e w2 ⟨rfl, rfl⟩
    go_wp2_with fail
    refine wp_region_noPanic ?_
    refine wp_region_held_drew (S := fun _ => True) (by kernel_rfl) (trivial) (fun hSt => ?_)
    refine wpAnyH_picks [0, 1, 2, 3, 4, 5, 6, 7, 8, 9, 10, 11, 12, 13, 14, 15, 16, 17, 18, 19, 20, 21, 22, 23, 24, 25, 26, 27, 28, 29, 30, 31, 32] 3 (by rfl) (by kernel_rfl) (by kernel_rfl) (by kernel_rfl) (fun _ _ _ _ _ h => h) (by assumption) ?_
    simp only [picks, List.drop_succ_cons, List.drop_zero, List.take_succ_cons, List.take_zero, List.cons_append, List.nil_append]
    repeat (first
      | (refine wpY_skip (by rfl) ?_; simp only [Act.put, List.setIfInBounds_toArray, List.set_cons_zero, List.set_cons_succ])
      | (refine wpY_want (v := ?_) (by rfl) (fun W hW => ?_) ?_; rotate_left; (go_simp; try with_reducible rfl); simp only [Act.put, List.setIfInBounds_toArray, List.set_cons_zero, List.set_cons_succ]))
    refine wpY_nil ?_
    refine wpAnyH_one 33 2 (by rfl) (by rfl) (by kernel_rfl) (fun K hK => ?_)
    go_simp
    refine (worksIds_any _).mono ?_
    rintro e w5 ⟨rfl, hB5⟩
    refine hK.out _ _ (trivial) (fun hSt => ?_)
    clear hK K
    try simp only [Act.put, List.setIfInBounds_toArray, List.set_cons_zero, List.set_cons_succ]
    refine wpAnyH_picks [34, 35] 0 (by rfl) (by kernel_rfl) (by kernel_rfl) (by kernel_rfl) (fun _ _ _ _ _ h => h) (by assumption) ?_
    simp only [picks, List.drop_succ_cons, List.drop_zero, List.take_succ_cons, List.take_zero, List.cons_append, List.nil_append]
    repeat (first
      | (refine wpY_skip (by rfl) ?_; simp only [Act.put, List.setIfInBounds_toArray, List.set_cons_zero, List.set_cons_succ])
      | (refine wpY_want (v := ?_) (by rfl) (fun W hW => ?_) ?_; rotate_left; (go_simp; try with_reducible rfl); simp only [Act.put, List.setIfInBounds_toArray, List.set_cons_zero, List.set_cons_succ]))
    refine wpY_nil ?_
    refine wpAnyH_done (by kernel_rfl) ?_ _
    refine NoPanic.normal ?_
    go_wp2
    go_ret
    exact ⟨rfl, below_more hB1 (below_of_drew hB5)⟩
  · refine (IdsRead_good A1 _ c1 bs _ t hR1 (by omega) hb hG).mono ?_
    rintro e w2 ⟨rfl, hg2, hB2⟩
    have hR3 := hR2.below hB2
    go_wp2_with fail
    refine (refIdsRead_good a0 _ cap0 bs _ t hR3 (by omega) hb hG).mono ?_
    rintro e w3 ⟨rfl, hg3, hB3⟩
    have hg4 := hg2.below hB3
    go_wp2_with fail
    have hb3 := below_more (below_more hB1 hB2) hB3
    have c0 := hg3.1.cell 0
    have c1 := hg3.1.cell 1
    simp at c0 c1
    generalize w1.heap.size = g1 at *
    generalize w2.heap.size = g2 at *
    have hS := sreads_drew c0 c1 hg4 hb3
    go_region_held3 (fun W : World => W.cell? ⟨g2, 0, none⟩ = some (.int .u64 (t : Int)) ∧ W.cell? ⟨g2, 1, none⟩ = some (.int .u64 (t : Int)) ∧ Gv W g1 t t ∧ Below w.heap.size w W) (first | assumption | (exact sreads_below ‹_ ∧ _ ∧ Gv _ _ _ _ ∧ _› hB5)) (first
      | (go_at_call 25; refine (worksIds_any _).mono ?_; rintro e w5 ⟨rfl, hB5⟩)
      | (go_at_call 34; refine (Last_any _ g1 t t (‹_ ∧ _ ∧ Gv _ _ _ _ ∧ _›).2.2.1).mono ?_; rintro e w5 ⟨rfl, rfl⟩)
      | (go_at_call 35; refine (Top_any _ g1 t t (‹_ ∧ _ ∧ Gv _ _ _ _ ∧ _›).2.2.1).mono ?_; rintro e w5 ⟨rfl, rfl⟩))
    go_wp2
    go_ret
    exact ⟨rfl, (‹_ ∧ _ ∧ Gv _ _ _ _ ∧ _›).2.2.2⟩

set_option maxRecDepth 100000 in
theorem lifted (os : Os) (started : os.Started) (H : Type) (enc : TypeId × Value → H) :
    ReturnsInHanded {} Try.checked os 8 .any (Rows.idsReadsSpec.pre6 enc Try.prog Try.f8 Rows.idsReadsRow.domain false) (Rows.idsReadsSpec.post enc Try.prog Try.f8 false true false false) := by
  refine returnsInHanded_of_change (C := Try.checked) own started (by kernel_rfl) Try.func8
    (ChangeSpec.witness6 (enc := enc) (C := Try.checked) false ⟨#[], #[.slice none 0 0], []⟩ 8 (by kernel_rfl) (by kernel_rfl) (by kernel_rfl) (by kernel_rfl)) ?_
  intro W base args ds gs before hval0 hW hcnd _
  have hval : ∀ (j : Nat) t v, Try.f8.params[j]? = some t → args[j]? = some v → Value.okWide Try.prog W .any base t v := hval0
  have hW' := hW
  obtain ⟨p, q, hA0, hV, rfl, hfz, hnd⟩ := hW
  have hA : DataW.TrodAll enc Try.prog W 0 (fun _ => true) true Try.f8.params.toList args.toList ds p := hA0
  rw [Try.params8] at hA hval
  obtain ⟨v0, vs0, d0, ds0, p0, q0, hargs, rfl, rfl, h0, r0⟩ := trodAll_cons hA
  obtain ⟨rfl, rfl, rfl⟩ := trodAll_nil r0
  obtain rfl : args = #[v0] := by cases args; simp_all
  obtain ⟨rfl, rfl⟩ := trodVars_none hV
  have k0 := h0
  have lt0 : ∀ x ∈ p0, x.block < W.heap.size := by obtain ⟨m, hm⟩ := k0; exact DataW.trod_lt m _ _ _ hm
  obtain ⟨a0, len0, cap0, rfl⟩ := okWide_slice Try.underlying22 (hval 0 22 v0 rfl rfl)
  obtain ⟨z0, w0⟩ : ∃ zs, IsRow .u8 W a0 len0 cap0 zs := by
    obtain ⟨fuel, hf⟩ := h0
    exact row_of Try.underlying22 Try.underlying5 (by kernel_rfl) hf
  clear hA0 hval0
  refine (walk a0 len0 cap0 z0 W w0).mono fun e W' ⟨he, bel⟩ => ?_
  subst he
  exact ⟨_, rfl, _, _, _, [], _, [], hW', trodAll_mk1 (shut_bool Try.underlying4 _), (trodAll_cons_mk (Below.trod laidOut (by kernel_rfl) (of_decide_eq_true (by kernel_rfl)) k0 bel lt0) trodAll_mk0), rfl, bel.frame _, fun h => by cases h⟩

theorem over : Rows.idsReadsRow.holds Try.pinned (OpenSpec.ofChange Rows.idsReadsSpec) :=
  OpenClaim.holds_of_wide 8 Try.f8 rfl rfl rfl rfl rfl rfl rfl ⟨rfl, rfl, rfl, rfl, rfl⟩ rfl rfl rfl rfl rfl (by kernel_rfl) Try.func8 (by kernel_rfl)
    (of_decide_eq_true (by kernel_rfl)) (by unfold Func.isWrapper; first | (rw [if_pos (by decide +kernel)]; kernel_rfl) | (rw [if_neg (by decide +kernel)]; exact ⟨rfl, rfl⟩))
    (fun os started H enc _ => lifted os started H enc)

theorem proved : Rows.IdsReadsSaid := over
#print axioms proved
end Go.Proofs.Ytkibglmmncpdaaa.idsReads
