/- The Go function tidepole/tidepolelaw18.IdsVoid returns true for every input, and each argument reads afterwards as it read before. Conditions: none beyond the given row's own. -/
import Derived.Test.YtkibglmmncpdaaaRows
import Derived.Test.YtkibglmmncpdaaaIdsW
import Derived.Test.YtkibglmmncpdaaaIdsV
import Derived.Test.YtkibglmmncpdaaaFields
import Derived.WalkKit
import Derived.ProofKit
import Derived.OpenShut
import Derived.ChangeOld
import Derived.Below
import Derived.Deep.QuietTactic
import Derived.BigQuiet
import Derived.Deep.RegionHeld3
namespace Go.Proofs.Ytkibglmmncpdaaa.idsVoid
open Go.ChangeShapes Go.WideShapes Go.ChangeAt Go.RowKit
set_option linter.unusedVariables false

theorem own : ownKnob Try.prog.godebug = none := by kernel_rfl
theorem laidOut : laidOutB Try.prog = true := by kernel_rfl

set_option maxHeartbeats 3200000 in
theorem walk (a0 : Int) (w : World) (w0 : (Lit.int .u64 a0).wf = true) :
    Calls Try.prog 10 #[.int .u64 a0] w fun e w' => e = .returned (.bool true) ∧ Below w.heap.size w w' := by
  go_enter Try.func10, Try.ntmps10
  go_wp2_with fail
  refine (worksIds_any _).mono ?_
  rintro e w1 ⟨rfl, hB1⟩
  go_wp2_with fail
  have hBa : Below w1.heap.size w1 (w1.alloc (Obj.cells #[Value.int IntKind.u64 0, Value.int IntKind.u64 0, Value.bool false] 65)) := (Below.refl _ _).alloc (Nat.le_refl _) _
  have hb := below_more hB1 hBa
  have n1 : Vd (w1.alloc (Obj.cells #[Value.int IntKind.u64 0, Value.int IntKind.u64 0, Value.bool false] 65)) none := .inl rfl
  have n2 : Vd (w1.alloc (Obj.cells #[Value.int IntKind.u64 0, Value.int IntKind.u64 0, Value.bool false] 65)) (some ⟨w1.heap.size, 0, none⟩) := .inr ⟨_, rfl, Blk.new w1 65 _⟩
  generalize w1.alloc (Obj.cells #[Value.int IntKind.u64 0, Value.int IntKind.u64 0, Value.bool false] 65) = W at *
  generalize w1.heap.size = g at *
  clear hBa hB1
  go_wp2_with (first
    | (go_at_call 28; refine (TakeV_any _ _ (by first | exact n1 | exact n2)).mono ?_; rintro e w' ⟨rfl, rfl⟩)
    | (go_at_call 29; refine (RaiseV_any _ _ a0 (by first | exact n1 | exact n2)).mono ?_; rintro e w' ⟨rfl, rfl⟩)
    | (go_at_call 30; refine (PastV_any _ _ a0 (by first | exact n1 | exact n2)).mono ?_; rintro e w' ⟨rfl, rfl⟩)
    | (go_at_call 34; refine (LastV_any _ _ (by first | exact n1 | exact n2)).mono ?_; rintro e w' ⟨rfl, rfl⟩)
    | (go_at_call 35; refine (TopV_any _ _ (by first | exact n1 | exact n2)).mono ?_; rintro e w' ⟨rfl, rfl⟩)
    | (go_at_call 40; refine (LeftV_any _ _ (by first | exact n1 | exact n2)).mono ?_; rintro e w' ⟨rfl, rfl⟩)
    | (go_at_call 32; refine (BytesV_any _ _ (by first | exact n1 | exact n2)).mono ?_; rintro e w' ⟨rfl, rfl⟩))
  go_ret
  exact ⟨rfl, hb⟩

set_option maxRecDepth 100000 in
theorem lifted (os : Os) (started : os.Started) (H : Type) (enc : TypeId × Value → H) :
    ReturnsInHanded {} Try.checked os 10 .any (Rows.idsVoidSpec.pre6 enc Try.prog Try.f10 Rows.idsVoidRow.domain false) (Rows.idsVoidSpec.post enc Try.prog Try.f10 false true false false) := by
  refine returnsInHanded_of_change (C := Try.checked) own started (by kernel_rfl) Try.func10
    (ChangeSpec.witness6 (enc := enc) (C := Try.checked) false ⟨#[], #[.int .u64 0], []⟩ 8 (by kernel_rfl) (by kernel_rfl) (by kernel_rfl) (by kernel_rfl)) ?_
  intro W base args ds gs before hval0 hW hcnd _
  have hval : ∀ (j : Nat) t v, Try.f10.params[j]? = some t → args[j]? = some v → Value.okWide Try.prog W .any base t v := hval0
  have hW' := hW
  obtain ⟨p, q, hA0, hV, rfl, hfz, hnd⟩ := hW
  have hA : DataW.TrodAll enc Try.prog W 0 (fun _ => true) true Try.f10.params.toList args.toList ds p := hA0
  rw [Try.params10] at hA hval
  obtain ⟨v0, vs0, d0, ds0, p0, q0, hargs, rfl, rfl, h0, r0⟩ := trodAll_cons hA
  obtain ⟨rfl, rfl, rfl⟩ := trodAll_nil r0
  obtain rfl : args = #[v0] := by cases args; simp_all
  obtain ⟨rfl, rfl⟩ := trodVars_none hV
  have k0 := h0
  have lt0 : ∀ x ∈ p0, x.block < W.heap.size := by obtain ⟨m, hm⟩ := k0; exact DataW.trod_lt m _ _ _ hm
  obtain ⟨a0, rfl, rfl, rfl, w0⟩ := open_int Try.underlying23 (hval 0 23 v0 rfl rfl) h0
  clear hA0 hval0
  refine (walk a0 W w0).mono fun e W' ⟨he, bel⟩ => ?_
  subst he
  exact ⟨_, rfl, _, _, _, [], _, [], hW', trodAll_mk1 (shut_bool Try.underlying4 _), (trodAll_cons_mk (shut_int Try.underlying23 w0) trodAll_mk0), rfl, bel.frame _, fun h => by cases h⟩

theorem over : Rows.idsVoidRow.holds Try.pinned (OpenSpec.ofChange Rows.idsVoidSpec) :=
  OpenClaim.holds_of_wide 10 Try.f10 rfl rfl rfl rfl rfl rfl rfl ⟨rfl, rfl, rfl, rfl, rfl⟩ rfl rfl rfl rfl rfl (by kernel_rfl) Try.func10 (by kernel_rfl)
    (of_decide_eq_true (by kernel_rfl)) (by unfold Func.isWrapper; first | (rw [if_pos (by decide +kernel)]; kernel_rfl) | (rw [if_neg (by decide +kernel)]; exact ⟨rfl, rfl⟩))
    (fun os started H enc _ => lifted os started H enc)

theorem proved : Rows.IdsVoidSaid := over
#print axioms proved
end Go.Proofs.Ytkibglmmncpdaaa.idsVoid
