/- The Go function tidepole/tidepolelaw01.VintOnce returns true for every input, and each argument reads afterwards as it read before. Conditions: none beyond the given row's own. (The frame was written by the kit's proof-skeleton.mjs.) -/
import Derived.Test.YtkibglmmncpdaaaRows
import Derived.Test.YtkibglmmncpdaaaVintP
import Derived.Deep.QuietTactic
import Derived.BigQuiet
import Derived.Deep.RegionHeld3
import Derived.WalkKit
import Derived.ProofKit
import Derived.OpenShut
import Derived.ShutString
import Derived.ChangeOld
import Derived.Below
namespace Go.Proofs.Ytkibglmmncpdaaa.vintOnce
open Go.ChangeShapes Go.WideShapes Go.ChangeAt Go.RowKit
open Go.ChangeMaps (open_string shut_string)
set_option linter.unusedVariables false

theorem own : ownKnob Try.prog.godebug = none := by kernel_rfl
theorem laidOut : laidOutB Try.prog = true := by kernel_rfl

/-- WHAT THE WALK IS TOLD OF A SLICE OF INTEGERS THAT CAME IN: it is nil; or it leads to a row of 'cap' cells, the numbers 'zs' (the first 'len' are its elements, the rest its spare room), each fitting its kind. -/
def IsRow (k : IntKind) (w : World) (a : Option Addr) (len cap : Nat) (zs : List Int) : Prop :=
  (a = none ∧ len = 0 ∧ cap = 0 ∧ zs = []) ∨
  ∃ x, a = some x ∧ len ≤ cap ∧ cap ≤ maxLen ∧ zs.length = cap ∧ (∀ i, i < zs.length → w.cell? (x.add i) = some (.int k (zs.getD i 0))) ∧ ∀ n ∈ zs, (Lit.int k n).wf = true

/-! ### STEP 1: THE WALK: the Go text returns true, AND WRITES NOTHING THAT WAS THERE: 'Below w.heap.size w w'' (Derived/Below.lean: '.refl', '.alloc', '.drew', '.setCell' at a new block, '.trans'). Open each 'IsRow' by 'rcases' AHEAD of 'go_enter'; part every test ahead of the walk. -/
set_option maxHeartbeats 1600000 in
theorem walk (a0 : Option Addr) (len0 cap0 : Nat) (z0 : List Int) (w : World) (w0 : IsRow .u8 w a0 len0 cap0 z0) :
    Calls Try.prog 5 #[.slice a0 len0 cap0] w fun e w' => e = .returned (.bool true) ∧ Below w.heap.size w w' := by
  obtain ⟨hR0, hb0⟩ := rb_of w0
  generalize z0.take len0 = xs at hR0 hb0
  have hR := hR0.head (k := min len0 200) (by omega)
  have hm : min len0 200 ≤ 200 := by omega
  have hb : ∀ x ∈ xs.take (min len0 200), Byte x := fun x hx => hb0 x (List.mem_of_mem_take hx)
  generalize xs.take (min len0 200) = ys at hR hb
  generalize hM : min len0 200 = M at hR hm
  have HM := Lib.hid hM
  clear hM w0 hb0
  have hlen : ys.length = M := hR.1
  have hMc : M ≤ cap0 := hR.2.1
  have hcm : cap0 ≤ 9223372036854775807 := hR.2.2.1
  have Hlen := Lib.hid hlen
  clear hlen
  have Rd := fun W h1 h2 h3 => read_any a0 M cap0 ys 0 W h1 h2 h3 hb
  have Ri := fun W h1 h2 h3 h4 => readInt_any a0 M cap0 ys 0 W h1 h2 h3 hb h4
  rw [List.drop_zero] at Rd Ri
  rcases rres_cases 0 hb with h | h | ⟨N, c, h, hN, hc, he, h1, h2⟩
  · rw [h] at Rd Ri
    have RD := Lib.hid Rd
    have RI := Lib.hid Ri
    clear Rd Ri h
    go_enter Try.func5, Try.ntmps5
    go_wp2_with fail
    refine (works_any _).mono ?_
    rintro e w1 ⟨rfl, hB1⟩
    have hr1 := hR.below hB1
    have hr0 := hR0.below hB1
    go_wp2_with fail
    refine (short_any a0 len0 cap0 xs _ hr0).mono ?_
    rw [HM.out]
    rintro e w2 ⟨rfl, rfl⟩
    go_wp2_with fail
    refine (RD.out _ hr1 (by omega) (by omega)).mono ?_
    rintro e w2 ⟨rfl, rfl⟩
    go_wp2
    go_quiet (fail)
    go_wp2_with fail
    refine (RI.out _ (hr1.drewN _) (by omega) (by omega) (by omega)).mono ?_
    rintro e w2 ⟨rfl, rfl⟩
    go_wp2
    go_quiet (fail)
    go_wp2
    go_ret
    exact ⟨rfl, below_drewN (below_drewN hB1 _) _⟩
  · rw [h] at Rd Ri
    have RD := Lib.hid Rd
    have RI := Lib.hid Ri
    clear Rd Ri h
    go_enter Try.func5, Try.ntmps5
    go_wp2_with fail
    refine (works_any _).mono ?_
    rintro e w1 ⟨rfl, hB1⟩
    have hr1 := hR.below hB1
    have hr0 := hR0.below hB1
    go_wp2_with fail
    refine (short_any a0 len0 cap0 xs _ hr0).mono ?_
    rw [HM.out]
    rintro e w2 ⟨rfl, rfl⟩
    go_wp2_with fail
    refine (RD.out _ hr1 (by omega) (by omega)).mono ?_
    rintro e w2 ⟨rfl, rfl⟩
    go_wp2
    go_quiet (fail)
    go_wp2_with fail
    refine (RI.out _ (hr1.drewN _) (by omega) (by omega) (by omega)).mono ?_
    rintro e w2 ⟨rfl, rfl⟩
    go_wp2
    go_quiet (fail)
    go_wp2
    go_ret
    exact ⟨rfl, below_drewN (below_drewN hB1 _) _⟩
  · have hcM : c ≤ M := by have := Hlen.out; omega
    rw [h, Nat.zero_add] at Rd Ri
    have RD := Lib.hid Rd
    have RI := Lib.hid Ri
    have HE := Lib.hid he
    have HC := Lib.hid hc
    have hu := unzig_range N hN
    obtain ⟨hu1, hu2⟩ := hu
    clear Rd Ri h he hc h2
    have d1 : decide ((c : Int) < 1) = false := by simp; omega
    have d2 : decide (M < c) = false := by simp; omega
    have z1 : (0 : Int) ≤ (c : Int) := by omega
    have z2 : (c : Int) ≤ (cap0 : Int) := by omega
    go_enter Try.func5, Try.ntmps5
    go_wp2_with fail
    refine (works_any _).mono ?_
    rintro e w1 ⟨rfl, hB1⟩
    have hr1 := hR.below hB1
    have hr0 := hR0.below hB1
    go_wp2_with fail
    refine (short_any a0 len0 cap0 xs _ hr0).mono ?_
    rw [HM.out]
    rintro e w2 ⟨rfl, rfl⟩
    go_wp2_with fail
    refine (RD.out _ hr1 (by omega) (by omega)).mono ?_
    rintro e w2 ⟨rfl, rfl⟩
    go_wp2
    go_region_held3 (fun _ => True) (trivial) (first
      | (go_at_call 14; refine (Put_any none 0 0 [] N _ (RB.nil _) (by omega) hN).mono ?_; rintro e w2 ⟨v2, rfl, hO2, hB2⟩; rw [List.nil_append, Nat.zero_add, ← HC.out, HE.out] at hO2; obtain ⟨A2, c2, rfl, hR2⟩ := RB.of_own hO2; have hb2 := below_more hB1 (below_of_drew hB2); have hr2 := hr1.below (below_of_drew hB2))
      | (go_at_call 13; refine (same_any A2 a0 c c2 c cap0 _ _ hR2 (hr2.head hcM)).mono ?_; rintro e w3 ⟨rfl, rfl⟩))
    go_wp2_with fail
    refine (RI.out _ hr2 (by omega) (by omega) hN).mono ?_
    rintro e w3 ⟨rfl, rfl⟩
    go_wp2
    go_region_held3 (fun W : World => 0 ≤ W.heap.size) (exact Nat.zero_le _) (first
      | (go_at_call 16; refine (PutInt_any none 0 0 [] (unzig N) _ (RB.nil _) (by omega) hu1 hu2).mono ?_; rintro e w3 ⟨v3, rfl, hO3, hB3⟩; rw [zig_unzig, List.nil_append, Nat.zero_add, ← HC.out, HE.out] at hO3; obtain ⟨A3, c3, rfl, hR3⟩ := RB.of_own hO3; have hb3 := below_more hb2 (below_of_drew hB3); have hr3 := hr2.below (below_of_drew hB3))
      | (go_at_call 13; refine (same_any A3 a0 c c3 c cap0 _ _ hR3 (hr3.head hcM)).mono ?_; rintro e w4 ⟨rfl, rfl⟩))
    go_wp2
    go_ret
    exact ⟨rfl, hb3⟩

/-! ### THE ROW's STEP: WRITTEN OUT: LEAVE IT -/
set_option maxRecDepth 100000 in
theorem lifted (os : Os) (started : os.Started) (H : Type) (enc : TypeId × Value → H) :
    ReturnsInHanded {} Try.checked os 5 .any (Rows.vintOnceSpec.pre6 enc Try.prog Try.f5 Rows.vintOnceRow.domain false) (Rows.vintOnceSpec.post enc Try.prog Try.f5 false true false false) := by
  refine returnsInHanded_of_change (C := Try.checked) own started (by kernel_rfl) Try.func5
    (ChangeSpec.witness6 (enc := enc) (C := Try.checked) false ⟨#[], #[.slice none 0 0], []⟩ 8 (by kernel_rfl) (by kernel_rfl) (by kernel_rfl) (by kernel_rfl)) ?_
  intro W base args ds gs before hval0 hW hcnd _
  have hval : ∀ (j : Nat) t v, Try.f5.params[j]? = some t → args[j]? = some v → Value.okWide Try.prog W .any base t v := hval0
  have hW' := hW
  obtain ⟨p, q, hA0, hV, rfl, hfz, hnd⟩ := hW
  have hA : DataW.TrodAll enc Try.prog W 0 (fun _ => true) true Try.f5.params.toList args.toList ds p := hA0
  rw [Try.params5] at hA hval
  obtain ⟨v0, vs0, d0, ds0, p0, q0, hargs, rfl, rfl, h0, r0⟩ := trodAll_cons hA
  obtain ⟨rfl, rfl, rfl⟩ := trodAll_nil r0
  obtain rfl : args = #[v0] := by cases args; simp_all
  obtain ⟨rfl, rfl⟩ := trodVars_none hV
  obtain ⟨a0, len0, cap0, rfl⟩ := okWide_slice Try.underlying22 (hval 0 22 v0 rfl rfl)
  have k0 := h0
  have lt0 : ∀ x ∈ p0, x.block < W.heap.size := by obtain ⟨m, hm⟩ := k0; exact DataW.trod_lt m _ _ _ hm
  obtain ⟨z0, w0⟩ : ∃ zs, IsRow .u8 W a0 len0 cap0 zs := by
    obtain ⟨fuel, hf⟩ := h0
    rcases open_ints Try.underlying22 Try.underlying5 (by kernel_rfl) hf with ⟨hcs, _⟩ | ⟨x, l, c, zs, hcs, _, hl, hm, hz, _, hcell, hwz⟩
    · simp [Value.cells] at hcs
      obtain ⟨rfl, rfl, rfl⟩ := hcs
      exact ⟨[], .inl ⟨rfl, rfl, rfl, rfl⟩⟩
    · simp [Value.cells] at hcs
      obtain ⟨rfl, rfl, rfl⟩ := hcs
      exact ⟨zs, .inr ⟨_, rfl, hl, hm, by simpa using hz, hcell, hwz⟩⟩
  clear hA0 hval0
  refine (walk a0 len0 cap0 z0 W w0).mono fun e W' ⟨he, bel⟩ => ?_
  subst he
  exact ⟨_, rfl, _, _, _, [], _, [], hW', trodAll_mk1 (shut_bool Try.underlying4 _), (trodAll_cons_mk (Below.trod laidOut (by kernel_rfl) (of_decide_eq_true (by kernel_rfl)) k0 bel lt0) trodAll_mk0), rfl, bel.frame _, fun h => by cases h⟩

theorem over : Rows.vintOnceRow.holds Try.pinned (OpenSpec.ofChange Rows.vintOnceSpec) :=
  OpenClaim.holds_of_wide 5 Try.f5 rfl rfl rfl rfl rfl rfl rfl ⟨rfl, rfl, rfl, rfl, rfl⟩ rfl rfl rfl rfl rfl (by kernel_rfl) Try.func5 (by kernel_rfl)
    (of_decide_eq_true (by kernel_rfl)) (by unfold Func.isWrapper; first | (rw [if_pos (by decide +kernel)]; kernel_rfl) | (rw [if_neg (by decide +kernel)]; exact ⟨rfl, rfl⟩))
    (fun os started H enc _ => lifted os started H enc)

/-- ████ THE STATEMENT ████ -/
theorem proved : Rows.VintOnceSaid := over
#print axioms proved
end Go.Proofs.Ytkibglmmncpdaaa.vintOnce
