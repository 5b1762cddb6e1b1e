/- The Go function tidepole/tidepolelaw06.StampBack returns true for every input, and each argument reads afterwards as it read before. Conditions: none beyond the given row's own. -/
import Derived.Test.YtlgndfckmnninaaDoorRows
import Derived.Test.YtlgndfckmnninaaDoorStampN
import Derived.Test.YtlgndfckmnninaaDoorPicks
import Derived.Test.YtlgndfckmnninaaDoorFields
import Derived.WalkKit
import Derived.ProofKit
import Derived.OpenShut
import Derived.ChangeOld
import Derived.Below
import Derived.Deep.QuietTactic
import Derived.BigQuiet
import Derived.Deep.RegionHeld3
import Derived.LaidMore
import Derived.Stop.Joined
import Derived.SevenTiedAt
import Derived.Test.YtlgndfckmnninaaDoorCards
import Derived.Test.YtlgndfckmnninaaDoorTie
namespace Go.Proofs.YtlgndfckmnninaaDoor.stampBack
open Go.ChangeShapes Go.WideShapes Go.ChangeAt Go.RowKit
set_option linter.unusedVariables false

theorem own : ownKnob Tryd.prog.godebug = none := by kernel_rfl
theorem laidOut : laidOutB Tryd.prog = true := by kernel_rfl

set_option maxHeartbeats 3200000 in
theorem walk (a0 : Int) (a1 : Option Addr) (len1 cap1 : Nat) (z1 : List Int) (w : World) (w0 : (Lit.int .i64 a0).wf = true) (w1 : IsRow .i64 w a1 len1 cap1 z1) (hT : StampTab w) :
    Calls Tryd.prog 10 #[.int .i64 a0, .slice a1 len1 cap1] w fun e w' => e = .returned (.bool true) ∧ Below w.heap.size w w' := by
  have hI : RI w a1 len1 cap1 z1 := ⟨w1.1, w1.2.1, w1.2.2.1, fun hn => by
    obtain ⟨b, off, e, hc⟩ := w1.2.2.2.2 hn
    exact ⟨b, off, e, fun j x hj => by rw [hc j (by rw [← w1.1]; exact (List.getElem?_eq_some_iff.1 hj).1), hj]; rfl⟩⟩
  clear w0 w1
  have HT := Lib.hid hT
  go_enter Tryd.func10, Tryd.ntmps10
  go_wp2_with fail
  refine (works6_any w hT).mono ?_
  rintro e u1 ⟨rfl, H1⟩
  clear hT
  go_wp2_with fail
  refine (rising_any u1 a0 a1 len1 cap1 z1 (hI.below H1)).mono ?_
  rintro e u2 ⟨A2, n, c2, ts, rfl, R2, hn1, hn2, hp, hx, B2⟩
  have H2 := below_more H1 B2
  have hlen := R2.1
  obtain ⟨Lb, hL, hQ, hpl⟩ := back_rising ts (by omega) hp hx
  rw [hlen] at hQ
  have HL := Lib.hid hL
  have HQ := Lib.hid hQ
  clear hL hQ hp hx B2 H1 hI
  go_wp2_with fail
  refine (sBytes_any u2 A2 n c2 ts R2 (HT.out.below H2) (by omega)).mono ?_
  rw [HL.out]
  rintro e u3 ⟨⟨A3, c3, rfl, R3⟩, B3⟩
  have H3 := below_more H2 B3
  have P3 := R2.below B3
  clear R2 H2 B3
  have HBY := Lib.hid (pack_byte Lb)
  go_wp2_with fail
  refine (sRead_int u3 A3 _ c3 n (pack Lb) R3 HBY.out hpl (HT.out.below H3)).mono ?_
  rw [HQ.out]
  rintro e u4 ⟨⟨A4, c4, rfl, R4⟩, B4⟩
  have H4 := below_more H3 B4
  have P4 := P3.below B4
  clear R3 H3 P3 B4
  go_wp2_with fail
  refine (sameI_any A2 A4 n c2 c4 ts u4 P4 (by rw [← hlen]; exact R4)).mono ?_
  rintro e u5 ⟨rfl, B5⟩
  go_wp2_with fail
  go_ret
  exact ⟨rfl, below_more H4 B5⟩

/-- The table as the program's text lays it. -/
theorem door_met (os : Os) (args : Array Value) : laidMetH Tryd.prog [("tidepole/stamp.classes", Rows.laid_tidepole_stamp_classes)] ((World.doorLaid Tryd.prog 400 os).forCall (fun _ _ => 0) ⟨#[], args, []⟩).memory :=
  laidMetH_of_parts3 (fuel := 8) (laidMet_of_run' 8 (by kernel_rfl) (by kernel_rfl)) (by kernel_rfl) (by kernel_rfl)

set_option maxRecDepth 100000 in
theorem lifted (os : Os) (started : os.Started) (H : Type) (enc : TypeId × Value → H) :
    ReturnsInHanded {} Tryd.checked os 10 .any (fun w args => (Rows.stampBackSpec.pre enc Tryd.prog Tryd.f10 [] false w args ∧ laidMetH Tryd.prog [("tidepole/stamp.classes", Rows.laid_tidepole_stamp_classes)] w) ∧ sizedMet enc Tryd.prog Tryd.f10 (OpenSpec.ofChange Rows.stampBackSpec) false w args) (Rows.stampBackSpec.post enc Tryd.prog Tryd.f10 false true false false) := by
  refine returnsInHanded_of_change_and (C := Tryd.checked) (X := fun w _ => laidMetH Tryd.prog [("tidepole/stamp.classes", Rows.laid_tidepole_stamp_classes)] w) (fun _ _ _ hh h => h.of_heap hh) own started (by kernel_rfl) Tryd.func10
    (ChangeSpec.witness_shaped (enc := enc) (C := Tryd.checked) (os := os) (X := fun w _ => laidMetH Tryd.prog [("tidepole/stamp.classes", Rows.laid_tidepole_stamp_classes)] w) false (World.doorLaid Tryd.prog 400 os) #[.int .i64 0, .slice none 0 0] 8 rfl (World.shaped_of_RefB (by kernel_rfl) (by kernel_rfl)) (by kernel_rfl) (by kernel_rfl) (by kernel_rfl) (door_met os _)) ?_
  intro W base args ds gs before hval0 hW _ _ hL _
  have hval : ∀ (j : Nat) t v, Tryd.f10.params[j]? = some t → args[j]? = some v → Value.okWide Tryd.prog W .any base t v := hval0
  have hW' := hW
  obtain ⟨p, q, hA0, hV, rfl, hfz, hnd⟩ := hW
  have hA : DataW.TrodAll enc Tryd.prog W 0 (fun _ => true) true Tryd.f10.params.toList args.toList ds p := hA0
  rw [Tryd.params10] at hA hval
  obtain ⟨v0, vs0, d0, ds0, p0, q0, hargs, rfl, rfl, h0, r0⟩ := trodAll_cons hA
  obtain ⟨v1, vs1, d1, ds1, p1, q1, rfl, rfl, rfl, h1, r1⟩ := trodAll_cons r0
  obtain ⟨rfl, rfl, rfl⟩ := trodAll_nil r1
  obtain rfl : args = #[v0, v1] := by cases args; simp_all
  obtain ⟨rfl, rfl⟩ := trodVars_none hV
  have k0 := h0
  have lt0 : ∀ x ∈ p0, x.block < W.heap.size := by obtain ⟨m, hm⟩ := k0; exact DataW.trod_lt m _ _ _ hm
  have k1 := h1
  have lt1 : ∀ x ∈ p1, x.block < W.heap.size := by obtain ⟨m, hm⟩ := k1; exact DataW.trod_lt m _ _ _ hm
  obtain ⟨a0, rfl, rfl, rfl, w0⟩ := open_int Tryd.underlying3 (hval 0 3 v0 rfl rfl) h0
  obtain ⟨a1, len1, cap1, rfl⟩ := okWide_slice Tryd.underlying72 (hval 1 72 v1 rfl rfl)
  obtain ⟨z1, w1⟩ : ∃ zs, IsRow .i64 W a1 len1 cap1 zs := by
    obtain ⟨fuel, hf⟩ := h1
    exact row_of Tryd.underlying72 Tryd.underlying3 (by kernel_rfl) hf
  have hT : StampTab W := stampTab_of hL
  clear hA0 hval0
  refine (walk a0 a1 len1 cap1 z1 W w0 w1 hT).mono fun e W' ⟨he, bel⟩ => ?_
  subst he
  exact ⟨_, rfl, _, _, _, [], _, [], hW', trodAll_mk1 (shut_bool Tryd.underlying4 _), (trodAll_cons_mk (shut_int Tryd.underlying3 w0) (trodAll_cons_mk (Below.trod laidOut (by kernel_rfl) (of_decide_eq_true (by kernel_rfl)) k1 bel lt1) trodAll_mk0)), rfl, bel.frame _, fun h => by cases h⟩

theorem over : Rows.stampBackRow.holds Tryd.pinned (OpenSpec.ofChange Rows.stampBackSpec) :=
  OpenClaim.holds_of_wide 10 Tryd.f10 rfl rfl rfl rfl rfl rfl rfl ⟨rfl, rfl, rfl, rfl, rfl⟩ rfl rfl rfl rfl rfl (by kernel_rfl) Tryd.func10 (by kernel_rfl)
    (of_decide_eq_true (by kernel_rfl)) (by unfold Func.isWrapper; first | (rw [if_pos (by decide +kernel)]; kernel_rfl) | (rw [if_neg (by decide +kernel)]; exact ⟨rfl, rfl⟩))
    (fun os started H enc _ => lifted os started H enc)

theorem proved : Rows.StampBackSaid := over

theorem card_holds : Rows.StampBackCardSaid :=
  Claim7.holds_tied_plain_at .later [] [.data] true (true, "be161dddcf822252aefe1cd3c089d2ded8312abac7a911784b1c12d962751af1") false
    over (fun _ h => by cases h) (by kernel_rfl) (fun _ h => by cases h) stampBack_row_tie rfl ⟨rfl, rfl⟩ (by kernel_rfl) rfl
    (fun f fn hf hfn => by
      obtain rfl : f = 10 := Option.some.inj ((show Tryd.prog.funcNamed "tidepole/tidepolelaw06.StampBack" = some 10 by kernel_rfl).symm.trans hf) |>.symm
      obtain rfl : fn = Tryd.f10 := (Option.some.inj (Tryd.func10.symm.trans hfn)).symm
      exact ⟨by kernel_rfl, fun j t ht => by
        rw [Tryd.params10] at ht
        have hm : t ∈ ([3, 72] : List Nat) := by simpa using Array.mem_of_getElem? ht
        have hall : (([3, 72] : List Nat).all fun u => !Tryd.prog.wantsStandIn u) = true := by kernel_rfl
        exact (show Tryd.prog.wantsStandIn t = false by simpa using List.all_eq_true.1 hall t hm)⟩)
    (by kernel_rfl)
#print axioms card_holds
end Go.Proofs.YtlgndfckmnninaaDoor.stampBack
