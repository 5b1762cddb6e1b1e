/- The Go function tidepole/tidepolelaw06.StampBytes returns true for every input, and each argument reads afterwards as it read before. Conditions: none beyond the given row's own. -/
import Derived.Test.YtlgndfckmnninaaDoorRows
import Derived.Test.YtlgndfckmnninaaDoorStampM
import Derived.Test.YtlgndfckmnninaaDoorStampI
import Derived.Test.YtlgndfckmnninaaDoorStampC
import Derived.Test.YtlgndfckmnninaaDoorBitsC
import Derived.Test.YtlgndfckmnninaaDoorPicks
import Derived.Test.YtlgndfckmnninaaDoorFields
import Derived.WalkKit
import Derived.ProofKit
import Derived.OpenShut
import Derived.ChangeOld
import Derived.Below
import Derived.Deep.QuietTactic
import Derived.BigQuiet
import Derived.Deep.RegionHeld3
import Derived.LaidMore
import Derived.Stop.Joined
import Derived.SevenTiedAt
import Derived.Test.YtlgndfckmnninaaDoorCards
import Derived.Test.YtlgndfckmnninaaDoorTie
namespace Go.Proofs.YtlgndfckmnninaaDoor.stampBytes
open Go.ChangeShapes Go.WideShapes Go.ChangeAt Go.RowKit
set_option linter.unusedVariables false

theorem own : ownKnob Tryd.prog.godebug = none := by kernel_rfl
theorem laidOut : laidOutB Tryd.prog = true := by kernel_rfl

set_option maxHeartbeats 3200000 in
theorem walk (a0 : Option Addr) (len0 cap0 : Nat) (z0 : List Int) (a1 : Option Addr) (len1 cap1 : Nat) (z1 : List Int) (a2 : Int) (w : World) (w0 : IsRow .i64 w a0 len0 cap0 z0) (w1 : IsRow .u8 w a1 len1 cap1 z1) (w2 : (Lit.int .i64 a2).wf = true) (hT : StampTab w) :
    Calls Tryd.prog 9 #[.slice a0 len0 cap0, .slice a1 len1 cap1, .int .i64 a2] w fun e w' => e = .returned (.bool true) ∧ Below w.heap.size w w' := by
  have hI0 : RI w a0 len0 cap0 z0 := ⟨w0.1, w0.2.1, w0.2.2.1, fun hn => by
    obtain ⟨b, off, e, hc⟩ := w0.2.2.2.2 hn
    exact ⟨b, off, e, fun j x hj => by rw [hc j (by rw [← w0.1]; exact (List.getElem?_eq_some_iff.1 hj).1), hj]; rfl⟩⟩
  have hR0 : RB w a1 len1 cap1 z1 := ⟨w1.1, w1.2.1, w1.2.2.1, w1.2.2.2.2⟩
  have hb0 : ∀ x ∈ z1, Byte x := fun x hx => byte_of_wf (w1.2.2.2.1 x hx)
  clear w0 w1 w2
  have hcap0 := hI0.2.2.1
  have hlc0 := hI0.2.1
  have hcap1 := hR0.2.2.1
  have hlc1 := hR0.2.1
  obtain ⟨ts, L, hI, hL1, hL⟩ : ∃ (ts : List Int) (L : Nat), RI w a0 L cap0 ts ∧ L ≤ 60 ∧ ((60 < len0 ∧ L = 60) ∨ (len0 ≤ 60 ∧ L = len0)) := by
    rcases Nat.lt_or_ge 60 len0 with hl | hl
    · exact ⟨z0.take 60, 60, hI0.head (by omega), by omega, .inl ⟨hl, rfl⟩⟩
    · exact ⟨z0, len0, hI0, hl, .inr ⟨hl, rfl⟩⟩
  obtain ⟨bs, M, hR, hb, hm, hM⟩ : ∃ (bs : List Int) (M : Nat), RB w a1 M cap1 bs ∧ (∀ x ∈ bs, Byte x) ∧ M ≤ 200 ∧ ((200 < len1 ∧ M = 200) ∨ (len1 ≤ 200 ∧ M = len1)) := by
    rcases Nat.lt_or_ge 200 len1 with hl | hl
    · exact ⟨z1.take 200, 200, hR0.head (by omega), fun x hx => hb0 x (List.mem_of_mem_take hx), by omega, .inl ⟨hl, rfl⟩⟩
    · exact ⟨z1, len1, hR0, hb0, hl, .inr ⟨hl, rfl⟩⟩
  have HB := Lib.hid hb
  have HT := Lib.hid hT
  clear hb0 hR0 hb hI0
  rcases hL with ⟨hl, rfl⟩ | ⟨hl, rfl⟩ <;> rcases hM with ⟨hk, rfl⟩ | ⟨hk, rfl⟩
  all_goals
      go_enter Tryd.func9, Tryd.ntmps9
      go_wp2_with fail
      go_quiet (fail)
      go_wp2_with fail
      have H0 : Below w.heap.size w (w.drewN nq) := below_drewN (Below.refl _ _) nq
      generalize w.drewN nq = u0 at *
      refine (ints_any a0 _ cap0 ts _ (hI.below H0) (by omega)).mono ?_
      rintro e u1 ⟨A1, c1, rfl, R1, B1⟩
      have H1 := below_more H0 B1
      go_wp2_with fail
      refine (sBytes_any u1 A1 _ c1 ts R1 (HT.out.below H1) (by omega)).mono ?_
      rintro e u2 ⟨AN2, B2⟩
      obtain ⟨A2, n2, c2, xs, C2, rfl, RB2, hx⟩ := AN2.open_
      have H2 := below_more H1 B2
      clear R1 B1 B2 H0 H1 AN2
      go_wp2_with fail
      refine (rBytes_any u2 a0 _ cap0 ts (hI.below H2) (by omega)).mono ?_
      rintro e u3 ⟨AN3, B3⟩
      obtain ⟨A3, n3, c3, ys, C3, rfl, RB3, hy⟩ := AN3.open_
      have H3 := below_more H2 B3
      have X3 := RB2.below B3
      obtain ⟨rfl, rfl⟩ : xs = ys ∧ C2 = C3 := by rw [← Prod.mk.injEq]; exact hx.trans hy.symm
      obtain rfl : n2 = n3 := RB2.1.symm.trans RB3.1
      clear AN3 hx hy RB2 B3 H2
      go_wp2_with fail
      refine (bytes_any a1 _ cap1 bs u3 (hR.below H3) (by omega)).mono ?_
      rintro e u4 ⟨v, rfl, hO, B4⟩
      obtain ⟨A4, c4, rfl, R4⟩ := RB.of_own hO
      have H4 := below_more H3 B4
      have X4 := X3.below B4
      have Y4 := RB3.below B4
      clear hO B4 H3 X3 RB3
      go_wp2_with fail
      refine (sRead_int u4 A4 _ c4 a2 bs R4 HB.out (by omega) (HT.out.below H4)).mono ?_
      rintro e u5 ⟨⟨A5, c5, rfl, R5⟩, B5⟩
      have H5 := below_more H4 B5
      have X5 := X4.below B5
      have Y5 := Y4.below B5
      obtain ⟨q, hq⟩ : ∃ q, readsI a2 (unB bs) = q := ⟨_, rfl⟩
      rw [hq] at R5 ⊢
      clear B5 H4 X4 Y4 R4
      go_wp2_with fail
      refine (rRead_int u5 a1 _ cap1 a2 bs (hR.below H5) HB.out (by omega)).mono ?_
      rw [hq]
      rintro e u6 ⟨⟨A6, c6, rfl, R6⟩, B6⟩
      have H6 := below_more H5 B6
      have X6 := X5.below B6
      have Y6 := Y5.below B6
      have P6 := R5.below B6
      clear B6 H5 X5 Y5 R5 hq
      go_wp2_with fail
      refine (same_any A2 A3 n2 c2 n2 c3 xs _ X6 Y6).mono ?_
      rintro e u7 ⟨rfl, rfl⟩
      go_wp2_with fail
      refine (sameI_any A5 A6 _ c5 c6 q.2 _ P6 R6).mono ?_
      rintro e u8 ⟨rfl, B8⟩
      have H8 := below_more H6 B8
      go_wp2_with fail
      refine (works6_any u8 (HT.out.below H8)).mono ?_
      rintro e u9 ⟨rfl, B9⟩
      go_wp2_with fail
      go_ret
      exact ⟨rfl, below_more H8 B9⟩

/-- The table as the program's text lays it. -/
theorem door_met (os : Os) (args : Array Value) : laidMetH Tryd.prog [("tidepole/stamp.classes", Rows.laid_tidepole_stamp_classes)] ((World.doorLaid Tryd.prog 400 os).forCall (fun _ _ => 0) ⟨#[], args, []⟩).memory :=
  laidMetH_of_parts3 (fuel := 8) (laidMet_of_run' 8 (by kernel_rfl) (by kernel_rfl)) (by kernel_rfl) (by kernel_rfl)

set_option maxRecDepth 100000 in
theorem lifted (os : Os) (started : os.Started) (H : Type) (enc : TypeId × Value → H) :
    ReturnsInHanded {} Tryd.checked os 9 .any (fun w args => (Rows.stampBytesSpec.pre enc Tryd.prog Tryd.f9 [] false w args ∧ laidMetH Tryd.prog [("tidepole/stamp.classes", Rows.laid_tidepole_stamp_classes)] w) ∧ sizedMet enc Tryd.prog Tryd.f9 (OpenSpec.ofChange Rows.stampBytesSpec) false w args) (Rows.stampBytesSpec.post enc Tryd.prog Tryd.f9 false true false false) := by
  refine returnsInHanded_of_change_and (C := Tryd.checked) (X := fun w _ => laidMetH Tryd.prog [("tidepole/stamp.classes", Rows.laid_tidepole_stamp_classes)] w) (fun _ _ _ hh h => h.of_heap hh) own started (by kernel_rfl) Tryd.func9
    (ChangeSpec.witness_shaped (enc := enc) (C := Tryd.checked) (os := os) (X := fun w _ => laidMetH Tryd.prog [("tidepole/stamp.classes", Rows.laid_tidepole_stamp_classes)] w) false (World.doorLaid Tryd.prog 400 os) #[.slice none 0 0, .slice none 0 0, .int .i64 0] 8 rfl (World.shaped_of_RefB (by kernel_rfl) (by kernel_rfl)) (by kernel_rfl) (by kernel_rfl) (by kernel_rfl) (door_met os _)) ?_
  intro W base args ds gs before hval0 hW _ _ hL _
  have hval : ∀ (j : Nat) t v, Tryd.f9.params[j]? = some t → args[j]? = some v → Value.okWide Tryd.prog W .any base t v := hval0
  have hW' := hW
  obtain ⟨p, q, hA0, hV, rfl, hfz, hnd⟩ := hW
  have hA : DataW.TrodAll enc Tryd.prog W 0 (fun _ => true) true Tryd.f9.params.toList args.toList ds p := hA0
  rw [Tryd.params9] at hA hval
  obtain ⟨v0, vs0, d0, ds0, p0, q0, hargs, rfl, rfl, h0, r0⟩ := trodAll_cons hA
  obtain ⟨v1, vs1, d1, ds1, p1, q1, rfl, rfl, rfl, h1, r1⟩ := trodAll_cons r0
  obtain ⟨v2, vs2, d2, ds2, p2, q2, rfl, rfl, rfl, h2, r2⟩ := trodAll_cons r1
  obtain ⟨rfl, rfl, rfl⟩ := trodAll_nil r2
  obtain rfl : args = #[v0, v1, v2] := by cases args; simp_all
  obtain ⟨rfl, rfl⟩ := trodVars_none hV
  have k0 := h0
  have lt0 : ∀ x ∈ p0, x.block < W.heap.size := by obtain ⟨m, hm⟩ := k0; exact DataW.trod_lt m _ _ _ hm
  have k1 := h1
  have lt1 : ∀ x ∈ p1, x.block < W.heap.size := by obtain ⟨m, hm⟩ := k1; exact DataW.trod_lt m _ _ _ hm
  have k2 := h2
  have lt2 : ∀ x ∈ p2, x.block < W.heap.size := by obtain ⟨m, hm⟩ := k2; exact DataW.trod_lt m _ _ _ hm
  obtain ⟨a0, len0, cap0, rfl⟩ := okWide_slice Tryd.underlying72 (hval 0 72 v0 rfl rfl)
  obtain ⟨z0, w0⟩ : ∃ zs, IsRow .i64 W a0 len0 cap0 zs := by
    obtain ⟨fuel, hf⟩ := h0
    exact row_of Tryd.underlying72 Tryd.underlying3 (by kernel_rfl) hf
  obtain ⟨a1, len1, cap1, rfl⟩ := okWide_slice Tryd.underlying43 (hval 1 43 v1 rfl rfl)
  obtain ⟨z1, w1⟩ : ∃ zs, IsRow .u8 W a1 len1 cap1 zs := by
    obtain ⟨fuel, hf⟩ := h1
    exact row_of Tryd.underlying43 Tryd.underlying5 (by kernel_rfl) hf
  obtain ⟨a2, rfl, rfl, rfl, w2⟩ := open_int Tryd.underlying3 (hval 2 3 v2 rfl rfl) h2
  have hT : StampTab W := stampTab_of hL
  clear hA0 hval0
  refine (walk a0 len0 cap0 z0 a1 len1 cap1 z1 a2 W w0 w1 w2 hT).mono fun e W' ⟨he, bel⟩ => ?_
  subst he
  exact ⟨_, rfl, _, _, _, [], _, [], hW', trodAll_mk1 (shut_bool Tryd.underlying4 _), (trodAll_cons_mk (Below.trod laidOut (by kernel_rfl) (of_decide_eq_true (by kernel_rfl)) k0 bel lt0) (trodAll_cons_mk (Below.trod laidOut (by kernel_rfl) (of_decide_eq_true (by kernel_rfl)) k1 bel lt1) (trodAll_cons_mk (shut_int Tryd.underlying3 w2) trodAll_mk0))), rfl, bel.frame _, fun h => by cases h⟩

theorem over : Rows.stampBytesRow.holds Tryd.pinned (OpenSpec.ofChange Rows.stampBytesSpec) :=
  OpenClaim.holds_of_wide 9 Tryd.f9 rfl rfl rfl rfl rfl rfl rfl ⟨rfl, rfl, rfl, rfl, rfl⟩ rfl rfl rfl rfl rfl (by kernel_rfl) Tryd.func9 (by kernel_rfl)
    (of_decide_eq_true (by kernel_rfl)) (by unfold Func.isWrapper; first | (rw [if_pos (by decide +kernel)]; kernel_rfl) | (rw [if_neg (by decide +kernel)]; exact ⟨rfl, rfl⟩))
    (fun os started H enc _ => lifted os started H enc)

theorem proved : Rows.StampBytesSaid := over

theorem card_holds : Rows.StampBytesCardSaid :=
  Claim7.holds_tied_plain_at .later [] [.data] true (true, "be161dddcf822252aefe1cd3c089d2ded8312abac7a911784b1c12d962751af1") false
    over (fun _ h => by cases h) (by kernel_rfl) (fun _ h => by cases h) stampBytes_row_tie rfl ⟨rfl, rfl⟩ (by kernel_rfl) rfl
    (fun f fn hf hfn => by
      obtain rfl : f = 9 := Option.some.inj ((show Tryd.prog.funcNamed "tidepole/tidepolelaw06.StampBytes" = some 9 by kernel_rfl).symm.trans hf) |>.symm
      obtain rfl : fn = Tryd.f9 := (Option.some.inj (Tryd.func9.symm.trans hfn)).symm
      exact ⟨by kernel_rfl, fun j t ht => by
        rw [Tryd.params9] at ht
        have hm : t ∈ ([72, 43, 3] : List Nat) := by simpa using Array.mem_of_getElem? ht
        have hall : (([72, 43, 3] : List Nat).all fun u => !Tryd.prog.wantsStandIn u) = true := by kernel_rfl
        exact (show Tryd.prog.wantsStandIn t = false by simpa using List.all_eq_true.1 hall t hm)⟩)
    (by kernel_rfl)
#print axioms card_holds
end Go.Proofs.YtlgndfckmnninaaDoor.stampBytes
