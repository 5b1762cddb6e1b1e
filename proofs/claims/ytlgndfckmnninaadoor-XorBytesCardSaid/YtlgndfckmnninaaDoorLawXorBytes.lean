/- The Go function tidepole/tidepolelaw07.XorBytes returns true for every input, and each argument reads afterwards as it read before. Conditions: none beyond the given row's own. -/
import Derived.Test.YtlgndfckmnninaaDoorRows
import Derived.Test.YtlgndfckmnninaaDoorXorN
import Derived.Test.YtlgndfckmnninaaDoorXorC
import Derived.Test.YtlgndfckmnninaaDoorStampM
import Derived.Test.YtlgndfckmnninaaDoorXorK
import Derived.Test.YtlgndfckmnninaaDoorBitsC
import Derived.Test.YtlgndfckmnninaaDoorPicks
import Derived.Test.YtlgndfckmnninaaDoorFields
import Derived.WalkKit
import Derived.ProofKit
import Derived.OpenShut
import Derived.ChangeOld
import Derived.Below
import Derived.Deep.QuietTactic
import Derived.BigQuiet
import Derived.Deep.RegionHeld3
import Derived.LaidMore
import Derived.Stop.Joined
import Derived.SevenTiedAt
import Derived.Test.YtlgndfckmnninaaDoorCards
import Derived.Test.YtlgndfckmnninaaDoorTie
namespace Go.Proofs.YtlgndfckmnninaaDoor.xorBytes
open Go.ChangeShapes Go.WideShapes Go.ChangeAt Go.RowKit
set_option linter.unusedVariables false

theorem own : ownKnob Tryd.prog.godebug = none := by kernel_rfl
theorem laidOut : laidOutB Tryd.prog = true := by kernel_rfl

set_option maxHeartbeats 6400000 in
theorem walk (a0 : Option Addr) (len0 cap0 : Nat) (z0 : List Int) (a1 : Option Addr) (len1 cap1 : Nat) (z1 : List Int) (a2 : Int) (w : World) (w0 : IsRow .u64 w a0 len0 cap0 z0) (w1 : IsRow .u8 w a1 len1 cap1 z1) (w2 : (Lit.int .i64 a2).wf = true) (hT : XorTab w) :
    Calls Tryd.prog 13 #[.slice a0 len0 cap0, .slice a1 len1 cap1, .int .i64 a2] w fun e w' => e = .returned (.bool true) ∧ Below w.heap.size w w' := by
  obtain ⟨us, hU0, hus⟩ : ∃ us : List Nat, RU w a0 len0 cap0 us ∧ ∀ x ∈ us, x < 18446744073709551616 := by
    refine ⟨z0.map Int.toNat, ⟨by rw [List.length_map]; exact w0.1, w0.2.1, w0.2.2.1, fun hn => ?_⟩, fun x hx => ?_⟩
    · obtain ⟨b, off, e, hc⟩ := w0.2.2.2.2 hn
      refine ⟨b, off, e, fun j x hj => ?_⟩
      rw [List.getElem?_map] at hj
      obtain ⟨z, hz, rfl⟩ := Option.map_eq_some_iff.1 hj
      have hw := u64_of_wf (w0.2.2.2.1 z (List.mem_of_getElem? hz))
      rw [hc j (by rw [← w0.1]; exact (List.getElem?_eq_some_iff.1 hz).1), hz, Option.getD_some, Int.toNat_of_nonneg hw.1]
    · obtain ⟨z, hz, rfl⟩ := List.mem_map.1 hx
      have hw := u64_of_wf (w0.2.2.2.1 z hz)
      omega
  have hR0 : RB w a1 len1 cap1 z1 := ⟨w1.1, w1.2.1, w1.2.2.1, w1.2.2.2.2⟩
  have hb0 : ∀ x ∈ z1, Byte x := fun x hx => byte_of_wf (w1.2.2.2.1 x hx)
  clear w0 w1 w2
  have hcap0 := hU0.2.2.1
  have hlc0 := hU0.2.1
  have hcap1 := hR0.2.2.1
  have hlc1 := hR0.2.1
  obtain ⟨ts, L, hI, hts, hL1, hL⟩ : ∃ (ts : List Nat) (L : Nat), RU w a0 L cap0 ts ∧ (∀ x ∈ ts, x < 18446744073709551616) ∧ L ≤ 60 ∧ ((60 < len0 ∧ L = 60) ∨ (len0 ≤ 60 ∧ L = len0)) := by
    rcases Nat.lt_or_ge 60 len0 with hl | hl
    · exact ⟨us.take 60, 60, hU0.head (by omega), fun x hx => hus x (List.mem_of_mem_take hx), by omega, .inl ⟨hl, rfl⟩⟩
    · exact ⟨us, len0, hU0, hus, hl, .inr ⟨hl, rfl⟩⟩
  obtain ⟨bs, M, hR, hb, hm, hM⟩ : ∃ (bs : List Int) (M : Nat), RB w a1 M cap1 bs ∧ (∀ x ∈ bs, Byte x) ∧ M ≤ 300 ∧ ((300 < len1 ∧ M = 300) ∨ (len1 ≤ 300 ∧ M = len1)) := by
    rcases Nat.lt_or_ge 300 len1 with hl | hl
    · exact ⟨z1.take 300, 300, hR0.head (by omega), fun x hx => hb0 x (List.mem_of_mem_take hx), by omega, .inl ⟨hl, rfl⟩⟩
    · exact ⟨z1, len1, hR0, hb0, hl, .inr ⟨hl, rfl⟩⟩
  have htl := hI.1
  obtain ⟨hback, hpl⟩ := back_values ts (by omega) hts
  have HB := Lib.hid hb
  have HT := Lib.hid hT
  have HTS := Lib.hid hts
  have HBY := Lib.hid (pack_byte (putsX 0 0 64 0 ts))
  have HBK := Lib.hid hback
  have HPL := Lib.hid hpl
  have HTL := Lib.hid htl
  clear hb0 hR0 hb hU0 hus hts hback hpl htl
  rcases hL with ⟨hl, rfl⟩ | ⟨hl, rfl⟩ <;> rcases hM with ⟨hk, rfl⟩ | ⟨hk, rfl⟩
  all_goals
      go_enter Tryd.func13, Tryd.ntmps13
      go_wp2_with fail
      go_quiet (fail)
      first | rw [show (min (len0 : Int) 60).toNat = 60 from by omega] | rw [show (min (L : Int) 60).toNat = L from by omega]
      first | rw [show (min (len1 : Int) 300).toNat = 300 from by omega] | rw [show (min (M : Int) 300).toNat = M from by omega]
      have H0 : Below w.heap.size w (w.drewN nq) := below_drewN (Below.refl _ _) nq
      generalize w.drewN nq = u0 at *
      have hB : Below w.heap.size w (u0.alloc (.cells #[] 38)) := H0.alloc H0.size _
      have hI1 := hI.below hB
      have hO := World.ownsRow_made (base := w.heap.size) (e := 38) (size := 1) u0 #[] 0 H0.size (by simp [maxLen]) (by simp)
      have hz0 := hB.size
      go_wp2_with (at_builtin; refine app_rowU w.heap.size rfl _ _ _ 38 rfl Tryd.underlying46 Tryd.infoU64 _ 0 [] ts a0 _ cap0 rfl rfl hO hI1 hB hz0 (by omega) ?_; intro v1 w1 hown1 hB1 hz1)
      rw [Nat.zero_add, List.nil_append] at hown1
      obtain ⟨A1, c1, rfl, R1⟩ := RU.of_own (xs := ts) hown1
      clear hown1 hO hI1 hB hz0 hz1 H0 hT us
      obtain ⟨Pk, hPk⟩ : ∃ Pk, pack (putsX 0 0 64 0 ts) = Pk := ⟨_, rfl⟩
      rw [hPk] at HBY HBK HPL
      have HPK := Lib.hid hPk
      refine (xBytes_any w1 A1 _ c1 ts R1 HTS.out (HT.out.below hB1) (by omega)).mono ?_
      rintro e u2 ⟨⟨A2, c2, rfl, RB2⟩, B2⟩
      rw [hPk] at RB2 ⊢
      have H2 := below_more hB1 B2
      clear R1 B2 hB1 hPk
      go_wp2_with fail
      refine (xrBytes_any u2 a0 _ cap0 ts (hI.below H2) HTS.out (by omega)).mono ?_
      rintro e u3 ⟨⟨A3, c3, rfl, RB3⟩, B3⟩
      rw [HPK.out] at RB3 ⊢
      have H3 := below_more H2 B3
      have X3 := RB2.below B3
      clear RB2 B3 H2
      go_wp2_with fail
      refine (bytes_any a1 _ cap1 bs u3 (hR.below H3) (by omega)).mono ?_
      rintro e u4 ⟨v, rfl, hO, B4⟩
      obtain ⟨A4, c4, rfl, R4⟩ := RB.of_own hO
      have H4 := below_more H3 B4
      have X4 := X3.below B4
      have Y4 := RB3.below B4
      clear hO B4 H3 X3 RB3
      go_wp2_with fail
      refine (xRead_int u4 A4 _ c4 a2 bs R4 HB.out (by omega) (HT.out.below H4)).mono ?_
      rintro e u5 ⟨⟨A5, c5, rfl, R5⟩, B5⟩
      have H5 := below_more H4 B5
      have X5 := X4.below B5
      have Y5 := Y4.below B5
      obtain ⟨q, hq⟩ : ∃ q, readsXI a2 (unB bs) = q := ⟨_, rfl⟩
      rw [hq] at R5 ⊢
      clear B5 H4 X4 Y4 R4
      go_wp2_with fail
      refine (xrRead_int u5 a1 _ cap1 a2 bs (hR.below H5) HB.out (by omega)).mono ?_
      rw [hq]
      rintro e u6 ⟨⟨A6, c6, rfl, R6⟩, B6⟩
      have H6 := below_more H5 B6
      have X6 := X5.below B6
      have Y6 := Y5.below B6
      have P6 := R5.below B6
      clear B6 H5 X5 Y5 R5 hq
      go_wp2_with fail
      have hX := xRead_int u6 A2 _ c2 ((ts.length : Nat) : Int) Pk X6 HBY.out HPL.out (HT.out.below H6)
      rw [HBK.out, HTL.out] at hX
      refine hX.mono ?_
      clear hX
      rintro e u7 ⟨⟨A7, c7, rfl, R7⟩, B7⟩
      dsimp only at R7 ⊢
      rw [HTL.out] at R7 ⊢
      have H7 := below_more H6 B7
      have X7 := X6.below B7
      have Y7 := Y6.below B7
      have P7 := P6.below B7
      have Q7 := R6.below B7
      clear B7 H6 X6 Y6 P6 R6
      go_wp2_with fail
      refine (same_any A2 A3 _ c2 _ c3 Pk _ X7 Y7).mono ?_
      rintro e u8 ⟨rfl, rfl⟩
      go_wp2_with fail
      refine (sameX_any A5 A6 _ c5 c6 q.2 _ P7 Q7).mono ?_
      rintro e u9 ⟨rfl, B9⟩
      have H9 := below_more H7 B9
      have R9 := R7.below B9
      go_wp2_with fail
      refine (sameX_any A7 a0 _ c7 cap0 ts _ R9 (hI.below H9)).mono ?_
      rintro e u10 ⟨rfl, B10⟩
      have H10 := below_more H9 B10
      go_wp2_with fail
      refine (works7_any u10 (HT.out.below H10)).mono ?_
      rintro e u11 ⟨rfl, B11⟩
      go_wp2_with fail
      go_ret
      exact ⟨rfl, below_more H10 B11⟩

/-- The table as the program's text lays it. -/
theorem door_met (os : Os) (args : Array Value) : laidMetH Tryd.prog [("math/bits.deBruijn64tab", Rows.laid_math_bits_deBruijn64tab)] ((World.doorLaid Tryd.prog 400 os).forCall (fun _ _ => 0) ⟨#[], args, []⟩).memory :=
  laidMetH_of_parts3 (fuel := 8) (laidMet_of_run' 8 (by kernel_rfl) (by kernel_rfl)) (by kernel_rfl) (by kernel_rfl)

set_option maxRecDepth 100000 in
theorem lifted (os : Os) (started : os.Started) (H : Type) (enc : TypeId × Value → H) :
    ReturnsInHanded {} Tryd.checked os 13 .any (fun w args => (Rows.xorBytesSpec.pre enc Tryd.prog Tryd.f13 [] false w args ∧ laidMetH Tryd.prog [("math/bits.deBruijn64tab", Rows.laid_math_bits_deBruijn64tab)] w) ∧ sizedMet enc Tryd.prog Tryd.f13 (OpenSpec.ofChange Rows.xorBytesSpec) false w args) (Rows.xorBytesSpec.post enc Tryd.prog Tryd.f13 false true false false) := by
  refine returnsInHanded_of_change_and (C := Tryd.checked) (X := fun w _ => laidMetH Tryd.prog [("math/bits.deBruijn64tab", Rows.laid_math_bits_deBruijn64tab)] w) (fun _ _ _ hh h => h.of_heap hh) own started (by kernel_rfl) Tryd.func13
    (ChangeSpec.witness_shaped (enc := enc) (C := Tryd.checked) (os := os) (X := fun w _ => laidMetH Tryd.prog [("math/bits.deBruijn64tab", Rows.laid_math_bits_deBruijn64tab)] w) false (World.doorLaid Tryd.prog 400 os) #[.slice none 0 0, .slice none 0 0, .int .i64 0] 8 rfl (World.shaped_of_RefB (by kernel_rfl) (by kernel_rfl)) (by kernel_rfl) (by kernel_rfl) (by kernel_rfl) (door_met os _)) ?_
  intro W base args ds gs before hval0 hW _ _ hL _
  have hval : ∀ (j : Nat) t v, Tryd.f13.params[j]? = some t → args[j]? = some v → Value.okWide Tryd.prog W .any base t v := hval0
  have hW' := hW
  obtain ⟨p, q, hA0, hV, rfl, hfz, hnd⟩ := hW
  have hA : DataW.TrodAll enc Tryd.prog W 0 (fun _ => true) true Tryd.f13.params.toList args.toList ds p := hA0
  rw [Tryd.params13] at hA hval
  obtain ⟨v0, vs0, d0, ds0, p0, q0, hargs, rfl, rfl, h0, r0⟩ := trodAll_cons hA
  obtain ⟨v1, vs1, d1, ds1, p1, q1, rfl, rfl, rfl, h1, r1⟩ := trodAll_cons r0
  obtain ⟨v2, vs2, d2, ds2, p2, q2, rfl, rfl, rfl, h2, r2⟩ := trodAll_cons r1
  obtain ⟨rfl, rfl, rfl⟩ := trodAll_nil r2
  obtain rfl : args = #[v0, v1, v2] := by cases args; simp_all
  obtain ⟨rfl, rfl⟩ := trodVars_none hV
  have k0 := h0
  have lt0 : ∀ x ∈ p0, x.block < W.heap.size := by obtain ⟨m, hm⟩ := k0; exact DataW.trod_lt m _ _ _ hm
  have k1 := h1
  have lt1 : ∀ x ∈ p1, x.block < W.heap.size := by obtain ⟨m, hm⟩ := k1; exact DataW.trod_lt m _ _ _ hm
  have k2 := h2
  have lt2 : ∀ x ∈ p2, x.block < W.heap.size := by obtain ⟨m, hm⟩ := k2; exact DataW.trod_lt m _ _ _ hm
  obtain ⟨a0, len0, cap0, rfl⟩ := okWide_slice Tryd.underlying46 (hval 0 46 v0 rfl rfl)
  obtain ⟨z0, w0⟩ : ∃ zs, IsRow .u64 W a0 len0 cap0 zs := by
    obtain ⟨fuel, hf⟩ := h0
    exact row_of Tryd.underlying46 Tryd.underlying38 (by kernel_rfl) hf
  obtain ⟨a1, len1, cap1, rfl⟩ := okWide_slice Tryd.underlying43 (hval 1 43 v1 rfl rfl)
  obtain ⟨z1, w1⟩ : ∃ zs, IsRow .u8 W a1 len1 cap1 zs := by
    obtain ⟨fuel, hf⟩ := h1
    exact row_of Tryd.underlying43 Tryd.underlying5 (by kernel_rfl) hf
  obtain ⟨a2, rfl, rfl, rfl, w2⟩ := open_int Tryd.underlying3 (hval 2 3 v2 rfl rfl) h2
  have hT : XorTab W := xorTab_of hL
  clear hA0 hval0
  refine (walk a0 len0 cap0 z0 a1 len1 cap1 z1 a2 W w0 w1 w2 hT).mono fun e W' ⟨he, bel⟩ => ?_
  subst he
  exact ⟨_, rfl, _, _, _, [], _, [], hW', trodAll_mk1 (shut_bool Tryd.underlying4 _), (trodAll_cons_mk (Below.trod laidOut (by kernel_rfl) (of_decide_eq_true (by kernel_rfl)) k0 bel lt0) (trodAll_cons_mk (Below.trod laidOut (by kernel_rfl) (of_decide_eq_true (by kernel_rfl)) k1 bel lt1) (trodAll_cons_mk (shut_int Tryd.underlying3 w2) trodAll_mk0))), rfl, bel.frame _, fun h => by cases h⟩

theorem over : Rows.xorBytesRow.holds Tryd.pinned (OpenSpec.ofChange Rows.xorBytesSpec) :=
  OpenClaim.holds_of_wide 13 Tryd.f13 rfl rfl rfl rfl rfl rfl rfl ⟨rfl, rfl, rfl, rfl, rfl⟩ rfl rfl rfl rfl rfl (by kernel_rfl) Tryd.func13 (by kernel_rfl)
    (of_decide_eq_true (by kernel_rfl)) (by unfold Func.isWrapper; first | (rw [if_pos (by decide +kernel)]; kernel_rfl) | (rw [if_neg (by decide +kernel)]; exact ⟨rfl, rfl⟩))
    (fun os started H enc _ => lifted os started H enc)

theorem proved : Rows.XorBytesSaid := over

theorem card_holds : Rows.XorBytesCardSaid :=
  Claim7.holds_tied_plain_at .later [] [.data] true (true, "be161dddcf822252aefe1cd3c089d2ded8312abac7a911784b1c12d962751af1") false
    over (fun _ h => by cases h) (by kernel_rfl) (fun _ h => by cases h) xorBytes_row_tie rfl ⟨rfl, rfl⟩ (by kernel_rfl) rfl
    (fun f fn hf hfn => by
      obtain rfl : f = 13 := Option.some.inj ((show Tryd.prog.funcNamed "tidepole/tidepolelaw07.XorBytes" = some 13 by kernel_rfl).symm.trans hf) |>.symm
      obtain rfl : fn = Tryd.f13 := (Option.some.inj (Tryd.func13.symm.trans hfn)).symm
      exact ⟨by kernel_rfl, fun j t ht => by
        rw [Tryd.params13] at ht
        have hm : t ∈ ([46, 43, 3] : List Nat) := by simpa using Array.mem_of_getElem? ht
        have hall : (([46, 43, 3] : List Nat).all fun u => !Tryd.prog.wantsStandIn u) = true := by kernel_rfl
        exact (show Tryd.prog.wantsStandIn t = false by simpa using List.all_eq_true.1 hall t hm)⟩)
    (by kernel_rfl)
#print axioms card_holds
end Go.Proofs.YtlgndfckmnninaaDoor.xorBytes
