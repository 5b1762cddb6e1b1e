/- The Go function tidepole/tidepolelaw07.XorOnce returns true for every input, and each argument reads afterwards as it read before. Conditions: none beyond the given row's own. -/
import Derived.Test.YtlgndfckmnninaaDoorRows
import Derived.Test.YtlgndfckmnninaaDoorXorH
import Derived.Test.YtlgndfckmnninaaDoorXorK
import Derived.Test.YtlgndfckmnninaaDoorOnce
import Derived.Test.YtlgndfckmnninaaDoorFields
import Derived.WalkKit
import Derived.ProofKit
import Derived.OpenShut
import Derived.ChangeOld
import Derived.Below
import Derived.Deep.QuietTactic
import Derived.BigQuiet
import Derived.Deep.RegionHeld3
import Derived.LaidMore
import Derived.Stop.Joined
import Derived.SevenTiedAt
import Derived.Test.YtlgndfckmnninaaDoorCards
import Derived.Test.YtlgndfckmnninaaDoorTie
namespace Go.Proofs.YtlgndfckmnninaaDoor.xorOnce
open Go.ChangeShapes Go.WideShapes Go.ChangeAt Go.RowKit
set_option linter.unusedVariables false

theorem own : ownKnob Tryd.prog.godebug = none := by kernel_rfl
theorem laidOut : laidOutB Tryd.prog = true := by kernel_rfl

set_option maxHeartbeats 6400000 in
theorem walk (a0 : Option Addr) (len0 cap0 : Nat) (z0 : List Int) (w : World) (w0 : IsRow .u8 w a0 len0 cap0 z0) (hT : XorTab w) :
    Calls Tryd.prog 12 #[.slice a0 len0 cap0] w fun e w' => e = .returned (.bool true) ∧ Below w.heap.size w w' := by
  have hR0 : RB w a0 len0 cap0 z0 := ⟨w0.1, w0.2.1, w0.2.2.1, w0.2.2.2.2⟩
  have hb0 : ∀ x ∈ z0, Byte x := fun x hx => byte_of_wf (w0.2.2.2.1 x hx)
  clear w0
  have hcap := hR0.2.2.1
  have hlc := hR0.2.1
  obtain ⟨bs, M, hR, hb, hm, hM⟩ : ∃ (bs : List Int) (M : Nat), RB w a0 M cap0 bs ∧ (∀ x ∈ bs, Byte x) ∧ M ≤ 150 ∧ ((150 < len0 ∧ M = 150) ∨ (len0 ≤ 150 ∧ M = len0)) := by
    rcases Nat.lt_or_ge 150 len0 with hl | hl
    · exact ⟨z0.take 150, 150, hR0.head (by omega), fun x hx => hb0 x (List.mem_of_mem_take hx), by omega, .inl ⟨hl, rfl⟩⟩
    · exact ⟨z0, len0, hR0, hb0, hl, .inr ⟨hl, rfl⟩⟩
  have HB := Lib.hid hb
  clear hb0 hR0 hb
  have hmin : (min (len0 : Int) 150).toNat = M := by omega
  clear hM
  have hlen : bs.length = M := hR.1
  all_goals
    go_enter Tryd.func12, Tryd.ntmps12
    go_wp2_with fail
    refine (works7_any _ hT).mono ?_
    rintro e u1 ⟨rfl, hB1⟩
    have hR1 := hR.below hB1
    go_wp2_with fail
    try rw [hmin]
    rw [← hlen] at hR1 hR ⊢
    have hm : bs.length ≤ 150 := by omega
    clear hlen hmin
    refine (NewReader_any a0 _ cap0 bs u1 w.heap.size hR1 (by omega) hB1.size).mono ?_
    rintro e u2 ⟨g, R, rfl, hg, hRk, D2, hB2⟩
    have H2 := below_more hB1 hB2
    have hgl := D2.lt
    have hz1 := hB1.size
    have hz2 := hB2.size
    go_wp2_with fail
    refine (NewWriter_any u2 w.heap.size H2.size).mono ?_
    rintro e u3 ⟨g2, rfl, hg2, W3, hB3⟩
    have H3 := H2.trans (hB3.mono H2.size)
    have D3 := D2.below hB3
    have hz3 := hB3.size
    have hgl2 := W3.lt
    go_wp2_with fail
    refine (begin_any u3).mono ?_
    rintro e u3b ⟨rfl, hBa⟩
    have D3 := D3.below hBa
    have W3 := W3.below hBa
    have H3 := below_more H3 hBa
    have hza := hBa.size
    go_wp2_with fail
    refine (begin_any u3b).mono ?_
    rintro e u3c ⟨rfl, hBb⟩
    have D3 := D3.below hBb
    have W3 := W3.below hBb
    have H3 := below_more H3 hBb
    have hzb := hBb.size
    obtain ⟨S4, V4, A4⟩ := four_new u3c (.int .i64 0) (.int .u64 0) (.int .i64 64) (.int .i64 0) (.int .i64 0) (.int .u64 0) (.int .i64 64) (.int .i64 0) 48 48
    have D4 := D3.below A4
    have W4 := W3.below A4
    have H4 := H3.trans (A4.mono H3.size)
    have HRK := Lib.hid hRk
    clear hB1 hB2 hB3 hBa hBb D2 D3 W3 H2 H3 hR1 hRk A4
    go_wp2_with fail
    obtain ⟨x, hx⟩ : ∃ x, u3c.heap.size = x := ⟨_, rfl⟩
    rw [hx] at S4 V4 hzb ⊢
    generalize (u3c.alloc (.cells #[.int .i64 0, .int .u64 0, .int .i64 64, .int .i64 0] 48)).alloc (.cells #[.int .i64 0, .int .u64 0, .int .i64 64, .int .i64 0] 48) = u4 at *
    clear hx
    go_loopw [7] (fun iv wr => ∃ (i p V a b : Nat) (B : Option Nat), iv = .int .i64 i ∧ i ≤ 100 ∧ p ≤ 8 * bs.length ∧ Rd wr w.heap.size g R bs p ∧ Wr wr w.heap.size g2 B ((unB bs).take p) ∧ (∀ k, B = some k → x + 2 ≤ k) ∧
      Blk wr x 48 #[.int .i64 i, .int .u64 (V : Nat), .int .i64 (a : Nat), .int .i64 (b : Nat)] ∧ Blk wr (x + 1) 48 #[.int .i64 i, .int .u64 (V : Nat), .int .i64 (a : Nat), .int .i64 (b : Nat)] ∧ Hid (V < 18446744073709551616) ∧ Hid (a = 64 ∧ b = 0 ∨ a + b ≤ 63) ∧ Below w.heap.size w wr) (fun iv _ => 100 - (intOf iv).toNat)
    case atStart => exact ⟨0, 0, 0, 64, 0, none, rfl, by omega, by omega, D4, W4, (fun _ h => by cases h), S4, V4, (by decide : 0 < 18446744073709551616), .inl ⟨rfl, rfl⟩, H4⟩
    case round =>
      obtain ⟨i, p, V, a, b, B, rfl, hi, hp, hD, hE, hBn, hS, hV, HV64, HAB, hH⟩ := hrel
      clear D4 W4 S4 V4 H4
      have hrow := hE.row
      have hxl := hV.lt
      have HBN := Lib.hid hBn
      clear hBn
      have hpos := hT.pos
      have TT := hT.below hH
      obtain ⟨s0, s1, s2, s3⟩ := hS.cells4
      by_cases h100 : i < 100
      · have hr : rightX (i : Int) (a : Int) (b : Int) = true := rightX_mk ⟨by omega, by omega, by have := HAB.out; omega⟩
        have HRT := Lib.hid hr
        clear hr
        obtain ⟨C, v, a', b', c, hG⟩ : ∃ C v a' b' c, getX ((unB bs).drop p) i V a b = (C, v, a', b', c) := ⟨_, _, _, _, _, rfl⟩
        have HG := Lib.hid hG
        clear hG
        by_cases hC : C = 0
        · subst hC
          obtain ⟨hv, hw, hcl, htk, hab⟩ := getX_take _ _ _ _ _ _ _ _ _ HAB.out HV64.out HG.out
          rw [rest_len] at hcl
          obtain ⟨pc, hpc⟩ : ∃ pc, p + c = pc := ⟨_, rfl⟩
          have hpl : pc ≤ 8 * bs.length := by omega
          have hM2 : (unB bs).take p ++ encX i V a b v = (unB bs).take pc := by rw [htk, ← hpc]; exact List.take_add.symm
          obtain ⟨i2, hi2⟩ : ∃ i2 : Int, ((i + 1 : Nat) : Int) = i2 := ⟨_, rfl⟩
          have PUT := fun W h1 h2 h3 => xPut_to W w.heap.size g2 B ((unB bs).take p) ((unB bs).take pc) i V a b v i2 (v : Nat) (a' : Nat) (b' : Nat) (V : Nat) (a : Nat) (b : Nat) h1 h2 (by rw [again_len bs p hp]; omega) h3 HRT.out HV64.out hv (by rw [← hi2]; push_cast; rfl) rfl (by rw [← hw]) (by rw [← hw]) hM2 rfl rfl rfl
          have GET := fun W h1 h2 h3 => xGet_ok W w.heap.size g R bs p i V a b v a' b' c h1 h3 (by omega) HB.out h2 HRT.out HV64.out HG.out
          rw [show (i : Int) + 1 = i2 by rw [← hi2]; push_cast; rfl, hpc] at GET
          have HPUT := Lib.hid PUT
          have HGET := Lib.hid GET
          have HI2 := Lib.hid hi2
          have HLEN := Lib.hid (again_len bs pc hpl)
          have Hv := Lib.hid hv
          have Hab := Lib.hid hab
          clear hv hw hab htk hM2 PUT GET hi2 hpc hcl HG
          go_wp2_with fail
          refine (HGET.out _ hD (fun k hk => by have := (HRK.out k hk).2; omega) TT).mono ?_
          rintro e u5 ⟨rfl, D5, T5⟩
          have E5 := hE.touch T5 (by omega) (by simp) (fun e => by have := HBN.out _ e; omega) (by cases B <;> simp)
          have S5 := hS.touch T5 (by omega) (by simp)
          have V5 := hV.touch T5 (by omega) (by simp)
          have H5 := hH.trans (T5.below hH.size (by have := hD.1; omega) (fun _ h => by cases h))
          have A5 : Below u5.heap.size u5 (u5.alloc (.cells #[.int .i64 i2, .int .u64 (v : Nat), .int .i64 (a' : Nat), .int .i64 (b' : Nat)] 48)) := (Below.refl _ u5).alloc (Nat.le_refl _) _
          have X6 := Blk.new u5 48 #[.int .i64 i2, .int .u64 (v : Nat), .int .i64 (a' : Nat), .int .i64 (b' : Nat)]
          have D6 := D5.below A5
          have E6 := E5.below A5
          have S6 := S5.below A5
          have V6 := V5.below A5
          have H6 := H5.trans (A5.mono H5.size)
          have hz5 := T5.size
          clear s0 s1 s2 s3 D5 E5 S5 V5 H5 T5 hD hE hS hV
          obtain ⟨s0, s1, s2, s3⟩ := V6.cells4
          go_wp2_with fail
          obtain ⟨y, hy⟩ : ∃ y, u5.heap.size = y := ⟨_, rfl⟩
          rw [hy] at X6 hz5 ⊢
          generalize u5.alloc (.cells #[.int .i64 i2, .int .u64 (v : Nat), .int .i64 (a' : Nat), .int .i64 (b' : Nat)] 48) = u6 at *
          have T6 := hT.below H6
          have hy6 := X6.lt
          clear A5 hy
          refine (HPUT.out _ E6 T6 H6.size).mono ?_
          rintro e u7 ⟨rfl, B7, E7, hB7, T7⟩
          have nx : ∀ r, r < y + 1 → x ≤ r ∧ r < x + 2 ∨ y ≤ r → some r ≠ B := fun r h1 h2 e => by have := HBN.out _ e.symm; have := (hrow _ e.symm).2; omega
          have D7 := D6.touch T7 (by omega) (fun e => by have := HBN.out _ e.symm; omega) (fun e => by have := (HRK.out _ e).2; omega) (by
            cases R with
            | none => exact .inl rfl
            | some k => exact .inr fun e => by have := HBN.out k e.symm; have := (HRK.out k rfl).2; omega)
          have X7 := X6.touch T7 (by omega) (nx _ (by omega) (by omega))
          have S7 := S6.touch T7 (by omega) (nx _ (by omega) (by omega))
          have V7 := V6.touch T7 (by omega) (nx _ (by omega) (by omega))
          have H7 := H6.trans (T7.below H6.size (by omega) (fun k hk => (hrow k hk).1))
          have nb7 : ∀ k, B7 = some k → x + 2 ≤ k := fun k hk => by
            rcases hB7 with rfl | ⟨b, rfl, hb⟩
            · exact HBN.out k hk
            · have : b = k := by injection hk
              omega
          have HBN7 := Lib.hid nb7
          have A7 : Below u7.heap.size u7 (u7.alloc (.cells #[.int .i64 i2, .int .u64 (v : Nat), .int .i64 (a' : Nat), .int .i64 (b' : Nat)] 48)) := (Below.refl _ u7).alloc (Nat.le_refl _) _
          have Y8 := Blk.new u7 48 #[.int .i64 i2, .int .u64 (v : Nat), .int .i64 (a' : Nat), .int .i64 (b' : Nat)]
          have D8 := D7.below A7
          have E8 := E7.below A7
          have S8 := S7.below A7
          have V8 := V7.below A7
          have X8 := X7.below A7
          have H8 := H7.trans (A7.mono H7.size)
          have hz7 := T7.size
          clear s0 s1 s2 s3 D6 E6 S6 V6 X6 H6 D7 E7 S7 V7 X7 H7 T7 hB7 nx nb7 HPUT
          obtain ⟨s0, s1, s2, s3⟩ := X8.cells4
          obtain ⟨r0, r1, r2, r3⟩ := Y8.cells4
          go_wp2_with fail
          refine (lenI _ w.heap.size g2 B7 _ (pc : Int) E8 (by rw [HLEN.out])).mono ?_
          rintro e v ⟨rfl, rfl⟩
          go_wp2_with fail
          refine (At_any _ w.heap.size g R bs pc D8).mono ?_
          rintro e v ⟨rfl, rfl⟩
          go_wp2_with fail
          clear s0 s1 s2 s3 r0 r1 r2 r3
          obtain ⟨z, hzz⟩ : ∃ z, u7.heap.size = z := ⟨_, rfl⟩
          rw [hzz] at Y8 hz7 ⊢
          generalize u7.alloc (.cells #[.int .i64 i2, .int .u64 (v : Nat), .int .i64 (a' : Nat), .int .i64 (b' : Nat)] 48) = u8 at *
          clear A7 hzz
          refine wp_region_noPanic ?_
          refine wp_region_held_drew (S := fun W : World => Blk W y 48 #[.int .i64 i2, .int .u64 (v : Nat), .int .i64 (a' : Nat), .int .i64 (b' : Nat)] ∧ Blk W z 48 #[.int .i64 i2, .int .u64 (v : Nat), .int .i64 (a' : Nat), .int .i64 (b' : Nat)]) (by kernel_rfl) (⟨X8.drewN 1, Y8.drewN 1⟩) (fun hSt => ?_)
          have D9 : Rd u8.drew w.heap.size g R bs pc := D8
          have E9 : Wr u8.drew w.heap.size g2 B7 ((unB bs).take pc) := E8
          have S9 : Blk u8.drew x 48 _ := S8
          have V9 : Blk u8.drew (x + 1) 48 _ := V8
          have X9 : Blk u8.drew y 48 _ := X8
          have Y9 : Blk u8.drew z 48 _ := Y8
          have H9 : Below w.heap.size w u8.drew := below_drewN H8 1
          clear D8 E8 S8 V8 X8 Y8 H8
          generalize u8.drew = u9 at *
          refine wpAnyH_picks [0, 1] 2 (by rfl) (by kernel_rfl) (by kernel_rfl) (by kernel_rfl) (fun _ _ _ _ _ h => h) (by assumption) ?_
          simp only [picks, List.drop_succ_cons, List.drop_zero, List.take_succ_cons, List.take_zero, List.cons_append, List.nil_append]
          repeat (first
            | (refine wpY_skip (by rfl) ?_; simp only [Act.put, List.setIfInBounds_toArray, List.set_cons_zero, List.set_cons_succ])
            | (refine wpY_want (v := ?_) (by rfl) (fun W hW => ?_) ?_; rotate_left; (obtain ⟨hW0, hW1⟩ := hW; obtain ⟨hx0, hx1, hx2, hx3⟩ := hW0.cells4; obtain ⟨hy0, hy1, hy2, hy3⟩ := hW1.cells4; go_simp; try with_reducible rfl); simp only [Act.put, List.setIfInBounds_toArray, List.set_cons_zero, List.set_cons_succ]))
          refine wpY_nil ?_
          obtain ⟨s0, s1, s2, s3⟩ := S9.cells4
          obtain ⟨f0, f1, f2, f3⟩ := S9.free4
          refine wpAnyH_one 2 1 (by rfl) (by rfl) (by kernel_rfl) (fun K hK => ?_)
          go_simp
          have SA := S9.set4 (.int .i64 i2) (.int .u64 (v : Nat)) (.int .i64 (a' : Nat)) (.int .i64 (b' : Nat))
          have VA := V9.farSet4 (g' := x) (by omega) (.int .i64 i2) (.int .u64 (v : Nat)) (.int .i64 (a' : Nat)) (.int .i64 (b' : Nat))
          have XA := X9.farSet4 (g' := x) (by omega) (.int .i64 i2) (.int .u64 (v : Nat)) (.int .i64 (a' : Nat)) (.int .i64 (b' : Nat))
          have YA := Y9.farSet4 (g' := x) (by omega) (.int .i64 i2) (.int .u64 (v : Nat)) (.int .i64 (a' : Nat)) (.int .i64 (b' : Nat))
          have DA := D9.set4 (r := x) (by omega) (fun e => by have := (HRK.out _ e).2; omega) (.int .i64 i2) (.int .u64 (v : Nat)) (.int .i64 (a' : Nat)) (.int .i64 (b' : Nat))
          have EA := E9.set4 (r := x) (by omega) (fun e => by have := HBN7.out _ e; omega) (.int .i64 i2) (.int .u64 (v : Nat)) (.int .i64 (a' : Nat)) (.int .i64 (b' : Nat))
          have HA := below_set4 H9 (g := x) (by omega) (.int .i64 i2) (.int .u64 (v : Nat)) (.int .i64 (a' : Nat)) (.int .i64 (b' : Nat))
          refine hK.out _ _ (⟨XA, YA⟩) (fun hSt => ?_)
          clear hK K
          try simp only [Act.put, List.setIfInBounds_toArray, List.set_cons_zero, List.set_cons_succ]
          clear s0 s1 s2 s3 f0 f1 f2 f3 S9 V9 X9 Y9 D9 E9 H9
          unfold set4 at *
          generalize (((u9.setCell ⟨x, 0, none⟩ (.int .i64 i2)).setCell ⟨x, 1, none⟩ (.int .u64 (v : Nat))).setCell ⟨x, 2, none⟩ (.int .i64 (a' : Nat))).setCell ⟨x, 3, none⟩ (.int .i64 (b' : Nat)) = ua at *
          obtain ⟨s0, s1, s2, s3⟩ := VA.cells4
          obtain ⟨f0, f1, f2, f3⟩ := VA.free4
          refine wpAnyH_one 3 0 (by rfl) (by rfl) (by kernel_rfl) (fun K hK => ?_)
          go_simp
          have SB := SA.farSet4 (g' := x + 1) (by omega) (.int .i64 i2) (.int .u64 (v : Nat)) (.int .i64 (a' : Nat)) (.int .i64 (b' : Nat))
          have VB := VA.set4 (.int .i64 i2) (.int .u64 (v : Nat)) (.int .i64 (a' : Nat)) (.int .i64 (b' : Nat))
          have XB := XA.farSet4 (g' := x + 1) (by omega) (.int .i64 i2) (.int .u64 (v : Nat)) (.int .i64 (a' : Nat)) (.int .i64 (b' : Nat))
          have YB := YA.farSet4 (g' := x + 1) (by omega) (.int .i64 i2) (.int .u64 (v : Nat)) (.int .i64 (a' : Nat)) (.int .i64 (b' : Nat))
          have DB := DA.set4 (r := x + 1) (by omega) (fun e => by have := (HRK.out _ e).2; omega) (.int .i64 i2) (.int .u64 (v : Nat)) (.int .i64 (a' : Nat)) (.int .i64 (b' : Nat))
          have EB := EA.set4 (r := x + 1) (by omega) (fun e => by have := HBN7.out _ e; omega) (.int .i64 i2) (.int .u64 (v : Nat)) (.int .i64 (a' : Nat)) (.int .i64 (b' : Nat))
          have HB_ := below_set4 HA (g := x + 1) (by omega) (.int .i64 i2) (.int .u64 (v : Nat)) (.int .i64 (a' : Nat)) (.int .i64 (b' : Nat))
          refine hK.out _ _ (⟨XB, YB⟩) (fun hSt => ?_)
          clear hK K
          try simp only [Act.put, List.setIfInBounds_toArray, List.set_cons_zero, List.set_cons_succ]
          refine wpAnyH_done (by kernel_rfl) ?_ _
          refine NoPanic.normal ?_
          unfold set4 at *
          go_wp2_with fail
          go_roundw
          case rel => exact ⟨i + 1, pc, v, a', b', B7, by go_num, by omega, hpl, DB, EB, HBN7.out, by rw [HI2.out]; exact SB, by rw [HI2.out]; exact VB, Hv, Hab, HB_⟩
          case measure => simp [intOf]; omega
        · have HC0 := Lib.hid hC
          have GET := fun W h1 h2 h3 => xGet_no W w.heap.size g R bs p i V a b h1 h3 (by omega) HB.out h2 HRT.out (by rw [HG.out]; exact HC0.out)
          have HGET := Lib.hid GET
          clear hC GET
          go_wp2_with fail
          refine (HGET.out _ hD (fun k hk => by have := (HRK.out k hk).2; omega) TT).mono ?_
          rintro e u5 ⟨rfl, D5, T5⟩
          have E5 := hE.touch T5 (by omega) (by simp) (fun e => by have := HBN.out _ e; omega) (by cases B <;> simp)
          have S5 := hS.touch T5 (by omega) (by simp)
          have V5 := hV.touch T5 (by omega) (by simp)
          have H5 := hH.trans (T5.below hH.size (by have := hD.1; omega) (fun _ h => by cases h))
          have A5 : Below u5.heap.size u5 (u5.alloc (.cells #[.int .i64 0, .int .u64 0, .int .i64 0, .int .i64 0] 48)) := (Below.refl _ u5).alloc (Nat.le_refl _) _
          clear hE hS hV hD hH s0 s1 s2 s3 D5
          have hE := E5.below A5
          have hS := S5.below A5
          have hV := V5.below A5
          have hH := H5.trans (A5.mono H5.size)
          have hD : True := trivial
          clear E5 S5 V5 H5 T5 HGET HC0
          obtain ⟨lb, hlb⟩ : ∃ lb, (unB bs).take p = lb := ⟨_, rfl⟩
          have hlp : lb.length = p := by rw [← hlb]; exact again_len bs p hp
          rw [hlb] at hE
          have HLB := Lib.hid hlb
          have HLP := Lib.hid hlp
          clear hlb hlp
          have hg0 := hE.lt
          have hrow0 := hE.row
          have hRw := hR.below hH
          go_wp2_with fail
          refine (NewReader_any a0 _ cap0 bs _ w.heap.size hRw (by omega) hH.size).mono ?_
          rintro e v1 ⟨gx, Rx, rfl, hgx, hRx, X1, BX1⟩
          have H1 := below_more hH BX1
          have E1 := hE.below BX1
          have hgx1 := X1.lt
          have hs1 := BX1.size
          clear hRw hD hS hV BX1 hE hH
          go_wp2_with fail
          refine (WBytes_any v1 w.heap.size g2 B lb E1 (by have := HLP.out; omega)).mono ?_
          rintro e v2 ⟨vv, rfl, O2, BO2⟩
          obtain ⟨A2, c2, rfl, R2⟩ := RB.of_own O2
          have H2 := below_more H1 BO2
          have E2 := E1.below BO2
          have X2 := X1.below BO2
          have hs2 := BO2.size
          clear BO2 E1 X1 H1 O2
          have hpl : (pack lb).length ≤ 1000 := by rw [pack_length]; have := HLP.out; omega
          go_wp2_with fail
          refine (NewReader_any A2 _ c2 (pack lb) v2 w.heap.size R2 (by omega) H2.size).mono ?_
          rintro e v3 ⟨gz, Rz, rfl, hgz, hRz, Z3, BZ3⟩
          have H3 := below_more H2 BZ3
          have E3 := E2.below BZ3
          have X3 := X2.below BZ3
          have hs3 := BZ3.size
          have HRX := Lib.hid hRx
          have HRZ := Lib.hid hRz
          clear BZ3 E2 X2 H2 R2 hRx hRz
          go_wp2_with fail
          go_loopw [15] (fun iv wq => ∃ i : Nat, iv = .int .i64 i ∧ i ≤ p ∧ Rd wq w.heap.size gx Rx bs i ∧ Rd wq w.heap.size gz Rz (pack lb) i ∧ Wr wq w.heap.size g2 B lb ∧ Below w.heap.size w wq) (fun iv _ => p - (intOf iv).toNat)
          case atStart => exact ⟨0, rfl, Nat.zero_le _, X3, Z3, E3, H3⟩
          case round =>
            obtain ⟨i, rfl, hi, hX, hZ, hE, hH⟩ := hrel
            clear X3 Z3 E3 H3
            go_wp2_with fail
            refine (lenI _ w.heap.size g2 B lb (p : Int) hE (by rw [HLP.out])).mono ?_
            rintro e wr ⟨rfl, rfl⟩
            rcases Nat.lt_or_ge i p with hlt | hge
            · obtain ⟨bt, m1, m2, hb1, hb2⟩ := once_bits bs p i lb hp hlt HLB.out
              obtain ⟨bv, hbv⟩ : ∃ bv : Int, (bt.toNat : Int) = bv := ⟨_, rfl⟩
              have gx_ := fun W h => bit_ok W w.heap.size gx Rx bs i bt m1 bv h HB.out hb1 hbv
              have gz_ := fun W h => bit_ok W w.heap.size gz Rz (pack lb) i bt m2 bv h (pack_byte lb) hb2 hbv
              have GX := Lib.hid gx_
              have GZ := Lib.hid gz_
              clear hb1 hb2 gx_ gz_ hbv
              go_wp2_with fail
              refine (GX.out _ hX).mono ?_
              rintro e v4 ⟨rfl, X4, T4⟩
              have Z4 := hZ.touch T4 (by omega) (by simp) (fun e => by have := (HRZ.out _ e).1; omega) (by cases Rz <;> simp)
              have E4 := hE.touch T4 (by omega) (by simp) (fun e => by have := (hrow0 _ e).2; omega) (by cases B <;> simp)
              have H4 := hH.trans (T4.below hH.size (by have := hX.1; omega) (fun _ h => by cases h))
              clear hX hZ hE hH T4
              go_wp2_with fail
              refine (GZ.out _ Z4).mono ?_
              rintro e v5 ⟨rfl, Z5, T5⟩
              have X5 := X4.touch T5 (by omega) (by simp) (fun e => by have := (HRX.out _ e).2; omega) (by cases Rx <;> simp)
              have E5 := E4.touch T5 (by omega) (by simp) (fun e => by have := (hrow0 _ e).2; omega) (by cases B <;> simp)
              have H5 := H4.trans (T5.below H4.size (by have := Z4.1; omega) (fun _ h => by cases h))
              clear X4 Z4 E4 H4 T5
              go_wp2_with fail
              go_roundw
              case rel => exact ⟨i + 1, by go_num, hlt, X5, Z5, E5, H5⟩
              case measure => simp [intOf]; omega
            · go_wp2_with fail
              go_ret
              exact ⟨rfl, hH⟩
      · clear s0 s1 s2 s3
        obtain ⟨lb, hlb⟩ : ∃ lb, (unB bs).take p = lb := ⟨_, rfl⟩
        have hlp : lb.length = p := by rw [← hlb]; exact again_len bs p hp
        rw [hlb] at hE
        have HLB := Lib.hid hlb
        have HLP := Lib.hid hlp
        clear hlb hlp
        have hg0 := hE.lt
        have hrow0 := hE.row
        have hRw := hR.below hH
        go_wp2_with fail
        refine (NewReader_any a0 _ cap0 bs _ w.heap.size hRw (by omega) hH.size).mono ?_
        rintro e v1 ⟨gx, Rx, rfl, hgx, hRx, X1, BX1⟩
        have H1 := below_more hH BX1
        have E1 := hE.below BX1
        have hgx1 := X1.lt
        have hs1 := BX1.size
        clear hRw hD hS hV BX1 hE hH
        go_wp2_with fail
        refine (WBytes_any v1 w.heap.size g2 B lb E1 (by have := HLP.out; omega)).mono ?_
        rintro e v2 ⟨vv, rfl, O2, BO2⟩
        obtain ⟨A2, c2, rfl, R2⟩ := RB.of_own O2
        have H2 := below_more H1 BO2
        have E2 := E1.below BO2
        have X2 := X1.below BO2
        have hs2 := BO2.size
        clear BO2 E1 X1 H1 O2
        have hpl : (pack lb).length ≤ 1000 := by rw [pack_length]; have := HLP.out; omega
        go_wp2_with fail
        refine (NewReader_any A2 _ c2 (pack lb) v2 w.heap.size R2 (by omega) H2.size).mono ?_
        rintro e v3 ⟨gz, Rz, rfl, hgz, hRz, Z3, BZ3⟩
        have H3 := below_more H2 BZ3
        have E3 := E2.below BZ3
        have X3 := X2.below BZ3
        have hs3 := BZ3.size
        have HRX := Lib.hid hRx
        have HRZ := Lib.hid hRz
        clear BZ3 E2 X2 H2 R2 hRx hRz
        go_wp2_with fail
        go_loopw [15] (fun iv wq => ∃ i : Nat, iv = .int .i64 i ∧ i ≤ p ∧ Rd wq w.heap.size gx Rx bs i ∧ Rd wq w.heap.size gz Rz (pack lb) i ∧ Wr wq w.heap.size g2 B lb ∧ Below w.heap.size w wq) (fun iv _ => p - (intOf iv).toNat)
        case atStart => exact ⟨0, rfl, Nat.zero_le _, X3, Z3, E3, H3⟩
        case round =>
          obtain ⟨i, rfl, hi, hX, hZ, hE, hH⟩ := hrel
          clear X3 Z3 E3 H3
          go_wp2_with fail
          refine (lenI _ w.heap.size g2 B lb (p : Int) hE (by rw [HLP.out])).mono ?_
          rintro e wr ⟨rfl, rfl⟩
          rcases Nat.lt_or_ge i p with hlt | hge
          · obtain ⟨bt, m1, m2, hb1, hb2⟩ := once_bits bs p i lb hp hlt HLB.out
            obtain ⟨bv, hbv⟩ : ∃ bv : Int, (bt.toNat : Int) = bv := ⟨_, rfl⟩
            have gx_ := fun W h => bit_ok W w.heap.size gx Rx bs i bt m1 bv h HB.out hb1 hbv
            have gz_ := fun W h => bit_ok W w.heap.size gz Rz (pack lb) i bt m2 bv h (pack_byte lb) hb2 hbv
            have GX := Lib.hid gx_
            have GZ := Lib.hid gz_
            clear hb1 hb2 gx_ gz_ hbv
            go_wp2_with fail
            refine (GX.out _ hX).mono ?_
            rintro e v4 ⟨rfl, X4, T4⟩
            have Z4 := hZ.touch T4 (by omega) (by simp) (fun e => by have := (HRZ.out _ e).1; omega) (by cases Rz <;> simp)
            have E4 := hE.touch T4 (by omega) (by simp) (fun e => by have := (hrow0 _ e).2; omega) (by cases B <;> simp)
            have H4 := hH.trans (T4.below hH.size (by have := hX.1; omega) (fun _ h => by cases h))
            clear hX hZ hE hH T4
            go_wp2_with fail
            refine (GZ.out _ Z4).mono ?_
            rintro e v5 ⟨rfl, Z5, T5⟩
            have X5 := X4.touch T5 (by omega) (by simp) (fun e => by have := (HRX.out _ e).2; omega) (by cases Rx <;> simp)
            have E5 := E4.touch T5 (by omega) (by simp) (fun e => by have := (hrow0 _ e).2; omega) (by cases B <;> simp)
            have H5 := H4.trans (T5.below H4.size (by have := Z4.1; omega) (fun _ h => by cases h))
            clear X4 Z4 E4 H4 T5
            go_wp2_with fail
            go_roundw
            case rel => exact ⟨i + 1, by go_num, hlt, X5, Z5, E5, H5⟩
            case measure => simp [intOf]; omega
          · go_wp2_with fail
            go_ret
            exact ⟨rfl, hH⟩

/-- The table as the program's text lays it. -/
theorem door_met (os : Os) (args : Array Value) : laidMetH Tryd.prog [("math/bits.deBruijn64tab", Rows.laid_math_bits_deBruijn64tab)] ((World.doorLaid Tryd.prog 400 os).forCall (fun _ _ => 0) ⟨#[], args, []⟩).memory :=
  laidMetH_of_parts3 (fuel := 8) (laidMet_of_run' 8 (by kernel_rfl) (by kernel_rfl)) (by kernel_rfl) (by kernel_rfl)

set_option maxRecDepth 100000 in
theorem lifted (os : Os) (started : os.Started) (H : Type) (enc : TypeId × Value → H) :
    ReturnsInHanded {} Tryd.checked os 12 .any (fun w args => (Rows.xorOnceSpec.pre enc Tryd.prog Tryd.f12 [] false w args ∧ laidMetH Tryd.prog [("math/bits.deBruijn64tab", Rows.laid_math_bits_deBruijn64tab)] w) ∧ sizedMet enc Tryd.prog Tryd.f12 (OpenSpec.ofChange Rows.xorOnceSpec) false w args) (Rows.xorOnceSpec.post enc Tryd.prog Tryd.f12 false true false false) := by
  refine returnsInHanded_of_change_and (C := Tryd.checked) (X := fun w _ => laidMetH Tryd.prog [("math/bits.deBruijn64tab", Rows.laid_math_bits_deBruijn64tab)] w) (fun _ _ _ hh h => h.of_heap hh) own started (by kernel_rfl) Tryd.func12
    (ChangeSpec.witness_shaped (enc := enc) (C := Tryd.checked) (os := os) (X := fun w _ => laidMetH Tryd.prog [("math/bits.deBruijn64tab", Rows.laid_math_bits_deBruijn64tab)] w) false (World.doorLaid Tryd.prog 400 os) #[.slice none 0 0] 8 rfl (World.shaped_of_RefB (by kernel_rfl) (by kernel_rfl)) (by kernel_rfl) (by kernel_rfl) (by kernel_rfl) (door_met os _)) ?_
  intro W base args ds gs before hval0 hW _ _ hL _
  have hval : ∀ (j : Nat) t v, Tryd.f12.params[j]? = some t → args[j]? = some v → Value.okWide Tryd.prog W .any base t v := hval0
  have hW' := hW
  obtain ⟨p, q, hA0, hV, rfl, hfz, hnd⟩ := hW
  have hA : DataW.TrodAll enc Tryd.prog W 0 (fun _ => true) true Tryd.f12.params.toList args.toList ds p := hA0
  rw [Tryd.params12] at hA hval
  obtain ⟨v0, vs0, d0, ds0, p0, q0, hargs, rfl, rfl, h0, r0⟩ := trodAll_cons hA
  obtain ⟨rfl, rfl, rfl⟩ := trodAll_nil r0
  obtain rfl : args = #[v0] := by cases args; simp_all
  obtain ⟨rfl, rfl⟩ := trodVars_none hV
  have k0 := h0
  have lt0 : ∀ x ∈ p0, x.block < W.heap.size := by obtain ⟨m, hm⟩ := k0; exact DataW.trod_lt m _ _ _ hm
  obtain ⟨a0, len0, cap0, rfl⟩ := okWide_slice Tryd.underlying43 (hval 0 43 v0 rfl rfl)
  obtain ⟨z0, w0⟩ : ∃ zs, IsRow .u8 W a0 len0 cap0 zs := by
    obtain ⟨fuel, hf⟩ := h0
    exact row_of Tryd.underlying43 Tryd.underlying5 (by kernel_rfl) hf
  have hT : XorTab W := xorTab_of hL
  clear hA0 hval0
  refine (walk a0 len0 cap0 z0 W w0 hT).mono fun e W' ⟨he, bel⟩ => ?_
  subst he
  exact ⟨_, rfl, _, _, _, [], _, [], hW', trodAll_mk1 (shut_bool Tryd.underlying4 _), (trodAll_cons_mk (Below.trod laidOut (by kernel_rfl) (of_decide_eq_true (by kernel_rfl)) k0 bel lt0) trodAll_mk0), rfl, bel.frame _, fun h => by cases h⟩

theorem over : Rows.xorOnceRow.holds Tryd.pinned (OpenSpec.ofChange Rows.xorOnceSpec) :=
  OpenClaim.holds_of_wide 12 Tryd.f12 rfl rfl rfl rfl rfl rfl rfl ⟨rfl, rfl, rfl, rfl, rfl⟩ rfl rfl rfl rfl rfl (by kernel_rfl) Tryd.func12 (by kernel_rfl)
    (of_decide_eq_true (by kernel_rfl)) (by unfold Func.isWrapper; first | (rw [if_pos (by decide +kernel)]; kernel_rfl) | (rw [if_neg (by decide +kernel)]; exact ⟨rfl, rfl⟩))
    (fun os started H enc _ => lifted os started H enc)

theorem proved : Rows.XorOnceSaid := over

theorem card_holds : Rows.XorOnceCardSaid :=
  Claim7.holds_tied_plain_at .later [] [.data] true (true, "be161dddcf822252aefe1cd3c089d2ded8312abac7a911784b1c12d962751af1") false
    over (fun _ h => by cases h) (by kernel_rfl) (fun _ h => by cases h) xorOnce_row_tie rfl ⟨rfl, rfl⟩ (by kernel_rfl) rfl
    (fun f fn hf hfn => by
      obtain rfl : f = 12 := Option.some.inj ((show Tryd.prog.funcNamed "tidepole/tidepolelaw07.XorOnce" = some 12 by kernel_rfl).symm.trans hf) |>.symm
      obtain rfl : fn = Tryd.f12 := (Option.some.inj (Tryd.func12.symm.trans hfn)).symm
      exact ⟨by kernel_rfl, fun j t ht => by
        rw [Tryd.params12] at ht
        have hm : t ∈ ([43] : List Nat) := by simpa using Array.mem_of_getElem? ht
        have hall : (([43] : List Nat).all fun u => !Tryd.prog.wantsStandIn u) = true := by kernel_rfl
        exact (show Tryd.prog.wantsStandIn t = false by simpa using List.all_eq_true.1 hall t hm)⟩)
    (by kernel_rfl)
#print axioms card_holds
end Go.Proofs.YtlgndfckmnninaaDoor.xorOnce
