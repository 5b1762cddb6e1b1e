/- The Go function tidepole/tidepolelaw07.XorSmall returns true for every input, and each argument reads afterwards as it read before. Conditions: none beyond the given row's own. -/
import Derived.Test.YtlgndfckmnninaaDoorRows
import Derived.Test.YtlgndfckmnninaaDoorXorK
import Derived.Test.YtlgndfckmnninaaDoorBitsC
import Derived.Test.YtlgndfckmnninaaDoorFields
import Derived.WalkKit
import Derived.ProofKit
import Derived.OpenShut
import Derived.ChangeOld
import Derived.Below
import Derived.Deep.QuietTactic
import Derived.BigQuiet
import Derived.Deep.RegionHeld3
import Derived.LaidMore
import Derived.Stop.Joined
import Derived.SevenTiedAt
import Derived.Test.YtlgndfckmnninaaDoorCards
import Derived.Test.YtlgndfckmnninaaDoorTie
namespace Go.Proofs.YtlgndfckmnninaaDoor.xorSmall
open Go.ChangeShapes Go.WideShapes Go.ChangeAt Go.RowKit
set_option linter.unusedVariables false

theorem own : ownKnob Tryd.prog.godebug = none := by kernel_rfl
theorem laidOut : laidOutB Tryd.prog = true := by kernel_rfl

set_option maxRecDepth 100000 in
set_option maxHeartbeats 6400000 in
theorem walk (a0 : Option Addr) (len0 cap0 : Nat) (z0 : List Int) (a1 : Option Addr) (len1 cap1 : Nat) (z1 : List Bool) (w : World) (w0 : IsRow .u64 w a0 len0 cap0 z0) (w1 : IsBools w a1 len1 cap1 z1) (hT : XorTab w) :
    Calls Tryd.prog 5 #[.slice a0 len0 cap0, .slice a1 len1 cap1] w fun e w' => e = .returned (.bool true) ∧ Below w.heap.size w w' := by
  have hrow0 := w0.2.2.2.2
  have hwf := w0.2.2.2.1
  have hl0 := w0.1
  have hlc0 := w0.2.1
  have hcp0 := w0.2.2.1
  obtain ⟨hl1, hlc1, hcp1, hb1⟩ := w1
  clear w0
  have HROW := Lib.hid hrow0
  have HWF := Lib.hid hwf
  have HL0 := Lib.hid hl0
  have HB1 := Lib.hid hb1
  clear hrow0 hwf hl0 hl1 hb1
  go_enter Tryd.func5, Tryd.ntmps5
  go_wp2_with fail
  refine (works7_any w hT).mono ?_
  rintro e u1 ⟨rfl, hB1⟩
  go_wp2_with fail
  refine (NewWriter_any u1 w.heap.size hB1.size).mono ?_
  rintro e u2 ⟨g, rfl, hg, W2, hB2⟩
  have H2 := hB1.trans (hB2.mono hB1.size)
  have hg0 : w.heap.size ≤ g := by have := hB1.size; omega
  go_wp2_with fail
  refine (begin_any u2).mono ?_
  rintro e u3 ⟨rfl, hB3⟩
  have H3 := below_more H2 hB3
  have W3 := W2.below hB3
  have A3 : Below u3.heap.size u3 (u3.alloc (.cells #[.int .i64 0, .int .u64 0, .int .i64 64, .int .i64 0] 48)) := (Below.refl _ u3).alloc (Nat.le_refl _) _
  have X4 := Blk.new u3 48 #[.int .i64 0, .int .u64 0, .int .i64 64, .int .i64 0]
  have W4 := W3.below A3
  have H4 := H3.trans (A3.mono H3.size)
  have hgl := W3.lt
  have hx3 := H3.size
  go_wp2_with fail
  obtain ⟨x, hx⟩ : ∃ x, u3.heap.size = x := ⟨_, rfl⟩
  rw [hx] at X4 hgl hx3 ⊢
  generalize u3.alloc (.cells #[.int .i64 0, .int .u64 0, .int .i64 64, .int .i64 0] 48) = u4 at *
  clear hB1 hB2 hB3 H2 H3 W2 W3 A3 hx
  go_loopw [7] (fun iv wr => ∃ (i V a b : Nat) (B : Option Nat) (Lb : List Bool), iv = .int .i64 i ∧ i ≤ len0 ∧ i ≤ 60 ∧ Wr wr w.heap.size g B Lb ∧ Blk wr x 48 #[.int .i64 i, .int .u64 (V : Nat), .int .i64 (a : Nat), .int .i64 (b : Nat)] ∧ Below w.heap.size w wr ∧ B ≠ some x ∧ Lb.length ≤ 78 * i ∧ V < 2 ^ 64 ∧ (a = 64 ∧ b = 0 ∨ a + b ≤ 63)) (fun iv _ => 60 - (intOf iv).toNat)
  case atStart => exact ⟨0, 0, 64, 0, none, [], rfl, by omega, by omega, W4, X4, H4, by simp, by simp, by omega, .inl ⟨rfl, rfl⟩⟩
  case round =>
    obtain ⟨i, V, a, b, B, Lb, rfl, hi1, hi2, hW, hX, hH, hBx, hLb, hV, hab⟩ := hrel
    clear W4 X4 H4
    by_cases hmm : i < len0 ∧ i < 60
    · obtain ⟨g1, g2⟩ := hmm
      have hV64 : V < 18446744073709551616 := by omega
      have HV := Lib.hid hV64
      have HBX := Lib.hid hBx
      have hrow := hW.row
      obtain ⟨bk, off, ha0, hc0⟩ := HROW.out (by omega)
      subst ha0
      have hzi := hc0 i g1
      have hil : i < z0.length := by rw [HL0.out]; exact g1
      obtain ⟨X, hXe, hX64⟩ := nat_of_u64 (HWF.out z0[i] (List.getElem_mem _))
      rw [List.getElem?_eq_getElem hil, Option.getD_some, hXe] at hzi
      have HX := Lib.hid hX64
      have hz := cell_keep hH hzi
      obtain ⟨i2, hi2'⟩ : ∃ i2 : Int, ((i + 1 : Nat) : Int) = i2 := ⟨_, rfl⟩
      have HI2 := Lib.hid hi2'
      obtain ⟨c1, hc1⟩ : ∃ c1 : Int, (Lb.length : Int) = c1 := ⟨_, rfl⟩
      have HC1 := Lib.hid hc1
      have hln : Lb.length = c1.toNat := by omega
      have hc1l : 0 ≤ c1 := by omega
      have hc1u : c1 ≤ 5000 := by omega
      have hxb : x < wr.heap.size := hX.lt
      obtain ⟨c0, c1', d2, d3⟩ := hX.cells4
      clear hBx hV hV64 hX64 hXe hzi hc0 hil hi2' hc1
      have hcase : i = 0 ∨ (0 < i ∧ ((i < len1 ∧ z1[i]?.getD false = true) ∨ (i < len1 ∧ z1[i]?.getD false = false) ∨ ¬ i < len1)) := by
        by_cases e : i = 0
        · exact .inl e
        · by_cases e2 : i < len1
          · cases e3 : z1[i]?.getD false
            · exact .inr ⟨by omega, .inr (.inl ⟨e2, rfl⟩)⟩
            · exact .inr ⟨by omega, .inl ⟨e2, rfl⟩⟩
          · exact .inr ⟨by omega, .inr (.inr e2)⟩
      rcases hcase with hi0 | ⟨hip, hcase⟩
      · obtain ⟨M2, hM2⟩ : ∃ M2, Lb ++ encX i V a b X = M2 := ⟨_, rfl⟩
        obtain ⟨c2, hc2⟩ : ∃ c2 : Int, (M2.length : Int) = c2 := ⟨_, rfl⟩
        have hn0 : (encX (i : Nat) V a b X).length = 64 := by rw [hi0]; unfold encX; rw [if_pos (show ((0 : Nat) : Int) = 0 from rfl), length_bitsOf]
        have hs : c2 - c1 = 64 := by rw [← hc2, ← hM2, List.length_append]; push_cast; omega
        have hle := encX_le i V a b X hab HX.out HV.out
        have hl2 : M2.length ≤ 78 * (i + 1) := by rw [← hM2, List.length_append]; omega
        have hc2b : 0 ≤ c2 ∧ c2 ≤ 5000 := by omega
        obtain ⟨hc2l, hc2u⟩ := hc2b
        have hwo := winX_ok i V a b X hab HX.out HV.out
        obtain ⟨a2, ha2⟩ : ∃ a2, (winX i V a b X).1 = a2 := ⟨_, rfl⟩
        obtain ⟨b2, hb2⟩ : ∃ b2, (winX i V a b X).2 = b2 := ⟨_, rfl⟩
        rw [ha2, hb2] at hwo
        have PU := fun W h1 h2 h3 => xPut_to W w.heap.size g B Lb M2 i V a b X i2 (X : Nat) (a2 : Nat) (b2 : Nat) V a b h1 h2 (by omega) h3 (rightX_mk ⟨by omega, by omega, by omega⟩) HV.out HX.out (by rw [← HI2.out]; push_cast; rfl) rfl (by rw [ha2]) (by rw [hb2]) hM2 rfl rfl rfl
        have HPU := Lib.hid PU
        have HC2 := Lib.hid hc2
        have HL2 := Lib.hid hl2
        have HWO := Lib.hid hwo
        clear hn0 PU hc2 hM2 hl2 hwo ha2 hb2 hle hln
        have hp1 : ¬ 0 < i := by omega
        have hp2 : decide (0 < i) = false := decide_eq_false hp1
        have hp3 : decide ((0 : Int) < (i : Int)) = false := decide_eq_false (by omega)
        clear hi0
        go_wp2_with fail
        refine (lenI _ w.heap.size g B Lb c1 hW HC1.out).mono ?_
        rintro e wr ⟨rfl, rfl⟩
        go_wp2_with fail
        refine (HPU.out _ hW (hT.below hH) hH.size).mono ?_
        rintro e u5 ⟨rfl, B5, W5, hB5, hT5⟩
        have X5 := hX.touch hT5 (by omega) (fun e => HBX.out e.symm)
        have H5 := hH.trans (hT5.below hH.size hg0 (fun k hk => (hrow k hk).1))
        have nb5 : B5 ≠ some x := fun e => by
          rcases hB5 with rfl | ⟨b, rfl, hb⟩
          · exact HBX.out e
          · have : b = x := by injection e
            omega
        have HB5 := Lib.hid nb5
        have A5 : Below u5.heap.size u5 (u5.alloc (.cells #[.int .i64 i2, .int .u64 (X : Nat), .int .i64 (a2 : Nat), .int .i64 (b2 : Nat)] 48)) := (Below.refl _ u5).alloc (Nat.le_refl _) _
        have Y5 := Blk.new u5 48 #[.int .i64 i2, .int .u64 (X : Nat), .int .i64 (a2 : Nat), .int .i64 (b2 : Nat)]
        have X6 := X5.below A5
        have W6 := W5.below A5
        have H6 := H5.trans (A5.mono H5.size)
        have hz5 := hT5.size
        have hg5 := W5.lt
        have hx5 := X5.lt
        clear c0 c1' d2 d3 nb5 hB5 hT5 X5 W5 H5 HPU
        go_wp2_with fail
        obtain ⟨y, hy⟩ : ∃ y, u5.heap.size = y := ⟨_, rfl⟩
        rw [hy] at Y5 hx5 hg5 hz5 ⊢
        generalize u5.alloc (.cells #[.int .i64 i2, .int .u64 (X : Nat), .int .i64 (a2 : Nat), .int .i64 (b2 : Nat)] 48) = u6 at *
        clear A5 hy
        refine (lenI _ w.heap.size g B5 M2 c2 W6 HC2.out).mono ?_
        rintro e uz ⟨rfl, rfl⟩
        obtain ⟨q0, q1, q2, q3⟩ := X6.cells4
        obtain ⟨p0, p1, p2, p3⟩ := Y5.cells4
        obtain ⟨f0, f1, f2, f3⟩ := X6.free4
        go_wp2_with fail
        have X7 := X6.set4 (.int .i64 i2) (.int .u64 (X : Nat)) (.int .i64 (a2 : Nat)) (.int .i64 (b2 : Nat))
        have W7 := W6.set4 (r := x) (by omega) HB5.out (.int .i64 i2) (.int .u64 (X : Nat)) (.int .i64 (a2 : Nat)) (.int .i64 (b2 : Nat))
        have H7 := below_set4 H6 (g := x) (by omega) (.int .i64 i2) (.int .u64 (X : Nat)) (.int .i64 (a2 : Nat)) (.int .i64 (b2 : Nat))
        unfold set4 at *
        go_roundw
        case rel => exact ⟨i + 1, X, a2, b2, B5, M2, by go_num, by omega, by omega, W7, by rw [HI2.out]; exact X7, H7, HB5.out, HL2.out, HX.out, HWO.out⟩
        case measure => simp [intOf]; omega
      · have hip' : (0 : Int) < (i : Int) := by omega
        have hN : ((i : Nat) : Int) ≠ 0 := by omega
        rcases hcase with ⟨e2, e3⟩ | hcase
        · obtain ⟨bk2, off2, ha1, hc1b⟩ := HB1.out (by omega)
          subst ha1
          have hq := hc1b i e2
          rw [e3] at hq
          have hq := cell_keep hH hq
          clear hc1b e3
          obtain ⟨M2, hM2⟩ : ∃ M2, Lb ++ encX i V a b V = M2 := ⟨_, rfl⟩
          obtain ⟨c2, hc2⟩ : ∃ c2 : Int, (M2.length : Int) = c2 := ⟨_, rfl⟩
          have hn0 : (encX (i : Nat) V a b V).length = 1 := by unfold encX; rw [if_neg hN, Nat.xor_self]; exact (encD_len a b 0 hab (by omega)).1 rfl
          have hs : c2 - c1 = 1 := by rw [← hc2, ← hM2, List.length_append]; push_cast; omega
          have hle := encX_le i V a b V hab HV.out HV.out
          have hl2 : M2.length ≤ 78 * (i + 1) := by rw [← hM2, List.length_append]; omega
          have hc2b : 0 ≤ c2 ∧ c2 ≤ 5000 := by omega
          obtain ⟨hc2l, hc2u⟩ := hc2b
          have hwo := winX_ok i V a b V hab HV.out HV.out
          obtain ⟨a2, ha2⟩ : ∃ a2, (winX i V a b V).1 = a2 := ⟨_, rfl⟩
          obtain ⟨b2, hb2⟩ : ∃ b2, (winX i V a b V).2 = b2 := ⟨_, rfl⟩
          rw [ha2, hb2] at hwo
          have PU := fun W h1 h2 h3 => xPut_to W w.heap.size g B Lb M2 i V a b V i2 (V : Nat) (a2 : Nat) (b2 : Nat) V a b h1 h2 (by omega) h3 (rightX_mk ⟨by omega, by omega, by omega⟩) HV.out HV.out (by rw [← HI2.out]; push_cast; rfl) rfl (by rw [ha2]) (by rw [hb2]) hM2 rfl rfl rfl
          have HPU := Lib.hid PU
          have HC2 := Lib.hid hc2
          have HL2 := Lib.hid hl2
          have HWO := Lib.hid hwo
          clear hn0 PU hc2 hM2 hl2 hwo ha2 hb2 hle hln
          go_wp2_with fail
          refine (lenI _ w.heap.size g B Lb c1 hW HC1.out).mono ?_
          rintro e wr ⟨rfl, rfl⟩
          go_wp2_with fail
          refine (HPU.out _ hW (hT.below hH) hH.size).mono ?_
          rintro e u5 ⟨rfl, B5, W5, hB5, hT5⟩
          have X5 := hX.touch hT5 (by omega) (fun e => HBX.out e.symm)
          have H5 := hH.trans (hT5.below hH.size hg0 (fun k hk => (hrow k hk).1))
          have nb5 : B5 ≠ some x := fun e => by
            rcases hB5 with rfl | ⟨b, rfl, hb⟩
            · exact HBX.out e
            · have : b = x := by injection e
              omega
          have HB5 := Lib.hid nb5
          have A5 : Below u5.heap.size u5 (u5.alloc (.cells #[.int .i64 i2, .int .u64 (V : Nat), .int .i64 (a2 : Nat), .int .i64 (b2 : Nat)] 48)) := (Below.refl _ u5).alloc (Nat.le_refl _) _
          have Y5 := Blk.new u5 48 #[.int .i64 i2, .int .u64 (V : Nat), .int .i64 (a2 : Nat), .int .i64 (b2 : Nat)]
          have X6 := X5.below A5
          have W6 := W5.below A5
          have H6 := H5.trans (A5.mono H5.size)
          have hz5 := hT5.size
          have hg5 := W5.lt
          have hx5 := X5.lt
          clear c0 c1' d2 d3 nb5 hB5 hT5 X5 W5 H5 HPU
          go_wp2_with fail
          obtain ⟨y, hy⟩ : ∃ y, u5.heap.size = y := ⟨_, rfl⟩
          rw [hy] at Y5 hx5 hg5 hz5 ⊢
          generalize u5.alloc (.cells #[.int .i64 i2, .int .u64 (V : Nat), .int .i64 (a2 : Nat), .int .i64 (b2 : Nat)] 48) = u6 at *
          clear A5 hy
          refine (lenI _ w.heap.size g B5 M2 c2 W6 HC2.out).mono ?_
          rintro e uz ⟨rfl, rfl⟩
          obtain ⟨q0, q1, q2, q3⟩ := X6.cells4
          obtain ⟨p0, p1, p2, p3⟩ := Y5.cells4
          obtain ⟨f0, f1, f2, f3⟩ := X6.free4
          go_wp2_with fail
          have X7 := X6.set4 (.int .i64 i2) (.int .u64 (V : Nat)) (.int .i64 (a2 : Nat)) (.int .i64 (b2 : Nat))
          have W7 := W6.set4 (r := x) (by omega) HB5.out (.int .i64 i2) (.int .u64 (V : Nat)) (.int .i64 (a2 : Nat)) (.int .i64 (b2 : Nat))
          have H7 := below_set4 H6 (g := x) (by omega) (.int .i64 i2) (.int .u64 (V : Nat)) (.int .i64 (a2 : Nat)) (.int .i64 (b2 : Nat))
          unfold set4 at *
          go_roundw
          case rel => exact ⟨i + 1, V, a2, b2, B5, M2, by go_num, by omega, by omega, W7, by rw [HI2.out]; exact X7, H7, HB5.out, HL2.out, HV.out, HWO.out⟩
          case measure => simp [intOf]; omega
        · by_cases hxv : X = V
          · subst hxv
            rcases hcase with ⟨e2, e3⟩ | e2
            · obtain ⟨bk2, off2, ha1, hc1b⟩ := HB1.out (by omega)
              subst ha1
              have hq := hc1b i e2
              rw [e3] at hq
              have hq := cell_keep hH hq
              clear hc1b e3
              obtain ⟨M2, hM2⟩ : ∃ M2, Lb ++ encX i X a b X = M2 := ⟨_, rfl⟩
              obtain ⟨c2, hc2⟩ : ∃ c2 : Int, (M2.length : Int) = c2 := ⟨_, rfl⟩
              have hn0 : (encX (i : Nat) X a b X).length = 1 := by unfold encX; rw [if_neg hN, Nat.xor_self]; exact (encD_len a b 0 hab (by omega)).1 rfl
              have hs : c2 - c1 = 1 := by rw [← hc2, ← hM2, List.length_append]; push_cast; omega
              have hle := encX_le i X a b X hab HX.out HV.out
              have hl2 : M2.length ≤ 78 * (i + 1) := by rw [← hM2, List.length_append]; omega
              have hc2b : 0 ≤ c2 ∧ c2 ≤ 5000 := by omega
              obtain ⟨hc2l, hc2u⟩ := hc2b
              have hwo := winX_ok i X a b X hab HX.out HV.out
              obtain ⟨a2, ha2⟩ : ∃ a2, (winX i X a b X).1 = a2 := ⟨_, rfl⟩
              obtain ⟨b2, hb2⟩ : ∃ b2, (winX i X a b X).2 = b2 := ⟨_, rfl⟩
              rw [ha2, hb2] at hwo
              have PU := fun W h1 h2 h3 => xPut_to W w.heap.size g B Lb M2 i X a b X i2 (X : Nat) (a2 : Nat) (b2 : Nat) X a b h1 h2 (by omega) h3 (rightX_mk ⟨by omega, by omega, by omega⟩) HV.out HX.out (by rw [← HI2.out]; push_cast; rfl) rfl (by rw [ha2]) (by rw [hb2]) hM2 rfl rfl rfl
              have HPU := Lib.hid PU
              have HC2 := Lib.hid hc2
              have HL2 := Lib.hid hl2
              have HWO := Lib.hid hwo
              clear hn0 PU hc2 hM2 hl2 hwo ha2 hb2 hle hln
              go_wp2_with fail
              refine (lenI _ w.heap.size g B Lb c1 hW HC1.out).mono ?_
              rintro e wr ⟨rfl, rfl⟩
              go_wp2_with fail
              refine (HPU.out _ hW (hT.below hH) hH.size).mono ?_
              rintro e u5 ⟨rfl, B5, W5, hB5, hT5⟩
              have X5 := hX.touch hT5 (by omega) (fun e => HBX.out e.symm)
              have H5 := hH.trans (hT5.below hH.size hg0 (fun k hk => (hrow k hk).1))
              have nb5 : B5 ≠ some x := fun e => by
                rcases hB5 with rfl | ⟨b, rfl, hb⟩
                · exact HBX.out e
                · have : b = x := by injection e
                  omega
              have HB5 := Lib.hid nb5
              have A5 : Below u5.heap.size u5 (u5.alloc (.cells #[.int .i64 i2, .int .u64 (X : Nat), .int .i64 (a2 : Nat), .int .i64 (b2 : Nat)] 48)) := (Below.refl _ u5).alloc (Nat.le_refl _) _
              have Y5 := Blk.new u5 48 #[.int .i64 i2, .int .u64 (X : Nat), .int .i64 (a2 : Nat), .int .i64 (b2 : Nat)]
              have X6 := X5.below A5
              have W6 := W5.below A5
              have H6 := H5.trans (A5.mono H5.size)
              have hz5 := hT5.size
              have hg5 := W5.lt
              have hx5 := X5.lt
              clear c0 c1' d2 d3 nb5 hB5 hT5 X5 W5 H5 HPU
              go_wp2_with fail
              obtain ⟨y, hy⟩ : ∃ y, u5.heap.size = y := ⟨_, rfl⟩
              rw [hy] at Y5 hx5 hg5 hz5 ⊢
              generalize u5.alloc (.cells #[.int .i64 i2, .int .u64 (X : Nat), .int .i64 (a2 : Nat), .int .i64 (b2 : Nat)] 48) = u6 at *
              clear A5 hy
              refine (lenI _ w.heap.size g B5 M2 c2 W6 HC2.out).mono ?_
              rintro e uz ⟨rfl, rfl⟩
              obtain ⟨q0, q1, q2, q3⟩ := X6.cells4
              obtain ⟨p0, p1, p2, p3⟩ := Y5.cells4
              obtain ⟨f0, f1, f2, f3⟩ := X6.free4
              go_wp2_with fail
              have X7 := X6.set4 (.int .i64 i2) (.int .u64 (X : Nat)) (.int .i64 (a2 : Nat)) (.int .i64 (b2 : Nat))
              have W7 := W6.set4 (r := x) (by omega) HB5.out (.int .i64 i2) (.int .u64 (X : Nat)) (.int .i64 (a2 : Nat)) (.int .i64 (b2 : Nat))
              have H7 := below_set4 H6 (g := x) (by omega) (.int .i64 i2) (.int .u64 (X : Nat)) (.int .i64 (a2 : Nat)) (.int .i64 (b2 : Nat))
              unfold set4 at *
              go_roundw
              case rel => exact ⟨i + 1, X, a2, b2, B5, M2, by go_num, by omega, by omega, W7, by rw [HI2.out]; exact X7, H7, HB5.out, HL2.out, HX.out, HWO.out⟩
              case measure => simp [intOf]; omega
            · obtain ⟨M2, hM2⟩ : ∃ M2, Lb ++ encX i X a b X = M2 := ⟨_, rfl⟩
              obtain ⟨c2, hc2⟩ : ∃ c2 : Int, (M2.length : Int) = c2 := ⟨_, rfl⟩
              have hn0 : (encX (i : Nat) X a b X).length = 1 := by unfold encX; rw [if_neg hN, Nat.xor_self]; exact (encD_len a b 0 hab (by omega)).1 rfl
              have hs : c2 - c1 = 1 := by rw [← hc2, ← hM2, List.length_append]; push_cast; omega
              have hle := encX_le i X a b X hab HX.out HV.out
              have hl2 : M2.length ≤ 78 * (i + 1) := by rw [← hM2, List.length_append]; omega
              have hc2b : 0 ≤ c2 ∧ c2 ≤ 5000 := by omega
              obtain ⟨hc2l, hc2u⟩ := hc2b
              have hwo := winX_ok i X a b X hab HX.out HV.out
              obtain ⟨a2, ha2⟩ : ∃ a2, (winX i X a b X).1 = a2 := ⟨_, rfl⟩
              obtain ⟨b2, hb2⟩ : ∃ b2, (winX i X a b X).2 = b2 := ⟨_, rfl⟩
              rw [ha2, hb2] at hwo
              have PU := fun W h1 h2 h3 => xPut_to W w.heap.size g B Lb M2 i X a b X i2 (X : Nat) (a2 : Nat) (b2 : Nat) X a b h1 h2 (by omega) h3 (rightX_mk ⟨by omega, by omega, by omega⟩) HV.out HX.out (by rw [← HI2.out]; push_cast; rfl) rfl (by rw [ha2]) (by rw [hb2]) hM2 rfl rfl rfl
              have HPU := Lib.hid PU
              have HC2 := Lib.hid hc2
              have HL2 := Lib.hid hl2
              have HWO := Lib.hid hwo
              clear hn0 PU hc2 hM2 hl2 hwo ha2 hb2 hle hln
              go_wp2_with fail
              refine (lenI _ w.heap.size g B Lb c1 hW HC1.out).mono ?_
              rintro e wr ⟨rfl, rfl⟩
              go_wp2_with fail
              refine (HPU.out _ hW (hT.below hH) hH.size).mono ?_
              rintro e u5 ⟨rfl, B5, W5, hB5, hT5⟩
              have X5 := hX.touch hT5 (by omega) (fun e => HBX.out e.symm)
              have H5 := hH.trans (hT5.below hH.size hg0 (fun k hk => (hrow k hk).1))
              have nb5 : B5 ≠ some x := fun e => by
                rcases hB5 with rfl | ⟨b, rfl, hb⟩
                · exact HBX.out e
                · have : b = x := by injection e
                  omega
              have HB5 := Lib.hid nb5
              have A5 : Below u5.heap.size u5 (u5.alloc (.cells #[.int .i64 i2, .int .u64 (X : Nat), .int .i64 (a2 : Nat), .int .i64 (b2 : Nat)] 48)) := (Below.refl _ u5).alloc (Nat.le_refl _) _
              have Y5 := Blk.new u5 48 #[.int .i64 i2, .int .u64 (X : Nat), .int .i64 (a2 : Nat), .int .i64 (b2 : Nat)]
              have X6 := X5.below A5
              have W6 := W5.below A5
              have H6 := H5.trans (A5.mono H5.size)
              have hz5 := hT5.size
              have hg5 := W5.lt
              have hx5 := X5.lt
              clear c0 c1' d2 d3 nb5 hB5 hT5 X5 W5 H5 HPU
              go_wp2_with fail
              obtain ⟨y, hy⟩ : ∃ y, u5.heap.size = y := ⟨_, rfl⟩
              rw [hy] at Y5 hx5 hg5 hz5 ⊢
              generalize u5.alloc (.cells #[.int .i64 i2, .int .u64 (X : Nat), .int .i64 (a2 : Nat), .int .i64 (b2 : Nat)] 48) = u6 at *
              clear A5 hy
              refine (lenI _ w.heap.size g B5 M2 c2 W6 HC2.out).mono ?_
              rintro e uz ⟨rfl, rfl⟩
              obtain ⟨q0, q1, q2, q3⟩ := X6.cells4
              obtain ⟨p0, p1, p2, p3⟩ := Y5.cells4
              obtain ⟨f0, f1, f2, f3⟩ := X6.free4
              go_wp2_with fail
              have X7 := X6.set4 (.int .i64 i2) (.int .u64 (X : Nat)) (.int .i64 (a2 : Nat)) (.int .i64 (b2 : Nat))
              have W7 := W6.set4 (r := x) (by omega) HB5.out (.int .i64 i2) (.int .u64 (X : Nat)) (.int .i64 (a2 : Nat)) (.int .i64 (b2 : Nat))
              have H7 := below_set4 H6 (g := x) (by omega) (.int .i64 i2) (.int .u64 (X : Nat)) (.int .i64 (a2 : Nat)) (.int .i64 (b2 : Nat))
              unfold set4 at *
              go_roundw
              case rel => exact ⟨i + 1, X, a2, b2, B5, M2, by go_num, by omega, by omega, W7, by rw [HI2.out]; exact X7, H7, HB5.out, HL2.out, HX.out, HWO.out⟩
              case measure => simp [intOf]; omega
          · rcases hcase with ⟨e2, e3⟩ | e2
            · obtain ⟨bk2, off2, ha1, hc1b⟩ := HB1.out (by omega)
              subst ha1
              have hq := hc1b i e2
              rw [e3] at hq
              have hq := cell_keep hH hq
              clear hc1b e3
              obtain ⟨M2, hM2⟩ : ∃ M2, Lb ++ encX i V a b X = M2 := ⟨_, rfl⟩
              obtain ⟨c2, hc2⟩ : ∃ c2 : Int, (M2.length : Int) = c2 := ⟨_, rfl⟩
              have hx0 : X ^^^ V ≠ 0 := fun e => hxv ((xor_zero_iff X V).1 e)
              obtain ⟨n, hn⟩ : ∃ n, (encX (i : Nat) V a b X).length = n := ⟨_, rfl⟩
              have hnn : 2 ≤ n ∧ n ≤ 78 := by
                rw [← hn]; unfold encX; rw [if_neg hN]
                have := encD_len a b (X ^^^ V) hab (xor_lt HX.out HV.out)
                exact ⟨this.2.1 hx0, this.2.2⟩
              obtain ⟨hn2, hn78⟩ := hnn
              have hne1 : (((n : Nat) : Int) == 1) = false := beq_eq_false_iff_ne.2 (by omega)
              have hne2 : (n == 1) = false := beq_eq_false_iff_ne.2 (by omega)
              have hne3 : (((n : Nat) : Int) != 1) = true := by simp; omega
              have hs : c2 - c1 = (n : Nat) := by rw [← hc2, ← hM2, List.length_append]; push_cast; omega
              have hle := encX_le i V a b X hab HX.out HV.out
              have hl2 : M2.length ≤ 78 * (i + 1) := by rw [← hM2, List.length_append]; omega
              have hc2b : 0 ≤ c2 ∧ c2 ≤ 5000 := by omega
              obtain ⟨hc2l, hc2u⟩ := hc2b
              have hwo := winX_ok i V a b X hab HX.out HV.out
              obtain ⟨a2, ha2⟩ : ∃ a2, (winX i V a b X).1 = a2 := ⟨_, rfl⟩
              obtain ⟨b2, hb2⟩ : ∃ b2, (winX i V a b X).2 = b2 := ⟨_, rfl⟩
              rw [ha2, hb2] at hwo
              have PU := fun W h1 h2 h3 => xPut_to W w.heap.size g B Lb M2 i V a b X i2 (X : Nat) (a2 : Nat) (b2 : Nat) V a b h1 h2 (by omega) h3 (rightX_mk ⟨by omega, by omega, by omega⟩) HV.out HX.out (by rw [← HI2.out]; push_cast; rfl) rfl (by rw [ha2]) (by rw [hb2]) hM2 rfl rfl rfl
              have HPU := Lib.hid PU
              have HC2 := Lib.hid hc2
              have HL2 := Lib.hid hl2
              have HWO := Lib.hid hwo
              clear hx0 hn PU hc2 hM2 hl2 hwo ha2 hb2 hle hln
              clear hxv
              go_wp2_with fail
              refine (lenI _ w.heap.size g B Lb c1 hW HC1.out).mono ?_
              rintro e wr ⟨rfl, rfl⟩
              go_wp2_with fail
              refine (HPU.out _ hW (hT.below hH) hH.size).mono ?_
              rintro e u5 ⟨rfl, B5, W5, hB5, hT5⟩
              have X5 := hX.touch hT5 (by omega) (fun e => HBX.out e.symm)
              have H5 := hH.trans (hT5.below hH.size hg0 (fun k hk => (hrow k hk).1))
              have nb5 : B5 ≠ some x := fun e => by
                rcases hB5 with rfl | ⟨b, rfl, hb⟩
                · exact HBX.out e
                · have : b = x := by injection e
                  omega
              have HB5 := Lib.hid nb5
              have A5 : Below u5.heap.size u5 (u5.alloc (.cells #[.int .i64 i2, .int .u64 (X : Nat), .int .i64 (a2 : Nat), .int .i64 (b2 : Nat)] 48)) := (Below.refl _ u5).alloc (Nat.le_refl _) _
              have Y5 := Blk.new u5 48 #[.int .i64 i2, .int .u64 (X : Nat), .int .i64 (a2 : Nat), .int .i64 (b2 : Nat)]
              have X6 := X5.below A5
              have W6 := W5.below A5
              have H6 := H5.trans (A5.mono H5.size)
              have hz5 := hT5.size
              have hg5 := W5.lt
              have hx5 := X5.lt
              clear c0 c1' d2 d3 nb5 hB5 hT5 X5 W5 H5 HPU
              go_wp2_with fail
              obtain ⟨y, hy⟩ : ∃ y, u5.heap.size = y := ⟨_, rfl⟩
              rw [hy] at Y5 hx5 hg5 hz5 ⊢
              generalize u5.alloc (.cells #[.int .i64 i2, .int .u64 (X : Nat), .int .i64 (a2 : Nat), .int .i64 (b2 : Nat)] 48) = u6 at *
              clear A5 hy
              refine (lenI _ w.heap.size g B5 M2 c2 W6 HC2.out).mono ?_
              rintro e uz ⟨rfl, rfl⟩
              obtain ⟨q0, q1, q2, q3⟩ := X6.cells4
              obtain ⟨p0, p1, p2, p3⟩ := Y5.cells4
              obtain ⟨f0, f1, f2, f3⟩ := X6.free4
              go_wp2_with fail
              have X7 := X6.set4 (.int .i64 i2) (.int .u64 (X : Nat)) (.int .i64 (a2 : Nat)) (.int .i64 (b2 : Nat))
              have W7 := W6.set4 (r := x) (by omega) HB5.out (.int .i64 i2) (.int .u64 (X : Nat)) (.int .i64 (a2 : Nat)) (.int .i64 (b2 : Nat))
              have H7 := below_set4 H6 (g := x) (by omega) (.int .i64 i2) (.int .u64 (X : Nat)) (.int .i64 (a2 : Nat)) (.int .i64 (b2 : Nat))
              unfold set4 at *
              go_roundw
              case rel => exact ⟨i + 1, X, a2, b2, B5, M2, by go_num, by omega, by omega, W7, by rw [HI2.out]; exact X7, H7, HB5.out, HL2.out, HX.out, HWO.out⟩
              case measure => simp [intOf]; omega
            · obtain ⟨M2, hM2⟩ : ∃ M2, Lb ++ encX i V a b X = M2 := ⟨_, rfl⟩
              obtain ⟨c2, hc2⟩ : ∃ c2 : Int, (M2.length : Int) = c2 := ⟨_, rfl⟩
              have hx0 : X ^^^ V ≠ 0 := fun e => hxv ((xor_zero_iff X V).1 e)
              obtain ⟨n, hn⟩ : ∃ n, (encX (i : Nat) V a b X).length = n := ⟨_, rfl⟩
              have hnn : 2 ≤ n ∧ n ≤ 78 := by
                rw [← hn]; unfold encX; rw [if_neg hN]
                have := encD_len a b (X ^^^ V) hab (xor_lt HX.out HV.out)
                exact ⟨this.2.1 hx0, this.2.2⟩
              obtain ⟨hn2, hn78⟩ := hnn
              have hne1 : (((n : Nat) : Int) == 1) = false := beq_eq_false_iff_ne.2 (by omega)
              have hne2 : (n == 1) = false := beq_eq_false_iff_ne.2 (by omega)
              have hne3 : (((n : Nat) : Int) != 1) = true := by simp; omega
              have hs : c2 - c1 = (n : Nat) := by rw [← hc2, ← hM2, List.length_append]; push_cast; omega
              have hle := encX_le i V a b X hab HX.out HV.out
              have hl2 : M2.length ≤ 78 * (i + 1) := by rw [← hM2, List.length_append]; omega
              have hc2b : 0 ≤ c2 ∧ c2 ≤ 5000 := by omega
              obtain ⟨hc2l, hc2u⟩ := hc2b
              have hwo := winX_ok i V a b X hab HX.out HV.out
              obtain ⟨a2, ha2⟩ : ∃ a2, (winX i V a b X).1 = a2 := ⟨_, rfl⟩
              obtain ⟨b2, hb2⟩ : ∃ b2, (winX i V a b X).2 = b2 := ⟨_, rfl⟩
              rw [ha2, hb2] at hwo
              have PU := fun W h1 h2 h3 => xPut_to W w.heap.size g B Lb M2 i V a b X i2 (X : Nat) (a2 : Nat) (b2 : Nat) V a b h1 h2 (by omega) h3 (rightX_mk ⟨by omega, by omega, by omega⟩) HV.out HX.out (by rw [← HI2.out]; push_cast; rfl) rfl (by rw [ha2]) (by rw [hb2]) hM2 rfl rfl rfl
              have HPU := Lib.hid PU
              have HC2 := Lib.hid hc2
              have HL2 := Lib.hid hl2
              have HWO := Lib.hid hwo
              clear hx0 hn PU hc2 hM2 hl2 hwo ha2 hb2 hle hln
              clear hxv
              go_wp2_with fail
              refine (lenI _ w.heap.size g B Lb c1 hW HC1.out).mono ?_
              rintro e wr ⟨rfl, rfl⟩
              go_wp2_with fail
              refine (HPU.out _ hW (hT.below hH) hH.size).mono ?_
              rintro e u5 ⟨rfl, B5, W5, hB5, hT5⟩
              have X5 := hX.touch hT5 (by omega) (fun e => HBX.out e.symm)
              have H5 := hH.trans (hT5.below hH.size hg0 (fun k hk => (hrow k hk).1))
              have nb5 : B5 ≠ some x := fun e => by
                rcases hB5 with rfl | ⟨b, rfl, hb⟩
                · exact HBX.out e
                · have : b = x := by injection e
                  omega
              have HB5 := Lib.hid nb5
              have A5 : Below u5.heap.size u5 (u5.alloc (.cells #[.int .i64 i2, .int .u64 (X : Nat), .int .i64 (a2 : Nat), .int .i64 (b2 : Nat)] 48)) := (Below.refl _ u5).alloc (Nat.le_refl _) _
              have Y5 := Blk.new u5 48 #[.int .i64 i2, .int .u64 (X : Nat), .int .i64 (a2 : Nat), .int .i64 (b2 : Nat)]
              have X6 := X5.below A5
              have W6 := W5.below A5
              have H6 := H5.trans (A5.mono H5.size)
              have hz5 := hT5.size
              have hg5 := W5.lt
              have hx5 := X5.lt
              clear c0 c1' d2 d3 nb5 hB5 hT5 X5 W5 H5 HPU
              go_wp2_with fail
              obtain ⟨y, hy⟩ : ∃ y, u5.heap.size = y := ⟨_, rfl⟩
              rw [hy] at Y5 hx5 hg5 hz5 ⊢
              generalize u5.alloc (.cells #[.int .i64 i2, .int .u64 (X : Nat), .int .i64 (a2 : Nat), .int .i64 (b2 : Nat)] 48) = u6 at *
              clear A5 hy
              refine (lenI _ w.heap.size g B5 M2 c2 W6 HC2.out).mono ?_
              rintro e uz ⟨rfl, rfl⟩
              obtain ⟨q0, q1, q2, q3⟩ := X6.cells4
              obtain ⟨p0, p1, p2, p3⟩ := Y5.cells4
              obtain ⟨f0, f1, f2, f3⟩ := X6.free4
              go_wp2_with fail
              have X7 := X6.set4 (.int .i64 i2) (.int .u64 (X : Nat)) (.int .i64 (a2 : Nat)) (.int .i64 (b2 : Nat))
              have W7 := W6.set4 (r := x) (by omega) HB5.out (.int .i64 i2) (.int .u64 (X : Nat)) (.int .i64 (a2 : Nat)) (.int .i64 (b2 : Nat))
              have H7 := below_set4 H6 (g := x) (by omega) (.int .i64 i2) (.int .u64 (X : Nat)) (.int .i64 (a2 : Nat)) (.int .i64 (b2 : Nat))
              unfold set4 at *
              go_roundw
              case rel => exact ⟨i + 1, X, a2, b2, B5, M2, by go_num, by omega, by omega, W7, by rw [HI2.out]; exact X7, H7, HB5.out, HL2.out, HX.out, HWO.out⟩
              case measure => simp [intOf]; omega
    · have hex : (i < len0 ∧ ¬ i < 60) ∨ ¬ i < len0 := by omega
      clear hmm
      rcases hex with ⟨d1, d2⟩ | d1
      all_goals
        go_wp2_with fail
        go_ret
        exact ⟨rfl, hH⟩

/-- The table as the program's text lays it. -/
theorem door_met (os : Os) (args : Array Value) : laidMetH Tryd.prog [("math/bits.deBruijn64tab", Rows.laid_math_bits_deBruijn64tab)] ((World.doorLaid Tryd.prog 400 os).forCall (fun _ _ => 0) ⟨#[], args, []⟩).memory :=
  laidMetH_of_parts3 (fuel := 8) (laidMet_of_run' 8 (by kernel_rfl) (by kernel_rfl)) (by kernel_rfl) (by kernel_rfl)

set_option maxRecDepth 100000 in
theorem lifted (os : Os) (started : os.Started) (H : Type) (enc : TypeId × Value → H) :
    ReturnsInHanded {} Tryd.checked os 5 .any (fun w args => (Rows.xorSmallSpec.pre enc Tryd.prog Tryd.f5 [] false w args ∧ laidMetH Tryd.prog [("math/bits.deBruijn64tab", Rows.laid_math_bits_deBruijn64tab)] w) ∧ sizedMet enc Tryd.prog Tryd.f5 (OpenSpec.ofChange Rows.xorSmallSpec) false w args) (Rows.xorSmallSpec.post enc Tryd.prog Tryd.f5 false true false false) := by
  refine returnsInHanded_of_change_and (C := Tryd.checked) (X := fun w _ => laidMetH Tryd.prog [("math/bits.deBruijn64tab", Rows.laid_math_bits_deBruijn64tab)] w) (fun _ _ _ hh h => h.of_heap hh) own started (by kernel_rfl) Tryd.func5
    (ChangeSpec.witness_shaped (enc := enc) (C := Tryd.checked) (os := os) (X := fun w _ => laidMetH Tryd.prog [("math/bits.deBruijn64tab", Rows.laid_math_bits_deBruijn64tab)] w) false (World.doorLaid Tryd.prog 400 os) #[.slice none 0 0, .slice none 0 0] 8 rfl (World.shaped_of_RefB (by kernel_rfl) (by kernel_rfl)) (by kernel_rfl) (by kernel_rfl) (by kernel_rfl) (door_met os _)) ?_
  intro W base args ds gs before hval0 hW _ _ hL _
  have hval : ∀ (j : Nat) t v, Tryd.f5.params[j]? = some t → args[j]? = some v → Value.okWide Tryd.prog W .any base t v := hval0
  have hW' := hW
  obtain ⟨p, q, hA0, hV, rfl, hfz, hnd⟩ := hW
  have hA : DataW.TrodAll enc Tryd.prog W 0 (fun _ => true) true Tryd.f5.params.toList args.toList ds p := hA0
  rw [Tryd.params5] at hA hval
  obtain ⟨v0, vs0, d0, ds0, p0, q0, hargs, rfl, rfl, h0, r0⟩ := trodAll_cons hA
  obtain ⟨v1, vs1, d1, ds1, p1, q1, rfl, rfl, rfl, h1, r1⟩ := trodAll_cons r0
  obtain ⟨rfl, rfl, rfl⟩ := trodAll_nil r1
  obtain rfl : args = #[v0, v1] := by cases args; simp_all
  obtain ⟨rfl, rfl⟩ := trodVars_none hV
  have k0 := h0
  have lt0 : ∀ x ∈ p0, x.block < W.heap.size := by obtain ⟨m, hm⟩ := k0; exact DataW.trod_lt m _ _ _ hm
  have k1 := h1
  have lt1 : ∀ x ∈ p1, x.block < W.heap.size := by obtain ⟨m, hm⟩ := k1; exact DataW.trod_lt m _ _ _ hm
  obtain ⟨a0, len0, cap0, rfl⟩ := okWide_slice Tryd.underlying46 (hval 0 46 v0 rfl rfl)
  obtain ⟨z0, w0⟩ : ∃ zs, IsRow .u64 W a0 len0 cap0 zs := by
    obtain ⟨fuel, hf⟩ := h0
    exact row_of Tryd.underlying46 Tryd.underlying38 (by kernel_rfl) hf
  obtain ⟨a1, len1, cap1, rfl⟩ := okWide_slice Tryd.underlying34 (hval 1 34 v1 rfl rfl)
  obtain ⟨z1, w1⟩ : ∃ zs, IsBools W a1 len1 cap1 zs := by
    obtain ⟨fuel, hf⟩ := h1
    exact bools_of Tryd.underlying34 Tryd.underlying4 (by kernel_rfl) hf
  have hT : XorTab W := xorTab_of hL
  clear hA0 hval0
  refine (walk a0 len0 cap0 z0 a1 len1 cap1 z1 W w0 w1 hT).mono fun e W' ⟨he, bel⟩ => ?_
  subst he
  exact ⟨_, rfl, _, _, _, [], _, [], hW', trodAll_mk1 (shut_bool Tryd.underlying4 _), (trodAll_cons_mk (Below.trod laidOut (by kernel_rfl) (of_decide_eq_true (by kernel_rfl)) k0 bel lt0) (trodAll_cons_mk (Below.trod laidOut (by kernel_rfl) (of_decide_eq_true (by kernel_rfl)) k1 bel lt1) trodAll_mk0)), rfl, bel.frame _, fun h => by cases h⟩

theorem over : Rows.xorSmallRow.holds Tryd.pinned (OpenSpec.ofChange Rows.xorSmallSpec) :=
  OpenClaim.holds_of_wide 5 Tryd.f5 rfl rfl rfl rfl rfl rfl rfl ⟨rfl, rfl, rfl, rfl, rfl⟩ rfl rfl rfl rfl rfl (by kernel_rfl) Tryd.func5 (by kernel_rfl)
    (of_decide_eq_true (by kernel_rfl)) (by unfold Func.isWrapper; first | (rw [if_pos (by decide +kernel)]; kernel_rfl) | (rw [if_neg (by decide +kernel)]; exact ⟨rfl, rfl⟩))
    (fun os started H enc _ => lifted os started H enc)

theorem proved : Rows.XorSmallSaid := over

theorem card_holds : Rows.XorSmallCardSaid :=
  Claim7.holds_tied_plain_at .later [] [.data] true (true, "be161dddcf822252aefe1cd3c089d2ded8312abac7a911784b1c12d962751af1") false
    over (fun _ h => by cases h) (by kernel_rfl) (fun _ h => by cases h) xorSmall_row_tie rfl ⟨rfl, rfl⟩ (by kernel_rfl) rfl
    (fun f fn hf hfn => by
      obtain rfl : f = 5 := Option.some.inj ((show Tryd.prog.funcNamed "tidepole/tidepolelaw07.XorSmall" = some 5 by kernel_rfl).symm.trans hf) |>.symm
      obtain rfl : fn = Tryd.f5 := (Option.some.inj (Tryd.func5.symm.trans hfn)).symm
      exact ⟨by kernel_rfl, fun j t ht => by
        rw [Tryd.params5] at ht
        have hm : t ∈ ([46, 34] : List Nat) := by simpa using Array.mem_of_getElem? ht
        have hall : (([46, 34] : List Nat).all fun u => !Tryd.prog.wantsStandIn u) = true := by kernel_rfl
        exact (show Tryd.prog.wantsStandIn t = false by simpa using List.all_eq_true.1 hall t hm)⟩)
    (by kernel_rfl)
#print axioms card_holds
end Go.Proofs.YtlgndfckmnninaaDoor.xorSmall
