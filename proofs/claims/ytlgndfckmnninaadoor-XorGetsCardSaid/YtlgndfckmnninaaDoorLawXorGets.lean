/- The Go function tidepole/tidepolelaw07.XorGets returns true for every input, and each argument reads afterwards as it read before. Conditions: none beyond the given row's own. -/
import Derived.Test.YtlgndfckmnninaaDoorRows
import Derived.Test.YtlgndfckmnninaaDoorXorH
import Derived.Test.YtlgndfckmnninaaDoorXorK
import Derived.Test.YtlgndfckmnninaaDoorFields
import Derived.WalkKit
import Derived.ProofKit
import Derived.OpenShut
import Derived.ChangeOld
import Derived.Below
import Derived.Deep.QuietTactic
import Derived.BigQuiet
import Derived.Deep.RegionHeld3
import Derived.LaidMore
import Derived.Stop.Joined
import Derived.SevenTiedAt
import Derived.Test.YtlgndfckmnninaaDoorCards
import Derived.Test.YtlgndfckmnninaaDoorTie
namespace Go.Proofs.YtlgndfckmnninaaDoor.xorGets
open Go.ChangeShapes Go.WideShapes Go.ChangeAt Go.RowKit
set_option linter.unusedVariables false

theorem own : ownKnob Tryd.prog.godebug = none := by kernel_rfl
theorem laidOut : laidOutB Tryd.prog = true := by kernel_rfl

set_option maxHeartbeats 6400000 in
theorem walk (a0 : Option Addr) (len0 cap0 : Nat) (z0 : List Int) (x1_0 x1_1 x1_2 x1_3 : Int) (a2 : Int) (w : World) (w0 : IsRow .u8 w a0 len0 cap0 z0) (w1_0 : (Lit.int .i64 x1_0).wf = true) (w1_1 : (Lit.int .u64 x1_1).wf = true) (w1_2 : (Lit.int .i64 x1_2).wf = true) (w1_3 : (Lit.int .i64 x1_3).wf = true) (w2 : (Lit.int .i64 a2).wf = true) (hT : XorTab w) :
    Calls Tryd.prog 11 #[.slice a0 len0 cap0, .agg #[.int .i64 x1_0, .int .u64 x1_1, .int .i64 x1_2, .int .i64 x1_3], .int .i64 a2] w fun e w' => e = .returned (.bool true) ∧ Below w.heap.size w w' := by
  have hR0 : RB w a0 len0 cap0 z0 := ⟨w0.1, w0.2.1, w0.2.2.1, w0.2.2.2.2⟩
  have hb0 : ∀ x ∈ z0, Byte x := fun x hx => byte_of_wf (w0.2.2.2.1 x hx)
  obtain ⟨V, hV, hV64⟩ := nat_of_u64 w1_1
  have hV0 : 0 ≤ x1_1 := by omega
  have hV1 : x1_1 < 18446744073709551616 := by omega
  have HV0 := Lib.hid hV0
  have HV1 := Lib.hid hV1
  clear w0 w1_0 w1_1 w1_2 w1_3 w2 hV hV64 hV0 hV1 V
  have hcap := hR0.2.2.1
  have hlc := hR0.2.1
  obtain ⟨bs, M, hR, hb, hm, hM⟩ : ∃ (bs : List Int) (M : Nat), RB w a0 M cap0 bs ∧ (∀ x ∈ bs, Byte x) ∧ M ≤ 100 ∧ ((100 < len0 ∧ M = 100) ∨ (len0 ≤ 100 ∧ M = len0)) := by
    rcases Nat.lt_or_ge 100 len0 with hl | hl
    · exact ⟨z0.take 100, 100, hR0.head (by omega), fun x hx => hb0 x (List.mem_of_mem_take hx), by omega, .inl ⟨hl, rfl⟩⟩
    · exact ⟨z0, len0, hR0, hb0, hl, .inr ⟨hl, rfl⟩⟩
  have HB := Lib.hid hb
  clear hb0 hR0 hb
  have hmin : (min (len0 : Int) 100).toNat = M := by omega
  clear hM
  have hlen : bs.length = M := hR.1
  have hx : True := trivial
  all_goals
      go_enter Tryd.func11, Tryd.ntmps11
      go_wp2_with fail
      try rw [hmin]
      rw [← hlen] at hR ⊢
      clear hmin
      have hm : bs.length ≤ 100 := by omega
      clear hlen
      have BX : Below w.heap.size w (w.alloc (.cells #[.int .i64 x1_0, .int .u64 x1_1, .int .i64 x1_2, .int .i64 x1_3] 48)) := (Below.refl _ w).alloc (Nat.le_refl _) _
      refine (NewReader_any a0 _ cap0 bs _ (w.heap.size + 1) (hR.below BX) (by omega) (by simp)).mono ?_
      rintro e u1 ⟨g, R, rfl, hg, hRk, D1, hB1⟩
      have hg1 : w.heap.size + 1 ≤ g := by simpa using hg
      have S1 := (Blk.new w 48 #[.int .i64 x1_0, .int .u64 x1_1, .int .i64 x1_2, .int .i64 x1_3]).below hB1
      have H1 := below_more BX hB1
      have hz1 : w.heap.size + 1 ≤ u1.heap.size := by simpa using hB1.size
      have hgl := D1.lt
      have hR1 := hR.below H1
      have BA : Below u1.heap.size u1 (u1.alloc (.cells #[.slice a0 bs.length cap0, .int .i64 0] 63)) := (Below.refl _ u1).alloc (Nat.le_refl _) _
      have hRr3 : ∃ RA, (∀ k, RA = some k → k < w.heap.size) ∧ Rr (u1.alloc (.cells #[.slice a0 bs.length cap0, .int .i64 0] 63)) u1.heap.size RA bs 0 := by
        rcases Nat.eq_zero_or_pos bs.length with h0 | h0
        · exact ⟨none, (fun k hk => by cases hk), a0, _, cap0, Blk.new u1 63 _, hR1.below BA, .inr h0, by simp, by omega, by omega⟩
        · obtain ⟨b, off, e, hc⟩ := hR.2.2.2 h0
          have hlt := World.block_lt_of_cell? w _ (hc 0 h0)
          refine ⟨some b, fun k hk => ?_, a0, _, cap0, Blk.new u1 63 _, hR1.below BA, .inl (by rw [e]; rfl), fun e => ?_, by omega, by omega⟩
          · injection hk with hk; subst hk; exact hlt
          · injection e with e; subst e; simp at hlt; omega
      obtain ⟨RA, hRA, E2⟩ := hRr3
      have D2 := D1.below BA
      have S2 := S1.below BA
      have H2 := H1.trans (BA.mono H1.size)
      have hRk' : ∀ k, R = some k → w.heap.size + 1 ≤ k ∧ k < u1.heap.size := fun k hk => by have := hRk k hk; simpa using this
      have HRK := Lib.hid hRk'
      have HRA := Lib.hid hRA
      clear hB1 S1 H1 D1 hR1 BX hRk hRk' hRA
      go_wp2_with fail
      obtain ⟨gy, hgy⟩ : ∃ gy, u1.heap.size = gy := ⟨_, rfl⟩
      rw [hgy] at E2 hgl hz1 HRK ⊢
      have hz2 : gy < (u1.alloc (.cells #[.slice a0 bs.length cap0, .int .i64 0] 63)).heap.size := by simp; omega
      generalize u1.alloc (.cells #[.slice a0 bs.length cap0, .int .i64 0] 63) = u2 at *
      clear BA hgy
      refine (among_any a2 20 _ (by omega) (by omega)).mono ?_
      rintro e u ⟨rfl, rfl⟩
      generalize amo a2 20 = A at *
      go_wp2_with fail
      refine (get_any _ _ g R bs 0 A D2 HB.out).mono ?_
      rintro e u3 ⟨rfl, D3, hT3⟩
      have E3 := E2.touch hT3 (by omega) (by simp) (fun e => by have := HRA.out _ e; omega) (by cases RA <;> simp)
      have S3 := S2.touch hT3 (by omega) (by simp)
      have H3 := H2.trans (hT3.below H2.size (by omega) (fun _ h => by cases h))
      have hz3 := hT3.size
      go_wp2_with fail
      refine (refGet_any _ gy RA bs 0 A E3 HB.out).mono ?_
      rintro e u4 ⟨rfl, E4, hT4⟩
      have D4 := D3.touch hT4 (by omega) (by simp) (fun e => by have := HRK.out _ e; omega) (by cases R <;> simp)
      have S4 := S3.touch hT4 (by omega) (by simp)
      have H4 := H3.trans (hT4.below H3.size (by omega) (fun _ h => by cases h))
      have hz4 := hT4.size
      have hz24 : gy < u4.heap.size := by omega
      obtain ⟨q, hq⟩ : ∃ q, getAt bs.length 0 A = q := ⟨_, rfl⟩
      rw [hq] at D4 E4
      have T4 := hT.below H4
      have hpos := hT.pos
      generalize getVal bs 0 A = X1
      generalize getCode bs.length 0 A = X2
      clear hq hT3 hT4 D2 D3 E2 E3 S2 S3 H2 H3
      obtain ⟨c0, c1, c2, c3⟩ := S4.cells4
      go_wp2_with fail
      have hb2 : 2 ≤ w.heap.size + 1 := by omega
      rcases xGets_split bs q x1_0 x1_1 x1_2 x1_3 HB.out HV0.out HV1.out with ⟨vv, AA, BB, cc, G1, G2⟩ | ⟨C, hC, G1, G2⟩
      · obtain ⟨N2, hN2⟩ : ∃ N2, x1_0 + 1 = N2 := ⟨_, rfl⟩
        rw [hN2] at G1 G2
        have HG1 := Lib.hid G1
        have HG2 := Lib.hid G2
        clear G1 G2 hN2
        refine (HG1.out u4 (w.heap.size + 1) g R D4 T4 hb2 (fun k hk => by have := HRK.out k hk; omega)).mono ?_
        rintro e u5 ⟨rfl, D5, hT5⟩
        have E5 := E4.touch hT5 (by omega) (by simp) (fun e => by have := HRA.out _ e; omega) (by cases RA <;> simp)
        have S5 := S4.touch hT5 (by omega) (by simp)
        have H5 := H4.trans (hT5.below H4.size (by omega) (fun _ h => by cases h))
        have hz5 := hT5.size
        have A5 : Below u5.heap.size u5 (u5.alloc (.cells #[.int .i64 N2, .int .u64 vv, .int .i64 AA, .int .i64 BB] 48)) := (Below.refl _ u5).alloc (Nat.le_refl _) _
        have X6 := Blk.new u5 48 #[.int .i64 N2, .int .u64 vv, .int .i64 AA, .int .i64 BB]
        have E6 := E5.below A5
        have S6 := S5.below A5
        have H6 := H5.trans (A5.mono H5.size)
        have D6 := D5.below A5
        clear c0 c1 c2 c3
        obtain ⟨c0, c1, c2, c3⟩ := S6.cells4
        go_wp2_with fail
        obtain ⟨x, hx⟩ : ∃ x, u5.heap.size = x := ⟨_, rfl⟩
        have hz6 : x < (u5.alloc (.cells #[.int .i64 N2, .int .u64 vv, .int .i64 AA, .int .i64 BB] 48)).heap.size := by simp; omega
        have hxl : gy < x := by omega
        rw [hx] at X6 ⊢
        generalize u5.alloc (.cells #[.int .i64 N2, .int .u64 vv, .int .i64 AA, .int .i64 BB] 48) = u6 at *
        clear A5 S5 hT5 S4 D4 E4 c0 c1 c2 c3 D5 E5
        refine (plain_any x1_0 x1_1 x1_2 x1_3 u6).mono ?_
        rintro e u7 ⟨rfl, hB7⟩
        have X6 := X6.below hB7
        have E6 := E6.below hB7
        have D6 := D6.below hB7
        have H6 := below_more H6 hB7
        have hz67 := hB7.size
        clear hB7
        go_wp2_with fail
        refine (HG2.out u7 gy RA E6 (fun k hk => by have := HRA.out k hk; omega)).mono ?_
        rintro e u7b ⟨rfl, E7, hT7⟩
        have D7 := D6.touch hT7 (by omega) (by simp) (fun e => by have := HRK.out _ e; omega) (by cases R <;> simp)
        have X7 := X6.touch hT7 (by omega) (by simp)
        have H7 := H6.trans (hT7.below H6.size (by omega) (fun _ h => by cases h))
        have A7 : Below u7b.heap.size u7b (u7b.alloc (.cells #[.int .i64 N2, .int .u64 vv, .int .i64 AA, .int .i64 BB] 53)) := (Below.refl _ u7b).alloc (Nat.le_refl _) _
        have Z8 := Blk.new u7b 53 #[.int .i64 N2, .int .u64 vv, .int .i64 AA, .int .i64 BB]
        have X8 := X7.below A7
        have H8 := H7.trans (A7.mono H7.size)
        have D8 := D7.below A7
        have E8 := E7.below A7
        go_wp2_with fail
        obtain ⟨z, hz⟩ : ∃ z, u7b.heap.size = z := ⟨_, rfl⟩
        rw [hz] at Z8 ⊢
        generalize u7b.alloc (.cells #[.int .i64 N2, .int .u64 vv, .int .i64 AA, .int .i64 BB] 53) = u8 at *
        clear A7 X7 hT7 E6 S6 hz
        clear D7 E7
        obtain ⟨Ay, ny, cy, G8, _, _, _, _, _⟩ := id E8
        obtain ⟨qc, hqc⟩ : ∃ qc, q + cc = qc := ⟨_, rfl⟩
        rw [hqc] at D8 G8
        clear hqc E8 HG1 HG2
        refine wp_region_noPanic ?_
        refine wp_region_held_drew (S := fun W : World => Blk W x 48 #[.int .i64 N2, .int .u64 vv, .int .i64 AA, .int .i64 BB] ∧ Blk W z 53 #[.int .i64 N2, .int .u64 vv, .int .i64 AA, .int .i64 BB] ∧ Blk W gy 63 #[.slice Ay ny cy, .int .i64 (qc : Int)]) (by kernel_rfl) (⟨X8.drewN 1, Z8.drewN 1, G8.drewN 1⟩) (fun hSt => ?_)
        refine wpAnyH_picks [0, 2] 29 (by rfl) (by kernel_rfl) (by kernel_rfl) (by kernel_rfl) (fun _ _ _ _ _ h => h) (by assumption) ?_
        simp only [picks, List.drop_succ_cons, List.drop_zero, List.take_succ_cons, List.take_zero, List.cons_append, List.nil_append]
        repeat (first
          | (refine wpY_skip (by rfl) ?_; simp only [Act.put, List.setIfInBounds_toArray, List.set_cons_zero, List.set_cons_succ])
          | (refine wpY_want (v := ?_) (by rfl) (fun W hW => ?_) ?_; rotate_left; (obtain ⟨hW0, hW1, hW2⟩ := hW; obtain ⟨hx0, hx1, hx2, hx3⟩ := hW0.cells4; obtain ⟨hy0, hy1, hy2, hy3⟩ := hW1.cells4; have hg0 := hW2.cell 1; simp at hg0; go_simp; try with_reducible rfl); simp only [Act.put, List.setIfInBounds_toArray, List.set_cons_zero, List.set_cons_succ]))
        refine wpY_nil ?_
        refine wpAnyH_one 1 28 (by rfl) (by rfl) (by kernel_rfl) (fun K hK => ?_)
        go_simp
        refine (plain_any N2 vv AA BB _).mono ?_
        rintro e p1 ⟨rfl, hP1⟩
        have X8 := (X8.drewN 1).below hP1
        have Z8 := (Z8.drewN 1).below hP1
        have H8 := below_more (below_drewN H8 1) hP1
        have G8 := (G8.drewN 1).below hP1
        have D8 := (D8.drewN 1).below hP1
        clear hP1
        refine hK.out _ _ (⟨X8, Z8, G8⟩) (fun hSt => ?_)
        clear hK K
        try simp only [Act.put, List.setIfInBounds_toArray, List.set_cons_zero, List.set_cons_succ]
        refine wpAnyH_picks [3, 4, 5, 6, 7, 8, 9, 10, 11, 12, 13, 14, 15, 16, 17, 18, 20, 21, 22, 23] 8 (by rfl) (by kernel_rfl) (by kernel_rfl) (by kernel_rfl) (fun _ _ _ _ _ h => h) (by assumption) ?_
        simp only [picks, List.drop_succ_cons, List.drop_zero, List.take_succ_cons, List.take_zero, List.cons_append, List.nil_append]
        repeat (first
          | (refine wpY_skip (by rfl) ?_; simp only [Act.put, List.setIfInBounds_toArray, List.set_cons_zero, List.set_cons_succ])
          | (refine wpY_want (v := ?_) (by rfl) (fun W hW => ?_) ?_; rotate_left; (obtain ⟨hW0, hW1, hW2⟩ := hW; obtain ⟨hx0, hx1, hx2, hx3⟩ := hW0.cells4; obtain ⟨hy0, hy1, hy2, hy3⟩ := hW1.cells4; have hg0 := hW2.cell 1; simp at hg0; go_simp; try with_reducible rfl); simp only [Act.put, List.setIfInBounds_toArray, List.set_cons_zero, List.set_cons_succ]))
        refine wpY_nil ?_
        refine wpAnyH_one 19 7 (by rfl) (by rfl) (by kernel_rfl) (fun K hK => ?_)
        go_simp
        refine (At_any _ _ g R bs qc D8).mono ?_
        rintro e v1 ⟨rfl, rfl⟩
        refine hK.out _ _ (⟨X8, Z8, G8⟩) (fun hSt => ?_)
        clear hK K
        try simp only [Act.put, List.setIfInBounds_toArray, List.set_cons_zero, List.set_cons_succ]
        refine wpAnyH_picks [24, 25, 26, 27] 3 (by rfl) (by kernel_rfl) (by kernel_rfl) (by kernel_rfl) (fun _ _ _ _ _ h => h) (by assumption) ?_
        simp only [picks, List.drop_succ_cons, List.drop_zero, List.take_succ_cons, List.take_zero, List.cons_append, List.nil_append]
        repeat (first
          | (refine wpY_skip (by rfl) ?_; simp only [Act.put, List.setIfInBounds_toArray, List.set_cons_zero, List.set_cons_succ])
          | (refine wpY_want (v := ?_) (by rfl) (fun W hW => ?_) ?_; rotate_left; (go_simp; try with_reducible rfl); simp only [Act.put, List.setIfInBounds_toArray, List.set_cons_zero, List.set_cons_succ]))
        refine wpY_nil ?_
        refine wpAnyH_one 28 2 (by rfl) (by rfl) (by kernel_rfl) (fun K hK => ?_)
        go_simp
        refine (works7_any _ (hT.below H8)).mono ?_
        rintro e v4 ⟨rfl, hB11⟩
        refine hK.out _ _ (⟨X8.below hB11, Z8.below hB11, G8.below hB11⟩) (fun hSt => ?_)
        clear hK K
        try simp only [Act.put, List.setIfInBounds_toArray, List.set_cons_zero, List.set_cons_succ]
        refine wpAnyH_picks [29, 30] 0 (by rfl) (by kernel_rfl) (by kernel_rfl) (by kernel_rfl) (fun _ _ _ _ _ h => h) (by assumption) ?_
        simp only [picks, List.drop_succ_cons, List.drop_zero, List.take_succ_cons, List.take_zero, List.cons_append, List.nil_append]
        repeat (first
          | (refine wpY_skip (by rfl) ?_; simp only [Act.put, List.setIfInBounds_toArray, List.set_cons_zero, List.set_cons_succ])
          | (refine wpY_want (v := ?_) (by rfl) (fun W hW => ?_) ?_; rotate_left; (go_simp; try with_reducible rfl); simp only [Act.put, List.setIfInBounds_toArray, List.set_cons_zero, List.set_cons_succ]))
        refine wpY_nil ?_
        refine wpAnyH_done (by kernel_rfl) ?_ _
        refine NoPanic.normal ?_
        go_wp2_with fail
        go_ret
        exact ⟨rfl, below_more H8 hB11⟩
      · have hC1 : (C != 0) = true := by simp [hC]
        have hC2 : (C == 0) = false := beq_eq_false_iff_ne.2 hC
        have HG1 := Lib.hid G1
        have HG2 := Lib.hid G2
        clear hC G1 G2
        refine (HG1.out u4 (w.heap.size + 1) g R D4 T4 hb2 (fun k hk => by have := HRK.out k hk; omega)).mono ?_
        rintro e u5 ⟨rfl, D5, hT5⟩
        have E5 := E4.touch hT5 (by omega) (by simp) (fun e => by have := HRA.out _ e; omega) (by cases RA <;> simp)
        have S5 := S4.touch hT5 (by omega) (by simp)
        have H5 := H4.trans (hT5.below H4.size (by omega) (fun _ h => by cases h))
        have hz5 := hT5.size
        have A5 : Below u5.heap.size u5 (u5.alloc (.cells #[.int .i64 0, .int .u64 0, .int .i64 0, .int .i64 0] 48)) := (Below.refl _ u5).alloc (Nat.le_refl _) _
        have X6 := Blk.new u5 48 #[.int .i64 0, .int .u64 0, .int .i64 0, .int .i64 0]
        have E6 := E5.below A5
        have S6 := S5.below A5
        have H6 := H5.trans (A5.mono H5.size)
        clear c0 c1 c2 c3
        obtain ⟨c0, c1, c2, c3⟩ := S6.cells4
        go_wp2_with fail
        obtain ⟨x, hx⟩ : ∃ x, u5.heap.size = x := ⟨_, rfl⟩
        have hz6 : x < (u5.alloc (.cells #[.int .i64 0, .int .u64 0, .int .i64 0, .int .i64 0] 48)).heap.size := by simp; omega
        have hxl : gy < x := by omega
        rw [hx] at X6 ⊢
        generalize u5.alloc (.cells #[.int .i64 0, .int .u64 0, .int .i64 0, .int .i64 0] 48) = u6 at *
        clear A5 S5 hT5 S4 D4 E4 c0 c1 c2 c3 D5 E5
        refine (plain_any x1_0 x1_1 x1_2 x1_3 u6).mono ?_
        rintro e u7 ⟨rfl, hB7⟩
        have X6 := X6.below hB7
        have E6 := E6.below hB7
        have H6 := below_more H6 hB7
        have hz67 := hB7.size
        clear hB7
        go_wp2_with fail
        refine (HG2.out u7 gy RA E6 (fun k hk => by have := HRA.out k hk; omega)).mono ?_
        rintro e u7b ⟨rfl, E7, hT7⟩
        have X7 := X6.touch hT7 (by omega) (by simp)
        have H7 := H6.trans (hT7.below H6.size (by omega) (fun _ h => by cases h))
        have A7 : Below u7b.heap.size u7b (u7b.alloc (.cells #[.int .i64 0, .int .u64 0, .int .i64 0, .int .i64 0] 53)) := (Below.refl _ u7b).alloc (Nat.le_refl _) _
        have Z8 := Blk.new u7b 53 #[.int .i64 0, .int .u64 0, .int .i64 0, .int .i64 0]
        have X8 := X7.below A7
        have H8 := H7.trans (A7.mono H7.size)
        go_wp2_with fail
        obtain ⟨z, hz⟩ : ∃ z, u7b.heap.size = z := ⟨_, rfl⟩
        rw [hz] at Z8 ⊢
        generalize u7b.alloc (.cells #[.int .i64 0, .int .u64 0, .int .i64 0, .int .i64 0] 53) = u8 at *
        clear A7 X7 hT7 E6 S6 hz
        refine wp_region_noPanic ?_
        refine wp_region_held_drew (S := fun W : World => Blk W x 48 #[.int .i64 0, .int .u64 0, .int .i64 0, .int .i64 0] ∧ Blk W z 53 #[.int .i64 0, .int .u64 0, .int .i64 0, .int .i64 0]) (by kernel_rfl) (⟨X8.drewN 1, Z8.drewN 1⟩) (fun hSt => ?_)
        refine wpAnyH_picks [0, 2] 29 (by rfl) (by kernel_rfl) (by kernel_rfl) (by kernel_rfl) (fun _ _ _ _ _ h => h) (by assumption) ?_
        simp only [picks, List.drop_succ_cons, List.drop_zero, List.take_succ_cons, List.take_zero, List.cons_append, List.nil_append]
        repeat (first
          | (refine wpY_skip (by rfl) ?_; simp only [Act.put, List.setIfInBounds_toArray, List.set_cons_zero, List.set_cons_succ])
          | (refine wpY_want (v := ?_) (by rfl) (fun W hW => ?_) ?_; rotate_left; (obtain ⟨hW0, hW1⟩ := hW; obtain ⟨hx0, hx1, hx2, hx3⟩ := hW0.cells4; obtain ⟨hy0, hy1, hy2, hy3⟩ := hW1.cells4; go_simp; try with_reducible rfl); simp only [Act.put, List.setIfInBounds_toArray, List.set_cons_zero, List.set_cons_succ]))
        refine wpY_nil ?_
        refine wpAnyH_one 1 28 (by rfl) (by rfl) (by kernel_rfl) (fun K hK => ?_)
        go_simp
        refine (plain_any 0 0 0 0 _).mono ?_
        rintro e p1 ⟨rfl, hP1⟩
        have X8 := (X8.drewN 1).below hP1
        have Z8 := (Z8.drewN 1).below hP1
        have H8 := below_more (below_drewN H8 1) hP1
        clear hP1
        refine hK.out _ _ (⟨X8, Z8⟩) (fun hSt => ?_)
        clear hK K
        try simp only [Act.put, List.setIfInBounds_toArray, List.set_cons_zero, List.set_cons_succ]
        refine wpAnyH_picks [3, 4, 5, 6, 7, 8, 9, 10, 11, 12, 13, 14, 15, 16, 17, 18, 20, 21, 22, 23] 8 (by rfl) (by kernel_rfl) (by kernel_rfl) (by kernel_rfl) (fun _ _ _ _ _ h => h) (by assumption) ?_
        simp only [picks, List.drop_succ_cons, List.drop_zero, List.take_succ_cons, List.take_zero, List.cons_append, List.nil_append]
        repeat (first
          | (refine wpY_skip (by rfl) ?_; simp only [Act.put, List.setIfInBounds_toArray, List.set_cons_zero, List.set_cons_succ])
          | (refine wpY_want (v := ?_) (by rfl) (fun W hW => ?_) ?_; rotate_left; (obtain ⟨hW0, hW1⟩ := hW; obtain ⟨hx0, hx1, hx2, hx3⟩ := hW0.cells4; obtain ⟨hy0, hy1, hy2, hy3⟩ := hW1.cells4; go_simp; try with_reducible rfl); simp only [Act.put, List.setIfInBounds_toArray, List.set_cons_zero, List.set_cons_succ]))
        refine wpY_nil ?_
        refine wpAnyH_one 19 7 (by rfl) (by rfl) (by kernel_rfl) (fun K hK => ?_)
        go_simp
        refine hK.out _ _ (⟨X8, Z8⟩) (fun hSt => ?_)
        clear hK K
        try simp only [Act.put, List.setIfInBounds_toArray, List.set_cons_zero, List.set_cons_succ]
        refine wpAnyH_picks [24, 25, 26, 27] 3 (by rfl) (by kernel_rfl) (by kernel_rfl) (by kernel_rfl) (fun _ _ _ _ _ h => h) (by assumption) ?_
        simp only [picks, List.drop_succ_cons, List.drop_zero, List.take_succ_cons, List.take_zero, List.cons_append, List.nil_append]
        repeat (first
          | (refine wpY_skip (by rfl) ?_; simp only [Act.put, List.setIfInBounds_toArray, List.set_cons_zero, List.set_cons_succ])
          | (refine wpY_want (v := ?_) (by rfl) (fun W hW => ?_) ?_; rotate_left; (go_simp; try with_reducible rfl); simp only [Act.put, List.setIfInBounds_toArray, List.set_cons_zero, List.set_cons_succ]))
        refine wpY_nil ?_
        refine wpAnyH_one 28 2 (by rfl) (by rfl) (by kernel_rfl) (fun K hK => ?_)
        go_simp
        refine (works7_any _ (hT.below H8)).mono ?_
        rintro e v4 ⟨rfl, hB11⟩
        refine hK.out _ _ (⟨X8.below hB11, Z8.below hB11⟩) (fun hSt => ?_)
        clear hK K
        try simp only [Act.put, List.setIfInBounds_toArray, List.set_cons_zero, List.set_cons_succ]
        refine wpAnyH_picks [29, 30] 0 (by rfl) (by kernel_rfl) (by kernel_rfl) (by kernel_rfl) (fun _ _ _ _ _ h => h) (by assumption) ?_
        simp only [picks, List.drop_succ_cons, List.drop_zero, List.take_succ_cons, List.take_zero, List.cons_append, List.nil_append]
        repeat (first
          | (refine wpY_skip (by rfl) ?_; simp only [Act.put, List.setIfInBounds_toArray, List.set_cons_zero, List.set_cons_succ])
          | (refine wpY_want (v := ?_) (by rfl) (fun W hW => ?_) ?_; rotate_left; (go_simp; try with_reducible rfl); simp only [Act.put, List.setIfInBounds_toArray, List.set_cons_zero, List.set_cons_succ]))
        refine wpY_nil ?_
        refine wpAnyH_done (by kernel_rfl) ?_ _
        refine NoPanic.normal ?_
        go_wp2_with fail
        go_ret
        exact ⟨rfl, below_more H8 hB11⟩

/-- The table as the program's text lays it. -/
theorem door_met (os : Os) (args : Array Value) : laidMetH Tryd.prog [("math/bits.deBruijn64tab", Rows.laid_math_bits_deBruijn64tab)] ((World.doorLaid Tryd.prog 400 os).forCall (fun _ _ => 0) ⟨#[], args, []⟩).memory :=
  laidMetH_of_parts3 (fuel := 8) (laidMet_of_run' 8 (by kernel_rfl) (by kernel_rfl)) (by kernel_rfl) (by kernel_rfl)

set_option maxRecDepth 100000 in
theorem lifted (os : Os) (started : os.Started) (H : Type) (enc : TypeId × Value → H) :
    ReturnsInHanded {} Tryd.checked os 11 .any (fun w args => (Rows.xorGetsSpec.pre enc Tryd.prog Tryd.f11 [] false w args ∧ laidMetH Tryd.prog [("math/bits.deBruijn64tab", Rows.laid_math_bits_deBruijn64tab)] w) ∧ sizedMet enc Tryd.prog Tryd.f11 (OpenSpec.ofChange Rows.xorGetsSpec) false w args) (Rows.xorGetsSpec.post enc Tryd.prog Tryd.f11 false true false false) := by
  refine returnsInHanded_of_change_and (C := Tryd.checked) (X := fun w _ => laidMetH Tryd.prog [("math/bits.deBruijn64tab", Rows.laid_math_bits_deBruijn64tab)] w) (fun _ _ _ hh h => h.of_heap hh) own started (by kernel_rfl) Tryd.func11
    (ChangeSpec.witness_shaped (enc := enc) (C := Tryd.checked) (os := os) (X := fun w _ => laidMetH Tryd.prog [("math/bits.deBruijn64tab", Rows.laid_math_bits_deBruijn64tab)] w) false (World.doorLaid Tryd.prog 400 os) #[.slice none 0 0, .agg #[.int .i64 0, .int .u64 0, .int .i64 0, .int .i64 0], .int .i64 0] 8 rfl (World.shaped_of_RefB (by kernel_rfl) (by kernel_rfl)) (by kernel_rfl) (by kernel_rfl) (by kernel_rfl) (door_met os _)) ?_
  intro W base args ds gs before hval0 hW _ _ hL _
  have hval : ∀ (j : Nat) t v, Tryd.f11.params[j]? = some t → args[j]? = some v → Value.okWide Tryd.prog W .any base t v := hval0
  have hW' := hW
  obtain ⟨p, q, hA0, hV, rfl, hfz, hnd⟩ := hW
  have hA : DataW.TrodAll enc Tryd.prog W 0 (fun _ => true) true Tryd.f11.params.toList args.toList ds p := hA0
  rw [Tryd.params11] at hA hval
  obtain ⟨v0, vs0, d0, ds0, p0, q0, hargs, rfl, rfl, h0, r0⟩ := trodAll_cons hA
  obtain ⟨v1, vs1, d1, ds1, p1, q1, rfl, rfl, rfl, h1, r1⟩ := trodAll_cons r0
  obtain ⟨v2, vs2, d2, ds2, p2, q2, rfl, rfl, rfl, h2, r2⟩ := trodAll_cons r1
  obtain ⟨rfl, rfl, rfl⟩ := trodAll_nil r2
  obtain rfl : args = #[v0, v1, v2] := by cases args; simp_all
  obtain ⟨rfl, rfl⟩ := trodVars_none hV
  have k0 := h0
  have lt0 : ∀ x ∈ p0, x.block < W.heap.size := by obtain ⟨m, hm⟩ := k0; exact DataW.trod_lt m _ _ _ hm
  have k1 := h1
  have lt1 : ∀ x ∈ p1, x.block < W.heap.size := by obtain ⟨m, hm⟩ := k1; exact DataW.trod_lt m _ _ _ hm
  have k2 := h2
  have lt2 : ∀ x ∈ p2, x.block < W.heap.size := by obtain ⟨m, hm⟩ := k2; exact DataW.trod_lt m _ _ _ hm
  obtain ⟨a0, len0, cap0, rfl⟩ := okWide_slice Tryd.underlying43 (hval 0 43 v0 rfl rfl)
  obtain ⟨z0, w0⟩ : ∃ zs, IsRow .u8 W a0 len0 cap0 zs := by
    obtain ⟨fuel, hf⟩ := h0
    exact row_of Tryd.underlying43 Tryd.underlying5 (by kernel_rfl) hf
  obtain ⟨x1_0, x1_1, x1_2, x1_3, rfl, w1_0, w1_1, w1_2, w1_3⟩ := agg4_of Tryd.underlying48 (by kernel_rfl) (by kernel_rfl) Tryd.underlying3 Tryd.underlying38 Tryd.underlying3 Tryd.underlying3 (hval 1 48 v1 rfl rfl) h1
  obtain ⟨a2, rfl, rfl, rfl, w2⟩ := open_int Tryd.underlying3 (hval 2 3 v2 rfl rfl) h2
  have hT : XorTab W := xorTab_of hL
  clear hA0 hval0
  refine (walk a0 len0 cap0 z0 x1_0 x1_1 x1_2 x1_3 a2 W w0 w1_0 w1_1 w1_2 w1_3 w2 hT).mono fun e W' ⟨he, bel⟩ => ?_
  subst he
  exact ⟨_, rfl, _, _, _, [], _, [], hW', trodAll_mk1 (shut_bool Tryd.underlying4 _), (trodAll_cons_mk (Below.trod laidOut (by kernel_rfl) (of_decide_eq_true (by kernel_rfl)) k0 bel lt0) (trodAll_cons_mk (Below.trod laidOut (by kernel_rfl) (of_decide_eq_true (by kernel_rfl)) k1 bel lt1) (trodAll_cons_mk (shut_int Tryd.underlying3 w2) trodAll_mk0))), rfl, bel.frame _, fun h => by cases h⟩

theorem over : Rows.xorGetsRow.holds Tryd.pinned (OpenSpec.ofChange Rows.xorGetsSpec) :=
  OpenClaim.holds_of_wide 11 Tryd.f11 rfl rfl rfl rfl rfl rfl rfl ⟨rfl, rfl, rfl, rfl, rfl⟩ rfl rfl rfl rfl rfl (by kernel_rfl) Tryd.func11 (by kernel_rfl)
    (of_decide_eq_true (by kernel_rfl)) (by unfold Func.isWrapper; first | (rw [if_pos (by decide +kernel)]; kernel_rfl) | (rw [if_neg (by decide +kernel)]; exact ⟨rfl, rfl⟩))
    (fun os started H enc _ => lifted os started H enc)

theorem proved : Rows.XorGetsSaid := over

theorem card_holds : Rows.XorGetsCardSaid :=
  Claim7.holds_tied_plain_at .later [] [.data] true (true, "be161dddcf822252aefe1cd3c089d2ded8312abac7a911784b1c12d962751af1") false
    over (fun _ h => by cases h) (by kernel_rfl) (fun _ h => by cases h) xorGets_row_tie rfl ⟨rfl, rfl⟩ (by kernel_rfl) rfl
    (fun f fn hf hfn => by
      obtain rfl : f = 11 := Option.some.inj ((show Tryd.prog.funcNamed "tidepole/tidepolelaw07.XorGets" = some 11 by kernel_rfl).symm.trans hf) |>.symm
      obtain rfl : fn = Tryd.f11 := (Option.some.inj (Tryd.func11.symm.trans hfn)).symm
      exact ⟨by kernel_rfl, fun j t ht => by
        rw [Tryd.params11] at ht
        have hm : t ∈ ([43, 48, 3] : List Nat) := by simpa using Array.mem_of_getElem? ht
        have hall : (([43, 48, 3] : List Nat).all fun u => !Tryd.prog.wantsStandIn u) = true := by kernel_rfl
        exact (show Tryd.prog.wantsStandIn t = false by simpa using List.all_eq_true.1 hall t hm)⟩)
    (by kernel_rfl)
#print axioms card_holds
end Go.Proofs.YtlgndfckmnninaaDoor.xorGets
