/- Walks of the laws of stamps: helpers. Conditions: as stated. -/
import Derived.Test.YtlgndfckmnninaaDoorStampX
namespace Go.Proofs.YtlgndfckmnninaaDoor
open Go.RowKit

/-- Among, whatever it is asked. -/
theorem among_some (x m : Int) (w : World) (h1 : 1 ≤ m) (h2 : m ≤ 4611686018427387904) :
    Calls Tryd.prog 15 #[.int .i64 x, .int .i64 m] w fun e w' => (∃ a : Int, e = .returned (.int .i64 a) ∧ 0 ≤ a ∧ a < m) ∧ w' = w := by
  have h3 : IntKind.u64.wrap m = m := by rw [IntKind.wrap_u64]; omega
  have h4 : (0 : Int) ≤ IntKind.u64.wrap x := by rw [IntKind.wrap_u64]; omega
  have h5 := Int.tmod_eq_emod_of_nonneg (b := m) h4
  have h6 := Int.emod_lt_of_pos (IntKind.u64.wrap x) (show (0 : Int) < m by omega)
  have h7 := Int.emod_nonneg (IntKind.u64.wrap x) (show m ≠ 0 by omega)
  obtain ⟨a, ha⟩ : ∃ a, (IntKind.u64.wrap x).tmod m = a := ⟨_, rfl⟩
  rw [ha] at h5
  rw [← h5] at h6 h7
  have e2 : wrap64 a = a := by unfold wrap64; omega
  clear h5
  go_enter Tryd.func15, Tryd.ntmps15
  go_wp2
  go_ret
  exact ⟨⟨_, rfl, h7, h6⟩, rfl⟩

/-- Put, with what it answers spelled out. -/
theorem sPut_to (w : World) (base g : Nat) (B : Option Nat) (Lb M : List Bool) (N L D t N' D' : Int) (h : Wr w base g B Lb) (hT : StampTab w) (hLb : Lb.length ≤ 500000) (hbase : base ≤ w.heap.size) (hn : nextS N L t = true) (hr : rightS N L D = true)
    (e1 : N + 1 = N') (e2 : difS N L t = D') (e3 : Lb ++ encS N L D t = M) :
    Calls Tryd.prog 17 #[.pointer (some ⟨g, 0, none⟩), .agg #[.int .i64 N, .int .i64 L, .int .i64 D], .int .i64 t] w fun e w' =>
      e = .returned (.tuple #[.agg #[.int .i64 N', .int .i64 t, .int .i64 D'], .int .i64 0]) ∧ ∃ B', Wr w' base g B' M ∧ (B' = B ∨ ∃ b, B' = some b ∧ w.heap.size ≤ b) ∧ Touch g B w w' := by
  subst e1 e2 e3
  exact sPut_yes w base g B Lb N L D t h hT hLb hbase hn hr
theorem Len_int (w : World) (base g : Nat) (B : Option Nat) (L : List Bool) (c : Int) (h : Wr w base g B L) (hc : (L.length : Int) = c) :
    Calls Tryd.prog 18 #[.pointer (some ⟨g, 0, none⟩)] w fun e w' => e = .returned (.int .i64 c) ∧ w' = w := by
  subst hc
  exact (Len_any w base g B L h).mono fun e w' ⟨h1, h2⟩ => ⟨h1, h2.symm⟩

theorem works_len1 : (([] : List Bool) ++ encS 0 0 0 10).length = 46 := by decide
theorem works_len2 : (encS 1 10 0 20).length = 9 := by decide
theorem works_len3 : (encS 2 20 10 30).length = 1 := by decide

set_option maxHeartbeats 800000 in
theorem works6_any (w : World) (hT : StampTab w) : Calls Tryd.prog 14 #[] w fun e w' => e = .returned (.bool true) ∧ Below w.heap.size w w' := by
  obtain ⟨M1, hM1⟩ : ∃ M, [] ++ encS 0 0 0 10 = M := ⟨_, rfl⟩
  obtain ⟨M2, hM2⟩ : ∃ M, M1 ++ encS 1 10 0 20 = M := ⟨_, rfl⟩
  obtain ⟨M3, hM3⟩ : ∃ M, M2 ++ encS 2 20 10 30 = M := ⟨_, rfl⟩
  have l1 : M1.length = 46 := by rw [← hM1]; exact works_len1
  have l2 : M2.length = 55 := by rw [← hM2, List.length_append, l1, works_len2]
  have l3 : M3.length = 56 := by rw [← hM3, List.length_append, l2, works_len3]
  have K1 := Lib.hid hM1
  have K2 := Lib.hid hM2
  have K3 := Lib.hid hM3
  have Q1 := Lib.hid l1
  have Q2 := Lib.hid l2
  have Q3 := Lib.hid l3
  clear hM1 hM2 hM3 l1 l2 l3
  go_enter Tryd.func14, Tryd.ntmps14
  go_wp2_with fail
  refine (NewWriter_any w w.heap.size (Nat.le_refl _)).mono ?_
  rintro e w1 ⟨g, rfl, hg, W1, hB1⟩
  have T1 := hT.below hB1
  go_wp2_with fail
  refine (sPut_to w1 w.heap.size g none [] M1 0 0 0 10 1 0 W1 T1 (by simp) hB1.size (by decide) (by decide) rfl rfl K1.out).mono ?_
  rintro e w2 ⟨rfl, B2, W2, hB2, hT2⟩
  have H2 := hB1.trans (hT2.below hB1.size hg (fun _ h => by cases h))
  have X2 := Blk.new w2 27 #[.int .i64 1, .int .i64 10, .int .i64 0]
  have H2a := H2.alloc H2.size (.cells #[.int .i64 1, .int .i64 10, .int .i64 0] 27)
  have W2a := W2.below ((Below.refl _ w2).alloc (Nat.le_refl _) (.cells #[.int .i64 1, .int .i64 10, .int .i64 0] 27))
  have hx2 := H2.size
  have hg2 := W2.lt
  have hr2 := W2.row
  go_wp2_with fail
  refine (Len_int _ w.heap.size g B2 M1 46 W2a (by rw [Q1.out]; rfl)).mono ?_
  rintro e w' ⟨rfl, rfl⟩
  obtain ⟨c0, c1, c2⟩ := X2.cells3
  go_wp2_with fail
  have T2a := hT.below H2a
  clear c0 c1 c2
  obtain ⟨x, hx⟩ : ∃ x, w2.heap.size = x := ⟨_, rfl⟩
  rw [hx] at hg2 hr2 hx2 X2 ⊢
  generalize w2.alloc (.cells #[.int .i64 1, .int .i64 10, .int .i64 0] 27) = w3 at *
  refine (sPut_to w3 w.heap.size g B2 M1 M2 1 10 0 20 2 10 W2a T2a (by have := Q1.out; omega) H2a.size (by decide) (by decide) rfl rfl K2.out).mono ?_
  rintro e w4 ⟨rfl, B4, W4, hB4, hT4⟩
  have H4 := H2a.trans (hT4.below H2a.size hg (fun k hk => (hr2 k hk).1))
  have X4 := X2.touch hT4 (by omega) (fun e => by have := (hr2 _ e.symm).2; omega)
  have hr4 := W4.row
  have hg4 := hT4.size
  have hx3 := X2.lt
  obtain ⟨c0, c1, c2⟩ := X4.cells3
  obtain ⟨f0, f1, f2⟩ := X4.free3
  have nb4 : B4 ≠ some x := fun e => by
    rcases hB4 with rfl | ⟨b, rfl, hb⟩
    · have := (hr2 _ e).2; omega
    · have : b = x := by injection e
      omega
  have NB4 := Lib.hid nb4
  clear nb4
  go_wp2_with fail
  have X5 := X4.put3 (.int .i64 2) (.int .i64 20) (.int .i64 10)
  have W5 := W4.put3 (r := x) (by omega) NB4.out (.int .i64 2) (.int .i64 20) (.int .i64 10)
  have H5 := below_put3 H4 (g := x) (by omega) (.int .i64 2) (.int .i64 20) (.int .i64 10)
  clear c0 c1 c2 f0 f1 f2
  have hz5 : w4.heap.size ≤ (put3 w4 x (.int .i64 2) (.int .i64 20) (.int .i64 10)).heap.size := by simp [World.setCell]
  unfold put3 at *
  generalize ((w4.setCell ⟨x, 0, none⟩ (.int .i64 2)).setCell ⟨x, 1, none⟩ (.int .i64 20)).setCell ⟨x, 2, none⟩ (.int .i64 10) = w5 at *
  refine (Len_int _ w.heap.size g B4 M2 55 W5 (by rw [Q2.out]; rfl)).mono ?_
  rintro e w' ⟨rfl, rfl⟩
  obtain ⟨c0, c1, c2⟩ := X5.cells3
  have T5 := hT.below H5
  go_wp2_with fail
  clear c0 c1 c2
  refine (sPut_to w' w.heap.size g B4 M2 M3 2 20 10 30 3 10 W5 T5 (by have := Q2.out; omega) H5.size (by decide) (by decide) rfl rfl K3.out).mono ?_
  rintro e w6 ⟨rfl, B6, W6, hB6, hT6⟩
  have H6 := H5.trans (hT6.below H5.size hg (fun k hk => (hr4 k hk).1))
  have X6 := X5.touch hT6 (by omega) (fun e => NB4.out e.symm)
  obtain ⟨c0, c1, c2⟩ := X6.cells3
  obtain ⟨f0, f1, f2⟩ := X6.free3
  have nb6 : B6 ≠ some x := fun e => by
    rcases hB6 with rfl | ⟨b, rfl, hb⟩
    · exact NB4.out e
    · have : b = x := by injection e
      omega
  have NB6 := Lib.hid nb6
  clear nb6
  go_wp2_with fail
  have X7 := X6.put3 (.int .i64 3) (.int .i64 30) (.int .i64 10)
  have W7 := W6.put3 (r := x) (by omega) NB6.out (.int .i64 3) (.int .i64 30) (.int .i64 10)
  have H7 := below_put3 H6 (g := x) (by omega) (.int .i64 3) (.int .i64 30) (.int .i64 10)
  clear c0 c1 c2 f0 f1 f2
  unfold put3 at *
  generalize ((w6.setCell ⟨x, 0, none⟩ (.int .i64 3)).setCell ⟨x, 1, none⟩ (.int .i64 30)).setCell ⟨x, 2, none⟩ (.int .i64 10) = w7 at *
  refine (Len_int _ w.heap.size g B6 M3 56 W7 (by rw [Q3.out]; rfl)).mono ?_
  rintro e w' ⟨rfl, rfl⟩
  obtain ⟨c0, c1, c2⟩ := X7.cells3
  go_wp2_with fail
  go_ret
  exact ⟨rfl, H7⟩
end Go.Proofs.YtlgndfckmnninaaDoor
