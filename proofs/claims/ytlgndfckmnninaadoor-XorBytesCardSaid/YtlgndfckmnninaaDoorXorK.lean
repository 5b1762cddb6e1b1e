/- Walks of the laws of xor'd values: helpers. Conditions: as stated. -/
import Derived.Test.YtlgndfckmnninaaDoorXorP
import Derived.Test.YtlgndfckmnninaaDoorStampX
import Derived.Test.YtlgndfckmnninaaDoorFields
import Derived.Deep.Grids
namespace Go.Proofs.YtlgndfckmnninaaDoor
open Go.RowKit Go.Deep
set_option linter.unusedVariables false

/-- A slice of bools that came in. -/
def IsBools (w : World) (a : Option Addr) (len cap : Nat) (zs : List Bool) : Prop :=
  zs.length = len ∧ len ≤ cap ∧ cap ≤ 9223372036854775807 ∧
    (0 < len → ∃ b off, a = some ⟨b, off, none⟩ ∧ ∀ j, j < len → w.cell? ⟨b, off + j, none⟩ = some (.bool (zs[j]?.getD false)))

theorem bools_of {H : Type} {enc : TypeId × Value → H} {P : Program} {w : World} {base : Nat} {held : Bool} {t e : TypeId} {fuel : Nat} {a : Option Addr} {len cap : Nat} {x : DataW H × List MemPlace}
    (ht : P.underlying t = some (.slice e)) (he : P.underlying e = some .bool) (hC : P.cellsOf e = 1) (h : DataW.trod enc P w base (fun _ => true) held fuel t (Value.slice a len cap).cells.toList = some x) : ∃ zs, IsBools w a len cap zs := by
  rcases open_bools ht he hC h with ⟨hcs, _⟩ | ⟨x, l, c, B, hcs, _, hl, hm, _, hcell⟩
  · simp [Value.cells] at hcs
    obtain ⟨rfl, rfl, rfl⟩ := hcs
    exact ⟨[], rfl, Nat.le_refl _, by omega, fun h => absurd h (by omega)⟩
  · simp [Value.cells] at hcs
    obtain ⟨rfl, rfl, rfl⟩ := hcs
    refine ⟨(List.range len).map B, by simp, hl, by simp only [maxLen] at hm; omega, fun hn => ?_⟩
    obtain ⟨b, off, spot⟩ := x
    have h0 := hcell 0 (by omega)
    have hspot : spot = none := by simpa [Addr.add] using World.cell?_spot h0
    subst hspot
    refine ⟨b, off, rfl, fun j hj => ?_⟩
    have h1 := hcell j (by omega)
    rw [Go.WideShapes.add_plain] at h1
    rw [h1]
    simp [hj]

theorem plain_any (N V a b : Int) (w : World) :
    Calls Tryd.prog 29 #[.agg #[.int .i64 N, .int .u64 V, .int .i64 a, .int .i64 b]] w fun e w' => e = .returned (.agg #[.int .i64 N, .int .u64 V, .int .i64 a, .int .i64 b]) ∧ Below w.heap.size w w' := by
  go_enter Tryd.func29, Tryd.ntmps29
  go_wp2
  refine bodyPost_ret (v := .agg #[.int .i64 N, .int .u64 V, .int .i64 a, .int .i64 b]) (by simp [results, Tryd.results29, go_sem]) rfl ⟨rfl, ?_⟩
  exact below2' _ _ _
theorem begin_any (w : World) :
    Calls Tryd.prog 26 #[] w fun e w' => e = .returned (.agg #[.int .i64 0, .int .u64 0, .int .i64 64, .int .i64 0]) ∧ Below w.heap.size w w' := by
  go_enter Tryd.func26, Tryd.ntmps26
  go_wp2
  refine bodyPost_ret (v := .agg #[.int .i64 0, .int .u64 0, .int .i64 64, .int .i64 0]) (by simp [results, Tryd.results26, go_sem]) rfl ⟨rfl, ?_⟩
  exact (Below.refl _ _).alloc (Nat.le_refl _) _
theorem refBegin_any (w : World) :
    Calls Tryd.prog 30 #[] w fun e w' => e = .returned (.agg #[.int .i64 0, .int .u64 0, .int .i64 64, .int .i64 0]) ∧ Below w.heap.size w w' := by
  go_enter Tryd.func30, Tryd.ntmps30
  go_wp2
  refine bodyPost_ret (v := .agg #[.int .i64 0, .int .u64 0, .int .i64 64, .int .i64 0]) (by simp [results, Tryd.results30, go_sem]) rfl ⟨rfl, ?_⟩
  exact (Below.refl _ _).alloc (Nat.le_refl _) _

theorem lenI (w : World) (base g : Nat) (B : Option Nat) (L : List Bool) (c : Int) (h : Wr w base g B L) (hc : (L.length : Int) = c) :
    Calls Tryd.prog 18 #[.pointer (some ⟨g, 0, none⟩)] w fun e w' => e = .returned (.int .i64 c) ∧ w' = w := by
  subst hc
  exact (Len_any w base g B L h).mono fun e w' ⟨h1, h2⟩ => ⟨h1, h2.symm⟩
/-- Put, with what it answers spelled out. -/
theorem xPut_to (w : World) (base g : Nat) (B : Option Nat) (Lb M : List Bool) (N : Int) (V a b v : Nat) (N' V' a' b' Vi ai bi : Int) (h : Wr w base g B Lb) (hT : XorTab w) (hLb : Lb.length ≤ 400000) (hbase : base ≤ w.heap.size) (hr : rightX N a b = true) (hV : V < 18446744073709551616) (hv : v < 18446744073709551616)
    (e1 : N + 1 = N') (e2 : (v : Int) = V') (e3 : (((winX N V a b v).1 : Nat) : Int) = a') (e4 : (((winX N V a b v).2 : Nat) : Int) = b') (e5 : Lb ++ encX N V a b v = M) (e6 : (V : Int) = Vi) (e7 : (a : Int) = ai) (e8 : (b : Int) = bi) :
    Calls Tryd.prog 27 #[.pointer (some ⟨g, 0, none⟩), .agg #[.int .i64 N, .int .u64 Vi, .int .i64 ai, .int .i64 bi], .int .u64 V'] w fun e w' =>
      e = .returned (.tuple #[.agg #[.int .i64 N', .int .u64 V', .int .i64 a', .int .i64 b'], .int .i64 0]) ∧ ∃ B', Wr w' base g B' M ∧ (B' = B ∨ ∃ b, B' = some b ∧ w.heap.size ≤ b) ∧ Touch g B w w' := by
  subst e1 e2 e3 e4 e5 e6 e7 e8
  exact xPut_yes w base g B Lb N V a b v h hT hLb hbase hr hV hv

theorem xworks1 : (([] : List Bool) ++ encX 0 0 64 0 5).length = 64 ∧ winX 0 0 64 0 5 = (64, 0) := by decide
theorem xworks2 : (encX 1 5 64 0 5).length = 1 ∧ winX 1 5 64 0 5 = (64, 0) := by decide
theorem xworks3 : (encX 2 5 64 0 4).length = 15 ∧ winX 2 5 64 0 4 = (63, 0) := by decide +kernel

set_option maxHeartbeats 800000 in
theorem works7_any (w : World) (hT : XorTab w) : Calls Tryd.prog 25 #[] w fun e w' => e = .returned (.bool true) ∧ Below w.heap.size w w' := by
  obtain ⟨M1, hM1⟩ : ∃ M, [] ++ encX 0 0 64 0 5 = M := ⟨_, rfl⟩
  obtain ⟨M2, hM2⟩ : ∃ M, M1 ++ encX 1 5 64 0 5 = M := ⟨_, rfl⟩
  obtain ⟨M3, hM3⟩ : ∃ M, M2 ++ encX 2 5 64 0 4 = M := ⟨_, rfl⟩
  have l1 : M1.length = 64 := by rw [← hM1]; exact xworks1.1
  have l2 : M2.length = 65 := by rw [← hM2, List.length_append, l1, xworks2.1]
  have l3 : M3.length = 80 := by rw [← hM3, List.length_append, l2, xworks3.1]
  have K1 := Lib.hid hM1
  have K2 := Lib.hid hM2
  have K3 := Lib.hid hM3
  have Q1 := Lib.hid l1
  have Q2 := Lib.hid l2
  have Q3 := Lib.hid l3
  clear hM1 hM2 hM3 l1 l2 l3
  go_enter Tryd.func25, Tryd.ntmps25
  go_wp2_with fail
  refine (NewWriter_any w w.heap.size (Nat.le_refl _)).mono ?_
  rintro e w1 ⟨g, rfl, hg, W1, hB1⟩
  go_wp2_with fail
  refine (begin_any w1).mono ?_
  rintro e w1' ⟨rfl, hB1'⟩
  have H1 := hB1.trans (hB1'.mono hB1.size)
  have W1' := W1.below hB1'
  have T1 := hT.below H1
  go_wp2_with fail
  refine (xPut_to w1' w.heap.size g none [] M1 0 0 64 0 5 1 5 64 0 0 64 0 W1' T1 (by simp) H1.size (by decide) (by omega) (by omega) rfl rfl (by rw [xworks1.2]; rfl) (by rw [xworks1.2]; rfl) K1.out rfl rfl rfl).mono ?_
  rintro e w2 ⟨rfl, B2, W2, hB2, hT2⟩
  have H2 := H1.trans (hT2.below H1.size hg (fun _ h => by cases h))
  have X2 := Blk.new w2 48 #[.int .i64 1, .int .u64 5, .int .i64 64, .int .i64 0]
  have A2 : Below w2.heap.size w2 (w2.alloc (.cells #[.int .i64 1, .int .u64 5, .int .i64 64, .int .i64 0] 48)) := (Below.refl _ w2).alloc (Nat.le_refl _) _
  have H2a := H2.trans (A2.mono H2.size)
  have W2a := W2.below A2
  have hx2 := H2.size
  have hg2 := W2.lt
  have hr2 := W2.row
  obtain ⟨c0, c1, c2, c3⟩ := X2.cells4
  go_wp2_with fail
  clear c0 c1 c2 c3
  have T2a := hT.below H2a
  obtain ⟨x, hx⟩ : ∃ x, w2.heap.size = x := ⟨_, rfl⟩
  rw [hx] at hg2 hr2 hx2 X2 ⊢
  generalize w2.alloc (.cells #[.int .i64 1, .int .u64 5, .int .i64 64, .int .i64 0] 48) = w3 at *
  clear A2 hx
  refine (xPut_to w3 w.heap.size g B2 M1 M2 1 5 64 0 5 2 5 64 0 5 64 0 W2a T2a (by have := Q1.out; omega) H2a.size (by decide) (by omega) (by omega) rfl rfl (by rw [xworks2.2]; rfl) (by rw [xworks2.2]; rfl) K2.out rfl rfl rfl).mono ?_
  rintro e w4 ⟨rfl, B4, W4, hB4, hT4⟩
  have H4 := H2a.trans (hT4.below H2a.size hg (fun k hk => (hr2 k hk).1))
  have X4 := X2.touch hT4 (by omega) (fun e => by have := (hr2 _ e.symm).2; omega)
  have hr4 := W4.row
  have hg4 := hT4.size
  have hx3 := X2.lt
  obtain ⟨c0, c1, c2, c3⟩ := X4.cells4
  obtain ⟨f0, f1, f2, f3⟩ := X4.free4
  have nb4 : B4 ≠ some x := fun e => by
    rcases hB4 with rfl | ⟨b, rfl, hb⟩
    · have := (hr2 _ e).2; omega
    · have : b = x := by injection e
      omega
  have NB4 := Lib.hid nb4
  clear nb4
  go_wp2_with fail
  have X5 := X4.set4 (.int .i64 2) (.int .u64 5) (.int .i64 64) (.int .i64 0)
  have W5 := W4.set4 (r := x) (by omega) NB4.out (.int .i64 2) (.int .u64 5) (.int .i64 64) (.int .i64 0)
  have H5 := below_set4 H4 (g := x) (by omega) (.int .i64 2) (.int .u64 5) (.int .i64 64) (.int .i64 0)
  clear c0 c1 c2 c3 f0 f1 f2 f3
  have hz5 : w4.heap.size ≤ (set4 w4 x (.int .i64 2) (.int .u64 5) (.int .i64 64) (.int .i64 0)).heap.size := by simp [World.setCell]
  unfold set4 at *
  generalize (((w4.setCell ⟨x, 0, none⟩ (.int .i64 2)).setCell ⟨x, 1, none⟩ (.int .u64 5)).setCell ⟨x, 2, none⟩ (.int .i64 64)).setCell ⟨x, 3, none⟩ (.int .i64 0) = w5 at *
  refine (lenI _ w.heap.size g B4 M2 65 W5 (by rw [Q2.out]; rfl)).mono ?_
  rintro e w' ⟨rfl, rfl⟩
  obtain ⟨c0, c1, c2, c3⟩ := X5.cells4
  have T5 := hT.below H5
  go_wp2_with fail
  clear c0 c1 c2 c3
  refine (xPut_to w' w.heap.size g B4 M2 M3 2 5 64 0 4 3 4 63 0 5 64 0 W5 T5 (by have := Q2.out; omega) H5.size (by decide) (by omega) (by omega) rfl rfl (by rw [xworks3.2]; rfl) (by rw [xworks3.2]; rfl) K3.out rfl rfl rfl).mono ?_
  rintro e w6 ⟨rfl, B6, W6, hB6, hT6⟩
  have H6 := H5.trans (hT6.below H5.size hg (fun k hk => (hr4 k hk).1))
  have X6 := X5.touch hT6 (by omega) (fun e => NB4.out e.symm)
  obtain ⟨c0, c1, c2, c3⟩ := X6.cells4
  obtain ⟨f0, f1, f2, f3⟩ := X6.free4
  have nb6 : B6 ≠ some x := fun e => by
    rcases hB6 with rfl | ⟨b, rfl, hb⟩
    · exact NB4.out e
    · have : b = x := by injection e
      omega
  have NB6 := Lib.hid nb6
  clear nb6
  go_wp2_with fail
  have X7 := X6.set4 (.int .i64 3) (.int .u64 4) (.int .i64 63) (.int .i64 0)
  have W7 := W6.set4 (r := x) (by omega) NB6.out (.int .i64 3) (.int .u64 4) (.int .i64 63) (.int .i64 0)
  have H7 := below_set4 H6 (g := x) (by omega) (.int .i64 3) (.int .u64 4) (.int .i64 63) (.int .i64 0)
  clear c0 c1 c2 c3 f0 f1 f2 f3
  unfold set4 at *
  generalize (((w6.setCell ⟨x, 0, none⟩ (.int .i64 3)).setCell ⟨x, 1, none⟩ (.int .u64 4)).setCell ⟨x, 2, none⟩ (.int .i64 63)).setCell ⟨x, 3, none⟩ (.int .i64 0) = w7 at *
  refine (lenI _ w.heap.size g B6 M3 80 W7 (by rw [Q3.out]; rfl)).mono ?_
  rintro e w' ⟨rfl, rfl⟩
  obtain ⟨c0, c1, c2, c3⟩ := X7.cells4
  go_wp2_with fail
  go_ret
  exact ⟨rfl, H7⟩
end Go.Proofs.YtlgndfckmnninaaDoor
