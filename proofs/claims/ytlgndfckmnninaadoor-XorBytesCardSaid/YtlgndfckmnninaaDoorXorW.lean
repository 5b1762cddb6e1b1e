/- Walks of package xor: windows, states. Conditions: as stated. -/
import Derived.Test.YtlgndfckmnninaaDoorXorT
import Derived.Test.YtlgndfckmnninaaDoorShelf
import Derived.Test.YtlgndfckmnninaaDoorTab
namespace Go.Proofs.YtlgndfckmnninaaDoor
open Go.RowKit

theorem lz_any (x : Nat) (w : World) (hx : x < 18446744073709551616) :
    Calls Tryd.prog 79 #[.int .u64 x] w fun e w' => e = .returned (.int .i64 (lz x : Nat)) ∧ w' = w :=
  (Tryd.bits_LeadingZeros64 x w (by omega) (by omega)).mono fun e w' ⟨h1, h2⟩ => by
    refine ⟨?_, h2⟩
    have h3 := Lib.bitLen_le x 64 (by omega) (by omega)
    rw [h1, Int.toNat_natCast]
    exact ret_int (by unfold lz; omega)

theorem tz_core (x k idx : Nat) (w : World) (hx0 : ((x : Int) == 0) = false)
    (key : IntKind.u64.wrap (bits BinOp.and IntKind.u64 (x : Int) (IntKind.u64.wrap (-(x : Int))) * 285870213051353865) / 288230376151711744 = (idx : Int))
    (hi : idx < 64) (hk : k < 64) (hcell : w.cell? ⟨1, idx, none⟩ = some (.int .u8 k)) :
    Calls Tryd.prog 80 #[.int .u64 x] w fun e w' => e = .returned (.int .i64 k) ∧ w' = w := by
  go_enter Tryd.func80, Tryd.ntmps80
  go_wp2_with (simp only [key])
  go_ret
  exact ⟨rfl, rfl⟩

theorem tz_any (x : Nat) (w : World) (h0 : x ≠ 0) (hx : x < 18446744073709551616) (hT : XorTab w) :
    Calls Tryd.prog 80 #[.int .u64 x] w fun e w' => e = .returned (.int .i64 (tz x : Nat)) ∧ w' = w := by
  obtain ⟨hlow, hk⟩ := Lib.lowest_bit 64 x h0 hx
  obtain ⟨hi, htab⟩ := Lib.deBruijn64_at _ hk
  have hcell := hT _ hi
  rw [htab] at hcell
  exact tz_core x _ _ w (by simp; omega) (tz64_key x _ hx h0 hlow) hi hk hcell

theorem Blk.cells2 {w : World} {g : Nat} {t : TypeId} {a b : Value} (h : Blk w g t #[a, b]) : w.cell? ⟨g, 0, none⟩ = some a ∧ w.cell? ⟨g, 1, none⟩ = some b := by
  have h0 := h.cell 0
  have h1 := h.cell 1
  simp at h0 h1
  exact ⟨h0, h1⟩
theorem Blk.cells4 {w : World} {g : Nat} {t : TypeId} {a b c d : Value} (h : Blk w g t #[a, b, c, d]) : w.cell? ⟨g, 0, none⟩ = some a ∧ w.cell? ⟨g, 1, none⟩ = some b ∧ w.cell? ⟨g, 2, none⟩ = some c ∧ w.cell? ⟨g, 3, none⟩ = some d := by
  have h0 := h.cell 0
  have h1 := h.cell 1
  have h2 := h.cell 2
  have h3 := h.cell 3
  simp at h0 h1 h2 h3
  exact ⟨h0, h1, h2, h3⟩
theorem Blk.free4 {w : World} {g : Nat} {t : TypeId} {cs : Array Value} (h : Blk w g t cs) : w.frozen? ⟨g, 0, none⟩ = false ∧ w.frozen? ⟨g, 1, none⟩ = false ∧ w.frozen? ⟨g, 2, none⟩ = false ∧ w.frozen? ⟨g, 3, none⟩ = false := ⟨h.frozen 0, h.frozen 1, h.frozen 2, h.frozen 3⟩
/-- Cells are stored. -/
abbrev set2 (w : World) (g : Nat) (x y : Value) : World := (w.setCell ⟨g, 0, none⟩ x).setCell ⟨g, 1, none⟩ y
abbrev set4 (w : World) (g : Nat) (x y z u : Value) : World := (((w.setCell ⟨g, 0, none⟩ x).setCell ⟨g, 1, none⟩ y).setCell ⟨g, 2, none⟩ z).setCell ⟨g, 3, none⟩ u
theorem Blk.set2 {w : World} {g : Nat} {t : TypeId} {a b : Value} (h : Blk w g t #[a, b]) (x y : Value) : Blk (set2 w g x y) g t #[x, y] := (h.set_ 0 x).set_ 1 y
theorem Blk.set4 {w : World} {g : Nat} {t : TypeId} {a b c d : Value} (h : Blk w g t #[a, b, c, d]) (x y z u : Value) : Blk (set4 w g x y z u) g t #[x, y, z, u] := (((h.set_ 0 x).set_ 1 y).set_ 2 z).set_ 3 u
theorem Blk.farSet2 {w : World} {g g' : Nat} {t : TypeId} {cs : Array Value} (h : Blk w g t cs) (hg : g ≠ g') (x y : Value) : Blk (Go.Proofs.YtlgndfckmnninaaDoor.set2 w g' x y) g t cs := (h.far (p := ⟨g', 0, none⟩) hg x).far (p := ⟨g', 1, none⟩) hg y
theorem Blk.farSet4 {w : World} {g g' : Nat} {t : TypeId} {cs : Array Value} (h : Blk w g t cs) (hg : g ≠ g') (x y z u : Value) : Blk (Go.Proofs.YtlgndfckmnninaaDoor.set4 w g' x y z u) g t cs := (((h.far (p := ⟨g', 0, none⟩) hg x).far (p := ⟨g', 1, none⟩) hg y).far (p := ⟨g', 2, none⟩) hg z).far (p := ⟨g', 3, none⟩) hg u
theorem below_set2 {base : Nat} {w w1 : World} (h : Below base w w1) {g : Nat} (hg : base ≤ g) (x y : Value) : Below base w (set2 w1 g x y) := (h.setCell (p := ⟨g, 0, none⟩) hg x).setCell (p := ⟨g, 1, none⟩) hg y
theorem below_set4 {base : Nat} {w w1 : World} (h : Below base w w1) {g : Nat} (hg : base ≤ g) (x y z u : Value) : Below base w (set4 w1 g x y z u) := (((h.setCell (p := ⟨g, 0, none⟩) hg x).setCell (p := ⟨g, 1, none⟩) hg y).setCell (p := ⟨g, 2, none⟩) hg z).setCell (p := ⟨g, 3, none⟩) hg u
theorem Touch.set2 {g : Nat} {B : Option Nat} {a w : World} (h : Touch g B a w) {r : Nat} (hr : a.heap.size ≤ r) (x y : Value) : Touch g B a (Go.Proofs.YtlgndfckmnninaaDoor.set2 w r x y) := (h.setRow (.inr hr) 0 x).setRow (.inr hr) 1 y
theorem Touch.set4 {g : Nat} {B : Option Nat} {a w : World} (h : Touch g B a w) {r : Nat} (hr : a.heap.size ≤ r) (x y z u : Value) : Touch g B a (Go.Proofs.YtlgndfckmnninaaDoor.set4 w r x y z u) := (((h.setRow (.inr hr) 0 x).setRow (.inr hr) 1 y).setRow (.inr hr) 2 z).setRow (.inr hr) 3 u
theorem touch_set2 (w : World) (r : Nat) (x y : Value) : Touch r none w (set2 w r x y) := ((Touch.refl r none w).set_ 0 x).set_ 1 y
theorem touch_set4 (w : World) (r : Nat) (x y z u : Value) : Touch r none w (set4 w r x y z u) := ((((Touch.refl r none w).set_ 0 x).set_ 1 y).set_ 2 z).set_ 3 u
theorem below2' (w : World) (a b : Obj) : Below w.heap.size w ((w.alloc a).alloc b) := ((Below.refl _ w).alloc (Nat.le_refl _) a).alloc (by simp) b

theorem window_any (N V a b : Int) (w : World) :
    Calls Tryd.prog 63 #[.agg #[.int .i64 N, .int .u64 V, .int .i64 a, .int .i64 b]] w fun e w' => e = .returned (.agg #[.int .i64 a, .int .i64 b]) ∧ Below w.heap.size w w' := by
  go_enter Tryd.func63, Tryd.ntmps63
  go_wp2
  refine bodyPost_ret (v := .agg #[.int .i64 a, .int .i64 b]) (by simp [results, Tryd.results63, go_sem]) rfl ⟨rfl, ?_⟩
  exact below2' _ _ _
theorem size_win (a b : Int) (w : World) (ha : 0 ≤ a) (ha4 : a ≤ 64) (hb : 0 ≤ b) (hb4 : b ≤ 64) :
    Calls Tryd.prog 67 #[.agg #[.int .i64 a, .int .i64 b]] w fun e w' => e = .returned (.int .i64 (64 - a - b)) ∧ Below w.heap.size w w' := by
  go_enter Tryd.func67, Tryd.ntmps67
  go_wp2
  go_ret
  exact ⟨rfl, (Below.refl _ _).alloc (Nat.le_refl _) _⟩
theorem xnext_any (N V a b v a' b' : Int) (w : World) (h1 : 0 ≤ N) (h2 : N ≤ 4096) :
    Calls Tryd.prog 68 #[.agg #[.int .i64 N, .int .u64 V, .int .i64 a, .int .i64 b], .int .u64 v, .agg #[.int .i64 a', .int .i64 b']] w fun e w' => e = .returned (.agg #[.int .i64 (N + 1), .int .u64 v, .int .i64 a', .int .i64 b']) ∧ Below w.heap.size w w' := by
  go_enter Tryd.func68, Tryd.ntmps68
  go_wp2
  refine bodyPost_ret (v := .agg #[.int .i64 (N + 1), .int .u64 v, .int .i64 a', .int .i64 b']) (by simp [results, Tryd.results68, go_sem]) rfl ⟨rfl, ?_⟩
  exact (below2' _ _ _).alloc (by simp; omega) _
theorem around_any (x : Nat) (w : World) (h0 : x ≠ 0) (hx : x < 18446744073709551616) (hT : XorTab w) :
    Calls Tryd.prog 66 #[.int .u64 x] w fun e w' => e = .returned (.agg #[.int .i64 (lz x : Nat), .int .i64 (tz x : Nat)]) ∧ Below w.heap.size w w' := by
  have T1 := hT.below ((Below.refl w.heap.size w).alloc (Nat.le_refl _) (.cells #[.int .i64 0, .int .i64 0] 113))
  have HX := Lib.hid hx
  have H0 := Lib.hid h0
  clear hx h0
  go_enter Tryd.func66, Tryd.ntmps66
  go_wp2_with fail
  refine (lz_any x _ HX.out).mono ?_
  rintro e w' ⟨rfl, rfl⟩
  go_wp2_with fail
  refine (tz_any x _ H0.out HX.out T1).mono ?_
  rintro e w' ⟨rfl, rfl⟩
  go_wp2_with fail
  refine bodyPost_ret (v := .agg #[.int .i64 (lz x : Nat), .int .i64 (tz x : Nat)]) (by simp [results, Tryd.results66, go_sem]) rfl ⟨rfl, ?_⟩
  exact (Below.refl _ _).alloc (Nat.le_refl _) _
theorem holdsW_any (a b c d : Int) (w : World) (h : Bool) (hh : h = decide (a < 64 ∧ a ≤ c ∧ b ≤ d)) :
    Calls Tryd.prog 65 #[.agg #[.int .i64 a, .int .i64 b], .agg #[.int .i64 c, .int .i64 d]] w fun e w' => e = .returned (.bool h) ∧ Below w.heap.size w w' := by
  have hcs : (h = false ∧ 64 ≤ a) ∨ (h = false ∧ a < 64 ∧ c < a) ∨ (h = false ∧ a < 64 ∧ a ≤ c ∧ d < b) ∨ (h = true ∧ a < 64 ∧ a ≤ c ∧ b ≤ d) := by
    cases h with
    | false =>
      have h0 := of_decide_eq_false hh.symm
      have h1 : 64 ≤ a ∨ (a < 64 ∧ c < a) ∨ (a < 64 ∧ a ≤ c ∧ d < b) := by omega
      rcases h1 with h1 | h1 | h1
      · exact .inl ⟨rfl, h1⟩
      · exact .inr (.inl ⟨rfl, h1⟩)
      · exact .inr (.inr (.inl ⟨rfl, h1⟩))
    | true =>
      have h0 := of_decide_eq_true hh.symm
      exact .inr (.inr (.inr ⟨rfl, h0⟩))
  clear hh
  rcases hcs with ⟨rfl, h1⟩ | ⟨rfl, h1, h2⟩ | ⟨rfl, h1, h2, h3⟩ | ⟨rfl, h1, h2, h3⟩
  all_goals
    go_enter Tryd.func65, Tryd.ntmps65
    go_wp2
    go_ret
    exact ⟨by first | rfl | (simp; omega), below2' _ _ _⟩

theorem xright_first (N V : Int) (w : World) (h1 : 0 ≤ N) (h2 : N ≤ 4096) :
    Calls Tryd.prog 62 #[.agg #[.int .i64 N, .int .u64 V, .int .i64 64, .int .i64 0]] w fun e w' => e = .returned (.bool true) ∧ Below w.heap.size w w' := by
  have S0 := Blk.new w 48 #[.int .i64 N, .int .u64 V, .int .i64 64, .int .i64 0]
  have B0 : Below w.heap.size w (w.alloc (.cells #[.int .i64 N, .int .u64 V, .int .i64 64, .int .i64 0] 48)) := (Below.refl _ w).alloc (Nat.le_refl _) _
  have n1 : decide (N < 0) = false := decide_eq_false (by omega)
  have n2 : decide (4096 < N) = false := decide_eq_false (by omega)
  go_enter Tryd.func62, Tryd.ntmps62
  go_wp2_with fail
  refine (window_any N V 64 0 _).mono ?_
  rintro e w1 ⟨rfl, hB1⟩
  have A1 := (Below.refl w1.heap.size w1).alloc (Nat.le_refl _) (.cells #[.int .i64 64, .int .i64 0] 113)
  have S1 := (S0.below hB1).below A1
  have X1 := Blk.new w1 113 #[.int .i64 64, .int .i64 0]
  have H1 := below_more (below_more B0 hB1) A1
  obtain ⟨c0, c1, c2, c3⟩ := S1.cells4
  obtain ⟨d0, d1⟩ := X1.cells2
  go_wp2_with fail
  go_ret
  exact ⟨rfl, H1⟩

set_option maxHeartbeats 800000 in
theorem xright_win (N V a b : Int) (w : World) (h1 : 0 ≤ N) (h2 : N ≤ 4096) (h3 : 0 ≤ a) (h4 : 0 ≤ b) (h5 : a + b ≤ 63) :
    Calls Tryd.prog 62 #[.agg #[.int .i64 N, .int .u64 V, .int .i64 a, .int .i64 b]] w fun e w' => e = .returned (.bool true) ∧ Below w.heap.size w w' := by
  have S0 := Blk.new w 48 #[.int .i64 N, .int .u64 V, .int .i64 a, .int .i64 b]
  have B0 : Below w.heap.size w (w.alloc (.cells #[.int .i64 N, .int .u64 V, .int .i64 a, .int .i64 b] 48)) := (Below.refl _ w).alloc (Nat.le_refl _) _
  have n1 : decide (N < 0) = false := decide_eq_false (by omega)
  have n2 : decide (4096 < N) = false := decide_eq_false (by omega)
  have n3 : (a == 64) = false := beq_eq_false_iff_ne.2 (by omega)
  have n4 : decide (a < 64) = true := decide_eq_true (by omega)
  have n5 : decide (b < 64) = true := decide_eq_true (by omega)
  have n6 : a < 64 := by omega
  have n7 : b < 64 := by omega
  have n8 : b < 64 - a := by omega
  have n9 : decide (b < 64 - a) = true := decide_eq_true (by omega)
  go_enter Tryd.func62, Tryd.ntmps62
  go_wp2_with fail
  refine (window_any N V a b _).mono ?_
  rintro e w1 ⟨rfl, hB1⟩
  have A1 := (Below.refl w1.heap.size w1).alloc (Nat.le_refl _) (.cells #[.int .i64 a, .int .i64 b] 113)
  have S1 := (S0.below hB1).below A1
  have X1 := Blk.new w1 113 #[.int .i64 a, .int .i64 b]
  have H1 := below_more (below_more B0 hB1) A1
  obtain ⟨c0, c1, c2, c3⟩ := S1.cells4
  obtain ⟨d0, d1⟩ := X1.cells2
  go_wp2_with fail
  refine (size_win a b _ h3 (by omega) h4 (by omega)).mono ?_
  rintro e w2 ⟨rfl, hB2⟩
  go_wp2_with fail
  go_ret
  exact ⟨rfl, below_more H1 hB2⟩
theorem xright_yes (N V a b : Int) (w : World) (h : rightX N a b = true) :
    Calls Tryd.prog 62 #[.agg #[.int .i64 N, .int .u64 V, .int .i64 a, .int .i64 b]] w fun e w' => e = .returned (.bool true) ∧ Below w.heap.size w w' := by
  obtain ⟨h1, h2, ⟨rfl, rfl⟩ | ⟨h3, h4, h5⟩⟩ := rightX_of h
  · exact xright_first N V w h1 h2
  · exact xright_win N V a b w h1 h2 h3 h4 h5

set_option maxHeartbeats 1600000 in
theorem xright_no (N V a b : Int) (w : World) (h : rightX N a b = false) :
    Calls Tryd.prog 62 #[.agg #[.int .i64 N, .int .u64 V, .int .i64 a, .int .i64 b]] w fun e w' => e = .returned (.bool false) ∧ Below w.heap.size w w' := by
  have h := rightX_no h
  have S0 := Blk.new w 48 #[.int .i64 N, .int .u64 V, .int .i64 a, .int .i64 b]
  have B0 : Below w.heap.size w (w.alloc (.cells #[.int .i64 N, .int .u64 V, .int .i64 a, .int .i64 b] 48)) := (Below.refl _ w).alloc (Nat.le_refl _) _
  have hcs : N < 0 ∨ (¬ N < 0 ∧ 4096 < N) ∨ (¬ N < 0 ∧ ¬ 4096 < N ∧ a ≠ 64 ∧ (a < 0 ∨ (0 ≤ a ∧ b < 0) ∨ (0 ≤ a ∧ 0 ≤ b ∧ 64 ≤ a) ∨ (0 ≤ a ∧ 0 ≤ b ∧ a < 64 ∧ 64 ≤ b) ∨ (0 ≤ a ∧ 0 ≤ b ∧ a < 64 ∧ b < 64 ∧ 64 - a - b ≤ 0))) ∨ (¬ N < 0 ∧ ¬ 4096 < N ∧ a = 64 ∧ b ≠ 0 ∧ (b < 0 ∨ 0 ≤ b)) := by omega
  clear h
  rcases hcs with g1 | ⟨g1, g2⟩ | ⟨g1, g2, g3, g4 | ⟨g4, g5⟩ | ⟨g4, g5, g6⟩ | ⟨g4, g5, g6, g7⟩ | ⟨g4, g5, g6, g7, g8⟩⟩ | ⟨g1, g2, rfl, g3, g4 | g4⟩
  · have n0 : decide (N < 0) = true := decide_eq_true (by omega)
    go_enter Tryd.func62, Tryd.ntmps62
    go_wp2_with fail
    refine (window_any N V a b _).mono ?_
    rintro e w1 ⟨rfl, hB1⟩
    have A1 := (Below.refl w1.heap.size w1).alloc (Nat.le_refl _) (.cells #[.int .i64 a, .int .i64 b] 113)
    have S1 := (S0.below hB1).below A1
    have X1 := Blk.new w1 113 #[.int .i64 a, .int .i64 b]
    have H1 := below_more (below_more B0 hB1) A1
    obtain ⟨c0, c1, c2, c3⟩ := S1.cells4
    obtain ⟨d0, d1⟩ := X1.cells2
    go_wp2_with fail
    go_ret
    exact ⟨rfl, H1⟩
  · have n0 : decide (N < 0) = false := decide_eq_false (by omega)
    have n1 : decide (4096 < N) = true := decide_eq_true (by omega)
    go_enter Tryd.func62, Tryd.ntmps62
    go_wp2_with fail
    refine (window_any N V a b _).mono ?_
    rintro e w1 ⟨rfl, hB1⟩
    have A1 := (Below.refl w1.heap.size w1).alloc (Nat.le_refl _) (.cells #[.int .i64 a, .int .i64 b] 113)
    have S1 := (S0.below hB1).below A1
    have X1 := Blk.new w1 113 #[.int .i64 a, .int .i64 b]
    have H1 := below_more (below_more B0 hB1) A1
    obtain ⟨c0, c1, c2, c3⟩ := S1.cells4
    obtain ⟨d0, d1⟩ := X1.cells2
    go_wp2_with fail
    go_ret
    exact ⟨rfl, H1⟩
  · have n0 : decide (N < 0) = false := decide_eq_false (by omega)
    have n1 : decide (4096 < N) = false := decide_eq_false (by omega)
    have n2 : (a == 64) = false := beq_eq_false_iff_ne.2 g3
    have n3 : decide (0 ≤ a) = false := decide_eq_false (by omega)
    go_enter Tryd.func62, Tryd.ntmps62
    go_wp2_with fail
    refine (window_any N V a b _).mono ?_
    rintro e w1 ⟨rfl, hB1⟩
    have A1 := (Below.refl w1.heap.size w1).alloc (Nat.le_refl _) (.cells #[.int .i64 a, .int .i64 b] 113)
    have S1 := (S0.below hB1).below A1
    have X1 := Blk.new w1 113 #[.int .i64 a, .int .i64 b]
    have H1 := below_more (below_more B0 hB1) A1
    obtain ⟨c0, c1, c2, c3⟩ := S1.cells4
    obtain ⟨d0, d1⟩ := X1.cells2
    go_wp2_with fail
    go_ret
    exact ⟨rfl, H1⟩
  · have n0 : decide (N < 0) = false := decide_eq_false (by omega)
    have n1 : decide (4096 < N) = false := decide_eq_false (by omega)
    have n2 : (a == 64) = false := beq_eq_false_iff_ne.2 g3
    have n3 : decide (0 ≤ a) = true := decide_eq_true (by omega)
    have n4 : decide (0 ≤ b) = false := decide_eq_false (by omega)
    go_enter Tryd.func62, Tryd.ntmps62
    go_wp2_with fail
    refine (window_any N V a b _).mono ?_
    rintro e w1 ⟨rfl, hB1⟩
    have A1 := (Below.refl w1.heap.size w1).alloc (Nat.le_refl _) (.cells #[.int .i64 a, .int .i64 b] 113)
    have S1 := (S0.below hB1).below A1
    have X1 := Blk.new w1 113 #[.int .i64 a, .int .i64 b]
    have H1 := below_more (below_more B0 hB1) A1
    obtain ⟨c0, c1, c2, c3⟩ := S1.cells4
    obtain ⟨d0, d1⟩ := X1.cells2
    go_wp2_with fail
    go_ret
    exact ⟨rfl, H1⟩
  · have n0 : decide (N < 0) = false := decide_eq_false (by omega)
    have n1 : decide (4096 < N) = false := decide_eq_false (by omega)
    have n2 : (a == 64) = false := beq_eq_false_iff_ne.2 g3
    have n3 : decide (0 ≤ a) = true := decide_eq_true (by omega)
    have n4 : decide (0 ≤ b) = true := decide_eq_true (by omega)
    have n5 : decide (a < 64) = false := decide_eq_false (by omega)
    go_enter Tryd.func62, Tryd.ntmps62
    go_wp2_with fail
    refine (window_any N V a b _).mono ?_
    rintro e w1 ⟨rfl, hB1⟩
    have A1 := (Below.refl w1.heap.size w1).alloc (Nat.le_refl _) (.cells #[.int .i64 a, .int .i64 b] 113)
    have S1 := (S0.below hB1).below A1
    have X1 := Blk.new w1 113 #[.int .i64 a, .int .i64 b]
    have H1 := below_more (below_more B0 hB1) A1
    obtain ⟨c0, c1, c2, c3⟩ := S1.cells4
    obtain ⟨d0, d1⟩ := X1.cells2
    go_wp2_with fail
    go_ret
    exact ⟨rfl, H1⟩
  · have n0 : decide (N < 0) = false := decide_eq_false (by omega)
    have n1 : decide (4096 < N) = false := decide_eq_false (by omega)
    have n2 : (a == 64) = false := beq_eq_false_iff_ne.2 g3
    have n3 : decide (0 ≤ a) = true := decide_eq_true (by omega)
    have n4 : decide (0 ≤ b) = true := decide_eq_true (by omega)
    have n5 : decide (a < 64) = true := decide_eq_true (by omega)
    have n6 : decide (b < 64) = false := decide_eq_false (by omega)
    go_enter Tryd.func62, Tryd.ntmps62
    go_wp2_with fail
    refine (window_any N V a b _).mono ?_
    rintro e w1 ⟨rfl, hB1⟩
    have A1 := (Below.refl w1.heap.size w1).alloc (Nat.le_refl _) (.cells #[.int .i64 a, .int .i64 b] 113)
    have S1 := (S0.below hB1).below A1
    have X1 := Blk.new w1 113 #[.int .i64 a, .int .i64 b]
    have H1 := below_more (below_more B0 hB1) A1
    obtain ⟨c0, c1, c2, c3⟩ := S1.cells4
    obtain ⟨d0, d1⟩ := X1.cells2
    go_wp2_with fail
    go_ret
    exact ⟨rfl, H1⟩
  · have n0 : decide (N < 0) = false := decide_eq_false (by omega)
    have n1 : decide (4096 < N) = false := decide_eq_false (by omega)
    have n2 : (a == 64) = false := beq_eq_false_iff_ne.2 g3
    have n3 : decide (0 ≤ a) = true := decide_eq_true (by omega)
    have n4 : decide (0 ≤ b) = true := decide_eq_true (by omega)
    have n5 : decide (a < 64) = true := decide_eq_true (by omega)
    have n6 : decide (b < 64) = true := decide_eq_true (by omega)
    have n7 : decide (b < 64 - a) = false := decide_eq_false (by omega)
    go_enter Tryd.func62, Tryd.ntmps62
    go_wp2_with fail
    refine (window_any N V a b _).mono ?_
    rintro e w1 ⟨rfl, hB1⟩
    have A1 := (Below.refl w1.heap.size w1).alloc (Nat.le_refl _) (.cells #[.int .i64 a, .int .i64 b] 113)
    have S1 := (S0.below hB1).below A1
    have X1 := Blk.new w1 113 #[.int .i64 a, .int .i64 b]
    have H1 := below_more (below_more B0 hB1) A1
    obtain ⟨c0, c1, c2, c3⟩ := S1.cells4
    obtain ⟨d0, d1⟩ := X1.cells2
    go_wp2_with fail
    refine (size_win a b _ g4 (by omega) g5 (by omega)).mono ?_
    rintro e w2 ⟨rfl, hB2⟩
    go_wp2_with fail
    go_ret
    exact ⟨rfl, below_more H1 hB2⟩
  · have n0 : decide (N < 0) = false := decide_eq_false (by omega)
    have n1 : decide (4096 < N) = false := decide_eq_false (by omega)
    have n2 : (b == 0) = false := beq_eq_false_iff_ne.2 g3
    have n3 : decide (0 ≤ b) = false := decide_eq_false (by omega)
    go_enter Tryd.func62, Tryd.ntmps62
    go_wp2_with fail
    refine (window_any N V 64 b _).mono ?_
    rintro e w1 ⟨rfl, hB1⟩
    have A1 := (Below.refl w1.heap.size w1).alloc (Nat.le_refl _) (.cells #[.int .i64 64, .int .i64 b] 113)
    have S1 := (S0.below hB1).below A1
    have X1 := Blk.new w1 113 #[.int .i64 64, .int .i64 b]
    have H1 := below_more (below_more B0 hB1) A1
    obtain ⟨c0, c1, c2, c3⟩ := S1.cells4
    obtain ⟨d0, d1⟩ := X1.cells2
    go_wp2_with fail
    go_ret
    exact ⟨rfl, H1⟩
  · have n0 : decide (N < 0) = false := decide_eq_false (by omega)
    have n1 : decide (4096 < N) = false := decide_eq_false (by omega)
    have n2 : (b == 0) = false := beq_eq_false_iff_ne.2 g3
    have n3 : decide (0 ≤ b) = true := decide_eq_true (by omega)
    go_enter Tryd.func62, Tryd.ntmps62
    go_wp2_with fail
    refine (window_any N V 64 b _).mono ?_
    rintro e w1 ⟨rfl, hB1⟩
    have A1 := (Below.refl w1.heap.size w1).alloc (Nat.le_refl _) (.cells #[.int .i64 64, .int .i64 b] 113)
    have S1 := (S0.below hB1).below A1
    have X1 := Blk.new w1 113 #[.int .i64 64, .int .i64 b]
    have H1 := below_more (below_more B0 hB1) A1
    obtain ⟨c0, c1, c2, c3⟩ := S1.cells4
    obtain ⟨d0, d1⟩ := X1.cells2
    go_wp2_with fail
    go_ret
    exact ⟨rfl, H1⟩
end Go.Proofs.YtlgndfckmnninaaDoor
