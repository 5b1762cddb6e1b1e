/- Walk of package stamp: Put. Conditions: as stated. -/
import Derived.Test.YtlgndfckmnninaaDoorStampS
import Derived.Test.YtlgndfckmnninaaDoorPicks
namespace Go.Proofs.YtlgndfckmnninaaDoor
open Go.RowKit

theorem Blk.cells3 {w : World} {g : Nat} {t : TypeId} {a b c : Value} (h : Blk w g t #[a, b, c]) : w.cell? ⟨g, 0, none⟩ = some a ∧ w.cell? ⟨g, 1, none⟩ = some b ∧ w.cell? ⟨g, 2, none⟩ = some c := by
  have h0 := h.cell 0
  have h1 := h.cell 1
  have h2 := h.cell 2
  simp at h0 h1 h2
  exact ⟨h0, h1, h2⟩
theorem Blk.free3 {w : World} {g : Nat} {t : TypeId} {cs : Array Value} (h : Blk w g t cs) : w.frozen? ⟨g, 0, none⟩ = false ∧ w.frozen? ⟨g, 1, none⟩ = false ∧ w.frozen? ⟨g, 2, none⟩ = false := ⟨h.frozen 0, h.frozen 1, h.frozen 2⟩

/-- Three cells are stored. -/
abbrev put3 (w : World) (g : Nat) (x y z : Value) : World := ((w.setCell ⟨g, 0, none⟩ x).setCell ⟨g, 1, none⟩ y).setCell ⟨g, 2, none⟩ z
theorem Blk.put3 {w : World} {g : Nat} {t : TypeId} {a b c : Value} (h : Blk w g t #[a, b, c]) (x y z : Value) : Blk (put3 w g x y z) g t #[x, y, z] := ((h.set_ 0 x).set_ 1 y).set_ 2 z
theorem Blk.farPut3 {w : World} {g g' : Nat} {t : TypeId} {cs : Array Value} (h : Blk w g t cs) (hg : g ≠ g') (x y z : Value) : Blk (Go.Proofs.YtlgndfckmnninaaDoor.put3 w g' x y z) g t cs := ((h.far (p := ⟨g', 0, none⟩) hg x).far (p := ⟨g', 1, none⟩) hg y).far (p := ⟨g', 2, none⟩) hg z
theorem below_put3 {base : Nat} {w w1 : World} (h : Below base w w1) {g : Nat} (hg : base ≤ g) (x y z : Value) : Below base w (put3 w1 g x y z) := ((h.setCell (p := ⟨g, 0, none⟩) hg x).setCell (p := ⟨g, 1, none⟩) hg y).setCell (p := ⟨g, 2, none⟩) hg z

/-- Two structs laid one behind the other. -/
theorem two_new (w : World) (a b a' b' c' : Value) (c : Value) (t t' : TypeId) : Blk ((w.alloc (.cells #[a, b, c] t)).alloc (.cells #[a', b', c'] t')) w.heap.size t #[a, b, c] ∧ Blk ((w.alloc (.cells #[a, b, c] t)).alloc (.cells #[a', b', c'] t')) (w.heap.size + 1) t' #[a', b', c'] ∧ Below w.heap.size w ((w.alloc (.cells #[a, b, c] t)).alloc (.cells #[a', b', c'] t')) :=
  ⟨(Blk.new w t _).alloc _, by simpa using Blk.new (w.alloc (.cells #[a, b, c] t)) t' #[a', b', c'], below2 w _ _⟩

theorem sPut_no (w : World) (g : Nat) (N L D t : Int) (hno : nextS N L t = false ∨ rightS N L D = false) :
    Calls Tryd.prog 17 #[.pointer (some ⟨g, 0, none⟩), .agg #[.int .i64 N, .int .i64 L, .int .i64 D], .int .i64 t] w fun e w' =>
      e = .returned (.tuple #[.agg #[.int .i64 0, .int .i64 0, .int .i64 0], .int .i64 60]) ∧ Below w.heap.size w w' := by
  obtain ⟨S0, R0, H0⟩ := two_new w (.int .i64 N) (.int .i64 L) (.int .i64 0) (.int .i64 0) (.int .i64 0) (.int .i64 D) 27 27
  cases hn : nextS N L t with
  | false =>
    clear hno
    go_enter Tryd.func17, Tryd.ntmps17
    go_wp2_with fail
    refine (next_no N L D t _ hn).mono ?_
    rintro e w1 ⟨rfl, hB1⟩
    have H1 := (below_more H0 hB1).alloc (by have := H0.size; have := hB1.size; omega) (.cells #[.int .i64 0, .int .i64 0, .int .i64 0] 27)
    have R1 := (R0.below hB1).alloc (.cells #[.int .i64 0, .int .i64 0, .int .i64 0] 27)
    obtain ⟨d0, d1, d2⟩ := R1.cells3
    obtain ⟨e0, e1, e2⟩ := R1.free3
    go_wp2_with fail
    obtain ⟨q0, q1, q2⟩ := (R1.put3 (.int .i64 0) (.int .i64 0) (.int .i64 0)).cells3
    refine bodyPost_ret (v := .tuple #[.agg #[.int .i64 0, .int .i64 0, .int .i64 0], .int .i64 60]) (by simp [results, Tryd.results17, go_sem, q0, q1, q2]) rfl ⟨rfl, ?_⟩
    exact below_put3 H1 (by omega) _ _ _
  | true =>
    have hr : rightS N L D = false := by
      rcases hno with h | h
      · rw [h] at hn; cases hn
      · exact h
    clear hno
    go_enter Tryd.func17, Tryd.ntmps17
    go_wp2_with fail
    refine (next_odd N L D t _ hn).mono ?_
    rintro e w1 ⟨⟨x, z, rfl⟩, hB1⟩
    have H1 := (below_more H0 hB1).alloc (by have := H0.size; have := hB1.size; omega) (.cells #[.int .i64 x, .int .i64 t, .int .i64 z] 27)
    have S1 := (S0.below hB1).alloc (.cells #[.int .i64 x, .int .i64 t, .int .i64 z] 27)
    have R1 := (R0.below hB1).alloc (.cells #[.int .i64 x, .int .i64 t, .int .i64 z] 27)
    obtain ⟨c0, c1, c2⟩ := S1.cells3
    go_wp2_with fail
    refine (right_no N L D _ hr).mono ?_
    rintro e w2 ⟨rfl, hB2⟩
    have H2 := below_more H1 hB2
    have R2 := R1.below hB2
    obtain ⟨d0, d1, d2⟩ := R2.cells3
    obtain ⟨e0, e1, e2⟩ := R2.free3
    go_wp2_with fail
    obtain ⟨q0, q1, q2⟩ := (R2.put3 (.int .i64 0) (.int .i64 0) (.int .i64 0)).cells3
    refine bodyPost_ret (v := .tuple #[.agg #[.int .i64 0, .int .i64 0, .int .i64 0], .int .i64 60]) (by simp [results, Tryd.results17, go_sem, q0, q1, q2]) rfl ⟨rfl, ?_⟩
    exact below_put3 H2 (by omega) _ _ _

theorem Touch.put3 {g : Nat} {B : Option Nat} {a w : World} (h : Touch g B a w) {r : Nat} (hr : a.heap.size ≤ r) (x y z : Value) : Touch g B a (Go.Proofs.YtlgndfckmnninaaDoor.put3 w r x y z) := ((h.setRow (.inr hr) 0 x).setRow (.inr hr) 1 y).setRow (.inr hr) 2 z
theorem Wr.put3 {w : World} {base g r : Nat} {B : Option Nat} {L : List Bool} (h : Wr w base g B L) (h1 : g ≠ r) (h2 : B ≠ some r) (x y z : Value) : Wr (Go.Proofs.YtlgndfckmnninaaDoor.put3 w r x y z) base g B L :=
  h.touch ((((Touch.refl r none w).set_ 0 x).set_ 1 y).set_ 2 z) h1 (by simp) h2 (by cases B <;> simp)
theorem put_int (w : World) (base g : Nat) (B : Option Nat) (L : List Bool) (x n : Int) (h : Wr w base g B L) (h0 : 0 ≤ x) (hx : x < 18446744073709551616) (hn0 : 0 ≤ n) (hn : n ≤ 64) (hL : L.length ≤ 524000) (hbase : base ≤ w.heap.size) :
    Calls Tryd.prog 19 #[.pointer (some ⟨g, 0, none⟩), .int .u64 x, .int .i64 n] w fun e w' => e = .returned (.int .i64 0) ∧
      ∃ B', Wr w' base g B' (L ++ bitsOf n.toNat x.toNat) ∧ (B' = B ∨ ∃ b, B' = some b ∧ w.heap.size ≤ b) ∧ Touch g B w w' := by
  obtain ⟨x, rfl⟩ := Int.eq_ofNat_of_zero_le h0
  obtain ⟨n, rfl⟩ := Int.eq_ofNat_of_zero_le hn0
  rw [Int.toNat_natCast, Int.toNat_natCast]
  exact put_nat w base g B L x n h (by omega) (by omega) (by omega) hbase

set_option maxHeartbeats 1600000 in
theorem sPut_first (w : World) (base g : Nat) (B : Option Nat) (Lb : List Bool) (L D t : Int) (h : Wr w base g B Lb) (hLb : Lb.length ≤ 500000) (hbase : base ≤ w.heap.size) (hn : nextS 0 L t = true) (hr : rightS 0 L D = true) :
    Calls Tryd.prog 17 #[.pointer (some ⟨g, 0, none⟩), .agg #[.int .i64 0, .int .i64 L, .int .i64 D], .int .i64 t] w fun e w' =>
      e = .returned (.tuple #[.agg #[.int .i64 1, .int .i64 t, .int .i64 0], .int .i64 0]) ∧ ∃ B', Wr w' base g B' (Lb ++ bitsOf 46 t.toNat) ∧ (B' = B ∨ ∃ b, B' = some b ∧ w.heap.size ≤ b) ∧ Touch g B w w' := by
  obtain ⟨S0, R0, H0⟩ := two_new w (.int .i64 0) (.int .i64 L) (.int .i64 0) (.int .i64 0) (.int .i64 0) (.int .i64 D) 27 27
  have hlt := h.lt
  have hrow := h.row
  have ny := fun W => next_yes 0 L D t W hn hr
  rw [show difS 0 L t = 0 from rfl, show (0 : Int) + 1 = 1 from rfl] at ny
  have NY := Lib.hid ny
  clear ny
  obtain ⟨b1, b2, _⟩ := nextS_of hn
  obtain ⟨T, rfl⟩ := Int.eq_ofNat_of_zero_le b1
  rw [Int.toNat_natCast]
  have hu : IntKind.u64.wrap (T : Int) = (T : Int) := by rw [IntKind.wrap_u64]; omega
  have hT64 : T < 18446744073709551616 := by omega
  have HT := Lib.hid hT64
  clear hT64 hn
  go_enter Tryd.func17, Tryd.ntmps17
  go_wp2_with fail
  refine (NY.out _).mono ?_
  rintro e w1 ⟨rfl, hB1⟩
  have hx1 : w.heap.size + 1 < w1.heap.size := by have := H0.size; have := hB1.size; have := R0.lt; omega
  have H1 := (below_more H0 hB1).alloc (by omega) (.cells #[.int .i64 1, .int .i64 T, .int .i64 0] 27)
  have S1 := (S0.below hB1).alloc (.cells #[.int .i64 1, .int .i64 T, .int .i64 0] 27)
  have R1 := (R0.below hB1).alloc (.cells #[.int .i64 1, .int .i64 T, .int .i64 0] 27)
  have X1 := Blk.new w1 27 #[.int .i64 1, .int .i64 T, .int .i64 0]
  obtain ⟨c0, c1, c2⟩ := S1.cells3
  go_wp2_with fail
  refine (right_yes 0 L D _ hr).mono ?_
  rintro e w2 ⟨rfl, hB2⟩
  have H2 := below_more H1 hB2
  have R2 := R1.below hB2
  have S2 := S1.below hB2
  have X2 := X1.below hB2
  have W2 := h.below H2
  have hz2 := X2.lt
  clear c0 c1 c2
  obtain ⟨c0, c1, c2⟩ := S2.cells3
  go_wp2_with fail
  clear c0 c1 c2 S1 S2 R1 X1 H1 S0 R0 H0 hB1 hB2 NY
  generalize w1.heap.size = x at *
  refine wp_region_noPanic ?_
  refine wp_region_held_drew (S := fun W : World => W.cell? ⟨x, 0, none⟩ = some (.int .i64 1) ∧ W.cell? ⟨x, 1, none⟩ = some (.int .i64 T) ∧ W.cell? ⟨x, 2, none⟩ = some (.int .i64 0)) (by kernel_rfl) (X2.cells3) (fun hSt => ?_)
  refine wpAnyH_picks [0, 1, 2, 3] 6 (by rfl) (by kernel_rfl) (by kernel_rfl) (by kernel_rfl) (fun _ _ _ _ _ h => h) (by assumption) ?_
  simp only [picks, List.drop_succ_cons, List.drop_zero, List.take_succ_cons, List.take_zero, List.cons_append, List.nil_append]
  repeat (first
    | (refine wpY_skip (by rfl) ?_; simp only [Act.put, List.setIfInBounds_toArray, List.set_cons_zero, List.set_cons_succ])
    | (refine wpY_want (v := ?_) (by rfl) (fun W hW => ?_) ?_; rotate_left; (obtain ⟨hW0, hW1, hW2⟩ := hW; go_simp; try with_reducible rfl); simp only [Act.put, List.setIfInBounds_toArray, List.set_cons_zero, List.set_cons_succ]))
  refine wpY_nil ?_
  refine wpAnyH_one 4 5 (by rfl) (by rfl) (by kernel_rfl) (fun K hK => ?_)
  go_simp
  refine (put_int w2.drew base g B Lb T 46 W2 b1 (by omega) (by omega) (by omega) (by omega) (Nat.le_trans hbase H2.size)).mono ?_
  rintro e w3 ⟨rfl, B3, W3, hB3, hT3⟩
  have hT3 := hT3.of_drew
  have X3 := X2.touch hT3 (by omega) (fun e => by have := hrow _ e.symm; omega)
  have R3 := R2.touch hT3 (by omega) (fun e => by have := hrow _ e.symm; omega)
  refine hK.out _ _ (X3.cells3) (fun hSt => ?_)
  clear hK K
  try simp only [Act.put, List.setIfInBounds_toArray, List.set_cons_zero, List.set_cons_succ]
  refine wpAnyH_one 5 4 (by rfl) (by rfl) (by kernel_rfl) (fun K hK => ?_)
  go_simp
  refine (done_yes 1 T 0 _).mono ?_
  rintro e w4 ⟨rfl, hB4⟩
  have X4 := X3.below hB4
  have R4 := R3.below hB4
  have W4 := W3.below hB4
  obtain ⟨d0, d1, d2⟩ := R4.cells3
  obtain ⟨e0, e1, e2⟩ := R4.free3
  refine hK.out _ _ (X4.cells3) (fun hSt => ?_)
  clear hK K
  try simp only [Act.put, List.setIfInBounds_toArray, List.set_cons_zero, List.set_cons_succ]
  refine wpAnyH_picks [6, 7] 2 (by rfl) (by kernel_rfl) (by kernel_rfl) (by kernel_rfl) (fun _ _ _ _ _ h => h) (by assumption) ?_
  simp only [picks, List.drop_succ_cons, List.drop_zero, List.take_succ_cons, List.take_zero, List.cons_append, List.nil_append]
  repeat (first
    | (refine wpY_skip (by rfl) ?_; simp only [Act.put, List.setIfInBounds_toArray, List.set_cons_zero, List.set_cons_succ])
    | (refine wpY_want (v := ?_) (by rfl) (fun W hW => ?_) ?_; rotate_left; (go_simp; try with_reducible rfl); simp only [Act.put, List.setIfInBounds_toArray, List.set_cons_zero, List.set_cons_succ]))
  refine wpY_nil ?_
  refine wpAnyH_one 8 1 (by rfl) (by rfl) (by kernel_rfl) (fun K hK => ?_)
  go_simp
  refine hK.out _ _ ((X4.farPut3 (by omega) _ _ _).cells3) (fun hSt => ?_)
  clear hK K
  try simp only [Act.put, List.setIfInBounds_toArray, List.set_cons_zero, List.set_cons_succ]
  refine wpAnyH_picks [9] 0 (by rfl) (by kernel_rfl) (by kernel_rfl) (by kernel_rfl) (fun _ _ _ _ _ h => h) (by assumption) ?_
  simp only [picks, List.drop_succ_cons, List.drop_zero, List.take_succ_cons, List.take_zero, List.cons_append, List.nil_append]
  repeat (first
    | (refine wpY_skip (by rfl) ?_; simp only [Act.put, List.setIfInBounds_toArray, List.set_cons_zero, List.set_cons_succ])
    | (refine wpY_want (v := ?_) (by rfl) (fun W hW => ?_) ?_; rotate_left; (go_simp; try with_reducible rfl); simp only [Act.put, List.setIfInBounds_toArray, List.set_cons_zero, List.set_cons_succ]))
  refine wpY_nil ?_
  refine wpAnyH_done (by kernel_rfl) ?_ _
  refine NoPanic.normal ?_
  go_wp2_with fail
  obtain ⟨q0, q1, q2⟩ := (R4.put3 (.int .i64 1) (.int .i64 T) (.int .i64 0)).cells3
  refine bodyPost_ret (v := .tuple #[.agg #[.int .i64 1, .int .i64 T, .int .i64 0], .int .i64 0]) (by simp [results, Tryd.results17, go_sem, q0, q1, q2]) rfl ⟨rfl, B3, W4.put3 (by omega) ?_ _ _ _, ?_, ?_⟩
  · intro e
    rcases hB3 with rfl | ⟨b, rfl, hb⟩
    · have := hrow _ e; omega
    · have : b = w.heap.size + 1 := by injection e
      have : w2.heap.size ≤ b := hb
      omega
  · rcases hB3 with rfl | ⟨b, rfl, hb⟩
    · exact .inl rfl
    · exact .inr ⟨b, rfl, Nat.le_trans H2.size hb⟩
  · exact (((Touch.of_below H2 g B).trans hT3 (.inl rfl)).trans (Touch.of_below hB4 g B) (.inl rfl)).put3 (by omega) _ _ _

theorem bits_xor_neg (a : Int) (h1 : -9223372036854775808 ≤ a) (h2 : a < 9223372036854775808) : bits BinOp.xor IntKind.i64 a (-1) = -a - 1 := by
  show IntKind.i64.wrap ((BitVec.ofInt 64 a ^^^ BitVec.ofInt 64 (-1)).toNat : Int) = _
  have e1 : BitVec.ofInt 64 (-1) = BitVec.allOnes 64 := by decide
  rw [e1, BitVec.xor_allOnes, BitVec.toNat_not, BitVec.toNat_ofInt, IntKind.wrap_i64]
  omega
theorem bits_xor_zero (a : Int) (h1 : -9223372036854775808 ≤ a) (h2 : a < 9223372036854775808) : bits BinOp.xor IntKind.i64 a 0 = a := by
  show IntKind.i64.wrap ((BitVec.ofInt 64 a ^^^ BitVec.ofInt 64 0).toNat : Int) = _
  have e1 : BitVec.ofInt 64 0 = 0#64 := by decide
  rw [e1, BitVec.xor_zero, BitVec.toNat_ofInt, IntKind.wrap_i64]
  omega
theorem zig_word (d : Int) (h : -70368744177664 ≤ d ∧ d ≤ 70368744177664) : IntKind.u64.wrap (bits BinOp.xor IntKind.i64 (d * 2) (d / 9223372036854775808)) = (zig d : Int) := by
  unfold zig
  by_cases h0 : d < 0
  · have e : d / 9223372036854775808 = -1 := by omega
    rw [e, bits_xor_neg _ (by omega) (by omega), IntKind.wrap_u64, if_pos h0]
    omega
  · have e : d / 9223372036854775808 = 0 := by omega
    rw [e, bits_xor_zero _ (by omega) (by omega), IntKind.wrap_u64, if_neg h0]
    omega
theorem of_int (z : Nat) (c : Int) (w : World) (hT : StampTab w) (hc : (ofc z : Int) = c) :
    Calls Tryd.prog 55 #[.int .u64 z] w fun e w' => e = .returned (.int .i64 c) ∧ Below w.heap.size w w' := by
  subst hc
  exact of_any z w hT
theorem encZ_k0 (z : Nat) (h : ofc z = 0) : encZ z = bitsOf 1 0 ++ bitsOf 0 z := by unfold encZ encH; rw [h]; rfl
theorem StampTab.cls0 {w : World} (h : StampTab w) : w.cell? ⟨0, 0, none⟩ = some (.int .i64 0) ∧ w.cell? ⟨0, 1, none⟩ = some (.int .i64 1) ∧ w.cell? ⟨0, 2, none⟩ = some (.int .i64 0) := ⟨h 0 (by omega), h 1 (by omega), h 2 (by omega)⟩
theorem encZ_k1 (z : Nat) (h : ofc z = 1) : encZ z = bitsOf 2 2 ++ bitsOf 7 z := by unfold encZ encH; rw [h]; rfl
theorem StampTab.cls1 {w : World} (h : StampTab w) : w.cell? ⟨0, 3, none⟩ = some (.int .i64 1) ∧ w.cell? ⟨0, 4, none⟩ = some (.int .i64 1) ∧ w.cell? ⟨0, 5, none⟩ = some (.int .i64 7) := ⟨h 3 (by omega), h 4 (by omega), h 5 (by omega)⟩
theorem encZ_k2 (z : Nat) (h : ofc z = 2) : encZ z = bitsOf 3 6 ++ bitsOf 12 z := by unfold encZ encH; rw [h]; rfl
theorem StampTab.cls2 {w : World} (h : StampTab w) : w.cell? ⟨0, 6, none⟩ = some (.int .i64 2) ∧ w.cell? ⟨0, 7, none⟩ = some (.int .i64 1) ∧ w.cell? ⟨0, 8, none⟩ = some (.int .i64 12) := ⟨h 6 (by omega), h 7 (by omega), h 8 (by omega)⟩
theorem encZ_k3 (z : Nat) (h : ofc z = 3) : encZ z = bitsOf 4 14 ++ bitsOf 20 z := by unfold encZ encH; rw [h]; rfl
theorem StampTab.cls3 {w : World} (h : StampTab w) : w.cell? ⟨0, 9, none⟩ = some (.int .i64 3) ∧ w.cell? ⟨0, 10, none⟩ = some (.int .i64 1) ∧ w.cell? ⟨0, 11, none⟩ = some (.int .i64 20) := ⟨h 9 (by omega), h 10 (by omega), h 11 (by omega)⟩
theorem encZ_k4 (z : Nat) (h : ofc z = 4) : encZ z = bitsOf 4 15 ++ bitsOf 48 z := by unfold encZ encH; rw [h]; rfl
theorem StampTab.cls4 {w : World} (h : StampTab w) : w.cell? ⟨0, 12, none⟩ = some (.int .i64 4) ∧ w.cell? ⟨0, 13, none⟩ = some (.int .i64 0) ∧ w.cell? ⟨0, 14, none⟩ = some (.int .i64 48) := ⟨h 12 (by omega), h 13 (by omega), h 14 (by omega)⟩

set_option maxHeartbeats 1600000 in
theorem sPut_k0 (w : World) (base g : Nat) (B : Option Nat) (Lb : List Bool) (N L D t : Int) (h : Wr w base g B Lb) (hT : StampTab w) (hLb : Lb.length ≤ 500000) (hbase : base ≤ w.heap.size) (hn : nextS N L t = true) (hr : rightS N L D = true) (hN : N ≠ 0) (hk : ofc (zig (t - L - D)) = 0) :
    Calls Tryd.prog 17 #[.pointer (some ⟨g, 0, none⟩), .agg #[.int .i64 N, .int .i64 L, .int .i64 D], .int .i64 t] w fun e w' =>
      e = .returned (.tuple #[.agg #[.int .i64 (N + 1), .int .i64 t, .int .i64 (t - L)], .int .i64 0]) ∧ ∃ B', Wr w' base g B' (Lb ++ encZ (zig (t - L - D))) ∧ (B' = B ∨ ∃ b, B' = some b ∧ w.heap.size ≤ b) ∧ Touch g B w w' := by
  obtain ⟨S0, R0, H0⟩ := two_new w (.int .i64 N) (.int .i64 L) (.int .i64 0) (.int .i64 0) (.int .i64 0) (.int .i64 D) 27 27
  have hlt := h.lt
  have hrow := h.row
  have ny := fun W => next_yes N L D t W hn hr
  have hdf : difS N L t = t - L := if_neg hN
  rw [hdf] at ny
  have NY := Lib.hid ny
  obtain ⟨b1, b2, b3⟩ := nextS_of hn
  obtain ⟨a1, a2, a3, a4, a5, a6⟩ := rightS_of hr
  have hb3 : L < t := by rcases b3 with b3 | b3; · exact absurd b3 hN
                         · exact b3
  have hN0 : (N == 0) = false := beq_eq_false_iff_ne.2 hN
  clear ny hdf b3 hn hN
  obtain ⟨n, rfl⟩ : ∃ n, n = N + 1 := ⟨_, rfl⟩
  obtain ⟨Z, hZ⟩ : ∃ Z, zig (t - L - D) = Z := ⟨_, rfl⟩
  have HZ := Lib.hid hZ
  rw [hZ] at hk
  have OF := fun W h1 => of_int Z 0 W h1 (by omega)
  have HOF := Lib.hid OF
  have EZ := Lib.hid (encZ_k0 Z hk)
  have HZl := Lib.hid (hZ ▸ zig_lt (t - L - D) (by omega) : Z < 281474976710656)
  have hzz := zig_word (t - L - D) (by omega)
  rw [hZ] at hzz
  rw [hZ]
  have HK := Lib.hid hk
  have HR := Lib.hid hr
  clear hr hk OF hZ
  go_enter Tryd.func17, Tryd.ntmps17
  go_wp2_with fail
  refine (NY.out _).mono ?_
  rintro e w1 ⟨rfl, hB1⟩
  have hx1 : w.heap.size + 1 < w1.heap.size := by have := H0.size; have := hB1.size; have := R0.lt; omega
  have H1 := (below_more H0 hB1).alloc (by omega) (.cells #[.int .i64 (N + 1), .int .i64 t, .int .i64 (t - L)] 27)
  have S1 := (S0.below hB1).alloc (.cells #[.int .i64 (N + 1), .int .i64 t, .int .i64 (t - L)] 27)
  have R1 := (R0.below hB1).alloc (.cells #[.int .i64 (N + 1), .int .i64 t, .int .i64 (t - L)] 27)
  have X1 := Blk.new w1 27 #[.int .i64 (N + 1), .int .i64 t, .int .i64 (t - L)]
  obtain ⟨c0, c1, c2⟩ := S1.cells3
  go_wp2_with fail
  refine (right_yes N L D _ HR.out).mono ?_
  rintro e w2 ⟨rfl, hB2⟩
  have H2 := below_more H1 hB2
  have R2 := R1.below hB2
  have S2 := S1.below hB2
  have X2 := X1.below hB2
  have W2 := h.below H2
  have T2 := hT.below H2
  have hz2 := X2.lt
  clear c0 c1 c2 S1 R1 X1 H1 S0 R0 H0 hB1 hB2 NY
  generalize w1.heap.size = x at *
  obtain ⟨c0, c1, c2⟩ := S2.cells3
  obtain ⟨x0, x1, x2⟩ := X2.cells3
  go_wp2_with fail
  refine (HOF.out _ T2).mono ?_
  rintro e w3 ⟨rfl, hB3⟩
  have H3 := below_more H2 hB3
  have T3 := T2.below hB3
  have tt := T3.cls0
  obtain ⟨g0, g1, g2⟩ := tt
  have hz3 := hB3.size
  have CC := Blk.new w3 104 #[.int .i64 0, .int .i64 1, .int .i64 0]
  have H4 := H3.alloc (by omega) (.cells #[.int .i64 0, .int .i64 1, .int .i64 0] 104)
  have R4 := (R2.below hB3).alloc (.cells #[.int .i64 0, .int .i64 1, .int .i64 0] 104)
  have X4 := (X2.below hB3).alloc (.cells #[.int .i64 0, .int .i64 1, .int .i64 0] 104)
  have W4 := h.below H4
  clear c0 c1 c2 x0 x1 x2 R2 S2 X2 W2 T2 H2 H3 HOF T3
  go_wp2_with fail
  clear g0 g1 g2 hB3
  obtain ⟨y, hy⟩ : ∃ y, w3.heap.size = y := ⟨_, rfl⟩
  rw [hy] at hz3 CC ⊢
  generalize w3.alloc (.cells #[.int .i64 0, .int .i64 1, .int .i64 0] 104) = w4 at *
  clear hy
  refine wp_region_noPanic ?_
  refine wp_region_held_drew (S := fun W : World => W.cell? ⟨y, 0, none⟩ = some (.int .i64 0) ∧ W.cell? ⟨y, 1, none⟩ = some (.int .i64 1) ∧ W.cell? ⟨y, 2, none⟩ = some (.int .i64 0)) (by kernel_rfl) (CC.cells3) (fun hSt => ?_)
  refine wpAnyH_picks [0, 1, 2, 3, 4, 5, 6, 7, 8, 9, 10, 11, 12] 2 (by rfl) (by kernel_rfl) (by kernel_rfl) (by kernel_rfl) (fun _ _ _ _ _ h => h) (by assumption) ?_
  simp only [picks, List.drop_succ_cons, List.drop_zero, List.take_succ_cons, List.take_zero, List.cons_append, List.nil_append]
  repeat (first
    | (refine wpY_skip (by rfl) ?_; simp only [Act.put, List.setIfInBounds_toArray, List.set_cons_zero, List.set_cons_succ])
    | (refine wpY_want (v := ?_) (by rfl) (fun W hW => ?_) ?_; rotate_left; (obtain ⟨hW0, hW1, hW2⟩ := hW; go_simp; try with_reducible rfl); simp only [Act.put, List.setIfInBounds_toArray, List.set_cons_zero, List.set_cons_succ]))
  refine wpY_nil ?_
  refine wpAnyH_one 13 1 (by rfl) (by rfl) (by kernel_rfl) (fun K hK => ?_)
  go_simp
  refine (put_int w4.drew base g B Lb 0 1 W4 (by omega) (by omega) (by omega) (by omega) (by omega) (Nat.le_trans hbase H4.size)).mono ?_
  rintro e w5 ⟨rfl, B5, W5, hB5, hT5⟩
  have hT5 := hT5.of_drew
  have hy1 := CC.lt
  have X5 := X4.touch hT5 (by omega) (fun e => by have := hrow _ e.symm; omega)
  have R5 := R4.touch hT5 (by omega) (fun e => by have := hrow _ e.symm; omega)
  have C5 := CC.touch hT5 (by omega) (fun e => by have := hrow _ e.symm; omega)
  have H5 := (Touch.of_below H4 g B).trans hT5 (.inl rfl)
  have hz45 := hT5.size
  refine hK.out _ _ (C5.cells3) (fun hSt => ?_)
  clear hK K
  try simp only [Act.put, List.setIfInBounds_toArray, List.set_cons_zero, List.set_cons_succ]
  refine wpAnyH_picks [14] 0 (by rfl) (by kernel_rfl) (by kernel_rfl) (by kernel_rfl) (fun _ _ _ _ _ h => h) (by assumption) ?_
  simp only [picks, List.drop_succ_cons, List.drop_zero, List.take_succ_cons, List.take_zero, List.cons_append, List.nil_append]
  repeat (first
    | (refine wpY_skip (by rfl) ?_; simp only [Act.put, List.setIfInBounds_toArray, List.set_cons_zero, List.set_cons_succ])
    | (refine wpY_want (v := ?_) (by rfl) (fun W hW => ?_) ?_; rotate_left; (go_simp; try with_reducible rfl); simp only [Act.put, List.setIfInBounds_toArray, List.set_cons_zero, List.set_cons_succ]))
  refine wpY_nil ?_
  refine wpAnyH_done (by kernel_rfl) ?_ _
  refine NoPanic.normal ?_
  go_wp2_with fail
  have W5 : Wr w5 base g B5 (Lb ++ bitsOf 1 0) := W5
  clear X4 R4 CC W4 hT5
  refine wp_region_noPanic ?_
  refine wp_region_held_drew (S := fun W : World => W.cell? ⟨x, 0, none⟩ = some (.int .i64 (N + 1)) ∧ W.cell? ⟨x, 1, none⟩ = some (.int .i64 t) ∧ W.cell? ⟨x, 2, none⟩ = some (.int .i64 (t - L)) ∧ W.cell? ⟨y, 2, none⟩ = some (.int .i64 0)) (by kernel_rfl) (⟨X5.cells3.1, X5.cells3.2.1, X5.cells3.2.2, C5.cells3.2.2⟩) (fun hSt => ?_)
  refine wpAnyH_picks [0, 1, 2, 3, 4] 6 (by rfl) (by kernel_rfl) (by kernel_rfl) (by kernel_rfl) (fun _ _ _ _ _ h => h) (by assumption) ?_
  simp only [picks, List.drop_succ_cons, List.drop_zero, List.take_succ_cons, List.take_zero, List.cons_append, List.nil_append]
  repeat (first
    | (refine wpY_skip (by rfl) ?_; simp only [Act.put, List.setIfInBounds_toArray, List.set_cons_zero, List.set_cons_succ])
    | (refine wpY_want (v := ?_) (by rfl) (fun W hW => ?_) ?_; rotate_left; (obtain ⟨hW0, hW1, hW2, hW3⟩ := hW; go_simp; try with_reducible rfl); simp only [Act.put, List.setIfInBounds_toArray, List.set_cons_zero, List.set_cons_succ]))
  refine wpY_nil ?_
  refine wpAnyH_one 5 5 (by rfl) (by rfl) (by kernel_rfl) (fun K hK => ?_)
  go_simp
  refine (put_int w5.drew base g B5 _ Z 0 W5 (by omega) (by have := HZl.out; omega) (by omega) (by omega) (by simp [length_bitsOf]; omega) (Nat.le_trans hbase H5.size)).mono ?_
  rintro e w6 ⟨rfl, B6, W6, hB6, hT6⟩
  have hT6 := hT6.of_drew
  have hrow5 := W5.row
  have hz5 := H5.size
  have nx : ∀ r, w.heap.size ≤ r → r < w4.heap.size → B5 ≠ some r := fun r h1 h2 e => by
    rcases hB5 with rfl | ⟨b, rfl, hb⟩
    · have := (hrow _ e).2; omega
    · have : b = r := by injection e
      have : w4.heap.size ≤ b := hb
      omega
  have hr4 : w.heap.size + 1 < w4.heap.size := by omega
  have hx4 : x < w4.heap.size := by omega
  have X6 := X5.touch hT6 (by omega) (fun e => nx x (by omega) hx4 e.symm)
  have R6 := R5.touch hT6 (by omega) (fun e => nx _ (by omega) hr4 e.symm)
  have C6 := C5.touch hT6 (by omega) (fun e => nx y (by omega) hy1 e.symm)
  have hBB : B5 = B ∨ ∃ b, B5 = some b ∧ w.heap.size ≤ b := by
    rcases hB5 with rfl | ⟨b, rfl, hb⟩
    · exact .inl rfl
    · exact .inr ⟨b, rfl, Nat.le_trans H4.size hb⟩
  have H6 := H5.trans hT6 hBB
  refine hK.out _ _ (⟨X6.cells3.1, X6.cells3.2.1, X6.cells3.2.2, C6.cells3.2.2⟩) (fun hSt => ?_)
  clear hK K
  try simp only [Act.put, List.setIfInBounds_toArray, List.set_cons_zero, List.set_cons_succ]
  refine wpAnyH_one 6 4 (by rfl) (by rfl) (by kernel_rfl) (fun K hK => ?_)
  go_simp
  refine (done_yes (N + 1) t (t - L) _).mono ?_
  rintro e w7 ⟨rfl, hB7⟩
  have X7 := X6.below hB7
  have C7 := C6.below hB7
  have R7 := R6.below hB7
  have W7 := W6.below hB7
  have H7 := H6.trans (Touch.of_below hB7 g B) (.inl rfl)
  obtain ⟨d0, d1, d2⟩ := R7.cells3
  obtain ⟨e0, e1, e2⟩ := R7.free3
  refine hK.out _ _ (⟨X7.cells3.1, X7.cells3.2.1, X7.cells3.2.2, C7.cells3.2.2⟩) (fun hSt => ?_)
  clear hK K
  try simp only [Act.put, List.setIfInBounds_toArray, List.set_cons_zero, List.set_cons_succ]
  refine wpAnyH_picks [7, 8] 2 (by rfl) (by kernel_rfl) (by kernel_rfl) (by kernel_rfl) (fun _ _ _ _ _ h => h) (by assumption) ?_
  simp only [picks, List.drop_succ_cons, List.drop_zero, List.take_succ_cons, List.take_zero, List.cons_append, List.nil_append]
  repeat (first
    | (refine wpY_skip (by rfl) ?_; simp only [Act.put, List.setIfInBounds_toArray, List.set_cons_zero, List.set_cons_succ])
    | (refine wpY_want (v := ?_) (by rfl) (fun W hW => ?_) ?_; rotate_left; (go_simp; try with_reducible rfl); simp only [Act.put, List.setIfInBounds_toArray, List.set_cons_zero, List.set_cons_succ]))
  refine wpY_nil ?_
  refine wpAnyH_one 9 1 (by rfl) (by rfl) (by kernel_rfl) (fun K hK => ?_)
  go_simp
  have P1 := (X7.farPut3 (g' := w.heap.size + 1) (by omega) (.int .i64 (N + 1)) (.int .i64 t) (.int .i64 (t - L))).cells3
  have P2 := (C7.farPut3 (g' := w.heap.size + 1) (by omega) (.int .i64 (N + 1)) (.int .i64 t) (.int .i64 (t - L))).cells3
  refine hK.out _ _ (⟨P1.1, P1.2.1, P1.2.2, P2.2.2⟩) (fun hSt => ?_)
  clear hK K
  try simp only [Act.put, List.setIfInBounds_toArray, List.set_cons_zero, List.set_cons_succ]
  refine wpAnyH_picks [10] 0 (by rfl) (by kernel_rfl) (by kernel_rfl) (by kernel_rfl) (fun _ _ _ _ _ h => h) (by assumption) ?_
  simp only [picks, List.drop_succ_cons, List.drop_zero, List.take_succ_cons, List.take_zero, List.cons_append, List.nil_append]
  repeat (first
    | (refine wpY_skip (by rfl) ?_; simp only [Act.put, List.setIfInBounds_toArray, List.set_cons_zero, List.set_cons_succ])
    | (refine wpY_want (v := ?_) (by rfl) (fun W hW => ?_) ?_; rotate_left; (go_simp; try with_reducible rfl); simp only [Act.put, List.setIfInBounds_toArray, List.set_cons_zero, List.set_cons_succ]))
  refine wpY_nil ?_
  refine wpAnyH_done (by kernel_rfl) ?_ _
  refine NoPanic.normal ?_
  go_wp2_with fail
  obtain ⟨q0, q1, q2⟩ := (R7.put3 (.int .i64 (N + 1)) (.int .i64 t) (.int .i64 (t - L))).cells3
  have hw7 : Wr w7 base g B6 (Lb ++ encZ Z) := by rw [EZ.out, ← List.append_assoc]; exact W7
  have hBB6 : B6 = B ∨ ∃ b, B6 = some b ∧ w.heap.size ≤ b := row_step hBB hB6 H5.size
  refine bodyPost_ret (v := .tuple #[.agg #[.int .i64 (N + 1), .int .i64 t, .int .i64 (t - L)], .int .i64 0]) (by simp [results, Tryd.results17, go_sem, q0, q1, q2]) rfl ⟨rfl, B6, hw7.put3 (by omega) ?_ _ _ _, hBB6, ?_⟩
  · intro e
    rcases hB6 with rfl | ⟨b, rfl, hb⟩
    · exact nx _ (by omega) hr4 e
    · have : b = w.heap.size + 1 := by injection e
      have : w5.heap.size ≤ b := hb
      have : w4.heap.size ≤ w5.heap.size := hz45
      omega
  · exact H7.put3 (by omega) _ _ _

set_option maxHeartbeats 1600000 in
theorem sPut_k1 (w : World) (base g : Nat) (B : Option Nat) (Lb : List Bool) (N L D t : Int) (h : Wr w base g B Lb) (hT : StampTab w) (hLb : Lb.length ≤ 500000) (hbase : base ≤ w.heap.size) (hn : nextS N L t = true) (hr : rightS N L D = true) (hN : N ≠ 0) (hk : ofc (zig (t - L - D)) = 1) :
    Calls Tryd.prog 17 #[.pointer (some ⟨g, 0, none⟩), .agg #[.int .i64 N, .int .i64 L, .int .i64 D], .int .i64 t] w fun e w' =>
      e = .returned (.tuple #[.agg #[.int .i64 (N + 1), .int .i64 t, .int .i64 (t - L)], .int .i64 0]) ∧ ∃ B', Wr w' base g B' (Lb ++ encZ (zig (t - L - D))) ∧ (B' = B ∨ ∃ b, B' = some b ∧ w.heap.size ≤ b) ∧ Touch g B w w' := by
  obtain ⟨S0, R0, H0⟩ := two_new w (.int .i64 N) (.int .i64 L) (.int .i64 0) (.int .i64 0) (.int .i64 0) (.int .i64 D) 27 27
  have hlt := h.lt
  have hrow := h.row
  have ny := fun W => next_yes N L D t W hn hr
  have hdf : difS N L t = t - L := if_neg hN
  rw [hdf] at ny
  have NY := Lib.hid ny
  obtain ⟨b1, b2, b3⟩ := nextS_of hn
  obtain ⟨a1, a2, a3, a4, a5, a6⟩ := rightS_of hr
  have hb3 : L < t := by rcases b3 with b3 | b3; · exact absurd b3 hN
                         · exact b3
  have hN0 : (N == 0) = false := beq_eq_false_iff_ne.2 hN
  clear ny hdf b3 hn hN
  obtain ⟨n, rfl⟩ : ∃ n, n = N + 1 := ⟨_, rfl⟩
  obtain ⟨Z, hZ⟩ : ∃ Z, zig (t - L - D) = Z := ⟨_, rfl⟩
  have HZ := Lib.hid hZ
  rw [hZ] at hk
  have OF := fun W h1 => of_int Z 1 W h1 (by omega)
  have HOF := Lib.hid OF
  have EZ := Lib.hid (encZ_k1 Z hk)
  have HZl := Lib.hid (hZ ▸ zig_lt (t - L - D) (by omega) : Z < 281474976710656)
  have hzz := zig_word (t - L - D) (by omega)
  rw [hZ] at hzz
  rw [hZ]
  have HK := Lib.hid hk
  have HR := Lib.hid hr
  clear hr hk OF hZ
  go_enter Tryd.func17, Tryd.ntmps17
  go_wp2_with fail
  refine (NY.out _).mono ?_
  rintro e w1 ⟨rfl, hB1⟩
  have hx1 : w.heap.size + 1 < w1.heap.size := by have := H0.size; have := hB1.size; have := R0.lt; omega
  have H1 := (below_more H0 hB1).alloc (by omega) (.cells #[.int .i64 (N + 1), .int .i64 t, .int .i64 (t - L)] 27)
  have S1 := (S0.below hB1).alloc (.cells #[.int .i64 (N + 1), .int .i64 t, .int .i64 (t - L)] 27)
  have R1 := (R0.below hB1).alloc (.cells #[.int .i64 (N + 1), .int .i64 t, .int .i64 (t - L)] 27)
  have X1 := Blk.new w1 27 #[.int .i64 (N + 1), .int .i64 t, .int .i64 (t - L)]
  obtain ⟨c0, c1, c2⟩ := S1.cells3
  go_wp2_with fail
  refine (right_yes N L D _ HR.out).mono ?_
  rintro e w2 ⟨rfl, hB2⟩
  have H2 := below_more H1 hB2
  have R2 := R1.below hB2
  have S2 := S1.below hB2
  have X2 := X1.below hB2
  have W2 := h.below H2
  have T2 := hT.below H2
  have hz2 := X2.lt
  clear c0 c1 c2 S1 R1 X1 H1 S0 R0 H0 hB1 hB2 NY
  generalize w1.heap.size = x at *
  obtain ⟨c0, c1, c2⟩ := S2.cells3
  obtain ⟨x0, x1, x2⟩ := X2.cells3
  go_wp2_with fail
  refine (HOF.out _ T2).mono ?_
  rintro e w3 ⟨rfl, hB3⟩
  have H3 := below_more H2 hB3
  have T3 := T2.below hB3
  have tt := T3.cls1
  obtain ⟨g0, g1, g2⟩ := tt
  have hz3 := hB3.size
  have CC := Blk.new w3 104 #[.int .i64 1, .int .i64 1, .int .i64 7]
  have H4 := H3.alloc (by omega) (.cells #[.int .i64 1, .int .i64 1, .int .i64 7] 104)
  have R4 := (R2.below hB3).alloc (.cells #[.int .i64 1, .int .i64 1, .int .i64 7] 104)
  have X4 := (X2.below hB3).alloc (.cells #[.int .i64 1, .int .i64 1, .int .i64 7] 104)
  have W4 := h.below H4
  clear c0 c1 c2 x0 x1 x2 R2 S2 X2 W2 T2 H2 H3 HOF T3
  go_wp2_with fail
  clear g0 g1 g2 hB3
  obtain ⟨y, hy⟩ : ∃ y, w3.heap.size = y := ⟨_, rfl⟩
  rw [hy] at hz3 CC ⊢
  generalize w3.alloc (.cells #[.int .i64 1, .int .i64 1, .int .i64 7] 104) = w4 at *
  clear hy
  refine wp_region_noPanic ?_
  refine wp_region_held_drew (S := fun W : World => W.cell? ⟨y, 0, none⟩ = some (.int .i64 1) ∧ W.cell? ⟨y, 1, none⟩ = some (.int .i64 1) ∧ W.cell? ⟨y, 2, none⟩ = some (.int .i64 7)) (by kernel_rfl) (CC.cells3) (fun hSt => ?_)
  refine wpAnyH_picks [0, 1, 2, 3, 4, 5, 6, 7, 8, 9, 10, 11, 12] 2 (by rfl) (by kernel_rfl) (by kernel_rfl) (by kernel_rfl) (fun _ _ _ _ _ h => h) (by assumption) ?_
  simp only [picks, List.drop_succ_cons, List.drop_zero, List.take_succ_cons, List.take_zero, List.cons_append, List.nil_append]
  repeat (first
    | (refine wpY_skip (by rfl) ?_; simp only [Act.put, List.setIfInBounds_toArray, List.set_cons_zero, List.set_cons_succ])
    | (refine wpY_want (v := ?_) (by rfl) (fun W hW => ?_) ?_; rotate_left; (obtain ⟨hW0, hW1, hW2⟩ := hW; go_simp; try with_reducible rfl); simp only [Act.put, List.setIfInBounds_toArray, List.set_cons_zero, List.set_cons_succ]))
  refine wpY_nil ?_
  refine wpAnyH_one 13 1 (by rfl) (by rfl) (by kernel_rfl) (fun K hK => ?_)
  go_simp
  refine (put_int w4.drew base g B Lb 2 2 W4 (by omega) (by omega) (by omega) (by omega) (by omega) (Nat.le_trans hbase H4.size)).mono ?_
  rintro e w5 ⟨rfl, B5, W5, hB5, hT5⟩
  have hT5 := hT5.of_drew
  have hy1 := CC.lt
  have X5 := X4.touch hT5 (by omega) (fun e => by have := hrow _ e.symm; omega)
  have R5 := R4.touch hT5 (by omega) (fun e => by have := hrow _ e.symm; omega)
  have C5 := CC.touch hT5 (by omega) (fun e => by have := hrow _ e.symm; omega)
  have H5 := (Touch.of_below H4 g B).trans hT5 (.inl rfl)
  have hz45 := hT5.size
  refine hK.out _ _ (C5.cells3) (fun hSt => ?_)
  clear hK K
  try simp only [Act.put, List.setIfInBounds_toArray, List.set_cons_zero, List.set_cons_succ]
  refine wpAnyH_picks [14] 0 (by rfl) (by kernel_rfl) (by kernel_rfl) (by kernel_rfl) (fun _ _ _ _ _ h => h) (by assumption) ?_
  simp only [picks, List.drop_succ_cons, List.drop_zero, List.take_succ_cons, List.take_zero, List.cons_append, List.nil_append]
  repeat (first
    | (refine wpY_skip (by rfl) ?_; simp only [Act.put, List.setIfInBounds_toArray, List.set_cons_zero, List.set_cons_succ])
    | (refine wpY_want (v := ?_) (by rfl) (fun W hW => ?_) ?_; rotate_left; (go_simp; try with_reducible rfl); simp only [Act.put, List.setIfInBounds_toArray, List.set_cons_zero, List.set_cons_succ]))
  refine wpY_nil ?_
  refine wpAnyH_done (by kernel_rfl) ?_ _
  refine NoPanic.normal ?_
  go_wp2_with fail
  have W5 : Wr w5 base g B5 (Lb ++ bitsOf 2 2) := W5
  clear X4 R4 CC W4 hT5
  refine wp_region_noPanic ?_
  refine wp_region_held_drew (S := fun W : World => W.cell? ⟨x, 0, none⟩ = some (.int .i64 (N + 1)) ∧ W.cell? ⟨x, 1, none⟩ = some (.int .i64 t) ∧ W.cell? ⟨x, 2, none⟩ = some (.int .i64 (t - L)) ∧ W.cell? ⟨y, 2, none⟩ = some (.int .i64 7)) (by kernel_rfl) (⟨X5.cells3.1, X5.cells3.2.1, X5.cells3.2.2, C5.cells3.2.2⟩) (fun hSt => ?_)
  refine wpAnyH_picks [0, 1, 2, 3, 4] 6 (by rfl) (by kernel_rfl) (by kernel_rfl) (by kernel_rfl) (fun _ _ _ _ _ h => h) (by assumption) ?_
  simp only [picks, List.drop_succ_cons, List.drop_zero, List.take_succ_cons, List.take_zero, List.cons_append, List.nil_append]
  repeat (first
    | (refine wpY_skip (by rfl) ?_; simp only [Act.put, List.setIfInBounds_toArray, List.set_cons_zero, List.set_cons_succ])
    | (refine wpY_want (v := ?_) (by rfl) (fun W hW => ?_) ?_; rotate_left; (obtain ⟨hW0, hW1, hW2, hW3⟩ := hW; go_simp; try with_reducible rfl); simp only [Act.put, List.setIfInBounds_toArray, List.set_cons_zero, List.set_cons_succ]))
  refine wpY_nil ?_
  refine wpAnyH_one 5 5 (by rfl) (by rfl) (by kernel_rfl) (fun K hK => ?_)
  go_simp
  refine (put_int w5.drew base g B5 _ Z 7 W5 (by omega) (by have := HZl.out; omega) (by omega) (by omega) (by simp [length_bitsOf]; omega) (Nat.le_trans hbase H5.size)).mono ?_
  rintro e w6 ⟨rfl, B6, W6, hB6, hT6⟩
  have hT6 := hT6.of_drew
  have hrow5 := W5.row
  have hz5 := H5.size
  have nx : ∀ r, w.heap.size ≤ r → r < w4.heap.size → B5 ≠ some r := fun r h1 h2 e => by
    rcases hB5 with rfl | ⟨b, rfl, hb⟩
    · have := (hrow _ e).2; omega
    · have : b = r := by injection e
      have : w4.heap.size ≤ b := hb
      omega
  have hr4 : w.heap.size + 1 < w4.heap.size := by omega
  have hx4 : x < w4.heap.size := by omega
  have X6 := X5.touch hT6 (by omega) (fun e => nx x (by omega) hx4 e.symm)
  have R6 := R5.touch hT6 (by omega) (fun e => nx _ (by omega) hr4 e.symm)
  have C6 := C5.touch hT6 (by omega) (fun e => nx y (by omega) hy1 e.symm)
  have hBB : B5 = B ∨ ∃ b, B5 = some b ∧ w.heap.size ≤ b := by
    rcases hB5 with rfl | ⟨b, rfl, hb⟩
    · exact .inl rfl
    · exact .inr ⟨b, rfl, Nat.le_trans H4.size hb⟩
  have H6 := H5.trans hT6 hBB
  refine hK.out _ _ (⟨X6.cells3.1, X6.cells3.2.1, X6.cells3.2.2, C6.cells3.2.2⟩) (fun hSt => ?_)
  clear hK K
  try simp only [Act.put, List.setIfInBounds_toArray, List.set_cons_zero, List.set_cons_succ]
  refine wpAnyH_one 6 4 (by rfl) (by rfl) (by kernel_rfl) (fun K hK => ?_)
  go_simp
  refine (done_yes (N + 1) t (t - L) _).mono ?_
  rintro e w7 ⟨rfl, hB7⟩
  have X7 := X6.below hB7
  have C7 := C6.below hB7
  have R7 := R6.below hB7
  have W7 := W6.below hB7
  have H7 := H6.trans (Touch.of_below hB7 g B) (.inl rfl)
  obtain ⟨d0, d1, d2⟩ := R7.cells3
  obtain ⟨e0, e1, e2⟩ := R7.free3
  refine hK.out _ _ (⟨X7.cells3.1, X7.cells3.2.1, X7.cells3.2.2, C7.cells3.2.2⟩) (fun hSt => ?_)
  clear hK K
  try simp only [Act.put, List.setIfInBounds_toArray, List.set_cons_zero, List.set_cons_succ]
  refine wpAnyH_picks [7, 8] 2 (by rfl) (by kernel_rfl) (by kernel_rfl) (by kernel_rfl) (fun _ _ _ _ _ h => h) (by assumption) ?_
  simp only [picks, List.drop_succ_cons, List.drop_zero, List.take_succ_cons, List.take_zero, List.cons_append, List.nil_append]
  repeat (first
    | (refine wpY_skip (by rfl) ?_; simp only [Act.put, List.setIfInBounds_toArray, List.set_cons_zero, List.set_cons_succ])
    | (refine wpY_want (v := ?_) (by rfl) (fun W hW => ?_) ?_; rotate_left; (go_simp; try with_reducible rfl); simp only [Act.put, List.setIfInBounds_toArray, List.set_cons_zero, List.set_cons_succ]))
  refine wpY_nil ?_
  refine wpAnyH_one 9 1 (by rfl) (by rfl) (by kernel_rfl) (fun K hK => ?_)
  go_simp
  have P1 := (X7.farPut3 (g' := w.heap.size + 1) (by omega) (.int .i64 (N + 1)) (.int .i64 t) (.int .i64 (t - L))).cells3
  have P2 := (C7.farPut3 (g' := w.heap.size + 1) (by omega) (.int .i64 (N + 1)) (.int .i64 t) (.int .i64 (t - L))).cells3
  refine hK.out _ _ (⟨P1.1, P1.2.1, P1.2.2, P2.2.2⟩) (fun hSt => ?_)
  clear hK K
  try simp only [Act.put, List.setIfInBounds_toArray, List.set_cons_zero, List.set_cons_succ]
  refine wpAnyH_picks [10] 0 (by rfl) (by kernel_rfl) (by kernel_rfl) (by kernel_rfl) (fun _ _ _ _ _ h => h) (by assumption) ?_
  simp only [picks, List.drop_succ_cons, List.drop_zero, List.take_succ_cons, List.take_zero, List.cons_append, List.nil_append]
  repeat (first
    | (refine wpY_skip (by rfl) ?_; simp only [Act.put, List.setIfInBounds_toArray, List.set_cons_zero, List.set_cons_succ])
    | (refine wpY_want (v := ?_) (by rfl) (fun W hW => ?_) ?_; rotate_left; (go_simp; try with_reducible rfl); simp only [Act.put, List.setIfInBounds_toArray, List.set_cons_zero, List.set_cons_succ]))
  refine wpY_nil ?_
  refine wpAnyH_done (by kernel_rfl) ?_ _
  refine NoPanic.normal ?_
  go_wp2_with fail
  obtain ⟨q0, q1, q2⟩ := (R7.put3 (.int .i64 (N + 1)) (.int .i64 t) (.int .i64 (t - L))).cells3
  have hw7 : Wr w7 base g B6 (Lb ++ encZ Z) := by rw [EZ.out, ← List.append_assoc]; exact W7
  have hBB6 : B6 = B ∨ ∃ b, B6 = some b ∧ w.heap.size ≤ b := row_step hBB hB6 H5.size
  refine bodyPost_ret (v := .tuple #[.agg #[.int .i64 (N + 1), .int .i64 t, .int .i64 (t - L)], .int .i64 0]) (by simp [results, Tryd.results17, go_sem, q0, q1, q2]) rfl ⟨rfl, B6, hw7.put3 (by omega) ?_ _ _ _, hBB6, ?_⟩
  · intro e
    rcases hB6 with rfl | ⟨b, rfl, hb⟩
    · exact nx _ (by omega) hr4 e
    · have : b = w.heap.size + 1 := by injection e
      have : w5.heap.size ≤ b := hb
      have : w4.heap.size ≤ w5.heap.size := hz45
      omega
  · exact H7.put3 (by omega) _ _ _

set_option maxHeartbeats 1600000 in
theorem sPut_k2 (w : World) (base g : Nat) (B : Option Nat) (Lb : List Bool) (N L D t : Int) (h : Wr w base g B Lb) (hT : StampTab w) (hLb : Lb.length ≤ 500000) (hbase : base ≤ w.heap.size) (hn : nextS N L t = true) (hr : rightS N L D = true) (hN : N ≠ 0) (hk : ofc (zig (t - L - D)) = 2) :
    Calls Tryd.prog 17 #[.pointer (some ⟨g, 0, none⟩), .agg #[.int .i64 N, .int .i64 L, .int .i64 D], .int .i64 t] w fun e w' =>
      e = .returned (.tuple #[.agg #[.int .i64 (N + 1), .int .i64 t, .int .i64 (t - L)], .int .i64 0]) ∧ ∃ B', Wr w' base g B' (Lb ++ encZ (zig (t - L - D))) ∧ (B' = B ∨ ∃ b, B' = some b ∧ w.heap.size ≤ b) ∧ Touch g B w w' := by
  obtain ⟨S0, R0, H0⟩ := two_new w (.int .i64 N) (.int .i64 L) (.int .i64 0) (.int .i64 0) (.int .i64 0) (.int .i64 D) 27 27
  have hlt := h.lt
  have hrow := h.row
  have ny := fun W => next_yes N L D t W hn hr
  have hdf : difS N L t = t - L := if_neg hN
  rw [hdf] at ny
  have NY := Lib.hid ny
  obtain ⟨b1, b2, b3⟩ := nextS_of hn
  obtain ⟨a1, a2, a3, a4, a5, a6⟩ := rightS_of hr
  have hb3 : L < t := by rcases b3 with b3 | b3; · exact absurd b3 hN
                         · exact b3
  have hN0 : (N == 0) = false := beq_eq_false_iff_ne.2 hN
  clear ny hdf b3 hn hN
  obtain ⟨n, rfl⟩ : ∃ n, n = N + 1 := ⟨_, rfl⟩
  obtain ⟨Z, hZ⟩ : ∃ Z, zig (t - L - D) = Z := ⟨_, rfl⟩
  have HZ := Lib.hid hZ
  rw [hZ] at hk
  have OF := fun W h1 => of_int Z 2 W h1 (by omega)
  have HOF := Lib.hid OF
  have EZ := Lib.hid (encZ_k2 Z hk)
  have HZl := Lib.hid (hZ ▸ zig_lt (t - L - D) (by omega) : Z < 281474976710656)
  have hzz := zig_word (t - L - D) (by omega)
  rw [hZ] at hzz
  rw [hZ]
  have HK := Lib.hid hk
  have HR := Lib.hid hr
  clear hr hk OF hZ
  go_enter Tryd.func17, Tryd.ntmps17
  go_wp2_with fail
  refine (NY.out _).mono ?_
  rintro e w1 ⟨rfl, hB1⟩
  have hx1 : w.heap.size + 1 < w1.heap.size := by have := H0.size; have := hB1.size; have := R0.lt; omega
  have H1 := (below_more H0 hB1).alloc (by omega) (.cells #[.int .i64 (N + 1), .int .i64 t, .int .i64 (t - L)] 27)
  have S1 := (S0.below hB1).alloc (.cells #[.int .i64 (N + 1), .int .i64 t, .int .i64 (t - L)] 27)
  have R1 := (R0.below hB1).alloc (.cells #[.int .i64 (N + 1), .int .i64 t, .int .i64 (t - L)] 27)
  have X1 := Blk.new w1 27 #[.int .i64 (N + 1), .int .i64 t, .int .i64 (t - L)]
  obtain ⟨c0, c1, c2⟩ := S1.cells3
  go_wp2_with fail
  refine (right_yes N L D _ HR.out).mono ?_
  rintro e w2 ⟨rfl, hB2⟩
  have H2 := below_more H1 hB2
  have R2 := R1.below hB2
  have S2 := S1.below hB2
  have X2 := X1.below hB2
  have W2 := h.below H2
  have T2 := hT.below H2
  have hz2 := X2.lt
  clear c0 c1 c2 S1 R1 X1 H1 S0 R0 H0 hB1 hB2 NY
  generalize w1.heap.size = x at *
  obtain ⟨c0, c1, c2⟩ := S2.cells3
  obtain ⟨x0, x1, x2⟩ := X2.cells3
  go_wp2_with fail
  refine (HOF.out _ T2).mono ?_
  rintro e w3 ⟨rfl, hB3⟩
  have H3 := below_more H2 hB3
  have T3 := T2.below hB3
  have tt := T3.cls2
  obtain ⟨g0, g1, g2⟩ := tt
  have hz3 := hB3.size
  have CC := Blk.new w3 104 #[.int .i64 2, .int .i64 1, .int .i64 12]
  have H4 := H3.alloc (by omega) (.cells #[.int .i64 2, .int .i64 1, .int .i64 12] 104)
  have R4 := (R2.below hB3).alloc (.cells #[.int .i64 2, .int .i64 1, .int .i64 12] 104)
  have X4 := (X2.below hB3).alloc (.cells #[.int .i64 2, .int .i64 1, .int .i64 12] 104)
  have W4 := h.below H4
  clear c0 c1 c2 x0 x1 x2 R2 S2 X2 W2 T2 H2 H3 HOF T3
  go_wp2_with fail
  clear g0 g1 g2 hB3
  obtain ⟨y, hy⟩ : ∃ y, w3.heap.size = y := ⟨_, rfl⟩
  rw [hy] at hz3 CC ⊢
  generalize w3.alloc (.cells #[.int .i64 2, .int .i64 1, .int .i64 12] 104) = w4 at *
  clear hy
  refine wp_region_noPanic ?_
  refine wp_region_held_drew (S := fun W : World => W.cell? ⟨y, 0, none⟩ = some (.int .i64 2) ∧ W.cell? ⟨y, 1, none⟩ = some (.int .i64 1) ∧ W.cell? ⟨y, 2, none⟩ = some (.int .i64 12)) (by kernel_rfl) (CC.cells3) (fun hSt => ?_)
  refine wpAnyH_picks [0, 1, 2, 3, 4, 5, 6, 7, 8, 9, 10, 11, 12] 2 (by rfl) (by kernel_rfl) (by kernel_rfl) (by kernel_rfl) (fun _ _ _ _ _ h => h) (by assumption) ?_
  simp only [picks, List.drop_succ_cons, List.drop_zero, List.take_succ_cons, List.take_zero, List.cons_append, List.nil_append]
  repeat (first
    | (refine wpY_skip (by rfl) ?_; simp only [Act.put, List.setIfInBounds_toArray, List.set_cons_zero, List.set_cons_succ])
    | (refine wpY_want (v := ?_) (by rfl) (fun W hW => ?_) ?_; rotate_left; (obtain ⟨hW0, hW1, hW2⟩ := hW; go_simp; try with_reducible rfl); simp only [Act.put, List.setIfInBounds_toArray, List.set_cons_zero, List.set_cons_succ]))
  refine wpY_nil ?_
  refine wpAnyH_one 13 1 (by rfl) (by rfl) (by kernel_rfl) (fun K hK => ?_)
  go_simp
  refine (put_int w4.drew base g B Lb 6 3 W4 (by omega) (by omega) (by omega) (by omega) (by omega) (Nat.le_trans hbase H4.size)).mono ?_
  rintro e w5 ⟨rfl, B5, W5, hB5, hT5⟩
  have hT5 := hT5.of_drew
  have hy1 := CC.lt
  have X5 := X4.touch hT5 (by omega) (fun e => by have := hrow _ e.symm; omega)
  have R5 := R4.touch hT5 (by omega) (fun e => by have := hrow _ e.symm; omega)
  have C5 := CC.touch hT5 (by omega) (fun e => by have := hrow _ e.symm; omega)
  have H5 := (Touch.of_below H4 g B).trans hT5 (.inl rfl)
  have hz45 := hT5.size
  refine hK.out _ _ (C5.cells3) (fun hSt => ?_)
  clear hK K
  try simp only [Act.put, List.setIfInBounds_toArray, List.set_cons_zero, List.set_cons_succ]
  refine wpAnyH_picks [14] 0 (by rfl) (by kernel_rfl) (by kernel_rfl) (by kernel_rfl) (fun _ _ _ _ _ h => h) (by assumption) ?_
  simp only [picks, List.drop_succ_cons, List.drop_zero, List.take_succ_cons, List.take_zero, List.cons_append, List.nil_append]
  repeat (first
    | (refine wpY_skip (by rfl) ?_; simp only [Act.put, List.setIfInBounds_toArray, List.set_cons_zero, List.set_cons_succ])
    | (refine wpY_want (v := ?_) (by rfl) (fun W hW => ?_) ?_; rotate_left; (go_simp; try with_reducible rfl); simp only [Act.put, List.setIfInBounds_toArray, List.set_cons_zero, List.set_cons_succ]))
  refine wpY_nil ?_
  refine wpAnyH_done (by kernel_rfl) ?_ _
  refine NoPanic.normal ?_
  go_wp2_with fail
  have W5 : Wr w5 base g B5 (Lb ++ bitsOf 3 6) := W5
  clear X4 R4 CC W4 hT5
  refine wp_region_noPanic ?_
  refine wp_region_held_drew (S := fun W : World => W.cell? ⟨x, 0, none⟩ = some (.int .i64 (N + 1)) ∧ W.cell? ⟨x, 1, none⟩ = some (.int .i64 t) ∧ W.cell? ⟨x, 2, none⟩ = some (.int .i64 (t - L)) ∧ W.cell? ⟨y, 2, none⟩ = some (.int .i64 12)) (by kernel_rfl) (⟨X5.cells3.1, X5.cells3.2.1, X5.cells3.2.2, C5.cells3.2.2⟩) (fun hSt => ?_)
  refine wpAnyH_picks [0, 1, 2, 3, 4] 6 (by rfl) (by kernel_rfl) (by kernel_rfl) (by kernel_rfl) (fun _ _ _ _ _ h => h) (by assumption) ?_
  simp only [picks, List.drop_succ_cons, List.drop_zero, List.take_succ_cons, List.take_zero, List.cons_append, List.nil_append]
  repeat (first
    | (refine wpY_skip (by rfl) ?_; simp only [Act.put, List.setIfInBounds_toArray, List.set_cons_zero, List.set_cons_succ])
    | (refine wpY_want (v := ?_) (by rfl) (fun W hW => ?_) ?_; rotate_left; (obtain ⟨hW0, hW1, hW2, hW3⟩ := hW; go_simp; try with_reducible rfl); simp only [Act.put, List.setIfInBounds_toArray, List.set_cons_zero, List.set_cons_succ]))
  refine wpY_nil ?_
  refine wpAnyH_one 5 5 (by rfl) (by rfl) (by kernel_rfl) (fun K hK => ?_)
  go_simp
  refine (put_int w5.drew base g B5 _ Z 12 W5 (by omega) (by have := HZl.out; omega) (by omega) (by omega) (by simp [length_bitsOf]; omega) (Nat.le_trans hbase H5.size)).mono ?_
  rintro e w6 ⟨rfl, B6, W6, hB6, hT6⟩
  have hT6 := hT6.of_drew
  have hrow5 := W5.row
  have hz5 := H5.size
  have nx : ∀ r, w.heap.size ≤ r → r < w4.heap.size → B5 ≠ some r := fun r h1 h2 e => by
    rcases hB5 with rfl | ⟨b, rfl, hb⟩
    · have := (hrow _ e).2; omega
    · have : b = r := by injection e
      have : w4.heap.size ≤ b := hb
      omega
  have hr4 : w.heap.size + 1 < w4.heap.size := by omega
  have hx4 : x < w4.heap.size := by omega
  have X6 := X5.touch hT6 (by omega) (fun e => nx x (by omega) hx4 e.symm)
  have R6 := R5.touch hT6 (by omega) (fun e => nx _ (by omega) hr4 e.symm)
  have C6 := C5.touch hT6 (by omega) (fun e => nx y (by omega) hy1 e.symm)
  have hBB : B5 = B ∨ ∃ b, B5 = some b ∧ w.heap.size ≤ b := by
    rcases hB5 with rfl | ⟨b, rfl, hb⟩
    · exact .inl rfl
    · exact .inr ⟨b, rfl, Nat.le_trans H4.size hb⟩
  have H6 := H5.trans hT6 hBB
  refine hK.out _ _ (⟨X6.cells3.1, X6.cells3.2.1, X6.cells3.2.2, C6.cells3.2.2⟩) (fun hSt => ?_)
  clear hK K
  try simp only [Act.put, List.setIfInBounds_toArray, List.set_cons_zero, List.set_cons_succ]
  refine wpAnyH_one 6 4 (by rfl) (by rfl) (by kernel_rfl) (fun K hK => ?_)
  go_simp
  refine (done_yes (N + 1) t (t - L) _).mono ?_
  rintro e w7 ⟨rfl, hB7⟩
  have X7 := X6.below hB7
  have C7 := C6.below hB7
  have R7 := R6.below hB7
  have W7 := W6.below hB7
  have H7 := H6.trans (Touch.of_below hB7 g B) (.inl rfl)
  obtain ⟨d0, d1, d2⟩ := R7.cells3
  obtain ⟨e0, e1, e2⟩ := R7.free3
  refine hK.out _ _ (⟨X7.cells3.1, X7.cells3.2.1, X7.cells3.2.2, C7.cells3.2.2⟩) (fun hSt => ?_)
  clear hK K
  try simp only [Act.put, List.setIfInBounds_toArray, List.set_cons_zero, List.set_cons_succ]
  refine wpAnyH_picks [7, 8] 2 (by rfl) (by kernel_rfl) (by kernel_rfl) (by kernel_rfl) (fun _ _ _ _ _ h => h) (by assumption) ?_
  simp only [picks, List.drop_succ_cons, List.drop_zero, List.take_succ_cons, List.take_zero, List.cons_append, List.nil_append]
  repeat (first
    | (refine wpY_skip (by rfl) ?_; simp only [Act.put, List.setIfInBounds_toArray, List.set_cons_zero, List.set_cons_succ])
    | (refine wpY_want (v := ?_) (by rfl) (fun W hW => ?_) ?_; rotate_left; (go_simp; try with_reducible rfl); simp only [Act.put, List.setIfInBounds_toArray, List.set_cons_zero, List.set_cons_succ]))
  refine wpY_nil ?_
  refine wpAnyH_one 9 1 (by rfl) (by rfl) (by kernel_rfl) (fun K hK => ?_)
  go_simp
  have P1 := (X7.farPut3 (g' := w.heap.size + 1) (by omega) (.int .i64 (N + 1)) (.int .i64 t) (.int .i64 (t - L))).cells3
  have P2 := (C7.farPut3 (g' := w.heap.size + 1) (by omega) (.int .i64 (N + 1)) (.int .i64 t) (.int .i64 (t - L))).cells3
  refine hK.out _ _ (⟨P1.1, P1.2.1, P1.2.2, P2.2.2⟩) (fun hSt => ?_)
  clear hK K
  try simp only [Act.put, List.setIfInBounds_toArray, List.set_cons_zero, List.set_cons_succ]
  refine wpAnyH_picks [10] 0 (by rfl) (by kernel_rfl) (by kernel_rfl) (by kernel_rfl) (fun _ _ _ _ _ h => h) (by assumption) ?_
  simp only [picks, List.drop_succ_cons, List.drop_zero, List.take_succ_cons, List.take_zero, List.cons_append, List.nil_append]
  repeat (first
    | (refine wpY_skip (by rfl) ?_; simp only [Act.put, List.setIfInBounds_toArray, List.set_cons_zero, List.set_cons_succ])
    | (refine wpY_want (v := ?_) (by rfl) (fun W hW => ?_) ?_; rotate_left; (go_simp; try with_reducible rfl); simp only [Act.put, List.setIfInBounds_toArray, List.set_cons_zero, List.set_cons_succ]))
  refine wpY_nil ?_
  refine wpAnyH_done (by kernel_rfl) ?_ _
  refine NoPanic.normal ?_
  go_wp2_with fail
  obtain ⟨q0, q1, q2⟩ := (R7.put3 (.int .i64 (N + 1)) (.int .i64 t) (.int .i64 (t - L))).cells3
  have hw7 : Wr w7 base g B6 (Lb ++ encZ Z) := by rw [EZ.out, ← List.append_assoc]; exact W7
  have hBB6 : B6 = B ∨ ∃ b, B6 = some b ∧ w.heap.size ≤ b := row_step hBB hB6 H5.size
  refine bodyPost_ret (v := .tuple #[.agg #[.int .i64 (N + 1), .int .i64 t, .int .i64 (t - L)], .int .i64 0]) (by simp [results, Tryd.results17, go_sem, q0, q1, q2]) rfl ⟨rfl, B6, hw7.put3 (by omega) ?_ _ _ _, hBB6, ?_⟩
  · intro e
    rcases hB6 with rfl | ⟨b, rfl, hb⟩
    · exact nx _ (by omega) hr4 e
    · have : b = w.heap.size + 1 := by injection e
      have : w5.heap.size ≤ b := hb
      have : w4.heap.size ≤ w5.heap.size := hz45
      omega
  · exact H7.put3 (by omega) _ _ _

set_option maxHeartbeats 1600000 in
theorem sPut_k3 (w : World) (base g : Nat) (B : Option Nat) (Lb : List Bool) (N L D t : Int) (h : Wr w base g B Lb) (hT : StampTab w) (hLb : Lb.length ≤ 500000) (hbase : base ≤ w.heap.size) (hn : nextS N L t = true) (hr : rightS N L D = true) (hN : N ≠ 0) (hk : ofc (zig (t - L - D)) = 3) :
    Calls Tryd.prog 17 #[.pointer (some ⟨g, 0, none⟩), .agg #[.int .i64 N, .int .i64 L, .int .i64 D], .int .i64 t] w fun e w' =>
      e = .returned (.tuple #[.agg #[.int .i64 (N + 1), .int .i64 t, .int .i64 (t - L)], .int .i64 0]) ∧ ∃ B', Wr w' base g B' (Lb ++ encZ (zig (t - L - D))) ∧ (B' = B ∨ ∃ b, B' = some b ∧ w.heap.size ≤ b) ∧ Touch g B w w' := by
  obtain ⟨S0, R0, H0⟩ := two_new w (.int .i64 N) (.int .i64 L) (.int .i64 0) (.int .i64 0) (.int .i64 0) (.int .i64 D) 27 27
  have hlt := h.lt
  have hrow := h.row
  have ny := fun W => next_yes N L D t W hn hr
  have hdf : difS N L t = t - L := if_neg hN
  rw [hdf] at ny
  have NY := Lib.hid ny
  obtain ⟨b1, b2, b3⟩ := nextS_of hn
  obtain ⟨a1, a2, a3, a4, a5, a6⟩ := rightS_of hr
  have hb3 : L < t := by rcases b3 with b3 | b3; · exact absurd b3 hN
                         · exact b3
  have hN0 : (N == 0) = false := beq_eq_false_iff_ne.2 hN
  clear ny hdf b3 hn hN
  obtain ⟨n, rfl⟩ : ∃ n, n = N + 1 := ⟨_, rfl⟩
  obtain ⟨Z, hZ⟩ : ∃ Z, zig (t - L - D) = Z := ⟨_, rfl⟩
  have HZ := Lib.hid hZ
  rw [hZ] at hk
  have OF := fun W h1 => of_int Z 3 W h1 (by omega)
  have HOF := Lib.hid OF
  have EZ := Lib.hid (encZ_k3 Z hk)
  have HZl := Lib.hid (hZ ▸ zig_lt (t - L - D) (by omega) : Z < 281474976710656)
  have hzz := zig_word (t - L - D) (by omega)
  rw [hZ] at hzz
  rw [hZ]
  have HK := Lib.hid hk
  have HR := Lib.hid hr
  clear hr hk OF hZ
  go_enter Tryd.func17, Tryd.ntmps17
  go_wp2_with fail
  refine (NY.out _).mono ?_
  rintro e w1 ⟨rfl, hB1⟩
  have hx1 : w.heap.size + 1 < w1.heap.size := by have := H0.size; have := hB1.size; have := R0.lt; omega
  have H1 := (below_more H0 hB1).alloc (by omega) (.cells #[.int .i64 (N + 1), .int .i64 t, .int .i64 (t - L)] 27)
  have S1 := (S0.below hB1).alloc (.cells #[.int .i64 (N + 1), .int .i64 t, .int .i64 (t - L)] 27)
  have R1 := (R0.below hB1).alloc (.cells #[.int .i64 (N + 1), .int .i64 t, .int .i64 (t - L)] 27)
  have X1 := Blk.new w1 27 #[.int .i64 (N + 1), .int .i64 t, .int .i64 (t - L)]
  obtain ⟨c0, c1, c2⟩ := S1.cells3
  go_wp2_with fail
  refine (right_yes N L D _ HR.out).mono ?_
  rintro e w2 ⟨rfl, hB2⟩
  have H2 := below_more H1 hB2
  have R2 := R1.below hB2
  have S2 := S1.below hB2
  have X2 := X1.below hB2
  have W2 := h.below H2
  have T2 := hT.below H2
  have hz2 := X2.lt
  clear c0 c1 c2 S1 R1 X1 H1 S0 R0 H0 hB1 hB2 NY
  generalize w1.heap.size = x at *
  obtain ⟨c0, c1, c2⟩ := S2.cells3
  obtain ⟨x0, x1, x2⟩ := X2.cells3
  go_wp2_with fail
  refine (HOF.out _ T2).mono ?_
  rintro e w3 ⟨rfl, hB3⟩
  have H3 := below_more H2 hB3
  have T3 := T2.below hB3
  have tt := T3.cls3
  obtain ⟨g0, g1, g2⟩ := tt
  have hz3 := hB3.size
  have CC := Blk.new w3 104 #[.int .i64 3, .int .i64 1, .int .i64 20]
  have H4 := H3.alloc (by omega) (.cells #[.int .i64 3, .int .i64 1, .int .i64 20] 104)
  have R4 := (R2.below hB3).alloc (.cells #[.int .i64 3, .int .i64 1, .int .i64 20] 104)
  have X4 := (X2.below hB3).alloc (.cells #[.int .i64 3, .int .i64 1, .int .i64 20] 104)
  have W4 := h.below H4
  clear c0 c1 c2 x0 x1 x2 R2 S2 X2 W2 T2 H2 H3 HOF T3
  go_wp2_with fail
  clear g0 g1 g2 hB3
  obtain ⟨y, hy⟩ : ∃ y, w3.heap.size = y := ⟨_, rfl⟩
  rw [hy] at hz3 CC ⊢
  generalize w3.alloc (.cells #[.int .i64 3, .int .i64 1, .int .i64 20] 104) = w4 at *
  clear hy
  refine wp_region_noPanic ?_
  refine wp_region_held_drew (S := fun W : World => W.cell? ⟨y, 0, none⟩ = some (.int .i64 3) ∧ W.cell? ⟨y, 1, none⟩ = some (.int .i64 1) ∧ W.cell? ⟨y, 2, none⟩ = some (.int .i64 20)) (by kernel_rfl) (CC.cells3) (fun hSt => ?_)
  refine wpAnyH_picks [0, 1, 2, 3, 4, 5, 6, 7, 8, 9, 10, 11, 12] 2 (by rfl) (by kernel_rfl) (by kernel_rfl) (by kernel_rfl) (fun _ _ _ _ _ h => h) (by assumption) ?_
  simp only [picks, List.drop_succ_cons, List.drop_zero, List.take_succ_cons, List.take_zero, List.cons_append, List.nil_append]
  repeat (first
    | (refine wpY_skip (by rfl) ?_; simp only [Act.put, List.setIfInBounds_toArray, List.set_cons_zero, List.set_cons_succ])
    | (refine wpY_want (v := ?_) (by rfl) (fun W hW => ?_) ?_; rotate_left; (obtain ⟨hW0, hW1, hW2⟩ := hW; go_simp; try with_reducible rfl); simp only [Act.put, List.setIfInBounds_toArray, List.set_cons_zero, List.set_cons_succ]))
  refine wpY_nil ?_
  refine wpAnyH_one 13 1 (by rfl) (by rfl) (by kernel_rfl) (fun K hK => ?_)
  go_simp
  refine (put_int w4.drew base g B Lb 14 4 W4 (by omega) (by omega) (by omega) (by omega) (by omega) (Nat.le_trans hbase H4.size)).mono ?_
  rintro e w5 ⟨rfl, B5, W5, hB5, hT5⟩
  have hT5 := hT5.of_drew
  have hy1 := CC.lt
  have X5 := X4.touch hT5 (by omega) (fun e => by have := hrow _ e.symm; omega)
  have R5 := R4.touch hT5 (by omega) (fun e => by have := hrow _ e.symm; omega)
  have C5 := CC.touch hT5 (by omega) (fun e => by have := hrow _ e.symm; omega)
  have H5 := (Touch.of_below H4 g B).trans hT5 (.inl rfl)
  have hz45 := hT5.size
  refine hK.out _ _ (C5.cells3) (fun hSt => ?_)
  clear hK K
  try simp only [Act.put, List.setIfInBounds_toArray, List.set_cons_zero, List.set_cons_succ]
  refine wpAnyH_picks [14] 0 (by rfl) (by kernel_rfl) (by kernel_rfl) (by kernel_rfl) (fun _ _ _ _ _ h => h) (by assumption) ?_
  simp only [picks, List.drop_succ_cons, List.drop_zero, List.take_succ_cons, List.take_zero, List.cons_append, List.nil_append]
  repeat (first
    | (refine wpY_skip (by rfl) ?_; simp only [Act.put, List.setIfInBounds_toArray, List.set_cons_zero, List.set_cons_succ])
    | (refine wpY_want (v := ?_) (by rfl) (fun W hW => ?_) ?_; rotate_left; (go_simp; try with_reducible rfl); simp only [Act.put, List.setIfInBounds_toArray, List.set_cons_zero, List.set_cons_succ]))
  refine wpY_nil ?_
  refine wpAnyH_done (by kernel_rfl) ?_ _
  refine NoPanic.normal ?_
  go_wp2_with fail
  have W5 : Wr w5 base g B5 (Lb ++ bitsOf 4 14) := W5
  clear X4 R4 CC W4 hT5
  refine wp_region_noPanic ?_
  refine wp_region_held_drew (S := fun W : World => W.cell? ⟨x, 0, none⟩ = some (.int .i64 (N + 1)) ∧ W.cell? ⟨x, 1, none⟩ = some (.int .i64 t) ∧ W.cell? ⟨x, 2, none⟩ = some (.int .i64 (t - L)) ∧ W.cell? ⟨y, 2, none⟩ = some (.int .i64 20)) (by kernel_rfl) (⟨X5.cells3.1, X5.cells3.2.1, X5.cells3.2.2, C5.cells3.2.2⟩) (fun hSt => ?_)
  refine wpAnyH_picks [0, 1, 2, 3, 4] 6 (by rfl) (by kernel_rfl) (by kernel_rfl) (by kernel_rfl) (fun _ _ _ _ _ h => h) (by assumption) ?_
  simp only [picks, List.drop_succ_cons, List.drop_zero, List.take_succ_cons, List.take_zero, List.cons_append, List.nil_append]
  repeat (first
    | (refine wpY_skip (by rfl) ?_; simp only [Act.put, List.setIfInBounds_toArray, List.set_cons_zero, List.set_cons_succ])
    | (refine wpY_want (v := ?_) (by rfl) (fun W hW => ?_) ?_; rotate_left; (obtain ⟨hW0, hW1, hW2, hW3⟩ := hW; go_simp; try with_reducible rfl); simp only [Act.put, List.setIfInBounds_toArray, List.set_cons_zero, List.set_cons_succ]))
  refine wpY_nil ?_
  refine wpAnyH_one 5 5 (by rfl) (by rfl) (by kernel_rfl) (fun K hK => ?_)
  go_simp
  refine (put_int w5.drew base g B5 _ Z 20 W5 (by omega) (by have := HZl.out; omega) (by omega) (by omega) (by simp [length_bitsOf]; omega) (Nat.le_trans hbase H5.size)).mono ?_
  rintro e w6 ⟨rfl, B6, W6, hB6, hT6⟩
  have hT6 := hT6.of_drew
  have hrow5 := W5.row
  have hz5 := H5.size
  have nx : ∀ r, w.heap.size ≤ r → r < w4.heap.size → B5 ≠ some r := fun r h1 h2 e => by
    rcases hB5 with rfl | ⟨b, rfl, hb⟩
    · have := (hrow _ e).2; omega
    · have : b = r := by injection e
      have : w4.heap.size ≤ b := hb
      omega
  have hr4 : w.heap.size + 1 < w4.heap.size := by omega
  have hx4 : x < w4.heap.size := by omega
  have X6 := X5.touch hT6 (by omega) (fun e => nx x (by omega) hx4 e.symm)
  have R6 := R5.touch hT6 (by omega) (fun e => nx _ (by omega) hr4 e.symm)
  have C6 := C5.touch hT6 (by omega) (fun e => nx y (by omega) hy1 e.symm)
  have hBB : B5 = B ∨ ∃ b, B5 = some b ∧ w.heap.size ≤ b := by
    rcases hB5 with rfl | ⟨b, rfl, hb⟩
    · exact .inl rfl
    · exact .inr ⟨b, rfl, Nat.le_trans H4.size hb⟩
  have H6 := H5.trans hT6 hBB
  refine hK.out _ _ (⟨X6.cells3.1, X6.cells3.2.1, X6.cells3.2.2, C6.cells3.2.2⟩) (fun hSt => ?_)
  clear hK K
  try simp only [Act.put, List.setIfInBounds_toArray, List.set_cons_zero, List.set_cons_succ]
  refine wpAnyH_one 6 4 (by rfl) (by rfl) (by kernel_rfl) (fun K hK => ?_)
  go_simp
  refine (done_yes (N + 1) t (t - L) _).mono ?_
  rintro e w7 ⟨rfl, hB7⟩
  have X7 := X6.below hB7
  have C7 := C6.below hB7
  have R7 := R6.below hB7
  have W7 := W6.below hB7
  have H7 := H6.trans (Touch.of_below hB7 g B) (.inl rfl)
  obtain ⟨d0, d1, d2⟩ := R7.cells3
  obtain ⟨e0, e1, e2⟩ := R7.free3
  refine hK.out _ _ (⟨X7.cells3.1, X7.cells3.2.1, X7.cells3.2.2, C7.cells3.2.2⟩) (fun hSt => ?_)
  clear hK K
  try simp only [Act.put, List.setIfInBounds_toArray, List.set_cons_zero, List.set_cons_succ]
  refine wpAnyH_picks [7, 8] 2 (by rfl) (by kernel_rfl) (by kernel_rfl) (by kernel_rfl) (fun _ _ _ _ _ h => h) (by assumption) ?_
  simp only [picks, List.drop_succ_cons, List.drop_zero, List.take_succ_cons, List.take_zero, List.cons_append, List.nil_append]
  repeat (first
    | (refine wpY_skip (by rfl) ?_; simp only [Act.put, List.setIfInBounds_toArray, List.set_cons_zero, List.set_cons_succ])
    | (refine wpY_want (v := ?_) (by rfl) (fun W hW => ?_) ?_; rotate_left; (go_simp; try with_reducible rfl); simp only [Act.put, List.setIfInBounds_toArray, List.set_cons_zero, List.set_cons_succ]))
  refine wpY_nil ?_
  refine wpAnyH_one 9 1 (by rfl) (by rfl) (by kernel_rfl) (fun K hK => ?_)
  go_simp
  have P1 := (X7.farPut3 (g' := w.heap.size + 1) (by omega) (.int .i64 (N + 1)) (.int .i64 t) (.int .i64 (t - L))).cells3
  have P2 := (C7.farPut3 (g' := w.heap.size + 1) (by omega) (.int .i64 (N + 1)) (.int .i64 t) (.int .i64 (t - L))).cells3
  refine hK.out _ _ (⟨P1.1, P1.2.1, P1.2.2, P2.2.2⟩) (fun hSt => ?_)
  clear hK K
  try simp only [Act.put, List.setIfInBounds_toArray, List.set_cons_zero, List.set_cons_succ]
  refine wpAnyH_picks [10] 0 (by rfl) (by kernel_rfl) (by kernel_rfl) (by kernel_rfl) (fun _ _ _ _ _ h => h) (by assumption) ?_
  simp only [picks, List.drop_succ_cons, List.drop_zero, List.take_succ_cons, List.take_zero, List.cons_append, List.nil_append]
  repeat (first
    | (refine wpY_skip (by rfl) ?_; simp only [Act.put, List.setIfInBounds_toArray, List.set_cons_zero, List.set_cons_succ])
    | (refine wpY_want (v := ?_) (by rfl) (fun W hW => ?_) ?_; rotate_left; (go_simp; try with_reducible rfl); simp only [Act.put, List.setIfInBounds_toArray, List.set_cons_zero, List.set_cons_succ]))
  refine wpY_nil ?_
  refine wpAnyH_done (by kernel_rfl) ?_ _
  refine NoPanic.normal ?_
  go_wp2_with fail
  obtain ⟨q0, q1, q2⟩ := (R7.put3 (.int .i64 (N + 1)) (.int .i64 t) (.int .i64 (t - L))).cells3
  have hw7 : Wr w7 base g B6 (Lb ++ encZ Z) := by rw [EZ.out, ← List.append_assoc]; exact W7
  have hBB6 : B6 = B ∨ ∃ b, B6 = some b ∧ w.heap.size ≤ b := row_step hBB hB6 H5.size
  refine bodyPost_ret (v := .tuple #[.agg #[.int .i64 (N + 1), .int .i64 t, .int .i64 (t - L)], .int .i64 0]) (by simp [results, Tryd.results17, go_sem, q0, q1, q2]) rfl ⟨rfl, B6, hw7.put3 (by omega) ?_ _ _ _, hBB6, ?_⟩
  · intro e
    rcases hB6 with rfl | ⟨b, rfl, hb⟩
    · exact nx _ (by omega) hr4 e
    · have : b = w.heap.size + 1 := by injection e
      have : w5.heap.size ≤ b := hb
      have : w4.heap.size ≤ w5.heap.size := hz45
      omega
  · exact H7.put3 (by omega) _ _ _

set_option maxHeartbeats 1600000 in
theorem sPut_k4 (w : World) (base g : Nat) (B : Option Nat) (Lb : List Bool) (N L D t : Int) (h : Wr w base g B Lb) (hT : StampTab w) (hLb : Lb.length ≤ 500000) (hbase : base ≤ w.heap.size) (hn : nextS N L t = true) (hr : rightS N L D = true) (hN : N ≠ 0) (hk : ofc (zig (t - L - D)) = 4) :
    Calls Tryd.prog 17 #[.pointer (some ⟨g, 0, none⟩), .agg #[.int .i64 N, .int .i64 L, .int .i64 D], .int .i64 t] w fun e w' =>
      e = .returned (.tuple #[.agg #[.int .i64 (N + 1), .int .i64 t, .int .i64 (t - L)], .int .i64 0]) ∧ ∃ B', Wr w' base g B' (Lb ++ encZ (zig (t - L - D))) ∧ (B' = B ∨ ∃ b, B' = some b ∧ w.heap.size ≤ b) ∧ Touch g B w w' := by
  obtain ⟨S0, R0, H0⟩ := two_new w (.int .i64 N) (.int .i64 L) (.int .i64 0) (.int .i64 0) (.int .i64 0) (.int .i64 D) 27 27
  have hlt := h.lt
  have hrow := h.row
  have ny := fun W => next_yes N L D t W hn hr
  have hdf : difS N L t = t - L := if_neg hN
  rw [hdf] at ny
  have NY := Lib.hid ny
  obtain ⟨b1, b2, b3⟩ := nextS_of hn
  obtain ⟨a1, a2, a3, a4, a5, a6⟩ := rightS_of hr
  have hb3 : L < t := by rcases b3 with b3 | b3; · exact absurd b3 hN
                         · exact b3
  have hN0 : (N == 0) = false := beq_eq_false_iff_ne.2 hN
  clear ny hdf b3 hn hN
  obtain ⟨n, rfl⟩ : ∃ n, n = N + 1 := ⟨_, rfl⟩
  obtain ⟨Z, hZ⟩ : ∃ Z, zig (t - L - D) = Z := ⟨_, rfl⟩
  have HZ := Lib.hid hZ
  rw [hZ] at hk
  have OF := fun W h1 => of_int Z 4 W h1 (by omega)
  have HOF := Lib.hid OF
  have EZ := Lib.hid (encZ_k4 Z hk)
  have HZl := Lib.hid (hZ ▸ zig_lt (t - L - D) (by omega) : Z < 281474976710656)
  have hzz := zig_word (t - L - D) (by omega)
  rw [hZ] at hzz
  rw [hZ]
  have HK := Lib.hid hk
  have HR := Lib.hid hr
  clear hr hk OF hZ
  go_enter Tryd.func17, Tryd.ntmps17
  go_wp2_with fail
  refine (NY.out _).mono ?_
  rintro e w1 ⟨rfl, hB1⟩
  have hx1 : w.heap.size + 1 < w1.heap.size := by have := H0.size; have := hB1.size; have := R0.lt; omega
  have H1 := (below_more H0 hB1).alloc (by omega) (.cells #[.int .i64 (N + 1), .int .i64 t, .int .i64 (t - L)] 27)
  have S1 := (S0.below hB1).alloc (.cells #[.int .i64 (N + 1), .int .i64 t, .int .i64 (t - L)] 27)
  have R1 := (R0.below hB1).alloc (.cells #[.int .i64 (N + 1), .int .i64 t, .int .i64 (t - L)] 27)
  have X1 := Blk.new w1 27 #[.int .i64 (N + 1), .int .i64 t, .int .i64 (t - L)]
  obtain ⟨c0, c1, c2⟩ := S1.cells3
  go_wp2_with fail
  refine (right_yes N L D _ HR.out).mono ?_
  rintro e w2 ⟨rfl, hB2⟩
  have H2 := below_more H1 hB2
  have R2 := R1.below hB2
  have S2 := S1.below hB2
  have X2 := X1.below hB2
  have W2 := h.below H2
  have T2 := hT.below H2
  have hz2 := X2.lt
  clear c0 c1 c2 S1 R1 X1 H1 S0 R0 H0 hB1 hB2 NY
  generalize w1.heap.size = x at *
  obtain ⟨c0, c1, c2⟩ := S2.cells3
  obtain ⟨x0, x1, x2⟩ := X2.cells3
  go_wp2_with fail
  refine (HOF.out _ T2).mono ?_
  rintro e w3 ⟨rfl, hB3⟩
  have H3 := below_more H2 hB3
  have T3 := T2.below hB3
  have tt := T3.cls4
  obtain ⟨g0, g1, g2⟩ := tt
  have hz3 := hB3.size
  have CC := Blk.new w3 104 #[.int .i64 4, .int .i64 0, .int .i64 48]
  have H4 := H3.alloc (by omega) (.cells #[.int .i64 4, .int .i64 0, .int .i64 48] 104)
  have R4 := (R2.below hB3).alloc (.cells #[.int .i64 4, .int .i64 0, .int .i64 48] 104)
  have X4 := (X2.below hB3).alloc (.cells #[.int .i64 4, .int .i64 0, .int .i64 48] 104)
  have W4 := h.below H4
  clear c0 c1 c2 x0 x1 x2 R2 S2 X2 W2 T2 H2 H3 HOF T3
  go_wp2_with fail
  clear g0 g1 g2 hB3
  obtain ⟨y, hy⟩ : ∃ y, w3.heap.size = y := ⟨_, rfl⟩
  rw [hy] at hz3 CC ⊢
  generalize w3.alloc (.cells #[.int .i64 4, .int .i64 0, .int .i64 48] 104) = w4 at *
  clear hy
  refine wp_region_noPanic ?_
  refine wp_region_held_drew (S := fun W : World => W.cell? ⟨y, 0, none⟩ = some (.int .i64 4) ∧ W.cell? ⟨y, 1, none⟩ = some (.int .i64 0) ∧ W.cell? ⟨y, 2, none⟩ = some (.int .i64 48)) (by kernel_rfl) (CC.cells3) (fun hSt => ?_)
  refine wpAnyH_picks [0, 1, 2, 3, 4, 5, 6, 7, 8, 9, 10, 11, 12] 2 (by rfl) (by kernel_rfl) (by kernel_rfl) (by kernel_rfl) (fun _ _ _ _ _ h => h) (by assumption) ?_
  simp only [picks, List.drop_succ_cons, List.drop_zero, List.take_succ_cons, List.take_zero, List.cons_append, List.nil_append]
  repeat (first
    | (refine wpY_skip (by rfl) ?_; simp only [Act.put, List.setIfInBounds_toArray, List.set_cons_zero, List.set_cons_succ])
    | (refine wpY_want (v := ?_) (by rfl) (fun W hW => ?_) ?_; rotate_left; (obtain ⟨hW0, hW1, hW2⟩ := hW; go_simp; try with_reducible rfl); simp only [Act.put, List.setIfInBounds_toArray, List.set_cons_zero, List.set_cons_succ]))
  refine wpY_nil ?_
  refine wpAnyH_one 13 1 (by rfl) (by rfl) (by kernel_rfl) (fun K hK => ?_)
  go_simp
  refine (put_int w4.drew base g B Lb 15 4 W4 (by omega) (by omega) (by omega) (by omega) (by omega) (Nat.le_trans hbase H4.size)).mono ?_
  rintro e w5 ⟨rfl, B5, W5, hB5, hT5⟩
  have hT5 := hT5.of_drew
  have hy1 := CC.lt
  have X5 := X4.touch hT5 (by omega) (fun e => by have := hrow _ e.symm; omega)
  have R5 := R4.touch hT5 (by omega) (fun e => by have := hrow _ e.symm; omega)
  have C5 := CC.touch hT5 (by omega) (fun e => by have := hrow _ e.symm; omega)
  have H5 := (Touch.of_below H4 g B).trans hT5 (.inl rfl)
  have hz45 := hT5.size
  refine hK.out _ _ (C5.cells3) (fun hSt => ?_)
  clear hK K
  try simp only [Act.put, List.setIfInBounds_toArray, List.set_cons_zero, List.set_cons_succ]
  refine wpAnyH_picks [14] 0 (by rfl) (by kernel_rfl) (by kernel_rfl) (by kernel_rfl) (fun _ _ _ _ _ h => h) (by assumption) ?_
  simp only [picks, List.drop_succ_cons, List.drop_zero, List.take_succ_cons, List.take_zero, List.cons_append, List.nil_append]
  repeat (first
    | (refine wpY_skip (by rfl) ?_; simp only [Act.put, List.setIfInBounds_toArray, List.set_cons_zero, List.set_cons_succ])
    | (refine wpY_want (v := ?_) (by rfl) (fun W hW => ?_) ?_; rotate_left; (go_simp; try with_reducible rfl); simp only [Act.put, List.setIfInBounds_toArray, List.set_cons_zero, List.set_cons_succ]))
  refine wpY_nil ?_
  refine wpAnyH_done (by kernel_rfl) ?_ _
  refine NoPanic.normal ?_
  go_wp2_with fail
  have W5 : Wr w5 base g B5 (Lb ++ bitsOf 4 15) := W5
  clear X4 R4 CC W4 hT5
  refine wp_region_noPanic ?_
  refine wp_region_held_drew (S := fun W : World => W.cell? ⟨x, 0, none⟩ = some (.int .i64 (N + 1)) ∧ W.cell? ⟨x, 1, none⟩ = some (.int .i64 t) ∧ W.cell? ⟨x, 2, none⟩ = some (.int .i64 (t - L)) ∧ W.cell? ⟨y, 2, none⟩ = some (.int .i64 48)) (by kernel_rfl) (⟨X5.cells3.1, X5.cells3.2.1, X5.cells3.2.2, C5.cells3.2.2⟩) (fun hSt => ?_)
  refine wpAnyH_picks [0, 1, 2, 3, 4] 6 (by rfl) (by kernel_rfl) (by kernel_rfl) (by kernel_rfl) (fun _ _ _ _ _ h => h) (by assumption) ?_
  simp only [picks, List.drop_succ_cons, List.drop_zero, List.take_succ_cons, List.take_zero, List.cons_append, List.nil_append]
  repeat (first
    | (refine wpY_skip (by rfl) ?_; simp only [Act.put, List.setIfInBounds_toArray, List.set_cons_zero, List.set_cons_succ])
    | (refine wpY_want (v := ?_) (by rfl) (fun W hW => ?_) ?_; rotate_left; (obtain ⟨hW0, hW1, hW2, hW3⟩ := hW; go_simp; try with_reducible rfl); simp only [Act.put, List.setIfInBounds_toArray, List.set_cons_zero, List.set_cons_succ]))
  refine wpY_nil ?_
  refine wpAnyH_one 5 5 (by rfl) (by rfl) (by kernel_rfl) (fun K hK => ?_)
  go_simp
  refine (put_int w5.drew base g B5 _ Z 48 W5 (by omega) (by have := HZl.out; omega) (by omega) (by omega) (by simp [length_bitsOf]; omega) (Nat.le_trans hbase H5.size)).mono ?_
  rintro e w6 ⟨rfl, B6, W6, hB6, hT6⟩
  have hT6 := hT6.of_drew
  have hrow5 := W5.row
  have hz5 := H5.size
  have nx : ∀ r, w.heap.size ≤ r → r < w4.heap.size → B5 ≠ some r := fun r h1 h2 e => by
    rcases hB5 with rfl | ⟨b, rfl, hb⟩
    · have := (hrow _ e).2; omega
    · have : b = r := by injection e
      have : w4.heap.size ≤ b := hb
      omega
  have hr4 : w.heap.size + 1 < w4.heap.size := by omega
  have hx4 : x < w4.heap.size := by omega
  have X6 := X5.touch hT6 (by omega) (fun e => nx x (by omega) hx4 e.symm)
  have R6 := R5.touch hT6 (by omega) (fun e => nx _ (by omega) hr4 e.symm)
  have C6 := C5.touch hT6 (by omega) (fun e => nx y (by omega) hy1 e.symm)
  have hBB : B5 = B ∨ ∃ b, B5 = some b ∧ w.heap.size ≤ b := by
    rcases hB5 with rfl | ⟨b, rfl, hb⟩
    · exact .inl rfl
    · exact .inr ⟨b, rfl, Nat.le_trans H4.size hb⟩
  have H6 := H5.trans hT6 hBB
  refine hK.out _ _ (⟨X6.cells3.1, X6.cells3.2.1, X6.cells3.2.2, C6.cells3.2.2⟩) (fun hSt => ?_)
  clear hK K
  try simp only [Act.put, List.setIfInBounds_toArray, List.set_cons_zero, List.set_cons_succ]
  refine wpAnyH_one 6 4 (by rfl) (by rfl) (by kernel_rfl) (fun K hK => ?_)
  go_simp
  refine (done_yes (N + 1) t (t - L) _).mono ?_
  rintro e w7 ⟨rfl, hB7⟩
  have X7 := X6.below hB7
  have C7 := C6.below hB7
  have R7 := R6.below hB7
  have W7 := W6.below hB7
  have H7 := H6.trans (Touch.of_below hB7 g B) (.inl rfl)
  obtain ⟨d0, d1, d2⟩ := R7.cells3
  obtain ⟨e0, e1, e2⟩ := R7.free3
  refine hK.out _ _ (⟨X7.cells3.1, X7.cells3.2.1, X7.cells3.2.2, C7.cells3.2.2⟩) (fun hSt => ?_)
  clear hK K
  try simp only [Act.put, List.setIfInBounds_toArray, List.set_cons_zero, List.set_cons_succ]
  refine wpAnyH_picks [7, 8] 2 (by rfl) (by kernel_rfl) (by kernel_rfl) (by kernel_rfl) (fun _ _ _ _ _ h => h) (by assumption) ?_
  simp only [picks, List.drop_succ_cons, List.drop_zero, List.take_succ_cons, List.take_zero, List.cons_append, List.nil_append]
  repeat (first
    | (refine wpY_skip (by rfl) ?_; simp only [Act.put, List.setIfInBounds_toArray, List.set_cons_zero, List.set_cons_succ])
    | (refine wpY_want (v := ?_) (by rfl) (fun W hW => ?_) ?_; rotate_left; (go_simp; try with_reducible rfl); simp only [Act.put, List.setIfInBounds_toArray, List.set_cons_zero, List.set_cons_succ]))
  refine wpY_nil ?_
  refine wpAnyH_one 9 1 (by rfl) (by rfl) (by kernel_rfl) (fun K hK => ?_)
  go_simp
  have P1 := (X7.farPut3 (g' := w.heap.size + 1) (by omega) (.int .i64 (N + 1)) (.int .i64 t) (.int .i64 (t - L))).cells3
  have P2 := (C7.farPut3 (g' := w.heap.size + 1) (by omega) (.int .i64 (N + 1)) (.int .i64 t) (.int .i64 (t - L))).cells3
  refine hK.out _ _ (⟨P1.1, P1.2.1, P1.2.2, P2.2.2⟩) (fun hSt => ?_)
  clear hK K
  try simp only [Act.put, List.setIfInBounds_toArray, List.set_cons_zero, List.set_cons_succ]
  refine wpAnyH_picks [10] 0 (by rfl) (by kernel_rfl) (by kernel_rfl) (by kernel_rfl) (fun _ _ _ _ _ h => h) (by assumption) ?_
  simp only [picks, List.drop_succ_cons, List.drop_zero, List.take_succ_cons, List.take_zero, List.cons_append, List.nil_append]
  repeat (first
    | (refine wpY_skip (by rfl) ?_; simp only [Act.put, List.setIfInBounds_toArray, List.set_cons_zero, List.set_cons_succ])
    | (refine wpY_want (v := ?_) (by rfl) (fun W hW => ?_) ?_; rotate_left; (go_simp; try with_reducible rfl); simp only [Act.put, List.setIfInBounds_toArray, List.set_cons_zero, List.set_cons_succ]))
  refine wpY_nil ?_
  refine wpAnyH_done (by kernel_rfl) ?_ _
  refine NoPanic.normal ?_
  go_wp2_with fail
  obtain ⟨q0, q1, q2⟩ := (R7.put3 (.int .i64 (N + 1)) (.int .i64 t) (.int .i64 (t - L))).cells3
  have hw7 : Wr w7 base g B6 (Lb ++ encZ Z) := by rw [EZ.out, ← List.append_assoc]; exact W7
  have hBB6 : B6 = B ∨ ∃ b, B6 = some b ∧ w.heap.size ≤ b := row_step hBB hB6 H5.size
  refine bodyPost_ret (v := .tuple #[.agg #[.int .i64 (N + 1), .int .i64 t, .int .i64 (t - L)], .int .i64 0]) (by simp [results, Tryd.results17, go_sem, q0, q1, q2]) rfl ⟨rfl, B6, hw7.put3 (by omega) ?_ _ _ _, hBB6, ?_⟩
  · intro e
    rcases hB6 with rfl | ⟨b, rfl, hb⟩
    · exact nx _ (by omega) hr4 e
    · have : b = w.heap.size + 1 := by injection e
      have : w5.heap.size ≤ b := hb
      have : w4.heap.size ≤ w5.heap.size := hz45
      omega
  · exact H7.put3 (by omega) _ _ _

/-- Put, at a time that may be. -/
theorem sPut_yes (w : World) (base g : Nat) (B : Option Nat) (Lb : List Bool) (N L D t : Int) (h : Wr w base g B Lb) (hT : StampTab w) (hLb : Lb.length ≤ 500000) (hbase : base ≤ w.heap.size) (hn : nextS N L t = true) (hr : rightS N L D = true) :
    Calls Tryd.prog 17 #[.pointer (some ⟨g, 0, none⟩), .agg #[.int .i64 N, .int .i64 L, .int .i64 D], .int .i64 t] w fun e w' =>
      e = .returned (.tuple #[.agg #[.int .i64 (N + 1), .int .i64 t, .int .i64 (difS N L t)], .int .i64 0]) ∧ ∃ B', Wr w' base g B' (Lb ++ encS N L D t) ∧ (B' = B ∨ ∃ b, B' = some b ∧ w.heap.size ≤ b) ∧ Touch g B w w' := by
  obtain ⟨a1, a2, a3, a4, a5, a6⟩ := rightS_of hr
  obtain ⟨b1, b2, b3⟩ := nextS_of hn
  by_cases hN : N = 0
  · subst hN
    exact sPut_first w base g B Lb L D t h hLb hbase hn hr
  · rw [show difS N L t = t - L from if_neg hN, show encS N L D t = encZ (zig (t - L - D)) from if_neg hN]
    have h4 := ofc_lt (zig (t - L - D)) (zig_lt _ (by omega))
    have hc : ofc (zig (t - L - D)) = 0 ∨ ofc (zig (t - L - D)) = 1 ∨ ofc (zig (t - L - D)) = 2 ∨ ofc (zig (t - L - D)) = 3 ∨ ofc (zig (t - L - D)) = 4 := by omega
    rcases hc with hk | hk | hk | hk | hk
    · exact sPut_k0 w base g B Lb N L D t h hT hLb hbase hn hr hN hk
    · exact sPut_k1 w base g B Lb N L D t h hT hLb hbase hn hr hN hk
    · exact sPut_k2 w base g B Lb N L D t h hT hLb hbase hn hr hN hk
    · exact sPut_k3 w base g B Lb N L D t h hT hLb hbase hn hr hN hk
    · exact sPut_k4 w base g B Lb N L D t h hT hLb hbase hn hr hN hk
end Go.Proofs.YtlgndfckmnninaaDoor
