/- Walk of the reference's Get of a value. Conditions: as stated. -/
import Derived.Test.YtlgndfckmnninaaDoorStampH
import Derived.Test.YtlgndfckmnninaaDoorXorG
import Derived.Test.YtlgndfckmnninaaDoorXorR
namespace Go.Proofs.YtlgndfckmnninaaDoor
open Go.RowKit
set_option linter.unusedVariables false

theorem Rr.set4 {w : World} {g r : Nat} {R : Option Nat} {bs : List Int} {p : Nat} (h : Rr w g R bs p) (h1 : g ≠ r) (h2 : R ≠ some r) (x y z u : Value) : Rr (Go.Proofs.YtlgndfckmnninaaDoor.set4 w r x y z u) g R bs p :=
  h.touch (touch_set4 w r x y z u) h1 (by simp) h2 (by cases R <;> simp)
theorem Rr.put1 {w : World} {g r : Nat} {R : Option Nat} {bs : List Int} {p : Nat} (h : Rr w g R bs p) (h1 : g ≠ r) (h2 : R ≠ some r) (i : Nat) (x : Value) : Rr (w.setCell ⟨r, i, none⟩ x) g R bs p :=
  h.touch ((Touch.refl r none w).set_ i x) h1 (by simp) h2 (by cases R <;> simp)
theorem dbl_lt {Y T X i : Nat} (h : Y * 2 ^ T = X) (hX : X < 2 ^ 64) (hi : i + 1 ≤ T) : Y * 2 ^ i < 9223372036854775808 := by
  have h1 : Y * 2 ^ (i + 1) ≤ Y * 2 ^ T := Nat.mul_le_mul_left _ (Nat.pow_le_pow_right (by omega) hi)
  rw [Nat.pow_succ, ← Nat.mul_assoc, h] at h1
  omega
theorem val_12 (l : List Bool) (hl : 12 ≤ l.length) : val (l.take 12) = val (l.take 6) * 64 + val ((l.drop 6).take 6) := by
  have h : l.take 12 = l.take 6 ++ (l.drop 6).take 6 := by rw [show 12 = 6 + 6 from rfl, List.take_add]
  rw [h, val_append, List.length_take, List.length_drop, Nat.min_eq_left (by omega)]

set_option maxRecDepth 100000 in
set_option maxHeartbeats 3200000 in
theorem xrGet_wrong (w : World) (g : Nat) (R : Option Nat) (bs : List Int) (p : Nat) (N V a b : Int) (h : Rr w g R bs p) (hbs : ∀ x ∈ bs, Byte x) (hR : ∀ k, R = some k → k < w.heap.size) (hg : rightX N a b = false) :
    Calls Tryd.prog 46 #[.pointer (some ⟨g, 0, none⟩), .agg #[.int .i64 N, .int .u64 V, .int .i64 a, .int .i64 b]] w fun e w' => e = .returned (.tuple #[.agg #[.int .i64 0, .int .u64 0, .int .i64 0, .int .i64 0], .int .u64 0, .int .i64 2]) ∧ RrS w' g R bs ∧ Touch g none w w' := by
  obtain ⟨S0, R0, H0⟩ := four_new w (.int .i64 N) (.int .u64 V) (.int .i64 a) (.int .i64 b) (.int .i64 0) (.int .u64 0) (.int .i64 0) (.int .i64 0) 53 53
  have hlt := h.lt
  have HBS := Lib.hid hbs
  have HR := Lib.hid hR
  have nR : R ≠ some (w.heap.size + 1) := fun e => by have := hR _ e; omega
  have NR := Lib.hid nR
  have nY : ∀ y, w.heap.size ≤ y → R ≠ some y := fun y hy e => by have := hR _ e; omega
  have NY := Lib.hid nY
  have hpl := h.place
  clear nR nY hR hbs
  clear hpl
  go_enter Tryd.func46, Tryd.ntmps46
  go_wp2_with fail
  refine (xrefRight_no N V a b _ hg).mono ?_
  rintro e w1 ⟨rfl, hB1⟩
  have H1 := below_more H0 hB1
  have R1 := R0.below hB1
  have D1 := h.below H1
  have K1 := Touch.of_below H1 g none
  obtain ⟨d0, d1, d2, d3⟩ := R1.cells4
  obtain ⟨e0, e1, e2, e3⟩ := R1.free4
  go_wp2_with fail
  obtain ⟨q0, q1, q2, q3⟩ := (R1.set4 (.int .i64 0) (.int .u64 0) (.int .i64 0) (.int .i64 0)).cells4
  refine bodyPost_ret (v := .tuple #[.agg #[.int .i64 0, .int .u64 0, .int .i64 0, .int .i64 0], .int .u64 0, .int .i64 2]) (by simp [results, Tryd.results46, go_sem, q0, q1, q2, q3]) rfl ⟨rfl, ⟨_, D1.set4 (by omega) NR.out _ _ _ _⟩, K1.set4 (by omega) _ _ _ _⟩

set_option maxRecDepth 100000 in
set_option maxHeartbeats 3200000 in
theorem xrGet_f0 (w : World) (g : Nat) (R : Option Nat) (bs : List Int) (p : Nat) (N : Int) (V a b : Nat) (h : Rr w g R bs p) (hbs : ∀ x ∈ bs, Byte x) (hR : ∀ k, R = some k → k < w.heap.size) (hg : rightX N a b = true) (hN : N = 0) (hl : ((unB bs).drop p).length < 64) :
    Calls Tryd.prog 46 #[.pointer (some ⟨g, 0, none⟩), .agg #[.int .i64 N, .int .u64 (V : Nat), .int .i64 (a : Nat), .int .i64 (b : Nat)]] w fun e w' => e = .returned (.tuple #[.agg #[.int .i64 0, .int .u64 0, .int .i64 0, .int .i64 0], .int .u64 0, .int .i64 50]) ∧ RrS w' g R bs ∧ Touch g none w w' := by
  obtain ⟨S0, R0, H0⟩ := four_new w (.int .i64 N) (.int .u64 (V : Nat)) (.int .i64 (a : Nat)) (.int .i64 (b : Nat)) (.int .i64 0) (.int .u64 0) (.int .i64 0) (.int .i64 0) 53 53
  have hlt := h.lt
  have HBS := Lib.hid hbs
  have HR := Lib.hid hR
  have nR : R ≠ some (w.heap.size + 1) := fun e => by have := hR _ e; omega
  have NR := Lib.hid nR
  have nY : ∀ y, w.heap.size ≤ y → R ≠ some y := fun y hy e => by have := hR _ e; omega
  have NY := Lib.hid nY
  have hpl := h.place
  clear nR nY hR hbs
  rw [rest_len] at hl
  subst hN
  have HG := Lib.hid hg
  clear hg
  go_enter Tryd.func46, Tryd.ntmps46
  go_wp2_with fail
  refine (xrefRight_yes _ V a b _ HG.out).mono ?_
  rintro e w1 ⟨rfl, hB1⟩
  have H1 := below_more H0 hB1
  have S1 := S0.below hB1
  have R1 := R0.below hB1
  have D1 := h.below H1
  have K1 := Touch.of_below H1 g none
  clear S0 R0 H0 hB1 H1
  obtain ⟨s0, s1, s2, s3⟩ := S1.cells4
  go_wp2_with fail
  refine (rgetI_no w1 g R bs p 64 D1 HBS.out (by omega) (by omega) (by have : (64 : Int).toNat = 64 := rfl; omega)).mono ?_
  rintro e w2 ⟨rfl, D2, T2⟩
  have R2 := R1.touch T2 (by omega) (by simp)
  have K2 := K1.trans T2 (.inl rfl)
  clear s0 s1 s2 s3
  obtain ⟨d0, d1, d2, d3⟩ := R2.cells4
  obtain ⟨e0, e1, e2, e3⟩ := R2.free4
  go_wp2_with fail
  obtain ⟨q0, q1, q2, q3⟩ := (R2.set4 (.int .i64 0) (.int .u64 0) (.int .i64 0) (.int .i64 0)).cells4
  refine bodyPost_ret (v := .tuple #[.agg #[.int .i64 0, .int .u64 0, .int .i64 0, .int .i64 0], .int .u64 0, .int .i64 50]) (by simp [results, Tryd.results46, go_sem, q0, q1, q2, q3]) rfl ⟨rfl, ⟨_, D2.set4 (by omega) NR.out _ _ _ _⟩, K2.set4 (by omega) _ _ _ _⟩

set_option maxRecDepth 100000 in
set_option maxHeartbeats 3200000 in
theorem xrGet_f1 (w : World) (g : Nat) (R : Option Nat) (bs : List Int) (p : Nat) (N : Int) (V a b : Nat) (v : Nat) (h : Rr w g R bs p) (hbs : ∀ x ∈ bs, Byte x) (hR : ∀ k, R = some k → k < w.heap.size) (hg : rightX N a b = true) (hN : N = 0) (hl : 64 ≤ ((unB bs).drop p).length) (hv : val (((unB bs).drop p).take 64) = v) :
    Calls Tryd.prog 46 #[.pointer (some ⟨g, 0, none⟩), .agg #[.int .i64 N, .int .u64 (V : Nat), .int .i64 (a : Nat), .int .i64 (b : Nat)]] w fun e w' => e = .returned (.tuple #[.agg #[.int .i64 (N + 1), .int .u64 (v : Nat), .int .i64 (a : Nat), .int .i64 (b : Nat)], .int .u64 (v : Nat), .int .i64 0]) ∧ Rr w' g R bs (p + 64) ∧ Touch g none w w' := by
  obtain ⟨S0, R0, H0⟩ := four_new w (.int .i64 N) (.int .u64 (V : Nat)) (.int .i64 (a : Nat)) (.int .i64 (b : Nat)) (.int .i64 0) (.int .u64 0) (.int .i64 0) (.int .i64 0) 53 53
  have hlt := h.lt
  have HBS := Lib.hid hbs
  have HR := Lib.hid hR
  have nR : R ≠ some (w.heap.size + 1) := fun e => by have := hR _ e; omega
  have NR := Lib.hid nR
  have nY : ∀ y, w.heap.size ≤ y → R ≠ some y := fun y hy e => by have := hR _ e; omega
  have NY := Lib.hid nY
  have hpl := h.place
  clear nR nY hR hbs
  rw [rest_len] at hl
  subst hN
  have HV := Lib.hid hv
  clear hv
  have HG := Lib.hid hg
  clear hg
  go_enter Tryd.func46, Tryd.ntmps46
  go_wp2_with fail
  refine (xrefRight_yes _ V a b _ HG.out).mono ?_
  rintro e w1 ⟨rfl, hB1⟩
  have H1 := below_more H0 hB1
  have S1 := S0.below hB1
  have R1 := R0.below hB1
  have D1 := h.below H1
  have K1 := Touch.of_below H1 g none
  clear S0 R0 H0 hB1 H1
  obtain ⟨s0, s1, s2, s3⟩ := S1.cells4
  go_wp2_with fail
  refine (rgetI_ok w1 g R bs p 64 D1 HBS.out (by omega) (by omega) (by have : (64 : Int).toNat = 64 := rfl; omega)).mono ?_
  rw [show (64 : Int).toNat = 64 from rfl, HV.out]
  rintro e w2 ⟨rfl, D2, T2⟩
  have S2 := S1.touch T2 (by omega) (by simp)
  have R2 := R1.touch T2 (by omega) (by simp)
  have K2 := K1.trans T2 (.inl rfl)
  clear s0 s1 s2 s3 S1 R1 D1 K1 T2
  obtain ⟨s0, s1, s2, s3⟩ := S2.cells4
  obtain ⟨d0, d1, d2, d3⟩ := R2.cells4
  obtain ⟨e0, e1, e2, e3⟩ := R2.free4
  go_wp2_with fail
  obtain ⟨q0, q1, q2, q3⟩ := (R2.set4 (.int .i64 1) (.int .u64 (v : Nat)) (.int .i64 (a : Nat)) (.int .i64 (b : Nat))).cells4
  refine bodyPost_ret (v := .tuple #[.agg #[.int .i64 1, .int .u64 (v : Nat), .int .i64 (a : Nat), .int .i64 (b : Nat)], .int .u64 (v : Nat), .int .i64 0]) (by simp [results, Tryd.results46, go_sem, q0, q1, q2, q3]) rfl ⟨rfl, D2.set4 (by omega) NR.out _ _ _ _, K2.set4 (by omega) _ _ _ _⟩

set_option maxRecDepth 100000 in
set_option maxHeartbeats 3200000 in
theorem xrGet_a (w : World) (g : Nat) (R : Option Nat) (bs : List Int) (p : Nat) (N : Int) (V a b : Nat) (h : Rr w g R bs p) (hbs : ∀ x ∈ bs, Byte x) (hR : ∀ k, R = some k → k < w.heap.size) (hg : rightX N a b = true) (hN : N ≠ 0) (hl : 1 ≤ ((unB bs).drop p).length) (hV : val (((unB bs).drop p).take 1) = 0) :
    Calls Tryd.prog 46 #[.pointer (some ⟨g, 0, none⟩), .agg #[.int .i64 N, .int .u64 (V : Nat), .int .i64 (a : Nat), .int .i64 (b : Nat)]] w fun e w' => e = .returned (.tuple #[.agg #[.int .i64 (N + 1), .int .u64 (V : Nat), .int .i64 (a : Nat), .int .i64 (b : Nat)], .int .u64 (V : Nat), .int .i64 0]) ∧ Rr w' g R bs (p + 1) ∧ Touch g none w w' := by
  obtain ⟨S0, R0, H0⟩ := four_new w (.int .i64 N) (.int .u64 (V : Nat)) (.int .i64 (a : Nat)) (.int .i64 (b : Nat)) (.int .i64 0) (.int .u64 0) (.int .i64 0) (.int .i64 0) 53 53
  have hlt := h.lt
  have HBS := Lib.hid hbs
  have HR := Lib.hid hR
  have nR : R ≠ some (w.heap.size + 1) := fun e => by have := hR _ e; omega
  have NR := Lib.hid nR
  have nY : ∀ y, w.heap.size ≤ y → R ≠ some y := fun y hy e => by have := hR _ e; omega
  have NY := Lib.hid nY
  have hpl := h.place
  clear nR nY hR hbs
  rw [rest_len] at hl
  have HV := Lib.hid hV
  clear hV
  have hNb : (N == 0) = false := beq_eq_false_iff_ne.2 hN
  obtain ⟨n1, n2, n3⟩ := rightX_of hg
  have hab : a = 64 ∧ b = 0 ∨ a + b ≤ 63 := by omega
  have HAB := Lib.hid hab
  have wN : IntKind.i64.wrap (N + 1) = N + 1 := by rw [IntKind.wrap_i64]; omega
  clear hN n3 hab
  have HG := Lib.hid hg
  clear hg
  go_enter Tryd.func46, Tryd.ntmps46
  go_wp2_with fail
  refine (xrefRight_yes _ V a b _ HG.out).mono ?_
  rintro e w1 ⟨rfl, hB1⟩
  have H1 := below_more H0 hB1
  have S1 := S0.below hB1
  have R1 := R0.below hB1
  have D1 := h.below H1
  have K1 := Touch.of_below H1 g none
  clear S0 R0 H0 hB1 H1
  obtain ⟨s0, s1, s2, s3⟩ := S1.cells4
  have A2 : Below w1.heap.size w1 (w1.alloc (.cells #[.int .i64 (N + 1), .int .u64 (V : Nat), .int .i64 (a : Nat), .int .i64 (b : Nat)] 53)) := (Below.refl _ w1).alloc (Nat.le_refl _) _
  have Y2 := Blk.new w1 53 #[.int .i64 (N + 1), .int .u64 (V : Nat), .int .i64 (a : Nat), .int .i64 (b : Nat)]
  have S2 := S1.below A2
  have R2 := R1.below A2
  have D2 := D1.below A2
  have K2 := K1.trans (Touch.of_below A2 g none) (.inl rfl)
  have hz1 := R1.lt
  go_wp2_with fail
  obtain ⟨y, hy⟩ : ∃ y, w1.heap.size = y := ⟨_, rfl⟩
  rw [hy] at Y2 hz1 ⊢
  generalize w1.alloc (.cells #[.int .i64 (N + 1), .int .u64 (V : Nat), .int .i64 (a : Nat), .int .i64 (b : Nat)] 53) = w2 at *
  clear A2 hy s0 s1 s2 s3 S1 R1 D1 K1 wN
  have hyg : g ≠ y := by omega
  have hyr : y ≠ w.heap.size := by omega
  have hyr1 : y ≠ w.heap.size + 1 := by omega
  have hys : w.heap.size + 1 < y := hz1
  refine (rgetI_ok w2 g R bs (p) 1 D2 HBS.out (by omega) (by omega) (by have : (1 : Int).toNat = 1 := rfl; omega)).mono ?_
  rw [show (1 : Int).toNat = 1 from rfl, HV.out]
  rintro e w3 ⟨rfl, D3, T3⟩
  have S3 := S2.touch T3 (by omega) (by simp)
  have R3 := R2.touch T3 (by omega) (by simp)
  have Y3 := Y2.touch T3 (by omega) (by simp)
  have K3 := K2.trans T3 (.inl rfl)
  clear S2 R2 Y2 D2 K2 T3
  go_wp2_with fail
  refine wp_region_noPanic ?_
  refine wp_region_held_drew (S := fun W : World => W.cell? ⟨y, 0, none⟩ = some (.int .i64 (N + 1)) ∧ W.cell? ⟨y, 1, none⟩ = some (.int .u64 (V : Nat)) ∧ W.cell? ⟨y, 2, none⟩ = some (.int .i64 (a : Nat)) ∧ W.cell? ⟨y, 3, none⟩ = some (.int .i64 (b : Nat))) (by kernel_rfl) ((Y3.drewN 1).cells4) (fun hSt => ?_)
  have Ra : Blk w3.drew (w.heap.size + 1) 53 _ := R3
  have Ya : Blk w3.drew y 53 #[.int .i64 (N + 1), .int .u64 (V : Nat), .int .i64 (a : Nat), .int .i64 (b : Nat)] := Y3
  have Da : Rr w3.drew g R bs _ := D3
  have Ka : Touch g none w w3.drew := K3.drewN 1
  clear R3 Y3 D3 K3
  generalize w3.drew = wa at *
  refine wpAnyH_picks [0, 1, 2] 3 (by rfl) (by kernel_rfl) (by kernel_rfl) (by kernel_rfl) (fun _ _ _ _ _ h => h) (by assumption) ?_
  simp only [picks, List.drop_succ_cons, List.drop_zero, List.take_succ_cons, List.take_zero, List.cons_append, List.nil_append]
  repeat (first
    | (refine wpY_skip (by rfl) ?_; simp only [Act.put, List.setIfInBounds_toArray, List.set_cons_zero, List.set_cons_succ])
    | (refine wpY_want (v := ?_) (by rfl) (fun W hW => ?_) ?_; rotate_left; (obtain ⟨hW0, hW1, hW2, hW3⟩ := hW; go_simp; try with_reducible rfl); simp only [Act.put, List.setIfInBounds_toArray, List.set_cons_zero, List.set_cons_succ]))
  refine wpY_nil ?_
  obtain ⟨d0, d1, d2, d3⟩ := Ra.cells4
  obtain ⟨e0, e1, e2, e3⟩ := Ra.free4
  refine wpAnyH_one 3 2 (by rfl) (by rfl) (by kernel_rfl) (fun K hK => ?_)
  go_simp
  refine hK.out _ _ ((Ya.farSet4 (g' := w.heap.size + 1) (by omega) _ _ _ _).cells4) (fun hSt => ?_)
  clear hK K
  try simp only [Act.put, List.setIfInBounds_toArray, List.set_cons_zero, List.set_cons_succ]
  refine wpAnyH_picks [4, 5] 0 (by rfl) (by kernel_rfl) (by kernel_rfl) (by kernel_rfl) (fun _ _ _ _ _ h => h) (by assumption) ?_
  simp only [picks, List.drop_succ_cons, List.drop_zero, List.take_succ_cons, List.take_zero, List.cons_append, List.nil_append]
  repeat (first
    | (refine wpY_skip (by rfl) ?_; simp only [Act.put, List.setIfInBounds_toArray, List.set_cons_zero, List.set_cons_succ])
    | (refine wpY_want (v := ?_) (by rfl) (fun W hW => ?_) ?_; rotate_left; (go_simp; try with_reducible rfl); simp only [Act.put, List.setIfInBounds_toArray, List.set_cons_zero, List.set_cons_succ]))
  refine wpY_nil ?_
  refine wpAnyH_done (by kernel_rfl) ?_ _
  refine NoPanic.normal ?_
  go_wp2_with fail
  obtain ⟨q0, q1, q2, q3⟩ := (Ra.set4 (.int .i64 (N + 1)) (.int .u64 (V : Nat)) (.int .i64 (a : Nat)) (.int .i64 (b : Nat))).cells4
  refine bodyPost_ret (v := .tuple #[.agg #[.int .i64 (N + 1), .int .u64 (V : Nat), .int .i64 (a : Nat), .int .i64 (b : Nat)], .int .u64 (V : Nat), .int .i64 0]) (by simp [results, Tryd.results46, go_sem, q0, q1, q2, q3]) rfl ⟨rfl, Da.set4 (by omega) NR.out _ _ _ _, Ka.set4 (by omega) _ _ _ _⟩

set_option maxRecDepth 100000 in
set_option maxHeartbeats 3200000 in
theorem xrGet_c0 (w : World) (g : Nat) (R : Option Nat) (bs : List Int) (p : Nat) (N : Int) (V a b : Nat) (h : Rr w g R bs p) (hbs : ∀ x ∈ bs, Byte x) (hR : ∀ k, R = some k → k < w.heap.size) (hg : rightX N a b = true) (hN : N ≠ 0) (hl : ((unB bs).drop p).length < 1) :
    Calls Tryd.prog 46 #[.pointer (some ⟨g, 0, none⟩), .agg #[.int .i64 N, .int .u64 (V : Nat), .int .i64 (a : Nat), .int .i64 (b : Nat)]] w fun e w' => e = .returned (.tuple #[.agg #[.int .i64 0, .int .u64 0, .int .i64 0, .int .i64 0], .int .u64 0, .int .i64 50]) ∧ RrS w' g R bs ∧ Touch g none w w' := by
  obtain ⟨S0, R0, H0⟩ := four_new w (.int .i64 N) (.int .u64 (V : Nat)) (.int .i64 (a : Nat)) (.int .i64 (b : Nat)) (.int .i64 0) (.int .u64 0) (.int .i64 0) (.int .i64 0) 53 53
  have hlt := h.lt
  have HBS := Lib.hid hbs
  have HR := Lib.hid hR
  have nR : R ≠ some (w.heap.size + 1) := fun e => by have := hR _ e; omega
  have NR := Lib.hid nR
  have nY : ∀ y, w.heap.size ≤ y → R ≠ some y := fun y hy e => by have := hR _ e; omega
  have NY := Lib.hid nY
  have hpl := h.place
  clear nR nY hR hbs
  rw [rest_len] at hl
  have hNb : (N == 0) = false := beq_eq_false_iff_ne.2 hN
  obtain ⟨n1, n2, n3⟩ := rightX_of hg
  have hab : a = 64 ∧ b = 0 ∨ a + b ≤ 63 := by omega
  have HAB := Lib.hid hab
  have wN : IntKind.i64.wrap (N + 1) = N + 1 := by rw [IntKind.wrap_i64]; omega
  clear hN n3 hab
  have HG := Lib.hid hg
  clear hg
  go_enter Tryd.func46, Tryd.ntmps46
  go_wp2_with fail
  refine (xrefRight_yes _ V a b _ HG.out).mono ?_
  rintro e w1 ⟨rfl, hB1⟩
  have H1 := below_more H0 hB1
  have S1 := S0.below hB1
  have R1 := R0.below hB1
  have D1 := h.below H1
  have K1 := Touch.of_below H1 g none
  clear S0 R0 H0 hB1 H1
  obtain ⟨s0, s1, s2, s3⟩ := S1.cells4
  have A2 : Below w1.heap.size w1 (w1.alloc (.cells #[.int .i64 (N + 1), .int .u64 (V : Nat), .int .i64 (a : Nat), .int .i64 (b : Nat)] 53)) := (Below.refl _ w1).alloc (Nat.le_refl _) _
  have Y2 := Blk.new w1 53 #[.int .i64 (N + 1), .int .u64 (V : Nat), .int .i64 (a : Nat), .int .i64 (b : Nat)]
  have S2 := S1.below A2
  have R2 := R1.below A2
  have D2 := D1.below A2
  have K2 := K1.trans (Touch.of_below A2 g none) (.inl rfl)
  have hz1 := R1.lt
  go_wp2_with fail
  obtain ⟨y, hy⟩ : ∃ y, w1.heap.size = y := ⟨_, rfl⟩
  rw [hy] at Y2 hz1 ⊢
  generalize w1.alloc (.cells #[.int .i64 (N + 1), .int .u64 (V : Nat), .int .i64 (a : Nat), .int .i64 (b : Nat)] 53) = w2 at *
  clear A2 hy s0 s1 s2 s3 S1 R1 D1 K1 wN
  have hyg : g ≠ y := by omega
  have hyr : y ≠ w.heap.size := by omega
  have hyr1 : y ≠ w.heap.size + 1 := by omega
  have hys : w.heap.size + 1 < y := hz1
  refine (rgetI_no w2 g R bs (p) 1 D2 HBS.out (by omega) (by omega) (by have : (1 : Int).toNat = 1 := rfl; omega)).mono ?_
  rintro e w3 ⟨rfl, D3, T3⟩
  have S3 := S2.touch T3 (by omega) (by simp)
  have R3 := R2.touch T3 (by omega) (by simp)
  have Y3 := Y2.touch T3 (by omega) (by simp)
  have K3 := K2.trans T3 (.inl rfl)
  clear S2 R2 Y2 D2 K2 T3
  obtain ⟨d0, d1, d2, d3⟩ := R3.cells4
  obtain ⟨e0, e1, e2, e3⟩ := R3.free4
  go_wp2_with fail
  obtain ⟨q0, q1, q2, q3⟩ := (R3.set4 (.int .i64 0) (.int .u64 0) (.int .i64 0) (.int .i64 0)).cells4
  refine bodyPost_ret (v := .tuple #[.agg #[.int .i64 0, .int .u64 0, .int .i64 0, .int .i64 0], .int .u64 0, .int .i64 50]) (by simp [results, Tryd.results46, go_sem, q0, q1, q2, q3]) rfl ⟨rfl, ⟨_, D3.set4 (by omega) NR.out _ _ _ _⟩, K3.set4 (by omega) _ _ _ _⟩

set_option maxRecDepth 100000 in
set_option maxHeartbeats 3200000 in
theorem xrGet_c1 (w : World) (g : Nat) (R : Option Nat) (bs : List Int) (p : Nat) (N : Int) (V a b : Nat) (h : Rr w g R bs p) (hbs : ∀ x ∈ bs, Byte x) (hR : ∀ k, R = some k → k < w.heap.size) (hg : rightX N a b = true) (hN : N ≠ 0) (hl : 1 ≤ ((unB bs).drop p).length) (hl2 : ((unB bs).drop p).length < 2) (hV : val (((unB bs).drop p).take 1) = 1) :
    Calls Tryd.prog 46 #[.pointer (some ⟨g, 0, none⟩), .agg #[.int .i64 N, .int .u64 (V : Nat), .int .i64 (a : Nat), .int .i64 (b : Nat)]] w fun e w' => e = .returned (.tuple #[.agg #[.int .i64 0, .int .u64 0, .int .i64 0, .int .i64 0], .int .u64 0, .int .i64 50]) ∧ RrS w' g R bs ∧ Touch g none w w' := by
  obtain ⟨S0, R0, H0⟩ := four_new w (.int .i64 N) (.int .u64 (V : Nat)) (.int .i64 (a : Nat)) (.int .i64 (b : Nat)) (.int .i64 0) (.int .u64 0) (.int .i64 0) (.int .i64 0) 53 53
  have hlt := h.lt
  have HBS := Lib.hid hbs
  have HR := Lib.hid hR
  have nR : R ≠ some (w.heap.size + 1) := fun e => by have := hR _ e; omega
  have NR := Lib.hid nR
  have nY : ∀ y, w.heap.size ≤ y → R ≠ some y := fun y hy e => by have := hR _ e; omega
  have NY := Lib.hid nY
  have hpl := h.place
  clear nR nY hR hbs
  rw [rest_len] at hl2
  rw [rest_len] at hl
  have HV := Lib.hid hV
  clear hV
  have hNb : (N == 0) = false := beq_eq_false_iff_ne.2 hN
  obtain ⟨n1, n2, n3⟩ := rightX_of hg
  have hab : a = 64 ∧ b = 0 ∨ a + b ≤ 63 := by omega
  have HAB := Lib.hid hab
  have wN : IntKind.i64.wrap (N + 1) = N + 1 := by rw [IntKind.wrap_i64]; omega
  clear hN n3 hab
  have HG := Lib.hid hg
  clear hg
  go_enter Tryd.func46, Tryd.ntmps46
  go_wp2_with fail
  refine (xrefRight_yes _ V a b _ HG.out).mono ?_
  rintro e w1 ⟨rfl, hB1⟩
  have H1 := below_more H0 hB1
  have S1 := S0.below hB1
  have R1 := R0.below hB1
  have D1 := h.below H1
  have K1 := Touch.of_below H1 g none
  clear S0 R0 H0 hB1 H1
  obtain ⟨s0, s1, s2, s3⟩ := S1.cells4
  have A2 : Below w1.heap.size w1 (w1.alloc (.cells #[.int .i64 (N + 1), .int .u64 (V : Nat), .int .i64 (a : Nat), .int .i64 (b : Nat)] 53)) := (Below.refl _ w1).alloc (Nat.le_refl _) _
  have Y2 := Blk.new w1 53 #[.int .i64 (N + 1), .int .u64 (V : Nat), .int .i64 (a : Nat), .int .i64 (b : Nat)]
  have S2 := S1.below A2
  have R2 := R1.below A2
  have D2 := D1.below A2
  have K2 := K1.trans (Touch.of_below A2 g none) (.inl rfl)
  have hz1 := R1.lt
  go_wp2_with fail
  obtain ⟨y, hy⟩ : ∃ y, w1.heap.size = y := ⟨_, rfl⟩
  rw [hy] at Y2 hz1 ⊢
  generalize w1.alloc (.cells #[.int .i64 (N + 1), .int .u64 (V : Nat), .int .i64 (a : Nat), .int .i64 (b : Nat)] 53) = w2 at *
  clear A2 hy s0 s1 s2 s3 S1 R1 D1 K1 wN
  have hyg : g ≠ y := by omega
  have hyr : y ≠ w.heap.size := by omega
  have hyr1 : y ≠ w.heap.size + 1 := by omega
  have hys : w.heap.size + 1 < y := hz1
  refine (rgetI_ok w2 g R bs (p) 1 D2 HBS.out (by omega) (by omega) (by have : (1 : Int).toNat = 1 := rfl; omega)).mono ?_
  rw [show (1 : Int).toNat = 1 from rfl, HV.out]
  rintro e w3 ⟨rfl, D3, T3⟩
  have S3 := S2.touch T3 (by omega) (by simp)
  have R3 := R2.touch T3 (by omega) (by simp)
  have Y3 := Y2.touch T3 (by omega) (by simp)
  have K3 := K2.trans T3 (.inl rfl)
  clear S2 R2 Y2 D2 K2 T3
  go_wp2_with fail
  refine (rgetI_no w3 g R bs (p + 1) 1 D3 HBS.out (by omega) (by omega) (by have : (1 : Int).toNat = 1 := rfl; omega)).mono ?_
  rintro e w4 ⟨rfl, D4, T4⟩
  have S4 := S3.touch T4 (by omega) (by simp)
  have R4 := R3.touch T4 (by omega) (by simp)
  have Y4 := Y3.touch T4 (by omega) (by simp)
  have K4 := K3.trans T4 (.inl rfl)
  clear S3 R3 Y3 D3 K3 T4
  obtain ⟨d0, d1, d2, d3⟩ := R4.cells4
  obtain ⟨e0, e1, e2, e3⟩ := R4.free4
  go_wp2_with fail
  obtain ⟨q0, q1, q2, q3⟩ := (R4.set4 (.int .i64 0) (.int .u64 0) (.int .i64 0) (.int .i64 0)).cells4
  refine bodyPost_ret (v := .tuple #[.agg #[.int .i64 0, .int .u64 0, .int .i64 0, .int .i64 0], .int .u64 0, .int .i64 50]) (by simp [results, Tryd.results46, go_sem, q0, q1, q2, q3]) rfl ⟨rfl, ⟨_, D4.set4 (by omega) NR.out _ _ _ _⟩, K4.set4 (by omega) _ _ _ _⟩

set_option maxRecDepth 100000 in
set_option maxHeartbeats 3200000 in
theorem xrGet_c2 (w : World) (g : Nat) (R : Option Nat) (bs : List Int) (p : Nat) (N : Int) (V a b : Nat) (h : Rr w g R bs p) (hbs : ∀ x ∈ bs, Byte x) (hR : ∀ k, R = some k → k < w.heap.size) (hg : rightX N a b = true) (hN : N ≠ 0) (hl : 2 ≤ ((unB bs).drop p).length) (hV : val (((unB bs).drop p).take 1) = 1) (hU : val ((((unB bs).drop p).drop 1).take 1) = 0) (ha : a = 64) :
    Calls Tryd.prog 46 #[.pointer (some ⟨g, 0, none⟩), .agg #[.int .i64 N, .int .u64 (V : Nat), .int .i64 (a : Nat), .int .i64 (b : Nat)]] w fun e w' => e = .returned (.tuple #[.agg #[.int .i64 0, .int .u64 0, .int .i64 0, .int .i64 0], .int .u64 0, .int .i64 50]) ∧ RrS w' g R bs ∧ Touch g none w w' := by
  obtain ⟨S0, R0, H0⟩ := four_new w (.int .i64 N) (.int .u64 (V : Nat)) (.int .i64 (a : Nat)) (.int .i64 (b : Nat)) (.int .i64 0) (.int .u64 0) (.int .i64 0) (.int .i64 0) 53 53
  have hlt := h.lt
  have HBS := Lib.hid hbs
  have HR := Lib.hid hR
  have nR : R ≠ some (w.heap.size + 1) := fun e => by have := hR _ e; omega
  have NR := Lib.hid nR
  have nY : ∀ y, w.heap.size ≤ y → R ≠ some y := fun y hy e => by have := hR _ e; omega
  have NY := Lib.hid nY
  have hpl := h.place
  clear nR nY hR hbs
  rw [rest_len] at hl
  have HV := Lib.hid hV
  clear hV
  rw [List.drop_drop] at hU
  have HU := Lib.hid hU
  clear hU
  have e64 : ((a : Int) == 64) = true ∧ (a == 64) = true := ⟨by simp [ha], by simp [ha]⟩
  obtain ⟨e64, e64'⟩ := e64
  clear ha
  have hNb : (N == 0) = false := beq_eq_false_iff_ne.2 hN
  obtain ⟨n1, n2, n3⟩ := rightX_of hg
  have hab : a = 64 ∧ b = 0 ∨ a + b ≤ 63 := by omega
  have HAB := Lib.hid hab
  have wN : IntKind.i64.wrap (N + 1) = N + 1 := by rw [IntKind.wrap_i64]; omega
  clear hN n3 hab
  have HG := Lib.hid hg
  clear hg
  go_enter Tryd.func46, Tryd.ntmps46
  go_wp2_with fail
  refine (xrefRight_yes _ V a b _ HG.out).mono ?_
  rintro e w1 ⟨rfl, hB1⟩
  have H1 := below_more H0 hB1
  have S1 := S0.below hB1
  have R1 := R0.below hB1
  have D1 := h.below H1
  have K1 := Touch.of_below H1 g none
  clear S0 R0 H0 hB1 H1
  obtain ⟨s0, s1, s2, s3⟩ := S1.cells4
  have A2 : Below w1.heap.size w1 (w1.alloc (.cells #[.int .i64 (N + 1), .int .u64 (V : Nat), .int .i64 (a : Nat), .int .i64 (b : Nat)] 53)) := (Below.refl _ w1).alloc (Nat.le_refl _) _
  have Y2 := Blk.new w1 53 #[.int .i64 (N + 1), .int .u64 (V : Nat), .int .i64 (a : Nat), .int .i64 (b : Nat)]
  have S2 := S1.below A2
  have R2 := R1.below A2
  have D2 := D1.below A2
  have K2 := K1.trans (Touch.of_below A2 g none) (.inl rfl)
  have hz1 := R1.lt
  go_wp2_with fail
  obtain ⟨y, hy⟩ : ∃ y, w1.heap.size = y := ⟨_, rfl⟩
  rw [hy] at Y2 hz1 ⊢
  generalize w1.alloc (.cells #[.int .i64 (N + 1), .int .u64 (V : Nat), .int .i64 (a : Nat), .int .i64 (b : Nat)] 53) = w2 at *
  clear A2 hy s0 s1 s2 s3 S1 R1 D1 K1 wN
  have hyg : g ≠ y := by omega
  have hyr : y ≠ w.heap.size := by omega
  have hyr1 : y ≠ w.heap.size + 1 := by omega
  have hys : w.heap.size + 1 < y := hz1
  refine (rgetI_ok w2 g R bs (p) 1 D2 HBS.out (by omega) (by omega) (by have : (1 : Int).toNat = 1 := rfl; omega)).mono ?_
  rw [show (1 : Int).toNat = 1 from rfl, HV.out]
  rintro e w3 ⟨rfl, D3, T3⟩
  have S3 := S2.touch T3 (by omega) (by simp)
  have R3 := R2.touch T3 (by omega) (by simp)
  have Y3 := Y2.touch T3 (by omega) (by simp)
  have K3 := K2.trans T3 (.inl rfl)
  clear S2 R2 Y2 D2 K2 T3
  go_wp2_with fail
  refine (rgetI_ok w3 g R bs (p + 1) 1 D3 HBS.out (by omega) (by omega) (by have : (1 : Int).toNat = 1 := rfl; omega)).mono ?_
  rw [show (1 : Int).toNat = 1 from rfl, HU.out]
  rintro e w4 ⟨rfl, D4, T4⟩
  have S4 := S3.touch T4 (by omega) (by simp)
  have R4 := R3.touch T4 (by omega) (by simp)
  have Y4 := Y3.touch T4 (by omega) (by simp)
  have K4 := K3.trans T4 (.inl rfl)
  clear S3 R3 Y3 D3 K3 T4
  obtain ⟨s0, s1, s2, s3⟩ := S4.cells4
  obtain ⟨d0, d1, d2, d3⟩ := R4.cells4
  obtain ⟨e0, e1, e2, e3⟩ := R4.free4
  go_wp2_with fail
  obtain ⟨q0, q1, q2, q3⟩ := (R4.set4 (.int .i64 0) (.int .u64 0) (.int .i64 0) (.int .i64 0)).cells4
  refine bodyPost_ret (v := .tuple #[.agg #[.int .i64 0, .int .u64 0, .int .i64 0, .int .i64 0], .int .u64 0, .int .i64 50]) (by simp [results, Tryd.results46, go_sem, q0, q1, q2, q3]) rfl ⟨rfl, ⟨_, D4.set4 (by omega) NR.out _ _ _ _⟩, K4.set4 (by omega) _ _ _ _⟩

set_option maxRecDepth 100000 in
set_option maxHeartbeats 3200000 in
theorem xrGet_c3 (w : World) (g : Nat) (R : Option Nat) (bs : List Int) (p : Nat) (N : Int) (V a b : Nat) (h : Rr w g R bs p) (hbs : ∀ x ∈ bs, Byte x) (hR : ∀ k, R = some k → k < w.heap.size) (hg : rightX N a b = true) (hN : N ≠ 0) (hl : 2 ≤ ((unB bs).drop p).length) (hV : val (((unB bs).drop p).take 1) = 1) (hU : val ((((unB bs).drop p).drop 1).take 1) = 0) (ha : a ≠ 64) (hab : a + b ≤ 63) (hs : ((unB bs).drop (p + 2)).length < 64 - a - b) :
    Calls Tryd.prog 46 #[.pointer (some ⟨g, 0, none⟩), .agg #[.int .i64 N, .int .u64 (V : Nat), .int .i64 (a : Nat), .int .i64 (b : Nat)]] w fun e w' => e = .returned (.tuple #[.agg #[.int .i64 0, .int .u64 0, .int .i64 0, .int .i64 0], .int .u64 0, .int .i64 50]) ∧ RrS w' g R bs ∧ Touch g none w w' := by
  obtain ⟨S0, R0, H0⟩ := four_new w (.int .i64 N) (.int .u64 (V : Nat)) (.int .i64 (a : Nat)) (.int .i64 (b : Nat)) (.int .i64 0) (.int .u64 0) (.int .i64 0) (.int .i64 0) 53 53
  have hlt := h.lt
  have HBS := Lib.hid hbs
  have HR := Lib.hid hR
  have nR : R ≠ some (w.heap.size + 1) := fun e => by have := hR _ e; omega
  have NR := Lib.hid nR
  have nY : ∀ y, w.heap.size ≤ y → R ≠ some y := fun y hy e => by have := hR _ e; omega
  have NY := Lib.hid nY
  have hpl := h.place
  clear nR nY hR hbs
  rw [rest_len] at hl
  have HV := Lib.hid hV
  clear hV
  rw [List.drop_drop] at hU
  have HU := Lib.hid hU
  clear hU
  have e64 : ((a : Int) == 64) = false ∧ (a == 64) = false := ⟨beq_eq_false_iff_ne.2 (by omega), beq_eq_false_iff_ne.2 ha⟩
  obtain ⟨e64, e64'⟩ := e64
  clear ha
  obtain ⟨m, hm⟩ : ∃ m : Nat, 64 - a - b = m := ⟨_, rfl⟩
  have wl1 : IntKind.i64.wrap (64 - (a : Int)) = 64 - (a : Int) := i64_id (by omega) (by omega)
  have wl2 : IntKind.i64.wrap (64 - (a : Int) - (b : Int)) = (m : Nat) := (i64_id (by omega) (by omega)).trans (by omega)
  have hm64 : m ≤ 64 := by omega
  rw [hm, rest_len] at hs
  clear hm
  have hNb : (N == 0) = false := beq_eq_false_iff_ne.2 hN
  obtain ⟨n1, n2, n3⟩ := rightX_of hg
  have hab : a = 64 ∧ b = 0 ∨ a + b ≤ 63 := by omega
  have HAB := Lib.hid hab
  have wN : IntKind.i64.wrap (N + 1) = N + 1 := by rw [IntKind.wrap_i64]; omega
  clear hN n3 hab
  have HG := Lib.hid hg
  clear hg
  go_enter Tryd.func46, Tryd.ntmps46
  go_wp2_with fail
  refine (xrefRight_yes _ V a b _ HG.out).mono ?_
  rintro e w1 ⟨rfl, hB1⟩
  have H1 := below_more H0 hB1
  have S1 := S0.below hB1
  have R1 := R0.below hB1
  have D1 := h.below H1
  have K1 := Touch.of_below H1 g none
  clear S0 R0 H0 hB1 H1
  obtain ⟨s0, s1, s2, s3⟩ := S1.cells4
  have A2 : Below w1.heap.size w1 (w1.alloc (.cells #[.int .i64 (N + 1), .int .u64 (V : Nat), .int .i64 (a : Nat), .int .i64 (b : Nat)] 53)) := (Below.refl _ w1).alloc (Nat.le_refl _) _
  have Y2 := Blk.new w1 53 #[.int .i64 (N + 1), .int .u64 (V : Nat), .int .i64 (a : Nat), .int .i64 (b : Nat)]
  have S2 := S1.below A2
  have R2 := R1.below A2
  have D2 := D1.below A2
  have K2 := K1.trans (Touch.of_below A2 g none) (.inl rfl)
  have hz1 := R1.lt
  go_wp2_with fail
  obtain ⟨y, hy⟩ : ∃ y, w1.heap.size = y := ⟨_, rfl⟩
  rw [hy] at Y2 hz1 ⊢
  generalize w1.alloc (.cells #[.int .i64 (N + 1), .int .u64 (V : Nat), .int .i64 (a : Nat), .int .i64 (b : Nat)] 53) = w2 at *
  clear A2 hy s0 s1 s2 s3 S1 R1 D1 K1 wN
  have hyg : g ≠ y := by omega
  have hyr : y ≠ w.heap.size := by omega
  have hyr1 : y ≠ w.heap.size + 1 := by omega
  have hys : w.heap.size + 1 < y := hz1
  refine (rgetI_ok w2 g R bs (p) 1 D2 HBS.out (by omega) (by omega) (by have : (1 : Int).toNat = 1 := rfl; omega)).mono ?_
  rw [show (1 : Int).toNat = 1 from rfl, HV.out]
  rintro e w3 ⟨rfl, D3, T3⟩
  have S3 := S2.touch T3 (by omega) (by simp)
  have R3 := R2.touch T3 (by omega) (by simp)
  have Y3 := Y2.touch T3 (by omega) (by simp)
  have K3 := K2.trans T3 (.inl rfl)
  clear S2 R2 Y2 D2 K2 T3
  go_wp2_with fail
  refine (rgetI_ok w3 g R bs (p + 1) 1 D3 HBS.out (by omega) (by omega) (by have : (1 : Int).toNat = 1 := rfl; omega)).mono ?_
  rw [show (1 : Int).toNat = 1 from rfl, HU.out]
  rintro e w4 ⟨rfl, D4, T4⟩
  have S4 := S3.touch T4 (by omega) (by simp)
  have R4 := R3.touch T4 (by omega) (by simp)
  have Y4 := Y3.touch T4 (by omega) (by simp)
  have K4 := K3.trans T4 (.inl rfl)
  clear S3 R3 Y3 D3 K3 T4
  obtain ⟨s0, s1, s2, s3⟩ := S4.cells4
  obtain ⟨y0, y1, y2, y3⟩ := Y4.cells4
  go_wp2_with fail
  clear wl1 wl2 y0 y1 y2 y3 s0 s1 s2 s3
  refine (rgetI_no w4 g R bs (p + 2) (m : Nat) D4 HBS.out (by omega) (by omega) (by rw [Int.toNat_natCast]; omega)).mono ?_
  rintro e w6 ⟨rfl, D6, T6⟩
  have S6 := S4.touch T6 (by omega) (by simp)
  have R6 := R4.touch T6 (by omega) (by simp)
  have Y6 := Y4.touch T6 (by omega) (by simp)
  have K6 := K4.trans T6 (.inl rfl)
  clear S4 R4 Y4 D4 K4 T6
  obtain ⟨d0, d1, d2, d3⟩ := R6.cells4
  obtain ⟨e0, e1, e2, e3⟩ := R6.free4
  go_wp2_with fail
  obtain ⟨q0, q1, q2, q3⟩ := (R6.set4 (.int .i64 0) (.int .u64 0) (.int .i64 0) (.int .i64 0)).cells4
  refine bodyPost_ret (v := .tuple #[.agg #[.int .i64 0, .int .u64 0, .int .i64 0, .int .i64 0], .int .u64 0, .int .i64 50]) (by simp [results, Tryd.results46, go_sem, q0, q1, q2, q3]) rfl ⟨rfl, ⟨_, D6.set4 (by omega) NR.out _ _ _ _⟩, K6.set4 (by omega) _ _ _ _⟩

set_option maxRecDepth 100000 in
set_option maxHeartbeats 3200000 in
theorem xrGet_c4 (w : World) (g : Nat) (R : Option Nat) (bs : List Int) (p : Nat) (N : Int) (V a b : Nat) (h : Rr w g R bs p) (hbs : ∀ x ∈ bs, Byte x) (hR : ∀ k, R = some k → k < w.heap.size) (hg : rightX N a b = true) (hN : N ≠ 0) (hl : 2 ≤ ((unB bs).drop p).length) (hV : val (((unB bs).drop p).take 1) = 1) (hU : val ((((unB bs).drop p).drop 1).take 1) = 0) (ha : a ≠ 64) (hab : a + b ≤ 63) (hs : 64 - a - b ≤ (((unB bs).drop (p + 2))).length) (hx : outW a b ((unB bs).drop (p + 2)) = 0) :
    Calls Tryd.prog 46 #[.pointer (some ⟨g, 0, none⟩), .agg #[.int .i64 N, .int .u64 (V : Nat), .int .i64 (a : Nat), .int .i64 (b : Nat)]] w fun e w' => e = .returned (.tuple #[.agg #[.int .i64 0, .int .u64 0, .int .i64 0, .int .i64 0], .int .u64 0, .int .i64 50]) ∧ RrS w' g R bs ∧ Touch g none w w' := by
  obtain ⟨S0, R0, H0⟩ := four_new w (.int .i64 N) (.int .u64 (V : Nat)) (.int .i64 (a : Nat)) (.int .i64 (b : Nat)) (.int .i64 0) (.int .u64 0) (.int .i64 0) (.int .i64 0) 53 53
  have hlt := h.lt
  have HBS := Lib.hid hbs
  have HR := Lib.hid hR
  have nR : R ≠ some (w.heap.size + 1) := fun e => by have := hR _ e; omega
  have NR := Lib.hid nR
  have nY : ∀ y, w.heap.size ≤ y → R ≠ some y := fun y hy e => by have := hR _ e; omega
  have NY := Lib.hid nY
  have hpl := h.place
  clear nR nY hR hbs
  rw [rest_len] at hl
  have HV := Lib.hid hV
  clear hV
  rw [List.drop_drop] at hU
  have HU := Lib.hid hU
  clear hU
  have e64 : ((a : Int) == 64) = false ∧ (a == 64) = false := ⟨beq_eq_false_iff_ne.2 (by omega), beq_eq_false_iff_ne.2 ha⟩
  obtain ⟨e64, e64'⟩ := e64
  clear ha
  obtain ⟨m, hm⟩ : ∃ m : Nat, 64 - a - b = m := ⟨_, rfl⟩
  have wl1 : IntKind.i64.wrap (64 - (a : Int)) = 64 - (a : Int) := i64_id (by omega) (by omega)
  have wl2 : IntKind.i64.wrap (64 - (a : Int) - (b : Int)) = (m : Nat) := (i64_id (by omega) (by omega)).trans (by omega)
  have hm64 : m ≤ 64 := by omega
  rw [hm, rest_len] at hs
  obtain ⟨Y, hY⟩ : ∃ Y, val (((unB bs).drop (p + 2)).take m) = Y := ⟨_, rfl⟩
  have hYX : Y * 2 ^ b = 0 := by rw [← hx, outW, hm, hY]
  have hX64 : 0 < 2 ^ 64 := by rw [← hx]; exact outW_lt _ _ _ (by omega)
  have DB := fun i hi => dbl_lt (i := i) hYX hX64 hi
  have HDB := Lib.hid DB
  have HYX := Lib.hid hYX
  have HYY := Lib.hid hY
  clear hx hY hYX DB hX64 hm
  have hNb : (N == 0) = false := beq_eq_false_iff_ne.2 hN
  obtain ⟨n1, n2, n3⟩ := rightX_of hg
  have hab : a = 64 ∧ b = 0 ∨ a + b ≤ 63 := by omega
  have HAB := Lib.hid hab
  have wN : IntKind.i64.wrap (N + 1) = N + 1 := by rw [IntKind.wrap_i64]; omega
  clear hN n3 hab
  have HG := Lib.hid hg
  clear hg
  go_enter Tryd.func46, Tryd.ntmps46
  go_wp2_with fail
  refine (xrefRight_yes _ V a b _ HG.out).mono ?_
  rintro e w1 ⟨rfl, hB1⟩
  have H1 := below_more H0 hB1
  have S1 := S0.below hB1
  have R1 := R0.below hB1
  have D1 := h.below H1
  have K1 := Touch.of_below H1 g none
  clear S0 R0 H0 hB1 H1
  obtain ⟨s0, s1, s2, s3⟩ := S1.cells4
  have A2 : Below w1.heap.size w1 (w1.alloc (.cells #[.int .i64 (N + 1), .int .u64 (V : Nat), .int .i64 (a : Nat), .int .i64 (b : Nat)] 53)) := (Below.refl _ w1).alloc (Nat.le_refl _) _
  have Y2 := Blk.new w1 53 #[.int .i64 (N + 1), .int .u64 (V : Nat), .int .i64 (a : Nat), .int .i64 (b : Nat)]
  have S2 := S1.below A2
  have R2 := R1.below A2
  have D2 := D1.below A2
  have K2 := K1.trans (Touch.of_below A2 g none) (.inl rfl)
  have hz1 := R1.lt
  go_wp2_with fail
  obtain ⟨y, hy⟩ : ∃ y, w1.heap.size = y := ⟨_, rfl⟩
  rw [hy] at Y2 hz1 ⊢
  generalize w1.alloc (.cells #[.int .i64 (N + 1), .int .u64 (V : Nat), .int .i64 (a : Nat), .int .i64 (b : Nat)] 53) = w2 at *
  clear A2 hy s0 s1 s2 s3 S1 R1 D1 K1 wN
  have hyg : g ≠ y := by omega
  have hyr : y ≠ w.heap.size := by omega
  have hyr1 : y ≠ w.heap.size + 1 := by omega
  have hys : w.heap.size + 1 < y := hz1
  refine (rgetI_ok w2 g R bs (p) 1 D2 HBS.out (by omega) (by omega) (by have : (1 : Int).toNat = 1 := rfl; omega)).mono ?_
  rw [show (1 : Int).toNat = 1 from rfl, HV.out]
  rintro e w3 ⟨rfl, D3, T3⟩
  have S3 := S2.touch T3 (by omega) (by simp)
  have R3 := R2.touch T3 (by omega) (by simp)
  have Y3 := Y2.touch T3 (by omega) (by simp)
  have K3 := K2.trans T3 (.inl rfl)
  clear S2 R2 Y2 D2 K2 T3
  go_wp2_with fail
  refine (rgetI_ok w3 g R bs (p + 1) 1 D3 HBS.out (by omega) (by omega) (by have : (1 : Int).toNat = 1 := rfl; omega)).mono ?_
  rw [show (1 : Int).toNat = 1 from rfl, HU.out]
  rintro e w4 ⟨rfl, D4, T4⟩
  have S4 := S3.touch T4 (by omega) (by simp)
  have R4 := R3.touch T4 (by omega) (by simp)
  have Y4 := Y3.touch T4 (by omega) (by simp)
  have K4 := K3.trans T4 (.inl rfl)
  clear S3 R3 Y3 D3 K3 T4
  obtain ⟨s0, s1, s2, s3⟩ := S4.cells4
  obtain ⟨y0, y1, y2, y3⟩ := Y4.cells4
  go_wp2_with fail
  clear wl1 wl2 y0 y1 y2 y3 s0 s1 s2 s3
  refine (rgetI_ok w4 g R bs (p + 2) (m : Nat) D4 HBS.out (by omega) (by omega) (by rw [Int.toNat_natCast]; omega)).mono ?_
  rw [Int.toNat_natCast, HYY.out]
  rintro e w6 ⟨rfl, D6, T6⟩
  have S6 := S4.touch T6 (by omega) (by simp)
  have R6 := R4.touch T6 (by omega) (by simp)
  have Y6 := Y4.touch T6 (by omega) (by simp)
  have K6 := K4.trans T6 (.inl rfl)
  clear S4 R4 Y4 D4 K4 T6
  obtain ⟨y0, y1, y2, y3⟩ := Y6.cells4
  obtain ⟨s0, s1, s2, s3⟩ := S6.cells4
  go_wp2_with fail
  go_loop [17, 18] (fun xv iv => ∃ (i : Nat) (Z : Int), iv = .int .i64 i ∧ xv = .int .u64 Z ∧ i ≤ b ∧ 0 ≤ Z ∧ Hid (((Y * 2 ^ i : Nat) : Int) = Z)) (fun _ iv => b - (intOf iv).toNat)
  case atStart => exact ⟨0, (Y : Nat), rfl, rfl, Nat.zero_le _, by omega, by rw [Nat.pow_zero, Nat.mul_one]; exact rfl⟩
  case round =>
    obtain ⟨i, Z, rfl, rfl, hi, hZ0, hZ⟩ := hrel
    rcases Nat.eq_or_lt_of_le hi with e | hlt2
    · obtain rfl : Z = ((0 : Nat) : Int) := by rw [← hZ.out, e, HYX.out]
      obtain rfl : b = i := e.symm
      clear hZ hZ0 hi HDB
      have yb := y3
      clear y0 y1 y2 y3 s0 s1 s2 s3
      obtain ⟨d0, d1, d2, d3⟩ := R6.cells4
      obtain ⟨e0, e1, e2, e3⟩ := R6.free4
      go_wp2_with fail
      obtain ⟨q0, q1, q2, q3⟩ := (R6.set4 (.int .i64 0) (.int .u64 0) (.int .i64 0) (.int .i64 0)).cells4
      refine bodyPost_ret (v := .tuple #[.agg #[.int .i64 0, .int .u64 0, .int .i64 0, .int .i64 0], .int .u64 0, .int .i64 50]) (by simp [results, Tryd.results46, go_sem, q0, q1, q2, q3]) rfl ⟨rfl, ⟨_, D6.set4 (by omega) NR.out _ _ _ _⟩, K6.set4 (by omega) _ _ _ _⟩
    · have hd := HDB.out i hlt2
      have hz2 : Z < 9223372036854775808 := by rw [← hZ.out]; omega
      have hn : Hid (((Y * 2 ^ (i + 1) : Nat) : Int) = 2 * Z) := by rw [Nat.pow_succ, ← Nat.mul_assoc, ← hZ.out]; unfold Hid; push_cast; omega
      clear hd
      go_wp2_with fail
      go_round
      case rel => exact ⟨i + 1, 2 * Z, by go_num, by first | rfl | go_num, hlt2, by omega, hn⟩
      case measure => simp [intOf]; omega

set_option maxRecDepth 100000 in
set_option maxHeartbeats 3200000 in
theorem xrGet_b (w : World) (g : Nat) (R : Option Nat) (bs : List Int) (p : Nat) (N : Int) (V a b : Nat) (X : Nat) (h : Rr w g R bs p) (hbs : ∀ x ∈ bs, Byte x) (hR : ∀ k, R = some k → k < w.heap.size) (hg : rightX N a b = true) (hN : N ≠ 0) (hl : 2 ≤ ((unB bs).drop p).length) (hV : val (((unB bs).drop p).take 1) = 1) (hU : val ((((unB bs).drop p).drop 1).take 1) = 0) (ha : a ≠ 64) (hab : a + b ≤ 63) (hs : 64 - a - b ≤ (((unB bs).drop (p + 2))).length) (hx : outW a b ((unB bs).drop (p + 2)) = X) (hX0 : X ≠ 0) (hV2 : V < 18446744073709551616) :
    Calls Tryd.prog 46 #[.pointer (some ⟨g, 0, none⟩), .agg #[.int .i64 N, .int .u64 (V : Nat), .int .i64 (a : Nat), .int .i64 (b : Nat)]] w fun e w' => e = .returned (.tuple #[.agg #[.int .i64 (N + 1), .int .u64 (V ^^^ X : Nat), .int .i64 (a : Nat), .int .i64 (b : Nat)], .int .u64 (V ^^^ X : Nat), .int .i64 0]) ∧ Rr w' g R bs (p + (2 + (64 - a - b))) ∧ Touch g none w w' := by
  obtain ⟨S0, R0, H0⟩ := four_new w (.int .i64 N) (.int .u64 (V : Nat)) (.int .i64 (a : Nat)) (.int .i64 (b : Nat)) (.int .i64 0) (.int .u64 0) (.int .i64 0) (.int .i64 0) 53 53
  have hlt := h.lt
  have HBS := Lib.hid hbs
  have HR := Lib.hid hR
  have nR : R ≠ some (w.heap.size + 1) := fun e => by have := hR _ e; omega
  have NR := Lib.hid nR
  have nY : ∀ y, w.heap.size ≤ y → R ≠ some y := fun y hy e => by have := hR _ e; omega
  have NY := Lib.hid nY
  have hpl := h.place
  clear nR nY hR hbs
  rw [rest_len] at hl
  have HV := Lib.hid hV
  clear hV
  rw [List.drop_drop] at hU
  have HU := Lib.hid hU
  clear hU
  have e64 : ((a : Int) == 64) = false ∧ (a == 64) = false := ⟨beq_eq_false_iff_ne.2 (by omega), beq_eq_false_iff_ne.2 ha⟩
  obtain ⟨e64, e64'⟩ := e64
  clear ha
  have hV := hV2
  obtain ⟨m, hm⟩ : ∃ m : Nat, 64 - a - b = m := ⟨_, rfl⟩
  have wl1 : IntKind.i64.wrap (64 - (a : Int)) = 64 - (a : Int) := i64_id (by omega) (by omega)
  have wl2 : IntKind.i64.wrap (64 - (a : Int) - (b : Int)) = (m : Nat) := (i64_id (by omega) (by omega)).trans (by omega)
  have hm64 : m ≤ 64 := by omega
  rw [hm, rest_len] at hs
  obtain ⟨Y, hY⟩ : ∃ Y, val (((unB bs).drop (p + 2)).take m) = Y := ⟨_, rfl⟩
  have hYX : Y * 2 ^ b = X := by rw [← hx, outW, hm, hY]
  have hX64 : X < 2 ^ 64 := by rw [← hx]; exact outW_lt _ _ _ (by omega)
  have DB := fun i hi => dbl_lt (i := i) hYX hX64 hi
  have HDB := Lib.hid DB
  have HYX := Lib.hid hYX
  have HYY := Lib.hid hY
  have hx0 : X ≠ 0 := hX0
  have EN := fun W => ends_any X W hX0 hX64
  have hxx := u64_xor_nat V X hV hX64
  obtain ⟨v, hv⟩ : ∃ v, V ^^^ X = v := ⟨_, rfl⟩
  rw [hv] at hxx
  rw [hv]
  have HP := Lib.hid (show p + 2 + m = p + (2 + (64 - a - b)) by omega)
  have hx1 : ((X : Int) == 0) = false := beq_eq_false_iff_ne.2 (by omega)
  have hx2 : (X == 0) = false := beq_eq_false_iff_ne.2 hX0
  have HEN := Lib.hid EN
  clear hx hY hYX DB hX64 hm hv hV hV2 EN hX0 hx0
  have hNb : (N == 0) = false := beq_eq_false_iff_ne.2 hN
  obtain ⟨n1, n2, n3⟩ := rightX_of hg
  have hab : a = 64 ∧ b = 0 ∨ a + b ≤ 63 := by omega
  have HAB := Lib.hid hab
  have wN : IntKind.i64.wrap (N + 1) = N + 1 := by rw [IntKind.wrap_i64]; omega
  clear hN n3 hab
  have HG := Lib.hid hg
  clear hg
  go_enter Tryd.func46, Tryd.ntmps46
  go_wp2_with fail
  refine (xrefRight_yes _ V a b _ HG.out).mono ?_
  rintro e w1 ⟨rfl, hB1⟩
  have H1 := below_more H0 hB1
  have S1 := S0.below hB1
  have R1 := R0.below hB1
  have D1 := h.below H1
  have K1 := Touch.of_below H1 g none
  clear S0 R0 H0 hB1 H1
  obtain ⟨s0, s1, s2, s3⟩ := S1.cells4
  have A2 : Below w1.heap.size w1 (w1.alloc (.cells #[.int .i64 (N + 1), .int .u64 (V : Nat), .int .i64 (a : Nat), .int .i64 (b : Nat)] 53)) := (Below.refl _ w1).alloc (Nat.le_refl _) _
  have Y2 := Blk.new w1 53 #[.int .i64 (N + 1), .int .u64 (V : Nat), .int .i64 (a : Nat), .int .i64 (b : Nat)]
  have S2 := S1.below A2
  have R2 := R1.below A2
  have D2 := D1.below A2
  have K2 := K1.trans (Touch.of_below A2 g none) (.inl rfl)
  have hz1 := R1.lt
  go_wp2_with fail
  obtain ⟨y, hy⟩ : ∃ y, w1.heap.size = y := ⟨_, rfl⟩
  rw [hy] at Y2 hz1 ⊢
  generalize w1.alloc (.cells #[.int .i64 (N + 1), .int .u64 (V : Nat), .int .i64 (a : Nat), .int .i64 (b : Nat)] 53) = w2 at *
  clear A2 hy s0 s1 s2 s3 S1 R1 D1 K1 wN
  have hyg : g ≠ y := by omega
  have hyr : y ≠ w.heap.size := by omega
  have hyr1 : y ≠ w.heap.size + 1 := by omega
  have hys : w.heap.size + 1 < y := hz1
  refine (rgetI_ok w2 g R bs (p) 1 D2 HBS.out (by omega) (by omega) (by have : (1 : Int).toNat = 1 := rfl; omega)).mono ?_
  rw [show (1 : Int).toNat = 1 from rfl, HV.out]
  rintro e w3 ⟨rfl, D3, T3⟩
  have S3 := S2.touch T3 (by omega) (by simp)
  have R3 := R2.touch T3 (by omega) (by simp)
  have Y3 := Y2.touch T3 (by omega) (by simp)
  have K3 := K2.trans T3 (.inl rfl)
  clear S2 R2 Y2 D2 K2 T3
  go_wp2_with fail
  refine (rgetI_ok w3 g R bs (p + 1) 1 D3 HBS.out (by omega) (by omega) (by have : (1 : Int).toNat = 1 := rfl; omega)).mono ?_
  rw [show (1 : Int).toNat = 1 from rfl, HU.out]
  rintro e w4 ⟨rfl, D4, T4⟩
  have S4 := S3.touch T4 (by omega) (by simp)
  have R4 := R3.touch T4 (by omega) (by simp)
  have Y4 := Y3.touch T4 (by omega) (by simp)
  have K4 := K3.trans T4 (.inl rfl)
  clear S3 R3 Y3 D3 K3 T4
  obtain ⟨s0, s1, s2, s3⟩ := S4.cells4
  obtain ⟨y0, y1, y2, y3⟩ := Y4.cells4
  go_wp2_with fail
  clear wl1 wl2 y0 y1 y2 y3 s0 s1 s2 s3
  refine (rgetI_ok w4 g R bs (p + 2) (m : Nat) D4 HBS.out (by omega) (by omega) (by rw [Int.toNat_natCast]; omega)).mono ?_
  rw [Int.toNat_natCast, HYY.out]
  rintro e w6 ⟨rfl, D6, T6⟩
  have S6 := S4.touch T6 (by omega) (by simp)
  have R6 := R4.touch T6 (by omega) (by simp)
  have Y6 := Y4.touch T6 (by omega) (by simp)
  have K6 := K4.trans T6 (.inl rfl)
  clear S4 R4 Y4 D4 K4 T6
  obtain ⟨y0, y1, y2, y3⟩ := Y6.cells4
  obtain ⟨s0, s1, s2, s3⟩ := S6.cells4
  go_wp2_with fail
  go_loop [17, 18] (fun xv iv => ∃ (i : Nat) (Z : Int), iv = .int .i64 i ∧ xv = .int .u64 Z ∧ i ≤ b ∧ 0 ≤ Z ∧ Hid (((Y * 2 ^ i : Nat) : Int) = Z)) (fun _ iv => b - (intOf iv).toNat)
  case atStart => exact ⟨0, (Y : Nat), rfl, rfl, Nat.zero_le _, by omega, by rw [Nat.pow_zero, Nat.mul_one]; exact rfl⟩
  case round =>
    obtain ⟨i, Z, rfl, rfl, hi, hZ0, hZ⟩ := hrel
    rcases Nat.eq_or_lt_of_le hi with e | hlt2
    · obtain rfl : Z = ((X : Nat) : Int) := by rw [← hZ.out, e, HYX.out]
      obtain rfl : b = i := e.symm
      clear hZ hZ0 hi HDB
      go_wp2_with fail
      refine (HEN.out _).mono ?_
      rintro e w8 ⟨rfl, hw8⟩
      obtain rfl : w6 = w8 := hw8.symm
      have y1' := y1
      have f1 := Y6.frozen 1
      go_wp2_with fail
      have Y7 : Blk (w6.setCell ⟨y, 1, none⟩ (.int .u64 (v : Nat))) y 53 #[.int .i64 (N + 1), .int .u64 (v : Nat), .int .i64 (a : Nat), .int .i64 (b : Nat)] := Y6.set_ 1 (.int .u64 (v : Nat))
      have R7 := R6.far (p := ⟨y, 1, none⟩) (show w.heap.size + 1 ≠ y by omega) (.int .u64 (v : Nat))
      have D7 := D6.put1 (r := y) hyg (NY.out y (by omega)) 1 (.int .u64 (v : Nat))
      have K7 := K6.setRow (r := y) (.inr (by omega)) 1 (.int .u64 (v : Nat))
      clear y0 y1 y2 y3 y1' f1 s0 s1 s2 s3 S6 R6 Y6 D6 K6
      generalize w6.setCell ⟨y, 1, none⟩ (.int .u64 (v : Nat)) = w7 at *
      refine wp_region_noPanic ?_
      refine wp_region_held_drew (S := fun W : World => W.cell? ⟨y, 0, none⟩ = some (.int .i64 (N + 1)) ∧ W.cell? ⟨y, 1, none⟩ = some (.int .u64 (v : Nat)) ∧ W.cell? ⟨y, 2, none⟩ = some (.int .i64 (a : Nat)) ∧ W.cell? ⟨y, 3, none⟩ = some (.int .i64 (b : Nat))) (by kernel_rfl) ((Y7.drewN 1).cells4) (fun hSt => ?_)
      have Ra : Blk w7.drew (w.heap.size + 1) 53 _ := R7
      have Ya : Blk w7.drew y 53 #[.int .i64 (N + 1), .int .u64 (v : Nat), .int .i64 (a : Nat), .int .i64 (b : Nat)] := Y7
      have Da : Rr w7.drew g R bs _ := D7
      have Ka : Touch g none w w7.drew := K7.drewN 1
      clear R7 Y7 D7 K7
      generalize w7.drew = wa at *
      refine wpAnyH_picks [0, 1, 2] 3 (by rfl) (by kernel_rfl) (by kernel_rfl) (by kernel_rfl) (fun _ _ _ _ _ h => h) (by assumption) ?_
      simp only [picks, List.drop_succ_cons, List.drop_zero, List.take_succ_cons, List.take_zero, List.cons_append, List.nil_append]
      repeat (first
        | (refine wpY_skip (by rfl) ?_; simp only [Act.put, List.setIfInBounds_toArray, List.set_cons_zero, List.set_cons_succ])
        | (refine wpY_want (v := ?_) (by rfl) (fun W hW => ?_) ?_; rotate_left; (obtain ⟨hW0, hW1, hW2, hW3⟩ := hW; go_simp; try with_reducible rfl); simp only [Act.put, List.setIfInBounds_toArray, List.set_cons_zero, List.set_cons_succ]))
      refine wpY_nil ?_
      obtain ⟨d0, d1, d2, d3⟩ := Ra.cells4
      obtain ⟨e0, e1, e2, e3⟩ := Ra.free4
      refine wpAnyH_one 3 2 (by rfl) (by rfl) (by kernel_rfl) (fun K hK => ?_)
      go_simp
      refine hK.out _ _ ((Ya.farSet4 (g' := w.heap.size + 1) (by omega) _ _ _ _).cells4) (fun hSt => ?_)
      clear hK K
      try simp only [Act.put, List.setIfInBounds_toArray, List.set_cons_zero, List.set_cons_succ]
      refine wpAnyH_picks [4, 5] 0 (by rfl) (by kernel_rfl) (by kernel_rfl) (by kernel_rfl) (fun _ _ _ _ _ h => h) (by assumption) ?_
      simp only [picks, List.drop_succ_cons, List.drop_zero, List.take_succ_cons, List.take_zero, List.cons_append, List.nil_append]
      repeat (first
        | (refine wpY_skip (by rfl) ?_; simp only [Act.put, List.setIfInBounds_toArray, List.set_cons_zero, List.set_cons_succ])
        | (refine wpY_want (v := ?_) (by rfl) (fun W hW => ?_) ?_; rotate_left; (go_simp; try with_reducible rfl); simp only [Act.put, List.setIfInBounds_toArray, List.set_cons_zero, List.set_cons_succ]))
      refine wpY_nil ?_
      refine wpAnyH_done (by kernel_rfl) ?_ _
      refine NoPanic.normal ?_
      go_wp2_with fail
      obtain ⟨q0, q1, q2, q3⟩ := (Ra.set4 (.int .i64 (N + 1)) (.int .u64 (v : Nat)) (.int .i64 (a : Nat)) (.int .i64 (b : Nat))).cells4
      refine bodyPost_ret (v := .tuple #[.agg #[.int .i64 (N + 1), .int .u64 (v : Nat), .int .i64 (a : Nat), .int .i64 (b : Nat)], .int .u64 (v : Nat), .int .i64 0]) (by simp [results, Tryd.results46, go_sem, q0, q1, q2, q3]) rfl ⟨rfl, by rw [← HP.out]; exact Da.set4 (by omega) NR.out _ _ _ _, Ka.set4 (by omega) _ _ _ _⟩
    · have hd := HDB.out i hlt2
      have hz2 : Z < 9223372036854775808 := by rw [← hZ.out]; omega
      have hn : Hid (((Y * 2 ^ (i + 1) : Nat) : Int) = 2 * Z) := by rw [Nat.pow_succ, ← Nat.mul_assoc, ← hZ.out]; unfold Hid; push_cast; omega
      clear hd
      go_wp2_with fail
      go_round
      case rel => exact ⟨i + 1, 2 * Z, by go_num, by first | rfl | go_num, hlt2, by omega, hn⟩
      case measure => simp [intOf]; omega

set_option maxRecDepth 100000 in
set_option maxHeartbeats 3200000 in
theorem xrGet_c5 (w : World) (g : Nat) (R : Option Nat) (bs : List Int) (p : Nat) (N : Int) (V a b : Nat) (h : Rr w g R bs p) (hbs : ∀ x ∈ bs, Byte x) (hR : ∀ k, R = some k → k < w.heap.size) (hg : rightX N a b = true) (hN : N ≠ 0) (hl : 2 ≤ ((unB bs).drop p).length) (hV : val (((unB bs).drop p).take 1) = 1) (hU : val ((((unB bs).drop p).drop 1).take 1) = 1) (hs : (((unB bs).drop (p + 2))).length < 12) :
    Calls Tryd.prog 46 #[.pointer (some ⟨g, 0, none⟩), .agg #[.int .i64 N, .int .u64 (V : Nat), .int .i64 (a : Nat), .int .i64 (b : Nat)]] w fun e w' => e = .returned (.tuple #[.agg #[.int .i64 0, .int .u64 0, .int .i64 0, .int .i64 0], .int .u64 0, .int .i64 50]) ∧ RrS w' g R bs ∧ Touch g none w w' := by
  obtain ⟨S0, R0, H0⟩ := four_new w (.int .i64 N) (.int .u64 (V : Nat)) (.int .i64 (a : Nat)) (.int .i64 (b : Nat)) (.int .i64 0) (.int .u64 0) (.int .i64 0) (.int .i64 0) 53 53
  have hlt := h.lt
  have HBS := Lib.hid hbs
  have HR := Lib.hid hR
  have nR : R ≠ some (w.heap.size + 1) := fun e => by have := hR _ e; omega
  have NR := Lib.hid nR
  have nY : ∀ y, w.heap.size ≤ y → R ≠ some y := fun y hy e => by have := hR _ e; omega
  have NY := Lib.hid nY
  have hpl := h.place
  clear nR nY hR hbs
  rw [rest_len] at hl
  have HV := Lib.hid hV
  clear hV
  rw [List.drop_drop] at hU
  have HU := Lib.hid hU
  clear hU
  rw [rest_len] at hs
  have hNb : (N == 0) = false := beq_eq_false_iff_ne.2 hN
  obtain ⟨n1, n2, n3⟩ := rightX_of hg
  have hab : a = 64 ∧ b = 0 ∨ a + b ≤ 63 := by omega
  have HAB := Lib.hid hab
  have wN : IntKind.i64.wrap (N + 1) = N + 1 := by rw [IntKind.wrap_i64]; omega
  clear hN n3 hab
  have HG := Lib.hid hg
  clear hg
  go_enter Tryd.func46, Tryd.ntmps46
  go_wp2_with fail
  refine (xrefRight_yes _ V a b _ HG.out).mono ?_
  rintro e w1 ⟨rfl, hB1⟩
  have H1 := below_more H0 hB1
  have S1 := S0.below hB1
  have R1 := R0.below hB1
  have D1 := h.below H1
  have K1 := Touch.of_below H1 g none
  clear S0 R0 H0 hB1 H1
  obtain ⟨s0, s1, s2, s3⟩ := S1.cells4
  have A2 : Below w1.heap.size w1 (w1.alloc (.cells #[.int .i64 (N + 1), .int .u64 (V : Nat), .int .i64 (a : Nat), .int .i64 (b : Nat)] 53)) := (Below.refl _ w1).alloc (Nat.le_refl _) _
  have Y2 := Blk.new w1 53 #[.int .i64 (N + 1), .int .u64 (V : Nat), .int .i64 (a : Nat), .int .i64 (b : Nat)]
  have S2 := S1.below A2
  have R2 := R1.below A2
  have D2 := D1.below A2
  have K2 := K1.trans (Touch.of_below A2 g none) (.inl rfl)
  have hz1 := R1.lt
  go_wp2_with fail
  obtain ⟨y, hy⟩ : ∃ y, w1.heap.size = y := ⟨_, rfl⟩
  rw [hy] at Y2 hz1 ⊢
  generalize w1.alloc (.cells #[.int .i64 (N + 1), .int .u64 (V : Nat), .int .i64 (a : Nat), .int .i64 (b : Nat)] 53) = w2 at *
  clear A2 hy s0 s1 s2 s3 S1 R1 D1 K1 wN
  have hyg : g ≠ y := by omega
  have hyr : y ≠ w.heap.size := by omega
  have hyr1 : y ≠ w.heap.size + 1 := by omega
  have hys : w.heap.size + 1 < y := hz1
  refine (rgetI_ok w2 g R bs (p) 1 D2 HBS.out (by omega) (by omega) (by have : (1 : Int).toNat = 1 := rfl; omega)).mono ?_
  rw [show (1 : Int).toNat = 1 from rfl, HV.out]
  rintro e w3 ⟨rfl, D3, T3⟩
  have S3 := S2.touch T3 (by omega) (by simp)
  have R3 := R2.touch T3 (by omega) (by simp)
  have Y3 := Y2.touch T3 (by omega) (by simp)
  have K3 := K2.trans T3 (.inl rfl)
  clear S2 R2 Y2 D2 K2 T3
  go_wp2_with fail
  refine (rgetI_ok w3 g R bs (p + 1) 1 D3 HBS.out (by omega) (by omega) (by have : (1 : Int).toNat = 1 := rfl; omega)).mono ?_
  rw [show (1 : Int).toNat = 1 from rfl, HU.out]
  rintro e w4 ⟨rfl, D4, T4⟩
  have S4 := S3.touch T4 (by omega) (by simp)
  have R4 := R3.touch T4 (by omega) (by simp)
  have Y4 := Y3.touch T4 (by omega) (by simp)
  have K4 := K3.trans T4 (.inl rfl)
  clear S3 R3 Y3 D3 K3 T4
  go_wp2_with fail
  refine (rgetI_no w4 g R bs (p + 2) 12 D4 HBS.out (by omega) (by omega) (by have : (12 : Int).toNat = 12 := rfl; omega)).mono ?_
  rintro e w5 ⟨rfl, D5, T5⟩
  have S5 := S4.touch T5 (by omega) (by simp)
  have R5 := R4.touch T5 (by omega) (by simp)
  have Y5 := Y4.touch T5 (by omega) (by simp)
  have K5 := K4.trans T5 (.inl rfl)
  clear S4 R4 Y4 D4 K4 T5
  obtain ⟨d0, d1, d2, d3⟩ := R5.cells4
  obtain ⟨e0, e1, e2, e3⟩ := R5.free4
  go_wp2_with fail
  obtain ⟨q0, q1, q2, q3⟩ := (R5.set4 (.int .i64 0) (.int .u64 0) (.int .i64 0) (.int .i64 0)).cells4
  refine bodyPost_ret (v := .tuple #[.agg #[.int .i64 0, .int .u64 0, .int .i64 0, .int .i64 0], .int .u64 0, .int .i64 50]) (by simp [results, Tryd.results46, go_sem, q0, q1, q2, q3]) rfl ⟨rfl, ⟨_, D5.set4 (by omega) NR.out _ _ _ _⟩, K5.set4 (by omega) _ _ _ _⟩

set_option maxRecDepth 100000 in
set_option maxHeartbeats 3200000 in
theorem xrGet_c6 (w : World) (g : Nat) (R : Option Nat) (bs : List Int) (p : Nat) (N : Int) (V a b : Nat) (h : Rr w g R bs p) (hbs : ∀ x ∈ bs, Byte x) (hR : ∀ k, R = some k → k < w.heap.size) (hg : rightX N a b = true) (hN : N ≠ 0) (hl : 2 ≤ ((unB bs).drop p).length) (hV : val (((unB bs).drop p).take 1) = 1) (hU : val ((((unB bs).drop p).drop 1).take 1) = 1) (Q A M : Nat) (hq : 12 ≤ ((unB bs).drop (p + 2)).length) (hQ : val (((unB bs).drop (p + 2)).take 12) = Q) (hA : Q / 64 = A) (hM : Q % 64 = M) (hAM : 64 < A + (M + 1)) :
    Calls Tryd.prog 46 #[.pointer (some ⟨g, 0, none⟩), .agg #[.int .i64 N, .int .u64 (V : Nat), .int .i64 (a : Nat), .int .i64 (b : Nat)]] w fun e w' => e = .returned (.tuple #[.agg #[.int .i64 0, .int .u64 0, .int .i64 0, .int .i64 0], .int .u64 0, .int .i64 50]) ∧ RrS w' g R bs ∧ Touch g none w w' := by
  obtain ⟨S0, R0, H0⟩ := four_new w (.int .i64 N) (.int .u64 (V : Nat)) (.int .i64 (a : Nat)) (.int .i64 (b : Nat)) (.int .i64 0) (.int .u64 0) (.int .i64 0) (.int .i64 0) 53 53
  have hlt := h.lt
  have HBS := Lib.hid hbs
  have HR := Lib.hid hR
  have nR : R ≠ some (w.heap.size + 1) := fun e => by have := hR _ e; omega
  have NR := Lib.hid nR
  have nY : ∀ y, w.heap.size ≤ y → R ≠ some y := fun y hy e => by have := hR _ e; omega
  have NY := Lib.hid nY
  have hpl := h.place
  clear nR nY hR hbs
  rw [rest_len] at hl
  have HV := Lib.hid hV
  clear hV
  rw [List.drop_drop] at hU
  have HU := Lib.hid hU
  clear hU
  rw [rest_len] at hq
  have hA6 : A < 64 := by have := val_take_lt ((unB bs).drop (p + 2)) 12; rw [hQ] at this; omega
  have hM6 : M < 64 := by omega
  have HQ := Lib.hid hQ
  have wq1 : (Q : Int) / 64 = (A : Nat) := by omega
  have wq2 : (Q : Int) % 64 = (M : Nat) := by omega
  have wA : IntKind.i64.wrap (A : Int) = (A : Int) := i64_id (by omega) (by omega)
  have wM : IntKind.i64.wrap (M : Int) = (M : Int) := i64_id (by omega) (by omega)
  have wM1 : IntKind.i64.wrap ((M : Int) + 1) = (M : Int) + 1 := i64_id (by omega) (by omega)
  have wAM : IntKind.i64.wrap ((A : Int) + ((M : Int) + 1)) = (A : Int) + ((M : Int) + 1) := i64_id (by omega) (by omega)
  clear hQ hA hM
  have dAM : decide (64 < (A : Int) + ((M : Int) + 1)) = true := decide_eq_true (by omega)
  clear hAM
  have hNb : (N == 0) = false := beq_eq_false_iff_ne.2 hN
  obtain ⟨n1, n2, n3⟩ := rightX_of hg
  have hab : a = 64 ∧ b = 0 ∨ a + b ≤ 63 := by omega
  have HAB := Lib.hid hab
  have wN : IntKind.i64.wrap (N + 1) = N + 1 := by rw [IntKind.wrap_i64]; omega
  clear hN n3 hab
  have HG := Lib.hid hg
  clear hg
  go_enter Tryd.func46, Tryd.ntmps46
  go_wp2_with fail
  refine (xrefRight_yes _ V a b _ HG.out).mono ?_
  rintro e w1 ⟨rfl, hB1⟩
  have H1 := below_more H0 hB1
  have S1 := S0.below hB1
  have R1 := R0.below hB1
  have D1 := h.below H1
  have K1 := Touch.of_below H1 g none
  clear S0 R0 H0 hB1 H1
  obtain ⟨s0, s1, s2, s3⟩ := S1.cells4
  have A2 : Below w1.heap.size w1 (w1.alloc (.cells #[.int .i64 (N + 1), .int .u64 (V : Nat), .int .i64 (a : Nat), .int .i64 (b : Nat)] 53)) := (Below.refl _ w1).alloc (Nat.le_refl _) _
  have Y2 := Blk.new w1 53 #[.int .i64 (N + 1), .int .u64 (V : Nat), .int .i64 (a : Nat), .int .i64 (b : Nat)]
  have S2 := S1.below A2
  have R2 := R1.below A2
  have D2 := D1.below A2
  have K2 := K1.trans (Touch.of_below A2 g none) (.inl rfl)
  have hz1 := R1.lt
  go_wp2_with fail
  obtain ⟨y, hy⟩ : ∃ y, w1.heap.size = y := ⟨_, rfl⟩
  rw [hy] at Y2 hz1 ⊢
  generalize w1.alloc (.cells #[.int .i64 (N + 1), .int .u64 (V : Nat), .int .i64 (a : Nat), .int .i64 (b : Nat)] 53) = w2 at *
  clear A2 hy s0 s1 s2 s3 S1 R1 D1 K1 wN
  have hyg : g ≠ y := by omega
  have hyr : y ≠ w.heap.size := by omega
  have hyr1 : y ≠ w.heap.size + 1 := by omega
  have hys : w.heap.size + 1 < y := hz1
  refine (rgetI_ok w2 g R bs (p) 1 D2 HBS.out (by omega) (by omega) (by have : (1 : Int).toNat = 1 := rfl; omega)).mono ?_
  rw [show (1 : Int).toNat = 1 from rfl, HV.out]
  rintro e w3 ⟨rfl, D3, T3⟩
  have S3 := S2.touch T3 (by omega) (by simp)
  have R3 := R2.touch T3 (by omega) (by simp)
  have Y3 := Y2.touch T3 (by omega) (by simp)
  have K3 := K2.trans T3 (.inl rfl)
  clear S2 R2 Y2 D2 K2 T3
  go_wp2_with fail
  refine (rgetI_ok w3 g R bs (p + 1) 1 D3 HBS.out (by omega) (by omega) (by have : (1 : Int).toNat = 1 := rfl; omega)).mono ?_
  rw [show (1 : Int).toNat = 1 from rfl, HU.out]
  rintro e w4 ⟨rfl, D4, T4⟩
  have S4 := S3.touch T4 (by omega) (by simp)
  have R4 := R3.touch T4 (by omega) (by simp)
  have Y4 := Y3.touch T4 (by omega) (by simp)
  have K4 := K3.trans T4 (.inl rfl)
  clear S3 R3 Y3 D3 K3 T4
  go_wp2_with fail
  refine (rgetI_ok w4 g R bs (p + 2) 12 D4 HBS.out (by omega) (by omega) (by have : (12 : Int).toNat = 12 := rfl; omega)).mono ?_
  rw [show (12 : Int).toNat = 12 from rfl, HQ.out]
  rintro e w5 ⟨rfl, D5, T5⟩
  have S5 := S4.touch T5 (by omega) (by simp)
  have R5 := R4.touch T5 (by omega) (by simp)
  have Y5 := Y4.touch T5 (by omega) (by simp)
  have K5 := K4.trans T5 (.inl rfl)
  clear S4 R4 Y4 D4 K4 T5
  obtain ⟨y0, y1, y2, y3⟩ := Y5.cells4
  have f2 := Y5.frozen 2
  have f3 := Y5.frozen 3
  have R5' : Blk (w5.setCell ⟨y, 2, none⟩ (.int .i64 (A : Nat))) (w.heap.size + 1) 53 _ := R5.far (p := ⟨y, 2, none⟩) (show w.heap.size + 1 ≠ y by omega) (.int .i64 (A : Nat))
  have Y5' : Blk (w5.setCell ⟨y, 2, none⟩ (.int .i64 (A : Nat))) y 53 #[.int .i64 (N + 1), .int .u64 (V : Nat), .int .i64 (A : Nat), .int .i64 (b : Nat)] := Y5.set_ 2 (.int .i64 (A : Nat))
  have D5' := D5.put1 (r := y) hyg (NY.out y (by omega)) 2 (.int .i64 (A : Nat))
  have K5' := K5.setRow (r := y) (.inr (by omega)) 2 (.int .i64 (A : Nat))
  have u2 := Y5'.cell 2
  obtain ⟨d0, d1, d2, d3⟩ := R5'.cells4
  obtain ⟨e0, e1, e2, e3⟩ := R5'.free4
  go_wp2_with fail
  obtain ⟨q0, q1, q2, q3⟩ := (R5'.set4 (.int .i64 0) (.int .u64 0) (.int .i64 0) (.int .i64 0)).cells4
  refine bodyPost_ret (v := .tuple #[.agg #[.int .i64 0, .int .u64 0, .int .i64 0, .int .i64 0], .int .u64 0, .int .i64 50]) (by simp [results, Tryd.results46, go_sem, q0, q1, q2, q3]) rfl ⟨rfl, ⟨_, D5'.set4 (by omega) NR.out _ _ _ _⟩, K5'.set4 (by omega) _ _ _ _⟩

set_option maxRecDepth 100000 in
set_option maxHeartbeats 3200000 in
theorem xrGet_c7 (w : World) (g : Nat) (R : Option Nat) (bs : List Int) (p : Nat) (N : Int) (V a b : Nat) (h : Rr w g R bs p) (hbs : ∀ x ∈ bs, Byte x) (hR : ∀ k, R = some k → k < w.heap.size) (hg : rightX N a b = true) (hN : N ≠ 0) (hl : 2 ≤ ((unB bs).drop p).length) (hV : val (((unB bs).drop p).take 1) = 1) (hU : val ((((unB bs).drop p).drop 1).take 1) = 1) (Q A M : Nat) (hq : 12 ≤ ((unB bs).drop (p + 2)).length) (hQ : val (((unB bs).drop (p + 2)).take 12) = Q) (hA : Q / 64 = A) (hM : Q % 64 = M) (B : Nat) (hAM : A + (M + 1) ≤ 64) (hB : 64 - A - (M + 1) = B) (hs : ((unB bs).drop (p + 14)).length < 64 - A - B) :
    Calls Tryd.prog 46 #[.pointer (some ⟨g, 0, none⟩), .agg #[.int .i64 N, .int .u64 (V : Nat), .int .i64 (a : Nat), .int .i64 (b : Nat)]] w fun e w' => e = .returned (.tuple #[.agg #[.int .i64 0, .int .u64 0, .int .i64 0, .int .i64 0], .int .u64 0, .int .i64 50]) ∧ RrS w' g R bs ∧ Touch g none w w' := by
  obtain ⟨S0, R0, H0⟩ := four_new w (.int .i64 N) (.int .u64 (V : Nat)) (.int .i64 (a : Nat)) (.int .i64 (b : Nat)) (.int .i64 0) (.int .u64 0) (.int .i64 0) (.int .i64 0) 53 53
  have hlt := h.lt
  have HBS := Lib.hid hbs
  have HR := Lib.hid hR
  have nR : R ≠ some (w.heap.size + 1) := fun e => by have := hR _ e; omega
  have NR := Lib.hid nR
  have nY : ∀ y, w.heap.size ≤ y → R ≠ some y := fun y hy e => by have := hR _ e; omega
  have NY := Lib.hid nY
  have hpl := h.place
  clear nR nY hR hbs
  rw [rest_len] at hl
  have HV := Lib.hid hV
  clear hV
  rw [List.drop_drop] at hU
  have HU := Lib.hid hU
  clear hU
  rw [rest_len] at hq
  have hA6 : A < 64 := by have := val_take_lt ((unB bs).drop (p + 2)) 12; rw [hQ] at this; omega
  have hM6 : M < 64 := by omega
  have HQ := Lib.hid hQ
  have wq1 : (Q : Int) / 64 = (A : Nat) := by omega
  have wq2 : (Q : Int) % 64 = (M : Nat) := by omega
  have wA : IntKind.i64.wrap (A : Int) = (A : Int) := i64_id (by omega) (by omega)
  have wM : IntKind.i64.wrap (M : Int) = (M : Int) := i64_id (by omega) (by omega)
  have wM1 : IntKind.i64.wrap ((M : Int) + 1) = (M : Int) + 1 := i64_id (by omega) (by omega)
  have wAM : IntKind.i64.wrap ((A : Int) + ((M : Int) + 1)) = (A : Int) + ((M : Int) + 1) := i64_id (by omega) (by omega)
  clear hQ hA hM
  have dAM : decide (64 < (A : Int) + ((M : Int) + 1)) = false := decide_eq_false (by omega)
  have wB : IntKind.i64.wrap (64 - (A : Int) - ((M : Int) + 1)) = (B : Nat) := (i64_id (by omega) (by omega)).trans (by omega)
  have hab2 : A + B ≤ 63 := by omega
  have HBN := Lib.hid (show A + M + 1 + B = 64 by omega)
  clear hB hAM
  obtain ⟨m, hm⟩ : ∃ m : Nat, 64 - A - B = m := ⟨_, rfl⟩
  have wl1 : IntKind.i64.wrap (64 - (A : Int)) = 64 - (A : Int) := i64_id (by omega) (by omega)
  have wl2 : IntKind.i64.wrap (64 - (A : Int) - (B : Int)) = (m : Nat) := (i64_id (by omega) (by omega)).trans (by omega)
  have hm64 : m ≤ 64 := by omega
  rw [hm, rest_len] at hs
  clear hm
  have hNb : (N == 0) = false := beq_eq_false_iff_ne.2 hN
  obtain ⟨n1, n2, n3⟩ := rightX_of hg
  have hab : a = 64 ∧ b = 0 ∨ a + b ≤ 63 := by omega
  have HAB := Lib.hid hab
  have wN : IntKind.i64.wrap (N + 1) = N + 1 := by rw [IntKind.wrap_i64]; omega
  clear hN n3 hab
  have HG := Lib.hid hg
  clear hg
  go_enter Tryd.func46, Tryd.ntmps46
  go_wp2_with fail
  refine (xrefRight_yes _ V a b _ HG.out).mono ?_
  rintro e w1 ⟨rfl, hB1⟩
  have H1 := below_more H0 hB1
  have S1 := S0.below hB1
  have R1 := R0.below hB1
  have D1 := h.below H1
  have K1 := Touch.of_below H1 g none
  clear S0 R0 H0 hB1 H1
  obtain ⟨s0, s1, s2, s3⟩ := S1.cells4
  have A2 : Below w1.heap.size w1 (w1.alloc (.cells #[.int .i64 (N + 1), .int .u64 (V : Nat), .int .i64 (a : Nat), .int .i64 (b : Nat)] 53)) := (Below.refl _ w1).alloc (Nat.le_refl _) _
  have Y2 := Blk.new w1 53 #[.int .i64 (N + 1), .int .u64 (V : Nat), .int .i64 (a : Nat), .int .i64 (b : Nat)]
  have S2 := S1.below A2
  have R2 := R1.below A2
  have D2 := D1.below A2
  have K2 := K1.trans (Touch.of_below A2 g none) (.inl rfl)
  have hz1 := R1.lt
  go_wp2_with fail
  obtain ⟨y, hy⟩ : ∃ y, w1.heap.size = y := ⟨_, rfl⟩
  rw [hy] at Y2 hz1 ⊢
  generalize w1.alloc (.cells #[.int .i64 (N + 1), .int .u64 (V : Nat), .int .i64 (a : Nat), .int .i64 (b : Nat)] 53) = w2 at *
  clear A2 hy s0 s1 s2 s3 S1 R1 D1 K1 wN
  have hyg : g ≠ y := by omega
  have hyr : y ≠ w.heap.size := by omega
  have hyr1 : y ≠ w.heap.size + 1 := by omega
  have hys : w.heap.size + 1 < y := hz1
  refine (rgetI_ok w2 g R bs (p) 1 D2 HBS.out (by omega) (by omega) (by have : (1 : Int).toNat = 1 := rfl; omega)).mono ?_
  rw [show (1 : Int).toNat = 1 from rfl, HV.out]
  rintro e w3 ⟨rfl, D3, T3⟩
  have S3 := S2.touch T3 (by omega) (by simp)
  have R3 := R2.touch T3 (by omega) (by simp)
  have Y3 := Y2.touch T3 (by omega) (by simp)
  have K3 := K2.trans T3 (.inl rfl)
  clear S2 R2 Y2 D2 K2 T3
  go_wp2_with fail
  refine (rgetI_ok w3 g R bs (p + 1) 1 D3 HBS.out (by omega) (by omega) (by have : (1 : Int).toNat = 1 := rfl; omega)).mono ?_
  rw [show (1 : Int).toNat = 1 from rfl, HU.out]
  rintro e w4 ⟨rfl, D4, T4⟩
  have S4 := S3.touch T4 (by omega) (by simp)
  have R4 := R3.touch T4 (by omega) (by simp)
  have Y4 := Y3.touch T4 (by omega) (by simp)
  have K4 := K3.trans T4 (.inl rfl)
  clear S3 R3 Y3 D3 K3 T4
  go_wp2_with fail
  refine (rgetI_ok w4 g R bs (p + 2) 12 D4 HBS.out (by omega) (by omega) (by have : (12 : Int).toNat = 12 := rfl; omega)).mono ?_
  rw [show (12 : Int).toNat = 12 from rfl, HQ.out]
  rintro e w5 ⟨rfl, D5, T5⟩
  have S5 := S4.touch T5 (by omega) (by simp)
  have R5 := R4.touch T5 (by omega) (by simp)
  have Y5 := Y4.touch T5 (by omega) (by simp)
  have K5 := K4.trans T5 (.inl rfl)
  clear S4 R4 Y4 D4 K4 T5
  obtain ⟨y0, y1, y2, y3⟩ := Y5.cells4
  have f2 := Y5.frozen 2
  have f3 := Y5.frozen 3
  have R5' : Blk (w5.setCell ⟨y, 2, none⟩ (.int .i64 (A : Nat))) (w.heap.size + 1) 53 _ := R5.far (p := ⟨y, 2, none⟩) (show w.heap.size + 1 ≠ y by omega) (.int .i64 (A : Nat))
  have Y5' : Blk (w5.setCell ⟨y, 2, none⟩ (.int .i64 (A : Nat))) y 53 #[.int .i64 (N + 1), .int .u64 (V : Nat), .int .i64 (A : Nat), .int .i64 (b : Nat)] := Y5.set_ 2 (.int .i64 (A : Nat))
  have D5' := D5.put1 (r := y) hyg (NY.out y (by omega)) 2 (.int .i64 (A : Nat))
  have K5' := K5.setRow (r := y) (.inr (by omega)) 2 (.int .i64 (A : Nat))
  have S5' := S5.far (p := ⟨y, 2, none⟩) (show w.heap.size ≠ y by omega) (.int .i64 (A : Nat))
  obtain ⟨_, _, u2, _⟩ := Y5'.cells4
  have g3 := Y5'.frozen 3
  have R5b := R5'.far (p := ⟨y, 3, none⟩) (show w.heap.size + 1 ≠ y by omega) (.int .i64 (B : Nat))
  have S5b := S5'.far (p := ⟨y, 3, none⟩) (show w.heap.size ≠ y by omega) (.int .i64 (B : Nat))
  have Y5b : Blk ((w5.setCell ⟨y, 2, none⟩ (.int .i64 (A : Nat))).setCell ⟨y, 3, none⟩ (.int .i64 (B : Nat))) y 53 #[.int .i64 (N + 1), .int .u64 (V : Nat), .int .i64 (A : Nat), .int .i64 (B : Nat)] := Y5'.set_ 3 (.int .i64 (B : Nat))
  have D5b := D5'.put1 (r := y) hyg (NY.out y (by omega)) 3 (.int .i64 (B : Nat))
  have K5b := K5'.setRow (r := y) (.inr (by omega)) 3 (.int .i64 (B : Nat))
  obtain ⟨_, _, v2, v3⟩ := Y5b.cells4
  go_wp2_with fail
  clear y0 y1 y2 y3 f2 f3 u2 g3 R5' Y5' D5' K5' S5' v2 v3 R5 S5 Y5 D5 K5 wl1 wl2
  have R5 := R5b
  have S5 := S5b
  have Y5 := Y5b
  have D5 := D5b
  have K5 := K5b
  clear R5b S5b Y5b D5b K5b
  generalize (w5.setCell ⟨y, 2, none⟩ (.int .i64 (A : Nat))).setCell ⟨y, 3, none⟩ (.int .i64 (B : Nat)) = w5' at *
  refine (rgetI_no w5' g R bs (p + 14) (m : Nat) D5 HBS.out (by omega) (by omega) (by rw [Int.toNat_natCast]; omega)).mono ?_
  rintro e w6 ⟨rfl, D6, T6⟩
  have S6 := S5.touch T6 (by omega) (by simp)
  have R6 := R5.touch T6 (by omega) (by simp)
  have Y6 := Y5.touch T6 (by omega) (by simp)
  have K6 := K5.trans T6 (.inl rfl)
  clear S5 R5 Y5 D5 K5 T6
  obtain ⟨d0, d1, d2, d3⟩ := R6.cells4
  obtain ⟨e0, e1, e2, e3⟩ := R6.free4
  go_wp2_with fail
  obtain ⟨q0, q1, q2, q3⟩ := (R6.set4 (.int .i64 0) (.int .u64 0) (.int .i64 0) (.int .i64 0)).cells4
  refine bodyPost_ret (v := .tuple #[.agg #[.int .i64 0, .int .u64 0, .int .i64 0, .int .i64 0], .int .u64 0, .int .i64 50]) (by simp [results, Tryd.results46, go_sem, q0, q1, q2, q3]) rfl ⟨rfl, ⟨_, D6.set4 (by omega) NR.out _ _ _ _⟩, K6.set4 (by omega) _ _ _ _⟩

set_option maxRecDepth 100000 in
set_option maxHeartbeats 3200000 in
theorem xrGet_c8 (w : World) (g : Nat) (R : Option Nat) (bs : List Int) (p : Nat) (N : Int) (V a b : Nat) (h : Rr w g R bs p) (hbs : ∀ x ∈ bs, Byte x) (hR : ∀ k, R = some k → k < w.heap.size) (hg : rightX N a b = true) (hN : N ≠ 0) (hl : 2 ≤ ((unB bs).drop p).length) (hV : val (((unB bs).drop p).take 1) = 1) (hU : val ((((unB bs).drop p).drop 1).take 1) = 1) (Q A M : Nat) (hq : 12 ≤ ((unB bs).drop (p + 2)).length) (hQ : val (((unB bs).drop (p + 2)).take 12) = Q) (hA : Q / 64 = A) (hM : Q % 64 = M) (B : Nat) (hAM : A + (M + 1) ≤ 64) (hB : 64 - A - (M + 1) = B) (hs : 64 - A - B ≤ (((unB bs).drop (p + 14))).length) (hx : outW A B ((unB bs).drop (p + 14)) = 0) :
    Calls Tryd.prog 46 #[.pointer (some ⟨g, 0, none⟩), .agg #[.int .i64 N, .int .u64 (V : Nat), .int .i64 (a : Nat), .int .i64 (b : Nat)]] w fun e w' => e = .returned (.tuple #[.agg #[.int .i64 0, .int .u64 0, .int .i64 0, .int .i64 0], .int .u64 0, .int .i64 50]) ∧ RrS w' g R bs ∧ Touch g none w w' := by
  obtain ⟨S0, R0, H0⟩ := four_new w (.int .i64 N) (.int .u64 (V : Nat)) (.int .i64 (a : Nat)) (.int .i64 (b : Nat)) (.int .i64 0) (.int .u64 0) (.int .i64 0) (.int .i64 0) 53 53
  have hlt := h.lt
  have HBS := Lib.hid hbs
  have HR := Lib.hid hR
  have nR : R ≠ some (w.heap.size + 1) := fun e => by have := hR _ e; omega
  have NR := Lib.hid nR
  have nY : ∀ y, w.heap.size ≤ y → R ≠ some y := fun y hy e => by have := hR _ e; omega
  have NY := Lib.hid nY
  have hpl := h.place
  clear nR nY hR hbs
  rw [rest_len] at hl
  have HV := Lib.hid hV
  clear hV
  rw [List.drop_drop] at hU
  have HU := Lib.hid hU
  clear hU
  rw [rest_len] at hq
  have hA6 : A < 64 := by have := val_take_lt ((unB bs).drop (p + 2)) 12; rw [hQ] at this; omega
  have hM6 : M < 64 := by omega
  have HQ := Lib.hid hQ
  have wq1 : (Q : Int) / 64 = (A : Nat) := by omega
  have wq2 : (Q : Int) % 64 = (M : Nat) := by omega
  have wA : IntKind.i64.wrap (A : Int) = (A : Int) := i64_id (by omega) (by omega)
  have wM : IntKind.i64.wrap (M : Int) = (M : Int) := i64_id (by omega) (by omega)
  have wM1 : IntKind.i64.wrap ((M : Int) + 1) = (M : Int) + 1 := i64_id (by omega) (by omega)
  have wAM : IntKind.i64.wrap ((A : Int) + ((M : Int) + 1)) = (A : Int) + ((M : Int) + 1) := i64_id (by omega) (by omega)
  clear hQ hA hM
  have dAM : decide (64 < (A : Int) + ((M : Int) + 1)) = false := decide_eq_false (by omega)
  have wB : IntKind.i64.wrap (64 - (A : Int) - ((M : Int) + 1)) = (B : Nat) := (i64_id (by omega) (by omega)).trans (by omega)
  have hab2 : A + B ≤ 63 := by omega
  have HBN := Lib.hid (show A + M + 1 + B = 64 by omega)
  clear hB hAM
  obtain ⟨m, hm⟩ : ∃ m : Nat, 64 - A - B = m := ⟨_, rfl⟩
  have wl1 : IntKind.i64.wrap (64 - (A : Int)) = 64 - (A : Int) := i64_id (by omega) (by omega)
  have wl2 : IntKind.i64.wrap (64 - (A : Int) - (B : Int)) = (m : Nat) := (i64_id (by omega) (by omega)).trans (by omega)
  have hm64 : m ≤ 64 := by omega
  rw [hm, rest_len] at hs
  obtain ⟨Y, hY⟩ : ∃ Y, val (((unB bs).drop (p + 14)).take m) = Y := ⟨_, rfl⟩
  have hYX : Y * 2 ^ B = 0 := by rw [← hx, outW, hm, hY]
  have hX64 : 0 < 2 ^ 64 := by rw [← hx]; exact outW_lt _ _ _ (by omega)
  have DB := fun i hi => dbl_lt (i := i) hYX hX64 hi
  have HDB := Lib.hid DB
  have HYX := Lib.hid hYX
  have HYY := Lib.hid hY
  clear hx hY hYX DB hX64 hm
  have hNb : (N == 0) = false := beq_eq_false_iff_ne.2 hN
  obtain ⟨n1, n2, n3⟩ := rightX_of hg
  have hab : a = 64 ∧ b = 0 ∨ a + b ≤ 63 := by omega
  have HAB := Lib.hid hab
  have wN : IntKind.i64.wrap (N + 1) = N + 1 := by rw [IntKind.wrap_i64]; omega
  clear hN n3 hab
  have HG := Lib.hid hg
  clear hg
  go_enter Tryd.func46, Tryd.ntmps46
  go_wp2_with fail
  refine (xrefRight_yes _ V a b _ HG.out).mono ?_
  rintro e w1 ⟨rfl, hB1⟩
  have H1 := below_more H0 hB1
  have S1 := S0.below hB1
  have R1 := R0.below hB1
  have D1 := h.below H1
  have K1 := Touch.of_below H1 g none
  clear S0 R0 H0 hB1 H1
  obtain ⟨s0, s1, s2, s3⟩ := S1.cells4
  have A2 : Below w1.heap.size w1 (w1.alloc (.cells #[.int .i64 (N + 1), .int .u64 (V : Nat), .int .i64 (a : Nat), .int .i64 (b : Nat)] 53)) := (Below.refl _ w1).alloc (Nat.le_refl _) _
  have Y2 := Blk.new w1 53 #[.int .i64 (N + 1), .int .u64 (V : Nat), .int .i64 (a : Nat), .int .i64 (b : Nat)]
  have S2 := S1.below A2
  have R2 := R1.below A2
  have D2 := D1.below A2
  have K2 := K1.trans (Touch.of_below A2 g none) (.inl rfl)
  have hz1 := R1.lt
  go_wp2_with fail
  obtain ⟨y, hy⟩ : ∃ y, w1.heap.size = y := ⟨_, rfl⟩
  rw [hy] at Y2 hz1 ⊢
  generalize w1.alloc (.cells #[.int .i64 (N + 1), .int .u64 (V : Nat), .int .i64 (a : Nat), .int .i64 (b : Nat)] 53) = w2 at *
  clear A2 hy s0 s1 s2 s3 S1 R1 D1 K1 wN
  have hyg : g ≠ y := by omega
  have hyr : y ≠ w.heap.size := by omega
  have hyr1 : y ≠ w.heap.size + 1 := by omega
  have hys : w.heap.size + 1 < y := hz1
  refine (rgetI_ok w2 g R bs (p) 1 D2 HBS.out (by omega) (by omega) (by have : (1 : Int).toNat = 1 := rfl; omega)).mono ?_
  rw [show (1 : Int).toNat = 1 from rfl, HV.out]
  rintro e w3 ⟨rfl, D3, T3⟩
  have S3 := S2.touch T3 (by omega) (by simp)
  have R3 := R2.touch T3 (by omega) (by simp)
  have Y3 := Y2.touch T3 (by omega) (by simp)
  have K3 := K2.trans T3 (.inl rfl)
  clear S2 R2 Y2 D2 K2 T3
  go_wp2_with fail
  refine (rgetI_ok w3 g R bs (p + 1) 1 D3 HBS.out (by omega) (by omega) (by have : (1 : Int).toNat = 1 := rfl; omega)).mono ?_
  rw [show (1 : Int).toNat = 1 from rfl, HU.out]
  rintro e w4 ⟨rfl, D4, T4⟩
  have S4 := S3.touch T4 (by omega) (by simp)
  have R4 := R3.touch T4 (by omega) (by simp)
  have Y4 := Y3.touch T4 (by omega) (by simp)
  have K4 := K3.trans T4 (.inl rfl)
  clear S3 R3 Y3 D3 K3 T4
  go_wp2_with fail
  refine (rgetI_ok w4 g R bs (p + 2) 12 D4 HBS.out (by omega) (by omega) (by have : (12 : Int).toNat = 12 := rfl; omega)).mono ?_
  rw [show (12 : Int).toNat = 12 from rfl, HQ.out]
  rintro e w5 ⟨rfl, D5, T5⟩
  have S5 := S4.touch T5 (by omega) (by simp)
  have R5 := R4.touch T5 (by omega) (by simp)
  have Y5 := Y4.touch T5 (by omega) (by simp)
  have K5 := K4.trans T5 (.inl rfl)
  clear S4 R4 Y4 D4 K4 T5
  obtain ⟨y0, y1, y2, y3⟩ := Y5.cells4
  have f2 := Y5.frozen 2
  have f3 := Y5.frozen 3
  have R5' : Blk (w5.setCell ⟨y, 2, none⟩ (.int .i64 (A : Nat))) (w.heap.size + 1) 53 _ := R5.far (p := ⟨y, 2, none⟩) (show w.heap.size + 1 ≠ y by omega) (.int .i64 (A : Nat))
  have Y5' : Blk (w5.setCell ⟨y, 2, none⟩ (.int .i64 (A : Nat))) y 53 #[.int .i64 (N + 1), .int .u64 (V : Nat), .int .i64 (A : Nat), .int .i64 (b : Nat)] := Y5.set_ 2 (.int .i64 (A : Nat))
  have D5' := D5.put1 (r := y) hyg (NY.out y (by omega)) 2 (.int .i64 (A : Nat))
  have K5' := K5.setRow (r := y) (.inr (by omega)) 2 (.int .i64 (A : Nat))
  have S5' := S5.far (p := ⟨y, 2, none⟩) (show w.heap.size ≠ y by omega) (.int .i64 (A : Nat))
  obtain ⟨_, _, u2, _⟩ := Y5'.cells4
  have g3 := Y5'.frozen 3
  have R5b := R5'.far (p := ⟨y, 3, none⟩) (show w.heap.size + 1 ≠ y by omega) (.int .i64 (B : Nat))
  have S5b := S5'.far (p := ⟨y, 3, none⟩) (show w.heap.size ≠ y by omega) (.int .i64 (B : Nat))
  have Y5b : Blk ((w5.setCell ⟨y, 2, none⟩ (.int .i64 (A : Nat))).setCell ⟨y, 3, none⟩ (.int .i64 (B : Nat))) y 53 #[.int .i64 (N + 1), .int .u64 (V : Nat), .int .i64 (A : Nat), .int .i64 (B : Nat)] := Y5'.set_ 3 (.int .i64 (B : Nat))
  have D5b := D5'.put1 (r := y) hyg (NY.out y (by omega)) 3 (.int .i64 (B : Nat))
  have K5b := K5'.setRow (r := y) (.inr (by omega)) 3 (.int .i64 (B : Nat))
  obtain ⟨_, _, v2, v3⟩ := Y5b.cells4
  go_wp2_with fail
  clear y0 y1 y2 y3 f2 f3 u2 g3 R5' Y5' D5' K5' S5' v2 v3 R5 S5 Y5 D5 K5 wl1 wl2
  have R5 := R5b
  have S5 := S5b
  have Y5 := Y5b
  have D5 := D5b
  have K5 := K5b
  clear R5b S5b Y5b D5b K5b
  generalize (w5.setCell ⟨y, 2, none⟩ (.int .i64 (A : Nat))).setCell ⟨y, 3, none⟩ (.int .i64 (B : Nat)) = w5' at *
  refine (rgetI_ok w5' g R bs (p + 14) (m : Nat) D5 HBS.out (by omega) (by omega) (by rw [Int.toNat_natCast]; omega)).mono ?_
  rw [Int.toNat_natCast, HYY.out]
  rintro e w6 ⟨rfl, D6, T6⟩
  have S6 := S5.touch T6 (by omega) (by simp)
  have R6 := R5.touch T6 (by omega) (by simp)
  have Y6 := Y5.touch T6 (by omega) (by simp)
  have K6 := K5.trans T6 (.inl rfl)
  clear S5 R5 Y5 D5 K5 T6
  obtain ⟨y0, y1, y2, y3⟩ := Y6.cells4
  obtain ⟨s0, s1, s2, s3⟩ := S6.cells4
  go_wp2_with fail
  go_loop [17, 18] (fun xv iv => ∃ (i : Nat) (Z : Int), iv = .int .i64 i ∧ xv = .int .u64 Z ∧ i ≤ B ∧ 0 ≤ Z ∧ Hid (((Y * 2 ^ i : Nat) : Int) = Z)) (fun _ iv => B - (intOf iv).toNat)
  case atStart => exact ⟨0, (Y : Nat), rfl, rfl, Nat.zero_le _, by omega, by rw [Nat.pow_zero, Nat.mul_one]; exact rfl⟩
  case round =>
    obtain ⟨i, Z, rfl, rfl, hi, hZ0, hZ⟩ := hrel
    rcases Nat.eq_or_lt_of_le hi with e | hlt2
    · obtain rfl : Z = ((0 : Nat) : Int) := by rw [← hZ.out, e, HYX.out]
      obtain rfl : B = i := e.symm
      clear hZ hZ0 hi HDB
      clear y0 y1 y2 s0 s1 s2 s3
      obtain ⟨d0, d1, d2, d3⟩ := R6.cells4
      obtain ⟨e0, e1, e2, e3⟩ := R6.free4
      go_wp2_with fail
      obtain ⟨q0, q1, q2, q3⟩ := (R6.set4 (.int .i64 0) (.int .u64 0) (.int .i64 0) (.int .i64 0)).cells4
      refine bodyPost_ret (v := .tuple #[.agg #[.int .i64 0, .int .u64 0, .int .i64 0, .int .i64 0], .int .u64 0, .int .i64 50]) (by simp [results, Tryd.results46, go_sem, q0, q1, q2, q3]) rfl ⟨rfl, ⟨_, D6.set4 (by omega) NR.out _ _ _ _⟩, K6.set4 (by omega) _ _ _ _⟩
    · have hd := HDB.out i hlt2
      have hz2 : Z < 9223372036854775808 := by rw [← hZ.out]; omega
      have hn : Hid (((Y * 2 ^ (i + 1) : Nat) : Int) = 2 * Z) := by rw [Nat.pow_succ, ← Nat.mul_assoc, ← hZ.out]; unfold Hid; push_cast; omega
      clear hd
      go_wp2_with fail
      go_round
      case rel => exact ⟨i + 1, 2 * Z, by go_num, by first | rfl | go_num, hlt2, by omega, hn⟩
      case measure => simp [intOf]; omega

set_option maxRecDepth 100000 in
set_option maxHeartbeats 3200000 in
theorem xrGet_c9 (w : World) (g : Nat) (R : Option Nat) (bs : List Int) (p : Nat) (N : Int) (V a b : Nat) (X : Nat) (h : Rr w g R bs p) (hbs : ∀ x ∈ bs, Byte x) (hR : ∀ k, R = some k → k < w.heap.size) (hg : rightX N a b = true) (hN : N ≠ 0) (hl : 2 ≤ ((unB bs).drop p).length) (hV : val (((unB bs).drop p).take 1) = 1) (hU : val ((((unB bs).drop p).drop 1).take 1) = 1) (Q A M : Nat) (hq : 12 ≤ ((unB bs).drop (p + 2)).length) (hQ : val (((unB bs).drop (p + 2)).take 12) = Q) (hA : Q / 64 = A) (hM : Q % 64 = M) (B : Nat) (hAM : A + (M + 1) ≤ 64) (hB : 64 - A - (M + 1) = B) (hs : 64 - A - B ≤ (((unB bs).drop (p + 14))).length) (hx : outW A B ((unB bs).drop (p + 14)) = X) (hX0 : X ≠ 0) (hV2 : V < 18446744073709551616) (hcan : ¬ (lz X = A ∧ tz X = B)) :
    Calls Tryd.prog 46 #[.pointer (some ⟨g, 0, none⟩), .agg #[.int .i64 N, .int .u64 (V : Nat), .int .i64 (a : Nat), .int .i64 (b : Nat)]] w fun e w' => e = .returned (.tuple #[.agg #[.int .i64 0, .int .u64 0, .int .i64 0, .int .i64 0], .int .u64 0, .int .i64 50]) ∧ RrS w' g R bs ∧ Touch g none w w' := by
  obtain ⟨S0, R0, H0⟩ := four_new w (.int .i64 N) (.int .u64 (V : Nat)) (.int .i64 (a : Nat)) (.int .i64 (b : Nat)) (.int .i64 0) (.int .u64 0) (.int .i64 0) (.int .i64 0) 53 53
  have hlt := h.lt
  have HBS := Lib.hid hbs
  have HR := Lib.hid hR
  have nR : R ≠ some (w.heap.size + 1) := fun e => by have := hR _ e; omega
  have NR := Lib.hid nR
  have nY : ∀ y, w.heap.size ≤ y → R ≠ some y := fun y hy e => by have := hR _ e; omega
  have NY := Lib.hid nY
  have hpl := h.place
  clear nR nY hR hbs
  rw [rest_len] at hl
  have HV := Lib.hid hV
  clear hV
  rw [List.drop_drop] at hU
  have HU := Lib.hid hU
  clear hU
  rw [rest_len] at hq
  have hA6 : A < 64 := by have := val_take_lt ((unB bs).drop (p + 2)) 12; rw [hQ] at this; omega
  have hM6 : M < 64 := by omega
  have HQ := Lib.hid hQ
  have wq1 : (Q : Int) / 64 = (A : Nat) := by omega
  have wq2 : (Q : Int) % 64 = (M : Nat) := by omega
  have wA : IntKind.i64.wrap (A : Int) = (A : Int) := i64_id (by omega) (by omega)
  have wM : IntKind.i64.wrap (M : Int) = (M : Int) := i64_id (by omega) (by omega)
  have wM1 : IntKind.i64.wrap ((M : Int) + 1) = (M : Int) + 1 := i64_id (by omega) (by omega)
  have wAM : IntKind.i64.wrap ((A : Int) + ((M : Int) + 1)) = (A : Int) + ((M : Int) + 1) := i64_id (by omega) (by omega)
  clear hQ hA hM
  have dAM : decide (64 < (A : Int) + ((M : Int) + 1)) = false := decide_eq_false (by omega)
  have wB : IntKind.i64.wrap (64 - (A : Int) - ((M : Int) + 1)) = (B : Nat) := (i64_id (by omega) (by omega)).trans (by omega)
  have hab2 : A + B ≤ 63 := by omega
  have HBN := Lib.hid (show A + M + 1 + B = 64 by omega)
  clear hB hAM
  have hV := hV2
  obtain ⟨m, hm⟩ : ∃ m : Nat, 64 - A - B = m := ⟨_, rfl⟩
  have wl1 : IntKind.i64.wrap (64 - (A : Int)) = 64 - (A : Int) := i64_id (by omega) (by omega)
  have wl2 : IntKind.i64.wrap (64 - (A : Int) - (B : Int)) = (m : Nat) := (i64_id (by omega) (by omega)).trans (by omega)
  have hm64 : m ≤ 64 := by omega
  rw [hm, rest_len] at hs
  obtain ⟨Y, hY⟩ : ∃ Y, val (((unB bs).drop (p + 14)).take m) = Y := ⟨_, rfl⟩
  have hYX : Y * 2 ^ B = X := by rw [← hx, outW, hm, hY]
  have hX64 : X < 2 ^ 64 := by rw [← hx]; exact outW_lt _ _ _ (by omega)
  have DB := fun i hi => dbl_lt (i := i) hYX hX64 hi
  have HDB := Lib.hid DB
  have HYX := Lib.hid hYX
  have HYY := Lib.hid hY
  have hx0 : X ≠ 0 := hX0
  have EN := fun W => ends_any X W hX0 hX64
  have hxx := u64_xor_nat V X hV hX64
  obtain ⟨v, hv⟩ : ∃ v, V ^^^ X = v := ⟨_, rfl⟩
  rw [hv] at hxx
  have hx1 : ((X : Int) == 0) = false := beq_eq_false_iff_ne.2 (by omega)
  have hx2 : (X == 0) = false := beq_eq_false_iff_ne.2 hX0
  obtain ⟨l, hl2⟩ : ∃ l, lz X = l := ⟨_, rfl⟩
  obtain ⟨t, ht2⟩ : ∃ t, tz X = t := ⟨_, rfl⟩
  rw [hl2, ht2] at EN hcan
  have HEN := Lib.hid EN
  have hcs : (((l == A) = false ∧ ((l : Int) == (A : Int)) = false) ∧ ¬ ((l : Int) = (A : Int)) ∧ ¬ (l = A)) ∨ (l = A ∧ ((t == B) = false ∧ ((t : Int) == (B : Int)) = false) ∧ ¬ ((t : Int) = (B : Int)) ∧ ¬ (t = B)) := by
    by_cases e : l = A
    · exact .inr ⟨e, ⟨beq_eq_false_iff_ne.2 (fun e2 => hcan ⟨e, e2⟩), beq_eq_false_iff_ne.2 (fun e2 => hcan ⟨e, by omega⟩)⟩, (fun e2 => hcan ⟨e, by omega⟩), (fun e2 => hcan ⟨e, e2⟩)⟩
    · exact .inl ⟨⟨beq_eq_false_iff_ne.2 e, beq_eq_false_iff_ne.2 (by omega)⟩, by omega, e⟩
  clear hl2 ht2 hcan
  clear hx hY hYX DB hX64 hm hv hV hV2 EN hX0 hx0
  have hNb : (N == 0) = false := beq_eq_false_iff_ne.2 hN
  obtain ⟨n1, n2, n3⟩ := rightX_of hg
  have hab : a = 64 ∧ b = 0 ∨ a + b ≤ 63 := by omega
  have HAB := Lib.hid hab
  have wN : IntKind.i64.wrap (N + 1) = N + 1 := by rw [IntKind.wrap_i64]; omega
  clear hN n3 hab
  have HG := Lib.hid hg
  clear hg
  rcases hcs with ⟨⟨c1, c2⟩, c3, c4⟩ | ⟨c0, ⟨c1, c2⟩, c3, c4⟩
  all_goals
    try subst l
    go_enter Tryd.func46, Tryd.ntmps46
    go_wp2_with fail
    refine (xrefRight_yes _ V a b _ HG.out).mono ?_
    rintro e w1 ⟨rfl, hB1⟩
    have H1 := below_more H0 hB1
    have S1 := S0.below hB1
    have R1 := R0.below hB1
    have D1 := h.below H1
    have K1 := Touch.of_below H1 g none
    clear S0 R0 H0 hB1 H1
    obtain ⟨s0, s1, s2, s3⟩ := S1.cells4
    have A2 : Below w1.heap.size w1 (w1.alloc (.cells #[.int .i64 (N + 1), .int .u64 (V : Nat), .int .i64 (a : Nat), .int .i64 (b : Nat)] 53)) := (Below.refl _ w1).alloc (Nat.le_refl _) _
    have Y2 := Blk.new w1 53 #[.int .i64 (N + 1), .int .u64 (V : Nat), .int .i64 (a : Nat), .int .i64 (b : Nat)]
    have S2 := S1.below A2
    have R2 := R1.below A2
    have D2 := D1.below A2
    have K2 := K1.trans (Touch.of_below A2 g none) (.inl rfl)
    have hz1 := R1.lt
    go_wp2_with fail
    obtain ⟨y, hy⟩ : ∃ y, w1.heap.size = y := ⟨_, rfl⟩
    rw [hy] at Y2 hz1 ⊢
    generalize w1.alloc (.cells #[.int .i64 (N + 1), .int .u64 (V : Nat), .int .i64 (a : Nat), .int .i64 (b : Nat)] 53) = w2 at *
    clear A2 hy s0 s1 s2 s3 S1 R1 D1 K1 wN
    have hyg : g ≠ y := by omega
    have hyr : y ≠ w.heap.size := by omega
    have hyr1 : y ≠ w.heap.size + 1 := by omega
    have hys : w.heap.size + 1 < y := hz1
    refine (rgetI_ok w2 g R bs (p) 1 D2 HBS.out (by omega) (by omega) (by have : (1 : Int).toNat = 1 := rfl; omega)).mono ?_
    rw [show (1 : Int).toNat = 1 from rfl, HV.out]
    rintro e w3 ⟨rfl, D3, T3⟩
    have S3 := S2.touch T3 (by omega) (by simp)
    have R3 := R2.touch T3 (by omega) (by simp)
    have Y3 := Y2.touch T3 (by omega) (by simp)
    have K3 := K2.trans T3 (.inl rfl)
    clear S2 R2 Y2 D2 K2 T3
    go_wp2_with fail
    refine (rgetI_ok w3 g R bs (p + 1) 1 D3 HBS.out (by omega) (by omega) (by have : (1 : Int).toNat = 1 := rfl; omega)).mono ?_
    rw [show (1 : Int).toNat = 1 from rfl, HU.out]
    rintro e w4 ⟨rfl, D4, T4⟩
    have S4 := S3.touch T4 (by omega) (by simp)
    have R4 := R3.touch T4 (by omega) (by simp)
    have Y4 := Y3.touch T4 (by omega) (by simp)
    have K4 := K3.trans T4 (.inl rfl)
    clear S3 R3 Y3 D3 K3 T4
    go_wp2_with fail
    refine (rgetI_ok w4 g R bs (p + 2) 12 D4 HBS.out (by omega) (by omega) (by have : (12 : Int).toNat = 12 := rfl; omega)).mono ?_
    rw [show (12 : Int).toNat = 12 from rfl, HQ.out]
    rintro e w5 ⟨rfl, D5, T5⟩
    have S5 := S4.touch T5 (by omega) (by simp)
    have R5 := R4.touch T5 (by omega) (by simp)
    have Y5 := Y4.touch T5 (by omega) (by simp)
    have K5 := K4.trans T5 (.inl rfl)
    clear S4 R4 Y4 D4 K4 T5
    obtain ⟨y0, y1, y2, y3⟩ := Y5.cells4
    have f2 := Y5.frozen 2
    have f3 := Y5.frozen 3
    have R5' : Blk (w5.setCell ⟨y, 2, none⟩ (.int .i64 (A : Nat))) (w.heap.size + 1) 53 _ := R5.far (p := ⟨y, 2, none⟩) (show w.heap.size + 1 ≠ y by omega) (.int .i64 (A : Nat))
    have Y5' : Blk (w5.setCell ⟨y, 2, none⟩ (.int .i64 (A : Nat))) y 53 #[.int .i64 (N + 1), .int .u64 (V : Nat), .int .i64 (A : Nat), .int .i64 (b : Nat)] := Y5.set_ 2 (.int .i64 (A : Nat))
    have D5' := D5.put1 (r := y) hyg (NY.out y (by omega)) 2 (.int .i64 (A : Nat))
    have K5' := K5.setRow (r := y) (.inr (by omega)) 2 (.int .i64 (A : Nat))
    have S5' := S5.far (p := ⟨y, 2, none⟩) (show w.heap.size ≠ y by omega) (.int .i64 (A : Nat))
    obtain ⟨_, _, u2, _⟩ := Y5'.cells4
    have g3 := Y5'.frozen 3
    have R5b := R5'.far (p := ⟨y, 3, none⟩) (show w.heap.size + 1 ≠ y by omega) (.int .i64 (B : Nat))
    have S5b := S5'.far (p := ⟨y, 3, none⟩) (show w.heap.size ≠ y by omega) (.int .i64 (B : Nat))
    have Y5b : Blk ((w5.setCell ⟨y, 2, none⟩ (.int .i64 (A : Nat))).setCell ⟨y, 3, none⟩ (.int .i64 (B : Nat))) y 53 #[.int .i64 (N + 1), .int .u64 (V : Nat), .int .i64 (A : Nat), .int .i64 (B : Nat)] := Y5'.set_ 3 (.int .i64 (B : Nat))
    have D5b := D5'.put1 (r := y) hyg (NY.out y (by omega)) 3 (.int .i64 (B : Nat))
    have K5b := K5'.setRow (r := y) (.inr (by omega)) 3 (.int .i64 (B : Nat))
    obtain ⟨_, _, v2, v3⟩ := Y5b.cells4
    go_wp2_with fail
    clear y0 y1 y2 y3 f2 f3 u2 g3 R5' Y5' D5' K5' S5' v2 v3 R5 S5 Y5 D5 K5 wl1 wl2
    have R5 := R5b
    have S5 := S5b
    have Y5 := Y5b
    have D5 := D5b
    have K5 := K5b
    clear R5b S5b Y5b D5b K5b
    generalize (w5.setCell ⟨y, 2, none⟩ (.int .i64 (A : Nat))).setCell ⟨y, 3, none⟩ (.int .i64 (B : Nat)) = w5' at *
    refine (rgetI_ok w5' g R bs (p + 14) (m : Nat) D5 HBS.out (by omega) (by omega) (by rw [Int.toNat_natCast]; omega)).mono ?_
    rw [Int.toNat_natCast, HYY.out]
    rintro e w6 ⟨rfl, D6, T6⟩
    have S6 := S5.touch T6 (by omega) (by simp)
    have R6 := R5.touch T6 (by omega) (by simp)
    have Y6 := Y5.touch T6 (by omega) (by simp)
    have K6 := K5.trans T6 (.inl rfl)
    clear S5 R5 Y5 D5 K5 T6
    obtain ⟨y0, y1, y2, y3⟩ := Y6.cells4
    obtain ⟨s0, s1, s2, s3⟩ := S6.cells4
    go_wp2_with fail
    go_loop [17, 18] (fun xv iv => ∃ (i : Nat) (Z : Int), iv = .int .i64 i ∧ xv = .int .u64 Z ∧ i ≤ B ∧ 0 ≤ Z ∧ Hid (((Y * 2 ^ i : Nat) : Int) = Z)) (fun _ iv => B - (intOf iv).toNat)
    case atStart => exact ⟨0, (Y : Nat), rfl, rfl, Nat.zero_le _, by omega, by rw [Nat.pow_zero, Nat.mul_one]; exact rfl⟩
    case round =>
      obtain ⟨i, Z, rfl, rfl, hi, hZ0, hZ⟩ := hrel
      rcases Nat.eq_or_lt_of_le hi with e | hlt2
      · obtain rfl : Z = ((X : Nat) : Int) := by rw [← hZ.out, e, HYX.out]
        obtain rfl : B = i := e.symm
        clear hZ hZ0 hi HDB
        go_wp2_with fail
        refine (HEN.out _).mono ?_
        rintro e w8 ⟨rfl, hw8⟩
        obtain rfl : w6 = w8 := hw8.symm
        obtain ⟨d0, d1, d2, d3⟩ := R6.cells4
        obtain ⟨e0, e1, e2, e3⟩ := R6.free4
        go_wp2_with fail
        obtain ⟨q0, q1, q2, q3⟩ := (R6.set4 (.int .i64 0) (.int .u64 0) (.int .i64 0) (.int .i64 0)).cells4
        refine bodyPost_ret (v := .tuple #[.agg #[.int .i64 0, .int .u64 0, .int .i64 0, .int .i64 0], .int .u64 0, .int .i64 50]) (by simp [results, Tryd.results46, go_sem, q0, q1, q2, q3]) rfl ⟨rfl, ⟨_, D6.set4 (by omega) NR.out _ _ _ _⟩, K6.set4 (by omega) _ _ _ _⟩
      · have hd := HDB.out i hlt2
        have hz2 : Z < 9223372036854775808 := by rw [← hZ.out]; omega
        have hn : Hid (((Y * 2 ^ (i + 1) : Nat) : Int) = 2 * Z) := by rw [Nat.pow_succ, ← Nat.mul_assoc, ← hZ.out]; unfold Hid; push_cast; omega
        clear hd
        go_wp2_with fail
        go_round
        case rel => exact ⟨i + 1, 2 * Z, by go_num, by first | rfl | go_num, hlt2, by omega, hn⟩
        case measure => simp [intOf]; omega

set_option maxRecDepth 100000 in
set_option maxHeartbeats 3200000 in
theorem xrGet_c10 (w : World) (g : Nat) (R : Option Nat) (bs : List Int) (p : Nat) (N : Int) (V a b : Nat) (X : Nat) (h : Rr w g R bs p) (hbs : ∀ x ∈ bs, Byte x) (hR : ∀ k, R = some k → k < w.heap.size) (hg : rightX N a b = true) (hN : N ≠ 0) (hl : 2 ≤ ((unB bs).drop p).length) (hV : val (((unB bs).drop p).take 1) = 1) (hU : val ((((unB bs).drop p).drop 1).take 1) = 1) (Q A M : Nat) (hq : 12 ≤ ((unB bs).drop (p + 2)).length) (hQ : val (((unB bs).drop (p + 2)).take 12) = Q) (hA : Q / 64 = A) (hM : Q % 64 = M) (B : Nat) (hAM : A + (M + 1) ≤ 64) (hB : 64 - A - (M + 1) = B) (hs : 64 - A - B ≤ (((unB bs).drop (p + 14))).length) (hx : outW A B ((unB bs).drop (p + 14)) = X) (hX0 : X ≠ 0) (hV2 : V < 18446744073709551616) (hlz : lz X = A) (htz : tz X = B) (hiw : inW a b X = true) :
    Calls Tryd.prog 46 #[.pointer (some ⟨g, 0, none⟩), .agg #[.int .i64 N, .int .u64 (V : Nat), .int .i64 (a : Nat), .int .i64 (b : Nat)]] w fun e w' => e = .returned (.tuple #[.agg #[.int .i64 0, .int .u64 0, .int .i64 0, .int .i64 0], .int .u64 0, .int .i64 50]) ∧ RrS w' g R bs ∧ Touch g none w w' := by
  obtain ⟨S0, R0, H0⟩ := four_new w (.int .i64 N) (.int .u64 (V : Nat)) (.int .i64 (a : Nat)) (.int .i64 (b : Nat)) (.int .i64 0) (.int .u64 0) (.int .i64 0) (.int .i64 0) 53 53
  have hlt := h.lt
  have HBS := Lib.hid hbs
  have HR := Lib.hid hR
  have nR : R ≠ some (w.heap.size + 1) := fun e => by have := hR _ e; omega
  have NR := Lib.hid nR
  have nY : ∀ y, w.heap.size ≤ y → R ≠ some y := fun y hy e => by have := hR _ e; omega
  have NY := Lib.hid nY
  have hpl := h.place
  clear nR nY hR hbs
  rw [rest_len] at hl
  have HV := Lib.hid hV
  clear hV
  rw [List.drop_drop] at hU
  have HU := Lib.hid hU
  clear hU
  rw [rest_len] at hq
  have hA6 : A < 64 := by have := val_take_lt ((unB bs).drop (p + 2)) 12; rw [hQ] at this; omega
  have hM6 : M < 64 := by omega
  have HQ := Lib.hid hQ
  have wq1 : (Q : Int) / 64 = (A : Nat) := by omega
  have wq2 : (Q : Int) % 64 = (M : Nat) := by omega
  have wA : IntKind.i64.wrap (A : Int) = (A : Int) := i64_id (by omega) (by omega)
  have wM : IntKind.i64.wrap (M : Int) = (M : Int) := i64_id (by omega) (by omega)
  have wM1 : IntKind.i64.wrap ((M : Int) + 1) = (M : Int) + 1 := i64_id (by omega) (by omega)
  have wAM : IntKind.i64.wrap ((A : Int) + ((M : Int) + 1)) = (A : Int) + ((M : Int) + 1) := i64_id (by omega) (by omega)
  clear hQ hA hM
  have dAM : decide (64 < (A : Int) + ((M : Int) + 1)) = false := decide_eq_false (by omega)
  have wB : IntKind.i64.wrap (64 - (A : Int) - ((M : Int) + 1)) = (B : Nat) := (i64_id (by omega) (by omega)).trans (by omega)
  have hab2 : A + B ≤ 63 := by omega
  have HBN := Lib.hid (show A + M + 1 + B = 64 by omega)
  clear hB hAM
  have hV := hV2
  obtain ⟨m, hm⟩ : ∃ m : Nat, 64 - A - B = m := ⟨_, rfl⟩
  have wl1 : IntKind.i64.wrap (64 - (A : Int)) = 64 - (A : Int) := i64_id (by omega) (by omega)
  have wl2 : IntKind.i64.wrap (64 - (A : Int) - (B : Int)) = (m : Nat) := (i64_id (by omega) (by omega)).trans (by omega)
  have hm64 : m ≤ 64 := by omega
  rw [hm, rest_len] at hs
  obtain ⟨Y, hY⟩ : ∃ Y, val (((unB bs).drop (p + 14)).take m) = Y := ⟨_, rfl⟩
  have hYX : Y * 2 ^ B = X := by rw [← hx, outW, hm, hY]
  have hX64 : X < 2 ^ 64 := by rw [← hx]; exact outW_lt _ _ _ (by omega)
  have DB := fun i hi => dbl_lt (i := i) hYX hX64 hi
  have HDB := Lib.hid DB
  have HYX := Lib.hid hYX
  have HYY := Lib.hid hY
  have hx0 : X ≠ 0 := hX0
  have EN := fun W => ends_any X W hX0 hX64
  have hxx := u64_xor_nat V X hV hX64
  obtain ⟨v, hv⟩ : ∃ v, V ^^^ X = v := ⟨_, rfl⟩
  rw [hv] at hxx
  have hx1 : ((X : Int) == 0) = false := beq_eq_false_iff_ne.2 (by omega)
  have hx2 : (X == 0) = false := beq_eq_false_iff_ne.2 hX0
  rw [hlz, htz] at EN
  have HEN := Lib.hid EN
  obtain ⟨i1, i2, i3⟩ := inW_of hiw
  rw [hlz] at i2
  rw [htz] at i3
  have j1 : decide ((a : Int) < 64) = true := decide_eq_true (by omega)
  have j2 : decide ((a : Int) ≤ (A : Int)) = true := decide_eq_true (by omega)
  have j3 : decide ((b : Int) ≤ (B : Int)) = true := decide_eq_true (by omega)
  clear hlz htz hiw
  clear hx hY hYX DB hX64 hm hv hV hV2 EN hX0 hx0
  have hNb : (N == 0) = false := beq_eq_false_iff_ne.2 hN
  obtain ⟨n1, n2, n3⟩ := rightX_of hg
  have hab : a = 64 ∧ b = 0 ∨ a + b ≤ 63 := by omega
  have HAB := Lib.hid hab
  have wN : IntKind.i64.wrap (N + 1) = N + 1 := by rw [IntKind.wrap_i64]; omega
  clear hN n3 hab
  have HG := Lib.hid hg
  clear hg
  go_enter Tryd.func46, Tryd.ntmps46
  go_wp2_with fail
  refine (xrefRight_yes _ V a b _ HG.out).mono ?_
  rintro e w1 ⟨rfl, hB1⟩
  have H1 := below_more H0 hB1
  have S1 := S0.below hB1
  have R1 := R0.below hB1
  have D1 := h.below H1
  have K1 := Touch.of_below H1 g none
  clear S0 R0 H0 hB1 H1
  obtain ⟨s0, s1, s2, s3⟩ := S1.cells4
  have A2 : Below w1.heap.size w1 (w1.alloc (.cells #[.int .i64 (N + 1), .int .u64 (V : Nat), .int .i64 (a : Nat), .int .i64 (b : Nat)] 53)) := (Below.refl _ w1).alloc (Nat.le_refl _) _
  have Y2 := Blk.new w1 53 #[.int .i64 (N + 1), .int .u64 (V : Nat), .int .i64 (a : Nat), .int .i64 (b : Nat)]
  have S2 := S1.below A2
  have R2 := R1.below A2
  have D2 := D1.below A2
  have K2 := K1.trans (Touch.of_below A2 g none) (.inl rfl)
  have hz1 := R1.lt
  go_wp2_with fail
  obtain ⟨y, hy⟩ : ∃ y, w1.heap.size = y := ⟨_, rfl⟩
  rw [hy] at Y2 hz1 ⊢
  generalize w1.alloc (.cells #[.int .i64 (N + 1), .int .u64 (V : Nat), .int .i64 (a : Nat), .int .i64 (b : Nat)] 53) = w2 at *
  clear A2 hy s0 s1 s2 s3 S1 R1 D1 K1 wN
  have hyg : g ≠ y := by omega
  have hyr : y ≠ w.heap.size := by omega
  have hyr1 : y ≠ w.heap.size + 1 := by omega
  have hys : w.heap.size + 1 < y := hz1
  refine (rgetI_ok w2 g R bs (p) 1 D2 HBS.out (by omega) (by omega) (by have : (1 : Int).toNat = 1 := rfl; omega)).mono ?_
  rw [show (1 : Int).toNat = 1 from rfl, HV.out]
  rintro e w3 ⟨rfl, D3, T3⟩
  have S3 := S2.touch T3 (by omega) (by simp)
  have R3 := R2.touch T3 (by omega) (by simp)
  have Y3 := Y2.touch T3 (by omega) (by simp)
  have K3 := K2.trans T3 (.inl rfl)
  clear S2 R2 Y2 D2 K2 T3
  go_wp2_with fail
  refine (rgetI_ok w3 g R bs (p + 1) 1 D3 HBS.out (by omega) (by omega) (by have : (1 : Int).toNat = 1 := rfl; omega)).mono ?_
  rw [show (1 : Int).toNat = 1 from rfl, HU.out]
  rintro e w4 ⟨rfl, D4, T4⟩
  have S4 := S3.touch T4 (by omega) (by simp)
  have R4 := R3.touch T4 (by omega) (by simp)
  have Y4 := Y3.touch T4 (by omega) (by simp)
  have K4 := K3.trans T4 (.inl rfl)
  clear S3 R3 Y3 D3 K3 T4
  go_wp2_with fail
  refine (rgetI_ok w4 g R bs (p + 2) 12 D4 HBS.out (by omega) (by omega) (by have : (12 : Int).toNat = 12 := rfl; omega)).mono ?_
  rw [show (12 : Int).toNat = 12 from rfl, HQ.out]
  rintro e w5 ⟨rfl, D5, T5⟩
  have S5 := S4.touch T5 (by omega) (by simp)
  have R5 := R4.touch T5 (by omega) (by simp)
  have Y5 := Y4.touch T5 (by omega) (by simp)
  have K5 := K4.trans T5 (.inl rfl)
  clear S4 R4 Y4 D4 K4 T5
  obtain ⟨y0, y1, y2, y3⟩ := Y5.cells4
  have f2 := Y5.frozen 2
  have f3 := Y5.frozen 3
  have R5' : Blk (w5.setCell ⟨y, 2, none⟩ (.int .i64 (A : Nat))) (w.heap.size + 1) 53 _ := R5.far (p := ⟨y, 2, none⟩) (show w.heap.size + 1 ≠ y by omega) (.int .i64 (A : Nat))
  have Y5' : Blk (w5.setCell ⟨y, 2, none⟩ (.int .i64 (A : Nat))) y 53 #[.int .i64 (N + 1), .int .u64 (V : Nat), .int .i64 (A : Nat), .int .i64 (b : Nat)] := Y5.set_ 2 (.int .i64 (A : Nat))
  have D5' := D5.put1 (r := y) hyg (NY.out y (by omega)) 2 (.int .i64 (A : Nat))
  have K5' := K5.setRow (r := y) (.inr (by omega)) 2 (.int .i64 (A : Nat))
  have S5' := S5.far (p := ⟨y, 2, none⟩) (show w.heap.size ≠ y by omega) (.int .i64 (A : Nat))
  obtain ⟨_, _, u2, _⟩ := Y5'.cells4
  have g3 := Y5'.frozen 3
  have R5b := R5'.far (p := ⟨y, 3, none⟩) (show w.heap.size + 1 ≠ y by omega) (.int .i64 (B : Nat))
  have S5b := S5'.far (p := ⟨y, 3, none⟩) (show w.heap.size ≠ y by omega) (.int .i64 (B : Nat))
  have Y5b : Blk ((w5.setCell ⟨y, 2, none⟩ (.int .i64 (A : Nat))).setCell ⟨y, 3, none⟩ (.int .i64 (B : Nat))) y 53 #[.int .i64 (N + 1), .int .u64 (V : Nat), .int .i64 (A : Nat), .int .i64 (B : Nat)] := Y5'.set_ 3 (.int .i64 (B : Nat))
  have D5b := D5'.put1 (r := y) hyg (NY.out y (by omega)) 3 (.int .i64 (B : Nat))
  have K5b := K5'.setRow (r := y) (.inr (by omega)) 3 (.int .i64 (B : Nat))
  obtain ⟨_, _, v2, v3⟩ := Y5b.cells4
  go_wp2_with fail
  clear y0 y1 y2 y3 f2 f3 u2 g3 R5' Y5' D5' K5' S5' v2 v3 R5 S5 Y5 D5 K5 wl1 wl2
  have R5 := R5b
  have S5 := S5b
  have Y5 := Y5b
  have D5 := D5b
  have K5 := K5b
  clear R5b S5b Y5b D5b K5b
  generalize (w5.setCell ⟨y, 2, none⟩ (.int .i64 (A : Nat))).setCell ⟨y, 3, none⟩ (.int .i64 (B : Nat)) = w5' at *
  refine (rgetI_ok w5' g R bs (p + 14) (m : Nat) D5 HBS.out (by omega) (by omega) (by rw [Int.toNat_natCast]; omega)).mono ?_
  rw [Int.toNat_natCast, HYY.out]
  rintro e w6 ⟨rfl, D6, T6⟩
  have S6 := S5.touch T6 (by omega) (by simp)
  have R6 := R5.touch T6 (by omega) (by simp)
  have Y6 := Y5.touch T6 (by omega) (by simp)
  have K6 := K5.trans T6 (.inl rfl)
  clear S5 R5 Y5 D5 K5 T6
  obtain ⟨y0, y1, y2, y3⟩ := Y6.cells4
  obtain ⟨s0, s1, s2, s3⟩ := S6.cells4
  go_wp2_with fail
  go_loop [17, 18] (fun xv iv => ∃ (i : Nat) (Z : Int), iv = .int .i64 i ∧ xv = .int .u64 Z ∧ i ≤ B ∧ 0 ≤ Z ∧ Hid (((Y * 2 ^ i : Nat) : Int) = Z)) (fun _ iv => B - (intOf iv).toNat)
  case atStart => exact ⟨0, (Y : Nat), rfl, rfl, Nat.zero_le _, by omega, by rw [Nat.pow_zero, Nat.mul_one]; exact rfl⟩
  case round =>
    obtain ⟨i, Z, rfl, rfl, hi, hZ0, hZ⟩ := hrel
    rcases Nat.eq_or_lt_of_le hi with e | hlt2
    · obtain rfl : Z = ((X : Nat) : Int) := by rw [← hZ.out, e, HYX.out]
      obtain rfl : B = i := e.symm
      clear hZ hZ0 hi HDB
      go_wp2_with fail
      refine (HEN.out _).mono ?_
      rintro e w8 ⟨rfl, hw8⟩
      obtain rfl : w6 = w8 := hw8.symm
      obtain ⟨d0, d1, d2, d3⟩ := R6.cells4
      obtain ⟨e0, e1, e2, e3⟩ := R6.free4
      go_wp2_with fail
      obtain ⟨q0, q1, q2, q3⟩ := (R6.set4 (.int .i64 0) (.int .u64 0) (.int .i64 0) (.int .i64 0)).cells4
      refine bodyPost_ret (v := .tuple #[.agg #[.int .i64 0, .int .u64 0, .int .i64 0, .int .i64 0], .int .u64 0, .int .i64 50]) (by simp [results, Tryd.results46, go_sem, q0, q1, q2, q3]) rfl ⟨rfl, ⟨_, D6.set4 (by omega) NR.out _ _ _ _⟩, K6.set4 (by omega) _ _ _ _⟩
    · have hd := HDB.out i hlt2
      have hz2 : Z < 9223372036854775808 := by rw [← hZ.out]; omega
      have hn : Hid (((Y * 2 ^ (i + 1) : Nat) : Int) = 2 * Z) := by rw [Nat.pow_succ, ← Nat.mul_assoc, ← hZ.out]; unfold Hid; push_cast; omega
      clear hd
      go_wp2_with fail
      go_round
      case rel => exact ⟨i + 1, 2 * Z, by go_num, by first | rfl | go_num, hlt2, by omega, hn⟩
      case measure => simp [intOf]; omega

set_option maxRecDepth 100000 in
set_option maxHeartbeats 3200000 in
theorem xrGet_c (w : World) (g : Nat) (R : Option Nat) (bs : List Int) (p : Nat) (N : Int) (V a b : Nat) (X : Nat) (h : Rr w g R bs p) (hbs : ∀ x ∈ bs, Byte x) (hR : ∀ k, R = some k → k < w.heap.size) (hg : rightX N a b = true) (hN : N ≠ 0) (hl : 2 ≤ ((unB bs).drop p).length) (hV : val (((unB bs).drop p).take 1) = 1) (hU : val ((((unB bs).drop p).drop 1).take 1) = 1) (Q A M : Nat) (hq : 12 ≤ ((unB bs).drop (p + 2)).length) (hQ : val (((unB bs).drop (p + 2)).take 12) = Q) (hA : Q / 64 = A) (hM : Q % 64 = M) (B : Nat) (hAM : A + (M + 1) ≤ 64) (hB : 64 - A - (M + 1) = B) (hs : 64 - A - B ≤ (((unB bs).drop (p + 14))).length) (hx : outW A B ((unB bs).drop (p + 14)) = X) (hX0 : X ≠ 0) (hV2 : V < 18446744073709551616) (hlz : lz X = A) (htz : tz X = B) (hiw : inW a b X = false) :
    Calls Tryd.prog 46 #[.pointer (some ⟨g, 0, none⟩), .agg #[.int .i64 N, .int .u64 (V : Nat), .int .i64 (a : Nat), .int .i64 (b : Nat)]] w fun e w' => e = .returned (.tuple #[.agg #[.int .i64 (N + 1), .int .u64 (V ^^^ X : Nat), .int .i64 (A : Nat), .int .i64 (B : Nat)], .int .u64 (V ^^^ X : Nat), .int .i64 0]) ∧ Rr w' g R bs (p + (2 + (12 + (M + 1)))) ∧ Touch g none w w' := by
  obtain ⟨S0, R0, H0⟩ := four_new w (.int .i64 N) (.int .u64 (V : Nat)) (.int .i64 (a : Nat)) (.int .i64 (b : Nat)) (.int .i64 0) (.int .u64 0) (.int .i64 0) (.int .i64 0) 53 53
  have hlt := h.lt
  have HBS := Lib.hid hbs
  have HR := Lib.hid hR
  have nR : R ≠ some (w.heap.size + 1) := fun e => by have := hR _ e; omega
  have NR := Lib.hid nR
  have nY : ∀ y, w.heap.size ≤ y → R ≠ some y := fun y hy e => by have := hR _ e; omega
  have NY := Lib.hid nY
  have hpl := h.place
  clear nR nY hR hbs
  rw [rest_len] at hl
  have HV := Lib.hid hV
  clear hV
  rw [List.drop_drop] at hU
  have HU := Lib.hid hU
  clear hU
  rw [rest_len] at hq
  have hA6 : A < 64 := by have := val_take_lt ((unB bs).drop (p + 2)) 12; rw [hQ] at this; omega
  have hM6 : M < 64 := by omega
  have HQ := Lib.hid hQ
  have wq1 : (Q : Int) / 64 = (A : Nat) := by omega
  have wq2 : (Q : Int) % 64 = (M : Nat) := by omega
  have wA : IntKind.i64.wrap (A : Int) = (A : Int) := i64_id (by omega) (by omega)
  have wM : IntKind.i64.wrap (M : Int) = (M : Int) := i64_id (by omega) (by omega)
  have wM1 : IntKind.i64.wrap ((M : Int) + 1) = (M : Int) + 1 := i64_id (by omega) (by omega)
  have wAM : IntKind.i64.wrap ((A : Int) + ((M : Int) + 1)) = (A : Int) + ((M : Int) + 1) := i64_id (by omega) (by omega)
  clear hQ hA hM
  have dAM : decide (64 < (A : Int) + ((M : Int) + 1)) = false := decide_eq_false (by omega)
  have wB : IntKind.i64.wrap (64 - (A : Int) - ((M : Int) + 1)) = (B : Nat) := (i64_id (by omega) (by omega)).trans (by omega)
  have hab2 : A + B ≤ 63 := by omega
  have HBN := Lib.hid (show A + M + 1 + B = 64 by omega)
  clear hB hAM
  have hV := hV2
  obtain ⟨m, hm⟩ : ∃ m : Nat, 64 - A - B = m := ⟨_, rfl⟩
  have wl1 : IntKind.i64.wrap (64 - (A : Int)) = 64 - (A : Int) := i64_id (by omega) (by omega)
  have wl2 : IntKind.i64.wrap (64 - (A : Int) - (B : Int)) = (m : Nat) := (i64_id (by omega) (by omega)).trans (by omega)
  have hm64 : m ≤ 64 := by omega
  rw [hm, rest_len] at hs
  obtain ⟨Y, hY⟩ : ∃ Y, val (((unB bs).drop (p + 14)).take m) = Y := ⟨_, rfl⟩
  have hYX : Y * 2 ^ B = X := by rw [← hx, outW, hm, hY]
  have hX64 : X < 2 ^ 64 := by rw [← hx]; exact outW_lt _ _ _ (by omega)
  have DB := fun i hi => dbl_lt (i := i) hYX hX64 hi
  have HDB := Lib.hid DB
  have HYX := Lib.hid hYX
  have HYY := Lib.hid hY
  have hx0 : X ≠ 0 := hX0
  have EN := fun W => ends_any X W hX0 hX64
  have hxx := u64_xor_nat V X hV hX64
  obtain ⟨v, hv⟩ : ∃ v, V ^^^ X = v := ⟨_, rfl⟩
  rw [hv] at hxx
  have hx1 : ((X : Int) == 0) = false := beq_eq_false_iff_ne.2 (by omega)
  have hx2 : (X == 0) = false := beq_eq_false_iff_ne.2 hX0
  rw [hlz, htz] at EN
  rw [hv]
  have HEN := Lib.hid EN
  have hw := inW_no hiw
  rw [hlz, htz] at hw
  have HP := Lib.hid (show p + 14 + m = p + (2 + (12 + (M + 1))) by have := HBN.out; omega)
  have hcs : (decide ((a : Int) < 64) = false ∧ ¬ ((a : Int) < 64) ∧ ¬ (a < 64)) ∨ ((decide ((a : Int) < 64) = true ∧ (a : Int) < 64 ∧ a < 64) ∧ ((decide ((a : Int) ≤ (A : Int)) = false ∧ ¬ ((a : Int) ≤ (A : Int)) ∧ ¬ (a ≤ A)) ∨ ((decide ((a : Int) ≤ (A : Int)) = true ∧ ((a : Int) ≤ (A : Int)) ∧ a ≤ A) ∧ decide ((b : Int) ≤ (B : Int)) = false ∧ ¬ ((b : Int) ≤ (B : Int)) ∧ ¬ (b ≤ B)))) := by
    simp only [decide_eq_true_eq, decide_eq_false_iff_not]; omega
  clear hlz htz hiw hw
  clear hx hY hYX DB hX64 hm hv hV hV2 EN hX0 hx0
  have hNb : (N == 0) = false := beq_eq_false_iff_ne.2 hN
  obtain ⟨n1, n2, n3⟩ := rightX_of hg
  have hab : a = 64 ∧ b = 0 ∨ a + b ≤ 63 := by omega
  have HAB := Lib.hid hab
  have wN : IntKind.i64.wrap (N + 1) = N + 1 := by rw [IntKind.wrap_i64]; omega
  clear hN n3 hab
  have HG := Lib.hid hg
  clear hg
  rcases hcs with ⟨j1, j1p, j1n⟩ | ⟨⟨j1, j1p, j1n⟩, ⟨j2, j2p, j2n⟩ | ⟨⟨j2, j2p, j2n⟩, j3, j3p, j3n⟩⟩
  all_goals
    go_enter Tryd.func46, Tryd.ntmps46
    go_wp2_with fail
    refine (xrefRight_yes _ V a b _ HG.out).mono ?_
    rintro e w1 ⟨rfl, hB1⟩
    have H1 := below_more H0 hB1
    have S1 := S0.below hB1
    have R1 := R0.below hB1
    have D1 := h.below H1
    have K1 := Touch.of_below H1 g none
    clear S0 R0 H0 hB1 H1
    obtain ⟨s0, s1, s2, s3⟩ := S1.cells4
    have A2 : Below w1.heap.size w1 (w1.alloc (.cells #[.int .i64 (N + 1), .int .u64 (V : Nat), .int .i64 (a : Nat), .int .i64 (b : Nat)] 53)) := (Below.refl _ w1).alloc (Nat.le_refl _) _
    have Y2 := Blk.new w1 53 #[.int .i64 (N + 1), .int .u64 (V : Nat), .int .i64 (a : Nat), .int .i64 (b : Nat)]
    have S2 := S1.below A2
    have R2 := R1.below A2
    have D2 := D1.below A2
    have K2 := K1.trans (Touch.of_below A2 g none) (.inl rfl)
    have hz1 := R1.lt
    go_wp2_with fail
    obtain ⟨y, hy⟩ : ∃ y, w1.heap.size = y := ⟨_, rfl⟩
    rw [hy] at Y2 hz1 ⊢
    generalize w1.alloc (.cells #[.int .i64 (N + 1), .int .u64 (V : Nat), .int .i64 (a : Nat), .int .i64 (b : Nat)] 53) = w2 at *
    clear A2 hy s0 s1 s2 s3 S1 R1 D1 K1 wN
    have hyg : g ≠ y := by omega
    have hyr : y ≠ w.heap.size := by omega
    have hyr1 : y ≠ w.heap.size + 1 := by omega
    have hys : w.heap.size + 1 < y := hz1
    refine (rgetI_ok w2 g R bs (p) 1 D2 HBS.out (by omega) (by omega) (by have : (1 : Int).toNat = 1 := rfl; omega)).mono ?_
    rw [show (1 : Int).toNat = 1 from rfl, HV.out]
    rintro e w3 ⟨rfl, D3, T3⟩
    have S3 := S2.touch T3 (by omega) (by simp)
    have R3 := R2.touch T3 (by omega) (by simp)
    have Y3 := Y2.touch T3 (by omega) (by simp)
    have K3 := K2.trans T3 (.inl rfl)
    clear S2 R2 Y2 D2 K2 T3
    go_wp2_with fail
    refine (rgetI_ok w3 g R bs (p + 1) 1 D3 HBS.out (by omega) (by omega) (by have : (1 : Int).toNat = 1 := rfl; omega)).mono ?_
    rw [show (1 : Int).toNat = 1 from rfl, HU.out]
    rintro e w4 ⟨rfl, D4, T4⟩
    have S4 := S3.touch T4 (by omega) (by simp)
    have R4 := R3.touch T4 (by omega) (by simp)
    have Y4 := Y3.touch T4 (by omega) (by simp)
    have K4 := K3.trans T4 (.inl rfl)
    clear S3 R3 Y3 D3 K3 T4
    go_wp2_with fail
    refine (rgetI_ok w4 g R bs (p + 2) 12 D4 HBS.out (by omega) (by omega) (by have : (12 : Int).toNat = 12 := rfl; omega)).mono ?_
    rw [show (12 : Int).toNat = 12 from rfl, HQ.out]
    rintro e w5 ⟨rfl, D5, T5⟩
    have S5 := S4.touch T5 (by omega) (by simp)
    have R5 := R4.touch T5 (by omega) (by simp)
    have Y5 := Y4.touch T5 (by omega) (by simp)
    have K5 := K4.trans T5 (.inl rfl)
    clear S4 R4 Y4 D4 K4 T5
    obtain ⟨y0, y1, y2, y3⟩ := Y5.cells4
    have f2 := Y5.frozen 2
    have f3 := Y5.frozen 3
    have R5' : Blk (w5.setCell ⟨y, 2, none⟩ (.int .i64 (A : Nat))) (w.heap.size + 1) 53 _ := R5.far (p := ⟨y, 2, none⟩) (show w.heap.size + 1 ≠ y by omega) (.int .i64 (A : Nat))
    have Y5' : Blk (w5.setCell ⟨y, 2, none⟩ (.int .i64 (A : Nat))) y 53 #[.int .i64 (N + 1), .int .u64 (V : Nat), .int .i64 (A : Nat), .int .i64 (b : Nat)] := Y5.set_ 2 (.int .i64 (A : Nat))
    have D5' := D5.put1 (r := y) hyg (NY.out y (by omega)) 2 (.int .i64 (A : Nat))
    have K5' := K5.setRow (r := y) (.inr (by omega)) 2 (.int .i64 (A : Nat))
    have S5' := S5.far (p := ⟨y, 2, none⟩) (show w.heap.size ≠ y by omega) (.int .i64 (A : Nat))
    obtain ⟨_, _, u2, _⟩ := Y5'.cells4
    have g3 := Y5'.frozen 3
    have R5b := R5'.far (p := ⟨y, 3, none⟩) (show w.heap.size + 1 ≠ y by omega) (.int .i64 (B : Nat))
    have S5b := S5'.far (p := ⟨y, 3, none⟩) (show w.heap.size ≠ y by omega) (.int .i64 (B : Nat))
    have Y5b : Blk ((w5.setCell ⟨y, 2, none⟩ (.int .i64 (A : Nat))).setCell ⟨y, 3, none⟩ (.int .i64 (B : Nat))) y 53 #[.int .i64 (N + 1), .int .u64 (V : Nat), .int .i64 (A : Nat), .int .i64 (B : Nat)] := Y5'.set_ 3 (.int .i64 (B : Nat))
    have D5b := D5'.put1 (r := y) hyg (NY.out y (by omega)) 3 (.int .i64 (B : Nat))
    have K5b := K5'.setRow (r := y) (.inr (by omega)) 3 (.int .i64 (B : Nat))
    obtain ⟨_, _, v2, v3⟩ := Y5b.cells4
    go_wp2_with fail
    clear y0 y1 y2 y3 f2 f3 u2 g3 R5' Y5' D5' K5' S5' v2 v3 R5 S5 Y5 D5 K5 wl1 wl2
    have R5 := R5b
    have S5 := S5b
    have Y5 := Y5b
    have D5 := D5b
    have K5 := K5b
    clear R5b S5b Y5b D5b K5b
    generalize (w5.setCell ⟨y, 2, none⟩ (.int .i64 (A : Nat))).setCell ⟨y, 3, none⟩ (.int .i64 (B : Nat)) = w5' at *
    refine (rgetI_ok w5' g R bs (p + 14) (m : Nat) D5 HBS.out (by omega) (by omega) (by rw [Int.toNat_natCast]; omega)).mono ?_
    rw [Int.toNat_natCast, HYY.out]
    rintro e w6 ⟨rfl, D6, T6⟩
    have S6 := S5.touch T6 (by omega) (by simp)
    have R6 := R5.touch T6 (by omega) (by simp)
    have Y6 := Y5.touch T6 (by omega) (by simp)
    have K6 := K5.trans T6 (.inl rfl)
    clear S5 R5 Y5 D5 K5 T6
    obtain ⟨y0, y1, y2, y3⟩ := Y6.cells4
    obtain ⟨s0, s1, s2, s3⟩ := S6.cells4
    go_wp2_with fail
    go_loop [17, 18] (fun xv iv => ∃ (i : Nat) (Z : Int), iv = .int .i64 i ∧ xv = .int .u64 Z ∧ i ≤ B ∧ 0 ≤ Z ∧ Hid (((Y * 2 ^ i : Nat) : Int) = Z)) (fun _ iv => B - (intOf iv).toNat)
    case atStart => exact ⟨0, (Y : Nat), rfl, rfl, Nat.zero_le _, by omega, by rw [Nat.pow_zero, Nat.mul_one]; exact rfl⟩
    case round =>
      obtain ⟨i, Z, rfl, rfl, hi, hZ0, hZ⟩ := hrel
      rcases Nat.eq_or_lt_of_le hi with e | hlt2
      · obtain rfl : Z = ((X : Nat) : Int) := by rw [← hZ.out, e, HYX.out]
        obtain rfl : B = i := e.symm
        clear hZ hZ0 hi HDB
        go_wp2_with fail
        refine (HEN.out _).mono ?_
        rintro e w8 ⟨rfl, hw8⟩
        obtain rfl : w6 = w8 := hw8.symm
        have y1' := y1
        have f1 := Y6.frozen 1
        go_wp2_with fail
        have Y7 : Blk (w6.setCell ⟨y, 1, none⟩ (.int .u64 (v : Nat))) y 53 #[.int .i64 (N + 1), .int .u64 (v : Nat), .int .i64 (A : Nat), .int .i64 (B : Nat)] := Y6.set_ 1 (.int .u64 (v : Nat))
        have R7 := R6.far (p := ⟨y, 1, none⟩) (show w.heap.size + 1 ≠ y by omega) (.int .u64 (v : Nat))
        have D7 := D6.put1 (r := y) hyg (NY.out y (by omega)) 1 (.int .u64 (v : Nat))
        have K7 := K6.setRow (r := y) (.inr (by omega)) 1 (.int .u64 (v : Nat))
        clear y0 y1 y2 y3 y1' f1 s0 s1 s2 s3 S6 R6 Y6 D6 K6
        generalize w6.setCell ⟨y, 1, none⟩ (.int .u64 (v : Nat)) = w7 at *
        refine wp_region_noPanic ?_
        refine wp_region_held_drew (S := fun W : World => W.cell? ⟨y, 0, none⟩ = some (.int .i64 (N + 1)) ∧ W.cell? ⟨y, 1, none⟩ = some (.int .u64 (v : Nat)) ∧ W.cell? ⟨y, 2, none⟩ = some (.int .i64 (A : Nat)) ∧ W.cell? ⟨y, 3, none⟩ = some (.int .i64 (B : Nat))) (by kernel_rfl) ((Y7.drewN 1).cells4) (fun hSt => ?_)
        have Ra : Blk w7.drew (w.heap.size + 1) 53 _ := R7
        have Ya : Blk w7.drew y 53 #[.int .i64 (N + 1), .int .u64 (v : Nat), .int .i64 (A : Nat), .int .i64 (B : Nat)] := Y7
        have Da : Rr w7.drew g R bs _ := D7
        have Ka : Touch g none w w7.drew := K7.drewN 1
        clear R7 Y7 D7 K7
        generalize w7.drew = wa at *
        refine wpAnyH_picks [0, 1, 2] 3 (by rfl) (by kernel_rfl) (by kernel_rfl) (by kernel_rfl) (fun _ _ _ _ _ h => h) (by assumption) ?_
        simp only [picks, List.drop_succ_cons, List.drop_zero, List.take_succ_cons, List.take_zero, List.cons_append, List.nil_append]
        repeat (first
          | (refine wpY_skip (by rfl) ?_; simp only [Act.put, List.setIfInBounds_toArray, List.set_cons_zero, List.set_cons_succ])
          | (refine wpY_want (v := ?_) (by rfl) (fun W hW => ?_) ?_; rotate_left; (obtain ⟨hW0, hW1, hW2, hW3⟩ := hW; go_simp; try with_reducible rfl); simp only [Act.put, List.setIfInBounds_toArray, List.set_cons_zero, List.set_cons_succ]))
        refine wpY_nil ?_
        obtain ⟨d0, d1, d2, d3⟩ := Ra.cells4
        obtain ⟨e0, e1, e2, e3⟩ := Ra.free4
        refine wpAnyH_one 3 2 (by rfl) (by rfl) (by kernel_rfl) (fun K hK => ?_)
        go_simp
        refine hK.out _ _ ((Ya.farSet4 (g' := w.heap.size + 1) (by omega) _ _ _ _).cells4) (fun hSt => ?_)
        clear hK K
        try simp only [Act.put, List.setIfInBounds_toArray, List.set_cons_zero, List.set_cons_succ]
        refine wpAnyH_picks [4, 5] 0 (by rfl) (by kernel_rfl) (by kernel_rfl) (by kernel_rfl) (fun _ _ _ _ _ h => h) (by assumption) ?_
        simp only [picks, List.drop_succ_cons, List.drop_zero, List.take_succ_cons, List.take_zero, List.cons_append, List.nil_append]
        repeat (first
          | (refine wpY_skip (by rfl) ?_; simp only [Act.put, List.setIfInBounds_toArray, List.set_cons_zero, List.set_cons_succ])
          | (refine wpY_want (v := ?_) (by rfl) (fun W hW => ?_) ?_; rotate_left; (go_simp; try with_reducible rfl); simp only [Act.put, List.setIfInBounds_toArray, List.set_cons_zero, List.set_cons_succ]))
        refine wpY_nil ?_
        refine wpAnyH_done (by kernel_rfl) ?_ _
        refine NoPanic.normal ?_
        go_wp2_with fail
        obtain ⟨q0, q1, q2, q3⟩ := (Ra.set4 (.int .i64 (N + 1)) (.int .u64 (v : Nat)) (.int .i64 (A : Nat)) (.int .i64 (B : Nat))).cells4
        refine bodyPost_ret (v := .tuple #[.agg #[.int .i64 (N + 1), .int .u64 (v : Nat), .int .i64 (A : Nat), .int .i64 (B : Nat)], .int .u64 (v : Nat), .int .i64 0]) (by simp [results, Tryd.results46, go_sem, q0, q1, q2, q3]) rfl ⟨rfl, by rw [← HP.out]; exact Da.set4 (by omega) NR.out _ _ _ _, Ka.set4 (by omega) _ _ _ _⟩
      · have hd := HDB.out i hlt2
        have hz2 : Z < 9223372036854775808 := by rw [← hZ.out]; omega
        have hn : Hid (((Y * 2 ^ (i + 1) : Nat) : Int) = 2 * Z) := by rw [Nat.pow_succ, ← Nat.mul_assoc, ← hZ.out]; unfold Hid; push_cast; omega
        clear hd
        go_wp2_with fail
        go_round
        case rel => exact ⟨i + 1, 2 * Z, by go_num, by first | rfl | go_num, hlt2, by omega, hn⟩
        case measure => simp [intOf]; omega

theorem qsplit {l : List Bool} {A M : Nat} (hl : 12 ≤ l.length) (hA : val (l.take 6) = A) (hM : val ((l.drop 6).take 6) = M) : val (l.take 12) / 64 = A ∧ val (l.take 12) % 64 = M := by
  have h := val_12 l hl
  rw [hA, hM] at h
  have := val_take_lt (l.drop 6) 6
  rw [hM] at this
  omega
theorem xrGet_ok (w : World) (g : Nat) (R : Option Nat) (bs : List Int) (p : Nat) (N : Int) (V a b : Nat) (v A B c : Nat) (h : Rr w g R bs p) (hbs : ∀ x ∈ bs, Byte x) (hR : ∀ k, R = some k → k < w.heap.size) (hg : rightX N a b = true) (hV2 : V < 18446744073709551616) (hG : getX ((unB bs).drop p) N V a b = (0, v, A, B, c)) :
    Calls Tryd.prog 46 #[.pointer (some ⟨g, 0, none⟩), .agg #[.int .i64 N, .int .u64 (V : Nat), .int .i64 (a : Nat), .int .i64 (b : Nat)]] w fun e w' => e = .returned (.tuple #[.agg #[.int .i64 (N + 1), .int .u64 (v : Nat), .int .i64 (A : Nat), .int .i64 (B : Nat)], .int .u64 (v : Nat), .int .i64 0]) ∧ Rr w' g R bs (p + c) ∧ Touch g none w w' := by
  by_cases hN : N = 0
  · unfold getX at hG
    rw [if_pos hN] at hG
    split at hG
    · simp at hG
    · rename_i hl
      simp only [Prod.mk.injEq, true_and] at hG
      obtain ⟨hv, rfl, rfl, rfl⟩ := hG
      exact xrGet_f1 w g R bs p N V _ _ v h hbs hR hg hN (by omega) hv
  · rw [getX_e hN] at hG
    cases hE : getE ((unB bs).drop p) a b with
    | none => rw [hE] at hG; simp at hG
    | some r =>
      obtain ⟨X, A', B', c'⟩ := r
      rw [hE] at hG
      simp only [Prod.mk.injEq, true_and] at hG
      obtain ⟨rfl, rfl, rfl, rfl⟩ := hG
      obtain ⟨_, _, n3⟩ := rightX_of hg
      rcases getE_some hE with ⟨hl, hV, rfl, rfl, rfl, rfl⟩ | ⟨hl, hV, hU, ha, hN2, rfl, rfl, rfl⟩ | ⟨hl, hV, hU, c', hF, rfl⟩
      · rw [Nat.xor_zero]
        exact xrGet_a w g R bs p N V _ _ h hbs hR hg hN hl hV
      · rw [List.drop_drop] at hN2
        obtain ⟨hs, hx, hX0⟩ := getN_some hN2
        exact xrGet_b w g R bs p N V _ _ X h hbs hR hg hN hl hV hU ha (by omega) hs hx hX0 hV2
      · rw [List.drop_drop] at hF
        obtain ⟨M, hq, hA, hM, hAM, hB, hN2, hlz, htz, hiw, rfl⟩ := getF_some hF
        rw [List.drop_drop] at hN2
        obtain ⟨hs, hx, hX0⟩ := getN_some hN2
        obtain ⟨q1, q2⟩ := qsplit hq hA hM
        exact xrGet_c w g R bs p N V a b X h hbs hR hg hN hl hV hU _ _ M hq rfl q1 q2 _ hAM hB hs hx hX0 hV2 hlz htz hiw
theorem xrGet_no (w : World) (g : Nat) (R : Option Nat) (bs : List Int) (p : Nat) (N : Int) (V a b : Nat) (h : Rr w g R bs p) (hbs : ∀ x ∈ bs, Byte x) (hR : ∀ k, R = some k → k < w.heap.size) (hg : rightX N a b = true) (hV2 : V < 18446744073709551616) (hG : (getX ((unB bs).drop p) N V a b).1 ≠ 0) :
    Calls Tryd.prog 46 #[.pointer (some ⟨g, 0, none⟩), .agg #[.int .i64 N, .int .u64 (V : Nat), .int .i64 (a : Nat), .int .i64 (b : Nat)]] w fun e w' => e = .returned (.tuple #[.agg #[.int .i64 0, .int .u64 0, .int .i64 0, .int .i64 0], .int .u64 0, .int .i64 50]) ∧ RrS w' g R bs ∧ Touch g none w w' := by
  by_cases hN : N = 0
  · unfold getX at hG
    rw [if_pos hN] at hG
    split at hG
    · rename_i hl
      exact xrGet_f0 w g R bs p N V a b h hbs hR hg hN hl
    · simp at hG
  · rw [getX_e hN] at hG
    cases hE : getE ((unB bs).drop p) a b with
    | some r => rw [hE] at hG; simp at hG
    | none =>
      obtain ⟨_, _, n3⟩ := rightX_of hg
      rcases getE_none hE with hl | ⟨hl, hl2, hV⟩ | ⟨hl, hV, hU, ha | ⟨ha, hN2⟩⟩ | ⟨hl, hV, hU, hF⟩
      · exact xrGet_c0 w g R bs p N V a b h hbs hR hg hN hl
      · exact xrGet_c1 w g R bs p N V a b h hbs hR hg hN hl hl2 hV
      · exact xrGet_c2 w g R bs p N V a b h hbs hR hg hN hl hV hU ha
      · rw [List.drop_drop] at hN2
        rcases getN_none hN2 with hs | ⟨hs, hx⟩
        · exact xrGet_c3 w g R bs p N V a b h hbs hR hg hN hl hV hU ha (by omega) hs
        · exact xrGet_c4 w g R bs p N V a b h hbs hR hg hN hl hV hU ha (by omega) hs hx
      · rw [List.drop_drop] at hF
        rcases getF_none hF with hq | ⟨hq, A, M, hA, hM, hAM | ⟨hAM, B, hB, hN2⟩⟩
        · exact xrGet_c5 w g R bs p N V a b h hbs hR hg hN hl hV hU hq
        · obtain ⟨q1, q2⟩ := qsplit hq hA hM
          exact xrGet_c6 w g R bs p N V a b h hbs hR hg hN hl hV hU _ A M hq rfl q1 q2 hAM
        · obtain ⟨q1, q2⟩ := qsplit hq hA hM
          rw [List.drop_drop] at hN2
          rcases hN2 with hN2 | ⟨X, hN2, hc⟩
          · rcases getN_none hN2 with hs | ⟨hs, hx⟩
            · exact xrGet_c7 w g R bs p N V a b h hbs hR hg hN hl hV hU _ A M hq rfl q1 q2 B hAM hB hs
            · exact xrGet_c8 w g R bs p N V a b h hbs hR hg hN hl hV hU _ A M hq rfl q1 q2 B hAM hB hs hx
          · obtain ⟨hs, hx, hX0⟩ := getN_some hN2
            rcases hc with hc | ⟨h1, h2, h3⟩
            · exact xrGet_c9 w g R bs p N V a b X h hbs hR hg hN hl hV hU _ A M hq rfl q1 q2 B hAM hB hs hx hX0 hV2 hc
            · exact xrGet_c10 w g R bs p N V a b X h hbs hR hg hN hl hV hU _ A M hq rfl q1 q2 B hAM hB hs hx hX0 hV2 h1 h2 h3

theorem xGets_split (bs : List Int) (p : Nat) (N V a b : Int) (hbs : ∀ x ∈ bs, Byte x) (h0 : 0 ≤ V) (h1 : V < 18446744073709551616) :
    (∃ (v A B : Int) (c : Nat), (∀ (w : World) (base : Nat) (g : Nat) (R : Option Nat), Rd w base g R bs p → XorTab w → 2 ≤ base → (∀ k, R = some k → k < w.heap.size) → Calls Tryd.prog 45 #[.pointer (some ⟨g, 0, none⟩), .agg #[.int .i64 N, .int .u64 V, .int .i64 a, .int .i64 b]] w fun e w' => e = .returned (.tuple #[.agg #[.int .i64 (N + 1), .int .u64 v, .int .i64 A, .int .i64 B], .int .u64 v, .int .i64 0]) ∧ Rd w' base g R bs (p + c) ∧ Touch g none w w') ∧ (∀ (w : World) (g : Nat) (R : Option Nat), Rr w g R bs p → (∀ k, R = some k → k < w.heap.size) → Calls Tryd.prog 46 #[.pointer (some ⟨g, 0, none⟩), .agg #[.int .i64 N, .int .u64 V, .int .i64 a, .int .i64 b]] w fun e w' => e = .returned (.tuple #[.agg #[.int .i64 (N + 1), .int .u64 v, .int .i64 A, .int .i64 B], .int .u64 v, .int .i64 0]) ∧ Rr w' g R bs (p + c) ∧ Touch g none w w')) ∨
    (∃ C : Int, C ≠ 0 ∧ (∀ (w : World) (base : Nat) (g : Nat) (R : Option Nat), Rd w base g R bs p → XorTab w → 2 ≤ base → (∀ k, R = some k → k < w.heap.size) → Calls Tryd.prog 45 #[.pointer (some ⟨g, 0, none⟩), .agg #[.int .i64 N, .int .u64 V, .int .i64 a, .int .i64 b]] w fun e w' => e = .returned (.tuple #[.agg #[.int .i64 0, .int .u64 0, .int .i64 0, .int .i64 0], .int .u64 0, .int .i64 C]) ∧ RdS w' base g R bs ∧ Touch g none w w') ∧ (∀ (w : World) (g : Nat) (R : Option Nat), Rr w g R bs p → (∀ k, R = some k → k < w.heap.size) → Calls Tryd.prog 46 #[.pointer (some ⟨g, 0, none⟩), .agg #[.int .i64 N, .int .u64 V, .int .i64 a, .int .i64 b]] w fun e w' => e = .returned (.tuple #[.agg #[.int .i64 0, .int .u64 0, .int .i64 0, .int .i64 0], .int .u64 0, .int .i64 C]) ∧ RrS w' g R bs ∧ Touch g none w w')) := by
  by_cases hg : rightX N a b = true
  · obtain ⟨_, _, n3⟩ := rightX_of hg
    obtain ⟨V, rfl⟩ := Int.eq_ofNat_of_zero_le h0
    obtain ⟨a, rfl⟩ := Int.eq_ofNat_of_zero_le (show 0 ≤ a by omega)
    obtain ⟨b, rfl⟩ := Int.eq_ofNat_of_zero_le (show 0 ≤ b by omega)
    have hV : V < 18446744073709551616 := by omega
    obtain ⟨C, v, A, B, c, hG⟩ : ∃ C v A B c, getX ((unB bs).drop p) N V a b = (C, v, A, B, c) := ⟨_, _, _, _, _, rfl⟩
    by_cases hC : C = 0
    · subst hC
      exact .inl ⟨v, A, B, c, fun w base g R h hT hb hR => xGet_ok w base g R bs p N V a b v A B c h hT hb hbs hR hg hV hG, fun w g R h hR => xrGet_ok w g R bs p N V a b v A B c h hbs hR hg hV hG⟩
    · exact .inr ⟨50, by decide, fun w base g R h hT hb hR => xGet_no w base g R bs p N V a b h hT hb hbs hR hg (by rw [hG]; exact hC), fun w g R h hR => xrGet_no w g R bs p N V a b h hbs hR hg hV (by rw [hG]; exact hC)⟩
  · have hg : rightX N a b = false := by simpa using hg
    exact .inr ⟨2, by decide, fun w base g R h hT hb hR => xGet_wrong w base g R bs p N V a b h hT hb hbs hR hg, fun w g R h hR => xrGet_wrong w g R bs p N V a b h hbs hR hg⟩
end Go.Proofs.YtlgndfckmnninaaDoor
