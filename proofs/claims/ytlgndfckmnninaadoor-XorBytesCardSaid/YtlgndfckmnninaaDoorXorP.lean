/- Walks of package xor: write, Put. Conditions: as stated. -/
import Derived.Test.YtlgndfckmnninaaDoorXorW
import Derived.Test.YtlgndfckmnninaaDoorStampX
namespace Go.Proofs.YtlgndfckmnninaaDoor
open Go.RowKit
set_option linter.unusedVariables false

/-- The parts lie in block q. -/
def PartsAt (w : World) (q : Nat) (ps : List (Nat × Nat)) : Prop := ∀ j x n, ps[j]? = some (x, n) → w.cell? ⟨q, j * 2, none⟩ = some (.int .u64 (x : Nat)) ∧ w.cell? ⟨q, j * 2 + 1, none⟩ = some (.int .i64 (n : Nat))
theorem PartsAt.touch {w w' : World} {q g : Nat} {B : Option Nat} {ps : List (Nat × Nat)} (h : PartsAt w q ps) (ht : Touch g B w w') (h1 : q ≠ g) (h2 : some q ≠ B) : PartsAt w' q ps := fun j x n hj => by
  obtain ⟨c1, c2⟩ := h j x n hj
  exact ⟨(World.cell?_of_block (ht.block q (World.block_lt_of_cell? w _ c1) h1 h2)).trans c1, (World.cell?_of_block (ht.block q (World.block_lt_of_cell? w _ c2) h1 h2)).trans c2⟩
theorem PartsAt.below {w w' : World} {q : Nat} {ps : List (Nat × Nat)} (h : PartsAt w q ps) (hb : Below w.heap.size w w') : PartsAt w' q ps := fun j x n hj => by
  obtain ⟨c1, c2⟩ := h j x n hj
  exact ⟨cell_keep hb c1, cell_keep hb c2⟩
/-- The bits of some parts. -/
def partBits (ps : List (Nat × Nat)) : List Bool := ps.flatMap fun p => bitsOf p.2 p.1
theorem partBits_snoc (ps : List (Nat × Nat)) (j x n : Nat) (h : ps[j]? = some (x, n)) : partBits (ps.take j) ++ bitsOf n x = partBits (ps.take (j + 1)) := by
  have hj : j < ps.length := (List.getElem?_eq_some_iff.1 h).1
  have hx : ps[j] = (x, n) := (List.getElem?_eq_some_iff.1 h).2
  rw [List.take_succ_eq_append_getElem hj, partBits, partBits, List.flatMap_append, hx]
  simp
theorem partBits_le (ps : List (Nat × Nat)) (h : ∀ p ∈ ps, p.2 ≤ 64) : (partBits ps).length ≤ 64 * ps.length := by
  induction ps with
  | nil => simp [partBits]
  | cons p ps ih =>
    have h1 := h p (by simp)
    have h2 := ih fun q hq => h q (by simp [hq])
    simp only [partBits, List.flatMap_cons, List.length_append, length_bitsOf, List.length_cons] at *
    omega

set_option maxHeartbeats 400000 in
theorem write_any (w : World) (base g q : Nat) (B : Option Nat) (Lb : List Bool) (ps : List (Nat × Nat)) (c : Nat) (h : Wr w base g B Lb) (hp : PartsAt w q ps) (hps : ∀ p ∈ ps, p.1 < 18446744073709551616 ∧ p.2 ≤ 64) (hl : ps.length ≤ 10) (hc : ps.length ≤ c ∧ c ≤ 1000) (hLb : Lb.length ≤ 500000) (hbase : base ≤ w.heap.size) (hqg : q ≠ g) (hqB : B ≠ some q) (hq : q < w.heap.size) :
    Calls Tryd.prog 64 #[.pointer (some ⟨g, 0, none⟩), .slice (some ⟨q, 0, none⟩) ps.length c] w fun e w' =>
      e = .returned (.int .i64 0) ∧ ∃ B', Wr w' base g B' (Lb ++ partBits ps) ∧ (B' = B ∨ ∃ b, B' = some b ∧ w.heap.size ≤ b) ∧ Touch g B w w' := by
  have hlt := h.lt
  have HQB := Lib.hid hqB
  have HPS := Lib.hid hps
  obtain ⟨m, hm⟩ : ∃ m, ps.length = m := ⟨_, rfl⟩
  rw [hm] at hl hc ⊢
  have HM := Lib.hid hm
  obtain ⟨hc1, hc2⟩ := hc
  clear hps hqB hm
  go_enter Tryd.func64, Tryd.ntmps64
  go_wp2_with fail
  go_loopw [10] (fun iv wr => ∃ (j : Nat) (B' : Option Nat), iv = .int .i64 j ∧ j ≤ m ∧ Wr wr base g B' (Lb ++ partBits (ps.take j)) ∧ Hid (B' = B ∨ ∃ b, B' = some b ∧ w.heap.size ≤ b) ∧ Touch g B w wr ∧ PartsAt wr q ps) (fun iv _ => m - (intOf iv).toNat)
  case atStart => exact ⟨0, B, rfl, Nat.zero_le _, by simpa [partBits] using h, .inl rfl, Touch.refl _ _ _, hp⟩
  case round =>
    obtain ⟨j, B', rfl, hj, hW, hBB, hT, hP⟩ := hrel
    rcases Nat.lt_or_ge j m with hlt2 | hge
    · obtain ⟨⟨x, n⟩, hxn⟩ : ∃ p, ps[j]? = some p := ⟨_, List.getElem?_eq_getElem (by rw [HM.out]; exact hlt2)⟩
      obtain ⟨c1, c2⟩ := hP j x n hxn
      obtain ⟨hx, hn⟩ := HPS.out (x, n) (List.mem_of_getElem? hxn)
      have hln := partBits_le (ps.take j) fun p hp => (HPS.out p (List.mem_of_mem_take hp)).2
      have hs := partBits_snoc ps j x n hxn
      have hj2 : (ps.take j).length ≤ 10 := by rw [List.length_take]; omega
      have HS := Lib.hid hs
      have PU := fun W h1 h2 => put_int W base g B' (Lb ++ partBits (ps.take j)) x n h1 (by omega) (by simp at hx; omega) (by omega) (by simp at hn; omega) (by rw [List.length_append]; omega) h2
      have HPU := Lib.hid PU
      clear hs hxn PU hln hj2 hx hn
      have A1 : Below wr.heap.size wr (wr.alloc (.cells #[.int .u64 (x : Nat), .int .i64 (n : Nat)] 117)) := (Below.refl _ wr).alloc (Nat.le_refl _) _
      have W1 := hW.below A1
      have P1 := hP.below A1
      have T1 := hT.trans (Touch.of_below A1 g B) (.inl rfl)
      have nB : B' = B ∨ ∃ b, B' = some b ∧ w.heap.size ≤ b := hBB.out
      have nq : B' ≠ some q := fun e => by
        rcases nB with rfl | ⟨b, rfl, hb⟩
        · exact HQB.out e
        · have : b = q := by injection e
          omega
      have NB := Lib.hid nB
      have NQ := Lib.hid nq
      have hsz := hT.size
      clear nB nq hBB
      go_wp2_with fail
      refine (HPU.out _ W1 (Nat.le_trans hbase T1.size)).mono ?_
      rw [Int.toNat_natCast, Int.toNat_natCast, List.append_assoc, HS.out]
      rintro e w3 ⟨rfl, B3, W3, hB3, hT3⟩
      have P3 := P1.touch hT3 hqg (fun e => NQ.out e.symm)
      have T3 := T1.trans hT3 NB.out
      have HB3 := Lib.hid (row_step NB.out hB3 T1.size)
      clear W1 P1 T1 hB3 hT3 A1 hW hP hT c1 c2
      go_wp2_with fail
      go_roundw
      case rel => exact ⟨j + 1, B3, by go_num, hlt2, W3, HB3, T3, P3⟩
      case measure => simp [intOf]; omega
    · obtain rfl : j = m := by omega
      rw [List.take_of_length_le (by rw [HM.out]; exact Nat.le_refl _)] at hW
      go_wp2_with fail
      go_ret
      exact ⟨rfl, B', hW, hBB.out, hT⟩

theorem PartsAt.one {w : World} {q : Nat} {t : TypeId} {X M : Int} {x n : Nat} (h : Blk w q t #[.int .u64 X, .int .i64 M]) (hx : X = x) (hm : M = n) : PartsAt w q [(x, n)] := fun j y m hj => by
  subst hx hm
  match j with
  | 0 => simp at hj; obtain ⟨rfl, rfl⟩ := hj; exact h.cells2
theorem PartsAt.two {w : World} {q : Nat} {t : TypeId} {X M X2 M2 : Int} {x n x2 n2 : Nat} (h : Blk w q t #[.int .u64 X, .int .i64 M, .int .u64 X2, .int .i64 M2]) (hx : X = x) (hm : M = n) (hx2 : X2 = x2) (hm2 : M2 = n2) : PartsAt w q [(x, n), (x2, n2)] := fun j y m hj => by
  subst hx hm hx2 hm2
  match j with
  | 0 => simp at hj; obtain ⟨rfl, rfl⟩ := hj; exact ⟨h.cell 0, h.cell 1⟩
  | 1 => simp at hj; obtain ⟨rfl, rfl⟩ := hj; exact ⟨h.cell 2, h.cell 3⟩
theorem PartsAt.four {w : World} {q : Nat} {t : TypeId} {X M X2 M2 X3 M3 X4 M4 : Int} {x n x2 n2 x3 n3 x4 n4 : Nat} (h : Blk w q t #[.int .u64 X, .int .i64 M, .int .u64 X2, .int .i64 M2, .int .u64 X3, .int .i64 M3, .int .u64 X4, .int .i64 M4])
    (hx : X = x) (hm : M = n) (hx2 : X2 = x2) (hm2 : M2 = n2) (hx3 : X3 = x3) (hm3 : M3 = n3) (hx4 : X4 = x4) (hm4 : M4 = n4) : PartsAt w q [(x, n), (x2, n2), (x3, n3), (x4, n4)] := fun j y m hj => by
  subst hx hm hx2 hm2 hx3 hm3 hx4 hm4
  match j with
  | 0 => simp at hj; obtain ⟨rfl, rfl⟩ := hj; exact ⟨h.cell 0, h.cell 1⟩
  | 1 => simp at hj; obtain ⟨rfl, rfl⟩ := hj; exact ⟨h.cell 2, h.cell 3⟩
  | 2 => simp at hj; obtain ⟨rfl, rfl⟩ := hj; exact ⟨h.cell 4, h.cell 5⟩
  | 3 => simp at hj; obtain ⟨rfl, rfl⟩ := hj; exact ⟨h.cell 6, h.cell 7⟩
theorem four_new (w : World) (a b c d a' b' c' d' : Value) (t t' : TypeId) : Blk ((w.alloc (.cells #[a, b, c, d] t)).alloc (.cells #[a', b', c', d'] t')) w.heap.size t #[a, b, c, d] ∧ Blk ((w.alloc (.cells #[a, b, c, d] t)).alloc (.cells #[a', b', c', d'] t')) (w.heap.size + 1) t' #[a', b', c', d'] ∧ Below w.heap.size w ((w.alloc (.cells #[a, b, c, d] t)).alloc (.cells #[a', b', c', d'] t')) :=
  ⟨(Blk.new w t _).alloc _, by simpa using Blk.new (w.alloc (.cells #[a, b, c, d] t)) t' #[a', b', c', d'], below2 w _ _⟩
theorem Wr.set4 {w : World} {base g r : Nat} {B : Option Nat} {L : List Bool} (h : Wr w base g B L) (h1 : g ≠ r) (h2 : B ≠ some r) (x y z u : Value) : Wr (Go.Proofs.YtlgndfckmnninaaDoor.set4 w r x y z u) base g B L :=
  h.touch (touch_set4 w r x y z u) h1 (by simp) h2 (by cases B <;> simp)
theorem Wr.set2 {w : World} {base g r : Nat} {B : Option Nat} {L : List Bool} (h : Wr w base g B L) (h1 : g ≠ r) (h2 : B ≠ some r) (x y : Value) : Wr (Go.Proofs.YtlgndfckmnninaaDoor.set2 w r x y) base g B L :=
  h.touch (touch_set2 w r x y) h1 (by simp) h2 (by cases B <;> simp)

set_option maxHeartbeats 400000 in
theorem xPut_no (w : World) (g : Nat) (N V a b v : Int) (hno : rightX N a b = false) :
    Calls Tryd.prog 27 #[.pointer (some ⟨g, 0, none⟩), .agg #[.int .i64 N, .int .u64 V, .int .i64 a, .int .i64 b], .int .u64 v] w fun e w' =>
      e = .returned (.tuple #[.agg #[.int .i64 0, .int .u64 0, .int .i64 0, .int .i64 0], .int .i64 2]) ∧ Below w.heap.size w w' := by
  obtain ⟨S0, R0, H0⟩ := four_new w (.int .i64 N) (.int .u64 V) (.int .i64 a) (.int .i64 b) (.int .i64 0) (.int .u64 0) (.int .i64 0) (.int .i64 0) 48 48
  go_enter Tryd.func27, Tryd.ntmps27
  go_wp2_with fail
  refine (xright_no N V a b _ hno).mono ?_
  rintro e w1 ⟨rfl, hB1⟩
  have H1 := below_more H0 hB1
  have R1 := R0.below hB1
  obtain ⟨d0, d1, d2, d3⟩ := R1.cells4
  obtain ⟨e0, e1, e2, e3⟩ := R1.free4
  go_wp2_with fail
  obtain ⟨q0, q1, q2, q3⟩ := (R1.set4 (.int .i64 0) (.int .u64 0) (.int .i64 0) (.int .i64 0)).cells4
  refine bodyPost_ret (v := .tuple #[.agg #[.int .i64 0, .int .u64 0, .int .i64 0, .int .i64 0], .int .i64 2]) (by simp [results, Tryd.results27, go_sem, q0, q1, q2, q3]) rfl ⟨rfl, ?_⟩
  exact below_set4 H1 (by omega) _ _ _ _

set_option maxHeartbeats 3200000 in
theorem xPut_first (w : World) (base g : Nat) (B : Option Nat) (Lb : List Bool) (N : Int) (V a b v : Nat) (h : Wr w base g B Lb) (hT : XorTab w) (hLb : Lb.length ≤ 400000) (hbase : base ≤ w.heap.size) (hr : rightX N a b = true) (hV : V < 18446744073709551616) (hv : v < 18446744073709551616) (hN : N = 0) :
    Calls Tryd.prog 27 #[.pointer (some ⟨g, 0, none⟩), .agg #[.int .i64 N, .int .u64 (V : Nat), .int .i64 (a : Nat), .int .i64 (b : Nat)], .int .u64 (v : Nat)] w fun e w' =>
      e = .returned (.tuple #[.agg #[.int .i64 (N + 1), .int .u64 (v : Nat), .int .i64 (a : Nat), .int .i64 (b : Nat)], .int .i64 0]) ∧ ∃ B', Wr w' base g B' (Lb ++ bitsOf 64 v) ∧ (B' = B ∨ ∃ b, B' = some b ∧ w.heap.size ≤ b) ∧ Touch g B w w' := by
  obtain ⟨S0, R0, H0⟩ := four_new w (.int .i64 N) (.int .u64 (V : Nat)) (.int .i64 (a : Nat)) (.int .i64 (b : Nat)) (.int .i64 0) (.int .u64 0) (.int .i64 0) (.int .i64 0) 48 48
  have hlt := h.lt
  have hrow := h.row
  obtain ⟨n1, n2, n3⟩ := rightX_of hr
  have hab : a = 64 ∧ b = 0 ∨ a + b ≤ 63 := by omega
  have HR := Lib.hid hr
  have HV := Lib.hid hV
  have Hv := Lib.hid hv
  obtain ⟨X, hX⟩ : ∃ X, v ^^^ V = X := ⟨_, rfl⟩
  have hX64 : X < 18446744073709551616 := by rw [← hX]; exact xor_lt (by omega) (by omega)
  have hxx := u64_xor_nat v V hv hV
  rw [hX] at hxx
  have HX := Lib.hid hX
  have HX64 := Lib.hid hX64
  subst hN
  have hps : ∀ p ∈ [(v, 64)], p.1 < 18446744073709551616 ∧ p.2 ≤ 64 := by simp; omega
  have HPS := Lib.hid hps
  have henc : Lb ++ partBits [(v, 64)] = Lb ++ bitsOf 64 v := by simp [partBits]
  have HENC := Lib.hid henc
  clear hr hV hv hX hX64 hps henc hab
  go_enter Tryd.func27, Tryd.ntmps27
  go_wp2_with fail
  refine (xright_yes _ V a b _ HR.out).mono ?_
  rintro e w1 ⟨rfl, hB1⟩
  have H1 := below_more H0 hB1
  have S1 := S0.below hB1
  have R1 := R0.below hB1
  have W1 := h.below H1
  have hz1 : w.heap.size + 1 < w1.heap.size := R1.lt
  clear S0 R0 H0 hB1
  go_wp2_with fail
  refine wp_region_noPanic ?_
  refine wp_region_held_drew (S := fun W : World => W.cell? ⟨w.heap.size, 0, none⟩ = some (.int .i64 0) ∧ W.cell? ⟨w.heap.size, 1, none⟩ = some (.int .u64 (V : Nat)) ∧ W.cell? ⟨w.heap.size, 2, none⟩ = some (.int .i64 (a : Nat)) ∧ W.cell? ⟨w.heap.size, 3, none⟩ = some (.int .i64 (b : Nat))) (by kernel_rfl) ((S1.drewN 1).cells4) (fun hSt => ?_)
  have S2 : Blk w1.drew w.heap.size 48 _ := S1
  have R2 : Blk w1.drew (w.heap.size + 1) 48 _ := R1
  have W2 : Wr w1.drew base g B Lb := W1
  have H2 : Below w.heap.size w w1.drew := below_drewN H1 1
  have hz2 : w.heap.size + 1 < w1.drew.heap.size := hz1
  clear S1 R1 W1 H1 hz1
  generalize w1.drew = w2 at *
  refine wpAnyH_picks [0, 1, 2, 3, 4] 4 (by rfl) (by kernel_rfl) (by kernel_rfl) (by kernel_rfl) (fun _ _ _ _ _ h => h) (by assumption) ?_
  simp only [picks, List.drop_succ_cons, List.drop_zero, List.take_succ_cons, List.take_zero, List.cons_append, List.nil_append]
  repeat (first
    | (refine wpY_skip (by rfl) ?_; simp only [Act.put, List.setIfInBounds_toArray, List.set_cons_zero, List.set_cons_succ])
    | (refine wpY_want (v := ?_) (by rfl) (fun W hW => ?_) ?_; rotate_left; (obtain ⟨hW0, hW1, hW2, hW3⟩ := hW; go_simp; try with_reducible rfl); simp only [Act.put, List.setIfInBounds_toArray, List.set_cons_zero, List.set_cons_succ]))
  refine wpY_nil ?_
  refine wpAnyH_two 5 6 3 (by rfl) (by rfl) (by rfl) (by kernel_rfl) (fun K hK => ?_) (fun K hK => ?_)
  · go_simp
    refine (window_any _ V a b _).mono ?_
    rintro e w3 ⟨rfl, hB3⟩
    have S3 := S2.below hB3
    have R3 := R2.below hB3
    have W3 := W2.below hB3
    have H3 := below_more H2 hB3
    have hz3 : w.heap.size + 1 < w3.heap.size := R3.lt
    clear S2 R2 W2 H2 hB3 hz2
    refine hK.out _ _ S3.cells4 (fun hSt => ?_)
    clear hK K
    try simp only [Act.put, List.setIfInBounds_toArray, List.set_cons_zero, List.set_cons_succ]
    refine wpAnyH_one 6 2 (by rfl) (by rfl) (by kernel_rfl) (fun K hK => ?_)
    go_simp
    have A4 : Below w3.heap.size w3 (w3.alloc (.cells #[.int .i64 0, .int .i64 0] 113)) := (Below.refl _ w3).alloc (Nat.le_refl _) _
    have S4 := S3.below A4
    have R4 := R3.below A4
    have W4 := W3.below A4
    have H4 := H3.trans (A4.mono H3.size)
    have X4 := Blk.new w3 113 #[.int .i64 0, .int .i64 0]
    refine hK.out _ _ (S4.cells4) (fun hSt => ?_)
    clear hK K
    try simp only [Act.put, List.setIfInBounds_toArray, List.set_cons_zero, List.set_cons_succ]
    obtain ⟨x, hx⟩ : ∃ x, w3.heap.size = x := ⟨_, rfl⟩
    rw [hx] at X4 hz3 ⊢
    generalize w3.alloc (.cells #[.int .i64 0, .int .i64 0] 113) = w4 at *
    clear A4 S3 R3 W3 H3 hx
    refine wpAnyH_picks [7] 1 (by rfl) (by kernel_rfl) (by kernel_rfl) (by kernel_rfl) (fun _ _ _ _ _ h => h) (by assumption) ?_
    simp only [picks, List.drop_succ_cons, List.drop_zero, List.take_succ_cons, List.take_zero, List.cons_append, List.nil_append]
    repeat (first
      | (refine wpY_skip (by rfl) ?_; simp only [Act.put, List.setIfInBounds_toArray, List.set_cons_zero, List.set_cons_succ])
      | (refine wpY_want (v := ?_) (by rfl) (fun W hW => ?_) ?_; rotate_left; (go_simp; try with_reducible rfl); simp only [Act.put, List.setIfInBounds_toArray, List.set_cons_zero, List.set_cons_succ]))
    refine wpY_nil ?_
    obtain ⟨d0, d1⟩ := X4.cells2
    have f0 := X4.frozen 0
    have f1 := X4.frozen 1
    refine wpAnyH_one 8 0 (by rfl) (by rfl) (by kernel_rfl) (fun K hK => ?_)
    go_simp
    refine hK.out _ _ ((S4.farSet2 (g' := x) (by omega) _ _).cells4) (fun hSt => ?_)
    clear hK K
    try simp only [Act.put, List.setIfInBounds_toArray, List.set_cons_zero, List.set_cons_succ]
    refine wpAnyH_done (by kernel_rfl) ?_ _
    refine NoPanic.normal ?_
    have X5 := X4.set2 (.int .i64 (a : Nat)) (.int .i64 (b : Nat))
    have S5 := S4.farSet2 (g' := x) (by omega) (.int .i64 (a : Nat)) (.int .i64 (b : Nat))
    have R5 := R4.farSet2 (g' := x) (by omega) (.int .i64 (a : Nat)) (.int .i64 (b : Nat))
    have W5 := W4.set2 (r := x) (by omega) (fun e => by have := (hrow _ e).2; omega) (.int .i64 (a : Nat)) (.int .i64 (b : Nat))
    have H5 := below_set2 H4 (g := x) (by omega) (.int .i64 (a : Nat)) (.int .i64 (b : Nat))
    clear d0 d1 f0 f1 X4 S4 R4 W4 H4
    unfold set2 at *
    generalize (w4.setCell ⟨x, 0, none⟩ (.int .i64 (a : Nat))).setCell ⟨x, 1, none⟩ (.int .i64 (b : Nat)) = w5 at *
    have hx5 := X5.lt
    obtain ⟨s0, s1, s2, s3⟩ := S5.cells4
    obtain ⟨x0, x1⟩ := X5.cells2
    go_wp2_with fail
    clear s0 s1 s2 s3 x0 x1
    go_wp2_with fail
    have A6 : Below w5.heap.size w5 (w5.alloc (.cells #[.int .u64 (v : Nat), .int .i64 64] 117)) := (Below.refl _ w5).alloc (Nat.le_refl _) _
    have P6 := PartsAt.one (Blk.new w5 117 #[.int .u64 (v : Nat), .int .i64 64]) rfl rfl
    have W6 := W5.below A6
    have S6 := S5.below A6
    have R6 := R5.below A6
    have X6 := X5.below A6
    have H6 := H5.trans (A6.mono H5.size)
    obtain ⟨q, hq⟩ : ∃ q, w5.heap.size = q := ⟨_, rfl⟩
    have hq6 : q < (w5.alloc (.cells #[.int .u64 (v : Nat), .int .i64 64] 117)).heap.size := by simp; omega
    have hxq : x < q := by omega
    rw [hq] at P6 ⊢
    generalize w5.alloc (.cells #[.int .u64 (v : Nat), .int .i64 64] 117) = w6 at *
    clear A6 W5 S5 R5 X5 H5 hq
    have hgq : q ≠ g := by omega
    have hBq : B ≠ some q := fun e => by have := (hrow _ e).2; omega
    refine (write_any w6 base g q B Lb [(v, 64)] 1 W6 P6 HPS.out (by simp) (by simp) (by omega) (Nat.le_trans hbase H6.size) hgq hBq hq6).mono ?_
    rintro e w7 ⟨rfl, B7, W7, hB7, hT7⟩
    rw [HENC.out] at W7
    have S7 := S6.touch hT7 (by omega) (fun e => by have := (hrow _ e.symm).2; omega)
    have R7 := R6.touch hT7 (by omega) (fun e => by have := (hrow _ e.symm).2; omega)
    have X7 := X6.touch hT7 (by omega) (fun e => by have := (hrow _ e.symm).2; omega)
    have T7 := (Touch.of_below H6 g B).trans hT7 (.inl rfl)
    have nb : ∀ r, w.heap.size ≤ r → r < q → B7 ≠ some r := fun r h1 h2 e => by
      rcases hB7 with rfl | ⟨b, rfl, hb⟩
      · have := (hrow _ e).2; omega
      · have : b = r := by injection e
        omega
    have NB := Lib.hid nb
    have hBB : B7 = B ∨ ∃ b, B7 = some b ∧ w.heap.size ≤ b := by
      rcases hB7 with rfl | ⟨b, rfl, hb⟩
      · exact .inl rfl
      · exact .inr ⟨b, rfl, Nat.le_trans H6.size hb⟩
    have HBB := Lib.hid hBB
    have hz7 := T7.size
    clear nb hBB hB7 hT7 W6 S6 R6 X6 H6
    obtain ⟨s0, s1, s2, s3⟩ := S7.cells4
    obtain ⟨x0, x1⟩ := X7.cells2
    go_wp2_with fail
    refine (xnext_any _ V a b v a b _ n1 n2).mono ?_
    rintro e w8 ⟨rfl, hB8⟩
    have R8 := R7.below hB8
    have W8 := W7.below hB8
    have T8 := T7.trans (Touch.of_below hB8 g B) (.inl rfl)
    clear s0 s1 s2 s3 x0 x1
    obtain ⟨d0, d1, d2, d3⟩ := R8.cells4
    obtain ⟨e0, e1, e2, e3⟩ := R8.free4
    go_wp2_with fail
    obtain ⟨q0, q1, q2, q3⟩ := (R8.set4 (.int .i64 1) (.int .u64 (v : Nat)) (.int .i64 (a : Nat)) (.int .i64 (b : Nat))).cells4
    refine bodyPost_ret (v := .tuple #[.agg #[.int .i64 1, .int .u64 (v : Nat), .int .i64 (a : Nat), .int .i64 (b : Nat)], .int .i64 0]) (by simp [results, Tryd.results27, go_sem, q0, q1, q2, q3]) rfl ⟨rfl, B7, W8.set4 (by omega) (NB.out _ (by omega) (by omega)) _ _ _ _, HBB.out, T8.set4 (by omega) _ _ _ _⟩
  · go_simp
    have A3 : Below w2.heap.size w2 (w2.alloc (.cells #[.int .i64 0, .int .i64 0] 113)) := (Below.refl _ w2).alloc (Nat.le_refl _) _
    have S3 := S2.below A3
    have R3 := R2.below A3
    have W3 := W2.below A3
    have H3 := H2.trans (A3.mono H2.size)
    have X3 := Blk.new w2 113 #[.int .i64 0, .int .i64 0]
    have hz3 := hz2
    refine hK.out _ _ S3.cells4 (fun hSt => ?_)
    clear hK K
    try simp only [Act.put, List.setIfInBounds_toArray, List.set_cons_zero, List.set_cons_succ]
    obtain ⟨x, hx⟩ : ∃ x, w2.heap.size = x := ⟨_, rfl⟩
    rw [hx] at X3 hz3 ⊢
    generalize w2.alloc (.cells #[.int .i64 0, .int .i64 0] 113) = w3 at *
    clear A3 S2 R2 W2 H2 hx hz2
    refine wpAnyH_one 5 2 (by rfl) (by rfl) (by kernel_rfl) (fun K hK => ?_)
    go_simp
    refine (window_any _ V a b _).mono ?_
    rintro e w4 ⟨rfl, hB4⟩
    have S4 := S3.below hB4
    have R4 := R3.below hB4
    have W4 := W3.below hB4
    have X4 := X3.below hB4
    have H4 := below_more H3 hB4
    clear S3 R3 W3 X3 H3 hB4
    refine hK.out _ _ (S4.cells4) (fun hSt => ?_)
    clear hK K
    try simp only [Act.put, List.setIfInBounds_toArray, List.set_cons_zero, List.set_cons_succ]
    refine wpAnyH_picks [7] 1 (by rfl) (by kernel_rfl) (by kernel_rfl) (by kernel_rfl) (fun _ _ _ _ _ h => h) (by assumption) ?_
    simp only [picks, List.drop_succ_cons, List.drop_zero, List.take_succ_cons, List.take_zero, List.cons_append, List.nil_append]
    repeat (first
      | (refine wpY_skip (by rfl) ?_; simp only [Act.put, List.setIfInBounds_toArray, List.set_cons_zero, List.set_cons_succ])
      | (refine wpY_want (v := ?_) (by rfl) (fun W hW => ?_) ?_; rotate_left; (go_simp; try with_reducible rfl); simp only [Act.put, List.setIfInBounds_toArray, List.set_cons_zero, List.set_cons_succ]))
    refine wpY_nil ?_
    obtain ⟨d0, d1⟩ := X4.cells2
    have f0 := X4.frozen 0
    have f1 := X4.frozen 1
    refine wpAnyH_one 8 0 (by rfl) (by rfl) (by kernel_rfl) (fun K hK => ?_)
    go_simp
    refine hK.out _ _ ((S4.farSet2 (g' := x) (by omega) _ _).cells4) (fun hSt => ?_)
    clear hK K
    try simp only [Act.put, List.setIfInBounds_toArray, List.set_cons_zero, List.set_cons_succ]
    refine wpAnyH_done (by kernel_rfl) ?_ _
    refine NoPanic.normal ?_
    have X5 := X4.set2 (.int .i64 (a : Nat)) (.int .i64 (b : Nat))
    have S5 := S4.farSet2 (g' := x) (by omega) (.int .i64 (a : Nat)) (.int .i64 (b : Nat))
    have R5 := R4.farSet2 (g' := x) (by omega) (.int .i64 (a : Nat)) (.int .i64 (b : Nat))
    have W5 := W4.set2 (r := x) (by omega) (fun e => by have := (hrow _ e).2; omega) (.int .i64 (a : Nat)) (.int .i64 (b : Nat))
    have H5 := below_set2 H4 (g := x) (by omega) (.int .i64 (a : Nat)) (.int .i64 (b : Nat))
    clear d0 d1 f0 f1 X4 S4 R4 W4 H4
    unfold set2 at *
    generalize (w4.setCell ⟨x, 0, none⟩ (.int .i64 (a : Nat))).setCell ⟨x, 1, none⟩ (.int .i64 (b : Nat)) = w5 at *
    have hx5 := X5.lt
    obtain ⟨s0, s1, s2, s3⟩ := S5.cells4
    obtain ⟨x0, x1⟩ := X5.cells2
    go_wp2_with fail
    clear s0 s1 s2 s3 x0 x1
    go_wp2_with fail
    have A6 : Below w5.heap.size w5 (w5.alloc (.cells #[.int .u64 (v : Nat), .int .i64 64] 117)) := (Below.refl _ w5).alloc (Nat.le_refl _) _
    have P6 := PartsAt.one (Blk.new w5 117 #[.int .u64 (v : Nat), .int .i64 64]) rfl rfl
    have W6 := W5.below A6
    have S6 := S5.below A6
    have R6 := R5.below A6
    have X6 := X5.below A6
    have H6 := H5.trans (A6.mono H5.size)
    obtain ⟨q, hq⟩ : ∃ q, w5.heap.size = q := ⟨_, rfl⟩
    have hq6 : q < (w5.alloc (.cells #[.int .u64 (v : Nat), .int .i64 64] 117)).heap.size := by simp; omega
    have hxq : x < q := by omega
    rw [hq] at P6 ⊢
    generalize w5.alloc (.cells #[.int .u64 (v : Nat), .int .i64 64] 117) = w6 at *
    clear A6 W5 S5 R5 X5 H5 hq
    have hgq : q ≠ g := by omega
    have hBq : B ≠ some q := fun e => by have := (hrow _ e).2; omega
    refine (write_any w6 base g q B Lb [(v, 64)] 1 W6 P6 HPS.out (by simp) (by simp) (by omega) (Nat.le_trans hbase H6.size) hgq hBq hq6).mono ?_
    rintro e w7 ⟨rfl, B7, W7, hB7, hT7⟩
    rw [HENC.out] at W7
    have S7 := S6.touch hT7 (by omega) (fun e => by have := (hrow _ e.symm).2; omega)
    have R7 := R6.touch hT7 (by omega) (fun e => by have := (hrow _ e.symm).2; omega)
    have X7 := X6.touch hT7 (by omega) (fun e => by have := (hrow _ e.symm).2; omega)
    have T7 := (Touch.of_below H6 g B).trans hT7 (.inl rfl)
    have nb : ∀ r, w.heap.size ≤ r → r < q → B7 ≠ some r := fun r h1 h2 e => by
      rcases hB7 with rfl | ⟨b, rfl, hb⟩
      · have := (hrow _ e).2; omega
      · have : b = r := by injection e
        omega
    have NB := Lib.hid nb
    have hBB : B7 = B ∨ ∃ b, B7 = some b ∧ w.heap.size ≤ b := by
      rcases hB7 with rfl | ⟨b, rfl, hb⟩
      · exact .inl rfl
      · exact .inr ⟨b, rfl, Nat.le_trans H6.size hb⟩
    have HBB := Lib.hid hBB
    have hz7 := T7.size
    clear nb hBB hB7 hT7 W6 S6 R6 X6 H6
    obtain ⟨s0, s1, s2, s3⟩ := S7.cells4
    obtain ⟨x0, x1⟩ := X7.cells2
    go_wp2_with fail
    refine (xnext_any _ V a b v a b _ n1 n2).mono ?_
    rintro e w8 ⟨rfl, hB8⟩
    have R8 := R7.below hB8
    have W8 := W7.below hB8
    have T8 := T7.trans (Touch.of_below hB8 g B) (.inl rfl)
    clear s0 s1 s2 s3 x0 x1
    obtain ⟨d0, d1, d2, d3⟩ := R8.cells4
    obtain ⟨e0, e1, e2, e3⟩ := R8.free4
    go_wp2_with fail
    obtain ⟨q0, q1, q2, q3⟩ := (R8.set4 (.int .i64 1) (.int .u64 (v : Nat)) (.int .i64 (a : Nat)) (.int .i64 (b : Nat))).cells4
    refine bodyPost_ret (v := .tuple #[.agg #[.int .i64 1, .int .u64 (v : Nat), .int .i64 (a : Nat), .int .i64 (b : Nat)], .int .i64 0]) (by simp [results, Tryd.results27, go_sem, q0, q1, q2, q3]) rfl ⟨rfl, B7, W8.set4 (by omega) (NB.out _ (by omega) (by omega)) _ _ _ _, HBB.out, T8.set4 (by omega) _ _ _ _⟩

set_option maxHeartbeats 3200000 in
theorem xPut_same (w : World) (base g : Nat) (B : Option Nat) (Lb : List Bool) (N : Int) (V a b v : Nat) (h : Wr w base g B Lb) (hT : XorTab w) (hLb : Lb.length ≤ 400000) (hbase : base ≤ w.heap.size) (hr : rightX N a b = true) (hV : V < 18446744073709551616) (hv : v < 18446744073709551616) (hN : N ≠ 0) (hx0 : v ^^^ V = 0) :
    Calls Tryd.prog 27 #[.pointer (some ⟨g, 0, none⟩), .agg #[.int .i64 N, .int .u64 (V : Nat), .int .i64 (a : Nat), .int .i64 (b : Nat)], .int .u64 (v : Nat)] w fun e w' =>
      e = .returned (.tuple #[.agg #[.int .i64 (N + 1), .int .u64 (v : Nat), .int .i64 (a : Nat), .int .i64 (b : Nat)], .int .i64 0]) ∧ ∃ B', Wr w' base g B' (Lb ++ [false]) ∧ (B' = B ∨ ∃ b, B' = some b ∧ w.heap.size ≤ b) ∧ Touch g B w w' := by
  obtain ⟨S0, R0, H0⟩ := four_new w (.int .i64 N) (.int .u64 (V : Nat)) (.int .i64 (a : Nat)) (.int .i64 (b : Nat)) (.int .i64 0) (.int .u64 0) (.int .i64 0) (.int .i64 0) 48 48
  have hlt := h.lt
  have hrow := h.row
  obtain ⟨n1, n2, n3⟩ := rightX_of hr
  have hab : a = 64 ∧ b = 0 ∨ a + b ≤ 63 := by omega
  have HR := Lib.hid hr
  have HV := Lib.hid hV
  have Hv := Lib.hid hv
  obtain ⟨X, hX⟩ : ∃ X, v ^^^ V = X := ⟨_, rfl⟩
  have hX64 : X < 18446744073709551616 := by rw [← hX]; exact xor_lt (by omega) (by omega)
  have hxx := u64_xor_nat v V hv hV
  rw [hX] at hxx
  have HX := Lib.hid hX
  have HX64 := Lib.hid hX64
  have h0 : (N == 0) = false := beq_eq_false_iff_ne.2 hN
  have hps : ∀ p ∈ [(0, 1)], p.1 < 18446744073709551616 ∧ p.2 ≤ 64 := by simp
  have HPS := Lib.hid hps
  have henc : Lb ++ partBits [(0, 1)] = Lb ++ [false] := by simp [partBits, bitsOf]
  have HENC := Lib.hid henc
  obtain rfl : X = 0 := by rw [← hX]; exact hx0
  clear hr hV hv hX hX64 hps henc hab hN hx0
  go_enter Tryd.func27, Tryd.ntmps27
  go_wp2_with fail
  refine (xright_yes N V a b _ HR.out).mono ?_
  rintro e w1 ⟨rfl, hB1⟩
  have H1 := below_more H0 hB1
  have S1 := S0.below hB1
  have R1 := R0.below hB1
  have W1 := h.below H1
  have hz1 : w.heap.size + 1 < w1.heap.size := R1.lt
  clear S0 R0 H0 hB1
  go_wp2_with fail
  refine wp_region_noPanic ?_
  refine wp_region_held_drew (S := fun W : World => W.cell? ⟨w.heap.size, 0, none⟩ = some (.int .i64 N) ∧ W.cell? ⟨w.heap.size, 1, none⟩ = some (.int .u64 (V : Nat)) ∧ W.cell? ⟨w.heap.size, 2, none⟩ = some (.int .i64 (a : Nat)) ∧ W.cell? ⟨w.heap.size, 3, none⟩ = some (.int .i64 (b : Nat))) (by kernel_rfl) ((S1.drewN 1).cells4) (fun hSt => ?_)
  have S2 : Blk w1.drew w.heap.size 48 _ := S1
  have R2 : Blk w1.drew (w.heap.size + 1) 48 _ := R1
  have W2 : Wr w1.drew base g B Lb := W1
  have H2 : Below w.heap.size w w1.drew := below_drewN H1 1
  have hz2 : w.heap.size + 1 < w1.drew.heap.size := hz1
  clear S1 R1 W1 H1 hz1
  generalize w1.drew = w2 at *
  refine wpAnyH_picks [0, 1, 2, 3, 4] 4 (by rfl) (by kernel_rfl) (by kernel_rfl) (by kernel_rfl) (fun _ _ _ _ _ h => h) (by assumption) ?_
  simp only [picks, List.drop_succ_cons, List.drop_zero, List.take_succ_cons, List.take_zero, List.cons_append, List.nil_append]
  repeat (first
    | (refine wpY_skip (by rfl) ?_; simp only [Act.put, List.setIfInBounds_toArray, List.set_cons_zero, List.set_cons_succ])
    | (refine wpY_want (v := ?_) (by rfl) (fun W hW => ?_) ?_; rotate_left; (obtain ⟨hW0, hW1, hW2, hW3⟩ := hW; go_simp; try with_reducible rfl); simp only [Act.put, List.setIfInBounds_toArray, List.set_cons_zero, List.set_cons_succ]))
  refine wpY_nil ?_
  refine wpAnyH_two 5 6 3 (by rfl) (by rfl) (by rfl) (by kernel_rfl) (fun K hK => ?_) (fun K hK => ?_)
  · go_simp
    refine (window_any N V a b _).mono ?_
    rintro e w3 ⟨rfl, hB3⟩
    have S3 := S2.below hB3
    have R3 := R2.below hB3
    have W3 := W2.below hB3
    have H3 := below_more H2 hB3
    have hz3 : w.heap.size + 1 < w3.heap.size := R3.lt
    clear S2 R2 W2 H2 hB3 hz2
    refine hK.out _ _ S3.cells4 (fun hSt => ?_)
    clear hK K
    try simp only [Act.put, List.setIfInBounds_toArray, List.set_cons_zero, List.set_cons_succ]
    refine wpAnyH_one 6 2 (by rfl) (by rfl) (by kernel_rfl) (fun K hK => ?_)
    go_simp
    have A4 : Below w3.heap.size w3 (w3.alloc (.cells #[.int .i64 0, .int .i64 0] 113)) := (Below.refl _ w3).alloc (Nat.le_refl _) _
    have S4 := S3.below A4
    have R4 := R3.below A4
    have W4 := W3.below A4
    have H4 := H3.trans (A4.mono H3.size)
    have X4 := Blk.new w3 113 #[.int .i64 0, .int .i64 0]
    refine hK.out _ _ (S4.cells4) (fun hSt => ?_)
    clear hK K
    try simp only [Act.put, List.setIfInBounds_toArray, List.set_cons_zero, List.set_cons_succ]
    obtain ⟨x, hx⟩ : ∃ x, w3.heap.size = x := ⟨_, rfl⟩
    rw [hx] at X4 hz3 ⊢
    generalize w3.alloc (.cells #[.int .i64 0, .int .i64 0] 113) = w4 at *
    clear A4 S3 R3 W3 H3 hx
    refine wpAnyH_picks [7] 1 (by rfl) (by kernel_rfl) (by kernel_rfl) (by kernel_rfl) (fun _ _ _ _ _ h => h) (by assumption) ?_
    simp only [picks, List.drop_succ_cons, List.drop_zero, List.take_succ_cons, List.take_zero, List.cons_append, List.nil_append]
    repeat (first
      | (refine wpY_skip (by rfl) ?_; simp only [Act.put, List.setIfInBounds_toArray, List.set_cons_zero, List.set_cons_succ])
      | (refine wpY_want (v := ?_) (by rfl) (fun W hW => ?_) ?_; rotate_left; (go_simp; try with_reducible rfl); simp only [Act.put, List.setIfInBounds_toArray, List.set_cons_zero, List.set_cons_succ]))
    refine wpY_nil ?_
    obtain ⟨d0, d1⟩ := X4.cells2
    have f0 := X4.frozen 0
    have f1 := X4.frozen 1
    refine wpAnyH_one 8 0 (by rfl) (by rfl) (by kernel_rfl) (fun K hK => ?_)
    go_simp
    refine hK.out _ _ ((S4.farSet2 (g' := x) (by omega) _ _).cells4) (fun hSt => ?_)
    clear hK K
    try simp only [Act.put, List.setIfInBounds_toArray, List.set_cons_zero, List.set_cons_succ]
    refine wpAnyH_done (by kernel_rfl) ?_ _
    refine NoPanic.normal ?_
    have X5 := X4.set2 (.int .i64 (a : Nat)) (.int .i64 (b : Nat))
    have S5 := S4.farSet2 (g' := x) (by omega) (.int .i64 (a : Nat)) (.int .i64 (b : Nat))
    have R5 := R4.farSet2 (g' := x) (by omega) (.int .i64 (a : Nat)) (.int .i64 (b : Nat))
    have W5 := W4.set2 (r := x) (by omega) (fun e => by have := (hrow _ e).2; omega) (.int .i64 (a : Nat)) (.int .i64 (b : Nat))
    have H5 := below_set2 H4 (g := x) (by omega) (.int .i64 (a : Nat)) (.int .i64 (b : Nat))
    clear d0 d1 f0 f1 X4 S4 R4 W4 H4
    unfold set2 at *
    generalize (w4.setCell ⟨x, 0, none⟩ (.int .i64 (a : Nat))).setCell ⟨x, 1, none⟩ (.int .i64 (b : Nat)) = w5 at *
    have hx5 := X5.lt
    obtain ⟨s0, s1, s2, s3⟩ := S5.cells4
    obtain ⟨x0, x1⟩ := X5.cells2
    go_wp2_with fail
    clear s0 s1 s2 s3 x0 x1
    go_wp2_with fail
    have A6 : Below w5.heap.size w5 (w5.alloc (.cells #[.int .u64 0, .int .i64 1] 117)) := (Below.refl _ w5).alloc (Nat.le_refl _) _
    have P6 := PartsAt.one (Blk.new w5 117 #[.int .u64 0, .int .i64 1]) rfl rfl
    have W6 := W5.below A6
    have S6 := S5.below A6
    have R6 := R5.below A6
    have X6 := X5.below A6
    have H6 := H5.trans (A6.mono H5.size)
    obtain ⟨q, hq⟩ : ∃ q, w5.heap.size = q := ⟨_, rfl⟩
    have hq6 : q < (w5.alloc (.cells #[.int .u64 0, .int .i64 1] 117)).heap.size := by simp; omega
    have hxq : x < q := by omega
    rw [hq] at P6 ⊢
    generalize w5.alloc (.cells #[.int .u64 0, .int .i64 1] 117) = w6 at *
    clear A6 W5 S5 R5 X5 H5 hq
    have hgq : q ≠ g := by omega
    have hBq : B ≠ some q := fun e => by have := (hrow _ e).2; omega
    refine (write_any w6 base g q B Lb [(0, 1)] 1 W6 P6 HPS.out (by simp) (by simp) (by omega) (Nat.le_trans hbase H6.size) hgq hBq hq6).mono ?_
    rintro e w7 ⟨rfl, B7, W7, hB7, hT7⟩
    rw [HENC.out] at W7
    have S7 := S6.touch hT7 (by omega) (fun e => by have := (hrow _ e.symm).2; omega)
    have R7 := R6.touch hT7 (by omega) (fun e => by have := (hrow _ e.symm).2; omega)
    have X7 := X6.touch hT7 (by omega) (fun e => by have := (hrow _ e.symm).2; omega)
    have T7 := (Touch.of_below H6 g B).trans hT7 (.inl rfl)
    have nb : ∀ r, w.heap.size ≤ r → r < q → B7 ≠ some r := fun r h1 h2 e => by
      rcases hB7 with rfl | ⟨b, rfl, hb⟩
      · have := (hrow _ e).2; omega
      · have : b = r := by injection e
        omega
    have NB := Lib.hid nb
    have hBB : B7 = B ∨ ∃ b, B7 = some b ∧ w.heap.size ≤ b := by
      rcases hB7 with rfl | ⟨b, rfl, hb⟩
      · exact .inl rfl
      · exact .inr ⟨b, rfl, Nat.le_trans H6.size hb⟩
    have HBB := Lib.hid hBB
    have hz7 := T7.size
    clear nb hBB hB7 hT7 W6 S6 R6 X6 H6
    obtain ⟨s0, s1, s2, s3⟩ := S7.cells4
    obtain ⟨x0, x1⟩ := X7.cells2
    go_wp2_with fail
    refine (xnext_any N V a b v a b _ n1 n2).mono ?_
    rintro e w8 ⟨rfl, hB8⟩
    have R8 := R7.below hB8
    have W8 := W7.below hB8
    have T8 := T7.trans (Touch.of_below hB8 g B) (.inl rfl)
    clear s0 s1 s2 s3 x0 x1
    obtain ⟨d0, d1, d2, d3⟩ := R8.cells4
    obtain ⟨e0, e1, e2, e3⟩ := R8.free4
    go_wp2_with fail
    obtain ⟨q0, q1, q2, q3⟩ := (R8.set4 (.int .i64 (N + 1)) (.int .u64 (v : Nat)) (.int .i64 (a : Nat)) (.int .i64 (b : Nat))).cells4
    refine bodyPost_ret (v := .tuple #[.agg #[.int .i64 (N + 1), .int .u64 (v : Nat), .int .i64 (a : Nat), .int .i64 (b : Nat)], .int .i64 0]) (by simp [results, Tryd.results27, go_sem, q0, q1, q2, q3]) rfl ⟨rfl, B7, W8.set4 (by omega) (NB.out _ (by omega) (by omega)) _ _ _ _, HBB.out, T8.set4 (by omega) _ _ _ _⟩
  · go_simp
    have A3 : Below w2.heap.size w2 (w2.alloc (.cells #[.int .i64 0, .int .i64 0] 113)) := (Below.refl _ w2).alloc (Nat.le_refl _) _
    have S3 := S2.below A3
    have R3 := R2.below A3
    have W3 := W2.below A3
    have H3 := H2.trans (A3.mono H2.size)
    have X3 := Blk.new w2 113 #[.int .i64 0, .int .i64 0]
    have hz3 := hz2
    refine hK.out _ _ S3.cells4 (fun hSt => ?_)
    clear hK K
    try simp only [Act.put, List.setIfInBounds_toArray, List.set_cons_zero, List.set_cons_succ]
    obtain ⟨x, hx⟩ : ∃ x, w2.heap.size = x := ⟨_, rfl⟩
    rw [hx] at X3 hz3 ⊢
    generalize w2.alloc (.cells #[.int .i64 0, .int .i64 0] 113) = w3 at *
    clear A3 S2 R2 W2 H2 hx hz2
    refine wpAnyH_one 5 2 (by rfl) (by rfl) (by kernel_rfl) (fun K hK => ?_)
    go_simp
    refine (window_any N V a b _).mono ?_
    rintro e w4 ⟨rfl, hB4⟩
    have S4 := S3.below hB4
    have R4 := R3.below hB4
    have W4 := W3.below hB4
    have X4 := X3.below hB4
    have H4 := below_more H3 hB4
    clear S3 R3 W3 X3 H3 hB4
    refine hK.out _ _ (S4.cells4) (fun hSt => ?_)
    clear hK K
    try simp only [Act.put, List.setIfInBounds_toArray, List.set_cons_zero, List.set_cons_succ]
    refine wpAnyH_picks [7] 1 (by rfl) (by kernel_rfl) (by kernel_rfl) (by kernel_rfl) (fun _ _ _ _ _ h => h) (by assumption) ?_
    simp only [picks, List.drop_succ_cons, List.drop_zero, List.take_succ_cons, List.take_zero, List.cons_append, List.nil_append]
    repeat (first
      | (refine wpY_skip (by rfl) ?_; simp only [Act.put, List.setIfInBounds_toArray, List.set_cons_zero, List.set_cons_succ])
      | (refine wpY_want (v := ?_) (by rfl) (fun W hW => ?_) ?_; rotate_left; (go_simp; try with_reducible rfl); simp only [Act.put, List.setIfInBounds_toArray, List.set_cons_zero, List.set_cons_succ]))
    refine wpY_nil ?_
    obtain ⟨d0, d1⟩ := X4.cells2
    have f0 := X4.frozen 0
    have f1 := X4.frozen 1
    refine wpAnyH_one 8 0 (by rfl) (by rfl) (by kernel_rfl) (fun K hK => ?_)
    go_simp
    refine hK.out _ _ ((S4.farSet2 (g' := x) (by omega) _ _).cells4) (fun hSt => ?_)
    clear hK K
    try simp only [Act.put, List.setIfInBounds_toArray, List.set_cons_zero, List.set_cons_succ]
    refine wpAnyH_done (by kernel_rfl) ?_ _
    refine NoPanic.normal ?_
    have X5 := X4.set2 (.int .i64 (a : Nat)) (.int .i64 (b : Nat))
    have S5 := S4.farSet2 (g' := x) (by omega) (.int .i64 (a : Nat)) (.int .i64 (b : Nat))
    have R5 := R4.farSet2 (g' := x) (by omega) (.int .i64 (a : Nat)) (.int .i64 (b : Nat))
    have W5 := W4.set2 (r := x) (by omega) (fun e => by have := (hrow _ e).2; omega) (.int .i64 (a : Nat)) (.int .i64 (b : Nat))
    have H5 := below_set2 H4 (g := x) (by omega) (.int .i64 (a : Nat)) (.int .i64 (b : Nat))
    clear d0 d1 f0 f1 X4 S4 R4 W4 H4
    unfold set2 at *
    generalize (w4.setCell ⟨x, 0, none⟩ (.int .i64 (a : Nat))).setCell ⟨x, 1, none⟩ (.int .i64 (b : Nat)) = w5 at *
    have hx5 := X5.lt
    obtain ⟨s0, s1, s2, s3⟩ := S5.cells4
    obtain ⟨x0, x1⟩ := X5.cells2
    go_wp2_with fail
    clear s0 s1 s2 s3 x0 x1
    go_wp2_with fail
    have A6 : Below w5.heap.size w5 (w5.alloc (.cells #[.int .u64 0, .int .i64 1] 117)) := (Below.refl _ w5).alloc (Nat.le_refl _) _
    have P6 := PartsAt.one (Blk.new w5 117 #[.int .u64 0, .int .i64 1]) rfl rfl
    have W6 := W5.below A6
    have S6 := S5.below A6
    have R6 := R5.below A6
    have X6 := X5.below A6
    have H6 := H5.trans (A6.mono H5.size)
    obtain ⟨q, hq⟩ : ∃ q, w5.heap.size = q := ⟨_, rfl⟩
    have hq6 : q < (w5.alloc (.cells #[.int .u64 0, .int .i64 1] 117)).heap.size := by simp; omega
    have hxq : x < q := by omega
    rw [hq] at P6 ⊢
    generalize w5.alloc (.cells #[.int .u64 0, .int .i64 1] 117) = w6 at *
    clear A6 W5 S5 R5 X5 H5 hq
    have hgq : q ≠ g := by omega
    have hBq : B ≠ some q := fun e => by have := (hrow _ e).2; omega
    refine (write_any w6 base g q B Lb [(0, 1)] 1 W6 P6 HPS.out (by simp) (by simp) (by omega) (Nat.le_trans hbase H6.size) hgq hBq hq6).mono ?_
    rintro e w7 ⟨rfl, B7, W7, hB7, hT7⟩
    rw [HENC.out] at W7
    have S7 := S6.touch hT7 (by omega) (fun e => by have := (hrow _ e.symm).2; omega)
    have R7 := R6.touch hT7 (by omega) (fun e => by have := (hrow _ e.symm).2; omega)
    have X7 := X6.touch hT7 (by omega) (fun e => by have := (hrow _ e.symm).2; omega)
    have T7 := (Touch.of_below H6 g B).trans hT7 (.inl rfl)
    have nb : ∀ r, w.heap.size ≤ r → r < q → B7 ≠ some r := fun r h1 h2 e => by
      rcases hB7 with rfl | ⟨b, rfl, hb⟩
      · have := (hrow _ e).2; omega
      · have : b = r := by injection e
        omega
    have NB := Lib.hid nb
    have hBB : B7 = B ∨ ∃ b, B7 = some b ∧ w.heap.size ≤ b := by
      rcases hB7 with rfl | ⟨b, rfl, hb⟩
      · exact .inl rfl
      · exact .inr ⟨b, rfl, Nat.le_trans H6.size hb⟩
    have HBB := Lib.hid hBB
    have hz7 := T7.size
    clear nb hBB hB7 hT7 W6 S6 R6 X6 H6
    obtain ⟨s0, s1, s2, s3⟩ := S7.cells4
    obtain ⟨x0, x1⟩ := X7.cells2
    go_wp2_with fail
    refine (xnext_any N V a b v a b _ n1 n2).mono ?_
    rintro e w8 ⟨rfl, hB8⟩
    have R8 := R7.below hB8
    have W8 := W7.below hB8
    have T8 := T7.trans (Touch.of_below hB8 g B) (.inl rfl)
    clear s0 s1 s2 s3 x0 x1
    obtain ⟨d0, d1, d2, d3⟩ := R8.cells4
    obtain ⟨e0, e1, e2, e3⟩ := R8.free4
    go_wp2_with fail
    obtain ⟨q0, q1, q2, q3⟩ := (R8.set4 (.int .i64 (N + 1)) (.int .u64 (v : Nat)) (.int .i64 (a : Nat)) (.int .i64 (b : Nat))).cells4
    refine bodyPost_ret (v := .tuple #[.agg #[.int .i64 (N + 1), .int .u64 (v : Nat), .int .i64 (a : Nat), .int .i64 (b : Nat)], .int .i64 0]) (by simp [results, Tryd.results27, go_sem, q0, q1, q2, q3]) rfl ⟨rfl, B7, W8.set4 (by omega) (NB.out _ (by omega) (by omega)) _ _ _ _, HBB.out, T8.set4 (by omega) _ _ _ _⟩

set_option maxHeartbeats 3200000 in
theorem xPut_in (w : World) (base g : Nat) (B : Option Nat) (Lb : List Bool) (N : Int) (V a b v : Nat) (h : Wr w base g B Lb) (hT : XorTab w) (hLb : Lb.length ≤ 400000) (hbase : base ≤ w.heap.size) (hr : rightX N a b = true) (hV : V < 18446744073709551616) (hv : v < 18446744073709551616) (hN : N ≠ 0) (hx0 : v ^^^ V ≠ 0) (hin : inW a b (v ^^^ V) = true) :
    Calls Tryd.prog 27 #[.pointer (some ⟨g, 0, none⟩), .agg #[.int .i64 N, .int .u64 (V : Nat), .int .i64 (a : Nat), .int .i64 (b : Nat)], .int .u64 (v : Nat)] w fun e w' =>
      e = .returned (.tuple #[.agg #[.int .i64 (N + 1), .int .u64 (v : Nat), .int .i64 (a : Nat), .int .i64 (b : Nat)], .int .i64 0]) ∧ ∃ B', Wr w' base g B' (Lb ++ encD a b (v ^^^ V)) ∧ (B' = B ∨ ∃ b, B' = some b ∧ w.heap.size ≤ b) ∧ Touch g B w w' := by
  obtain ⟨S0, R0, H0⟩ := four_new w (.int .i64 N) (.int .u64 (V : Nat)) (.int .i64 (a : Nat)) (.int .i64 (b : Nat)) (.int .i64 0) (.int .u64 0) (.int .i64 0) (.int .i64 0) 48 48
  have hlt := h.lt
  have hrow := h.row
  obtain ⟨n1, n2, n3⟩ := rightX_of hr
  have hab : a = 64 ∧ b = 0 ∨ a + b ≤ 63 := by omega
  have HR := Lib.hid hr
  have HV := Lib.hid hV
  have Hv := Lib.hid hv
  obtain ⟨X, hX⟩ : ∃ X, v ^^^ V = X := ⟨_, rfl⟩
  have hX64 : X < 18446744073709551616 := by rw [← hX]; exact xor_lt (by omega) (by omega)
  have hxx := u64_xor_nat v V hv hV
  rw [hX] at hxx
  have HX := Lib.hid hX
  have HX64 := Lib.hid hX64
  have h0 : (N == 0) = false := beq_eq_false_iff_ne.2 hN
  rw [hX] at hx0 hin ⊢
  have hx1 : ((X : Int) == 0) = false := by simp; exact hx0
  have hx2 : (X == 0) = false := beq_eq_false_iff_ne.2 hx0
  have hlt3 := lz_tz hx0 (show X < 2 ^ 64 by omega)
  have AR := fun W h => around_any X W hx0 hX64 h
  obtain ⟨l, hl⟩ : ∃ l, lz X = l := ⟨_, rfl⟩
  obtain ⟨t, ht⟩ : ∃ t, tz X = t := ⟨_, rfl⟩
  rw [hl, ht] at AR hlt3
  have HO := fun W => holdsW_any a b l t W true (by rw [← hin, inW, hl, ht]; exact decide_eq_decide.2 (by omega))
  have HAR := Lib.hid AR
  have HHO := Lib.hid HO
  obtain ⟨i1, i2, i3⟩ := inW_of hin
  have hab2 : a + b ≤ 63 := by omega
  obtain ⟨Y, hY⟩ : ∃ Y : Nat, (X : Int) / 2 ^ b = (Y : Int) := ⟨X / 2 ^ b, by push_cast; rfl⟩
  have hY2 : X / 2 ^ b = Y := Int.ofNat_inj.1 (show ((X / 2 ^ b : Nat) : Int) = (Y : Int) by rw [← hY]; push_cast; rfl)
  obtain ⟨m, hm⟩ : ∃ m : Nat, (64 : Int) - (a : Int) - (b : Int) = (m : Int) := ⟨64 - a - b, by omega⟩
  have hm2 : 64 - a - b = m := by omega
  have hY64 : Y < 18446744073709551616 := by rw [← hY2]; exact Nat.lt_of_le_of_lt (Nat.div_le_self _ _) hX64
  have hps : ∀ p ∈ [(2, 2), (Y, m)], p.1 < 18446744073709551616 ∧ p.2 ≤ 64 := by simp; omega
  have HPS := Lib.hid hps
  have henc : Lb ++ partBits [(2, 2), (Y, m)] = Lb ++ encD a b X := by
    rw [encD, if_neg hx0, if_pos hin, mid, hY2, hm2]
    simp only [partBits, List.flatMap_cons, List.flatMap_nil, List.append_nil, show bitsOf 2 2 = [true, false] by decide]
  have HENC := Lib.hid henc
  have SZ := fun W => size_win a b W (by omega) (by omega) (by omega) (by omega)
  rw [hm] at SZ
  have HSZ := Lib.hid SZ
  have hb64 : (b : Int) < 64 := by omega
  clear hr hV hv hX hX64 hps henc hab hN hx0 hin AR HO hl ht hlt3 i1 i2 i3 hY2 hm2 hY64 SZ hm
  go_enter Tryd.func27, Tryd.ntmps27
  go_wp2_with fail
  refine (xright_yes N V a b _ HR.out).mono ?_
  rintro e w1 ⟨rfl, hB1⟩
  have H1 := below_more H0 hB1
  have S1 := S0.below hB1
  have R1 := R0.below hB1
  have W1 := h.below H1
  have hz1 : w.heap.size + 1 < w1.heap.size := R1.lt
  clear S0 R0 H0 hB1
  go_wp2_with fail
  refine wp_region_noPanic ?_
  refine wp_region_held_drew (S := fun W : World => W.cell? ⟨w.heap.size, 0, none⟩ = some (.int .i64 N) ∧ W.cell? ⟨w.heap.size, 1, none⟩ = some (.int .u64 (V : Nat)) ∧ W.cell? ⟨w.heap.size, 2, none⟩ = some (.int .i64 (a : Nat)) ∧ W.cell? ⟨w.heap.size, 3, none⟩ = some (.int .i64 (b : Nat))) (by kernel_rfl) ((S1.drewN 1).cells4) (fun hSt => ?_)
  have S2 : Blk w1.drew w.heap.size 48 _ := S1
  have R2 : Blk w1.drew (w.heap.size + 1) 48 _ := R1
  have W2 : Wr w1.drew base g B Lb := W1
  have H2 : Below w.heap.size w w1.drew := below_drewN H1 1
  have hz2 : w.heap.size + 1 < w1.drew.heap.size := hz1
  clear S1 R1 W1 H1 hz1
  generalize w1.drew = w2 at *
  refine wpAnyH_picks [0, 1, 2, 3, 4] 4 (by rfl) (by kernel_rfl) (by kernel_rfl) (by kernel_rfl) (fun _ _ _ _ _ h => h) (by assumption) ?_
  simp only [picks, List.drop_succ_cons, List.drop_zero, List.take_succ_cons, List.take_zero, List.cons_append, List.nil_append]
  repeat (first
    | (refine wpY_skip (by rfl) ?_; simp only [Act.put, List.setIfInBounds_toArray, List.set_cons_zero, List.set_cons_succ])
    | (refine wpY_want (v := ?_) (by rfl) (fun W hW => ?_) ?_; rotate_left; (obtain ⟨hW0, hW1, hW2, hW3⟩ := hW; go_simp; try with_reducible rfl); simp only [Act.put, List.setIfInBounds_toArray, List.set_cons_zero, List.set_cons_succ]))
  refine wpY_nil ?_
  refine wpAnyH_two 5 6 3 (by rfl) (by rfl) (by rfl) (by kernel_rfl) (fun K hK => ?_) (fun K hK => ?_)
  · go_simp
    refine (window_any N V a b _).mono ?_
    rintro e w3 ⟨rfl, hB3⟩
    have S3 := S2.below hB3
    have R3 := R2.below hB3
    have W3 := W2.below hB3
    have H3 := below_more H2 hB3
    have hz3 : w.heap.size + 1 < w3.heap.size := R3.lt
    clear S2 R2 W2 H2 hB3 hz2
    refine hK.out _ _ S3.cells4 (fun hSt => ?_)
    clear hK K
    try simp only [Act.put, List.setIfInBounds_toArray, List.set_cons_zero, List.set_cons_succ]
    refine wpAnyH_one 6 2 (by rfl) (by rfl) (by kernel_rfl) (fun K hK => ?_)
    go_simp
    have A4 : Below w3.heap.size w3 (w3.alloc (.cells #[.int .i64 0, .int .i64 0] 113)) := (Below.refl _ w3).alloc (Nat.le_refl _) _
    have S4 := S3.below A4
    have R4 := R3.below A4
    have W4 := W3.below A4
    have H4 := H3.trans (A4.mono H3.size)
    have X4 := Blk.new w3 113 #[.int .i64 0, .int .i64 0]
    refine hK.out _ _ (S4.cells4) (fun hSt => ?_)
    clear hK K
    try simp only [Act.put, List.setIfInBounds_toArray, List.set_cons_zero, List.set_cons_succ]
    obtain ⟨x, hx⟩ : ∃ x, w3.heap.size = x := ⟨_, rfl⟩
    rw [hx] at X4 hz3 ⊢
    generalize w3.alloc (.cells #[.int .i64 0, .int .i64 0] 113) = w4 at *
    clear A4 S3 R3 W3 H3 hx
    refine wpAnyH_picks [7] 1 (by rfl) (by kernel_rfl) (by kernel_rfl) (by kernel_rfl) (fun _ _ _ _ _ h => h) (by assumption) ?_
    simp only [picks, List.drop_succ_cons, List.drop_zero, List.take_succ_cons, List.take_zero, List.cons_append, List.nil_append]
    repeat (first
      | (refine wpY_skip (by rfl) ?_; simp only [Act.put, List.setIfInBounds_toArray, List.set_cons_zero, List.set_cons_succ])
      | (refine wpY_want (v := ?_) (by rfl) (fun W hW => ?_) ?_; rotate_left; (go_simp; try with_reducible rfl); simp only [Act.put, List.setIfInBounds_toArray, List.set_cons_zero, List.set_cons_succ]))
    refine wpY_nil ?_
    obtain ⟨d0, d1⟩ := X4.cells2
    have f0 := X4.frozen 0
    have f1 := X4.frozen 1
    refine wpAnyH_one 8 0 (by rfl) (by rfl) (by kernel_rfl) (fun K hK => ?_)
    go_simp
    refine hK.out _ _ ((S4.farSet2 (g' := x) (by omega) _ _).cells4) (fun hSt => ?_)
    clear hK K
    try simp only [Act.put, List.setIfInBounds_toArray, List.set_cons_zero, List.set_cons_succ]
    refine wpAnyH_done (by kernel_rfl) ?_ _
    refine NoPanic.normal ?_
    have X5 := X4.set2 (.int .i64 (a : Nat)) (.int .i64 (b : Nat))
    have S5 := S4.farSet2 (g' := x) (by omega) (.int .i64 (a : Nat)) (.int .i64 (b : Nat))
    have R5 := R4.farSet2 (g' := x) (by omega) (.int .i64 (a : Nat)) (.int .i64 (b : Nat))
    have W5 := W4.set2 (r := x) (by omega) (fun e => by have := (hrow _ e).2; omega) (.int .i64 (a : Nat)) (.int .i64 (b : Nat))
    have H5 := below_set2 H4 (g := x) (by omega) (.int .i64 (a : Nat)) (.int .i64 (b : Nat))
    clear d0 d1 f0 f1 X4 S4 R4 W4 H4
    unfold set2 at *
    generalize (w4.setCell ⟨x, 0, none⟩ (.int .i64 (a : Nat))).setCell ⟨x, 1, none⟩ (.int .i64 (b : Nat)) = w5 at *
    have hx5 := X5.lt
    obtain ⟨s0, s1, s2, s3⟩ := S5.cells4
    obtain ⟨x0, x1⟩ := X5.cells2
    go_wp2_with fail
    clear s0 s1 s2 s3 x0 x1
    refine wp_region_noPanic ?_
    refine wp_region_held_drew (S := fun W : World => W.cell? ⟨x, 0, none⟩ = some (.int .i64 (a : Nat)) ∧ W.cell? ⟨x, 1, none⟩ = some (.int .i64 (b : Nat))) (by kernel_rfl) ((X5.drewN 1).cells2) (fun hSt => ?_)
    have S6 : Blk w5.drew w.heap.size 48 _ := S5
    have R6 : Blk w5.drew (w.heap.size + 1) 48 _ := R5
    have X6 : Blk w5.drew x 113 _ := X5
    have W6 : Wr w5.drew base g B Lb := W5
    have H6 : Below w.heap.size w w5.drew := below_drewN H5 1
    clear S5 R5 X5 W5 H5 hx5
    generalize w5.drew = w6 at *
    have T6 := hT.below H6
    refine wpAnyH_picks [0, 1] 3 (by rfl) (by kernel_rfl) (by kernel_rfl) (by kernel_rfl) (fun _ _ _ _ _ h => h) (by assumption) ?_
    simp only [picks, List.drop_succ_cons, List.drop_zero, List.take_succ_cons, List.take_zero, List.cons_append, List.nil_append]
    repeat (first
      | (refine wpY_skip (by rfl) ?_; simp only [Act.put, List.setIfInBounds_toArray, List.set_cons_zero, List.set_cons_succ])
      | (refine wpY_want (v := ?_) (by rfl) (fun W hW => ?_) ?_; rotate_left; (obtain ⟨hW0, hW1⟩ := hW; go_simp; try with_reducible rfl); simp only [Act.put, List.setIfInBounds_toArray, List.set_cons_zero, List.set_cons_succ]))
    refine wpY_nil ?_
    refine wpAnyH_one 2 2 (by rfl) (by rfl) (by kernel_rfl) (fun K hK => ?_)
    go_simp
    refine (HAR.out _ T6).mono ?_
    rintro e w7 ⟨rfl, hB7⟩
    have S7 := S6.below hB7
    have R7 := R6.below hB7
    have X7 := X6.below hB7
    have W7 := W6.below hB7
    have H7 := below_more H6 hB7
    clear S6 R6 X6 W6 H6 hB7 T6
    refine hK.out _ _ (X7.cells2) (fun hSt => ?_)
    clear hK K
    try simp only [Act.put, List.setIfInBounds_toArray, List.set_cons_zero, List.set_cons_succ]
    refine wpAnyH_one 3 1 (by rfl) (by rfl) (by kernel_rfl) (fun K hK => ?_)
    go_simp
    refine (HHO.out _).mono ?_
    rintro e w8 ⟨rfl, hB8⟩
    have S8 := S7.below hB8
    have R8 := R7.below hB8
    have X8 := X7.below hB8
    have W8 := W7.below hB8
    have H8 := below_more H7 hB8
    clear S7 R7 X7 W7 H7 hB8
    refine hK.out _ _ (X8.cells2) (fun hSt => ?_)
    clear hK K
    try simp only [Act.put, List.setIfInBounds_toArray, List.set_cons_zero, List.set_cons_succ]
    refine wpAnyH_picks [4] 0 (by rfl) (by kernel_rfl) (by kernel_rfl) (by kernel_rfl) (fun _ _ _ _ _ h => h) (by assumption) ?_
    simp only [picks, List.drop_succ_cons, List.drop_zero, List.take_succ_cons, List.take_zero, List.cons_append, List.nil_append]
    repeat (first
      | (refine wpY_skip (by rfl) ?_; simp only [Act.put, List.setIfInBounds_toArray, List.set_cons_zero, List.set_cons_succ])
      | (refine wpY_want (v := ?_) (by rfl) (fun W hW => ?_) ?_; rotate_left; (go_simp; try with_reducible rfl); simp only [Act.put, List.setIfInBounds_toArray, List.set_cons_zero, List.set_cons_succ]))
    refine wpY_nil ?_
    refine wpAnyH_done (by kernel_rfl) ?_ _
    refine NoPanic.normal ?_
    go_wp2_with fail
    refine wp_region_noPanic ?_
    refine wp_region_held_drew (S := fun W : World => W.cell? ⟨x, 0, none⟩ = some (.int .i64 (a : Nat)) ∧ W.cell? ⟨x, 1, none⟩ = some (.int .i64 (b : Nat))) (by kernel_rfl) ((X8.drewN 1).cells2) (fun hSt => ?_)
    have S9 : Blk w8.drew w.heap.size 48 _ := S8
    have R9 : Blk w8.drew (w.heap.size + 1) 48 _ := R8
    have X9 : Blk w8.drew x 113 _ := X8
    have W9 : Wr w8.drew base g B Lb := W8
    have H9 : Below w.heap.size w w8.drew := below_drewN H8 1
    clear S8 R8 X8 W8 H8
    generalize w8.drew = w9 at *
    refine wpAnyH_picks [0, 1, 2, 3, 4, 5, 6] 5 (by rfl) (by kernel_rfl) (by kernel_rfl) (by kernel_rfl) (fun _ _ _ _ _ h => h) (by assumption) ?_
    simp only [picks, List.drop_succ_cons, List.drop_zero, List.take_succ_cons, List.take_zero, List.cons_append, List.nil_append]
    repeat (first
      | (refine wpY_skip (by rfl) ?_; simp only [Act.put, List.setIfInBounds_toArray, List.set_cons_zero, List.set_cons_succ])
      | (refine wpY_want (v := ?_) (by rfl) (fun W hW => ?_) ?_; rotate_left; (obtain ⟨hW0, hW1⟩ := hW; go_simp; try with_reducible rfl); simp only [Act.put, List.setIfInBounds_toArray, List.set_cons_zero, List.set_cons_succ]))
    refine wpY_nil ?_
    refine wpAnyH_one 7 4 (by rfl) (by rfl) (by kernel_rfl) (fun K hK => ?_)
    go_simp
    refine (HSZ.out _).mono ?_
    rintro e wa ⟨rfl, hBa⟩
    have Sa := S9.below hBa
    have Ra := R9.below hBa
    have Xa := X9.below hBa
    have Wa := W9.below hBa
    have Ha := below_more H9 hBa
    clear S9 R9 X9 W9 H9 hBa
    refine hK.out _ _ (Xa.cells2) (fun hSt => ?_)
    clear hK K
    try simp only [Act.put, List.setIfInBounds_toArray, List.set_cons_zero, List.set_cons_succ]
    refine wpAnyH_picks [8] 3 (by rfl) (by kernel_rfl) (by kernel_rfl) (by kernel_rfl) (fun _ _ _ _ _ h => h) (by assumption) ?_
    simp only [picks, List.drop_succ_cons, List.drop_zero, List.take_succ_cons, List.take_zero, List.cons_append, List.nil_append]
    repeat (first
      | (refine wpY_skip (by rfl) ?_; simp only [Act.put, List.setIfInBounds_toArray, List.set_cons_zero, List.set_cons_succ])
      | (refine wpY_want (v := ?_) (by rfl) (fun W hW => ?_) ?_; rotate_left; (go_simp; try with_reducible rfl); simp only [Act.put, List.setIfInBounds_toArray, List.set_cons_zero, List.set_cons_succ]))
    refine wpY_nil ?_
    refine wpAnyH_one 9 2 (by rfl) (by rfl) (by kernel_rfl) (fun K hK => ?_)
    go_simp
    have A6 : Below wa.heap.size wa (wa.alloc (.cells #[.int .u64 2, .int .i64 2, .int .u64 (Y : Nat), .int .i64 (m : Nat)] 117)) := (Below.refl _ wa).alloc (Nat.le_refl _) _
    have P6 := PartsAt.two (Blk.new wa 117 #[.int .u64 2, .int .i64 2, .int .u64 (Y : Nat), .int .i64 (m : Nat)]) rfl rfl rfl rfl
    have W6 := Wa.below A6
    have S6 := Sa.below A6
    have R6 := Ra.below A6
    have X6 := Xa.below A6
    have H6 := Ha.trans (A6.mono Ha.size)
    refine hK.out _ _ (X6.cells2) (fun hSt => ?_)
    clear hK K
    try simp only [Act.put, List.setIfInBounds_toArray, List.set_cons_zero, List.set_cons_succ]
    obtain ⟨q, hq⟩ : ∃ q, wa.heap.size = q := ⟨_, rfl⟩
    have hq6 : q < (wa.alloc (.cells #[.int .u64 2, .int .i64 2, .int .u64 (Y : Nat), .int .i64 (m : Nat)] 117)).heap.size := by simp; omega
    have hxq : x < q := by have := Xa.lt; omega
    rw [hq] at P6 ⊢
    generalize wa.alloc (.cells #[.int .u64 2, .int .i64 2, .int .u64 (Y : Nat), .int .i64 (m : Nat)] 117) = w6 at *
    clear A6 Wa Sa Ra Xa Ha hq
    have hgq : q ≠ g := by omega
    have hBq : B ≠ some q := fun e => by have := (hrow _ e).2; omega
    refine wpAnyH_one 10 1 (by rfl) (by rfl) (by kernel_rfl) (fun K hK => ?_)
    go_simp
    refine (write_any w6 base g q B Lb [(2, 2), (Y, m)] 2 W6 P6 HPS.out (by simp) (by simp) (by omega) (Nat.le_trans hbase H6.size) hgq hBq hq6).mono ?_
    rintro e w7 ⟨rfl, B7, W7, hB7, hT7⟩
    rw [HENC.out] at W7
    have S7 := S6.touch hT7 (by omega) (fun e => by have := (hrow _ e.symm).2; omega)
    have R7 := R6.touch hT7 (by omega) (fun e => by have := (hrow _ e.symm).2; omega)
    have X7 := X6.touch hT7 (by omega) (fun e => by have := (hrow _ e.symm).2; omega)
    have T7 := (Touch.of_below H6 g B).trans hT7 (.inl rfl)
    have nb : ∀ r, w.heap.size ≤ r → r < q → B7 ≠ some r := fun r h1 h2 e => by
      rcases hB7 with rfl | ⟨b, rfl, hb⟩
      · have := (hrow _ e).2; omega
      · have : b = r := by injection e
        omega
    have NB := Lib.hid nb
    have hBB : B7 = B ∨ ∃ b, B7 = some b ∧ w.heap.size ≤ b := by
      rcases hB7 with rfl | ⟨b, rfl, hb⟩
      · exact .inl rfl
      · exact .inr ⟨b, rfl, Nat.le_trans H6.size hb⟩
    have HBB := Lib.hid hBB
    have hz7 := T7.size
    clear nb hBB hB7 hT7 W6 S6 R6 X6 H6
    refine hK.out _ _ (X7.cells2) (fun hSt => ?_)
    clear hK K
    try simp only [Act.put, List.setIfInBounds_toArray, List.set_cons_zero, List.set_cons_succ]
    refine wpAnyH_picks [11] 0 (by rfl) (by kernel_rfl) (by kernel_rfl) (by kernel_rfl) (fun _ _ _ _ _ h => h) (by assumption) ?_
    simp only [picks, List.drop_succ_cons, List.drop_zero, List.take_succ_cons, List.take_zero, List.cons_append, List.nil_append]
    repeat (first
      | (refine wpY_skip (by rfl) ?_; simp only [Act.put, List.setIfInBounds_toArray, List.set_cons_zero, List.set_cons_succ])
      | (refine wpY_want (v := ?_) (by rfl) (fun W hW => ?_) ?_; rotate_left; (go_simp; try with_reducible rfl); simp only [Act.put, List.setIfInBounds_toArray, List.set_cons_zero, List.set_cons_succ]))
    refine wpY_nil ?_
    refine wpAnyH_done (by kernel_rfl) ?_ _
    refine NoPanic.normal ?_
    obtain ⟨s0, s1, s2, s3⟩ := S7.cells4
    obtain ⟨x0, x1⟩ := X7.cells2
    go_wp2_with fail
    refine (xnext_any N V a b v a b _ n1 n2).mono ?_
    rintro e w8 ⟨rfl, hB8⟩
    have R8 := R7.below hB8
    have W8 := W7.below hB8
    have T8 := T7.trans (Touch.of_below hB8 g B) (.inl rfl)
    clear s0 s1 s2 s3 x0 x1
    obtain ⟨d0, d1, d2, d3⟩ := R8.cells4
    obtain ⟨e0, e1, e2, e3⟩ := R8.free4
    go_wp2_with fail
    obtain ⟨q0, q1, q2, q3⟩ := (R8.set4 (.int .i64 (N + 1)) (.int .u64 (v : Nat)) (.int .i64 (a : Nat)) (.int .i64 (b : Nat))).cells4
    refine bodyPost_ret (v := .tuple #[.agg #[.int .i64 (N + 1), .int .u64 (v : Nat), .int .i64 (a : Nat), .int .i64 (b : Nat)], .int .i64 0]) (by simp [results, Tryd.results27, go_sem, q0, q1, q2, q3]) rfl ⟨rfl, B7, W8.set4 (by omega) (NB.out _ (by omega) (by omega)) _ _ _ _, HBB.out, T8.set4 (by omega) _ _ _ _⟩
  · go_simp
    have A3 : Below w2.heap.size w2 (w2.alloc (.cells #[.int .i64 0, .int .i64 0] 113)) := (Below.refl _ w2).alloc (Nat.le_refl _) _
    have S3 := S2.below A3
    have R3 := R2.below A3
    have W3 := W2.below A3
    have H3 := H2.trans (A3.mono H2.size)
    have X3 := Blk.new w2 113 #[.int .i64 0, .int .i64 0]
    have hz3 := hz2
    refine hK.out _ _ S3.cells4 (fun hSt => ?_)
    clear hK K
    try simp only [Act.put, List.setIfInBounds_toArray, List.set_cons_zero, List.set_cons_succ]
    obtain ⟨x, hx⟩ : ∃ x, w2.heap.size = x := ⟨_, rfl⟩
    rw [hx] at X3 hz3 ⊢
    generalize w2.alloc (.cells #[.int .i64 0, .int .i64 0] 113) = w3 at *
    clear A3 S2 R2 W2 H2 hx hz2
    refine wpAnyH_one 5 2 (by rfl) (by rfl) (by kernel_rfl) (fun K hK => ?_)
    go_simp
    refine (window_any N V a b _).mono ?_
    rintro e w4 ⟨rfl, hB4⟩
    have S4 := S3.below hB4
    have R4 := R3.below hB4
    have W4 := W3.below hB4
    have X4 := X3.below hB4
    have H4 := below_more H3 hB4
    clear S3 R3 W3 X3 H3 hB4
    refine hK.out _ _ (S4.cells4) (fun hSt => ?_)
    clear hK K
    try simp only [Act.put, List.setIfInBounds_toArray, List.set_cons_zero, List.set_cons_succ]
    refine wpAnyH_picks [7] 1 (by rfl) (by kernel_rfl) (by kernel_rfl) (by kernel_rfl) (fun _ _ _ _ _ h => h) (by assumption) ?_
    simp only [picks, List.drop_succ_cons, List.drop_zero, List.take_succ_cons, List.take_zero, List.cons_append, List.nil_append]
    repeat (first
      | (refine wpY_skip (by rfl) ?_; simp only [Act.put, List.setIfInBounds_toArray, List.set_cons_zero, List.set_cons_succ])
      | (refine wpY_want (v := ?_) (by rfl) (fun W hW => ?_) ?_; rotate_left; (go_simp; try with_reducible rfl); simp only [Act.put, List.setIfInBounds_toArray, List.set_cons_zero, List.set_cons_succ]))
    refine wpY_nil ?_
    obtain ⟨d0, d1⟩ := X4.cells2
    have f0 := X4.frozen 0
    have f1 := X4.frozen 1
    refine wpAnyH_one 8 0 (by rfl) (by rfl) (by kernel_rfl) (fun K hK => ?_)
    go_simp
    refine hK.out _ _ ((S4.farSet2 (g' := x) (by omega) _ _).cells4) (fun hSt => ?_)
    clear hK K
    try simp only [Act.put, List.setIfInBounds_toArray, List.set_cons_zero, List.set_cons_succ]
    refine wpAnyH_done (by kernel_rfl) ?_ _
    refine NoPanic.normal ?_
    have X5 := X4.set2 (.int .i64 (a : Nat)) (.int .i64 (b : Nat))
    have S5 := S4.farSet2 (g' := x) (by omega) (.int .i64 (a : Nat)) (.int .i64 (b : Nat))
    have R5 := R4.farSet2 (g' := x) (by omega) (.int .i64 (a : Nat)) (.int .i64 (b : Nat))
    have W5 := W4.set2 (r := x) (by omega) (fun e => by have := (hrow _ e).2; omega) (.int .i64 (a : Nat)) (.int .i64 (b : Nat))
    have H5 := below_set2 H4 (g := x) (by omega) (.int .i64 (a : Nat)) (.int .i64 (b : Nat))
    clear d0 d1 f0 f1 X4 S4 R4 W4 H4
    unfold set2 at *
    generalize (w4.setCell ⟨x, 0, none⟩ (.int .i64 (a : Nat))).setCell ⟨x, 1, none⟩ (.int .i64 (b : Nat)) = w5 at *
    have hx5 := X5.lt
    obtain ⟨s0, s1, s2, s3⟩ := S5.cells4
    obtain ⟨x0, x1⟩ := X5.cells2
    go_wp2_with fail
    clear s0 s1 s2 s3 x0 x1
    refine wp_region_noPanic ?_
    refine wp_region_held_drew (S := fun W : World => W.cell? ⟨x, 0, none⟩ = some (.int .i64 (a : Nat)) ∧ W.cell? ⟨x, 1, none⟩ = some (.int .i64 (b : Nat))) (by kernel_rfl) ((X5.drewN 1).cells2) (fun hSt => ?_)
    have S6 : Blk w5.drew w.heap.size 48 _ := S5
    have R6 : Blk w5.drew (w.heap.size + 1) 48 _ := R5
    have X6 : Blk w5.drew x 113 _ := X5
    have W6 : Wr w5.drew base g B Lb := W5
    have H6 : Below w.heap.size w w5.drew := below_drewN H5 1
    clear S5 R5 X5 W5 H5 hx5
    generalize w5.drew = w6 at *
    have T6 := hT.below H6
    refine wpAnyH_picks [0, 1] 3 (by rfl) (by kernel_rfl) (by kernel_rfl) (by kernel_rfl) (fun _ _ _ _ _ h => h) (by assumption) ?_
    simp only [picks, List.drop_succ_cons, List.drop_zero, List.take_succ_cons, List.take_zero, List.cons_append, List.nil_append]
    repeat (first
      | (refine wpY_skip (by rfl) ?_; simp only [Act.put, List.setIfInBounds_toArray, List.set_cons_zero, List.set_cons_succ])
      | (refine wpY_want (v := ?_) (by rfl) (fun W hW => ?_) ?_; rotate_left; (obtain ⟨hW0, hW1⟩ := hW; go_simp; try with_reducible rfl); simp only [Act.put, List.setIfInBounds_toArray, List.set_cons_zero, List.set_cons_succ]))
    refine wpY_nil ?_
    refine wpAnyH_one 2 2 (by rfl) (by rfl) (by kernel_rfl) (fun K hK => ?_)
    go_simp
    refine (HAR.out _ T6).mono ?_
    rintro e w7 ⟨rfl, hB7⟩
    have S7 := S6.below hB7
    have R7 := R6.below hB7
    have X7 := X6.below hB7
    have W7 := W6.below hB7
    have H7 := below_more H6 hB7
    clear S6 R6 X6 W6 H6 hB7 T6
    refine hK.out _ _ (X7.cells2) (fun hSt => ?_)
    clear hK K
    try simp only [Act.put, List.setIfInBounds_toArray, List.set_cons_zero, List.set_cons_succ]
    refine wpAnyH_one 3 1 (by rfl) (by rfl) (by kernel_rfl) (fun K hK => ?_)
    go_simp
    refine (HHO.out _).mono ?_
    rintro e w8 ⟨rfl, hB8⟩
    have S8 := S7.below hB8
    have R8 := R7.below hB8
    have X8 := X7.below hB8
    have W8 := W7.below hB8
    have H8 := below_more H7 hB8
    clear S7 R7 X7 W7 H7 hB8
    refine hK.out _ _ (X8.cells2) (fun hSt => ?_)
    clear hK K
    try simp only [Act.put, List.setIfInBounds_toArray, List.set_cons_zero, List.set_cons_succ]
    refine wpAnyH_picks [4] 0 (by rfl) (by kernel_rfl) (by kernel_rfl) (by kernel_rfl) (fun _ _ _ _ _ h => h) (by assumption) ?_
    simp only [picks, List.drop_succ_cons, List.drop_zero, List.take_succ_cons, List.take_zero, List.cons_append, List.nil_append]
    repeat (first
      | (refine wpY_skip (by rfl) ?_; simp only [Act.put, List.setIfInBounds_toArray, List.set_cons_zero, List.set_cons_succ])
      | (refine wpY_want (v := ?_) (by rfl) (fun W hW => ?_) ?_; rotate_left; (go_simp; try with_reducible rfl); simp only [Act.put, List.setIfInBounds_toArray, List.set_cons_zero, List.set_cons_succ]))
    refine wpY_nil ?_
    refine wpAnyH_done (by kernel_rfl) ?_ _
    refine NoPanic.normal ?_
    go_wp2_with fail
    refine wp_region_noPanic ?_
    refine wp_region_held_drew (S := fun W : World => W.cell? ⟨x, 0, none⟩ = some (.int .i64 (a : Nat)) ∧ W.cell? ⟨x, 1, none⟩ = some (.int .i64 (b : Nat))) (by kernel_rfl) ((X8.drewN 1).cells2) (fun hSt => ?_)
    have S9 : Blk w8.drew w.heap.size 48 _ := S8
    have R9 : Blk w8.drew (w.heap.size + 1) 48 _ := R8
    have X9 : Blk w8.drew x 113 _ := X8
    have W9 : Wr w8.drew base g B Lb := W8
    have H9 : Below w.heap.size w w8.drew := below_drewN H8 1
    clear S8 R8 X8 W8 H8
    generalize w8.drew = w9 at *
    refine wpAnyH_picks [0, 1, 2, 3, 4, 5, 6] 5 (by rfl) (by kernel_rfl) (by kernel_rfl) (by kernel_rfl) (fun _ _ _ _ _ h => h) (by assumption) ?_
    simp only [picks, List.drop_succ_cons, List.drop_zero, List.take_succ_cons, List.take_zero, List.cons_append, List.nil_append]
    repeat (first
      | (refine wpY_skip (by rfl) ?_; simp only [Act.put, List.setIfInBounds_toArray, List.set_cons_zero, List.set_cons_succ])
      | (refine wpY_want (v := ?_) (by rfl) (fun W hW => ?_) ?_; rotate_left; (obtain ⟨hW0, hW1⟩ := hW; go_simp; try with_reducible rfl); simp only [Act.put, List.setIfInBounds_toArray, List.set_cons_zero, List.set_cons_succ]))
    refine wpY_nil ?_
    refine wpAnyH_one 7 4 (by rfl) (by rfl) (by kernel_rfl) (fun K hK => ?_)
    go_simp
    refine (HSZ.out _).mono ?_
    rintro e wa ⟨rfl, hBa⟩
    have Sa := S9.below hBa
    have Ra := R9.below hBa
    have Xa := X9.below hBa
    have Wa := W9.below hBa
    have Ha := below_more H9 hBa
    clear S9 R9 X9 W9 H9 hBa
    refine hK.out _ _ (Xa.cells2) (fun hSt => ?_)
    clear hK K
    try simp only [Act.put, List.setIfInBounds_toArray, List.set_cons_zero, List.set_cons_succ]
    refine wpAnyH_picks [8] 3 (by rfl) (by kernel_rfl) (by kernel_rfl) (by kernel_rfl) (fun _ _ _ _ _ h => h) (by assumption) ?_
    simp only [picks, List.drop_succ_cons, List.drop_zero, List.take_succ_cons, List.take_zero, List.cons_append, List.nil_append]
    repeat (first
      | (refine wpY_skip (by rfl) ?_; simp only [Act.put, List.setIfInBounds_toArray, List.set_cons_zero, List.set_cons_succ])
      | (refine wpY_want (v := ?_) (by rfl) (fun W hW => ?_) ?_; rotate_left; (go_simp; try with_reducible rfl); simp only [Act.put, List.setIfInBounds_toArray, List.set_cons_zero, List.set_cons_succ]))
    refine wpY_nil ?_
    refine wpAnyH_one 9 2 (by rfl) (by rfl) (by kernel_rfl) (fun K hK => ?_)
    go_simp
    have A6 : Below wa.heap.size wa (wa.alloc (.cells #[.int .u64 2, .int .i64 2, .int .u64 (Y : Nat), .int .i64 (m : Nat)] 117)) := (Below.refl _ wa).alloc (Nat.le_refl _) _
    have P6 := PartsAt.two (Blk.new wa 117 #[.int .u64 2, .int .i64 2, .int .u64 (Y : Nat), .int .i64 (m : Nat)]) rfl rfl rfl rfl
    have W6 := Wa.below A6
    have S6 := Sa.below A6
    have R6 := Ra.below A6
    have X6 := Xa.below A6
    have H6 := Ha.trans (A6.mono Ha.size)
    refine hK.out _ _ (X6.cells2) (fun hSt => ?_)
    clear hK K
    try simp only [Act.put, List.setIfInBounds_toArray, List.set_cons_zero, List.set_cons_succ]
    obtain ⟨q, hq⟩ : ∃ q, wa.heap.size = q := ⟨_, rfl⟩
    have hq6 : q < (wa.alloc (.cells #[.int .u64 2, .int .i64 2, .int .u64 (Y : Nat), .int .i64 (m : Nat)] 117)).heap.size := by simp; omega
    have hxq : x < q := by have := Xa.lt; omega
    rw [hq] at P6 ⊢
    generalize wa.alloc (.cells #[.int .u64 2, .int .i64 2, .int .u64 (Y : Nat), .int .i64 (m : Nat)] 117) = w6 at *
    clear A6 Wa Sa Ra Xa Ha hq
    have hgq : q ≠ g := by omega
    have hBq : B ≠ some q := fun e => by have := (hrow _ e).2; omega
    refine wpAnyH_one 10 1 (by rfl) (by rfl) (by kernel_rfl) (fun K hK => ?_)
    go_simp
    refine (write_any w6 base g q B Lb [(2, 2), (Y, m)] 2 W6 P6 HPS.out (by simp) (by simp) (by omega) (Nat.le_trans hbase H6.size) hgq hBq hq6).mono ?_
    rintro e w7 ⟨rfl, B7, W7, hB7, hT7⟩
    rw [HENC.out] at W7
    have S7 := S6.touch hT7 (by omega) (fun e => by have := (hrow _ e.symm).2; omega)
    have R7 := R6.touch hT7 (by omega) (fun e => by have := (hrow _ e.symm).2; omega)
    have X7 := X6.touch hT7 (by omega) (fun e => by have := (hrow _ e.symm).2; omega)
    have T7 := (Touch.of_below H6 g B).trans hT7 (.inl rfl)
    have nb : ∀ r, w.heap.size ≤ r → r < q → B7 ≠ some r := fun r h1 h2 e => by
      rcases hB7 with rfl | ⟨b, rfl, hb⟩
      · have := (hrow _ e).2; omega
      · have : b = r := by injection e
        omega
    have NB := Lib.hid nb
    have hBB : B7 = B ∨ ∃ b, B7 = some b ∧ w.heap.size ≤ b := by
      rcases hB7 with rfl | ⟨b, rfl, hb⟩
      · exact .inl rfl
      · exact .inr ⟨b, rfl, Nat.le_trans H6.size hb⟩
    have HBB := Lib.hid hBB
    have hz7 := T7.size
    clear nb hBB hB7 hT7 W6 S6 R6 X6 H6
    refine hK.out _ _ (X7.cells2) (fun hSt => ?_)
    clear hK K
    try simp only [Act.put, List.setIfInBounds_toArray, List.set_cons_zero, List.set_cons_succ]
    refine wpAnyH_picks [11] 0 (by rfl) (by kernel_rfl) (by kernel_rfl) (by kernel_rfl) (fun _ _ _ _ _ h => h) (by assumption) ?_
    simp only [picks, List.drop_succ_cons, List.drop_zero, List.take_succ_cons, List.take_zero, List.cons_append, List.nil_append]
    repeat (first
      | (refine wpY_skip (by rfl) ?_; simp only [Act.put, List.setIfInBounds_toArray, List.set_cons_zero, List.set_cons_succ])
      | (refine wpY_want (v := ?_) (by rfl) (fun W hW => ?_) ?_; rotate_left; (go_simp; try with_reducible rfl); simp only [Act.put, List.setIfInBounds_toArray, List.set_cons_zero, List.set_cons_succ]))
    refine wpY_nil ?_
    refine wpAnyH_done (by kernel_rfl) ?_ _
    refine NoPanic.normal ?_
    obtain ⟨s0, s1, s2, s3⟩ := S7.cells4
    obtain ⟨x0, x1⟩ := X7.cells2
    go_wp2_with fail
    refine (xnext_any N V a b v a b _ n1 n2).mono ?_
    rintro e w8 ⟨rfl, hB8⟩
    have R8 := R7.below hB8
    have W8 := W7.below hB8
    have T8 := T7.trans (Touch.of_below hB8 g B) (.inl rfl)
    clear s0 s1 s2 s3 x0 x1
    obtain ⟨d0, d1, d2, d3⟩ := R8.cells4
    obtain ⟨e0, e1, e2, e3⟩ := R8.free4
    go_wp2_with fail
    obtain ⟨q0, q1, q2, q3⟩ := (R8.set4 (.int .i64 (N + 1)) (.int .u64 (v : Nat)) (.int .i64 (a : Nat)) (.int .i64 (b : Nat))).cells4
    refine bodyPost_ret (v := .tuple #[.agg #[.int .i64 (N + 1), .int .u64 (v : Nat), .int .i64 (a : Nat), .int .i64 (b : Nat)], .int .i64 0]) (by simp [results, Tryd.results27, go_sem, q0, q1, q2, q3]) rfl ⟨rfl, B7, W8.set4 (by omega) (NB.out _ (by omega) (by omega)) _ _ _ _, HBB.out, T8.set4 (by omega) _ _ _ _⟩

set_option maxHeartbeats 3200000 in
theorem xPut_new (w : World) (base g : Nat) (B : Option Nat) (Lb : List Bool) (N : Int) (V a b v : Nat) (h : Wr w base g B Lb) (hT : XorTab w) (hLb : Lb.length ≤ 400000) (hbase : base ≤ w.heap.size) (hr : rightX N a b = true) (hV : V < 18446744073709551616) (hv : v < 18446744073709551616) (hN : N ≠ 0) (hx0 : v ^^^ V ≠ 0) (hin : inW a b (v ^^^ V) = false) :
    Calls Tryd.prog 27 #[.pointer (some ⟨g, 0, none⟩), .agg #[.int .i64 N, .int .u64 (V : Nat), .int .i64 (a : Nat), .int .i64 (b : Nat)], .int .u64 (v : Nat)] w fun e w' =>
      e = .returned (.tuple #[.agg #[.int .i64 (N + 1), .int .u64 (v : Nat), .int .i64 (lz (v ^^^ V) : Nat), .int .i64 (tz (v ^^^ V) : Nat)], .int .i64 0]) ∧ ∃ B', Wr w' base g B' (Lb ++ encD a b (v ^^^ V)) ∧ (B' = B ∨ ∃ b, B' = some b ∧ w.heap.size ≤ b) ∧ Touch g B w w' := by
  obtain ⟨S0, R0, H0⟩ := four_new w (.int .i64 N) (.int .u64 (V : Nat)) (.int .i64 (a : Nat)) (.int .i64 (b : Nat)) (.int .i64 0) (.int .u64 0) (.int .i64 0) (.int .i64 0) 48 48
  have hlt := h.lt
  have hrow := h.row
  obtain ⟨n1, n2, n3⟩ := rightX_of hr
  have hab : a = 64 ∧ b = 0 ∨ a + b ≤ 63 := by omega
  have HR := Lib.hid hr
  have HV := Lib.hid hV
  have Hv := Lib.hid hv
  obtain ⟨X, hX⟩ : ∃ X, v ^^^ V = X := ⟨_, rfl⟩
  have hX64 : X < 18446744073709551616 := by rw [← hX]; exact xor_lt (by omega) (by omega)
  have hxx := u64_xor_nat v V hv hV
  rw [hX] at hxx
  have HX := Lib.hid hX
  have HX64 := Lib.hid hX64
  have h0 : (N == 0) = false := beq_eq_false_iff_ne.2 hN
  rw [hX] at hx0 hin ⊢
  have hx1 : ((X : Int) == 0) = false := by simp; exact hx0
  have hx2 : (X == 0) = false := beq_eq_false_iff_ne.2 hx0
  have hlt3 := lz_tz hx0 (show X < 2 ^ 64 by omega)
  have AR := fun W h => around_any X W hx0 hX64 h
  obtain ⟨l, hl⟩ : ∃ l, lz X = l := ⟨_, rfl⟩
  obtain ⟨t, ht⟩ : ∃ t, tz X = t := ⟨_, rfl⟩
  rw [hl, ht] at AR hlt3
  have HO := fun W => holdsW_any a b l t W false (by rw [← hin, inW, hl, ht]; exact decide_eq_decide.2 (by omega))
  have HAR := Lib.hid AR
  have HHO := Lib.hid HO
  obtain ⟨Y, hY⟩ : ∃ Y : Nat, (X : Int) / 2 ^ t = (Y : Int) := ⟨X / 2 ^ t, by push_cast; rfl⟩
  have hY2 : X / 2 ^ t = Y := Int.ofNat_inj.1 (show ((X / 2 ^ t : Nat) : Int) = (Y : Int) by rw [← hY]; push_cast; rfl)
  obtain ⟨m, hm⟩ : ∃ m : Nat, (64 : Int) - (l : Int) - (t : Int) = (m : Int) + 1 := ⟨63 - l - t, by omega⟩
  have hm2 : 64 - l - t = m + 1 := by omega
  have hm3 : 64 - l - t - 1 = m := by omega
  have hY64 : Y < 18446744073709551616 := by rw [← hY2]; exact Nat.lt_of_le_of_lt (Nat.div_le_self _ _) hX64
  have hps : ∀ p ∈ [(3, 2), (l, 6), (m, 6), (Y, m + 1)], p.1 < 18446744073709551616 ∧ p.2 ≤ 64 := by simp; omega
  have HPS := Lib.hid hps
  have henc : Lb ++ partBits [(3, 2), (l, 6), (m, 6), (Y, m + 1)] = Lb ++ encD a b X := by
    rw [encD, if_neg hx0, if_neg (by rw [hin]; decide), mid, hl, ht, hY2, hm3, hm2]
    simp only [partBits, List.flatMap_cons, List.flatMap_nil, List.append_nil, show bitsOf 2 3 = [true, true] by decide]
  have HENC := Lib.hid henc
  have SZ := fun W => size_win l t W (by omega) (by omega) (by omega) (by omega)
  rw [hm] at SZ
  have HSZ := Lib.hid SZ
  have hb64 : (t : Int) < 64 := by omega
  have hu1 : IntKind.u64.wrap (l : Int) = (l : Int) := by rw [IntKind.wrap_u64]; omega
  have hu2 : IntKind.u64.wrap (m : Int) = (m : Int) := by rw [IntKind.wrap_u64]; omega
  have hu3 : IntKind.i64.wrap (m : Int) = (m : Int) := by rw [IntKind.wrap_i64]; omega
  have hm64 : m ≤ 63 := by omega
  have hll : lz (v ^^^ V) = l := by rw [hX]; exact hl
  have htt : tz (v ^^^ V) = t := by rw [hX]; exact ht
  rw [hl, ht]
  clear hr hV hv hX hX64 hps henc hab hN hx0 hin AR HO hl ht hlt3 hY2 hm2 hm3 hY64 SZ hm hll htt
  go_enter Tryd.func27, Tryd.ntmps27
  go_wp2_with fail
  refine (xright_yes N V a b _ HR.out).mono ?_
  rintro e w1 ⟨rfl, hB1⟩
  have H1 := below_more H0 hB1
  have S1 := S0.below hB1
  have R1 := R0.below hB1
  have W1 := h.below H1
  have hz1 : w.heap.size + 1 < w1.heap.size := R1.lt
  clear S0 R0 H0 hB1
  go_wp2_with fail
  refine wp_region_noPanic ?_
  refine wp_region_held_drew (S := fun W : World => W.cell? ⟨w.heap.size, 0, none⟩ = some (.int .i64 N) ∧ W.cell? ⟨w.heap.size, 1, none⟩ = some (.int .u64 (V : Nat)) ∧ W.cell? ⟨w.heap.size, 2, none⟩ = some (.int .i64 (a : Nat)) ∧ W.cell? ⟨w.heap.size, 3, none⟩ = some (.int .i64 (b : Nat))) (by kernel_rfl) ((S1.drewN 1).cells4) (fun hSt => ?_)
  have S2 : Blk w1.drew w.heap.size 48 _ := S1
  have R2 : Blk w1.drew (w.heap.size + 1) 48 _ := R1
  have W2 : Wr w1.drew base g B Lb := W1
  have H2 : Below w.heap.size w w1.drew := below_drewN H1 1
  have hz2 : w.heap.size + 1 < w1.drew.heap.size := hz1
  clear S1 R1 W1 H1 hz1
  generalize w1.drew = w2 at *
  refine wpAnyH_picks [0, 1, 2, 3, 4] 4 (by rfl) (by kernel_rfl) (by kernel_rfl) (by kernel_rfl) (fun _ _ _ _ _ h => h) (by assumption) ?_
  simp only [picks, List.drop_succ_cons, List.drop_zero, List.take_succ_cons, List.take_zero, List.cons_append, List.nil_append]
  repeat (first
    | (refine wpY_skip (by rfl) ?_; simp only [Act.put, List.setIfInBounds_toArray, List.set_cons_zero, List.set_cons_succ])
    | (refine wpY_want (v := ?_) (by rfl) (fun W hW => ?_) ?_; rotate_left; (obtain ⟨hW0, hW1, hW2, hW3⟩ := hW; go_simp; try with_reducible rfl); simp only [Act.put, List.setIfInBounds_toArray, List.set_cons_zero, List.set_cons_succ]))
  refine wpY_nil ?_
  refine wpAnyH_two 5 6 3 (by rfl) (by rfl) (by rfl) (by kernel_rfl) (fun K hK => ?_) (fun K hK => ?_)
  · go_simp
    refine (window_any N V a b _).mono ?_
    rintro e w3 ⟨rfl, hB3⟩
    have S3 := S2.below hB3
    have R3 := R2.below hB3
    have W3 := W2.below hB3
    have H3 := below_more H2 hB3
    have hz3 : w.heap.size + 1 < w3.heap.size := R3.lt
    clear S2 R2 W2 H2 hB3 hz2
    refine hK.out _ _ S3.cells4 (fun hSt => ?_)
    clear hK K
    try simp only [Act.put, List.setIfInBounds_toArray, List.set_cons_zero, List.set_cons_succ]
    refine wpAnyH_one 6 2 (by rfl) (by rfl) (by kernel_rfl) (fun K hK => ?_)
    go_simp
    have A4 : Below w3.heap.size w3 (w3.alloc (.cells #[.int .i64 0, .int .i64 0] 113)) := (Below.refl _ w3).alloc (Nat.le_refl _) _
    have S4 := S3.below A4
    have R4 := R3.below A4
    have W4 := W3.below A4
    have H4 := H3.trans (A4.mono H3.size)
    have X4 := Blk.new w3 113 #[.int .i64 0, .int .i64 0]
    refine hK.out _ _ (S4.cells4) (fun hSt => ?_)
    clear hK K
    try simp only [Act.put, List.setIfInBounds_toArray, List.set_cons_zero, List.set_cons_succ]
    obtain ⟨x, hx⟩ : ∃ x, w3.heap.size = x := ⟨_, rfl⟩
    rw [hx] at X4 hz3 ⊢
    generalize w3.alloc (.cells #[.int .i64 0, .int .i64 0] 113) = w4 at *
    clear A4 S3 R3 W3 H3 hx
    refine wpAnyH_picks [7] 1 (by rfl) (by kernel_rfl) (by kernel_rfl) (by kernel_rfl) (fun _ _ _ _ _ h => h) (by assumption) ?_
    simp only [picks, List.drop_succ_cons, List.drop_zero, List.take_succ_cons, List.take_zero, List.cons_append, List.nil_append]
    repeat (first
      | (refine wpY_skip (by rfl) ?_; simp only [Act.put, List.setIfInBounds_toArray, List.set_cons_zero, List.set_cons_succ])
      | (refine wpY_want (v := ?_) (by rfl) (fun W hW => ?_) ?_; rotate_left; (go_simp; try with_reducible rfl); simp only [Act.put, List.setIfInBounds_toArray, List.set_cons_zero, List.set_cons_succ]))
    refine wpY_nil ?_
    obtain ⟨d0, d1⟩ := X4.cells2
    have f0 := X4.frozen 0
    have f1 := X4.frozen 1
    refine wpAnyH_one 8 0 (by rfl) (by rfl) (by kernel_rfl) (fun K hK => ?_)
    go_simp
    refine hK.out _ _ ((S4.farSet2 (g' := x) (by omega) _ _).cells4) (fun hSt => ?_)
    clear hK K
    try simp only [Act.put, List.setIfInBounds_toArray, List.set_cons_zero, List.set_cons_succ]
    refine wpAnyH_done (by kernel_rfl) ?_ _
    refine NoPanic.normal ?_
    have X5 := X4.set2 (.int .i64 (a : Nat)) (.int .i64 (b : Nat))
    have S5 := S4.farSet2 (g' := x) (by omega) (.int .i64 (a : Nat)) (.int .i64 (b : Nat))
    have R5 := R4.farSet2 (g' := x) (by omega) (.int .i64 (a : Nat)) (.int .i64 (b : Nat))
    have W5 := W4.set2 (r := x) (by omega) (fun e => by have := (hrow _ e).2; omega) (.int .i64 (a : Nat)) (.int .i64 (b : Nat))
    have H5 := below_set2 H4 (g := x) (by omega) (.int .i64 (a : Nat)) (.int .i64 (b : Nat))
    clear d0 d1 f0 f1 X4 S4 R4 W4 H4
    unfold set2 at *
    generalize (w4.setCell ⟨x, 0, none⟩ (.int .i64 (a : Nat))).setCell ⟨x, 1, none⟩ (.int .i64 (b : Nat)) = w5 at *
    have hx5 := X5.lt
    obtain ⟨s0, s1, s2, s3⟩ := S5.cells4
    obtain ⟨x0, x1⟩ := X5.cells2
    go_wp2_with fail
    clear s0 s1 s2 s3 x0 x1
    refine wp_region_noPanic ?_
    refine wp_region_held_drew (S := fun W : World => W.cell? ⟨x, 0, none⟩ = some (.int .i64 (a : Nat)) ∧ W.cell? ⟨x, 1, none⟩ = some (.int .i64 (b : Nat))) (by kernel_rfl) ((X5.drewN 1).cells2) (fun hSt => ?_)
    have S6 : Blk w5.drew w.heap.size 48 _ := S5
    have R6 : Blk w5.drew (w.heap.size + 1) 48 _ := R5
    have X6 : Blk w5.drew x 113 _ := X5
    have W6 : Wr w5.drew base g B Lb := W5
    have H6 : Below w.heap.size w w5.drew := below_drewN H5 1
    clear S5 R5 X5 W5 H5 hx5
    generalize w5.drew = w6 at *
    have T6 := hT.below H6
    refine wpAnyH_picks [0, 1] 3 (by rfl) (by kernel_rfl) (by kernel_rfl) (by kernel_rfl) (fun _ _ _ _ _ h => h) (by assumption) ?_
    simp only [picks, List.drop_succ_cons, List.drop_zero, List.take_succ_cons, List.take_zero, List.cons_append, List.nil_append]
    repeat (first
      | (refine wpY_skip (by rfl) ?_; simp only [Act.put, List.setIfInBounds_toArray, List.set_cons_zero, List.set_cons_succ])
      | (refine wpY_want (v := ?_) (by rfl) (fun W hW => ?_) ?_; rotate_left; (obtain ⟨hW0, hW1⟩ := hW; go_simp; try with_reducible rfl); simp only [Act.put, List.setIfInBounds_toArray, List.set_cons_zero, List.set_cons_succ]))
    refine wpY_nil ?_
    refine wpAnyH_one 2 2 (by rfl) (by rfl) (by kernel_rfl) (fun K hK => ?_)
    go_simp
    refine (HAR.out _ T6).mono ?_
    rintro e w7 ⟨rfl, hB7⟩
    have S7 := S6.below hB7
    have R7 := R6.below hB7
    have X7 := X6.below hB7
    have W7 := W6.below hB7
    have H7 := below_more H6 hB7
    clear S6 R6 X6 W6 H6 hB7 T6
    refine hK.out _ _ (X7.cells2) (fun hSt => ?_)
    clear hK K
    try simp only [Act.put, List.setIfInBounds_toArray, List.set_cons_zero, List.set_cons_succ]
    refine wpAnyH_one 3 1 (by rfl) (by rfl) (by kernel_rfl) (fun K hK => ?_)
    go_simp
    refine (HHO.out _).mono ?_
    rintro e w8 ⟨rfl, hB8⟩
    have S8 := S7.below hB8
    have R8 := R7.below hB8
    have X8 := X7.below hB8
    have W8 := W7.below hB8
    have H8 := below_more H7 hB8
    clear S7 R7 X7 W7 H7 hB8
    refine hK.out _ _ (X8.cells2) (fun hSt => ?_)
    clear hK K
    try simp only [Act.put, List.setIfInBounds_toArray, List.set_cons_zero, List.set_cons_succ]
    refine wpAnyH_picks [4] 0 (by rfl) (by kernel_rfl) (by kernel_rfl) (by kernel_rfl) (fun _ _ _ _ _ h => h) (by assumption) ?_
    simp only [picks, List.drop_succ_cons, List.drop_zero, List.take_succ_cons, List.take_zero, List.cons_append, List.nil_append]
    repeat (first
      | (refine wpY_skip (by rfl) ?_; simp only [Act.put, List.setIfInBounds_toArray, List.set_cons_zero, List.set_cons_succ])
      | (refine wpY_want (v := ?_) (by rfl) (fun W hW => ?_) ?_; rotate_left; (go_simp; try with_reducible rfl); simp only [Act.put, List.setIfInBounds_toArray, List.set_cons_zero, List.set_cons_succ]))
    refine wpY_nil ?_
    refine wpAnyH_done (by kernel_rfl) ?_ _
    refine NoPanic.normal ?_
    go_wp2_with fail
    refine (HAR.out _ (hT.below H8)).mono ?_
    rintro e w9 ⟨rfl, hB9⟩
    have S9 := S8.below hB9
    have R9 := R8.below hB9
    have X9 := X8.below hB9
    have W9 := W8.below hB9
    have H9 := below_more H8 hB9
    clear S8 R8 X8 W8 H8 hB9
    obtain ⟨d0, d1⟩ := X9.cells2
    have f0 := X9.frozen 0
    have f1 := X9.frozen 1
    go_wp2_with fail
    have XA := X9.set2 (.int .i64 (l : Nat)) (.int .i64 (t : Nat))
    have SA := S9.farSet2 (g' := x) (by omega) (.int .i64 (l : Nat)) (.int .i64 (t : Nat))
    have RA := R9.farSet2 (g' := x) (by omega) (.int .i64 (l : Nat)) (.int .i64 (t : Nat))
    have WA := W9.set2 (r := x) (by omega) (fun e => by have := (hrow _ e).2; omega) (.int .i64 (l : Nat)) (.int .i64 (t : Nat))
    have HA := below_set2 H9 (g := x) (by omega) (.int .i64 (l : Nat)) (.int .i64 (t : Nat))
    clear d0 d1 f0 f1 X9 S9 R9 W9 H9
    unfold set2 at *
    generalize (w9.setCell ⟨x, 0, none⟩ (.int .i64 (l : Nat))).setCell ⟨x, 1, none⟩ (.int .i64 (t : Nat)) = wa at *
    refine wp_region_noPanic ?_
    refine wp_region_held_drew (S := fun W : World => W.cell? ⟨x, 0, none⟩ = some (.int .i64 (l : Nat)) ∧ W.cell? ⟨x, 1, none⟩ = some (.int .i64 (t : Nat))) (by kernel_rfl) ((XA.drewN 1).cells2) (fun hSt => ?_)
    have S9 : Blk wa.drew w.heap.size 48 _ := SA
    have R9 : Blk wa.drew (w.heap.size + 1) 48 _ := RA
    have X9 : Blk wa.drew x 113 _ := XA
    have W9 : Wr wa.drew base g B Lb := WA
    have H9 : Below w.heap.size w wa.drew := below_drewN HA 1
    clear SA RA XA WA HA
    generalize wa.drew = wb at *
    refine wpAnyH_picks [0, 1, 2, 3, 4, 5, 6, 11, 12, 13, 14, 15] 9 (by rfl) (by kernel_rfl) (by kernel_rfl) (by kernel_rfl) (fun _ _ _ _ _ h => h) (by assumption) ?_
    simp only [picks, List.drop_succ_cons, List.drop_zero, List.take_succ_cons, List.take_zero, List.cons_append, List.nil_append]
    repeat (first
      | (refine wpY_skip (by rfl) ?_; simp only [Act.put, List.setIfInBounds_toArray, List.set_cons_zero, List.set_cons_succ])
      | (refine wpY_want (v := ?_) (by rfl) (fun W hW => ?_) ?_; rotate_left; (obtain ⟨hW0, hW1⟩ := hW; go_simp; try with_reducible rfl); simp only [Act.put, List.setIfInBounds_toArray, List.set_cons_zero, List.set_cons_succ]))
    refine wpY_nil ?_
    refine wpAnyH_one 7 8 (by rfl) (by rfl) (by kernel_rfl) (fun K hK => ?_)
    go_simp
    refine (HSZ.out _).mono ?_
    rintro e wc ⟨rfl, hBc⟩
    have Sc := S9.below hBc
    have Rc := R9.below hBc
    have Xc := X9.below hBc
    have Wc := W9.below hBc
    have Hc := below_more H9 hBc
    clear S9 R9 X9 W9 H9 hBc
    refine hK.out _ _ (Xc.cells2) (fun hSt => ?_)
    clear hK K
    try simp only [Act.put, List.setIfInBounds_toArray, List.set_cons_zero, List.set_cons_succ]
    refine wpAnyH_picks [8, 9, 10] 5 (by rfl) (by kernel_rfl) (by kernel_rfl) (by kernel_rfl) (fun _ _ _ _ _ h => h) (by assumption) ?_
    simp only [picks, List.drop_succ_cons, List.drop_zero, List.take_succ_cons, List.take_zero, List.cons_append, List.nil_append]
    repeat (first
      | (refine wpY_skip (by rfl) ?_; simp only [Act.put, List.setIfInBounds_toArray, List.set_cons_zero, List.set_cons_succ])
      | (refine wpY_want (v := ?_) (by rfl) (fun W hW => ?_) ?_; rotate_left; (go_simp; try with_reducible rfl); simp only [Act.put, List.setIfInBounds_toArray, List.set_cons_zero, List.set_cons_succ]))
    refine wpY_nil ?_
    refine wpAnyH_one 16 4 (by rfl) (by rfl) (by kernel_rfl) (fun K hK => ?_)
    go_simp
    refine (HSZ.out _).mono ?_
    rintro e wd ⟨rfl, hBd⟩
    have Sd := Sc.below hBd
    have Rd_ := Rc.below hBd
    have Xd := Xc.below hBd
    have Wd := Wc.below hBd
    have Hd := below_more Hc hBd
    clear Sc Rc Xc Wc Hc hBd
    refine hK.out _ _ (Xd.cells2) (fun hSt => ?_)
    clear hK K
    try simp only [Act.put, List.setIfInBounds_toArray, List.set_cons_zero, List.set_cons_succ]
    refine wpAnyH_picks [17] 3 (by rfl) (by kernel_rfl) (by kernel_rfl) (by kernel_rfl) (fun _ _ _ _ _ h => h) (by assumption) ?_
    simp only [picks, List.drop_succ_cons, List.drop_zero, List.take_succ_cons, List.take_zero, List.cons_append, List.nil_append]
    repeat (first
      | (refine wpY_skip (by rfl) ?_; simp only [Act.put, List.setIfInBounds_toArray, List.set_cons_zero, List.set_cons_succ])
      | (refine wpY_want (v := ?_) (by rfl) (fun W hW => ?_) ?_; rotate_left; (go_simp; try with_reducible rfl); simp only [Act.put, List.setIfInBounds_toArray, List.set_cons_zero, List.set_cons_succ]))
    refine wpY_nil ?_
    refine wpAnyH_one 18 2 (by rfl) (by rfl) (by kernel_rfl) (fun K hK => ?_)
    go_simp
    have A6 : Below wd.heap.size wd (wd.alloc (.cells #[.int .u64 3, .int .i64 2, .int .u64 (l : Nat), .int .i64 6, .int .u64 (m : Nat), .int .i64 6, .int .u64 (Y : Nat), .int .i64 ((m : Int) + 1)] 117)) := (Below.refl _ wd).alloc (Nat.le_refl _) _
    have P6 := PartsAt.four (n4 := m + 1) (Blk.new wd 117 #[.int .u64 3, .int .i64 2, .int .u64 (l : Nat), .int .i64 6, .int .u64 (m : Nat), .int .i64 6, .int .u64 (Y : Nat), .int .i64 ((m : Int) + 1)]) rfl rfl rfl rfl rfl rfl rfl (by push_cast; rfl)
    have W6 := Wd.below A6
    have S6 := Sd.below A6
    have R6 := Rd_.below A6
    have X6 := Xd.below A6
    have H6 := Hd.trans (A6.mono Hd.size)
    refine hK.out _ _ (X6.cells2) (fun hSt => ?_)
    clear hK K
    try simp only [Act.put, List.setIfInBounds_toArray, List.set_cons_zero, List.set_cons_succ]
    obtain ⟨q, hq⟩ : ∃ q, wd.heap.size = q := ⟨_, rfl⟩
    have hq6 : q < (wd.alloc (.cells #[.int .u64 3, .int .i64 2, .int .u64 (l : Nat), .int .i64 6, .int .u64 (m : Nat), .int .i64 6, .int .u64 (Y : Nat), .int .i64 ((m : Int) + 1)] 117)).heap.size := by simp; omega
    have hxq : x < q := by have := Xd.lt; omega
    rw [hq] at P6 ⊢
    generalize wd.alloc (.cells #[.int .u64 3, .int .i64 2, .int .u64 (l : Nat), .int .i64 6, .int .u64 (m : Nat), .int .i64 6, .int .u64 (Y : Nat), .int .i64 ((m : Int) + 1)] 117) = w6 at *
    clear A6 Wd Sd Rd_ Xd Hd hq
    have hgq : q ≠ g := by omega
    have hBq : B ≠ some q := fun e => by have := (hrow _ e).2; omega
    refine wpAnyH_one 19 1 (by rfl) (by rfl) (by kernel_rfl) (fun K hK => ?_)
    go_simp
    refine (write_any w6 base g q B Lb [(3, 2), (l, 6), (m, 6), (Y, m + 1)] 4 W6 P6 HPS.out (by simp) (by simp) (by omega) (Nat.le_trans hbase H6.size) hgq hBq hq6).mono ?_
    rintro e w7 ⟨rfl, B7, W7, hB7, hT7⟩
    rw [HENC.out] at W7
    have S7 := S6.touch hT7 (by omega) (fun e => by have := (hrow _ e.symm).2; omega)
    have R7 := R6.touch hT7 (by omega) (fun e => by have := (hrow _ e.symm).2; omega)
    have X7 := X6.touch hT7 (by omega) (fun e => by have := (hrow _ e.symm).2; omega)
    have T7 := (Touch.of_below H6 g B).trans hT7 (.inl rfl)
    have nb : ∀ r, w.heap.size ≤ r → r < q → B7 ≠ some r := fun r h1 h2 e => by
      rcases hB7 with rfl | ⟨b, rfl, hb⟩
      · have := (hrow _ e).2; omega
      · have : b = r := by injection e
        omega
    have NB := Lib.hid nb
    have hBB : B7 = B ∨ ∃ b, B7 = some b ∧ w.heap.size ≤ b := by
      rcases hB7 with rfl | ⟨b, rfl, hb⟩
      · exact .inl rfl
      · exact .inr ⟨b, rfl, Nat.le_trans H6.size hb⟩
    have HBB := Lib.hid hBB
    have hz7 := T7.size
    clear nb hBB hB7 hT7 W6 S6 R6 X6 H6
    refine hK.out _ _ (X7.cells2) (fun hSt => ?_)
    clear hK K
    try simp only [Act.put, List.setIfInBounds_toArray, List.set_cons_zero, List.set_cons_succ]
    refine wpAnyH_picks [20] 0 (by rfl) (by kernel_rfl) (by kernel_rfl) (by kernel_rfl) (fun _ _ _ _ _ h => h) (by assumption) ?_
    simp only [picks, List.drop_succ_cons, List.drop_zero, List.take_succ_cons, List.take_zero, List.cons_append, List.nil_append]
    repeat (first
      | (refine wpY_skip (by rfl) ?_; simp only [Act.put, List.setIfInBounds_toArray, List.set_cons_zero, List.set_cons_succ])
      | (refine wpY_want (v := ?_) (by rfl) (fun W hW => ?_) ?_; rotate_left; (go_simp; try with_reducible rfl); simp only [Act.put, List.setIfInBounds_toArray, List.set_cons_zero, List.set_cons_succ]))
    refine wpY_nil ?_
    refine wpAnyH_done (by kernel_rfl) ?_ _
    refine NoPanic.normal ?_
    obtain ⟨s0, s1, s2, s3⟩ := S7.cells4
    obtain ⟨x0, x1⟩ := X7.cells2
    go_wp2_with fail
    refine (xnext_any N V a b v l t _ n1 n2).mono ?_
    rintro e w8 ⟨rfl, hB8⟩
    have R8 := R7.below hB8
    have W8 := W7.below hB8
    have T8 := T7.trans (Touch.of_below hB8 g B) (.inl rfl)
    clear s0 s1 s2 s3 x0 x1
    obtain ⟨d0, d1, d2, d3⟩ := R8.cells4
    obtain ⟨e0, e1, e2, e3⟩ := R8.free4
    go_wp2_with fail
    obtain ⟨q0, q1, q2, q3⟩ := (R8.set4 (.int .i64 (N + 1)) (.int .u64 (v : Nat)) (.int .i64 (l : Nat)) (.int .i64 (t : Nat))).cells4
    refine bodyPost_ret (v := .tuple #[.agg #[.int .i64 (N + 1), .int .u64 (v : Nat), .int .i64 (l : Nat), .int .i64 (t : Nat)], .int .i64 0]) (by simp [results, Tryd.results27, go_sem, q0, q1, q2, q3]) rfl ⟨rfl, B7, W8.set4 (by omega) (NB.out _ (by omega) (by omega)) _ _ _ _, HBB.out, T8.set4 (by omega) _ _ _ _⟩
  · go_simp
    have A3 : Below w2.heap.size w2 (w2.alloc (.cells #[.int .i64 0, .int .i64 0] 113)) := (Below.refl _ w2).alloc (Nat.le_refl _) _
    have S3 := S2.below A3
    have R3 := R2.below A3
    have W3 := W2.below A3
    have H3 := H2.trans (A3.mono H2.size)
    have X3 := Blk.new w2 113 #[.int .i64 0, .int .i64 0]
    have hz3 := hz2
    refine hK.out _ _ S3.cells4 (fun hSt => ?_)
    clear hK K
    try simp only [Act.put, List.setIfInBounds_toArray, List.set_cons_zero, List.set_cons_succ]
    obtain ⟨x, hx⟩ : ∃ x, w2.heap.size = x := ⟨_, rfl⟩
    rw [hx] at X3 hz3 ⊢
    generalize w2.alloc (.cells #[.int .i64 0, .int .i64 0] 113) = w3 at *
    clear A3 S2 R2 W2 H2 hx hz2
    refine wpAnyH_one 5 2 (by rfl) (by rfl) (by kernel_rfl) (fun K hK => ?_)
    go_simp
    refine (window_any N V a b _).mono ?_
    rintro e w4 ⟨rfl, hB4⟩
    have S4 := S3.below hB4
    have R4 := R3.below hB4
    have W4 := W3.below hB4
    have X4 := X3.below hB4
    have H4 := below_more H3 hB4
    clear S3 R3 W3 X3 H3 hB4
    refine hK.out _ _ (S4.cells4) (fun hSt => ?_)
    clear hK K
    try simp only [Act.put, List.setIfInBounds_toArray, List.set_cons_zero, List.set_cons_succ]
    refine wpAnyH_picks [7] 1 (by rfl) (by kernel_rfl) (by kernel_rfl) (by kernel_rfl) (fun _ _ _ _ _ h => h) (by assumption) ?_
    simp only [picks, List.drop_succ_cons, List.drop_zero, List.take_succ_cons, List.take_zero, List.cons_append, List.nil_append]
    repeat (first
      | (refine wpY_skip (by rfl) ?_; simp only [Act.put, List.setIfInBounds_toArray, List.set_cons_zero, List.set_cons_succ])
      | (refine wpY_want (v := ?_) (by rfl) (fun W hW => ?_) ?_; rotate_left; (go_simp; try with_reducible rfl); simp only [Act.put, List.setIfInBounds_toArray, List.set_cons_zero, List.set_cons_succ]))
    refine wpY_nil ?_
    obtain ⟨d0, d1⟩ := X4.cells2
    have f0 := X4.frozen 0
    have f1 := X4.frozen 1
    refine wpAnyH_one 8 0 (by rfl) (by rfl) (by kernel_rfl) (fun K hK => ?_)
    go_simp
    refine hK.out _ _ ((S4.farSet2 (g' := x) (by omega) _ _).cells4) (fun hSt => ?_)
    clear hK K
    try simp only [Act.put, List.setIfInBounds_toArray, List.set_cons_zero, List.set_cons_succ]
    refine wpAnyH_done (by kernel_rfl) ?_ _
    refine NoPanic.normal ?_
    have X5 := X4.set2 (.int .i64 (a : Nat)) (.int .i64 (b : Nat))
    have S5 := S4.farSet2 (g' := x) (by omega) (.int .i64 (a : Nat)) (.int .i64 (b : Nat))
    have R5 := R4.farSet2 (g' := x) (by omega) (.int .i64 (a : Nat)) (.int .i64 (b : Nat))
    have W5 := W4.set2 (r := x) (by omega) (fun e => by have := (hrow _ e).2; omega) (.int .i64 (a : Nat)) (.int .i64 (b : Nat))
    have H5 := below_set2 H4 (g := x) (by omega) (.int .i64 (a : Nat)) (.int .i64 (b : Nat))
    clear d0 d1 f0 f1 X4 S4 R4 W4 H4
    unfold set2 at *
    generalize (w4.setCell ⟨x, 0, none⟩ (.int .i64 (a : Nat))).setCell ⟨x, 1, none⟩ (.int .i64 (b : Nat)) = w5 at *
    have hx5 := X5.lt
    obtain ⟨s0, s1, s2, s3⟩ := S5.cells4
    obtain ⟨x0, x1⟩ := X5.cells2
    go_wp2_with fail
    clear s0 s1 s2 s3 x0 x1
    refine wp_region_noPanic ?_
    refine wp_region_held_drew (S := fun W : World => W.cell? ⟨x, 0, none⟩ = some (.int .i64 (a : Nat)) ∧ W.cell? ⟨x, 1, none⟩ = some (.int .i64 (b : Nat))) (by kernel_rfl) ((X5.drewN 1).cells2) (fun hSt => ?_)
    have S6 : Blk w5.drew w.heap.size 48 _ := S5
    have R6 : Blk w5.drew (w.heap.size + 1) 48 _ := R5
    have X6 : Blk w5.drew x 113 _ := X5
    have W6 : Wr w5.drew base g B Lb := W5
    have H6 : Below w.heap.size w w5.drew := below_drewN H5 1
    clear S5 R5 X5 W5 H5 hx5
    generalize w5.drew = w6 at *
    have T6 := hT.below H6
    refine wpAnyH_picks [0, 1] 3 (by rfl) (by kernel_rfl) (by kernel_rfl) (by kernel_rfl) (fun _ _ _ _ _ h => h) (by assumption) ?_
    simp only [picks, List.drop_succ_cons, List.drop_zero, List.take_succ_cons, List.take_zero, List.cons_append, List.nil_append]
    repeat (first
      | (refine wpY_skip (by rfl) ?_; simp only [Act.put, List.setIfInBounds_toArray, List.set_cons_zero, List.set_cons_succ])
      | (refine wpY_want (v := ?_) (by rfl) (fun W hW => ?_) ?_; rotate_left; (obtain ⟨hW0, hW1⟩ := hW; go_simp; try with_reducible rfl); simp only [Act.put, List.setIfInBounds_toArray, List.set_cons_zero, List.set_cons_succ]))
    refine wpY_nil ?_
    refine wpAnyH_one 2 2 (by rfl) (by rfl) (by kernel_rfl) (fun K hK => ?_)
    go_simp
    refine (HAR.out _ T6).mono ?_
    rintro e w7 ⟨rfl, hB7⟩
    have S7 := S6.below hB7
    have R7 := R6.below hB7
    have X7 := X6.below hB7
    have W7 := W6.below hB7
    have H7 := below_more H6 hB7
    clear S6 R6 X6 W6 H6 hB7 T6
    refine hK.out _ _ (X7.cells2) (fun hSt => ?_)
    clear hK K
    try simp only [Act.put, List.setIfInBounds_toArray, List.set_cons_zero, List.set_cons_succ]
    refine wpAnyH_one 3 1 (by rfl) (by rfl) (by kernel_rfl) (fun K hK => ?_)
    go_simp
    refine (HHO.out _).mono ?_
    rintro e w8 ⟨rfl, hB8⟩
    have S8 := S7.below hB8
    have R8 := R7.below hB8
    have X8 := X7.below hB8
    have W8 := W7.below hB8
    have H8 := below_more H7 hB8
    clear S7 R7 X7 W7 H7 hB8
    refine hK.out _ _ (X8.cells2) (fun hSt => ?_)
    clear hK K
    try simp only [Act.put, List.setIfInBounds_toArray, List.set_cons_zero, List.set_cons_succ]
    refine wpAnyH_picks [4] 0 (by rfl) (by kernel_rfl) (by kernel_rfl) (by kernel_rfl) (fun _ _ _ _ _ h => h) (by assumption) ?_
    simp only [picks, List.drop_succ_cons, List.drop_zero, List.take_succ_cons, List.take_zero, List.cons_append, List.nil_append]
    repeat (first
      | (refine wpY_skip (by rfl) ?_; simp only [Act.put, List.setIfInBounds_toArray, List.set_cons_zero, List.set_cons_succ])
      | (refine wpY_want (v := ?_) (by rfl) (fun W hW => ?_) ?_; rotate_left; (go_simp; try with_reducible rfl); simp only [Act.put, List.setIfInBounds_toArray, List.set_cons_zero, List.set_cons_succ]))
    refine wpY_nil ?_
    refine wpAnyH_done (by kernel_rfl) ?_ _
    refine NoPanic.normal ?_
    go_wp2_with fail
    refine (HAR.out _ (hT.below H8)).mono ?_
    rintro e w9 ⟨rfl, hB9⟩
    have S9 := S8.below hB9
    have R9 := R8.below hB9
    have X9 := X8.below hB9
    have W9 := W8.below hB9
    have H9 := below_more H8 hB9
    clear S8 R8 X8 W8 H8 hB9
    obtain ⟨d0, d1⟩ := X9.cells2
    have f0 := X9.frozen 0
    have f1 := X9.frozen 1
    go_wp2_with fail
    have XA := X9.set2 (.int .i64 (l : Nat)) (.int .i64 (t : Nat))
    have SA := S9.farSet2 (g' := x) (by omega) (.int .i64 (l : Nat)) (.int .i64 (t : Nat))
    have RA := R9.farSet2 (g' := x) (by omega) (.int .i64 (l : Nat)) (.int .i64 (t : Nat))
    have WA := W9.set2 (r := x) (by omega) (fun e => by have := (hrow _ e).2; omega) (.int .i64 (l : Nat)) (.int .i64 (t : Nat))
    have HA := below_set2 H9 (g := x) (by omega) (.int .i64 (l : Nat)) (.int .i64 (t : Nat))
    clear d0 d1 f0 f1 X9 S9 R9 W9 H9
    unfold set2 at *
    generalize (w9.setCell ⟨x, 0, none⟩ (.int .i64 (l : Nat))).setCell ⟨x, 1, none⟩ (.int .i64 (t : Nat)) = wa at *
    refine wp_region_noPanic ?_
    refine wp_region_held_drew (S := fun W : World => W.cell? ⟨x, 0, none⟩ = some (.int .i64 (l : Nat)) ∧ W.cell? ⟨x, 1, none⟩ = some (.int .i64 (t : Nat))) (by kernel_rfl) ((XA.drewN 1).cells2) (fun hSt => ?_)
    have S9 : Blk wa.drew w.heap.size 48 _ := SA
    have R9 : Blk wa.drew (w.heap.size + 1) 48 _ := RA
    have X9 : Blk wa.drew x 113 _ := XA
    have W9 : Wr wa.drew base g B Lb := WA
    have H9 : Below w.heap.size w wa.drew := below_drewN HA 1
    clear SA RA XA WA HA
    generalize wa.drew = wb at *
    refine wpAnyH_picks [0, 1, 2, 3, 4, 5, 6, 11, 12, 13, 14, 15] 9 (by rfl) (by kernel_rfl) (by kernel_rfl) (by kernel_rfl) (fun _ _ _ _ _ h => h) (by assumption) ?_
    simp only [picks, List.drop_succ_cons, List.drop_zero, List.take_succ_cons, List.take_zero, List.cons_append, List.nil_append]
    repeat (first
      | (refine wpY_skip (by rfl) ?_; simp only [Act.put, List.setIfInBounds_toArray, List.set_cons_zero, List.set_cons_succ])
      | (refine wpY_want (v := ?_) (by rfl) (fun W hW => ?_) ?_; rotate_left; (obtain ⟨hW0, hW1⟩ := hW; go_simp; try with_reducible rfl); simp only [Act.put, List.setIfInBounds_toArray, List.set_cons_zero, List.set_cons_succ]))
    refine wpY_nil ?_
    refine wpAnyH_one 7 8 (by rfl) (by rfl) (by kernel_rfl) (fun K hK => ?_)
    go_simp
    refine (HSZ.out _).mono ?_
    rintro e wc ⟨rfl, hBc⟩
    have Sc := S9.below hBc
    have Rc := R9.below hBc
    have Xc := X9.below hBc
    have Wc := W9.below hBc
    have Hc := below_more H9 hBc
    clear S9 R9 X9 W9 H9 hBc
    refine hK.out _ _ (Xc.cells2) (fun hSt => ?_)
    clear hK K
    try simp only [Act.put, List.setIfInBounds_toArray, List.set_cons_zero, List.set_cons_succ]
    refine wpAnyH_picks [8, 9, 10] 5 (by rfl) (by kernel_rfl) (by kernel_rfl) (by kernel_rfl) (fun _ _ _ _ _ h => h) (by assumption) ?_
    simp only [picks, List.drop_succ_cons, List.drop_zero, List.take_succ_cons, List.take_zero, List.cons_append, List.nil_append]
    repeat (first
      | (refine wpY_skip (by rfl) ?_; simp only [Act.put, List.setIfInBounds_toArray, List.set_cons_zero, List.set_cons_succ])
      | (refine wpY_want (v := ?_) (by rfl) (fun W hW => ?_) ?_; rotate_left; (go_simp; try with_reducible rfl); simp only [Act.put, List.setIfInBounds_toArray, List.set_cons_zero, List.set_cons_succ]))
    refine wpY_nil ?_
    refine wpAnyH_one 16 4 (by rfl) (by rfl) (by kernel_rfl) (fun K hK => ?_)
    go_simp
    refine (HSZ.out _).mono ?_
    rintro e wd ⟨rfl, hBd⟩
    have Sd := Sc.below hBd
    have Rd_ := Rc.below hBd
    have Xd := Xc.below hBd
    have Wd := Wc.below hBd
    have Hd := below_more Hc hBd
    clear Sc Rc Xc Wc Hc hBd
    refine hK.out _ _ (Xd.cells2) (fun hSt => ?_)
    clear hK K
    try simp only [Act.put, List.setIfInBounds_toArray, List.set_cons_zero, List.set_cons_succ]
    refine wpAnyH_picks [17] 3 (by rfl) (by kernel_rfl) (by kernel_rfl) (by kernel_rfl) (fun _ _ _ _ _ h => h) (by assumption) ?_
    simp only [picks, List.drop_succ_cons, List.drop_zero, List.take_succ_cons, List.take_zero, List.cons_append, List.nil_append]
    repeat (first
      | (refine wpY_skip (by rfl) ?_; simp only [Act.put, List.setIfInBounds_toArray, List.set_cons_zero, List.set_cons_succ])
      | (refine wpY_want (v := ?_) (by rfl) (fun W hW => ?_) ?_; rotate_left; (go_simp; try with_reducible rfl); simp only [Act.put, List.setIfInBounds_toArray, List.set_cons_zero, List.set_cons_succ]))
    refine wpY_nil ?_
    refine wpAnyH_one 18 2 (by rfl) (by rfl) (by kernel_rfl) (fun K hK => ?_)
    go_simp
    have A6 : Below wd.heap.size wd (wd.alloc (.cells #[.int .u64 3, .int .i64 2, .int .u64 (l : Nat), .int .i64 6, .int .u64 (m : Nat), .int .i64 6, .int .u64 (Y : Nat), .int .i64 ((m : Int) + 1)] 117)) := (Below.refl _ wd).alloc (Nat.le_refl _) _
    have P6 := PartsAt.four (n4 := m + 1) (Blk.new wd 117 #[.int .u64 3, .int .i64 2, .int .u64 (l : Nat), .int .i64 6, .int .u64 (m : Nat), .int .i64 6, .int .u64 (Y : Nat), .int .i64 ((m : Int) + 1)]) rfl rfl rfl rfl rfl rfl rfl (by push_cast; rfl)
    have W6 := Wd.below A6
    have S6 := Sd.below A6
    have R6 := Rd_.below A6
    have X6 := Xd.below A6
    have H6 := Hd.trans (A6.mono Hd.size)
    refine hK.out _ _ (X6.cells2) (fun hSt => ?_)
    clear hK K
    try simp only [Act.put, List.setIfInBounds_toArray, List.set_cons_zero, List.set_cons_succ]
    obtain ⟨q, hq⟩ : ∃ q, wd.heap.size = q := ⟨_, rfl⟩
    have hq6 : q < (wd.alloc (.cells #[.int .u64 3, .int .i64 2, .int .u64 (l : Nat), .int .i64 6, .int .u64 (m : Nat), .int .i64 6, .int .u64 (Y : Nat), .int .i64 ((m : Int) + 1)] 117)).heap.size := by simp; omega
    have hxq : x < q := by have := Xd.lt; omega
    rw [hq] at P6 ⊢
    generalize wd.alloc (.cells #[.int .u64 3, .int .i64 2, .int .u64 (l : Nat), .int .i64 6, .int .u64 (m : Nat), .int .i64 6, .int .u64 (Y : Nat), .int .i64 ((m : Int) + 1)] 117) = w6 at *
    clear A6 Wd Sd Rd_ Xd Hd hq
    have hgq : q ≠ g := by omega
    have hBq : B ≠ some q := fun e => by have := (hrow _ e).2; omega
    refine wpAnyH_one 19 1 (by rfl) (by rfl) (by kernel_rfl) (fun K hK => ?_)
    go_simp
    refine (write_any w6 base g q B Lb [(3, 2), (l, 6), (m, 6), (Y, m + 1)] 4 W6 P6 HPS.out (by simp) (by simp) (by omega) (Nat.le_trans hbase H6.size) hgq hBq hq6).mono ?_
    rintro e w7 ⟨rfl, B7, W7, hB7, hT7⟩
    rw [HENC.out] at W7
    have S7 := S6.touch hT7 (by omega) (fun e => by have := (hrow _ e.symm).2; omega)
    have R7 := R6.touch hT7 (by omega) (fun e => by have := (hrow _ e.symm).2; omega)
    have X7 := X6.touch hT7 (by omega) (fun e => by have := (hrow _ e.symm).2; omega)
    have T7 := (Touch.of_below H6 g B).trans hT7 (.inl rfl)
    have nb : ∀ r, w.heap.size ≤ r → r < q → B7 ≠ some r := fun r h1 h2 e => by
      rcases hB7 with rfl | ⟨b, rfl, hb⟩
      · have := (hrow _ e).2; omega
      · have : b = r := by injection e
        omega
    have NB := Lib.hid nb
    have hBB : B7 = B ∨ ∃ b, B7 = some b ∧ w.heap.size ≤ b := by
      rcases hB7 with rfl | ⟨b, rfl, hb⟩
      · exact .inl rfl
      · exact .inr ⟨b, rfl, Nat.le_trans H6.size hb⟩
    have HBB := Lib.hid hBB
    have hz7 := T7.size
    clear nb hBB hB7 hT7 W6 S6 R6 X6 H6
    refine hK.out _ _ (X7.cells2) (fun hSt => ?_)
    clear hK K
    try simp only [Act.put, List.setIfInBounds_toArray, List.set_cons_zero, List.set_cons_succ]
    refine wpAnyH_picks [20] 0 (by rfl) (by kernel_rfl) (by kernel_rfl) (by kernel_rfl) (fun _ _ _ _ _ h => h) (by assumption) ?_
    simp only [picks, List.drop_succ_cons, List.drop_zero, List.take_succ_cons, List.take_zero, List.cons_append, List.nil_append]
    repeat (first
      | (refine wpY_skip (by rfl) ?_; simp only [Act.put, List.setIfInBounds_toArray, List.set_cons_zero, List.set_cons_succ])
      | (refine wpY_want (v := ?_) (by rfl) (fun W hW => ?_) ?_; rotate_left; (go_simp; try with_reducible rfl); simp only [Act.put, List.setIfInBounds_toArray, List.set_cons_zero, List.set_cons_succ]))
    refine wpY_nil ?_
    refine wpAnyH_done (by kernel_rfl) ?_ _
    refine NoPanic.normal ?_
    obtain ⟨s0, s1, s2, s3⟩ := S7.cells4
    obtain ⟨x0, x1⟩ := X7.cells2
    go_wp2_with fail
    refine (xnext_any N V a b v l t _ n1 n2).mono ?_
    rintro e w8 ⟨rfl, hB8⟩
    have R8 := R7.below hB8
    have W8 := W7.below hB8
    have T8 := T7.trans (Touch.of_below hB8 g B) (.inl rfl)
    clear s0 s1 s2 s3 x0 x1
    obtain ⟨d0, d1, d2, d3⟩ := R8.cells4
    obtain ⟨e0, e1, e2, e3⟩ := R8.free4
    go_wp2_with fail
    obtain ⟨q0, q1, q2, q3⟩ := (R8.set4 (.int .i64 (N + 1)) (.int .u64 (v : Nat)) (.int .i64 (l : Nat)) (.int .i64 (t : Nat))).cells4
    refine bodyPost_ret (v := .tuple #[.agg #[.int .i64 (N + 1), .int .u64 (v : Nat), .int .i64 (l : Nat), .int .i64 (t : Nat)], .int .i64 0]) (by simp [results, Tryd.results27, go_sem, q0, q1, q2, q3]) rfl ⟨rfl, B7, W8.set4 (by omega) (NB.out _ (by omega) (by omega)) _ _ _ _, HBB.out, T8.set4 (by omega) _ _ _ _⟩

/-- Put, at a state that may be. -/
theorem xPut_yes (w : World) (base g : Nat) (B : Option Nat) (Lb : List Bool) (N : Int) (V a b v : Nat) (h : Wr w base g B Lb) (hT : XorTab w) (hLb : Lb.length ≤ 400000) (hbase : base ≤ w.heap.size) (hr : rightX N a b = true) (hV : V < 18446744073709551616) (hv : v < 18446744073709551616) :
    Calls Tryd.prog 27 #[.pointer (some ⟨g, 0, none⟩), .agg #[.int .i64 N, .int .u64 (V : Nat), .int .i64 (a : Nat), .int .i64 (b : Nat)], .int .u64 (v : Nat)] w fun e w' =>
      e = .returned (.tuple #[.agg #[.int .i64 (N + 1), .int .u64 (v : Nat), .int .i64 ((winX N V a b v).1 : Nat), .int .i64 ((winX N V a b v).2 : Nat)], .int .i64 0]) ∧ ∃ B', Wr w' base g B' (Lb ++ encX N V a b v) ∧ (B' = B ∨ ∃ b, B' = some b ∧ w.heap.size ≤ b) ∧ Touch g B w w' := by
  unfold winX encX
  by_cases hN : N = 0
  · rw [if_pos hN, if_pos hN]
    exact xPut_first w base g B Lb N V a b v h hT hLb hbase hr hV hv hN
  · rw [if_neg hN, if_neg hN]
    by_cases hx0 : v ^^^ V = 0
    · rw [winD, encD, if_pos hx0, if_pos hx0]
      exact xPut_same w base g B Lb N V a b v h hT hLb hbase hr hV hv hN hx0
    · cases hin : inW a b (v ^^^ V) with
      | true =>
        rw [winD, if_neg hx0, if_pos hin]
        exact xPut_in w base g B Lb N V a b v h hT hLb hbase hr hV hv hN hx0 hin
      | false =>
        rw [winD, if_neg hx0, if_neg (by rw [hin]; decide)]
        exact xPut_new w base g B Lb N V a b v h hT hLb hbase hr hV hv hN hx0 hin
end Go.Proofs.YtlgndfckmnninaaDoor
