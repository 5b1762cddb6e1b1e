/- Walk of the reference's Bytes of values. Conditions: as stated. -/
import Derived.Test.YtlgndfckmnninaaDoorXorB
import Derived.Test.YtlgndfckmnninaaDoorXorR
import Derived.Test.YtlgndfckmnninaaDoorBitsC
import Derived.Test.YtlgndfckmnninaaDoorPicks
namespace Go.Proofs.YtlgndfckmnninaaDoor
open Go.RowKit
set_option linter.unusedVariables false

theorem xrPut_to (w : World) (base g : Nat) (B : Option Nat) (Lb M : List Bool) (N : Int) (V a b v : Nat) (N' V' a' b' Vi ai bi : Int) (h : Rw w base g B Lb) (hLb : Lb.length ≤ 400000) (hbase : base ≤ w.heap.size) (hr : rightX N a b = true) (hV : V < 18446744073709551616) (hv : v < 18446744073709551616)
    (e1 : N + 1 = N') (e2 : (v : Int) = V') (e3 : (((winX N V a b v).1 : Nat) : Int) = a') (e4 : (((winX N V a b v).2 : Nat) : Int) = b') (e5 : Lb ++ encX N V a b v = M) (e6 : (V : Int) = Vi) (e7 : (a : Int) = ai) (e8 : (b : Int) = bi) :
    Calls Tryd.prog 28 #[.pointer (some ⟨g, 0, none⟩), .agg #[.int .i64 N, .int .u64 Vi, .int .i64 ai, .int .i64 bi], .int .u64 V'] w fun e w' =>
      e = .returned (.tuple #[.agg #[.int .i64 N', .int .u64 V', .int .i64 a', .int .i64 b'], .int .i64 0]) ∧ ∃ B', Rw w' base g B' M ∧ (B' = B ∨ ∃ b, B' = some b ∧ w.heap.size ≤ b) ∧ Touch g B w w' := by
  subst e1 e2 e3 e4 e5 e6 e7 e8
  exact xrPut_yes w base g B Lb N V a b v h hLb hbase hr hV hv

set_option maxHeartbeats 3200000 in
theorem xrBytes_any (w : World) (A : Option Addr) (len cap : Nat) (ts : List Nat) (hR : RU w A len cap ts) (hts : ∀ x ∈ ts, x < 18446744073709551616) (hlen : len ≤ 4096) :
    Calls Tryd.prog 48 #[.slice A len cap] w fun e w' => AnsB w w' (some (putsX 0 0 64 0 ts)) e ∧ Below w.heap.size w w' := by
  obtain ⟨hl0, hlc, hcap, hcell⟩ := hR
  have HCELL := Lib.hid hcell
  have HL0 := Lib.hid hl0
  have HTS := Lib.hid hts
  clear hcell hl0 hts
  go_enter Tryd.func48, Tryd.ntmps48
  have A0 : Below w.heap.size w (w.alloc (.cells #[.slice none 0 0] 36)) := (Below.refl _ w).alloc (Nat.le_refl _) _
  have W1 := Rw.new w w.heap.size (Nat.le_refl _)
  go_wp2_with fail
  refine (refBegin_any _).mono ?_
  rintro e u1 ⟨rfl, hB1⟩
  have hw1 : w.heap.size + 1 ≤ u1.heap.size := by have := hB1.size; simpa using this
  have H1 := below_more A0 hB1
  have W1' := W1.below hB1
  have A1 : Below u1.heap.size u1 (u1.alloc (.cells #[.int .i64 0, .int .u64 0, .int .i64 64, .int .i64 0] 53)) := (Below.refl _ u1).alloc (Nat.le_refl _) _
  have X2 := Blk.new u1 53 #[.int .i64 0, .int .u64 0, .int .i64 64, .int .i64 0]
  have W2 := W1'.below A1
  have H2 := H1.trans (A1.mono H1.size)
  go_wp2_with fail
  obtain ⟨x, hx⟩ : ∃ x, u1.heap.size = x := ⟨_, rfl⟩
  rw [hx] at X2 hw1 ⊢
  generalize u1.alloc (.cells #[.int .i64 0, .int .u64 0, .int .i64 64, .int .i64 0] 53) = u2 at *
  clear A0 W1 W1' A1 hB1 H1 hx
  go_loopw [6] (fun iv wr => ∃ (i V a b : Nat) (B : Option Nat) (Lb : List Bool), iv = .int .i64 i ∧ i ≤ len ∧ Rw wr w.heap.size w.heap.size B Lb ∧ Blk wr x 53 #[.int .i64 (i : Nat), .int .u64 (V : Nat), .int .i64 (a : Nat), .int .i64 (b : Nat)] ∧ Below w.heap.size w wr ∧ Hid (∀ k, B = some k → x + 1 ≤ k) ∧ Hid (putsX 0 0 64 0 ts = Lb ++ putsX i V a b (ts.drop i)) ∧ Hid ((a = 64 ∧ b = 0 ∨ a + b ≤ 63) ∧ V < 18446744073709551616) ∧ Lb.length ≤ 78 * i) (fun iv _ => len - (intOf iv).toNat)
  case atStart => exact ⟨0, 0, 64, 0, none, [], rfl, Nat.zero_le _, W2, X2, H2, (fun _ h => by cases h), rfl, ⟨.inl ⟨rfl, rfl⟩, by omega⟩, by simp⟩
  case round =>
    obtain ⟨i, V, a, b, B, Lb, rfl, hi, hW, hX, hH, HBN, HP, HW, hLb⟩ := hrel
    clear W2 X2 H2
    have hrow := hW.row
    have hxl := hX.lt
    rcases Nat.lt_or_ge i len with hlt | hge
    · obtain ⟨t, ht⟩ : ∃ t, ts[i]? = some t := ⟨_, List.getElem?_eq_getElem (by rw [HL0.out]; exact hlt)⟩
      obtain ⟨bk, off, rfl, hc⟩ := HCELL.out (by omega)
      have hz := cell_keep hH (hc i t ht)
      have hdr : ts.drop i = t :: ts.drop (i + 1) := by
        rw [List.drop_eq_getElem_cons (by rw [HL0.out]; exact hlt)]
        have := (List.getElem?_eq_some_iff.1 ht).2
        rw [this]
      have hbk := World.block_lt_of_cell? w _ (hc i t ht)
      have hv : t < 18446744073709551616 := HTS.out t (List.mem_of_getElem? ht)
      obtain ⟨i2, hi2⟩ : ∃ i2 : Int, ((i + 1 : Nat) : Int) = i2 := ⟨_, rfl⟩
      have HI2 := Lib.hid hi2
      obtain ⟨M, hM⟩ : ∃ M, Lb ++ encX i V a b t = M := ⟨_, rfl⟩
      obtain ⟨a2, ha2⟩ : ∃ a2, (winX i V a b t).1 = a2 := ⟨_, rfl⟩
      obtain ⟨b2, hb2⟩ : ∃ b2, (winX i V a b t).2 = b2 := ⟨_, rfl⟩
      have hwo := winX_ok i V a b t HW.out.1 hv HW.out.2
      rw [ha2, hb2] at hwo
      have HW2 : Hid ((a2 = 64 ∧ b2 = 0 ∨ a2 + b2 ≤ 63) ∧ t < 18446744073709551616) := ⟨hwo, hv⟩
      have hle := encX_le i V a b t HW.out.1 hv HW.out.2
      have hMl : M.length ≤ 78 * (i + 1) := by rw [← hM, List.length_append]; omega
      have hr : rightX i a b = true := rightX_mk ⟨by omega, by omega, by have := HW.out.1; omega⟩
      have hP2 : putsX 0 0 64 0 ts = M ++ putsX i2 t a2 b2 (ts.drop (i + 1)) := by
        rw [HP.out, hdr, putsX, ha2, hb2, ← List.append_assoc, hM, ← hi2]; push_cast; rfl
      obtain ⟨Ti, hTi⟩ : ∃ Ti : Int, ((t : Nat) : Int) = Ti := ⟨_, rfl⟩
      obtain ⟨ai, hai⟩ : ∃ ai : Int, ((a2 : Nat) : Int) = ai := ⟨_, rfl⟩
      obtain ⟨bi, hbi⟩ : ∃ bi : Int, ((b2 : Nat) : Int) = bi := ⟨_, rfl⟩
      have PUT := fun W h1 h2 => xrPut_to W w.heap.size w.heap.size B Lb M i V a b t i2 Ti ai bi V a b h1 (by omega) h2 hr HW.out.2 hv (by rw [← hi2]; push_cast; rfl) hTi (by rw [ha2]; exact hai) (by rw [hb2]; exact hbi) hM rfl rfl rfl
      rw [hTi] at hz
      have HTI := Lib.hid hTi
      have HAI := Lib.hid hai
      have HBI := Lib.hid hbi
      have HPUT := Lib.hid PUT
      have HP2 := Lib.hid hP2
      clear PUT hP2 hM ha2 hb2 hwo hle hr hi2 HP hdr hc ht hv HW hrow hTi hai hbi
      go_wp2_with fail
      refine wp_region_noPanic ?_
      refine wp_region_held_drew (S := fun W : World => (W.cell? ⟨x, 0, none⟩ = some (.int .i64 (i : Nat)) ∧ W.cell? ⟨x, 1, none⟩ = some (.int .u64 (V : Nat)) ∧ W.cell? ⟨x, 2, none⟩ = some (.int .i64 (a : Nat)) ∧ W.cell? ⟨x, 3, none⟩ = some (.int .i64 (b : Nat))) ∧ W.cell? ⟨bk, off + i, none⟩ = some (.int .u64 Ti)) (by kernel_rfl) (⟨(hX.drewN 1).cells4, hz⟩) (fun hSt => ?_)
      have X3 : Blk wr.drew x 53 _ := hX
      have W3 : Rw wr.drew w.heap.size w.heap.size B Lb := hW
      have H3 : Below w.heap.size w wr.drew := below_drewN hH 1
      have z3 : wr.drew.cell? ⟨bk, off + i, none⟩ = some (.int .u64 Ti) := hz
      have hxl3 : x < wr.drew.heap.size := hxl
      clear hX hW hH hz hxl
      generalize wr.drew = w3 at *
      refine wpAnyH_picks [0, 1, 2, 3, 4, 5] 7 (by rfl) (by kernel_rfl) (by kernel_rfl) (by kernel_rfl) (fun _ _ _ _ _ h => h) (by assumption) ?_
      simp only [picks, List.drop_succ_cons, List.drop_zero, List.take_succ_cons, List.take_zero, List.cons_append, List.nil_append]
      repeat (first
        | (refine wpY_skip (by rfl) ?_; simp only [Act.put, List.setIfInBounds_toArray, List.set_cons_zero, List.set_cons_succ])
        | (refine wpY_want (v := ?_) (by rfl) (fun W hW => ?_) ?_; rotate_left; (obtain ⟨⟨hW0, hW1, hW2, hW3⟩, hW4⟩ := hW; go_simp; try with_reducible rfl); simp only [Act.put, List.setIfInBounds_toArray, List.set_cons_zero, List.set_cons_succ]))
      refine wpY_nil ?_
      refine wpAnyH_two 6 10 6 (by rfl) (by rfl) (by rfl) (by kernel_rfl) (fun K hK => ?_) (fun K hK => ?_)
      · go_simp
        refine (HPUT.out _ W3 H3.size).mono ?_
        rintro e w4 ⟨rfl, B4, W4, hB4, T4⟩
        have X4 := X3.touch T4 (by omega) (fun e => by have := HBN.out _ e.symm; omega)
        have z4 : w4.cell? ⟨bk, off + i, none⟩ = some (.int .u64 Ti) := (World.cell?_of_block (T4.block bk (Nat.lt_of_lt_of_le hbk H3.size) (by omega) (fun e => by have := HBN.out _ e.symm; omega))).trans z3
        have hrow := W3.row
        have H4 := H3.trans (T4.below H3.size (Nat.le_refl _) (fun k hk => (hrow k hk).1))
        have hs4 := T4.size
        have nb : ∀ k, B4 = some k → x + 1 ≤ k ∧ (k < w3.heap.size → B = some k) := fun k hk => by
          have hz := X3.lt
          rcases hB4 with rfl | ⟨b, rfl, hb⟩
          · exact ⟨HBN.out k hk, fun _ => hk⟩
          · have : b = k := by injection hk
            exact ⟨by omega, fun h => by omega⟩
        have hrow4 := W4.row
        have HBN4 := Lib.hid nb
        have HRW4 := Lib.hid hrow4
        have HRB := Lib.hid hrow
        clear nb hB4 hrow hrow4 T4
        refine hK.out _ _ (⟨X4.cells4, z4⟩) (fun hSt => ?_)
        clear hK K
        try simp only [Act.put, List.setIfInBounds_toArray, List.set_cons_zero, List.set_cons_succ]
        refine wpAnyH_picks [7, 8, 9] 3 (by rfl) (by kernel_rfl) (by kernel_rfl) (by kernel_rfl) (fun _ _ _ _ _ h => h) (by assumption) ?_
        simp only [picks, List.drop_succ_cons, List.drop_zero, List.take_succ_cons, List.take_zero, List.cons_append, List.nil_append]
        repeat (first
          | (refine wpY_skip (by rfl) ?_; simp only [Act.put, List.setIfInBounds_toArray, List.set_cons_zero, List.set_cons_succ])
          | (refine wpY_want (v := ?_) (by rfl) (fun W hW => ?_) ?_; rotate_left; (go_simp; try with_reducible rfl); simp only [Act.put, List.setIfInBounds_toArray, List.set_cons_zero, List.set_cons_succ]))
        refine wpY_nil ?_
        refine wpAnyH_one 10 2 (by rfl) (by rfl) (by kernel_rfl) (fun K hK => ?_)
        go_simp
        have A_ : Below w4.heap.size w4 (w4.alloc (.cells #[.int .i64 0, .int .u64 0, .int .i64 0, .int .i64 0] 53)) := (Below.refl _ w4).alloc (Nat.le_refl _) _
        have Y5 := Blk.new w4 53 #[.int .i64 0, .int .u64 0, .int .i64 0, .int .i64 0]
        have X5 := X4.below A_
        have z5 := cell_keep A_ z4
        have H5 := H4.trans (A_.mono H4.size)
        have hyx := X4.lt
        have hyg := W4.lt
        have W5 := W4.below A_
        refine hK.out _ _ (⟨X5.cells4, z5⟩) (fun hSt => ?_)
        clear hK K
        try simp only [Act.put, List.setIfInBounds_toArray, List.set_cons_zero, List.set_cons_succ]
        obtain ⟨y, hy⟩ : ∃ y, w4.heap.size = y := ⟨_, rfl⟩
        rw [hy] at Y5 hyx hyg ⊢
        have NBY : B4 ≠ some y := fun e => by have := (HRW4.out _ e).2; omega
        generalize w4.alloc (.cells #[.int .i64 0, .int .u64 0, .int .i64 0, .int .i64 0] 53) = w5 at *
        obtain ⟨d0, d1, d2, d3⟩ := Y5.cells4
        obtain ⟨f0, f1, f2, f3⟩ := Y5.free4
        have nbk : bk ≠ y := by omega
        refine wpAnyH_one 11 1 (by rfl) (by rfl) (by kernel_rfl) (fun K hK => ?_)
        go_simp
        have X8 := X5.farSet4 (g' := y) (by omega) (.int .i64 i2) (.int .u64 Ti) (.int .i64 ai) (.int .i64 bi)
        have Y8 := Y5.set4 (.int .i64 i2) (.int .u64 Ti) (.int .i64 ai) (.int .i64 bi)
        have H8 := below_set4 H5 (g := y) (by omega) (.int .i64 i2) (.int .u64 Ti) (.int .i64 ai) (.int .i64 bi)
        have z8 : (set4 w5 y (.int .i64 i2) (.int .u64 Ti) (.int .i64 ai) (.int .i64 bi)).cell? ⟨bk, off + i, none⟩ = some (.int .u64 Ti) := by unfold set4; rw [World.cell?_setCell_far _ _ _ _ (Ne.symm nbk), World.cell?_setCell_far _ _ _ _ (Ne.symm nbk), World.cell?_setCell_far _ _ _ _ (Ne.symm nbk), World.cell?_setCell_far _ _ _ _ (Ne.symm nbk)]; exact z5
        have W8 := W5.set4 (r := y) (by omega) NBY (.int .i64 i2) (.int .u64 Ti) (.int .i64 ai) (.int .i64 bi)
        refine hK.out _ _ (⟨X8.cells4, z8⟩) (fun hSt => ?_)
        clear hK K
        try simp only [Act.put, List.setIfInBounds_toArray, List.set_cons_zero, List.set_cons_succ]
        refine wpAnyH_picks [12] 0 (by rfl) (by kernel_rfl) (by kernel_rfl) (by kernel_rfl) (fun _ _ _ _ _ h => h) (by assumption) ?_
        simp only [picks, List.drop_succ_cons, List.drop_zero, List.take_succ_cons, List.take_zero, List.cons_append, List.nil_append]
        repeat (first
          | (refine wpY_skip (by rfl) ?_; simp only [Act.put, List.setIfInBounds_toArray, List.set_cons_zero, List.set_cons_succ])
          | (refine wpY_want (v := ?_) (by rfl) (fun W hW => ?_) ?_; rotate_left; (go_simp; try with_reducible rfl); simp only [Act.put, List.setIfInBounds_toArray, List.set_cons_zero, List.set_cons_succ]))
        refine wpY_nil ?_
        refine wpAnyH_done (by kernel_rfl) ?_ _
        refine NoPanic.normal ?_
        clear d0 d1 d2 d3 f0 f1 f2 f3
        unfold set4 at *
        generalize (((w5.setCell ⟨y, 0, none⟩ (.int .i64 i2)).setCell ⟨y, 1, none⟩ (.int .u64 Ti)).setCell ⟨y, 2, none⟩ (.int .i64 ai)).setCell ⟨y, 3, none⟩ (.int .i64 bi) = w8 at *
        obtain ⟨c0, c1, c2, c3⟩ := X8.cells4
        obtain ⟨f0, f1, f2, f3⟩ := X8.free4
        obtain ⟨y0, y1, y2, y3⟩ := Y8.cells4
        clear X5 Y5 H5 W5
        go_wp2_with fail
        have X9 := X8.set4 (.int .i64 i2) (.int .u64 Ti) (.int .i64 ai) (.int .i64 bi)
        have W9 := W8.set4 (r := x) (by omega) (fun e => by have := (HBN4.out _ e).1; omega) (.int .i64 i2) (.int .u64 Ti) (.int .i64 ai) (.int .i64 bi)
        have H9 := below_set4 H8 (g := x) (by omega) (.int .i64 i2) (.int .u64 Ti) (.int .i64 ai) (.int .i64 bi)
        go_roundw
        case rel => exact ⟨i + 1, t, a2, b2, B4, M, by go_num, hlt, W9, by rw [HI2.out, HTI.out, HAI.out, HBI.out]; exact X9, H9, fun k hk => (HBN4.out k hk).1, by rw [HI2.out]; exact HP2.out, HW2.out, by omega⟩
        case measure => simp [intOf]; omega
      · go_simp
        have A_ : Below w3.heap.size w3 (w3.alloc (.cells #[.int .i64 0, .int .u64 0, .int .i64 0, .int .i64 0] 53)) := (Below.refl _ w3).alloc (Nat.le_refl _) _
        have Y4 := Blk.new w3 53 #[.int .i64 0, .int .u64 0, .int .i64 0, .int .i64 0]
        have X4 := X3.below A_
        have z4 := cell_keep A_ z3
        have H4 := H3.trans (A_.mono H3.size)
        have hyx := X3.lt
        have hyg := W3.lt
        have W4 := W3.below A_
        refine hK.out _ _ (⟨X4.cells4, z4⟩) (fun hSt => ?_)
        clear hK K
        try simp only [Act.put, List.setIfInBounds_toArray, List.set_cons_zero, List.set_cons_succ]
        obtain ⟨y, hy⟩ : ∃ y, w3.heap.size = y := ⟨_, rfl⟩
        have hy3 : w3.heap.size = y := hy
        rw [hy] at Y4 hyx hyg ⊢
        have hy4 : y < (w3.alloc (.cells #[.int .i64 0, .int .u64 0, .int .i64 0, .int .i64 0] 53)).heap.size := by simp; omega
        have HRB3 := Lib.hid W3.row
        generalize w3.alloc (.cells #[.int .i64 0, .int .u64 0, .int .i64 0, .int .i64 0] 53) = w4 at *
        refine wpAnyH_one 6 5 (by rfl) (by rfl) (by kernel_rfl) (fun K hK => ?_)
        go_simp
        refine (HPUT.out _ W4 H4.size).mono ?_
        rintro e w5 ⟨rfl, B4, W5, hB4, T4⟩
        have X5 := X4.touch T4 (by omega) (fun e => by have := HBN.out _ e.symm; omega)
        have z5 : w5.cell? ⟨bk, off + i, none⟩ = some (.int .u64 Ti) := (World.cell?_of_block (T4.block bk (Nat.lt_of_lt_of_le hbk H4.size) (by omega) (fun e => by have := HBN.out _ e.symm; omega))).trans z4
        have hrow := W4.row
        have H5 := H4.trans (T4.below H4.size (Nat.le_refl _) (fun k hk => (hrow k hk).1))
        have hs5 := T4.size
        have nb : ∀ k, B4 = some k → x + 1 ≤ k ∧ (k < w4.heap.size → B = some k) := fun k hk => by
          have hz := X4.lt
          rcases hB4 with rfl | ⟨b, rfl, hb⟩
          · exact ⟨HBN.out k hk, fun _ => hk⟩
          · have : b = k := by injection hk
            exact ⟨by omega, fun h => by omega⟩
        have hrow4 := W5.row
        have HBN4 := Lib.hid nb
        have HRW4 := Lib.hid hrow4
        have HRB := Lib.hid hrow
        have Y5 := Y4.touch T4 (by omega) (fun e => by have := (HRB3.out _ e.symm).2; omega)
        clear nb hB4 hrow hrow4 T4
        refine hK.out _ _ (⟨X5.cells4, z5⟩) (fun hSt => ?_)
        clear hK K
        try simp only [Act.put, List.setIfInBounds_toArray, List.set_cons_zero, List.set_cons_succ]
        refine wpAnyH_picks [7, 8, 9] 2 (by rfl) (by kernel_rfl) (by kernel_rfl) (by kernel_rfl) (fun _ _ _ _ _ h => h) (by assumption) ?_
        simp only [picks, List.drop_succ_cons, List.drop_zero, List.take_succ_cons, List.take_zero, List.cons_append, List.nil_append]
        repeat (first
          | (refine wpY_skip (by rfl) ?_; simp only [Act.put, List.setIfInBounds_toArray, List.set_cons_zero, List.set_cons_succ])
          | (refine wpY_want (v := ?_) (by rfl) (fun W hW => ?_) ?_; rotate_left; (go_simp; try with_reducible rfl); simp only [Act.put, List.setIfInBounds_toArray, List.set_cons_zero, List.set_cons_succ]))
        refine wpY_nil ?_
        have NBY : B4 ≠ some y := fun e => by have := (HRB3.out _ ((HBN4.out _ e).2 hy4)).2; omega
        obtain ⟨d0, d1, d2, d3⟩ := Y5.cells4
        obtain ⟨f0, f1, f2, f3⟩ := Y5.free4
        have nbk : bk ≠ y := by omega
        refine wpAnyH_one 11 1 (by rfl) (by rfl) (by kernel_rfl) (fun K hK => ?_)
        go_simp
        have X8 := X5.farSet4 (g' := y) (by omega) (.int .i64 i2) (.int .u64 Ti) (.int .i64 ai) (.int .i64 bi)
        have Y8 := Y5.set4 (.int .i64 i2) (.int .u64 Ti) (.int .i64 ai) (.int .i64 bi)
        have H8 := below_set4 H5 (g := y) (by omega) (.int .i64 i2) (.int .u64 Ti) (.int .i64 ai) (.int .i64 bi)
        have z8 : (set4 w5 y (.int .i64 i2) (.int .u64 Ti) (.int .i64 ai) (.int .i64 bi)).cell? ⟨bk, off + i, none⟩ = some (.int .u64 Ti) := by unfold set4; rw [World.cell?_setCell_far _ _ _ _ (Ne.symm nbk), World.cell?_setCell_far _ _ _ _ (Ne.symm nbk), World.cell?_setCell_far _ _ _ _ (Ne.symm nbk), World.cell?_setCell_far _ _ _ _ (Ne.symm nbk)]; exact z5
        have W8 := W5.set4 (r := y) (by omega) NBY (.int .i64 i2) (.int .u64 Ti) (.int .i64 ai) (.int .i64 bi)
        refine hK.out _ _ (⟨X8.cells4, z8⟩) (fun hSt => ?_)
        clear hK K
        try simp only [Act.put, List.setIfInBounds_toArray, List.set_cons_zero, List.set_cons_succ]
        refine wpAnyH_picks [12] 0 (by rfl) (by kernel_rfl) (by kernel_rfl) (by kernel_rfl) (fun _ _ _ _ _ h => h) (by assumption) ?_
        simp only [picks, List.drop_succ_cons, List.drop_zero, List.take_succ_cons, List.take_zero, List.cons_append, List.nil_append]
        repeat (first
          | (refine wpY_skip (by rfl) ?_; simp only [Act.put, List.setIfInBounds_toArray, List.set_cons_zero, List.set_cons_succ])
          | (refine wpY_want (v := ?_) (by rfl) (fun W hW => ?_) ?_; rotate_left; (go_simp; try with_reducible rfl); simp only [Act.put, List.setIfInBounds_toArray, List.set_cons_zero, List.set_cons_succ]))
        refine wpY_nil ?_
        refine wpAnyH_done (by kernel_rfl) ?_ _
        refine NoPanic.normal ?_
        clear d0 d1 d2 d3 f0 f1 f2 f3
        unfold set4 at *
        generalize (((w5.setCell ⟨y, 0, none⟩ (.int .i64 i2)).setCell ⟨y, 1, none⟩ (.int .u64 Ti)).setCell ⟨y, 2, none⟩ (.int .i64 ai)).setCell ⟨y, 3, none⟩ (.int .i64 bi) = w8 at *
        obtain ⟨c0, c1, c2, c3⟩ := X8.cells4
        obtain ⟨f0, f1, f2, f3⟩ := X8.free4
        obtain ⟨y0, y1, y2, y3⟩ := Y8.cells4
        clear X5 Y5 H5 W5
        go_wp2_with fail
        have X9 := X8.set4 (.int .i64 i2) (.int .u64 Ti) (.int .i64 ai) (.int .i64 bi)
        have W9 := W8.set4 (r := x) (by omega) (fun e => by have := (HBN4.out _ e).1; omega) (.int .i64 i2) (.int .u64 Ti) (.int .i64 ai) (.int .i64 bi)
        have H9 := below_set4 H8 (g := x) (by omega) (.int .i64 i2) (.int .u64 Ti) (.int .i64 ai) (.int .i64 bi)
        go_roundw
        case rel => exact ⟨i + 1, t, a2, b2, B4, M, by go_num, hlt, W9, by rw [HI2.out, HTI.out, HAI.out, HBI.out]; exact X9, H9, fun k hk => (HBN4.out k hk).1, by rw [HI2.out]; exact HP2.out, HW2.out, by omega⟩
        case measure => simp [intOf]; omega
    · obtain rfl : i = len := by omega
      have hP2 : putsX 0 0 64 0 ts = Lb := by rw [HP.out, List.drop_of_length_le (by rw [HL0.out]; exact Nat.le_refl _)]; simp [putsX]
      have HP2 := Lib.hid hP2
      clear hP2 HP
      go_wp2_with fail
      refine (refBytes_any wr w.heap.size w.heap.size B Lb hW (by omega)).mono ?_
      rintro e v ⟨vv, rfl, O, BO⟩
      obtain ⟨A2, c2, rfl, R2⟩ := RB.of_own O
      have H2 := below_more hH BO
      go_wp2_with fail
      go_ret2
      exact ⟨by rw [HP2.out]; exact ⟨A2, c2, rfl, R2⟩, H2⟩
end Go.Proofs.YtlgndfckmnninaaDoor
