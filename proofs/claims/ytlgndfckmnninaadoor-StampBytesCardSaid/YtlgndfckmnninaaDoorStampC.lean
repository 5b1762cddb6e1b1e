/- Walk of the reference's Bytes of times. Conditions: as stated. -/
import Derived.Test.YtlgndfckmnninaaDoorStampB
import Derived.Test.YtlgndfckmnninaaDoorStampR
import Derived.Test.YtlgndfckmnninaaDoorBitsC
import Derived.Test.YtlgndfckmnninaaDoorPicks
namespace Go.Proofs.YtlgndfckmnninaaDoor
open Go.RowKit
set_option linter.unusedVariables false

theorem rPut_to (w : World) (base g : Nat) (B : Option Nat) (Lb M : List Bool) (N L D t N' D' : Int) (h : Rw w base g B Lb) (hLb : Lb.length ≤ 500000) (hbase : base ≤ w.heap.size) (hn : nextS N L t = true) (hr : rightS N L D = true)
    (e1 : N + 1 = N') (e2 : difS N L t = D') (e3 : Lb ++ encS N L D t = M) :
    Calls Tryd.prog 21 #[.pointer (some ⟨g, 0, none⟩), .agg #[.int .i64 N, .int .i64 L, .int .i64 D], .int .i64 t] w fun e w' =>
      e = .returned (.tuple #[.agg #[.int .i64 N', .int .i64 t, .int .i64 D'], .int .i64 0]) ∧ ∃ B', Rw w' base g B' M ∧ (B' = B ∨ ∃ b, B' = some b ∧ w.heap.size ≤ b) ∧ Touch g B w w' := by
  subst e1 e2 e3
  exact rPut_yes w base g B Lb N L D t h hLb hbase hn hr
/-- The reference's Put of a time, whatever it answers. -/
theorem rPut_all (base g : Nat) (B : Option Nat) (Lb : List Bool) (i : Nat) (L D t i2 : Int) (hLb : Lb.length ≤ 400000) (e1 : (i : Int) + 1 = i2) :
    (∃ (d : Int) (M : List Bool), (∀ ts, (putsS i L D (t :: ts)).map (Lb ++ ·) = (putsS i2 t d ts).map (M ++ ·)) ∧ M.length ≤ Lb.length + 52 ∧ ∀ W, Rw W base g B Lb → base ≤ W.heap.size → Calls Tryd.prog 21 #[.pointer (some ⟨g, 0, none⟩), .agg #[.int .i64 i, .int .i64 L, .int .i64 D], .int .i64 t] W fun e w' =>
      e = .returned (.tuple #[.agg #[.int .i64 i2, .int .i64 t, .int .i64 d], .int .i64 0]) ∧ ∃ B', Rw w' base g B' M ∧ (B' = B ∨ ∃ b, B' = some b ∧ W.heap.size ≤ b) ∧ Touch g B W w') ∨
    ((∀ ts, putsS i L D (t :: ts) = none) ∧ ∀ W, Calls Tryd.prog 21 #[.pointer (some ⟨g, 0, none⟩), .agg #[.int .i64 i, .int .i64 L, .int .i64 D], .int .i64 t] W fun e w' =>
      e = .returned (.tuple #[.agg #[.int .i64 0, .int .i64 0, .int .i64 0], .int .i64 60]) ∧ Below W.heap.size W w') := by
  have hcs : (nextS i L t = true ∧ rightS i L D = true) ∨ (nextS i L t = false ∨ rightS i L D = false) := by
    cases nextS (i : Int) L t <;> cases rightS (i : Int) L D <;> simp
  rcases hcs with ⟨hn, hr⟩ | hno
  · refine .inl ⟨_, _, fun ts => ?_, ?_, fun W h hb => rPut_to W base g B Lb _ i L D t i2 _ h (by omega) hb hn hr e1 rfl rfl⟩
    · rw [putsS_yes hn hr, e1]
    · have := encS_le i L D t hr hn
      rw [List.length_append]; omega
  · exact .inr ⟨fun ts => putsS_no hno, fun W => rPut_no W g i L D t hno⟩

set_option maxHeartbeats 3200000 in
theorem rBytes_any (w : World) (A : Option Addr) (len cap : Nat) (ts : List Int) (hR : RI w A len cap ts) (hlen : len ≤ 4096) :
    Calls Tryd.prog 39 #[.slice A len cap] w fun e w' => AnsB w w' (putsS 0 0 0 ts) e ∧ Below w.heap.size w w' := by
  obtain ⟨hl0, hlc, hcap, hcell⟩ := hR
  have HCELL := Lib.hid hcell
  have HL0 := Lib.hid hl0
  clear hcell hl0
  go_enter Tryd.func39, Tryd.ntmps39
  have A0 : Below w.heap.size w (w.alloc (.cells #[.slice none 0 0] 36)) := (Below.refl _ w).alloc (Nat.le_refl _) _
  have W1 := Rw.new w w.heap.size (Nat.le_refl _)
  have A1 : Below (w.alloc (.cells #[.slice none 0 0] 36)).heap.size (w.alloc (.cells #[.slice none 0 0] 36)) ((w.alloc (.cells #[.slice none 0 0] 36)).alloc (.cells #[.int .i64 0, .int .i64 0, .int .i64 0] 39)) := (Below.refl _ _).alloc (Nat.le_refl _) _
  have X2 := Blk.new (w.alloc (.cells #[.slice none 0 0] 36)) 39 #[.int .i64 0, .int .i64 0, .int .i64 0]
  have W2 := W1.below A1
  have H2 := A0.trans (A1.mono A0.size)
  have hsz : (w.alloc (.cells #[.slice none 0 0] 36)).heap.size = w.heap.size + 1 := by simp
  rw [hsz] at X2
  go_wp2_with fail
  generalize (w.alloc (.cells #[.slice none 0 0] 36)).alloc (.cells #[.int .i64 0, .int .i64 0, .int .i64 0] 39) = u2 at *
  clear A0 W1 A1 hsz
  go_loopw [6] (fun iv wr => ∃ (i : Nat) (L D : Int) (B : Option Nat) (Lb : List Bool), iv = .int .i64 i ∧ i ≤ len ∧ Rw wr w.heap.size w.heap.size B Lb ∧ Blk wr (w.heap.size + 1) 39 #[.int .i64 i, .int .i64 L, .int .i64 D] ∧ Below w.heap.size w wr ∧ Hid (∀ k, B = some k → w.heap.size + 2 ≤ k) ∧ Hid (putsS 0 0 0 ts = (putsS i L D (ts.drop i)).map (Lb ++ ·)) ∧ Lb.length ≤ 52 * i) (fun iv _ => len - (intOf iv).toNat)
  case atStart => exact ⟨0, 0, 0, none, [], rfl, Nat.zero_le _, W2, X2, H2, (fun _ h => by cases h), by show _ = _; simp, by simp⟩
  case round =>
    obtain ⟨i, L, D, B, Lb, rfl, hi, hW, hX, hH, HBN, HP, hLb⟩ := hrel
    clear W2 X2 H2
    have hrow := hW.row
    have hxl := hX.lt
    rcases Nat.lt_or_ge i len with hlt | hge
    · obtain ⟨t, ht⟩ : ∃ t, ts[i]? = some t := ⟨_, List.getElem?_eq_getElem (by rw [HL0.out]; exact hlt)⟩
      obtain ⟨bk, off, rfl, hc⟩ := HCELL.out (by omega)
      have hz := cell_keep hH (hc i t ht)
      have hdr : ts.drop i = t :: ts.drop (i + 1) := by
        rw [List.drop_eq_getElem_cons (by rw [HL0.out]; exact hlt)]
        have := (List.getElem?_eq_some_iff.1 ht).2
        rw [this]
      have hbk := World.block_lt_of_cell? w _ (hc i t ht)
      have HDR := Lib.hid hdr
      clear hc ht hdr hrow
      obtain ⟨i2, hi2⟩ : ∃ i2 : Int, ((i + 1 : Nat) : Int) = i2 := ⟨_, rfl⟩
      have HI2 := Lib.hid hi2
      rcases rPut_all w.heap.size w.heap.size B Lb i L D t i2 (by omega) (by rw [← hi2]; push_cast; rfl) with ⟨d, M, hput, hMl, PUT⟩ | ⟨hput, PUT⟩
      · have HPUT := Lib.hid PUT
        have HPT := Lib.hid hput
        clear PUT hput hi2
        go_wp2_with fail
        refine wp_region_noPanic ?_
        refine wp_region_held_drew (S := fun W : World => (W.cell? ⟨w.heap.size + 1, 0, none⟩ = some (.int .i64 i) ∧ W.cell? ⟨w.heap.size + 1, 1, none⟩ = some (.int .i64 L) ∧ W.cell? ⟨w.heap.size + 1, 2, none⟩ = some (.int .i64 D)) ∧ W.cell? ⟨bk, off + i, none⟩ = some (.int .i64 t)) (by kernel_rfl) (⟨(hX.drewN 1).cells3, hz⟩) (fun hSt => ?_)
        have X3 : Blk wr.drew (w.heap.size + 1) 39 _ := hX
        have W3 : Rw wr.drew w.heap.size w.heap.size B Lb := hW
        have H3 : Below w.heap.size w wr.drew := below_drewN hH 1
        have z3 : wr.drew.cell? ⟨bk, off + i, none⟩ = some (.int .i64 t) := hz
        have hxl3 : w.heap.size + 1 < wr.drew.heap.size := hxl
        clear hX hW hH hz hxl
        generalize wr.drew = w3 at *
        refine wpAnyH_picks [0, 1, 2, 3, 4, 5] 7 (by rfl) (by kernel_rfl) (by kernel_rfl) (by kernel_rfl) (fun _ _ _ _ _ h => h) (by assumption) ?_
        simp only [picks, List.drop_succ_cons, List.drop_zero, List.take_succ_cons, List.take_zero, List.cons_append, List.nil_append]
        repeat (first
          | (refine wpY_skip (by rfl) ?_; simp only [Act.put, List.setIfInBounds_toArray, List.set_cons_zero, List.set_cons_succ])
          | (refine wpY_want (v := ?_) (by rfl) (fun W hW => ?_) ?_; rotate_left; (obtain ⟨⟨hW0, hW1, hW2⟩, hW3⟩ := hW; go_simp; try with_reducible rfl); simp only [Act.put, List.setIfInBounds_toArray, List.set_cons_zero, List.set_cons_succ]))
        refine wpY_nil ?_
        refine wpAnyH_two 6 10 6 (by rfl) (by rfl) (by rfl) (by kernel_rfl) (fun K hK => ?_) (fun K hK => ?_)
        · go_simp
          refine (HPUT.out _ W3 H3.size).mono ?_
          rintro e w4 ⟨rfl, B4, W4, hB4, T4⟩
          have X4 := X3.touch T4 (by omega) (fun e => by have := HBN.out _ e.symm; omega)
          have z4 : w4.cell? ⟨bk, off + i, none⟩ = some (.int .i64 t) := (World.cell?_of_block (T4.block bk (Nat.lt_of_lt_of_le hbk H3.size) (by omega) (fun e => by have := HBN.out _ e.symm; omega))).trans z3
          have hrow := W3.row
          have H4 := H3.trans (T4.below H3.size (Nat.le_refl _) (fun k hk => (hrow k hk).1))
          have hs4 := T4.size
          have nb : ∀ k, B4 = some k → w.heap.size + 2 ≤ k ∧ (k < w3.heap.size → B = some k) := fun k hk => by
            have hz := X3.lt
            rcases hB4 with rfl | ⟨b, rfl, hb⟩
            · exact ⟨HBN.out k hk, fun _ => hk⟩
            · have : b = k := by injection hk
              exact ⟨by omega, fun h => by omega⟩
          have hrow4 := W4.row
          have HBN4 := Lib.hid nb
          have HRW4 := Lib.hid hrow4
          have HRB := Lib.hid hrow
          clear nb hB4 hrow hrow4 T4
          refine hK.out _ _ (⟨X4.cells3, z4⟩) (fun hSt => ?_)
          clear hK K
          try simp only [Act.put, List.setIfInBounds_toArray, List.set_cons_zero, List.set_cons_succ]
          refine wpAnyH_picks [7, 8, 9] 3 (by rfl) (by kernel_rfl) (by kernel_rfl) (by kernel_rfl) (fun _ _ _ _ _ h => h) (by assumption) ?_
          simp only [picks, List.drop_succ_cons, List.drop_zero, List.take_succ_cons, List.take_zero, List.cons_append, List.nil_append]
          repeat (first
            | (refine wpY_skip (by rfl) ?_; simp only [Act.put, List.setIfInBounds_toArray, List.set_cons_zero, List.set_cons_succ])
            | (refine wpY_want (v := ?_) (by rfl) (fun W hW => ?_) ?_; rotate_left; (go_simp; try with_reducible rfl); simp only [Act.put, List.setIfInBounds_toArray, List.set_cons_zero, List.set_cons_succ]))
          refine wpY_nil ?_
          refine wpAnyH_one 10 2 (by rfl) (by rfl) (by kernel_rfl) (fun K hK => ?_)
          go_simp
          have A_ : Below w4.heap.size w4 (w4.alloc (.cells #[.int .i64 0, .int .i64 0, .int .i64 0] 39)) := (Below.refl _ w4).alloc (Nat.le_refl _) _
          have Y5 := Blk.new w4 39 #[.int .i64 0, .int .i64 0, .int .i64 0]
          have X5 := X4.below A_
          have z5 := cell_keep A_ z4
          have H5 := H4.trans (A_.mono H4.size)
          have hyx := X4.lt
          have W5 := W4.below A_
          refine hK.out _ _ (⟨X5.cells3, z5⟩) (fun hSt => ?_)
          clear hK K
          try simp only [Act.put, List.setIfInBounds_toArray, List.set_cons_zero, List.set_cons_succ]
          obtain ⟨y, hy⟩ : ∃ y, w4.heap.size = y := ⟨_, rfl⟩
          rw [hy] at Y5 hyx ⊢
          have NBY : B4 ≠ some y := fun e => by have := (HRW4.out _ e).2; omega
          generalize w4.alloc (.cells #[.int .i64 0, .int .i64 0, .int .i64 0] 39) = w5 at *
          obtain ⟨d0, d1, d2⟩ := Y5.cells3
          obtain ⟨f0, f1, f2⟩ := Y5.free3
          have nbk : bk ≠ y := by omega
          refine wpAnyH_one 11 1 (by rfl) (by rfl) (by kernel_rfl) (fun K hK => ?_)
          go_simp
          have X8 := X5.farPut3 (g' := y) (by omega) (.int .i64 i2) (.int .i64 t) (.int .i64 d)
          have Y8 := Y5.put3 (.int .i64 i2) (.int .i64 t) (.int .i64 d)
          have H8 := below_put3 H5 (g := y) (by omega) (.int .i64 i2) (.int .i64 t) (.int .i64 d)
          have z8 : (put3 w5 y (.int .i64 i2) (.int .i64 t) (.int .i64 d)).cell? ⟨bk, off + i, none⟩ = some (.int .i64 t) := by unfold put3; rw [World.cell?_setCell_far _ _ _ _ (Ne.symm nbk), World.cell?_setCell_far _ _ _ _ (Ne.symm nbk), World.cell?_setCell_far _ _ _ _ (Ne.symm nbk)]; exact z5
          have W8 := W5.put3 (r := y) (by omega) NBY (.int .i64 i2) (.int .i64 t) (.int .i64 d)
          refine hK.out _ _ (⟨X8.cells3, z8⟩) (fun hSt => ?_)
          clear hK K
          try simp only [Act.put, List.setIfInBounds_toArray, List.set_cons_zero, List.set_cons_succ]
          refine wpAnyH_picks [12] 0 (by rfl) (by kernel_rfl) (by kernel_rfl) (by kernel_rfl) (fun _ _ _ _ _ h => h) (by assumption) ?_
          simp only [picks, List.drop_succ_cons, List.drop_zero, List.take_succ_cons, List.take_zero, List.cons_append, List.nil_append]
          repeat (first
            | (refine wpY_skip (by rfl) ?_; simp only [Act.put, List.setIfInBounds_toArray, List.set_cons_zero, List.set_cons_succ])
            | (refine wpY_want (v := ?_) (by rfl) (fun W hW => ?_) ?_; rotate_left; (go_simp; try with_reducible rfl); simp only [Act.put, List.setIfInBounds_toArray, List.set_cons_zero, List.set_cons_succ]))
          refine wpY_nil ?_
          refine wpAnyH_done (by kernel_rfl) ?_ _
          refine NoPanic.normal ?_
          clear d0 d1 d2 f0 f1 f2
          unfold put3 at *
          generalize ((w5.setCell ⟨y, 0, none⟩ (.int .i64 i2)).setCell ⟨y, 1, none⟩ (.int .i64 t)).setCell ⟨y, 2, none⟩ (.int .i64 d) = w8 at *
          obtain ⟨c0, c1, c2⟩ := X8.cells3
          obtain ⟨f0, f1, f2⟩ := X8.free3
          obtain ⟨y0, y1, y2⟩ := Y8.cells3
          clear X5 Y5 H5 W5
          go_wp2_with fail
          have X9 := X8.put3 (.int .i64 i2) (.int .i64 t) (.int .i64 d)
          have W9 := W8.put3 (r := w.heap.size + 1) (by omega) (fun e => by have := (HBN4.out _ e).1; omega) (.int .i64 i2) (.int .i64 t) (.int .i64 d)
          have H9 := below_put3 H8 (g := w.heap.size + 1) (by omega) (.int .i64 i2) (.int .i64 t) (.int .i64 d)
          go_roundw
          case rel => exact ⟨i + 1, t, d, B4, M, by go_num, hlt, W9, by rw [HI2.out]; exact X9, H9, fun k hk => (HBN4.out k hk).1, by rw [HI2.out]; exact (HP.out.trans (by rw [HDR.out, HPT.out])), by omega⟩
          case measure => simp [intOf]; omega
        · go_simp
          have A_ : Below w3.heap.size w3 (w3.alloc (.cells #[.int .i64 0, .int .i64 0, .int .i64 0] 39)) := (Below.refl _ w3).alloc (Nat.le_refl _) _
          have Y4 := Blk.new w3 39 #[.int .i64 0, .int .i64 0, .int .i64 0]
          have X4 := X3.below A_
          have z4 := cell_keep A_ z3
          have H4 := H3.trans (A_.mono H3.size)
          have hyx := X3.lt
          have W4 := W3.below A_
          refine hK.out _ _ (⟨X4.cells3, z4⟩) (fun hSt => ?_)
          clear hK K
          try simp only [Act.put, List.setIfInBounds_toArray, List.set_cons_zero, List.set_cons_succ]
          obtain ⟨y, hy⟩ : ∃ y, w3.heap.size = y := ⟨_, rfl⟩
          have hy3 : w3.heap.size = y := hy
          rw [hy] at Y4 hyx ⊢
          have hy4 : y < (w3.alloc (.cells #[.int .i64 0, .int .i64 0, .int .i64 0] 39)).heap.size := by simp; omega
          have HRB3 := Lib.hid W3.row
          generalize w3.alloc (.cells #[.int .i64 0, .int .i64 0, .int .i64 0] 39) = w4 at *
          refine wpAnyH_one 6 5 (by rfl) (by rfl) (by kernel_rfl) (fun K hK => ?_)
          go_simp
          refine (HPUT.out _ W4 H4.size).mono ?_
          rintro e w5 ⟨rfl, B4, W5, hB4, T4⟩
          have X5 := X4.touch T4 (by omega) (fun e => by have := HBN.out _ e.symm; omega)
          have z5 : w5.cell? ⟨bk, off + i, none⟩ = some (.int .i64 t) := (World.cell?_of_block (T4.block bk (Nat.lt_of_lt_of_le hbk H4.size) (by omega) (fun e => by have := HBN.out _ e.symm; omega))).trans z4
          have hrow := W4.row
          have H5 := H4.trans (T4.below H4.size (Nat.le_refl _) (fun k hk => (hrow k hk).1))
          have hs5 := T4.size
          have nb : ∀ k, B4 = some k → w.heap.size + 2 ≤ k ∧ (k < w4.heap.size → B = some k) := fun k hk => by
            have hz := X4.lt
            rcases hB4 with rfl | ⟨b, rfl, hb⟩
            · exact ⟨HBN.out k hk, fun _ => hk⟩
            · have : b = k := by injection hk
              exact ⟨by omega, fun h => by omega⟩
          have hrow4 := W5.row
          have HBN4 := Lib.hid nb
          have HRW4 := Lib.hid hrow4
          have HRB := Lib.hid hrow
          have Y5 := Y4.touch T4 (by omega) (fun e => by have := (HRB3.out _ e.symm).2; omega)
          clear nb hB4 hrow hrow4 T4
          refine hK.out _ _ (⟨X5.cells3, z5⟩) (fun hSt => ?_)
          clear hK K
          try simp only [Act.put, List.setIfInBounds_toArray, List.set_cons_zero, List.set_cons_succ]
          refine wpAnyH_picks [7, 8, 9] 2 (by rfl) (by kernel_rfl) (by kernel_rfl) (by kernel_rfl) (fun _ _ _ _ _ h => h) (by assumption) ?_
          simp only [picks, List.drop_succ_cons, List.drop_zero, List.take_succ_cons, List.take_zero, List.cons_append, List.nil_append]
          repeat (first
            | (refine wpY_skip (by rfl) ?_; simp only [Act.put, List.setIfInBounds_toArray, List.set_cons_zero, List.set_cons_succ])
            | (refine wpY_want (v := ?_) (by rfl) (fun W hW => ?_) ?_; rotate_left; (go_simp; try with_reducible rfl); simp only [Act.put, List.setIfInBounds_toArray, List.set_cons_zero, List.set_cons_succ]))
          refine wpY_nil ?_
          have NBY : B4 ≠ some y := fun e => by have := (HRB3.out _ ((HBN4.out _ e).2 hy4)).2; omega
          obtain ⟨d0, d1, d2⟩ := Y5.cells3
          obtain ⟨f0, f1, f2⟩ := Y5.free3
          have nbk : bk ≠ y := by omega
          refine wpAnyH_one 11 1 (by rfl) (by rfl) (by kernel_rfl) (fun K hK => ?_)
          go_simp
          have X8 := X5.farPut3 (g' := y) (by omega) (.int .i64 i2) (.int .i64 t) (.int .i64 d)
          have Y8 := Y5.put3 (.int .i64 i2) (.int .i64 t) (.int .i64 d)
          have H8 := below_put3 H5 (g := y) (by omega) (.int .i64 i2) (.int .i64 t) (.int .i64 d)
          have z8 : (put3 w5 y (.int .i64 i2) (.int .i64 t) (.int .i64 d)).cell? ⟨bk, off + i, none⟩ = some (.int .i64 t) := by unfold put3; rw [World.cell?_setCell_far _ _ _ _ (Ne.symm nbk), World.cell?_setCell_far _ _ _ _ (Ne.symm nbk), World.cell?_setCell_far _ _ _ _ (Ne.symm nbk)]; exact z5
          have W8 := W5.put3 (r := y) (by omega) NBY (.int .i64 i2) (.int .i64 t) (.int .i64 d)
          refine hK.out _ _ (⟨X8.cells3, z8⟩) (fun hSt => ?_)
          clear hK K
          try simp only [Act.put, List.setIfInBounds_toArray, List.set_cons_zero, List.set_cons_succ]
          refine wpAnyH_picks [12] 0 (by rfl) (by kernel_rfl) (by kernel_rfl) (by kernel_rfl) (fun _ _ _ _ _ h => h) (by assumption) ?_
          simp only [picks, List.drop_succ_cons, List.drop_zero, List.take_succ_cons, List.take_zero, List.cons_append, List.nil_append]
          repeat (first
            | (refine wpY_skip (by rfl) ?_; simp only [Act.put, List.setIfInBounds_toArray, List.set_cons_zero, List.set_cons_succ])
            | (refine wpY_want (v := ?_) (by rfl) (fun W hW => ?_) ?_; rotate_left; (go_simp; try with_reducible rfl); simp only [Act.put, List.setIfInBounds_toArray, List.set_cons_zero, List.set_cons_succ]))
          refine wpY_nil ?_
          refine wpAnyH_done (by kernel_rfl) ?_ _
          refine NoPanic.normal ?_
          clear d0 d1 d2 f0 f1 f2
          unfold put3 at *
          generalize ((w5.setCell ⟨y, 0, none⟩ (.int .i64 i2)).setCell ⟨y, 1, none⟩ (.int .i64 t)).setCell ⟨y, 2, none⟩ (.int .i64 d) = w8 at *
          obtain ⟨c0, c1, c2⟩ := X8.cells3
          obtain ⟨f0, f1, f2⟩ := X8.free3
          obtain ⟨y0, y1, y2⟩ := Y8.cells3
          clear X5 Y5 H5 W5
          go_wp2_with fail
          have X9 := X8.put3 (.int .i64 i2) (.int .i64 t) (.int .i64 d)
          have W9 := W8.put3 (r := w.heap.size + 1) (by omega) (fun e => by have := (HBN4.out _ e).1; omega) (.int .i64 i2) (.int .i64 t) (.int .i64 d)
          have H9 := below_put3 H8 (g := w.heap.size + 1) (by omega) (.int .i64 i2) (.int .i64 t) (.int .i64 d)
          go_roundw
          case rel => exact ⟨i + 1, t, d, B4, M, by go_num, hlt, W9, by rw [HI2.out]; exact X9, H9, fun k hk => (HBN4.out k hk).1, by rw [HI2.out]; exact (HP.out.trans (by rw [HDR.out, HPT.out])), by omega⟩
          case measure => simp [intOf]; omega
      · have HPUT := Lib.hid PUT
        have HPT := Lib.hid hput
        clear PUT hput hi2
        go_wp2_with fail
        refine wp_region_noPanic ?_
        refine wp_region_held_drew (S := fun W : World => (W.cell? ⟨w.heap.size + 1, 0, none⟩ = some (.int .i64 i) ∧ W.cell? ⟨w.heap.size + 1, 1, none⟩ = some (.int .i64 L) ∧ W.cell? ⟨w.heap.size + 1, 2, none⟩ = some (.int .i64 D)) ∧ W.cell? ⟨bk, off + i, none⟩ = some (.int .i64 t)) (by kernel_rfl) (⟨(hX.drewN 1).cells3, hz⟩) (fun hSt => ?_)
        have X3 : Blk wr.drew (w.heap.size + 1) 39 _ := hX
        have W3 : Rw wr.drew w.heap.size w.heap.size B Lb := hW
        have H3 : Below w.heap.size w wr.drew := below_drewN hH 1
        have z3 : wr.drew.cell? ⟨bk, off + i, none⟩ = some (.int .i64 t) := hz
        have hxl3 : w.heap.size + 1 < wr.drew.heap.size := hxl
        clear hX hW hH hz hxl
        generalize wr.drew = w3 at *
        refine wpAnyH_picks [0, 1, 2, 3, 4, 5] 7 (by rfl) (by kernel_rfl) (by kernel_rfl) (by kernel_rfl) (fun _ _ _ _ _ h => h) (by assumption) ?_
        simp only [picks, List.drop_succ_cons, List.drop_zero, List.take_succ_cons, List.take_zero, List.cons_append, List.nil_append]
        repeat (first
          | (refine wpY_skip (by rfl) ?_; simp only [Act.put, List.setIfInBounds_toArray, List.set_cons_zero, List.set_cons_succ])
          | (refine wpY_want (v := ?_) (by rfl) (fun W hW => ?_) ?_; rotate_left; (obtain ⟨⟨hW0, hW1, hW2⟩, hW3⟩ := hW; go_simp; try with_reducible rfl); simp only [Act.put, List.setIfInBounds_toArray, List.set_cons_zero, List.set_cons_succ]))
        refine wpY_nil ?_
        refine wpAnyH_two 6 10 6 (by rfl) (by rfl) (by rfl) (by kernel_rfl) (fun K hK => ?_) (fun K hK => ?_)
        · go_simp
          refine (HPUT.out _).mono ?_
          rintro e w4 ⟨rfl, hB4⟩
          have X4 := X3.below hB4
          have z4 := cell_keep hB4 z3
          have H4 := below_more H3 hB4
          have hs4 := hB4.size
          clear hB4
          refine hK.out _ _ (⟨X4.cells3, z4⟩) (fun hSt => ?_)
          clear hK K
          try simp only [Act.put, List.setIfInBounds_toArray, List.set_cons_zero, List.set_cons_succ]
          refine wpAnyH_picks [7, 8, 9] 3 (by rfl) (by kernel_rfl) (by kernel_rfl) (by kernel_rfl) (fun _ _ _ _ _ h => h) (by assumption) ?_
          simp only [picks, List.drop_succ_cons, List.drop_zero, List.take_succ_cons, List.take_zero, List.cons_append, List.nil_append]
          repeat (first
            | (refine wpY_skip (by rfl) ?_; simp only [Act.put, List.setIfInBounds_toArray, List.set_cons_zero, List.set_cons_succ])
            | (refine wpY_want (v := ?_) (by rfl) (fun W hW => ?_) ?_; rotate_left; (go_simp; try with_reducible rfl); simp only [Act.put, List.setIfInBounds_toArray, List.set_cons_zero, List.set_cons_succ]))
          refine wpY_nil ?_
          refine wpAnyH_one 10 2 (by rfl) (by rfl) (by kernel_rfl) (fun K hK => ?_)
          go_simp
          have A_ : Below w4.heap.size w4 (w4.alloc (.cells #[.int .i64 0, .int .i64 0, .int .i64 0] 39)) := (Below.refl _ w4).alloc (Nat.le_refl _) _
          have Y5 := Blk.new w4 39 #[.int .i64 0, .int .i64 0, .int .i64 0]
          have X5 := X4.below A_
          have z5 := cell_keep A_ z4
          have H5 := H4.trans (A_.mono H4.size)
          have hyx := X4.lt
          refine hK.out _ _ (⟨X5.cells3, z5⟩) (fun hSt => ?_)
          clear hK K
          try simp only [Act.put, List.setIfInBounds_toArray, List.set_cons_zero, List.set_cons_succ]
          obtain ⟨y, hy⟩ : ∃ y, w4.heap.size = y := ⟨_, rfl⟩
          rw [hy] at Y5 hyx ⊢
          generalize w4.alloc (.cells #[.int .i64 0, .int .i64 0, .int .i64 0] 39) = w5 at *
          obtain ⟨d0, d1, d2⟩ := Y5.cells3
          obtain ⟨f0, f1, f2⟩ := Y5.free3
          have nbk : bk ≠ y := by omega
          refine wpAnyH_one 11 1 (by rfl) (by rfl) (by kernel_rfl) (fun K hK => ?_)
          go_simp
          have X8 := X5.farPut3 (g' := y) (by omega) (.int .i64 0) (.int .i64 0) (.int .i64 0)
          have Y8 := Y5.put3 (.int .i64 0) (.int .i64 0) (.int .i64 0)
          have H8 := below_put3 H5 (g := y) (by omega) (.int .i64 0) (.int .i64 0) (.int .i64 0)
          have z8 : (put3 w5 y (.int .i64 0) (.int .i64 0) (.int .i64 0)).cell? ⟨bk, off + i, none⟩ = some (.int .i64 t) := by unfold put3; rw [World.cell?_setCell_far _ _ _ _ (Ne.symm nbk), World.cell?_setCell_far _ _ _ _ (Ne.symm nbk), World.cell?_setCell_far _ _ _ _ (Ne.symm nbk)]; exact z5
          refine hK.out _ _ (⟨X8.cells3, z8⟩) (fun hSt => ?_)
          clear hK K
          try simp only [Act.put, List.setIfInBounds_toArray, List.set_cons_zero, List.set_cons_succ]
          refine wpAnyH_picks [12] 0 (by rfl) (by kernel_rfl) (by kernel_rfl) (by kernel_rfl) (fun _ _ _ _ _ h => h) (by assumption) ?_
          simp only [picks, List.drop_succ_cons, List.drop_zero, List.take_succ_cons, List.take_zero, List.cons_append, List.nil_append]
          repeat (first
            | (refine wpY_skip (by rfl) ?_; simp only [Act.put, List.setIfInBounds_toArray, List.set_cons_zero, List.set_cons_succ])
            | (refine wpY_want (v := ?_) (by rfl) (fun W hW => ?_) ?_; rotate_left; (go_simp; try with_reducible rfl); simp only [Act.put, List.setIfInBounds_toArray, List.set_cons_zero, List.set_cons_succ]))
          refine wpY_nil ?_
          refine wpAnyH_done (by kernel_rfl) ?_ _
          refine NoPanic.normal ?_
          clear d0 d1 d2 f0 f1 f2
          unfold put3 at *
          generalize ((w5.setCell ⟨y, 0, none⟩ (.int .i64 0)).setCell ⟨y, 1, none⟩ (.int .i64 0)).setCell ⟨y, 2, none⟩ (.int .i64 0) = w8 at *
          go_wp2_with fail
          go_ret2
          exact ⟨by rw [HP.out, HDR.out, HPT.out]; exact rfl, H8⟩
        · go_simp
          have A_ : Below w3.heap.size w3 (w3.alloc (.cells #[.int .i64 0, .int .i64 0, .int .i64 0] 39)) := (Below.refl _ w3).alloc (Nat.le_refl _) _
          have Y4 := Blk.new w3 39 #[.int .i64 0, .int .i64 0, .int .i64 0]
          have X4 := X3.below A_
          have z4 := cell_keep A_ z3
          have H4 := H3.trans (A_.mono H3.size)
          have hyx := X3.lt
          refine hK.out _ _ (⟨X4.cells3, z4⟩) (fun hSt => ?_)
          clear hK K
          try simp only [Act.put, List.setIfInBounds_toArray, List.set_cons_zero, List.set_cons_succ]
          obtain ⟨y, hy⟩ : ∃ y, w3.heap.size = y := ⟨_, rfl⟩
          have hy3 : w3.heap.size = y := hy
          rw [hy] at Y4 hyx ⊢
          have hy4 : y < (w3.alloc (.cells #[.int .i64 0, .int .i64 0, .int .i64 0] 39)).heap.size := by simp; omega
          generalize w3.alloc (.cells #[.int .i64 0, .int .i64 0, .int .i64 0] 39) = w4 at *
          refine wpAnyH_one 6 5 (by rfl) (by rfl) (by kernel_rfl) (fun K hK => ?_)
          go_simp
          refine (HPUT.out _).mono ?_
          rintro e w5 ⟨rfl, hB4⟩
          have X5 := X4.below hB4
          have z5 := cell_keep hB4 z4
          have H5 := below_more H4 hB4
          have hs5 := hB4.size
          have Y5 := Y4.below hB4
          clear hB4
          refine hK.out _ _ (⟨X5.cells3, z5⟩) (fun hSt => ?_)
          clear hK K
          try simp only [Act.put, List.setIfInBounds_toArray, List.set_cons_zero, List.set_cons_succ]
          refine wpAnyH_picks [7, 8, 9] 2 (by rfl) (by kernel_rfl) (by kernel_rfl) (by kernel_rfl) (fun _ _ _ _ _ h => h) (by assumption) ?_
          simp only [picks, List.drop_succ_cons, List.drop_zero, List.take_succ_cons, List.take_zero, List.cons_append, List.nil_append]
          repeat (first
            | (refine wpY_skip (by rfl) ?_; simp only [Act.put, List.setIfInBounds_toArray, List.set_cons_zero, List.set_cons_succ])
            | (refine wpY_want (v := ?_) (by rfl) (fun W hW => ?_) ?_; rotate_left; (go_simp; try with_reducible rfl); simp only [Act.put, List.setIfInBounds_toArray, List.set_cons_zero, List.set_cons_succ]))
          refine wpY_nil ?_
          obtain ⟨d0, d1, d2⟩ := Y5.cells3
          obtain ⟨f0, f1, f2⟩ := Y5.free3
          have nbk : bk ≠ y := by omega
          refine wpAnyH_one 11 1 (by rfl) (by rfl) (by kernel_rfl) (fun K hK => ?_)
          go_simp
          have X8 := X5.farPut3 (g' := y) (by omega) (.int .i64 0) (.int .i64 0) (.int .i64 0)
          have Y8 := Y5.put3 (.int .i64 0) (.int .i64 0) (.int .i64 0)
          have H8 := below_put3 H5 (g := y) (by omega) (.int .i64 0) (.int .i64 0) (.int .i64 0)
          have z8 : (put3 w5 y (.int .i64 0) (.int .i64 0) (.int .i64 0)).cell? ⟨bk, off + i, none⟩ = some (.int .i64 t) := by unfold put3; rw [World.cell?_setCell_far _ _ _ _ (Ne.symm nbk), World.cell?_setCell_far _ _ _ _ (Ne.symm nbk), World.cell?_setCell_far _ _ _ _ (Ne.symm nbk)]; exact z5
          refine hK.out _ _ (⟨X8.cells3, z8⟩) (fun hSt => ?_)
          clear hK K
          try simp only [Act.put, List.setIfInBounds_toArray, List.set_cons_zero, List.set_cons_succ]
          refine wpAnyH_picks [12] 0 (by rfl) (by kernel_rfl) (by kernel_rfl) (by kernel_rfl) (fun _ _ _ _ _ h => h) (by assumption) ?_
          simp only [picks, List.drop_succ_cons, List.drop_zero, List.take_succ_cons, List.take_zero, List.cons_append, List.nil_append]
          repeat (first
            | (refine wpY_skip (by rfl) ?_; simp only [Act.put, List.setIfInBounds_toArray, List.set_cons_zero, List.set_cons_succ])
            | (refine wpY_want (v := ?_) (by rfl) (fun W hW => ?_) ?_; rotate_left; (go_simp; try with_reducible rfl); simp only [Act.put, List.setIfInBounds_toArray, List.set_cons_zero, List.set_cons_succ]))
          refine wpY_nil ?_
          refine wpAnyH_done (by kernel_rfl) ?_ _
          refine NoPanic.normal ?_
          clear d0 d1 d2 f0 f1 f2
          unfold put3 at *
          generalize ((w5.setCell ⟨y, 0, none⟩ (.int .i64 0)).setCell ⟨y, 1, none⟩ (.int .i64 0)).setCell ⟨y, 2, none⟩ (.int .i64 0) = w8 at *
          go_wp2_with fail
          go_ret2
          exact ⟨by rw [HP.out, HDR.out, HPT.out]; exact rfl, H8⟩
    · obtain rfl : i = len := by omega
      have hP2 : putsS 0 0 0 ts = some Lb := by rw [HP.out, List.drop_of_length_le (by rw [HL0.out]; exact Nat.le_refl _)]; simp [putsS]
      have HP2 := Lib.hid hP2
      clear hP2 HP
      go_wp2_with fail
      refine (refBytes_any wr w.heap.size w.heap.size B Lb hW (by omega)).mono ?_
      rintro e v ⟨vv, rfl, O, BO⟩
      obtain ⟨A2, c2, rfl, R2⟩ := RB.of_own O
      have H2 := below_more hH BO
      go_wp2_with fail
      go_ret2
      exact ⟨by rw [HP2.out]; exact ⟨A2, c2, rfl, R2⟩, H2⟩
end Go.Proofs.YtlgndfckmnninaaDoor
