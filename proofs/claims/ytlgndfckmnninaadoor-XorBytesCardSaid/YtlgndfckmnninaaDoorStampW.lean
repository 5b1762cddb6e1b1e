/- Walks of package stamp: classes, states. Conditions: as stated. -/
import Derived.Test.YtlgndfckmnninaaDoorTab
import Derived.Test.YtlgndfckmnninaaDoorStampT
namespace Go.Proofs.YtlgndfckmnninaaDoor
open Go.RowKit

theorem holds_any (a b : Int) (c z : Nat) (w : World) (hc : c ≤ 63) :
    Calls Tryd.prog 78 #[.agg #[.int .i64 a, .int .i64 b, .int .i64 c], .int .u64 z] w fun e w' => e = .returned (.bool (decide (z < 2 ^ c))) ∧ Below w.heap.size w w' := by
  have e : ((z : Int) / 2 ^ c == 0) = decide (z < 2 ^ c) := by
    rw [show (z : Int) / 2 ^ c = ((z / 2 ^ c : Nat) : Int) by push_cast; rfl]
    have hp := Nat.two_pow_pos c
    by_cases h : z < 2 ^ c
    · simp [h, Nat.div_eq_of_lt h]
    · have h1 : 0 < z / 2 ^ c := Nat.div_pos (by omega) hp
      rw [decide_eq_false h]
      simp only [beq_eq_false_iff_ne, ne_eq]
      omega
  go_enter Tryd.func78, Tryd.ntmps78
  go_wp2
  go_ret
  exact ⟨rfl, (Below.refl _ _).alloc (Nat.le_refl _) _⟩
theorem holds_yes0 (z : Nat) (w : World) (h : ofc z = 0) : Calls Tryd.prog 78 #[.agg #[.int .i64 0, .int .i64 1, .int .i64 0], .int .u64 z] w fun e w' => e = .returned (.bool true) ∧ Below w.heap.size w w' :=
  (holds_any 0 1 0 z w (by omega)).mono fun e w' ⟨h1, h2⟩ => ⟨by rw [h1, decide_eq_true]; have := ofc_iff z; omega, h2⟩
theorem holds_no0 (z : Nat) (w : World) (h : 0 < ofc z) : Calls Tryd.prog 78 #[.agg #[.int .i64 0, .int .i64 1, .int .i64 0], .int .u64 z] w fun e w' => e = .returned (.bool false) ∧ Below w.heap.size w w' :=
  (holds_any 0 1 0 z w (by omega)).mono fun e w' ⟨h1, h2⟩ => ⟨by rw [h1, decide_eq_false]; have := ofc_iff z; have := ofc_le z; omega, h2⟩
theorem holds_yes1 (z : Nat) (w : World) (h : ofc z = 1) : Calls Tryd.prog 78 #[.agg #[.int .i64 1, .int .i64 1, .int .i64 7], .int .u64 z] w fun e w' => e = .returned (.bool true) ∧ Below w.heap.size w w' :=
  (holds_any 1 1 7 z w (by omega)).mono fun e w' ⟨h1, h2⟩ => ⟨by rw [h1, decide_eq_true]; have := ofc_iff z; omega, h2⟩
theorem holds_no1 (z : Nat) (w : World) (h : 1 < ofc z) : Calls Tryd.prog 78 #[.agg #[.int .i64 1, .int .i64 1, .int .i64 7], .int .u64 z] w fun e w' => e = .returned (.bool false) ∧ Below w.heap.size w w' :=
  (holds_any 1 1 7 z w (by omega)).mono fun e w' ⟨h1, h2⟩ => ⟨by rw [h1, decide_eq_false]; have := ofc_iff z; have := ofc_le z; omega, h2⟩
theorem holds_yes2 (z : Nat) (w : World) (h : ofc z = 2) : Calls Tryd.prog 78 #[.agg #[.int .i64 2, .int .i64 1, .int .i64 12], .int .u64 z] w fun e w' => e = .returned (.bool true) ∧ Below w.heap.size w w' :=
  (holds_any 2 1 12 z w (by omega)).mono fun e w' ⟨h1, h2⟩ => ⟨by rw [h1, decide_eq_true]; have := ofc_iff z; omega, h2⟩
theorem holds_no2 (z : Nat) (w : World) (h : 2 < ofc z) : Calls Tryd.prog 78 #[.agg #[.int .i64 2, .int .i64 1, .int .i64 12], .int .u64 z] w fun e w' => e = .returned (.bool false) ∧ Below w.heap.size w w' :=
  (holds_any 2 1 12 z w (by omega)).mono fun e w' ⟨h1, h2⟩ => ⟨by rw [h1, decide_eq_false]; have := ofc_iff z; have := ofc_le z; omega, h2⟩
theorem holds_yes3 (z : Nat) (w : World) (h : ofc z = 3) : Calls Tryd.prog 78 #[.agg #[.int .i64 3, .int .i64 1, .int .i64 20], .int .u64 z] w fun e w' => e = .returned (.bool true) ∧ Below w.heap.size w w' :=
  (holds_any 3 1 20 z w (by omega)).mono fun e w' ⟨h1, h2⟩ => ⟨by rw [h1, decide_eq_true]; have := ofc_iff z; omega, h2⟩
theorem holds_no3 (z : Nat) (w : World) (h : 3 < ofc z) : Calls Tryd.prog 78 #[.agg #[.int .i64 3, .int .i64 1, .int .i64 20], .int .u64 z] w fun e w' => e = .returned (.bool false) ∧ Below w.heap.size w w' :=
  (holds_any 3 1 20 z w (by omega)).mono fun e w' ⟨h1, h2⟩ => ⟨by rw [h1, decide_eq_false]; have := ofc_iff z; have := ofc_le z; omega, h2⟩
theorem holds_yes4 (z : Nat) (w : World) (h : ofc z = 4) : Calls Tryd.prog 78 #[.agg #[.int .i64 4, .int .i64 0, .int .i64 48], .int .u64 z] w fun e w' => e = .returned (.bool true) ∧ Below w.heap.size w w' :=
  (holds_any 4 0 48 z w (by omega)).mono fun e w' ⟨h1, h2⟩ => ⟨by rw [h1, decide_eq_true]; have := ofc_iff z; omega, h2⟩
theorem holds_no4 (z : Nat) (w : World) (h : 4 < ofc z) : Calls Tryd.prog 78 #[.agg #[.int .i64 4, .int .i64 0, .int .i64 48], .int .u64 z] w fun e w' => e = .returned (.bool false) ∧ Below w.heap.size w w' :=
  (holds_any 4 0 48 z w (by omega)).mono fun e w' ⟨h1, h2⟩ => ⟨by rw [h1, decide_eq_false]; have := ofc_iff z; have := ofc_le z; omega, h2⟩

theorem below_step {w0 w1 w2 : World} {o : Obj} (h : Below w0.heap.size w0 w1) (h2 : Below (w1.alloc o).heap.size (w1.alloc o) w2) : Below w0.heap.size w1 w2 :=
  ((Below.refl _ w1).alloc h.size o).trans (h2.mono (by have := h.size; simp; omega))
abbrev clAgg : Value := .agg #[.int .i64 0, .int .i64 1, .int .i64 0, .int .i64 1, .int .i64 1, .int .i64 7, .int .i64 2, .int .i64 1, .int .i64 12, .int .i64 3, .int .i64 1, .int .i64 20, .int .i64 4, .int .i64 0, .int .i64 48]
theorem of_any (z : Nat) (w : World) (hT : StampTab w) :
    Calls Tryd.prog 55 #[.int .u64 z] w fun e w' => e = .returned (.int .i64 (ofc z : Nat)) ∧ Below w.heap.size w w' := by
  have t := fun j hj => hT j hj
  have t0 := t 0 (by omega)
  have t1 := t 1 (by omega)
  have t2 := t 2 (by omega)
  have t3 := t 3 (by omega)
  have t4 := t 4 (by omega)
  have t5 := t 5 (by omega)
  have t6 := t 6 (by omega)
  have t7 := t 7 (by omega)
  have t8 := t 8 (by omega)
  have t9 := t 9 (by omega)
  have t10 := t 10 (by omega)
  have t11 := t 11 (by omega)
  have t12 := t 12 (by omega)
  have t13 := t 13 (by omega)
  have t14 := t 14 (by omega)
  simp only [clList, List.getD_cons_zero, List.getD_cons_succ] at t0 t1 t2 t3 t4 t5 t6 t7 t8 t9 t10 t11 t12 t13 t14
  clear t
  have i0 : ∀ w, (Instr.index 105 clAgg (.int .i64 0)).run Tryd.prog w = .ok (.agg #[.int .i64 0, .int .i64 1, .int .i64 0]) w := fun _ => by kernel_rfl
  have i1 : ∀ w, (Instr.index 105 clAgg (.int .i64 1)).run Tryd.prog w = .ok (.agg #[.int .i64 1, .int .i64 1, .int .i64 7]) w := fun _ => by kernel_rfl
  have i2 : ∀ w, (Instr.index 105 clAgg (.int .i64 2)).run Tryd.prog w = .ok (.agg #[.int .i64 2, .int .i64 1, .int .i64 12]) w := fun _ => by kernel_rfl
  have i3 : ∀ w, (Instr.index 105 clAgg (.int .i64 3)).run Tryd.prog w = .ok (.agg #[.int .i64 3, .int .i64 1, .int .i64 20]) w := fun _ => by kernel_rfl
  have i4 : ∀ w, (Instr.index 105 clAgg (.int .i64 4)).run Tryd.prog w = .ok (.agg #[.int .i64 4, .int .i64 0, .int .i64 48]) w := fun _ => by kernel_rfl
  obtain ⟨c, hc⟩ : ∃ c, ofc z = c := ⟨_, rfl⟩
  have hc5 : c ≤ 5 := hc ▸ ofc_le z
  go_enter Tryd.func55, Tryd.ntmps55
  go_wp2
  go_loopw [6] (fun kv wr => ∃ j : Nat, kv = .int .i64 j ∧ j ≤ c ∧ Below w.heap.size w wr) (fun kv _ => 5 - (intOf kv).toNat)
  case atStart => exact ⟨0, rfl, Nat.zero_le _, Below.refl _ _⟩
  case round =>
    obtain ⟨j, rfl, hj, hb⟩ := hrel
    clear t0 t1 t2 t3 t4 t5 t6 t7 t8 t9 t10 t11 t12 t13 t14
    have hcase : j = 0 ∨ j = 1 ∨ j = 2 ∨ j = 3 ∨ j = 4 ∨ j = 5 := by omega
    rcases hcase with rfl | rfl | rfl | rfl | rfl | rfl
    · rcases Nat.eq_or_lt_of_le hj with hz1 | hz1
      · subst hz1
        have Y := fun W => holds_yes0 z W hc
        have HY := Lib.hid Y
        have HC := Lib.hid hc
        clear Y hc
        go_wp2_with fail
        refine (HY.out _).mono ?_
        rintro e w2 ⟨rfl, hb2⟩
        go_wp2_with fail
        go_ret
        exact ⟨ret_int (by rw [HC.out]; rfl), hb.trans (below_step hb hb2)⟩
      · have Y := fun W => holds_no0 z W (hc.symm ▸ hz1)
        have HY := Lib.hid Y
        have HC := Lib.hid hc
        clear Y hc
        go_wp2_with fail
        refine (HY.out _).mono ?_
        rintro e w2 ⟨rfl, hb2⟩
        go_wp2_with fail
        go_roundw
        case rel => exact ⟨1, by first | rfl | go_num, by omega, hb.trans (below_step hb hb2)⟩
        case measure => simp [intOf]
    · rcases Nat.eq_or_lt_of_le hj with hz1 | hz1
      · subst hz1
        have Y := fun W => holds_yes1 z W hc
        have HY := Lib.hid Y
        have HC := Lib.hid hc
        clear Y hc
        go_wp2_with fail
        refine (HY.out _).mono ?_
        rintro e w2 ⟨rfl, hb2⟩
        go_wp2_with fail
        go_ret
        exact ⟨ret_int (by rw [HC.out]; rfl), hb.trans (below_step hb hb2)⟩
      · have Y := fun W => holds_no1 z W (hc.symm ▸ hz1)
        have HY := Lib.hid Y
        have HC := Lib.hid hc
        clear Y hc
        go_wp2_with fail
        refine (HY.out _).mono ?_
        rintro e w2 ⟨rfl, hb2⟩
        go_wp2_with fail
        go_roundw
        case rel => exact ⟨2, by first | rfl | go_num, by omega, hb.trans (below_step hb hb2)⟩
        case measure => simp [intOf]
    · rcases Nat.eq_or_lt_of_le hj with hz1 | hz1
      · subst hz1
        have Y := fun W => holds_yes2 z W hc
        have HY := Lib.hid Y
        have HC := Lib.hid hc
        clear Y hc
        go_wp2_with fail
        refine (HY.out _).mono ?_
        rintro e w2 ⟨rfl, hb2⟩
        go_wp2_with fail
        go_ret
        exact ⟨ret_int (by rw [HC.out]; rfl), hb.trans (below_step hb hb2)⟩
      · have Y := fun W => holds_no2 z W (hc.symm ▸ hz1)
        have HY := Lib.hid Y
        have HC := Lib.hid hc
        clear Y hc
        go_wp2_with fail
        refine (HY.out _).mono ?_
        rintro e w2 ⟨rfl, hb2⟩
        go_wp2_with fail
        go_roundw
        case rel => exact ⟨3, by first | rfl | go_num, by omega, hb.trans (below_step hb hb2)⟩
        case measure => simp [intOf]
    · rcases Nat.eq_or_lt_of_le hj with hz1 | hz1
      · subst hz1
        have Y := fun W => holds_yes3 z W hc
        have HY := Lib.hid Y
        have HC := Lib.hid hc
        clear Y hc
        go_wp2_with fail
        refine (HY.out _).mono ?_
        rintro e w2 ⟨rfl, hb2⟩
        go_wp2_with fail
        go_ret
        exact ⟨ret_int (by rw [HC.out]; rfl), hb.trans (below_step hb hb2)⟩
      · have Y := fun W => holds_no3 z W (hc.symm ▸ hz1)
        have HY := Lib.hid Y
        have HC := Lib.hid hc
        clear Y hc
        go_wp2_with fail
        refine (HY.out _).mono ?_
        rintro e w2 ⟨rfl, hb2⟩
        go_wp2_with fail
        go_roundw
        case rel => exact ⟨4, by first | rfl | go_num, by omega, hb.trans (below_step hb hb2)⟩
        case measure => simp [intOf]
    · rcases Nat.eq_or_lt_of_le hj with hz1 | hz1
      · subst hz1
        have Y := fun W => holds_yes4 z W hc
        have HY := Lib.hid Y
        have HC := Lib.hid hc
        clear Y hc
        go_wp2_with fail
        refine (HY.out _).mono ?_
        rintro e w2 ⟨rfl, hb2⟩
        go_wp2_with fail
        go_ret
        exact ⟨ret_int (by rw [HC.out]; rfl), hb.trans (below_step hb hb2)⟩
      · have Y := fun W => holds_no4 z W (hc.symm ▸ hz1)
        have HY := Lib.hid Y
        have HC := Lib.hid hc
        clear Y hc
        go_wp2_with fail
        refine (HY.out _).mono ?_
        rintro e w2 ⟨rfl, hb2⟩
        go_wp2_with fail
        go_roundw
        case rel => exact ⟨5, by first | rfl | go_num, by omega, hb.trans (below_step hb hb2)⟩
        case measure => simp [intOf]
    · obtain rfl : c = 5 := by omega
      go_wp2
      go_ret
      exact ⟨ret_int (by rw [hc]; rfl), hb⟩
end Go.Proofs.YtlgndfckmnninaaDoor
