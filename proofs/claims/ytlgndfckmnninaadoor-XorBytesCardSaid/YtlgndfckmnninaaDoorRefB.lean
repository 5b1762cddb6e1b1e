/- Walk of the reference's Bytes. Conditions: as stated. -/
import Derived.Test.YtlgndfckmnninaaDoorRefW
namespace Go.Proofs.YtlgndfckmnninaaDoor
open Go.RowKit

theorem worth_le : ∀ k : Fin 8, 128 / 2 ^ k.val = 2 ^ (7 - k.val) := by decide +kernel
theorem set_same {α : Type} {xs : List α} {i : Nat} {y : α} (h : xs[i]? = some y) : xs.set i y = xs := by
  apply List.ext_getElem?
  intro j
  rw [List.getElem?_set]
  split
  · rename_i e; subst e; split <;> simp_all
  · rfl

theorem bys_set (xs : List Int) (i : Nat) (y : Int) : (bys xs).set i (.int .u8 y) = bys (xs.set i y) := by simp [bys, List.map_set]

set_option maxHeartbeats 1600000 in
theorem refBytes_any (w : World) (base g : Nat) (B : Option Nat) (L : List Bool) (h : Rw w base g B L) (hL : L.length ≤ 1000000) :
    Calls Tryd.prog 24 #[.pointer (some ⟨g, 0, none⟩)] w fun e w' => ∃ v, e = .returned v ∧ w'.ownsRow w.heap.size 5 1 v (pack L).length (bys (pack L)) ∧ Below w.heap.size w w' := by
  obtain ⟨hg0, v, hg, ho, hB⟩ := h
  obtain ⟨A, c, rfl, hc1, hc2⟩ := own_slice ho
  obtain ⟨P, hP⟩ : ∃ P, (L.length + 7) / 8 = P := ⟨_, rfl⟩
  have hPl : (pack L).length = P := by rw [pack_length]; exact hP
  have hmk := run_make_row' (P := Tryd.prog) 43 5 (.int .u8 0) 1 Tryd.underlying43 Tryd.info5 rfl .i64 .i64 P (by omega) (by omega)
  have hPi : ((L.length : Int) + 7) / 8 = (P : Int) := by omega
  have hP8 : P ≤ 1000000 := by omega
  have c0 := hg.cell 0
  simp at c0
  obtain ⟨n, hn⟩ : ∃ n, L.length = n := ⟨_, rfl⟩
  have hnP : n ≤ 8 * P := by omega
  rw [hn] at hg ho c0 hPi hc1 hB
  have hn6 : n ≤ 1000000 := by omega
  have HN := Lib.hid hn
  have HPL := Lib.hid hPl
  have HP := Lib.hid hP
  clear hP hPl hn hB
  go_enter Tryd.func24, Tryd.ntmps24
  go_wp2
  go_loopw [4] (fun iv wr => ∃ i : Nat, iv = .int .i64 i ∧ i ≤ n ∧ wr.ownsRow w.heap.size 5 1 (.slice (some ⟨w.heap.size, 0, none⟩) P P) P (bys (pad P (L.take i))) ∧ Below w.heap.size w wr) (fun iv _ => n - (intOf iv).toNat)
  case atStart =>
    refine ⟨0, rfl, Nat.zero_le _, ?_, (Below.refl _ _).alloc (Nat.le_refl _) _⟩
    have := World.ownsRow_lit (base := w.heap.size) (e := 5) (size := 1) w (madeCells #[.int .u8 0] P) P (Nat.le_refl _) (by simp only [maxLen]; omega) (by simp [size_madeCells])
    rwa [show (madeCells #[Value.int .u8 0] P).toList = bys (pad P (L.take 0)) from ?_] at this
    rw [List.take_zero, pad_nil]
    apply List.ext_getElem
    · simp [bys, madeCells]
    · intro i h1 h2
      simp [bys, madeCells, Nat.mod_one]
  case round =>
    obtain ⟨i, rfl, hin, hr, hb⟩ := hrel
    have c3 := cell_keep hb c0
    rcases Nat.lt_or_ge i n with hlt | hge
    · obtain ⟨r, cc, hAr, _, _⟩ := ho.form (by omega)
      obtain ⟨rfl, rfl⟩ : A = some ⟨r, 0, none⟩ ∧ c = cc := by injection hAr with h1 h2 h3; exact ⟨h1, h3⟩
      have hiL : i < L.length := by rw [HN.out]; exact hlt
      have hbit : w.cell? ⟨r, i, none⟩ = some (.bool L[i]) := by
        have := ho.cells (g := r) rfl i (.bool L[i]) (by simp [bls, hiL])
        have ha : (⟨r, 0, none⟩ : Addr).add i = ⟨r, i, none⟩ := by unfold Addr.add; split <;> simp_all
        rwa [ha] at this
      have hbit2 := cell_keep hb hbit
      have hil : (L.take i).length = i := by rw [List.length_take]; omega
      obtain ⟨a, ha1, ha2, ha3⟩ := pad_step P (L.take i) L[i] (by rw [hil]; omega)
      rw [hil] at ha1 ha2 ha3
      rw [← List.take_succ_eq_append_getElem hiL] at ha3
      have hpl : (pad P (L.take i)).length = P := length_pad (by rw [pack_length, hil]; omega)
      have hq : i / 8 < P := by omega
      have hbyte : wr.cell? ⟨w.heap.size, i / 8, none⟩ = some (.int .u8 (a : Int)) := by
        have := hr.cells (g := w.heap.size) rfl (i / 8) (.int .u8 (a : Int)) (by simp [bys, ha1])
        have ha : (⟨w.heap.size, 0, none⟩ : Addr).add (i / 8) = ⟨w.heap.size, i / 8, none⟩ := by unfold Addr.add; split <;> simp_all
        rwa [ha] at this
      have hfz := (own_blk hr).frozen (i / 8)
      have HA3 := Lib.hid ha3
      have HA1 := Lib.hid ha1
      clear ha1 ha3 hpl hil hbit
      cases hbi : L[i] with
      | false =>
        rw [hbi] at hbit2 ha2 HA3
        have HBI := Lib.hid hbi
        clear hbi
        go_wp2
        go_roundw
        case rel =>
          refine ⟨i + 1, by go_num, by omega, ?_, hb⟩
          rw [HA3.out, show a + false.toNat * 2 ^ (7 - i % 8) = a by simp, set_same HA1.out]
          exact hr
        case measure => simp [intOf]; omega
      | true =>
        rw [hbi] at hbit2 ha2 HA3
        have HBI := Lib.hid hbi
        clear hbi
        obtain ⟨wo, rfl⟩ : ∃ wo : World, wo = wr := ⟨_, rfl⟩
        have h8 : i % 8 ≤ 7 := by omega
        go_wp2
        go_loop [5, 6] (fun wv kv => ∃ k W : Nat, kv = .int .i64 k ∧ wv = .int .u8 W ∧ k ≤ i % 8 ∧ W ≤ 128 ∧ Hid (W = 2 ^ (7 - k))) (fun _ kv => i % 8 - (intOf kv).toNat)
        case atStart => exact ⟨0, 128, rfl, rfl, Nat.zero_le _, Nat.le_refl _, rfl⟩
        case round =>
          obtain ⟨k, W, rfl, rfl, hk, hW, hWe⟩ := hrel
          rcases Nat.lt_or_ge k (i % 8) with hlk | hgk
          · have hlk' : (k : Int) < (i : Int) % 8 := by omega
            go_wp2
            go_round
            case rel =>
              refine ⟨k + 1, W / 2, by go_num, by first | rfl | go_num, by omega, by omega, ?_⟩
              unfold Hid
              rw [hWe.out, show 7 - k = (7 - (k + 1)) + 1 by omega, Nat.pow_succ, Nat.mul_div_cancel _ (by omega)]
            case measure => simp [intOf]; omega
          · have hgk' : ¬ (k : Int) < (i : Int) % 8 := by omega
            have hsum : (a : Int) + (W : Int) ≤ 255 := by
              have e : k = i % 8 := by omega
              have := hWe.out
              rw [e] at this
              simp at ha2
              omega
            go_wp2
            go_roundw
            case rel =>
              refine ⟨i + 1, by go_num, by omega, ?_, hb.setCell (Nat.le_refl _) _⟩
              have hst := (hr.stored (i / 8) (.int .u8 ((a : Int) + (W : Int)))).1
              rw [bys_set] at hst
              have e : k = i % 8 := by omega
              rw [HA3.out, show ((a + true.toNat * 2 ^ (7 - i % 8) : Nat) : Int) = (a : Int) + (W : Int) by rw [hWe.out, e]; simp]
              exact hst
            case measure => simp [intOf]; omega
    · obtain rfl : i = n := by omega
      go_wp2
      go_ret
      rw [List.take_of_length_le (by rw [HN.out]; exact Nat.le_refl _), ← HP.out, pad_full] at hr
      refine ⟨_, rfl, ?_, hb⟩
      rw [HPL.out, ← HP.out]
      exact hr
end Go.Proofs.YtlgndfckmnninaaDoor
