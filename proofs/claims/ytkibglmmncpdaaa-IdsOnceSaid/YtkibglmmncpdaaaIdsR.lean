/- Walks of the reference's Read of a number. Conditions: as stated. -/
import Derived.Test.YtkibglmmncpdaaaIdsP
namespace Go.Proofs.Ytkibglmmncpdaaa
open Go.RowKit

set_option maxRecDepth 20000 in
set_option maxHeartbeats 3200000 in
theorem refRead_any (A : Option Addr) (n c : Nat) (xs : List Int) (w : World) (h : RB w A n c xs) (hn : n ≤ 1000000000) (hb : ∀ x ∈ xs, Byte x) :
    Calls Try.prog 48 #[.slice A n c, .int .i64 0] w fun e w' =>
      e = .returned (.tuple #[.int .u64 (rres 0 xs).1, .int .i64 (rres 0 xs).2.1, .int .i64 (rres 0 xs).2.2]) ∧ w = w' := by
  obtain ⟨r1, r2, r3, r4⟩ := h
  have hnc : (n : Int) ≤ 9223372036854775807 := by omega
  go_enter Try.func48, Try.ntmps48
  go_wp2
  go_loopw [7, 8, 9] (fun av wv iv wr => ∃ a W m : Nat, av = .int .u64 a ∧ wv = .int .u64 W ∧ iv = .int .i64 m ∧ m ≤ 9 ∧ a < W ∧ W ≤ 9223372036854775808 ∧ Hid (W = 128 ^ m ∧ rdv 0 0 xs = rdv m a (xs.drop m)) ∧ wr = w) (fun _ _ iv _ => 10 - (intOf iv).toNat)
  case atStart => exact ⟨0, 1, 0, rfl, rfl, rfl, by omega, by omega, by omega, ⟨rfl, rfl⟩, rfl⟩
  case round =>
    obtain ⟨a, W, m, rfl, rfl, rfl, hm9, haW, hW63, hH, rfl⟩ := hrel
    rcases Nat.lt_or_ge m n with hmn | hmn
    · obtain ⟨b, off, rfl, hcell⟩ := r4 (by omega)
      have hc := hcell m hmn
      have hx : ∃ X : Nat, xs[m]?.getD 0 = X ∧ X ≤ 255 ∧ xs.drop m = (X : Int) :: xs.drop (m + 1) := by
        have hlt : m < xs.length := by omega
        obtain ⟨h0, h1⟩ := hb xs[m] (List.getElem_mem _)
        obtain ⟨X, hX⟩ := Int.eq_ofNat_of_zero_le h0
        refine ⟨X, by simp [hlt, hX], by omega, ?_⟩
        rw [List.drop_eq_getElem_cons hlt, hX]
      obtain ⟨X, hX, hX255, hd⟩ := hx
      rw [hX] at hc
      have hH1 := hH.out
      rw [hd] at hH1
      have hD := Lib.hid hd
      clear hX hd hcell hH
      have hWm := hH1.1
      have hle : ((m : Int) < (n : Int)) := by omega
      by_cases hbad : (m = 9 ∧ (1 : Int) < X) ∨ (0 < m ∧ (X : Int) = 0)
      · have HR := Lib.hid (rres_of (k := 0) (hH1.2.trans (rdv_bad hbad)))
        clear hH1 hWm
        rcases hbad with ⟨rfl, h1⟩ | ⟨h0, h1⟩
        · go_wp2
          go_ret3
          rw [HR.out]
          exact ⟨rfl, rfl⟩
        · have k3 : decide ((0 : Int) < (m : Int)) = true := by simp; omega
          have k2 : ((X : Int) == 0) = true := by simp; omega
          rcases Nat.lt_or_ge m 9 with h9 | h9
          · have k1 : ((m : Int) == 9) = false := by simp; omega
            go_wp2
            go_ret3
            rw [HR.out]
            exact ⟨rfl, rfl⟩
          · obtain rfl : m = 9 := by omega
            have k4 : decide ((1 : Int) < (X : Int)) = false := by simp; omega
            go_wp2
            go_ret3
            rw [HR.out]
            exact ⟨rfl, rfl⟩
      · have hpw : m < 9 → W ≤ 72057594037927936 := fun h9 => by
          rw [hWm]
          exact (show 128 ^ m ≤ 128 ^ 8 from Nat.pow_le_pow_right (by omega) (by omega))
        have hmul : X % 128 * W ≤ 9223372036854775808 := by
          rcases Nat.lt_or_ge m 9 with h9 | h9
          · have := hpw h9
            calc X % 128 * W ≤ 128 * 72057594037927936 := Nat.mul_le_mul (by omega) this
              _ ≤ _ := by omega
          · have : X % 128 ≤ 1 := by omega
            calc X % 128 * W ≤ 1 * 9223372036854775808 := Nat.mul_le_mul this hW63
              _ ≤ _ := by omega
        have hnew : m < 9 → a + X % 128 * W < W * 128 := fun _ => by
          have : (X % 128 + 1) * W ≤ 128 * W := Nat.mul_le_mul_right _ (by omega)
          rw [Nat.add_mul, Nat.one_mul] at this
          omega
        obtain ⟨Y, hY⟩ : ∃ Y, X % 128 = Y := ⟨_, rfl⟩
        obtain ⟨V, hV⟩ : ∃ V, Y * W = V := ⟨_, rfl⟩
        have hY2 : Y < 128 := by omega
        rw [hY, hV] at hmul hnew
        have e1 : (X : Int).tmod 128 = (Y : Int) := by rw [← hY]; rfl
        have e3 : (X : Int) % 128 = (Y : Int) := by omega
        have e2 : IntKind.u64.wrap ((Y : Int) * (W : Int)) = (V : Int) := by
          rw [IntKind.wrap_u64, ← Int.natCast_mul, hV]; omega
        have haV : a + V < 18446744073709551616 := by omega
        have e4 : IntKind.u64.wrap ((a : Int) + (V : Int)) = (a : Int) + (V : Int) := by
          rw [IntKind.wrap_u64]; omega
        obtain ⟨Z, hZ, hZ2⟩ : ∃ Z : Int, IntKind.u64.wrap ((W : Int) * 128) = Z ∧ (m < 9 → Z = W * 128) := ⟨_, rfl, fun h9 => by
          have := hpw h9
          rw [IntKind.wrap_u64]; omega⟩
        by_cases hend : (X : Int) < 128
        · have hres := rres_of (k := 0) (hH1.2.trans (rdv_end hbad hend))
          rw [Int.toNat_natCast, show X = Y by omega, ← hWm, hV] at hres
          rw [if_pos rfl] at hres
          have HR := Lib.hid hres
          have hcase : (((m : Int) == 9) = true ∧ decide ((1 : Int) < (X : Int)) = false ∧ 0 < m ∧ ((X : Int) == 0) = false) ∨ (((m : Int) == 9) = false ∧ 0 < m ∧ ((X : Int) == 0) = false) ∨ (((m : Int) == 9) = false ∧ ¬ 0 < m) := by
            simp
            omega
          clear hH1 hWm hY hV hres hbad hnew hpw hZ2
          rcases hcase with ⟨k1, k2, k3, k4⟩ | ⟨k1, k3, k4⟩ | ⟨k1, k3⟩
          all_goals
            go_wp2
            go_ret3
            rw [HR.out]
            exact ⟨ret_tuple3 (by push_cast; omega) (by push_cast; omega) rfl, rfl⟩
        · have hm8 : m < 9 := by omega
          have hn1 := hnew hm8
          have hn2 := hpw hm8
          have hZ3 := Lib.hid (hZ2 hm8)
          have h2 := hH1.2.trans (rdv_on hbad hend)
          rw [Int.toNat_natCast, show X - 128 = Y by omega, ← hWm, hV] at h2
          have HR := Lib.hid (show W * 128 = 128 ^ (m + 1) ∧ rdv 0 0 xs = rdv (m + 1) (a + V) (xs.drop (m + 1)) from ⟨by rw [hWm, Nat.pow_succ], h2⟩)
          have hcase : (((m : Int) == 9) = true ∧ decide ((1 : Int) < (X : Int)) = false ∧ 0 < m ∧ ((X : Int) == 0) = false) ∨ (((m : Int) == 9) = false ∧ 0 < m ∧ ((X : Int) == 0) = false) ∨ (((m : Int) == 9) = false ∧ ¬ 0 < m) := by
            simp
            omega
          clear hH1 hWm hY hV h2 hbad hnew hpw hZ2
          rcases hcase with ⟨k1, k2, k3, k4⟩ | ⟨k1, k3, k4⟩ | ⟨k1, k3⟩
          all_goals
            go_wp2
            go_roundw
            case rel => exact ⟨a + V, W * 128, m + 1, rfl, by rw [hZ3.out]; rfl, rfl, by omega, by omega, by omega, HR.out, trivial⟩
            case measure => simp [intOf]; omega
    · have HR := Lib.hid (rres_of (k := 0) (hH.out.2.trans (by rw [List.drop_eq_nil_of_le (by omega), rdv_nil])))
      clear hH
      go_wp2
      go_ret3
      rw [HR.out]
      exact ⟨rfl, rfl⟩
end Go.Proofs.Ytkibglmmncpdaaa
