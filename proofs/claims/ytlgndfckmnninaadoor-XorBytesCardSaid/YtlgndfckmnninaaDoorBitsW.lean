/- Walks of package bits: the writer. Conditions: as stated. -/
import Derived.Test.YtlgndfckmnninaaDoorObjs
import Derived.Deep.QuietTactic
import Derived.BigQuiet
import Derived.Deep.RegionHeld3
namespace Go.Proofs.YtlgndfckmnninaaDoor
open Go.RowKit

theorem ret_int {k : IntKind} {a b : Int} (h : a = b) : Ending.returned (.int k a) = .returned (.int k b) := by rw [h]

theorem pow_lt64 {n : Nat} (h : n < 64) : 2 ^ n ≤ 9223372036854775808 := by
  have := Nat.pow_le_pow_right (n := 2) (by omega) (show n ≤ 63 by omega)
  omega

theorem wrap_pow {n : Nat} (h : n < 64) : IntKind.u64.wrap (2 ^ n) = ((2 ^ n : Nat) : Int) := by
  have := pow_lt64 h
  have e : (2 : Int) ^ n = ((2 ^ n : Nat) : Int) := by push_cast; rfl
  rw [IntKind.wrap_u64, e]
  generalize 2 ^ n = p at *
  omega

theorem low_eq (x n : Nat) (hx : x < 18446744073709551616) (h : n < 64) : bits BinOp.and IntKind.u64 (x : Int) (IntKind.u64.wrap (IntKind.u64.wrap (2 ^ n) - 1)) = ((x % 2 ^ n : Nat) : Int) := by
  have h1 := pow_lt64 h
  have h2 : 0 < 2 ^ n := Nat.two_pow_pos n
  rw [wrap_pow h, IntKind.wrap_u64, show (((2 ^ n : Nat) : Int) - 1) % 18446744073709551616 = ((2 ^ n - 1 : Nat) : Int) by generalize 2 ^ n = p at *; omega, u64_and_nat x _ hx (by generalize 2 ^ n = p at *; omega), Nat.and_two_pow_sub_one_eq_mod]

theorem low_any (x n : Nat) (w : World) (hx : x < 18446744073709551616) (hn : n ≤ 64) :
    Calls Tryd.prog 58 #[.int .u64 x, .int .i64 n] w fun e w' => e = .returned (.int .u64 ((x % 2 ^ n : Nat) : Int)) ∧ w = w' := by
  by_cases h : 64 ≤ n
  · obtain rfl : n = 64 := by omega
    have e : x % 2 ^ 64 = x := Nat.mod_eq_of_lt (by omega)
    rw [e]
    go_enter Tryd.func58, Tryd.ntmps58
    go_wp2
    go_ret
    exact ⟨rfl, rfl⟩
  · have h64 : ¬ (64 : Int) ≤ (n : Int) := by omega
    go_enter Tryd.func58, Tryd.ntmps58
    go_wp2
    go_ret
    refine ⟨ret_int ?_, rfl⟩
    rw [low_eq x n hx (by omega)]
    push_cast
    rfl

theorem is_any (w : World) (base g : Nat) (B : Option Nat) (L : List Bool) (h : Wr w base g B L) :
    Calls Tryd.prog 56 #[.pointer (some ⟨g, 0, none⟩)] w fun e w' => e = .returned (.bool true) ∧ w = w' := by
  obtain ⟨_, v, hg, ho, _⟩ := h
  have c2 := hg.cell 2
  simp at c2
  go_enter Tryd.func56, Tryd.ntmps56
  go_wp2
  go_ret
  exact ⟨rfl, rfl⟩

theorem size_any (w : World) (base g : Nat) (B : Option Nat) (L : List Bool) (h : Wr w base g B L) :
    Calls Tryd.prog 57 #[.pointer (some ⟨g, 0, none⟩)] w fun e w' => e = .returned (.int .i64 (L.length : Int)) ∧ w = w' := by
  obtain ⟨_, v, hg, ho, _⟩ := h
  have c1 := hg.cell 1
  simp at c1
  go_enter Tryd.func57, Tryd.ntmps57
  go_wp2
  go_ret
  exact ⟨rfl, rfl⟩

theorem Len_any (w : World) (base g : Nat) (B : Option Nat) (L : List Bool) (h : Wr w base g B L) :
    Calls Tryd.prog 18 #[.pointer (some ⟨g, 0, none⟩)] w fun e w' => e = .returned (.int .i64 (L.length : Int)) ∧ w = w' := by
  go_enter Tryd.func18, Tryd.ntmps18
  go_wp2_with (first
    | (go_at_call 56; refine (is_any _ base g B L h).mono ?_; rintro e w' ⟨rfl, rfl⟩)
    | (go_at_call 57; refine (size_any _ base g B L h).mono ?_; rintro e w' ⟨rfl, rfl⟩))
  go_ret
  exact ⟨rfl, rfl⟩

theorem Wr.new (w : World) (base : Nat) (hb : base ≤ w.heap.size) : Wr (w.alloc (.cells #[.slice none 0 0, .int .i64 0, .bool true] 98)) base w.heap.size none [] := by
  refine ⟨hb, .slice none 0 0, Blk.new w _ _, ?_, rfl⟩
  rw [pack_nil]
  exact World.ownsRow_nil _ _ _ _

theorem NewWriter_any (w : World) (base : Nat) (hb : base ≤ w.heap.size) :
    Calls Tryd.prog 16 #[] w fun e w' => ∃ g, e = .returned (.pointer (some ⟨g, 0, none⟩)) ∧ w.heap.size ≤ g ∧ Wr w' base g none [] ∧ Below w.heap.size w w' := by
  go_enter Tryd.func16, Tryd.ntmps16
  go_wp2
  go_ret
  exact ⟨_, rfl, Nat.le_refl _, Wr.new w base hb, (Below.refl _ _).alloc (Nat.le_refl _) _⟩

theorem WBytes_any (w : World) (base g : Nat) (B : Option Nat) (L : List Bool) (h : Wr w base g B L) (hL : L.length ≤ 1000000) :
    Calls Tryd.prog 23 #[.pointer (some ⟨g, 0, none⟩)] w fun e w' => ∃ v, e = .returned v ∧ w'.ownsRow w.heap.size 5 1 v (pack L).length (bys (pack L)) ∧ Below w.heap.size w w' := by
  obtain ⟨h1, v, hg, ho, hB⟩ := h
  have hW : Wr w base g B L := ⟨h1, v, hg, ho, hB⟩
  have hpl : (pack L).length ≤ 1000000 := by rw [pack_length]; omega
  obtain ⟨A, c, rfl, hR⟩ := RB.of_own ho
  have c0 := hg.cell 0
  simp at c0
  have hBl : Below w.heap.size w (w.alloc (.cells #[] 5)) := (Below.refl _ _).alloc (Nat.le_refl _) _
  have hO := World.ownsRow_made (base := w.heap.size) (e := 5) (size := 1) w #[] 0 (Nat.le_refl _) (by simp [maxLen]) (by simp)
  have hR2 := hR.below hBl
  generalize hP : (pack L).length = P at *
  have HP := Lib.hid hP
  clear hP
  have c0' : (w.alloc (.cells #[] 5)).cell? ⟨g, 0, none⟩ = some (.slice A P c) := cell_keep hBl c0
  go_enter Tryd.func23, Tryd.ntmps23
  go_wp2_with (first
    | (go_at_call 56; refine (is_any _ base g B L hW).mono ?_; rintro e w' ⟨rfl, rfl⟩)
    | (at_builtin; refine app_row w.heap.size rfl _ _ _ 5 rfl Tryd.underlying43 Tryd.info5 _ 0 [] (pack L) A P c (by rfl) (by rfl) hO hR2 hBl (by simp) (by omega) ?_; intro v2 w2 hown2 hB2 hz2))
  go_ret
  exact ⟨v2, rfl, by simpa using hown2, hB2⟩
end Go.Proofs.YtlgndfckmnninaaDoor
