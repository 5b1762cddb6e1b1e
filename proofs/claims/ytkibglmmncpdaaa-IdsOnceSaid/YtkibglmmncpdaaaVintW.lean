/- Walks of package vint and of the small helpers beside it: what each call comes to. Conditions: as stated. -/
import Derived.Test.YtkibglmmncpdaaaProg
import Derived.Test.YtkibglmmncpdaaaWords
import Derived.Test.YtkibglmmncpdaaaPlain
import Derived.WalkKit
import Derived.KernelRfl
import Derived.Deep.OwnRows
namespace Go.Proofs.Ytkibglmmncpdaaa
open Go.RowKit

theorem Try.info5 : (Try.prog.info? 5).map (fun i => (i.zero, i.size, i.bytes)) = some (some (.int .u8 0), 1, 1) := by kernel_rfl

theorem short_any (A : Option Addr) (n c : Nat) (xs : List Int) (w : World) (h : RB w A n c xs) :
    Calls Try.prog 11 #[.slice A n c] w fun e w' => e = .returned (.slice A (min n 200) c) ∧ w = w' := by
  obtain ⟨h1, h2, h3, h4⟩ := h
  have hn : (n : Int) ≤ 9223372036854775807 := by omega
  rcases Nat.lt_or_ge 200 n with hl | hl
  · have e : min n 200 = 200 := by omega
    rw [e]
    go_enter Try.func11, Try.ntmps11
    go_wp2
    go_ret
    exact ⟨rfl, rfl⟩
  · have e : min n 200 = n := by omega
    rw [e]
    go_enter Try.func11, Try.ntmps11
    go_wp2
    go_ret
    exact ⟨rfl, rfl⟩

theorem bytes_any (A : Option Addr) (n c : Nat) (xs : List Int) (w : World) (h : RB w A n c xs) (hn : n ≤ 1000000) :
    Calls Try.prog 12 #[.slice A n c] w fun e w' => ∃ v, e = .returned v ∧ w'.ownsRow w.heap.size 5 1 v n (bys xs) ∧ Below w.heap.size w w' := by
  have hB : Below w.heap.size w (w.alloc (.cells #[] 5)) := (Below.refl _ _).alloc (Nat.le_refl _) _
  have hR := h.below hB
  have hO := World.ownsRow_made (base := w.heap.size) (e := 5) (size := 1) w #[] 0 (Nat.le_refl _) (by simp [maxLen]) (by simp)
  go_enter Try.func12, Try.ntmps12
  go_wp2_with (at_builtin; refine app_row w.heap.size rfl _ _ _ 5 rfl Try.underlying22 Try.info5 _ 0 [] xs A n c rfl rfl hO hR hB (by simp) (by omega) ?_; intro v1 w1 hown1 hB1 hz1)
  go_ret
  exact ⟨v1, rfl, by simpa using hown1, hB1⟩

theorem same_any (A A' : Option Addr) (n c n' c' : Nat) (xs : List Int) (w : World) (h : RB w A n c xs) (h' : RB w A' n' c' xs) :
    Calls Try.prog 13 #[.slice A n c, .slice A' n' c'] w fun e w' => e = .returned (.bool true) ∧ w = w' := by
  have k1 := h.string (P := Try.prog) (src := 22) (dst := 9) Try.underlying22 Try.underlying5 Try.underlying9
  have k2 := h'.string (P := Try.prog) (src := 22) (dst := 9) Try.underlying22 Try.underlying5 Try.underlying9
  go_enter Try.func13, Try.ntmps13
  go_wp2
  go_ret
  exact ⟨rfl, rfl⟩

theorem plain_any (N : Int) (w : World) : Calls Try.prog 42 #[.int .u64 N] w fun e w' => e = .returned (.int .u64 N) ∧ w = w' := by
  go_enter Try.func42, Try.ntmps42
  go_wp2
  go_ret
  exact ⟨rfl, rfl⟩

theorem xor_ones (a : Nat) (h : a < 18446744073709551616) : a ^^^ 18446744073709551615 = 18446744073709551615 - a := by
  have e : (BitVec.ofNat 64 a ^^^ BitVec.allOnes 64).toNat = 18446744073709551615 - a := by
    rw [BitVec.xor_allOnes, BitVec.toNat_not, BitVec.toNat_ofNat, Nat.mod_eq_of_lt h]
  rw [BitVec.toNat_xor, BitVec.toNat_ofNat, Nat.mod_eq_of_lt h, BitVec.toNat_allOnes] at e
  exact e

theorem folded_eq (k : Int) (h1 : -9223372036854775808 ≤ k) (h2 : k ≤ 9223372036854775807) :
    bits BinOp.xor IntKind.u64 (IntKind.u64.wrap (IntKind.u64.wrap k * 2)) (IntKind.u64.wrap (k / 9223372036854775808)) = (zig k : Int) := by
  simp only [IntKind.wrap_u64]
  unfold zig
  by_cases h : k < 0
  · have e1 : k / 9223372036854775808 % 18446744073709551616 = ((18446744073709551615 : Nat) : Int) := by omega
    have e2 : k % 18446744073709551616 * 2 % 18446744073709551616 = (((2 * k + 18446744073709551616).toNat : Nat) : Int) := by omega
    rw [e1, e2, u64_xor_nat _ _ (by omega) (by omega), xor_ones _ (by omega), if_pos h]
    congr 1
    omega
  · have e1 : k / 9223372036854775808 % 18446744073709551616 = ((0 : Nat) : Int) := by omega
    have e2 : k % 18446744073709551616 * 2 % 18446744073709551616 = (((2 * k).toNat : Nat) : Int) := by omega
    rw [e1, e2, u64_xor_nat _ _ (by omega) (by omega), Nat.xor_zero, if_neg h]

theorem or128 (m : Nat) : bits BinOp.or IntKind.u8 ((m : Int) % 256) 128 = ((128 + m % 128 : Nat) : Int) := by
  have e : (m : Int) % 256 = ((m % 256 : Nat) : Int) := by omega
  rw [e, u8_or (((m % 256 : Nat) : Int)) 128 (by omega) (by omega) (by omega) (by omega)]
  rw [Int.toNat_natCast]
  have h : ∀ x : Fin 256, x.val ||| 128 = 128 + x.val % 128 := by decide +kernel
  have := h ⟨m % 256, by omega⟩
  simp only at this
  rw [show (128 : Int).toNat = 128 from rfl, this]
  omega

theorem folded_any (k : Int) (w : World) (h1 : -9223372036854775808 ≤ k) (h2 : k ≤ 9223372036854775807) :
    Calls Try.prog 44 #[.int .i64 k] w fun e w' => e = .returned (.int .u64 (zig k)) ∧ w = w' := by
  go_enter Try.func44, Try.ntmps44
  go_wp2
  go_ret
  exact ⟨by show Ending.returned (.int .u64 (bits BinOp.xor IntKind.u64 (IntKind.u64.wrap (IntKind.u64.wrap k * 2)) (IntKind.u64.wrap (k / 9223372036854775808)))) = _; rw [folded_eq k h1 h2], rfl⟩

set_option maxHeartbeats 400000 in
theorem put_any (A : Option Addr) (n c : Nat) (xs : List Int) (N : Nat) (w : World) (h : RB w A n c xs) (hn : n ≤ 1000000) (hN : N < 18446744073709551616) :
    Calls Try.prog 41 #[.slice A n c, .int .u64 N, .func (.func 42) #[] #[]] w fun e w' =>
      ∃ v, e = .returned v ∧ w'.ownsRow w.heap.size 5 1 v (n + (enc N).length) (bys (xs ++ enc N)) ∧ Below w.heap.size w w' := by
  obtain ⟨i0, hi, hz0, hz1, hz2⟩ := info_parts Try.info5
  have hmk : ∀ W : World, (Instr.makeSlice 22 (.int .i64 0) (.int .i64 ((n : Int) + 10))).run Try.prog W = .ok (.slice (some ⟨W.heap.size, 0, none⟩) 0 (n + 10)) (W.alloc (.cells (madeCells #[.int .u8 0] (n + 10)) 5)) := fun W => by
    have := run_make (P := Try.prog) W 22 5 i0 _ Try.underlying22 hi hz0 .i64 .i64 0 ((n : Int) + 10) (by omega) (by omega) (by rw [hz2]; omega) (by omega)
    rw [hz1, show ((n : Int) + 10).toNat = n + 10 by omega, show (Value.int IntKind.u8 0).cells = #[.int .u8 0] from rfl] at this
    simpa using this
  have hle := enc_le10 N hN
  have hB : Below w.heap.size w (w.alloc (.cells (madeCells #[.int .u8 0] (n + 10)) 5)) := (Below.refl _ _).alloc (Nat.le_refl _) _
  have hR := h.below hB
  have hO := World.ownsRow_made (base := w.heap.size) (e := 5) (size := 1) w (madeCells #[.int .u8 0] (n + 10)) (n + 10) (Nat.le_refl _) (by simp only [maxLen]; omega) (by simp [size_madeCells])
  clear hi hz0 hz1 hz2
  go_enter Try.func41, Try.ntmps41
  go_wp2_with (first
    | (at_builtin; refine app_row w.heap.size rfl _ _ _ 5 rfl Try.underlying22 Try.info5 _ 0 [] xs A n c rfl rfl hO hR hB (by simp) (by omega) ?_; intro v1 w1 hown1 hB1 hz1)
    | (go_at_call 42; refine (plain_any _ _).mono ?_; rintro e w' ⟨rfl, rfl⟩))
  simp only [Nat.zero_add, List.nil_append] at hown1
  go_loopw [7, 8] (fun v x wr => ∃ (m : Nat) (done : List Int), x = .int .u64 m ∧ Hid (done ++ enc m = enc N) ∧ m ≤ N ∧ wr.ownsRow w.heap.size 5 1 v (n + done.length) (bys (xs ++ done)) ∧ Below w.heap.size w wr ∧ w.heap.size ≤ wr.heap.size) (fun _ x _ => (intOf x).toNat)
  case atStart => exact ⟨N, [], rfl, rfl, Nat.le_refl _, by simpa using hown1, hB1, hz1⟩
  case round =>
    obtain ⟨m, done, rfl, he, hm, hown, hBr, hzr⟩ := hrel
    have hd : done.length + (enc m).length ≤ 10 := by rw [← List.length_append, he.out]; exact hle
    by_cases hlt : 128 ≤ m
    · have h127 : (127 : Int) < (m : Int) := by omega
      have hor := or128 m
      go_wp2_with (at_builtin; (refine app_one w.heap.size rfl _ _ _ 5 rfl Try.underlying22 Try.info5 _ (n + done.length) (xs ++ done) _ (by rfl) (by rfl) hown hBr hzr (by omega) ?_; intro v2 w2 hown2 hB2 hz2))
      go_roundw
      case rel =>
        refine ⟨m / 128, done ++ [((128 + m % 128 : Nat) : Int)], by go_num, ?_, by omega, ?_, hB2, hz2⟩
        · rw [List.append_assoc, List.singleton_append, ← enc_big hlt]; exact he.out
        · rw [← List.append_assoc, List.length_append]; exact hown2
      case measure => simp [intOf]; omega
    · have h127 : ¬ (127 : Int) < (m : Int) := by omega
      go_wp2_with (at_builtin; refine app_one w.heap.size rfl _ _ _ 5 rfl Try.underlying22 Try.info5 _ (n + done.length) (xs ++ done) _ (by rfl) (by rfl) hown hBr hzr (by omega) ?_; intro v2 w2 hown2 hB2 hz2)
      have hx : xs ++ done ++ [(m : Int)] = xs ++ enc N := by rw [← he.out, enc_small (n := m) (by omega), List.append_assoc]
      have hl : n + done.length + 1 = n + (enc N).length := by rw [← he.out, enc_small (n := m) (by omega), List.length_append]; rfl
      rw [hx, hl] at hown2
      go_ret
      exact ⟨v2, rfl, hown2, hB2⟩

set_option maxHeartbeats 400000 in
theorem putInt_any (A : Option Addr) (n c : Nat) (xs : List Int) (k : Int) (w : World) (h : RB w A n c xs) (hn : n ≤ 1000000) (hk1 : -9223372036854775808 ≤ k) (hk2 : k ≤ 9223372036854775807) :
    Calls Try.prog 43 #[.slice A n c, .int .i64 k, .func (.func 44) #[] #[]] w fun e w' =>
      ∃ v, e = .returned v ∧ w'.ownsRow w.heap.size 5 1 v (n + (enc (zig k)).length) (bys (xs ++ enc (zig k))) ∧ Below w.heap.size w w' := by
  obtain ⟨i0, hi, hz0, hz1, hz2⟩ := info_parts Try.info5
  have hmk : ∀ W : World, (Instr.makeSlice 22 (.int .i64 0) (.int .i64 ((n : Int) + 10))).run Try.prog W = .ok (.slice (some ⟨W.heap.size, 0, none⟩) 0 (n + 10)) (W.alloc (.cells (madeCells #[.int .u8 0] (n + 10)) 5)) := fun W => by
    have := run_make (P := Try.prog) W 22 5 i0 _ Try.underlying22 hi hz0 .i64 .i64 0 ((n : Int) + 10) (by omega) (by omega) (by rw [hz2]; omega) (by omega)
    rw [hz1, show ((n : Int) + 10).toNat = n + 10 by omega, show (Value.int IntKind.u8 0).cells = #[.int .u8 0] from rfl] at this
    simpa using this
  have hle := enc_le10 (zig k) (zig_lt k hk1 hk2)
  have hB : Below w.heap.size w (w.alloc (.cells (madeCells #[.int .u8 0] (n + 10)) 5)) := (Below.refl _ _).alloc (Nat.le_refl _) _
  have hR := h.below hB
  have hO := World.ownsRow_made (base := w.heap.size) (e := 5) (size := 1) w (madeCells #[.int .u8 0] (n + 10)) (n + 10) (Nat.le_refl _) (by simp only [maxLen]; omega) (by simp [size_madeCells])
  clear hi hz0 hz1 hz2
  go_enter Try.func43, Try.ntmps43
  go_wp2_with (first
    | (at_builtin; refine app_row w.heap.size rfl _ _ _ 5 rfl Try.underlying22 Try.info5 _ 0 [] xs A n c rfl rfl hO hR hB (by simp) (by omega) ?_; intro v1 w1 hown1 hB1 hz1)
    | (go_at_call 44; refine (folded_any _ _ hk1 hk2).mono ?_; rintro e w' ⟨rfl, rfl⟩))
  simp only [Nat.zero_add, List.nil_append] at hown1
  go_loopw [7, 8] (fun v x wr => ∃ (m : Nat) (done : List Int), x = .int .u64 m ∧ Hid (done ++ enc m = enc (zig k)) ∧ m ≤ zig k ∧ wr.ownsRow w.heap.size 5 1 v (n + done.length) (bys (xs ++ done)) ∧ Below w.heap.size w wr ∧ w.heap.size ≤ wr.heap.size) (fun _ x _ => (intOf x).toNat)
  case atStart => exact ⟨zig k, [], rfl, rfl, Nat.le_refl _, by simpa using hown1, hB1, hz1⟩
  case round =>
    obtain ⟨m, done, rfl, he, hm, hown, hBr, hzr⟩ := hrel
    have hd : done.length + (enc m).length ≤ 10 := by rw [← List.length_append, he.out]; exact hle
    by_cases hlt : 128 ≤ m
    · have h127 : (127 : Int) < (m : Int) := by omega
      have hor := or128 m
      go_wp2_with (at_builtin; (refine app_one w.heap.size rfl _ _ _ 5 rfl Try.underlying22 Try.info5 _ (n + done.length) (xs ++ done) _ (by rfl) (by rfl) hown hBr hzr (by omega) ?_; intro v2 w2 hown2 hB2 hz2))
      go_roundw
      case rel =>
        refine ⟨m / 128, done ++ [((128 + m % 128 : Nat) : Int)], by go_num, ?_, by omega, ?_, hB2, hz2⟩
        · rw [List.append_assoc, List.singleton_append, ← enc_big hlt]; exact he.out
        · rw [← List.append_assoc, List.length_append]; exact hown2
      case measure => simp [intOf]; omega
    · have h127 : ¬ (127 : Int) < (m : Int) := by omega
      go_wp2_with (at_builtin; refine app_one w.heap.size rfl _ _ _ 5 rfl Try.underlying22 Try.info5 _ (n + done.length) (xs ++ done) _ (by rfl) (by rfl) hown hBr hzr (by omega) ?_; intro v2 w2 hown2 hB2 hz2)
      have hx : xs ++ done ++ [(m : Int)] = xs ++ enc (zig k) := by rw [← he.out, enc_small (n := m) (by omega), List.append_assoc]
      have hl : n + done.length + 1 = n + (enc (zig k)).length := by rw [← he.out, enc_small (n := m) (by omega), List.length_append]; rfl
      rw [hx, hl] at hown2
      go_ret
      exact ⟨v2, rfl, hown2, hB2⟩

theorem Put_any (A : Option Addr) (n c : Nat) (xs : List Int) (N : Nat) (w : World) (h : RB w A n c xs) (hn : n ≤ 1000000) (hN : N < 18446744073709551616) :
    Calls Try.prog 14 #[.slice A n c, .int .u64 N] w fun e w' => ∃ v, e = .returned v ∧ w'.ownsRow w.heap.size 5 1 v (n + (enc N).length) (bys (xs ++ enc N)) ∧ Below w.heap.size w w' := by
  go_enter Try.func14, Try.ntmps14
  go_wp2_with (go_at_call 41; refine (put_any A n c xs N _ h hn hN).mono ?_; rintro e w' ⟨v, rfl, hO, hB⟩)
  go_ret
  exact ⟨v, rfl, hO, hB⟩

theorem PutInt_any (A : Option Addr) (n c : Nat) (xs : List Int) (k : Int) (w : World) (h : RB w A n c xs) (hn : n ≤ 1000000) (hk1 : -9223372036854775808 ≤ k) (hk2 : k ≤ 9223372036854775807) :
    Calls Try.prog 16 #[.slice A n c, .int .i64 k] w fun e w' => ∃ v, e = .returned v ∧ w'.ownsRow w.heap.size 5 1 v (n + (enc (zig k)).length) (bys (xs ++ enc (zig k))) ∧ Below w.heap.size w w' := by
  go_enter Try.func16, Try.ntmps16
  go_wp2_with (go_at_call 43; refine (putInt_any A n c xs k _ h hn hk1 hk2).mono ?_; rintro e w' ⟨v, rfl, hO, hB⟩)
  go_ret
  exact ⟨v, rfl, hO, hB⟩

end Go.Proofs.Ytkibglmmncpdaaa
