/- Walks of package ids and of its reference. Conditions: as stated. -/
import Derived.Test.YtkibglmmncpdaaaObjsA
import Derived.Deep.QuietTactic
import Derived.BigQuiet
import Derived.Deep.RegionHeld3
namespace Go.Proofs.Ytkibglmmncpdaaa
open Go.RowKit

/-- A giver of numbers: its last number, its top. -/
def Gv (w : World) (g l t : Nat) : Prop := Blk w g 65 #[.int .u64 (l : Int), .int .u64 (t : Int), .bool true] ∧ l ≤ t ∧ t ≤ 9223372036854775807
/-- The reference's giver. -/
def Gr (w : World) (g l t : Nat) : Prop := Blk w g 62 #[.int .u64 (l : Int), .int .u64 (t : Int)] ∧ l ≤ t ∧ t ≤ 9223372036854775807

section
variable {w w' : World} {g l t g' : Nat} {B : Option Nat}
theorem Gv.touch (h : Gv w g l t) (ht : Touch g' B w w') (h1 : g ≠ g') (h2 : some g ≠ B) : Gv w' g l t := ⟨h.1.touch ht h1 h2, h.2⟩
theorem Gv.below (h : Gv w g l t) (hb : Below w.heap.size w w') : Gv w' g l t := ⟨h.1.below hb, h.2⟩
theorem Gr.touch (h : Gr w g l t) (ht : Touch g' B w w') (h1 : g ≠ g') (h2 : some g ≠ B) : Gr w' g l t := ⟨h.1.touch ht h1 h2, h.2⟩
theorem Gr.below (h : Gr w g l t) (hb : Below w.heap.size w w') : Gr w' g l t := ⟨h.1.below hb, h.2⟩
theorem Gv.lt (h : Gv w g l t) : g < w.heap.size := h.1.lt
theorem Gr.lt (h : Gr w g l t) : g < w.heap.size := h.1.lt
end

def takeC (l t : Nat) : Int := if l = 9223372036854775807 then 180 else if l = t then 4 else 0
def takeL (l t : Nat) : Nat := if takeC l t = 0 then l + 1 else l
def takeV (l t : Nat) : Nat := if takeC l t = 0 then l + 1 else 0
def raiseC (t n : Nat) : Int := if n = 0 then 2 else if t = 9223372036854775807 then 180 else 0
def raiseT (t n : Nat) : Nat := if raiseC t n = 0 then (if 9223372036854775807 - t < n then 9223372036854775807 else t + n) else t
def raiseV (t n : Nat) : Nat := if raiseC t n = 0 then raiseT t n else 0
def pastC (n : Nat) : Int := if n = 0 ∨ 9223372036854775807 < n then 2 else 0
def pastL (l n : Nat) : Nat := if pastC n = 0 then max l n else l

theorem is_any (w : World) (g l t : Nat) (h : Gv w g l t) : Calls Try.prog 46 #[.pointer (some ⟨g, 0, none⟩)] w fun e w' => e = .returned (.bool true) ∧ w = w' := by
  have c2 := h.1.cell 2
  simp at c2
  go_enter Try.func46, Try.ntmps46
  go_wp2
  go_ret
  exact ⟨rfl, rfl⟩

theorem New_bad (n : Nat) (w : World) (h : 9223372036854775807 < n) : Calls Try.prog 26 #[.int .u64 n] w fun e w' => e = .returned (.tuple #[.pointer none, .int .i64 2]) ∧ w = w' := by
  go_enter Try.func26, Try.ntmps26
  go_wp2
  go_ret2
  exact ⟨rfl, rfl⟩
theorem New_good (n : Nat) (w : World) (h : n ≤ 9223372036854775807) : Calls Try.prog 26 #[.int .u64 n] w fun e w' => e = .returned (.tuple #[.pointer (some ⟨w.heap.size, 0, none⟩), .int .i64 0]) ∧ Gv w' w.heap.size n n ∧ Below w.heap.size w w' := by
  go_enter Try.func26, Try.ntmps26
  go_wp2
  go_ret2
  exact ⟨rfl, ⟨Blk.new w _ _, Nat.le_refl _, h⟩, (Below.refl _ _).alloc (Nat.le_refl _) _⟩
theorem refNew_bad (n : Nat) (w : World) (h : 9223372036854775807 < n) : Calls Try.prog 36 #[.int .u64 n] w fun e w' => e = .returned (.tuple #[.pointer none, .int .i64 2]) ∧ w = w' := by
  go_enter Try.func36, Try.ntmps36
  go_wp2
  go_ret2
  exact ⟨rfl, rfl⟩
theorem refNew_good (n : Nat) (w : World) (h : n ≤ 9223372036854775807) : Calls Try.prog 36 #[.int .u64 n] w fun e w' => e = .returned (.tuple #[.pointer (some ⟨w.heap.size, 0, none⟩), .int .i64 0]) ∧ Gr w' w.heap.size n n ∧ Below w.heap.size w w' := by
  go_enter Try.func36, Try.ntmps36
  go_wp2
  go_ret2
  exact ⟨rfl, ⟨Blk.new w _ _, Nat.le_refl _, h⟩, (Below.refl _ _).alloc (Nat.le_refl _) _⟩

theorem take_cases (l t : Nat) (h : l ≤ t) (ht : t ≤ 9223372036854775807) : (l = 9223372036854775807 ∧ takeC l t = 180 ∧ takeL l t = l ∧ takeV l t = 0) ∨ (l = t ∧ l < 9223372036854775807 ∧ takeC l t = 4 ∧ takeL l t = l ∧ takeV l t = 0) ∨ (l < t ∧ takeC l t = 0 ∧ takeL l t = l + 1 ∧ takeV l t = l + 1) := by
  unfold takeL takeV takeC
  by_cases h1 : l = 9223372036854775807
  · exact .inl ⟨h1, by simp [h1], by simp [h1], by simp [h1]⟩
  · by_cases h2 : l = t
    · exact .inr (.inl ⟨h2, by omega, by simp [h1, ← h2], by simp [h1, ← h2], by simp [h1, ← h2]⟩)
    · exact .inr (.inr ⟨by omega, by simp [h1, h2], by simp [h1, h2], by simp [h1, h2]⟩)
theorem raise_cases (t n : Nat) (ht : t ≤ 9223372036854775807) : (n = 0 ∧ raiseC t n = 2 ∧ raiseT t n = t ∧ raiseV t n = 0) ∨ (0 < n ∧ t = 9223372036854775807 ∧ raiseC t n = 180 ∧ raiseT t n = t ∧ raiseV t n = 0) ∨
    (0 < n ∧ t < 9223372036854775807 ∧ 9223372036854775807 - t < n ∧ raiseC t n = 0 ∧ raiseT t n = 9223372036854775807 ∧ raiseV t n = 9223372036854775807) ∨
    (0 < n ∧ t < 9223372036854775807 ∧ n ≤ 9223372036854775807 - t ∧ raiseC t n = 0 ∧ raiseT t n = t + n ∧ raiseV t n = t + n) := by
  unfold raiseV raiseT raiseC
  by_cases h1 : n = 0
  · exact .inl ⟨h1, by simp [h1], by simp [h1], by simp [h1]⟩
  · by_cases h2 : t = 9223372036854775807
    · exact .inr (.inl ⟨by omega, h2, by simp [h1, h2], by simp [h1, h2], by simp [h1, h2]⟩)
    · by_cases h3 : 9223372036854775807 - t < n
      · exact .inr (.inr (.inl ⟨by omega, by omega, h3, by simp [h1, h2], by simp [h1, h2, h3], by simp [h1, h2, h3]⟩))
      · exact .inr (.inr (.inr ⟨by omega, by omega, by omega, by simp [h1, h2], by simp [h1, h2, h3], by simp [h1, h2, h3]⟩))
theorem past_cases (l t n : Nat) : (n = 0 ∧ pastC n = 2 ∧ pastL l n = l ∧ pastL t n = t) ∨ (9223372036854775807 < n ∧ pastC n = 2 ∧ pastL l n = l ∧ pastL t n = t) ∨ (0 < n ∧ n ≤ 9223372036854775807 ∧ pastC n = 0 ∧ pastL l n = max l n ∧ pastL t n = max t n) := by
  unfold pastL pastC
  by_cases h1 : n = 0
  · exact .inl ⟨h1, by simp [h1], by simp [h1], by simp [h1]⟩
  · by_cases h2 : 9223372036854775807 < n
    · exact .inr (.inl ⟨h2, by simp [h2], by simp [h2], by simp [h2]⟩)
    · exact .inr (.inr ⟨by omega, by omega, by simp [h1, h2], by simp [h1, h2], by simp [h1, h2]⟩)

theorem Take_any (w : World) (g l t : Nat) (h : Gv w g l t) : Calls Try.prog 28 #[.pointer (some ⟨g, 0, none⟩)] w fun e w' =>
    e = .returned (.tuple #[.int .u64 (takeV l t : Nat), .int .i64 (takeC l t)]) ∧ Gv w' g (takeL l t) t ∧ Touch g none w w' := by
  have c0 := h.1.cell 0
  have c1 := h.1.cell 1
  have f0 := h.1.frozen 0
  simp at c0 c1
  rcases take_cases l t h.2.1 h.2.2 with ⟨h1, e1, e2, e3⟩ | ⟨h1, h2, e1, e2, e3⟩ | ⟨h1, e1, e2, e3⟩
  · rw [e1, e2, e3]
    clear e1 e2 e3
    have k1 : ((l : Int) == 9223372036854775807) = true := by simp; omega
    go_enter Try.func28, Try.ntmps28
    go_wp2_with (go_at_call 46; refine (is_any _ g l t h).mono ?_; rintro e w' ⟨rfl, rfl⟩)
    go_ret2
    exact ⟨rfl, h, Touch.refl g none _⟩
  · rw [e1, e2, e3]
    clear e1 e2 e3
    have k2 : ((l : Int) == (t : Int)) = true := by simp; omega
    clear h1
    go_enter Try.func28, Try.ntmps28
    go_wp2_with (go_at_call 46; refine (is_any _ g l t h).mono ?_; rintro e w' ⟨rfl, rfl⟩)
    go_quiet (fail)
    go_wp2
    go_ret2
    exact ⟨rfl, h, (Touch.refl g none _).drewN _⟩
  · rw [e1, e2, e3]
    clear e1 e2 e3
    have hl3 : l < 9223372036854775807 := by have := h.2.2; omega
    have k2 : ((l : Int) == (t : Int)) = false := by simp; omega
    go_enter Try.func28, Try.ntmps28
    go_wp2_with (go_at_call 46; refine (is_any _ g l t h).mono ?_; rintro e w' ⟨rfl, rfl⟩)
    go_quiet (fail)
    go_wp2
    go_ret2
    exact ⟨rfl, ⟨h.1.set_ 0 _, h1, h.2.2⟩, ((Touch.refl g none _).drewN _).set_ 0 _⟩
theorem refTake_any (w : World) (g l t : Nat) (h : Gr w g l t) : Calls Try.prog 37 #[.pointer (some ⟨g, 0, none⟩)] w fun e w' =>
    e = .returned (.tuple #[.int .u64 (takeV l t : Nat), .int .i64 (takeC l t)]) ∧ Gr w' g (takeL l t) t ∧ Touch g none w w' := by
  have c0 := h.1.cell 0
  have c1 := h.1.cell 1
  have f0 := h.1.frozen 0
  simp at c0 c1
  rcases take_cases l t h.2.1 h.2.2 with ⟨h1, e1, e2, e3⟩ | ⟨h1, h2, e1, e2, e3⟩ | ⟨h1, e1, e2, e3⟩
  · rw [e1, e2, e3]
    clear e1 e2 e3
    have k1 : ((l : Int) == 9223372036854775807) = true := by simp; omega
    go_enter Try.func37, Try.ntmps37
    go_wp2
    go_ret2
    exact ⟨rfl, h, Touch.refl g none _⟩
  · rw [e1, e2, e3]
    clear e1 e2 e3
    have k2 : ((l : Int) == (t : Int)) = true := by simp; omega
    clear h1
    go_enter Try.func37, Try.ntmps37
    go_wp2
    go_quiet (fail)
    go_wp2
    go_ret2
    exact ⟨rfl, h, (Touch.refl g none _).drewN _⟩
  · rw [e1, e2, e3]
    clear e1 e2 e3
    have hl3 : l < 9223372036854775807 := by have := h.2.2; omega
    have k2 : ((l : Int) == (t : Int)) = false := by simp; omega
    go_enter Try.func37, Try.ntmps37
    go_wp2
    go_quiet (fail)
    go_wp2
    go_ret2
    exact ⟨rfl, ⟨h.1.set_ 0 _, h1, h.2.2⟩, ((Touch.refl g none _).drewN _).set_ 0 _⟩

theorem within_any (a b : Nat) (w : World) (ha : a ≤ 9223372036854775807) : Calls Try.prog 47 #[.int .u64 a, .int .u64 b, .int .u64 9223372036854775807] w fun e w' => e = .returned (.int .u64 ((if 9223372036854775807 - a < b then 9223372036854775807 else a + b : Nat) : Int)) ∧ w = w' := by
  by_cases h : 9223372036854775807 - a < b
  · rw [if_pos h]
    go_enter Try.func47, Try.ntmps47
    go_wp2
    go_ret
    exact ⟨rfl, rfl⟩
  · rw [if_neg h]
    go_enter Try.func47, Try.ntmps47
    go_wp2
    go_ret
    exact ⟨rfl, rfl⟩

theorem Raise_any (w : World) (g l t n : Nat) (h : Gv w g l t) : Calls Try.prog 29 #[.pointer (some ⟨g, 0, none⟩), .int .u64 n] w fun e w' =>
    e = .returned (.tuple #[.int .u64 (raiseV t n : Nat), .int .i64 (raiseC t n)]) ∧ Gv w' g l (raiseT t n) ∧ Touch g none w w' := by
  have c0 := h.1.cell 0
  have c1 := h.1.cell 1
  have f1 := h.1.frozen 1
  simp at c0 c1
  have htg := h.2.2
  have hlt := h.2.1
  rcases raise_cases t n h.2.2 with ⟨h1, e1, e2, e3⟩ | ⟨h0, h1, e1, e2, e3⟩ | ⟨h0, h1, h2, e1, e2, e3⟩ | ⟨h0, h1, h2, e1, e2, e3⟩
  · rw [e1, e2, e3]
    clear e1 e2 e3
    have k1 : ((n : Int) == 0) = true := by simp; omega
    go_enter Try.func29, Try.ntmps29
    go_wp2_with (go_at_call 46; refine (is_any _ g l t h).mono ?_; rintro e w' ⟨rfl, rfl⟩)
    go_ret2
    exact ⟨rfl, h, Touch.refl g none _⟩
  · rw [e1, e2, e3]
    clear e1 e2 e3
    have k1 : ((n : Int) == 0) = false := by simp; omega
    have k2 : ((t : Int) == 9223372036854775807) = true := by simp; omega
    go_enter Try.func29, Try.ntmps29
    go_wp2_with (go_at_call 46; refine (is_any _ g l t h).mono ?_; rintro e w' ⟨rfl, rfl⟩)
    go_ret2
    exact ⟨rfl, h, Touch.refl g none _⟩
  · rw [e1, e2, e3]
    clear e1 e2 e3
    have k1 : ((n : Int) == 0) = false := by simp; omega
    have k2 : ((t : Int) == 9223372036854775807) = false := by simp; omega
    have wi := fun W => within_any t n W htg
    rw [if_pos h2] at wi
    go_enter Try.func29, Try.ntmps29
    go_wp2_with (first | (go_at_call 46; refine (is_any _ g l t h).mono ?_; rintro e w' ⟨rfl, rfl⟩) | (go_at_call 47; refine (wi _).mono ?_; rintro e w' ⟨rfl, rfl⟩))
    go_ret2
    exact ⟨rfl, ⟨h.1.set_ 1 _, by omega, by omega⟩, (Touch.refl g none _).set_ 1 _⟩
  · rw [e1, e2, e3]
    clear e1 e2 e3
    have k1 : ((n : Int) == 0) = false := by simp; omega
    have k2 : ((t : Int) == 9223372036854775807) = false := by simp; omega
    have wi := fun W => within_any t n W htg
    rw [if_neg (by omega)] at wi
    go_enter Try.func29, Try.ntmps29
    go_wp2_with (first | (go_at_call 46; refine (is_any _ g l t h).mono ?_; rintro e w' ⟨rfl, rfl⟩) | (go_at_call 47; refine (wi _).mono ?_; rintro e w' ⟨rfl, rfl⟩))
    go_ret2
    exact ⟨rfl, ⟨h.1.set_ 1 _, by omega, by omega⟩, (Touch.refl g none _).set_ 1 _⟩
theorem refRaise_any (w : World) (g l t n : Nat) (h : Gr w g l t) : Calls Try.prog 38 #[.pointer (some ⟨g, 0, none⟩), .int .u64 n] w fun e w' =>
    e = .returned (.tuple #[.int .u64 (raiseV t n : Nat), .int .i64 (raiseC t n)]) ∧ Gr w' g l (raiseT t n) ∧ Touch g none w w' := by
  have c0 := h.1.cell 0
  have c1 := h.1.cell 1
  have f1 := h.1.frozen 1
  simp at c0 c1
  have htg := h.2.2
  have hlt := h.2.1
  rcases raise_cases t n h.2.2 with ⟨h1, e1, e2, e3⟩ | ⟨h0, h1, e1, e2, e3⟩ | ⟨h0, h1, h2, e1, e2, e3⟩ | ⟨h0, h1, h2, e1, e2, e3⟩
  · rw [e1, e2, e3]
    clear e1 e2 e3
    have k1 : ((n : Int) == 0) = true := by simp; omega
    go_enter Try.func38, Try.ntmps38
    go_wp2
    go_ret2
    exact ⟨rfl, h, Touch.refl g none _⟩
  · rw [e1, e2, e3]
    clear e1 e2 e3
    have k1 : ((n : Int) == 0) = false := by simp; omega
    have k2 : ((t : Int) == 9223372036854775807) = true := by simp; omega
    go_enter Try.func38, Try.ntmps38
    go_wp2
    go_ret2
    exact ⟨rfl, h, Touch.refl g none _⟩
  · rw [e1, e2, e3]
    clear e1 e2 e3
    have k1 : ((n : Int) == 0) = false := by simp; omega
    have k2 : ((t : Int) == 9223372036854775807) = false := by simp; omega
    go_enter Try.func38, Try.ntmps38
    go_wp2
    go_ret2
    exact ⟨rfl, ⟨h.1.set_ 1 _, by omega, by omega⟩, (Touch.refl g none _).set_ 1 _⟩
  · rw [e1, e2, e3]
    clear e1 e2 e3
    have k1 : ((n : Int) == 0) = false := by simp; omega
    have k2 : ((t : Int) == 9223372036854775807) = false := by simp; omega
    go_enter Try.func38, Try.ntmps38
    go_wp2
    go_ret2
    exact ⟨rfl, ⟨h.1.set_ 1 _, by omega, by omega⟩, (Touch.refl g none _).set_ 1 _⟩
end Go.Proofs.Ytkibglmmncpdaaa
