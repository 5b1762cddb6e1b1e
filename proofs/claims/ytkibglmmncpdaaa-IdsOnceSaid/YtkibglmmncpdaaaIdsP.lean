/- Walks of package ids and of its reference: Past, Last, Top, Left, Bytes. Conditions: as stated. -/
import Derived.Test.YtkibglmmncpdaaaIds
namespace Go.Proofs.Ytkibglmmncpdaaa
open Go.RowKit

set_option maxHeartbeats 3200000 in
theorem Past_any (w : World) (g l t n : Nat) (h : Gv w g l t) : Calls Try.prog 30 #[.pointer (some ⟨g, 0, none⟩), .int .u64 n] w fun e w' =>
    e = .returned (.int .i64 (pastC n)) ∧ Gv w' g (pastL l n) (pastL t n) ∧ Touch g none w w' := by
  have c0 := h.1.cell 0
  have c1 := h.1.cell 1
  have f0 := h.1.frozen 0
  have f1 := h.1.frozen 1
  simp at c0 c1
  have htg := h.2.2
  have hlt := h.2.1
  have pc := past_cases l t n
  rcases pc with ⟨h1, e1, e2, e3⟩ | ⟨h1, e1, e2, e3⟩ | ⟨h0, h1, e1, e2, e3⟩
  · rw [e1, e2, e3]
    clear e1 e2 e3
    have k1 : ((n : Int) == 0) = true := by simp; omega
    go_enter Try.func30, Try.ntmps30
    go_wp2_with (go_at_call 46; refine (is_any _ g l t h).mono ?_; rintro e w' ⟨rfl, rfl⟩)
    go_ret
    exact ⟨rfl, h, Touch.refl g none _⟩
  · rw [e1, e2, e3]
    clear e1 e2 e3
    have k1 : ((n : Int) == 0) = false := by simp; omega
    go_enter Try.func30, Try.ntmps30
    go_wp2_with (go_at_call 46; refine (is_any _ g l t h).mono ?_; rintro e w' ⟨rfl, rfl⟩)
    go_ret
    exact ⟨rfl, h, Touch.refl g none _⟩
  · rw [e1, e2, e3]
    clear e1 e2 e3
    have k1 : ((n : Int) == 0) = false := by simp; omega
    go_enter Try.func30, Try.ntmps30
    go_wp2_with (go_at_call 46; refine (is_any _ g l t h).mono ?_; rintro e w' ⟨rfl, rfl⟩)
    have m1 : ((max l n : Nat) : Int) = max (l : Int) (n : Int) := by omega
    have m2 : ((max t n : Nat) : Int) = max (t : Int) (n : Int) := by omega
    have m3 : max l n ≤ max t n := by omega
    have m4 : max t n ≤ 9223372036854775807 := by omega
    have M1 := Lib.hid m1
    have M2 := Lib.hid m2
    clear m1 m2
    go_region_with (fail)
    all_goals
      go_wp2
      go_ret
      exact ⟨rfl, ⟨by rw [M1.out, M2.out]; exact (h.1.set_ 0 _).set_ 1 _, m3, m4⟩, (((Touch.refl g none w).set_ 0 _).set_ 1 _).drewN 1⟩
set_option maxHeartbeats 3200000 in
theorem refPast_any (w : World) (g l t n : Nat) (h : Gr w g l t) : Calls Try.prog 39 #[.pointer (some ⟨g, 0, none⟩), .int .u64 n] w fun e w' =>
    e = .returned (.int .i64 (pastC n)) ∧ Gr w' g (pastL l n) (pastL t n) ∧ Touch g none w w' := by
  have c0 := h.1.cell 0
  have c1 := h.1.cell 1
  have f0 := h.1.frozen 0
  have f1 := h.1.frozen 1
  simp at c0 c1
  have htg := h.2.2
  have hlt := h.2.1
  have pc := past_cases l t n
  rcases pc with ⟨h1, e1, e2, e3⟩ | ⟨h1, e1, e2, e3⟩ | ⟨h0, h1, e1, e2, e3⟩
  · rw [e1, e2, e3]
    clear e1 e2 e3
    have k1 : ((n : Int) == 0) = true := by simp; omega
    go_enter Try.func39, Try.ntmps39
    go_wp2
    go_ret
    exact ⟨rfl, h, Touch.refl g none _⟩
  · rw [e1, e2, e3]
    clear e1 e2 e3
    have k1 : ((n : Int) == 0) = false := by simp; omega
    go_enter Try.func39, Try.ntmps39
    go_wp2
    go_ret
    exact ⟨rfl, h, Touch.refl g none _⟩
  · rw [e1, e2, e3]
    clear e1 e2 e3
    have k1 : ((n : Int) == 0) = false := by simp; omega
    go_enter Try.func39, Try.ntmps39
    go_wp2
    have m1 : ((max l n : Nat) : Int) = max (l : Int) (n : Int) := by omega
    have m2 : ((max t n : Nat) : Int) = max (t : Int) (n : Int) := by omega
    have m3 : max l n ≤ max t n := by omega
    have m4 : max t n ≤ 9223372036854775807 := by omega
    have M1 := Lib.hid m1
    have M2 := Lib.hid m2
    clear m1 m2
    go_region_with (fail)
    all_goals
      go_wp2
      go_ret
      exact ⟨rfl, ⟨by rw [M1.out, M2.out]; exact (h.1.set_ 0 _).set_ 1 _, m3, m4⟩, (((Touch.refl g none w).set_ 0 _).set_ 1 _).drewN 1⟩
theorem Last_any (w : World) (g l t : Nat) (h : Gv w g l t) : Calls Try.prog 34 #[.pointer (some ⟨g, 0, none⟩)] w fun e w' => e = .returned (.int .u64 (l : Nat)) ∧ w' = w := by
  have c0 := h.1.cell 0
  simp at c0
  go_enter Try.func34, Try.ntmps34
  go_wp2_with (go_at_call 46; refine (is_any _ g l t h).mono ?_; rintro e w' ⟨rfl, rfl⟩)
  go_ret
  exact ⟨rfl, rfl⟩
theorem Top_any (w : World) (g l t : Nat) (h : Gv w g l t) : Calls Try.prog 35 #[.pointer (some ⟨g, 0, none⟩)] w fun e w' => e = .returned (.int .u64 (t : Nat)) ∧ w' = w := by
  have c0 := h.1.cell 1
  simp at c0
  go_enter Try.func35, Try.ntmps35
  go_wp2_with (go_at_call 46; refine (is_any _ g l t h).mono ?_; rintro e w' ⟨rfl, rfl⟩)
  go_ret
  exact ⟨rfl, rfl⟩
theorem Left_any (w : World) (g l t : Nat) (h : Gv w g l t) : Calls Try.prog 40 #[.pointer (some ⟨g, 0, none⟩)] w fun e w' => e = .returned (.int .u64 ((t - l : Nat) : Int)) ∧ w' = w := by
  have hlt := h.2.1
  have htg := h.2.2
  have e1 : (t : Int) - (l : Int) = ((t - l : Nat) : Int) := by omega
  go_enter Try.func40, Try.ntmps40
  go_wp2_with (first
    | (go_at_call 35; refine (Top_any _ g l t h).mono ?_; rintro e w' ⟨rfl, rfl⟩)
    | (go_at_call 34; refine (Last_any _ g l t h).mono ?_; rintro e w' ⟨rfl, rfl⟩))
  go_ret
  exact ⟨ret_int (by omega), rfl⟩
theorem Bytes_any (w : World) (g l t : Nat) (h : Gv w g l t) : Calls Try.prog 32 #[.pointer (some ⟨g, 0, none⟩)] w fun e w' => ∃ v, e = .returned v ∧ w'.ownsRow w.heap.size 5 1 v (enc t).length (bys (enc t)) ∧ Below w.heap.size w w' := by
  have c1 := h.1.cell 1
  simp at c1
  have htg := h.2.2
  go_enter Try.func32, Try.ntmps32
  go_wp2_with (go_at_call 46; refine (is_any _ g l t h).mono ?_; rintro e w' ⟨rfl, rfl⟩)
  refine (Put_any none 0 0 [] t _ (RB.nil _) (by omega) (by omega)).mono ?_
  rintro e w1 ⟨v, rfl, hO, hB⟩
  go_wp2_with fail
  go_ret
  exact ⟨v, rfl, by simpa using hO, hB⟩
end Go.Proofs.Ytkibglmmncpdaaa
