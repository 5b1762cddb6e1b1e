/- Walks of package stamp: states. Conditions: as stated. -/
import Derived.Test.YtlgndfckmnninaaDoorStampW
namespace Go.Proofs.YtlgndfckmnninaaDoor
open Go.RowKit

theorem in_yes (n m : Int) (w : World) (h1 : 0 ≤ n) (h2 : n ≤ m) :
    Calls Tryd.prog 77 #[.int .i64 n, .int .i64 m] w fun e w' => e = .returned (.bool true) ∧ w' = w := by
  go_enter Tryd.func77, Tryd.ntmps77
  go_wp2
  go_ret
  exact ⟨rfl, rfl⟩
theorem in_no (n m : Int) (w : World) (h : ¬ (0 ≤ n ∧ n ≤ m)) :
    Calls Tryd.prog 77 #[.int .i64 n, .int .i64 m] w fun e w' => e = .returned (.bool false) ∧ w' = w := by
  by_cases h1 : 0 ≤ n
  · have h2 : ¬ n ≤ m := fun h2 => h ⟨h1, h2⟩
    clear h
    go_enter Tryd.func77, Tryd.ntmps77
    go_wp2
    go_ret
    exact ⟨rfl, rfl⟩
  · clear h
    go_enter Tryd.func77, Tryd.ntmps77
    go_wp2
    go_ret
    exact ⟨rfl, rfl⟩

theorem right_yes (N L D : Int) (w : World) (h : rightS N L D = true) :
    Calls Tryd.prog 53 #[.agg #[.int .i64 N, .int .i64 L, .int .i64 D]] w fun e w' => e = .returned (.bool true) ∧ Below w.heap.size w w' := by
  obtain ⟨a1, a2, a3, a4, a5, a6⟩ := rightS_of h
  clear h
  go_enter Tryd.func53, Tryd.ntmps53
  go_wp2_with fail
  refine (in_yes N 4096 _ a1 a2).mono ?_
  rintro e w' ⟨rfl, rfl⟩
  go_wp2_with fail
  refine (in_yes L 35184372088832 _ a3 a4).mono ?_
  rintro e w' ⟨rfl, rfl⟩
  go_wp2_with fail
  refine (in_yes D 35184372088832 _ a5 a6).mono ?_
  rintro e w' ⟨rfl, rfl⟩
  go_wp2_with fail
  go_ret
  exact ⟨rfl, (Below.refl _ _).alloc (Nat.le_refl _) _⟩

theorem right_no (N L D : Int) (w : World) (h : rightS N L D = false) :
    Calls Tryd.prog 53 #[.agg #[.int .i64 N, .int .i64 L, .int .i64 D]] w fun e w' => e = .returned (.bool false) ∧ Below w.heap.size w w' := by
  have h := rightS_no h
  by_cases h1 : 0 ≤ N ∧ N ≤ 4096
  · obtain ⟨a1, a2⟩ := h1
    by_cases h2 : 0 ≤ L ∧ L ≤ 35184372088832
    · obtain ⟨a3, a4⟩ := h2
      have h3 : ¬ (0 ≤ D ∧ D ≤ 35184372088832) := fun h3 => h ⟨a1, a2, a3, a4, h3.1, h3.2⟩
      have H3 := Lib.hid h3
      clear h h3
      go_enter Tryd.func53, Tryd.ntmps53
      go_wp2_with fail
      refine (in_yes N 4096 _ a1 a2).mono ?_
      rintro e w' ⟨rfl, rfl⟩
      go_wp2_with fail
      refine (in_yes L 35184372088832 _ a3 a4).mono ?_
      rintro e w' ⟨rfl, rfl⟩
      go_wp2_with fail
      refine (in_no D 35184372088832 _ H3.out).mono ?_
      rintro e w' ⟨rfl, rfl⟩
      go_wp2_with fail
      go_ret
      exact ⟨rfl, (Below.refl _ _).alloc (Nat.le_refl _) _⟩
    · have H2 := Lib.hid h2
      clear h h2
      go_enter Tryd.func53, Tryd.ntmps53
      go_wp2_with fail
      refine (in_yes N 4096 _ a1 a2).mono ?_
      rintro e w' ⟨rfl, rfl⟩
      go_wp2_with fail
      refine (in_no L 35184372088832 _ H2.out).mono ?_
      rintro e w' ⟨rfl, rfl⟩
      go_wp2_with fail
      go_ret
      exact ⟨rfl, (Below.refl _ _).alloc (Nat.le_refl _) _⟩
  · have H1 := Lib.hid h1
    clear h h1
    go_enter Tryd.func53, Tryd.ntmps53
    go_wp2_with fail
    refine (in_no N 4096 _ H1.out).mono ?_
    rintro e w' ⟨rfl, rfl⟩
    go_wp2_with fail
    go_ret
    exact ⟨rfl, (Below.refl _ _).alloc (Nat.le_refl _) _⟩

theorem below2 (w : World) (a b : Obj) : Below w.heap.size w ((w.alloc a).alloc b) := ((Below.refl _ w).alloc (Nat.le_refl _) a).alloc (by simp) b

theorem next_no (N L D t : Int) (w : World) (h : nextS N L t = false) :
    Calls Tryd.prog 52 #[.agg #[.int .i64 N, .int .i64 L, .int .i64 D], .int .i64 t] w fun e w' => e = .returned (.tuple #[.agg #[.int .i64 0, .int .i64 0, .int .i64 0], .bool false]) ∧ Below w.heap.size w w' := by
  have h := nextS_no h
  by_cases h1 : t < 0
  · clear h
    go_enter Tryd.func52, Tryd.ntmps52
    go_wp2
    refine bodyPost_ret (v := .tuple #[.agg #[.int .i64 0, .int .i64 0, .int .i64 0], .bool false]) (by simp [results, Tryd.results52, go_sem]) rfl ⟨rfl, ?_⟩
    exact below2 _ _ _
  · by_cases h2 : 35184372088832 < t
    · clear h
      go_enter Tryd.func52, Tryd.ntmps52
      go_wp2
      refine bodyPost_ret (v := .tuple #[.agg #[.int .i64 0, .int .i64 0, .int .i64 0], .bool false]) (by simp [results, Tryd.results52, go_sem]) rfl ⟨rfl, ?_⟩
      exact below2 _ _ _
    · have h3 : N ≠ 0 := fun e => h ⟨by omega, by omega, .inl e⟩
      have h4 : t ≤ L := Int.not_lt.1 fun e => h ⟨by omega, by omega, .inr e⟩
      have h5 : (N == 0) = false := beq_eq_false_iff_ne.2 h3
      clear h h3
      go_enter Tryd.func52, Tryd.ntmps52
      go_wp2
      refine bodyPost_ret (v := .tuple #[.agg #[.int .i64 0, .int .i64 0, .int .i64 0], .bool false]) (by simp [results, Tryd.results52, go_sem]) rfl ⟨rfl, ?_⟩
      exact below2 _ _ _

theorem next_yes (N L D t : Int) (w : World) (h : nextS N L t = true) (hr : rightS N L D = true) :
    Calls Tryd.prog 52 #[.agg #[.int .i64 N, .int .i64 L, .int .i64 D], .int .i64 t] w fun e w' => e = .returned (.tuple #[.agg #[.int .i64 (N + 1), .int .i64 t, .int .i64 (difS N L t)], .bool true]) ∧ Below w.heap.size w w' := by
  obtain ⟨a1, a2, a3⟩ := nextS_of h
  obtain ⟨b1, b2, b3, b4, _, _⟩ := rightS_of hr
  clear h hr
  by_cases h3 : N = 0
  · subst h3
    clear a3
    go_enter Tryd.func52, Tryd.ntmps52
    go_wp2
    refine bodyPost_ret (v := .tuple #[.agg #[.int .i64 1, .int .i64 t, .int .i64 0], .bool true]) (by simp [results, Tryd.results52, go_sem]) rfl ⟨rfl, ?_⟩
    exact below2 _ _ _
  · have h4 : L < t := by omega
    have h5 : (N == 0) = false := beq_eq_false_iff_ne.2 h3
    have hd : difS N L t = t - L := if_neg h3
    rw [hd]
    clear a3 hd h3
    go_enter Tryd.func52, Tryd.ntmps52
    go_wp2
    refine bodyPost_ret (v := .tuple #[.agg #[.int .i64 (N + 1), .int .i64 t, .int .i64 (t - L)], .bool true]) (by simp [results, Tryd.results52, go_sem]) rfl ⟨rfl, ?_⟩
    exact below2 _ _ _

/-- .. of a state that may not be: whatever it is. -/
theorem next_odd (N L D t : Int) (w : World) (h : nextS N L t = true) :
    Calls Tryd.prog 52 #[.agg #[.int .i64 N, .int .i64 L, .int .i64 D], .int .i64 t] w fun e w' => (∃ x z, e = .returned (.tuple #[.agg #[.int .i64 x, .int .i64 t, .int .i64 z], .bool true])) ∧ Below w.heap.size w w' := by
  obtain ⟨a1, a2, a3⟩ := nextS_of h
  clear h
  by_cases h3 : N = 0
  · subst h3
    clear a3
    go_enter Tryd.func52, Tryd.ntmps52
    go_wp2
    refine bodyPost_ret (v := .tuple #[.agg #[.int .i64 1, .int .i64 t, .int .i64 0], .bool true]) (by simp [results, Tryd.results52, go_sem]) rfl ⟨⟨_, _, rfl⟩, ?_⟩
    exact below2 _ _ _
  · have h4 : L < t := by omega
    have h5 : (N == 0) = false := beq_eq_false_iff_ne.2 h3
    clear a3 h3
    go_enter Tryd.func52, Tryd.ntmps52
    go_wp2
    refine bodyPost_ret (v := .tuple #[.agg #[.int .i64 (wrap64 (N + 1)), .int .i64 t, .int .i64 (wrap64 (t - L))], .bool true]) (by simp [results, Tryd.results52, go_sem]) rfl ⟨⟨_, _, rfl⟩, ?_⟩
    exact below2 _ _ _

theorem done_yes (N L D : Int) (w : World) :
    Calls Tryd.prog 54 #[.agg #[.int .i64 N, .int .i64 L, .int .i64 D], .int .i64 0] w fun e w' => e = .returned (.tuple #[.agg #[.int .i64 N, .int .i64 L, .int .i64 D], .int .i64 0]) ∧ Below w.heap.size w w' := by
  go_enter Tryd.func54, Tryd.ntmps54
  go_wp2
  refine bodyPost_ret (v := .tuple #[.agg #[.int .i64 N, .int .i64 L, .int .i64 D], .int .i64 0]) (by simp [results, Tryd.results54, go_sem]) rfl ⟨rfl, ?_⟩
  exact below2 _ _ _

theorem refRight_yes (N L D : Int) (w : World) (h : rightS N L D = true) :
    Calls Tryd.prog 60 #[.agg #[.int .i64 N, .int .i64 L, .int .i64 D]] w fun e w' => e = .returned (.bool true) ∧ Below w.heap.size w w' := by
  obtain ⟨a1, a2, a3, a4, a5, a6⟩ := rightS_of h
  clear h
  go_enter Tryd.func60, Tryd.ntmps60
  go_wp2
  go_ret
  exact ⟨rfl, (Below.refl _ _).alloc (Nat.le_refl _) _⟩
theorem refRight_no (N L D : Int) (w : World) (h : rightS N L D = false) :
    Calls Tryd.prog 60 #[.agg #[.int .i64 N, .int .i64 L, .int .i64 D]] w fun e w' => e = .returned (.bool false) ∧ Below w.heap.size w w' := by
  have h := rightS_no h
  have hc : N < 0 ∨ (0 ≤ N ∧ 4096 < N) ∨ (0 ≤ N ∧ N ≤ 4096 ∧ D < 0) ∨ (0 ≤ N ∧ N ≤ 4096 ∧ 0 ≤ D ∧ 35184372088832 < D) ∨ (0 ≤ N ∧ N ≤ 4096 ∧ 0 ≤ D ∧ D ≤ 35184372088832 ∧ L < 0) ∨ (0 ≤ N ∧ N ≤ 4096 ∧ 0 ≤ D ∧ D ≤ 35184372088832 ∧ 0 ≤ L ∧ 35184372088832 < L) := by omega
  clear h
  rcases hc with h1 | ⟨h1, h2⟩ | ⟨h1, h2, h3⟩ | ⟨h1, h2, h3, h4⟩ | ⟨h1, h2, h3, h4, h5⟩ | ⟨h1, h2, h3, h4, h5, h6⟩
  rotate_left 5
  · have d := decide_eq_false (Int.not_le.2 h6)
    go_enter Tryd.func60, Tryd.ntmps60
    go_wp2
    go_ret
    exact ⟨rfl, (Below.refl _ _).alloc (Nat.le_refl _) _⟩
  all_goals
    go_enter Tryd.func60, Tryd.ntmps60
    go_wp2
    go_ret
    exact ⟨rfl, (Below.refl _ _).alloc (Nat.le_refl _) _⟩
theorem class0 (w : World) :
    Calls Tryd.prog 61 #[.int .u64 0] w fun e w' => e = .returned (.tuple #[.int .i64 0, .int .i64 0]) ∧ w' = w := by
  go_enter Tryd.func61, Tryd.ntmps61
  go_wp2
  go_ret2
  exact ⟨rfl, rfl⟩
theorem class1 (z : Int) (w : World) (h1 : 1 ≤ z) (h2 : z < 128) :
    Calls Tryd.prog 61 #[.int .u64 z] w fun e w' => e = .returned (.tuple #[.int .i64 1, .int .i64 7]) ∧ w' = w := by
  have g3 : (z == 0) = false := beq_eq_false_iff_ne.2 (by omega)
  go_enter Tryd.func61, Tryd.ntmps61
  go_wp2
  go_ret2
  exact ⟨rfl, rfl⟩
theorem class2 (z : Int) (w : World) (h1 : 128 ≤ z) (h2 : z < 4096) :
    Calls Tryd.prog 61 #[.int .u64 z] w fun e w' => e = .returned (.tuple #[.int .i64 2, .int .i64 12]) ∧ w' = w := by
  have g3 : (z == 0) = false := beq_eq_false_iff_ne.2 (by omega)
  go_enter Tryd.func61, Tryd.ntmps61
  go_wp2
  go_ret2
  exact ⟨rfl, rfl⟩
theorem class3 (z : Int) (w : World) (h1 : 4096 ≤ z) (h2 : z < 1048576) :
    Calls Tryd.prog 61 #[.int .u64 z] w fun e w' => e = .returned (.tuple #[.int .i64 3, .int .i64 20]) ∧ w' = w := by
  have g3 : (z == 0) = false := beq_eq_false_iff_ne.2 (by omega)
  go_enter Tryd.func61, Tryd.ntmps61
  go_wp2
  go_ret2
  exact ⟨rfl, rfl⟩
theorem class4 (z : Int) (w : World) (h1 : 1048576 ≤ z) :
    Calls Tryd.prog 61 #[.int .u64 z] w fun e w' => e = .returned (.tuple #[.int .i64 4, .int .i64 48]) ∧ w' = w := by
  have g3 : (z == 0) = false := beq_eq_false_iff_ne.2 (by omega)
  go_enter Tryd.func61, Tryd.ntmps61
  go_wp2
  go_ret2
  exact ⟨rfl, rfl⟩
theorem class_any (z : Nat) (w : World) (hz : z < 281474976710656) :
    Calls Tryd.prog 61 #[.int .u64 z] w fun e w' => e = .returned (.tuple #[.int .i64 (ofc z : Nat), .int .i64 (wid (ofc z) : Nat)]) ∧ w' = w := by
  obtain ⟨h0, h1, h2, h3, h4, h5⟩ := ofc_iff z
  have h6 := ofc_lt z hz
  have hc : ofc z = 0 ∨ ofc z = 1 ∨ ofc z = 2 ∨ ofc z = 3 ∨ ofc z = 4 := by omega
  rcases hc with e | e | e | e | e <;> rw [e]
  · obtain rfl := h0.1 e
    exact class0 w
  · obtain ⟨g1, g2⟩ := h1.1 e
    exact class1 z w (by omega) (by omega)
  · obtain ⟨g1, g2⟩ := h2.1 e
    exact class2 z w (by omega) (by omega)
  · obtain ⟨g1, g2⟩ := h3.1 e
    exact class3 z w (by omega) (by omega)
  · obtain ⟨g1, g2⟩ := h4.1 e
    exact class4 z w (by omega)
end Go.Proofs.YtlgndfckmnninaaDoor
