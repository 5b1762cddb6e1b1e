/- Walks of ids.Read and of its reference, of Among. Conditions: as stated. -/
import Derived.Test.YtkibglmmncpdaaaIdsR
namespace Go.Proofs.Ytkibglmmncpdaaa
open Go.RowKit

/-- These bytes are no giver: c says why. -/
def NoGiver (xs : List Int) (c : Int) : Prop :=
  (rres 0 xs = (0, 0, c) ∧ (c = 7 ∨ c = 10)) ∨ (∃ n k, rres 0 xs = (n, k, 0) ∧ n < 18446744073709551616 ∧ k < xs.length ∧ c = 10) ∨ (∃ n, rres 0 xs = (n, xs.length, 0) ∧ 9223372036854775807 < n ∧ n < 18446744073709551616 ∧ c = 2)
/-- They are the giver with the top t. -/
def IsGiver (xs : List Int) (t : Nat) : Prop := rres 0 xs = (t, xs.length, 0) ∧ t ≤ 9223372036854775807

theorem giver_cases {xs : List Int} (hb : ∀ x ∈ xs, Byte x) : (∃ c, NoGiver xs c) ∨ ∃ t, IsGiver xs t := by
  rcases rres_cases 0 hb with h | h | ⟨n, k, h, h1, h2, h3, h4, h5⟩
  · exact .inl ⟨7, .inl ⟨h, .inl rfl⟩⟩
  · exact .inl ⟨10, .inl ⟨h, .inr rfl⟩⟩
  · rw [Nat.zero_add] at h
    rcases Nat.eq_or_lt_of_le h5 with e | e
    · rw [e] at h
      rcases Nat.lt_or_ge 9223372036854775807 n with hn | hn
      · exact .inl ⟨2, .inr (.inr ⟨n, h, hn, h1, rfl⟩)⟩
      · exact .inr ⟨n, h, hn⟩
    · exact .inl ⟨10, .inr (.inl ⟨n, k, h, h1, e, rfl⟩)⟩
theorem NoGiver.ne {xs : List Int} {c : Int} (h : NoGiver xs c) : c = 7 ∨ c = 10 ∨ c = 2 := by
  rcases h with ⟨_, h | h⟩ | ⟨_, _, _, _, _, h⟩ | ⟨_, _, _, _, h⟩ <;> simp [h]

theorem IdsRead_bad (A : Option Addr) (n c : Nat) (xs : List Int) (w : World) (k : Int) (hR : RB w A n c xs) (hn : n ≤ 1000000) (hb : ∀ x ∈ xs, Byte x) (hN : NoGiver xs k) :
    Calls Try.prog 31 #[.slice A n c] w fun e w' => e = .returned (.tuple #[.pointer none, .int .i64 k]) ∧ w = w' := by
  have hr := fun W (h : RB W A n c xs) => read_any A n c xs 0 W h (by omega) (by omega) hb
  rw [List.drop_zero] at hr
  have hlen : xs.length = n := hR.1
  have hcl : n ≤ c := hR.2.1
  have hcm : c ≤ 9223372036854775807 := hR.2.2.1
  rcases hN with ⟨h, hc⟩ | ⟨m, q, h, hm, hq, rfl⟩ | ⟨m, h, hm, hm2, rfl⟩
  · simp only [h] at hr
    clear h hb hlen
    rcases hc with rfl | rfl
    all_goals
      go_enter Try.func31, Try.ntmps31
      go_wp2_with (first | (go_at_call 21; refine (hr _ hR).mono ?_; rintro e w' ⟨rfl, rfl⟩))
      go_ret2
      exact ⟨rfl, rfl⟩
  · simp only [h] at hr
    rw [hlen] at hq
    clear h hb hlen
    go_enter Try.func31, Try.ntmps31
    go_wp2_with (first | (go_at_call 21; refine (hr _ hR).mono ?_; rintro e w' ⟨rfl, rfl⟩))
    go_ret2
    exact ⟨rfl, rfl⟩
  · simp only [h] at hr
    rw [hlen] at hr
    clear h hb hlen
    go_enter Try.func31, Try.ntmps31
    go_wp2_with (first | (go_at_call 21; refine (hr _ hR).mono ?_; rintro e w' ⟨rfl, rfl⟩) | (go_at_call 26; refine (New_bad m _ hm).mono ?_; rintro e w' ⟨rfl, rfl⟩))
    go_ret2
    exact ⟨rfl, rfl⟩
theorem IdsRead_good (A : Option Addr) (n c : Nat) (xs : List Int) (w : World) (t : Nat) (hR : RB w A n c xs) (hn : n ≤ 1000000) (hb : ∀ x ∈ xs, Byte x) (hN : IsGiver xs t) :
    Calls Try.prog 31 #[.slice A n c] w fun e w' => e = .returned (.tuple #[.pointer (some ⟨w.heap.size, 0, none⟩), .int .i64 0]) ∧ Gv w' w.heap.size t t ∧ Below w.heap.size w w' := by
  have hr := fun W (h : RB W A n c xs) => read_any A n c xs 0 W h (by omega) (by omega) hb
  rw [List.drop_zero] at hr
  have hlen : xs.length = n := hR.1
  have hcl : n ≤ c := hR.2.1
  have hcm : c ≤ 9223372036854775807 := hR.2.2.1
  obtain ⟨h, ht⟩ := hN
  simp only [h] at hr
  rw [hlen] at hr
  clear h hb hlen
  go_enter Try.func31, Try.ntmps31
  go_wp2_with (first | (go_at_call 21; refine (hr _ hR).mono ?_; rintro e w' ⟨rfl, rfl⟩))
  refine (New_good t _ ht).mono ?_
  rintro e w' ⟨rfl, hG, hB⟩
  go_wp2_with fail
  go_ret2
  exact ⟨rfl, hG, hB⟩
theorem refIdsRead_bad (A : Option Addr) (n c : Nat) (xs : List Int) (w : World) (k : Int) (hR : RB w A n c xs) (hn : n ≤ 1000000) (hb : ∀ x ∈ xs, Byte x) (hN : NoGiver xs k) :
    Calls Try.prog 33 #[.slice A n c] w fun e w' => e = .returned (.tuple #[.pointer none, .int .i64 k]) ∧ w = w' := by
  have hr := fun W (h : RB W A n c xs) => refRead_any A n c xs W h (by omega) hb
  have hlen : xs.length = n := hR.1
  have hcl : n ≤ c := hR.2.1
  have hcm : c ≤ 9223372036854775807 := hR.2.2.1
  rcases hN with ⟨h, hc⟩ | ⟨m, q, h, hm, hq, rfl⟩ | ⟨m, h, hm, hm2, rfl⟩
  · simp only [h] at hr
    clear h hb hlen
    rcases hc with rfl | rfl
    all_goals
      go_enter Try.func33, Try.ntmps33
      go_wp2_with (first | (go_at_call 48; refine (hr _ hR).mono ?_; rintro e w' ⟨rfl, rfl⟩))
      go_ret2
      exact ⟨rfl, rfl⟩
  · simp only [h] at hr
    rw [hlen] at hq
    clear h hb hlen
    go_enter Try.func33, Try.ntmps33
    go_wp2_with (first | (go_at_call 48; refine (hr _ hR).mono ?_; rintro e w' ⟨rfl, rfl⟩))
    go_ret2
    exact ⟨rfl, rfl⟩
  · simp only [h] at hr
    rw [hlen] at hr
    clear h hb hlen
    go_enter Try.func33, Try.ntmps33
    go_wp2_with (first | (go_at_call 48; refine (hr _ hR).mono ?_; rintro e w' ⟨rfl, rfl⟩) | (go_at_call 36; refine (refNew_bad m _ hm).mono ?_; rintro e w' ⟨rfl, rfl⟩))
    go_ret2
    exact ⟨rfl, rfl⟩
theorem refIdsRead_good (A : Option Addr) (n c : Nat) (xs : List Int) (w : World) (t : Nat) (hR : RB w A n c xs) (hn : n ≤ 1000000) (hb : ∀ x ∈ xs, Byte x) (hN : IsGiver xs t) :
    Calls Try.prog 33 #[.slice A n c] w fun e w' => e = .returned (.tuple #[.pointer (some ⟨w.heap.size, 0, none⟩), .int .i64 0]) ∧ Gr w' w.heap.size t t ∧ Below w.heap.size w w' := by
  have hr := fun W (h : RB W A n c xs) => refRead_any A n c xs W h (by omega) hb
  have hlen : xs.length = n := hR.1
  have hcl : n ≤ c := hR.2.1
  have hcm : c ≤ 9223372036854775807 := hR.2.2.1
  obtain ⟨h, ht⟩ := hN
  simp only [h] at hr
  rw [hlen] at hr
  clear h hb hlen
  go_enter Try.func33, Try.ntmps33
  go_wp2_with (first | (go_at_call 48; refine (hr _ hR).mono ?_; rintro e w' ⟨rfl, rfl⟩))
  refine (refNew_good t _ ht).mono ?_
  rintro e w' ⟨rfl, hG, hB⟩
  go_wp2_with fail
  go_ret2
  exact ⟨rfl, hG, hB⟩

/-- A number as one of m numbers. -/
def amo (x : Int) (m : Nat) : Nat := ((IntKind.u64.wrap x).tmod m).toNat
theorem amo_eq (x : Int) {m : Nat} (h : 0 < m) : (IntKind.u64.wrap x).tmod m = ((amo x m : Nat) : Int) ∧ amo x m < m := by
  have h4 : (0 : Int) ≤ IntKind.u64.wrap x := by rw [IntKind.wrap_u64]; omega
  have h5 := Int.tmod_eq_emod_of_nonneg (b := (m : Int)) h4
  have := Int.emod_lt_of_pos (IntKind.u64.wrap x) (show (0 : Int) < m by omega)
  have := Int.emod_nonneg (IntKind.u64.wrap x) (show (m : Int) ≠ 0 by omega)
  unfold amo
  rw [h5]
  omega
theorem amo_lt (x : Int) {m : Nat} (h : 0 < m) : amo x m < m := (amo_eq x h).2
theorem among_any (x : Int) (m : Nat) (w : World) (h1 : 1 ≤ m) (h2 : m ≤ 1000000) :
    Calls Try.prog 27 #[.int .i64 x, .int .i64 m] w fun e w' => e = .returned (.int .i64 (amo x m)) ∧ w' = w := by
  have h3 : IntKind.u64.wrap (m : Int) = m := by rw [IntKind.wrap_u64]; omega
  obtain ⟨e1, hlt⟩ := amo_eq x (show 0 < m by omega)
  have e2 : wrap64 ((amo x m : Nat) : Int) = ((amo x m : Nat) : Int) := by unfold wrap64; omega
  go_enter Try.func27, Try.ntmps27
  go_wp2
  go_ret
  exact ⟨rfl, rfl⟩
end Go.Proofs.Ytkibglmmncpdaaa
