/- Read of times at every number of times, in the program and in the reference. Conditions: as stated. -/
import Derived.Test.YtlgndfckmnninaaDoorStampL
namespace Go.Proofs.YtlgndfckmnninaaDoor
open Go.RowKit
set_option linter.unusedVariables false

/-- What a Read of n times says, whatever n. -/
def readsI (n : Int) (l : List Bool) : Int × List Int := if n < 0 ∨ 4096 < n then (2, []) else readsS n.toNat l 0 0 0
theorem ansR_code (w w' : World) (C : Int) : AnsR w w' (C, []) (.returned (.tuple #[.slice none 0 0, .int .i64 C])) :=
  ⟨none, 0, rfl, rfl, Nat.le_refl _, by omega, fun h => by simp at h⟩
theorem sRead_out (w : World) (a0 : Option Addr) (len cap : Nat) (n C : Int) (hn : (n < 0 ∨ 4096 < n) ∧ C = 2 ∨ n = 0 ∧ C = 0) :
    Calls Tryd.prog 40 #[.slice a0 len cap, .int .i64 n] w fun e w' => AnsR w w' (C, []) e ∧ Below w.heap.size w w' := by
  have A1 : Below w.heap.size w (((w.alloc (.cells #[.int .i64 n] 3)).alloc (.cells #[.slice none 0 0] 72)).alloc (.cells #[.int .i64 C] 28)) := (((Below.refl _ w).alloc (Nat.le_refl _) _).alloc (by simp) _).alloc (by simp; omega) _
  rcases hn with ⟨hn | hn, rfl⟩ | ⟨rfl, rfl⟩
  · have e1 : decide (n < 0) = true := by simpa using hn
    go_enter Tryd.func40, Tryd.ntmps40
    go_wp2_with fail
    refine bodyPost_ret (v := .tuple #[.slice none 0 0, .int .i64 2]) (by simp [results, Tryd.results40, go_sem]) rfl ?_
    exact ⟨ansR_code _ _ _, A1⟩
  · have e1 : decide (n < 0) = false := by simp; omega
    have e2 : decide (4096 < n) = true := by simpa using hn
    go_enter Tryd.func40, Tryd.ntmps40
    go_wp2_with fail
    refine bodyPost_ret (v := .tuple #[.slice none 0 0, .int .i64 2]) (by simp [results, Tryd.results40, go_sem]) rfl ?_
    exact ⟨ansR_code _ _ _, A1⟩
  · go_enter Tryd.func40, Tryd.ntmps40
    go_wp2_with fail
    refine bodyPost_ret (v := .tuple #[.slice none 0 0, .int .i64 0]) (by simp [results, Tryd.results40, go_sem]) rfl ?_
    exact ⟨ansR_code _ _ _, A1⟩
theorem rRead_out (w : World) (a0 : Option Addr) (len cap : Nat) (n : Int) (hn : n < 0 ∨ 4096 < n) :
    Calls Tryd.prog 42 #[.slice a0 len cap, .int .i64 n] w fun e w' => AnsR w w' (2, []) e ∧ Below w.heap.size w w' := by
  rcases hn with hn | hn
  · have e1 : decide (n < 0) = true := by simpa using hn
    go_enter Tryd.func42, Tryd.ntmps42
    go_wp2_with fail
    go_ret2
    exact ⟨ansR_code _ _ _, Below.refl _ _⟩
  · have e1 : decide (n < 0) = false := by simp; omega
    have e2 : decide (4096 < n) = true := by simpa using hn
    go_enter Tryd.func42, Tryd.ntmps42
    go_wp2_with fail
    go_ret2
    exact ⟨ansR_code _ _ _, Below.refl _ _⟩
theorem sRead_int (w : World) (a0 : Option Addr) (len cap : Nat) (n : Int) (bs : List Int) (hR : RB w a0 len cap bs) (hbs : ∀ x ∈ bs, Byte x) (hle : len ≤ 1000000) (hT : StampTab w) :
    Calls Tryd.prog 40 #[.slice a0 len cap, .int .i64 n] w fun e w' => AnsR w w' (readsI n (unB bs)) e ∧ Below w.heap.size w w' := by
  unfold readsI
  by_cases hn : n < 0 ∨ 4096 < n
  · rw [if_pos hn]; exact sRead_out w a0 len cap n 2 (.inl ⟨hn, rfl⟩)
  · rw [if_neg hn]
    by_cases h0 : n = 0
    · subst h0
      exact sRead_out w a0 len cap 0 0 (.inr ⟨rfl, rfl⟩)
    · obtain ⟨m, rfl⟩ : ∃ m : Nat, n = m := ⟨n.toNat, by omega⟩
      exact sRead_any w a0 len cap m bs hR hbs hle hT (by omega) (by omega)
theorem rRead_int (w : World) (a0 : Option Addr) (len cap : Nat) (n : Int) (bs : List Int) (hR : RB w a0 len cap bs) (hbs : ∀ x ∈ bs, Byte x) (hle : len ≤ 1000000) :
    Calls Tryd.prog 42 #[.slice a0 len cap, .int .i64 n] w fun e w' => AnsR w w' (readsI n (unB bs)) e ∧ Below w.heap.size w w' := by
  unfold readsI
  by_cases hn : n < 0 ∨ 4096 < n
  · rw [if_pos hn]; exact rRead_out w a0 len cap n hn
  · rw [if_neg hn]
    obtain ⟨m, rfl⟩ : ∃ m : Nat, n = m := ⟨n.toNat, by omega⟩
    exact rRead_any w a0 len cap m bs hR hbs hle (by omega)
theorem RI.head {w : World} {A : Option Addr} {n c : Nat} {xs : List Int} (h : RI w A n c xs) {k : Nat} (hk : k ≤ n) : RI w A k c (xs.take k) := by
  obtain ⟨h1, h2, h3, h4⟩ := h
  refine ⟨by simp; omega, by omega, h3, fun hn => ?_⟩
  obtain ⟨b, off, e, hc⟩ := h4 (by omega)
  refine ⟨b, off, e, fun j x hj => hc j x ?_⟩
  rw [List.getElem?_take] at hj
  split at hj
  · exact hj
  · cases hj
/-- The bytes and the code that a Bytes answers. -/
def saidB : Option (List Bool) → List Int × Int
  | some Lb => (pack Lb, 0)
  | none => ([], 60)
/-- What a Bytes answers holds bytes. -/
theorem AnsB.open_ {w w' : World} {o : Option (List Bool)} {e : Ending} (h : AnsB w w' o e) : ∃ A n c xs C, e = .returned (.tuple #[.slice A n c, .int .i64 C]) ∧ RB w' A n c xs ∧ (xs, C) = saidB o := by
  cases o with
  | none => exact ⟨none, 0, 0, [], 60, h, RB.nil _, rfl⟩
  | some Lb =>
    obtain ⟨A, c, e, hR⟩ := h
    exact ⟨A, _, c, _, 0, e, hR, rfl⟩
end Go.Proofs.YtlgndfckmnninaaDoor
