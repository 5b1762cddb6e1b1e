/- Walks of small helpers of the bits' laws. Conditions: as stated. -/
import Derived.Test.YtlgndfckmnninaaDoorRdrX
import Derived.Test.YtlgndfckmnninaaDoorRefB
namespace Go.Proofs.YtlgndfckmnninaaDoor
open Go.RowKit

theorem refGet_any (w : World) (g : Nat) (R : Option Nat) (bs : List Int) (p : Nat) (n : Int) (h : Rr w g R bs p) (hbs : ∀ x ∈ bs, Byte x) :
    Calls Tryd.prog 33 #[.pointer (some ⟨g, 0, none⟩), .int .i64 n] w fun e w' =>
      e = .returned (.tuple #[.int .u64 ((getVal bs p n : Nat) : Int), .int .i64 (getCode bs.length p n)]) ∧ Rr w' g R bs (getAt bs.length p n) ∧ Touch g none w w' := by
  rcases getCode_cases bs.length p n with ⟨h1, h2⟩ | ⟨h1, h2⟩ | ⟨N, rfl, h3, h4, h2⟩ | ⟨N, rfl, h3, h4, h2⟩
  · rw [getVal_bad (by omega), getAt_bad (by omega), h2]
    clear h2
    have d1 : decide (n < 0) = true := by simp [h1]
    go_enter Tryd.func33, Tryd.ntmps33
    go_wp2
    go_ret2
    exact ⟨rfl, h, Touch.refl g none _⟩
  · rw [getVal_bad (by omega), getAt_bad (by omega), h2]
    clear h2
    go_enter Tryd.func33, Tryd.ntmps33
    go_wp2
    go_ret2
    exact ⟨rfl, h, Touch.refl g none _⟩
  · have hpl := h.place
    rw [getVal_bad (by omega), getAt_bad (by omega), h2]
    clear h2
    obtain ⟨A, N', c, hg, hr, hR, hne, hp, hN⟩ := id h
    obtain rfl : bs.length = N' := hr.1
    have c0 := hg.cell 0
    have c1 := hg.cell 1
    simp at c0 c1
    have hle : (8 * (bs.length : Int) - (p : Int)) < (N : Int) := by omega
    have hd : decide ((8 * (bs.length : Int) - (p : Int)) < (N : Int)) = true := decide_eq_true hle
    go_enter Tryd.func33, Tryd.ntmps33
    go_wp2
    go_quiet (fail)
    go_wp2
    go_ret2
    exact ⟨rfl, h.drewN nq, (Touch.refl g none _).drewN nq⟩
  · rw [h2, getVal_good h2, getAt_good h2]
    exact refGet_nat w g R bs p N h h3 h4 hbs

theorem bytes_any (A : Option Addr) (n c : Nat) (xs : List Int) (w : World) (h : RB w A n c xs) (hn : n ≤ 1000000) :
    Calls Tryd.prog 41 #[.slice A n c] w fun e w' => ∃ v, e = .returned v ∧ w'.ownsRow w.heap.size 5 1 v n (bys xs) ∧ Below w.heap.size w w' := by
  have hB : Below w.heap.size w (w.alloc (.cells #[] 5)) := (Below.refl _ _).alloc (Nat.le_refl _) _
  have hR := h.below hB
  have hO := World.ownsRow_made (base := w.heap.size) (e := 5) (size := 1) w #[] 0 (Nat.le_refl _) (by simp [maxLen]) (by simp)
  go_enter Tryd.func41, Tryd.ntmps41
  go_wp2_with (at_builtin; refine app_row w.heap.size rfl _ _ _ 5 rfl Tryd.underlying43 Tryd.info5 _ 0 [] xs A n c rfl rfl hO hR hB (by simp) (by omega) ?_; intro v1 w1 hown1 hB1 hz1)
  go_ret
  exact ⟨v1, rfl, by simpa using hown1, hB1⟩

theorem same_any (A A' : Option Addr) (n c n' c' : Nat) (xs : List Int) (w : World) (h : RB w A n c xs) (h' : RB w A' n' c' xs) :
    Calls Tryd.prog 22 #[.slice A n c, .slice A' n' c'] w fun e w' => e = .returned (.bool true) ∧ w' = w := by
  have k1 := h.string (P := Tryd.prog) (src := 43) (dst := 9) Tryd.underlying43 Tryd.underlying5 Tryd.underlying9
  have k2 := h'.string (P := Tryd.prog) (src := 43) (dst := 9) Tryd.underlying43 Tryd.underlying5 Tryd.underlying9
  go_enter Tryd.func22, Tryd.ntmps22
  go_wp2
  go_ret
  exact ⟨rfl, rfl⟩

/-- A number as one of m numbers. -/
def amo (x : Int) (m : Nat) : Nat := ((IntKind.u64.wrap x).tmod m).toNat
theorem amo_eq (x : Int) {m : Nat} (h : 0 < m) : (IntKind.u64.wrap x).tmod m = ((amo x m : Nat) : Int) ∧ amo x m < m := by
  have h4 : (0 : Int) ≤ IntKind.u64.wrap x := by rw [IntKind.wrap_u64]; omega
  have h5 := Int.tmod_eq_emod_of_nonneg (b := (m : Int)) h4
  have := Int.emod_lt_of_pos (IntKind.u64.wrap x) (show (0 : Int) < m by omega)
  have := Int.emod_nonneg (IntKind.u64.wrap x) (show (m : Int) ≠ 0 by omega)
  unfold amo
  rw [h5]
  omega
theorem amo_lt (x : Int) {m : Nat} (h : 0 < m) : amo x m < m := (amo_eq x h).2
theorem among_any (x : Int) (m : Nat) (w : World) (h1 : 1 ≤ m) (h2 : m ≤ 1000000) :
    Calls Tryd.prog 15 #[.int .i64 x, .int .i64 m] w fun e w' => e = .returned (.int .i64 (amo x m)) ∧ w' = w := by
  have h3 : IntKind.u64.wrap (m : Int) = m := by rw [IntKind.wrap_u64]; omega
  obtain ⟨e1, hlt⟩ := amo_eq x (show 0 < m by omega)
  have e2 : wrap64 ((amo x m : Nat) : Int) = ((amo x m : Nat) : Int) := by unfold wrap64; omega
  go_enter Tryd.func15, Tryd.ntmps15
  go_wp2
  go_ret
  exact ⟨rfl, rfl⟩

theorem byte_of_wf {x : Int} (h : (Lit.int .u8 x).wf = true) : Byte x := by
  simp [Lit.wf, IntKind.min, IntKind.max, IntKind.signed, IntKind.bits] at h
  unfold Byte
  omega


end Go.Proofs.YtlgndfckmnninaaDoor
