/- Walks of package bits: the reader. Conditions: as stated. -/
import Derived.Test.YtlgndfckmnninaaDoorBitsP
namespace Go.Proofs.YtlgndfckmnninaaDoor
open Go.RowKit

/-- A reader of bits: block g; R: the block that holds its bytes, if there is one; p: its place. -/
def Rd (w : World) (base g : Nat) (R : Option Nat) (bs : List Int) (p : Nat) : Prop :=
  base ≤ g ∧ ∃ A n c, Blk w g 123 #[.slice A n c, .int .i64 (p : Int), .bool true] ∧ RB w A n c bs ∧ A.map (·.block) = R ∧ R ≠ some g ∧ p ≤ 8 * n ∧ n ≤ 1000000

section
variable {w w' : World} {base g g' : Nat} {R B' : Option Nat} {bs : List Int} {p : Nat}
theorem Rd.touch (h : Rd w base g R bs p) (ht : Touch g' B' w w') (h1 : g ≠ g') (h2 : some g ≠ B') (h3 : R ≠ some g') (h4 : R = none ∨ R ≠ B') : Rd w' base g R bs p := by
  obtain ⟨hb, A, n, c, hg, hr, rfl, hne, hp⟩ := h
  refine ⟨hb, A, n, c, hg.touch ht h1 h2, hr.touch ht (fun x hx => ?_), rfl, hne, hp⟩
  subst hx
  simp at h3 h4
  exact ⟨h3, h4⟩
theorem Rd.below (h : Rd w base g R bs p) (hb : Below w.heap.size w w') : Rd w' base g R bs p := by
  obtain ⟨h1, A, n, c, hg, hr, rest⟩ := h
  exact ⟨h1, A, n, c, hg.below hb, hr.below hb, rest⟩
theorem Rd.drewN (h : Rd w base g R bs p) (n : Nat) : Rd (w.drewN n) base g R bs p := h
theorem Rd.lt (h : Rd w base g R bs p) : g < w.heap.size := by
  obtain ⟨_, A, n, c, hg, _⟩ := h
  exact hg.lt
theorem Rd.place (h : Rd w base g R bs p) : p ≤ 8 * bs.length := by
  obtain ⟨_, A, n, c, hg, hr, _, _, hp, _⟩ := h
  have := hr.1
  omega
/-- The place moves on. -/
theorem Rd.set_ (h : Rd w base g R bs p) {q : Nat} (hq : q ≤ 8 * bs.length) : Rd (w.setCell ⟨g, 1, none⟩ (.int .i64 (q : Int))) base g R bs q := by
  obtain ⟨hb, A, n, c, hg, hr, rfl, hne, hp, hn⟩ := h
  refine ⟨hb, A, n, c, hg.set_ 1 _, hr.touch ((Touch.refl g none w).set_ 1 _) (fun x hx => ?_), rfl, hne, by have := hr.1; omega, hn⟩
  subst hx
  simp at hne
  exact ⟨hne, by simp⟩
end

theorem rdIs_any (w : World) (base g : Nat) (R : Option Nat) (bs : List Int) (p : Nat) (h : Rd w base g R bs p) :
    Calls Tryd.prog 71 #[.pointer (some ⟨g, 0, none⟩)] w fun e w' => e = .returned (.bool true) ∧ w = w' := by
  obtain ⟨_, A, n, c, hg, _⟩ := h
  have c2 := hg.cell 2
  simp at c2
  go_enter Tryd.func71, Tryd.ntmps71
  go_wp2
  go_ret
  exact ⟨rfl, rfl⟩

theorem At_any (w : World) (base g : Nat) (R : Option Nat) (bs : List Int) (p : Nat) (h : Rd w base g R bs p) :
    Calls Tryd.prog 36 #[.pointer (some ⟨g, 0, none⟩)] w fun e w' => e = .returned (.int .i64 (p : Int)) ∧ w = w' := by
  obtain ⟨_, A, n, c, hg, _⟩ := id h
  have c1 := hg.cell 1
  simp at c1
  go_enter Tryd.func36, Tryd.ntmps36
  go_wp2_with (go_at_call 71; refine (rdIs_any _ base g R bs p h).mono ?_; rintro e w' ⟨rfl, rfl⟩)
  go_ret
  exact ⟨rfl, rfl⟩

theorem Left_any (w : World) (base g : Nat) (R : Option Nat) (bs : List Int) (p : Nat) (h : Rd w base g R bs p) :
    Calls Tryd.prog 72 #[.pointer (some ⟨g, 0, none⟩)] w fun e w' => e = .returned (.int .i64 ((8 * bs.length - p : Nat) : Int)) ∧ ∃ m, w' = w.drewN m := by
  obtain ⟨_, A, n, c, hg, hr, _, _, hp, hn⟩ := id h
  have c0 := hg.cell 0
  have c1 := hg.cell 1
  simp at c0 c1
  have hl : bs.length = n := hr.1
  rw [hl]
  have e1 : (n : Int) * 8 - (p : Int) = ((8 * n - p : Nat) : Int) := by omega
  clear hl
  go_enter Tryd.func72, Tryd.ntmps72
  go_wp2_with (go_at_call 71; refine (rdIs_any _ base g R bs p h).mono ?_; rintro e w' ⟨rfl, rfl⟩)
  go_quiet (fail)
  go_wp2
  go_ret
  exact ⟨rfl, _, rfl⟩

theorem NewReader_any (A : Option Addr) (n c : Nat) (bs : List Int) (w : World) (base : Nat) (h : RB w A n c bs) (hn : n ≤ 1000000) (hb : base ≤ w.heap.size) :
    Calls Tryd.prog 31 #[.slice A n c] w fun e w' => ∃ g R, e = .returned (.pointer (some ⟨g, 0, none⟩)) ∧ w.heap.size ≤ g ∧ (∀ k, R = some k → w.heap.size ≤ k ∧ k < w'.heap.size) ∧ Rd w' base g R bs 0 ∧ Below w.heap.size w w' := by
  have hBl : Below w.heap.size w (w.alloc (.cells #[] 5)) := (Below.refl _ _).alloc (Nat.le_refl _) _
  have hR := h.below hBl
  have hO := World.ownsRow_made (base := w.heap.size) (e := 5) (size := 1) w #[] 0 (Nat.le_refl _) (by simp [maxLen]) (by simp)
  go_enter Tryd.func31, Tryd.ntmps31
  go_wp2_with (at_builtin; refine app_row w.heap.size rfl _ _ _ 5 rfl Tryd.underlying43 Tryd.info5 _ 0 [] bs A n c rfl rfl hO hR hBl (by simp) (by omega) ?_; intro v1 w1 hown1 hB1 hz1; have hfm := RB.of_own hown1; obtain ⟨A1, c1, rfl, hR1⟩ := hfm)
  rw [List.nil_append] at hR1 hown1
  rw [Nat.zero_add] at hR1 hown1
  have hB2 : Below w1.heap.size w1 (w1.alloc (.cells #[.slice A1 n c1, .int .i64 0, .bool true] 123)) := (Below.refl _ _).alloc (Nat.le_refl _) _
  have hrow : ∀ k, A1.map (·.block) = some k → w.heap.size ≤ k ∧ k < w1.heap.size := fun k hk => by
    cases A1 with
    | none => cases hk
    | some x => exact hown1.lt k (by simpa [Value.ownBlock] using hk)
  go_ret
  refine ⟨w1.heap.size, A1.map (·.block), by simp, hz1, fun k hk => ⟨(hrow k hk).1, by have := (hrow k hk).2; simp; omega⟩, ⟨by omega, A1, n, c1, by simpa using Blk.new w1 _ _, hR1.below hB2, rfl, ?_, by omega, hn⟩, ?_⟩
  · intro hk
    have := (hrow _ hk).2
    omega
  · have := below_more hB1 hB2
    simpa using this
end Go.Proofs.YtlgndfckmnninaaDoor
