/- Walks of package bits at a writer and a reader that no call made. Conditions: as stated. -/
import Derived.Test.YtlgndfckmnninaaBitsL
namespace Go.Proofs.Ytlgndfckmnninaa
open Go.RowKit

/-- A writer, a reader that no call made. -/
def VdW (w : World) (p : Option Addr) : Prop := p = none ∨ ∃ g, p = some ⟨g, 0, none⟩ ∧ Blk w g 53 #[.slice none 0 0, .int .i64 0, .bool false]
def VdR (w : World) (p : Option Addr) : Prop := p = none ∨ ∃ g, p = some ⟨g, 0, none⟩ ∧ Blk w g 55 #[.slice none 0 0, .int .i64 0, .bool false]

theorem isVdW_any (w : World) (p : Option Addr) (h : VdW w p) : Calls Try.prog 25 #[.pointer p] w fun e w' => e = .returned (.bool false) ∧ w' = w := by
  rcases h with rfl | ⟨g, rfl, hg⟩
  · go_enter Try.func25, Try.ntmps25
    go_wp2
    go_ret
    exact ⟨rfl, rfl⟩
  · have c2 := hg.cell 2
    simp at c2
    go_enter Try.func25, Try.ntmps25
    go_wp2
    go_ret
    exact ⟨rfl, rfl⟩
theorem isVdR_any (w : World) (p : Option Addr) (h : VdR w p) : Calls Try.prog 29 #[.pointer p] w fun e w' => e = .returned (.bool false) ∧ w' = w := by
  rcases h with rfl | ⟨g, rfl, hg⟩
  · go_enter Try.func29, Try.ntmps29
    go_wp2
    go_ret
    exact ⟨rfl, rfl⟩
  · have c2 := hg.cell 2
    simp at c2
    go_enter Try.func29, Try.ntmps29
    go_wp2
    go_ret
    exact ⟨rfl, rfl⟩
theorem PutV_any (w : World) (p : Option Addr) (x n : Int) (h : VdW w p) : Calls Try.prog 10 #[.pointer p, .int .u64 x, .int .i64 n] w fun e w' => e = .returned (.int .i64 1) ∧ w' = w := by
  go_enter Try.func10, Try.ntmps10
  go_wp2_with (go_at_call 25; refine (isVdW_any _ p h).mono ?_; rintro e w' ⟨rfl, rfl⟩)
  go_ret
  exact ⟨rfl, rfl⟩
theorem BytesV_any (w : World) (p : Option Addr) (h : VdW w p) : Calls Try.prog 14 #[.pointer p] w fun e w' => e = .returned (.slice none 0 0) ∧ w' = w := by
  go_enter Try.func14, Try.ntmps14
  go_wp2_with (go_at_call 25; refine (isVdW_any _ p h).mono ?_; rintro e w' ⟨rfl, rfl⟩)
  go_ret
  exact ⟨rfl, rfl⟩
theorem LenV_any (w : World) (p : Option Addr) (h : VdW w p) : Calls Try.prog 12 #[.pointer p] w fun e w' => e = .returned (.int .i64 0) ∧ w' = w := by
  go_enter Try.func12, Try.ntmps12
  go_wp2_with (go_at_call 25; refine (isVdW_any _ p h).mono ?_; rintro e w' ⟨rfl, rfl⟩)
  go_ret
  exact ⟨rfl, rfl⟩
theorem GetV_any (w : World) (p : Option Addr) (n : Int) (h : VdR w p) : Calls Try.prog 20 #[.pointer p, .int .i64 n] w fun e w' => e = .returned (.tuple #[.int .u64 0, .int .i64 1]) ∧ w' = w := by
  go_enter Try.func20, Try.ntmps20
  go_wp2_with (go_at_call 29; refine (isVdR_any _ p h).mono ?_; rintro e w' ⟨rfl, rfl⟩)
  go_ret2
  exact ⟨rfl, rfl⟩
theorem LeftV_any (w : World) (p : Option Addr) (h : VdR w p) : Calls Try.prog 21 #[.pointer p] w fun e w' => e = .returned (.int .i64 0) ∧ w' = w := by
  go_enter Try.func21, Try.ntmps21
  go_wp2_with (go_at_call 29; refine (isVdR_any _ p h).mono ?_; rintro e w' ⟨rfl, rfl⟩)
  go_ret
  exact ⟨rfl, rfl⟩
theorem AtV_any (w : World) (p : Option Addr) (h : VdR w p) : Calls Try.prog 22 #[.pointer p] w fun e w' => e = .returned (.int .i64 0) ∧ w' = w := by
  go_enter Try.func22, Try.ntmps22
  go_wp2_with (go_at_call 29; refine (isVdR_any _ p h).mono ?_; rintro e w' ⟨rfl, rfl⟩)
  go_ret
  exact ⟨rfl, rfl⟩
theorem void_world (w : World) : VdW ((w.alloc (Obj.cells #[Value.slice none 0 0, Value.int IntKind.i64 0, Value.bool false] 53)).alloc (Obj.cells #[Value.slice none 0 0, Value.int IntKind.i64 0, Value.bool false] 55)) none ∧
    VdW ((w.alloc (Obj.cells #[Value.slice none 0 0, Value.int IntKind.i64 0, Value.bool false] 53)).alloc (Obj.cells #[Value.slice none 0 0, Value.int IntKind.i64 0, Value.bool false] 55)) (some ⟨w.heap.size, 0, none⟩) ∧
    VdR ((w.alloc (Obj.cells #[Value.slice none 0 0, Value.int IntKind.i64 0, Value.bool false] 53)).alloc (Obj.cells #[Value.slice none 0 0, Value.int IntKind.i64 0, Value.bool false] 55)) none ∧
    VdR ((w.alloc (Obj.cells #[Value.slice none 0 0, Value.int IntKind.i64 0, Value.bool false] 53)).alloc (Obj.cells #[Value.slice none 0 0, Value.int IntKind.i64 0, Value.bool false] 55)) (some ⟨w.heap.size + 1, 0, none⟩) ∧
    Below w.heap.size w ((w.alloc (Obj.cells #[Value.slice none 0 0, Value.int IntKind.i64 0, Value.bool false] 53)).alloc (Obj.cells #[Value.slice none 0 0, Value.int IntKind.i64 0, Value.bool false] 55)) :=
  ⟨.inl rfl, .inr ⟨_, rfl, (Blk.new w _ _).alloc _⟩, .inl rfl, .inr ⟨_, rfl, by
    have := Blk.new (w.alloc (Obj.cells #[Value.slice none 0 0, Value.int IntKind.i64 0, Value.bool false] 53)) 55 #[Value.slice none 0 0, Value.int IntKind.i64 0, Value.bool false]
    rwa [World.size_alloc] at this⟩, ((Below.refl _ _).alloc (Nat.le_refl _) _).alloc (by simp) _⟩
end Go.Proofs.Ytlgndfckmnninaa
