/- Walks of package ids at a giver that no call made. Conditions: as stated. -/
import Derived.Test.YtkibglmmncpdaaaIdsS
namespace Go.Proofs.Ytkibglmmncpdaaa
open Go.RowKit

/-- A giver that no call made. -/
def Vd (w : World) (p : Option Addr) : Prop := p = none ∨ ∃ g, p = some ⟨g, 0, none⟩ ∧ Blk w g 65 #[.int .u64 0, .int .u64 0, .bool false]

theorem isV_any (w : World) (p : Option Addr) (h : Vd w p) : Calls Try.prog 46 #[.pointer p] w fun e w' => e = .returned (.bool false) ∧ w' = w := by
  rcases h with rfl | ⟨g, rfl, hg⟩
  · go_enter Try.func46, Try.ntmps46
    go_wp2
    go_ret
    exact ⟨rfl, rfl⟩
  · have c2 := hg.cell 2
    simp at c2
    go_enter Try.func46, Try.ntmps46
    go_wp2
    go_ret
    exact ⟨rfl, rfl⟩
theorem TakeV_any (w : World) (p : Option Addr) (h : Vd w p) : Calls Try.prog 28 #[.pointer p] w fun e w' => e = .returned (.tuple #[.int .u64 0, .int .i64 1]) ∧ w' = w := by
  go_enter Try.func28, Try.ntmps28
  go_wp2_with (go_at_call 46; refine (isV_any _ p h).mono ?_; rintro e w' ⟨rfl, rfl⟩)
  go_ret2
  exact ⟨rfl, rfl⟩
theorem RaiseV_any (w : World) (p : Option Addr) (n : Int) (h : Vd w p) : Calls Try.prog 29 #[.pointer p, .int .u64 n] w fun e w' => e = .returned (.tuple #[.int .u64 0, .int .i64 1]) ∧ w' = w := by
  go_enter Try.func29, Try.ntmps29
  go_wp2_with (go_at_call 46; refine (isV_any _ p h).mono ?_; rintro e w' ⟨rfl, rfl⟩)
  go_ret2
  exact ⟨rfl, rfl⟩
theorem PastV_any (w : World) (p : Option Addr) (n : Int) (h : Vd w p) : Calls Try.prog 30 #[.pointer p, .int .u64 n] w fun e w' => e = .returned (.int .i64 1) ∧ w' = w := by
  go_enter Try.func30, Try.ntmps30
  go_wp2_with (go_at_call 46; refine (isV_any _ p h).mono ?_; rintro e w' ⟨rfl, rfl⟩)
  go_ret
  exact ⟨rfl, rfl⟩
theorem LastV_any (w : World) (p : Option Addr) (h : Vd w p) : Calls Try.prog 34 #[.pointer p] w fun e w' => e = .returned (.int .u64 0) ∧ w' = w := by
  go_enter Try.func34, Try.ntmps34
  go_wp2_with (go_at_call 46; refine (isV_any _ p h).mono ?_; rintro e w' ⟨rfl, rfl⟩)
  go_ret
  exact ⟨rfl, rfl⟩
theorem TopV_any (w : World) (p : Option Addr) (h : Vd w p) : Calls Try.prog 35 #[.pointer p] w fun e w' => e = .returned (.int .u64 0) ∧ w' = w := by
  go_enter Try.func35, Try.ntmps35
  go_wp2_with (go_at_call 46; refine (isV_any _ p h).mono ?_; rintro e w' ⟨rfl, rfl⟩)
  go_ret
  exact ⟨rfl, rfl⟩
theorem BytesV_any (w : World) (p : Option Addr) (h : Vd w p) : Calls Try.prog 32 #[.pointer p] w fun e w' => e = .returned (.slice none 0 0) ∧ w' = w := by
  go_enter Try.func32, Try.ntmps32
  go_wp2_with (go_at_call 46; refine (isV_any _ p h).mono ?_; rintro e w' ⟨rfl, rfl⟩)
  go_ret
  exact ⟨rfl, rfl⟩
theorem LeftV_any (w : World) (p : Option Addr) (h : Vd w p) : Calls Try.prog 40 #[.pointer p] w fun e w' => e = .returned (.int .u64 0) ∧ w' = w := by
  go_enter Try.func40, Try.ntmps40
  go_wp2_with (first
    | (go_at_call 35; refine (TopV_any _ p h).mono ?_; rintro e w' ⟨rfl, rfl⟩)
    | (go_at_call 34; refine (LastV_any _ p h).mono ?_; rintro e w' ⟨rfl, rfl⟩))
  go_ret
  exact ⟨rfl, rfl⟩
end Go.Proofs.Ytkibglmmncpdaaa
