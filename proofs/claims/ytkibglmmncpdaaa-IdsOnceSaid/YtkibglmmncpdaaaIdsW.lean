/- Walk of the ids' laws' works. Conditions: as stated. -/
import Derived.Test.YtkibglmmncpdaaaIdsS
namespace Go.Proofs.Ytkibglmmncpdaaa
open Go.RowKit

theorem byte_of_wf {x : Int} (h : (Lit.int .u8 x).wf = true) : Byte x := by
  simp [Lit.wf, IntKind.min, IntKind.max, IntKind.signed, IntKind.bits] at h
  unfold Byte
  omega

/-- A whole number of 64 bits without a sign. -/
theorem nat_of_u64 {x : Int} (h : (Lit.int .u64 x).wf = true) : ∃ X : Nat, x = X ∧ X < 18446744073709551616 := by
  simp [Lit.wf, IntKind.min, IntKind.max, IntKind.signed, IntKind.bits] at h
  obtain ⟨X, rfl⟩ := Int.eq_ofNat_of_zero_le (a := x) (by omega)
  exact ⟨X, rfl, by omega⟩

theorem giver_enc (t : Nat) (h : t ≤ 9223372036854775807) : IsGiver (enc t) t := by
  have := rdv_enc0 t [] (by omega)
  rw [List.append_nil] at this
  exact ⟨by rw [rres_of this, if_pos rfl, Nat.zero_add], h⟩

set_option maxHeartbeats 800000 in
theorem worksIds_any (w : World) : Calls Try.prog 25 #[] w fun e w' => e = .returned (.bool true) ∧ Below w.heap.size w w' := by
  go_enter Try.func25, Try.ntmps25
  go_wp2_with fail
  refine (New_good 0 _ (by omega)).mono ?_
  rintro e w1 ⟨rfl, hG, hB⟩
  have hz := hB.size
  go_wp2_with fail
  refine (Raise_any _ _ _ _ 2 hG).mono ?_
  rintro e w2 ⟨rfl, hG2, hT2⟩
  have hB2 := hB.trans (hT2.below hz (Nat.le_refl _) (fun _ h => by cases h))
  rw [show raiseT 0 2 = 2 by decide] at hG2
  rw [show raiseV 0 2 = 2 by decide, show raiseC 0 2 = 0 by decide]
  go_wp2_with fail
  refine (Take_any _ _ _ _ hG2).mono ?_
  rintro e w3 ⟨rfl, hG3, hT3⟩
  have hB3 := hB2.trans (hT3.below hB2.size (Nat.le_refl _) (fun _ h => by cases h))
  rw [show takeL 0 2 = 1 by decide] at hG3
  rw [show takeV 0 2 = 1 by decide, show takeC 0 2 = 0 by decide]
  go_wp2_with fail
  refine (Take_any _ _ _ _ hG3).mono ?_
  rintro e w4 ⟨rfl, hG4, hT4⟩
  have hB4 := hB3.trans (hT4.below hB3.size (Nat.le_refl _) (fun _ h => by cases h))
  rw [show takeL 1 2 = 2 by decide] at hG4
  rw [show takeV 1 2 = 2 by decide, show takeC 1 2 = 0 by decide]
  go_wp2_with fail
  refine (Take_any _ _ _ _ hG4).mono ?_
  rintro e w5 ⟨rfl, hG5, hT5⟩
  have hB5 := hB4.trans (hT5.below hB4.size (Nat.le_refl _) (fun _ h => by cases h))
  rw [show takeL 2 2 = 2 by decide] at hG5
  rw [show takeV 2 2 = 0 by decide, show takeC 2 2 = 4 by decide]
  go_wp2_with fail
  refine (Bytes_any _ _ _ _ hG5).mono ?_
  rintro e w6 ⟨v, rfl, hO, hB6⟩
  obtain ⟨A, c, rfl, hR⟩ := RB.of_own hO
  have hb6 := hB5.trans (hB6.mono hB5.size)
  go_wp2_with fail
  refine (IdsRead_good A _ c _ _ 2 hR (by have := enc_le10 2 (by omega); omega) (enc_byte 2) (giver_enc 2 (by omega))).mono ?_
  rintro e w7 ⟨rfl, hG7, hB7⟩
  have hb7 := hb6.trans (hB7.mono hb6.size)
  have hg2 : w.heap.size ≤ w6.heap.size := hb6.size
  go_wp2_with fail
  refine (Raise_any _ _ _ _ 1 hG7).mono ?_
  rintro e w8 ⟨rfl, hG8, hT8⟩
  have hB8 := hb7.trans (hT8.below hb7.size hg2 (fun _ h => by cases h))
  rw [show raiseT 2 1 = 3 by decide] at hG8
  rw [show raiseV 2 1 = 3 by decide, show raiseC 2 1 = 0 by decide]
  go_wp2_with fail
  refine (Take_any _ _ _ _ hG8).mono ?_
  rintro e w9 ⟨rfl, hG9, hT9⟩
  have hB9 := hB8.trans (hT9.below hB8.size hg2 (fun _ h => by cases h))
  rw [show takeV 2 3 = 3 by decide, show takeC 2 3 = 0 by decide]
  go_wp2_with fail
  go_ret
  exact ⟨rfl, hB9⟩

theorem sreads_below {w W W' : World} {g1 g2 a b l t : Nat} (h : W.cell? ⟨g2, 0, none⟩ = some (.int .u64 (a : Int)) ∧ W.cell? ⟨g2, 1, none⟩ = some (.int .u64 (b : Int)) ∧ Gv W g1 l t ∧ Below w.heap.size w W) (hb : Below W.heap.size W W') :
    W'.cell? ⟨g2, 0, none⟩ = some (.int .u64 (a : Int)) ∧ W'.cell? ⟨g2, 1, none⟩ = some (.int .u64 (b : Int)) ∧ Gv W' g1 l t ∧ Below w.heap.size w W' :=
  ⟨cell_keep hb h.1, cell_keep hb h.2.1, h.2.2.1.below hb, h.2.2.2.trans (hb.mono h.2.2.2.size)⟩
theorem sreads_drew {w W : World} {g1 g2 a b l t : Nat} (h1 : W.cell? ⟨g2, 0, none⟩ = some (.int .u64 (a : Int))) (h2 : W.cell? ⟨g2, 1, none⟩ = some (.int .u64 (b : Int))) (h3 : Gv W g1 l t) (h4 : Below w.heap.size w W) :
    W.drew.cell? ⟨g2, 0, none⟩ = some (.int .u64 (a : Int)) ∧ W.drew.cell? ⟨g2, 1, none⟩ = some (.int .u64 (b : Int)) ∧ Gv W.drew g1 l t ∧ Below w.heap.size w W.drew :=
  ⟨h1, h2, h3, below_drewN h4 1⟩
end Go.Proofs.Ytkibglmmncpdaaa
