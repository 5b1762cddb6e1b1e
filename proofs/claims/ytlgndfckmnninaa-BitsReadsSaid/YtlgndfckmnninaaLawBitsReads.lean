/- The Go function tidepole/tidepolelaw05.BitsReads returns true for every input, and each argument reads afterwards as it read before. Conditions: none beyond the given row's own. -/
import Derived.Test.YtlgndfckmnninaaRows
import Derived.Test.YtlgndfckmnninaaBitsL
import Derived.Test.YtlgndfckmnninaaFields
import Derived.WalkKit
import Derived.ProofKit
import Derived.OpenShut
import Derived.ChangeOld
import Derived.Below
import Derived.Deep.QuietTactic
import Derived.BigQuiet
import Derived.Deep.RegionHeld3
namespace Go.Proofs.Ytlgndfckmnninaa.bitsReads
open Go.ChangeShapes Go.WideShapes Go.ChangeAt Go.RowKit
set_option linter.unusedVariables false

theorem own : ownKnob Try.prog.godebug = none := by kernel_rfl
theorem laidOut : laidOutB Try.prog = true := by kernel_rfl

set_option maxHeartbeats 3200000 in
theorem walk (a0 : Option Addr) (len0 cap0 : Nat) (z0 : List Int) (a1 : Option Addr) (len1 cap1 : Nat) (z1 : List Int) (w : World) (w0 : IsRow .u8 w a0 len0 cap0 z0) (w1 : IsRow .i64 w a1 len1 cap1 z1) :
    Calls Try.prog 7 #[.slice a0 len0 cap0, .slice a1 len1 cap1] w fun e w' => e = .returned (.bool true) ∧ Below w.heap.size w w' := by
  have hR0 : RB w a0 len0 cap0 z0 := ⟨w0.1, w0.2.1, w0.2.2.1, w0.2.2.2.2⟩
  have hb0 : ∀ x ∈ z0, Byte x := fun x hx => byte_of_wf (w0.2.2.2.1 x hx)
  clear w0
  have hcap := hR0.2.2.1
  have hlc := hR0.2.1
  have hrow := w1
  obtain ⟨hl1, hl2, hl3, _, _⟩ := w1
  obtain ⟨bs, M, hR, hb, hm, hM⟩ : ∃ (bs : List Int) (M : Nat), RB w a0 M cap0 bs ∧ (∀ x ∈ bs, Byte x) ∧ M ≤ 300 ∧ ((300 < len0 ∧ M = 300) ∨ (len0 ≤ 300 ∧ M = len0)) := by
    rcases Nat.lt_or_ge 300 len0 with hl | hl
    · exact ⟨z0.take 300, 300, hR0.head (by omega), fun x hx => hb0 x (List.mem_of_mem_take hx), by omega, .inl ⟨hl, rfl⟩⟩
    · exact ⟨z0, len0, hR0, hb0, hl, .inr ⟨hl, rfl⟩⟩
  clear hb0 hR0
  rcases hM with ⟨hl, rfl⟩ | ⟨hl, rfl⟩
  all_goals
    obtain ⟨hlen, hHid⟩ : ∃ _ : bs.length = _, True := ⟨hR.1, trivial⟩
    go_enter Try.func7, Try.ntmps7
    go_wp2_with fail
    try rw [show (300 : Int) = (bs.length : Int) by omega]
    rw [← hlen] at hR ⊢
    have hm : bs.length ≤ 300 := by omega
    clear hHid hlen
    refine (bytes_any a0 _ cap0 bs w hR (by omega)).mono ?_
    rintro e w1 ⟨v, rfl, hO, hB1⟩
    obtain ⟨A1, c1, rfl, hR1⟩ := RB.of_own hO
    go_wp2_with fail
    refine (NewReader_any A1 _ c1 bs w1 w.heap.size hR1 (by omega) hB1.size).mono ?_
    rintro e w2 ⟨g, R, rfl, hg, hRk, hRd, hB2⟩
    have hb2 := below_more hB1 hB2
    have hR2 := hR.below hb2
    have hz1 := hB1.size
    have hz2 := hB2.size
    have hgl := hRd.lt
    have hBa : Below w2.heap.size w2 (w2.alloc (.cells #[.slice a0 bs.length cap0, .int .i64 0] 60)) := (Below.refl _ _).alloc (Nat.le_refl _) _
    have hb3 := below_more hb2 hBa
    have hRd3 := hRd.below hBa
    have hRr3 : ∃ RA, (∀ k, RA = some k → k < w.heap.size) ∧ Rr (w2.alloc (.cells #[.slice a0 bs.length cap0, .int .i64 0] 60)) w2.heap.size RA bs 0 := by
      rcases Nat.eq_zero_or_pos bs.length with h0 | h0
      · exact ⟨none, (fun k hk => by cases hk), a0, _, cap0, Blk.new w2 60 _, hR2.below hBa, .inr h0, by simp, by omega, by omega⟩
      · obtain ⟨b, off, e, hc⟩ := hR.2.2.2 h0
        have hlt := World.block_lt_of_cell? w _ (hc 0 h0)
        refine ⟨some b, fun k hk => ?_, a0, _, cap0, Blk.new w2 60 _, hR2.below hBa, .inl (by rw [e]; rfl), fun e => ?_, by omega, by omega⟩
        · injection hk with hk; subst hk; exact hlt
        · injection e with e; subst e; simp at hlt; omega
    obtain ⟨RA, hRA, hRr⟩ := hRr3
    have hz3 := hb3.size
    clear hB1 hB2 hO hR1 hR2 hBa hRd hb2
    go_wp2_with fail
    go_loopw [7] (fun iv wr => ∃ m p : Nat, iv = .int .i64 m ∧ m ≤ len1 ∧ m ≤ 100 ∧ Rd wr w.heap.size g R bs p ∧ Rr wr w2.heap.size RA bs p ∧ Below w.heap.size w wr) (fun iv _ => 100 - (intOf iv).toNat)
    case atStart => exact ⟨0, 0, rfl, by omega, by omega, hRd3, hRr, hb3⟩
    case round =>
      obtain ⟨m, p, rfl, hm1, hm2, hD, hE, hW⟩ := hrel
      clear hRd3 hRr hb3 hz3
      generalize w2.heap.size = g2 at *
      rcases Nat.lt_or_ge m len1 with h1 | h1
      · rcases Nat.lt_or_ge m 100 with h2 | h2
        · obtain ⟨b, off, rfl, hc⟩ := hrow.2.2.2.2 (by omega)
          have hcm := hc m h1
          generalize z1[m]?.getD 0 = n at hcm
          have hcm1 := cell_keep hW hcm
          go_wp2_with fail
          refine (get_any _ w.heap.size g R bs p n hD hb).mono ?_
          rintro e w4 ⟨rfl, hD4, hT4⟩
          have hW4 := hW.trans (hT4.below hW.size (Nat.le_trans hz1 hg) (fun _ h => by cases h))
          have hE4 := hE.touch hT4 (by omega) (by simp) (fun e => by have := hRA _ e; omega) (by cases RA <;> simp)
          have hcm2 := cell_keep hW4 hcm
          clear hD hE hT4 hcm1
          go_wp2_with fail
          refine (refGet_any _ g2 RA bs p n hE4 hb).mono ?_
          rintro e w5 ⟨rfl, hE5, hT5⟩
          have hW5 := hW4.trans (hT5.below hW4.size (by omega) (fun _ h => by cases h))
          have hD5 := hD4.touch hT5 (by omega) (by simp) (fun e => by have := (hRk _ e).2; omega) (by cases R <;> simp)
          clear hD4 hE4 hcm2 hT5 hcm hc hrow
          obtain ⟨X, hX⟩ : ∃ X, getVal bs p n = X := ⟨_, rfl⟩
          obtain ⟨C, hC⟩ : ∃ C, getCode bs.length p n = C := ⟨_, rfl⟩
          obtain ⟨q, hq⟩ : ∃ q, getAt bs.length p n = q := ⟨_, rfl⟩
          rw [hX, hC]
          rw [hq] at hD5 hE5
          go_wp2_with fail
          obtain ⟨A, N, c, hgr, hr, _, _, hp8, hN⟩ := id hE5
          have c1 := hgr.cell 1
          simp at c1
          have hpl := hD5.place
          have eL : ((8 * bs.length - q : Nat) : Int) = 8 * (bs.length : Int) - (q : Int) := by omega
          go_quiet (first
            | (go_at_call 22; exact Calls.quiet_of ((At_any _ w.heap.size g R bs q (hD5.drewN _)).mono fun _ _ ⟨a, b⟩ => ⟨a, 0, b.symm⟩))
            | (go_at_call 21; exact Calls.quiet_of (Left_any _ w.heap.size g R bs q (hD5.drewN _))))
          go_wp2_with fail
          go_roundw
          case rel => exact ⟨m + 1, q, rfl, by omega, by omega, hD5.drewN nq, hE5.drewN nq, below_drewN hW5 nq⟩
          case measure => simp [intOf]; omega
        · have := Nat.le_antisymm h2 hm2
          subst this
          go_wp2_with fail
          refine (works_any _).mono ?_
          rintro e w4 ⟨rfl, hB4⟩
          go_wp2_with fail
          go_ret
          exact ⟨rfl, below_more hW hB4⟩
      · have := Nat.le_antisymm h1 hm1
        subst this
        go_wp2_with fail
        refine (works_any _).mono ?_
        rintro e w4 ⟨rfl, hB4⟩
        go_wp2_with fail
        go_ret
        exact ⟨rfl, below_more hW hB4⟩

set_option maxRecDepth 100000 in
theorem lifted (os : Os) (started : os.Started) (H : Type) (enc : TypeId × Value → H) :
    ReturnsInHanded {} Try.checked os 7 .any (Rows.bitsReadsSpec.pre6 enc Try.prog Try.f7 Rows.bitsReadsRow.domain false) (Rows.bitsReadsSpec.post enc Try.prog Try.f7 false true false false) := by
  refine returnsInHanded_of_change (C := Try.checked) own started (by kernel_rfl) Try.func7
    (ChangeSpec.witness6 (enc := enc) (C := Try.checked) false ⟨#[], #[.slice none 0 0, .slice none 0 0], []⟩ 8 (by kernel_rfl) (by kernel_rfl) (by kernel_rfl) (by kernel_rfl)) ?_
  intro W base args ds gs before hval0 hW hcnd _
  have hval : ∀ (j : Nat) t v, Try.f7.params[j]? = some t → args[j]? = some v → Value.okWide Try.prog W .any base t v := hval0
  have hW' := hW
  obtain ⟨p, q, hA0, hV, rfl, hfz, hnd⟩ := hW
  have hA : DataW.TrodAll enc Try.prog W 0 (fun _ => true) true Try.f7.params.toList args.toList ds p := hA0
  rw [Try.params7] at hA hval
  obtain ⟨v0, vs0, d0, ds0, p0, q0, hargs, rfl, rfl, h0, r0⟩ := trodAll_cons hA
  obtain ⟨v1, vs1, d1, ds1, p1, q1, rfl, rfl, rfl, h1, r1⟩ := trodAll_cons r0
  obtain ⟨rfl, rfl, rfl⟩ := trodAll_nil r1
  obtain rfl : args = #[v0, v1] := by cases args; simp_all
  obtain ⟨rfl, rfl⟩ := trodVars_none hV
  have k0 := h0
  have lt0 : ∀ x ∈ p0, x.block < W.heap.size := by obtain ⟨m, hm⟩ := k0; exact DataW.trod_lt m _ _ _ hm
  have k1 := h1
  have lt1 : ∀ x ∈ p1, x.block < W.heap.size := by obtain ⟨m, hm⟩ := k1; exact DataW.trod_lt m _ _ _ hm
  obtain ⟨a0, len0, cap0, rfl⟩ := okWide_slice Try.underlying36 (hval 0 36 v0 rfl rfl)
  obtain ⟨z0, w0⟩ : ∃ zs, IsRow .u8 W a0 len0 cap0 zs := by
    obtain ⟨fuel, hf⟩ := h0
    exact row_of Try.underlying36 Try.underlying5 (by kernel_rfl) hf
  obtain ⟨a1, len1, cap1, rfl⟩ := okWide_slice Try.underlying44 (hval 1 44 v1 rfl rfl)
  obtain ⟨z1, w1⟩ : ∃ zs, IsRow .i64 W a1 len1 cap1 zs := by
    obtain ⟨fuel, hf⟩ := h1
    exact row_of Try.underlying44 Try.underlying3 (by kernel_rfl) hf
  clear hA0 hval0
  refine (walk a0 len0 cap0 z0 a1 len1 cap1 z1 W w0 w1).mono fun e W' ⟨he, bel⟩ => ?_
  subst he
  exact ⟨_, rfl, _, _, _, [], _, [], hW', trodAll_mk1 (shut_bool Try.underlying4 _), (trodAll_cons_mk (Below.trod laidOut (by kernel_rfl) (of_decide_eq_true (by kernel_rfl)) k0 bel lt0) (trodAll_cons_mk (Below.trod laidOut (by kernel_rfl) (of_decide_eq_true (by kernel_rfl)) k1 bel lt1) trodAll_mk0)), rfl, bel.frame _, fun h => by cases h⟩

theorem over : Rows.bitsReadsRow.holds Try.pinned (OpenSpec.ofChange Rows.bitsReadsSpec) :=
  OpenClaim.holds_of_wide 7 Try.f7 rfl rfl rfl rfl rfl rfl rfl ⟨rfl, rfl, rfl, rfl, rfl⟩ rfl rfl rfl rfl rfl (by kernel_rfl) Try.func7 (by kernel_rfl)
    (of_decide_eq_true (by kernel_rfl)) (by unfold Func.isWrapper; first | (rw [if_pos (by decide +kernel)]; kernel_rfl) | (rw [if_neg (by decide +kernel)]; exact ⟨rfl, rfl⟩))
    (fun os started H enc _ => lifted os started H enc)

theorem proved : Rows.BitsReadsSaid := over
#print axioms proved
end Go.Proofs.Ytlgndfckmnninaa.bitsReads
