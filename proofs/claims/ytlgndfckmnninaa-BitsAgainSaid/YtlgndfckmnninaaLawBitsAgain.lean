/- The Go function tidepole/tidepolelaw05.BitsAgain returns true for every input, and each argument reads afterwards as it read before. Conditions: none beyond the given row's own. -/
import Derived.Test.YtlgndfckmnninaaRows
import Derived.Test.YtlgndfckmnninaaBitsC
import Derived.Test.YtlgndfckmnninaaFields
import Derived.WalkKit
import Derived.ProofKit
import Derived.OpenShut
import Derived.ChangeOld
import Derived.Below
import Derived.Deep.QuietTactic
import Derived.BigQuiet
import Derived.Deep.RegionHeld3
namespace Go.Proofs.Ytlgndfckmnninaa.bitsAgain
open Go.ChangeShapes Go.WideShapes Go.ChangeAt Go.RowKit
set_option linter.unusedVariables false

theorem own : ownKnob Try.prog.godebug = none := by kernel_rfl
theorem laidOut : laidOutB Try.prog = true := by kernel_rfl

set_option maxHeartbeats 800000 in
theorem walk (a0 : Option Addr) (len0 cap0 : Nat) (z0 : List Int) (a1 : Option Addr) (len1 cap1 : Nat) (z1 : List Int) (w : World) (w0 : IsRow .u8 w a0 len0 cap0 z0) (w1 : IsRow .i64 w a1 len1 cap1 z1) :
    Calls Try.prog 5 #[.slice a0 len0 cap0, .slice a1 len1 cap1] w fun e w' => e = .returned (.bool true) ∧ Below w.heap.size w w' := by
  have hR0 : RB w a0 len0 cap0 z0 := ⟨w0.1, w0.2.1, w0.2.2.1, w0.2.2.2.2⟩
  have hb0 : ∀ x ∈ z0, Byte x := fun x hx => byte_of_wf (w0.2.2.2.1 x hx)
  clear w0
  have hcap := hR0.2.2.1
  have hlc := hR0.2.1
  have hrow := w1
  obtain ⟨hl1, hl2, hl3, _, _⟩ := w1
  obtain ⟨bs, M, hR, hb, hm, hM⟩ : ∃ (bs : List Int) (M : Nat), RB w a0 M cap0 bs ∧ (∀ x ∈ bs, Byte x) ∧ M ≤ 300 ∧ ((300 < len0 ∧ M = 300) ∨ (len0 ≤ 300 ∧ M = len0)) := by
    rcases Nat.lt_or_ge 300 len0 with hl | hl
    · exact ⟨z0.take 300, 300, hR0.head (by omega), fun x hx => hb0 x (List.mem_of_mem_take hx), by omega, .inl ⟨hl, rfl⟩⟩
    · exact ⟨z0, len0, hR0, hb0, hl, .inr ⟨hl, rfl⟩⟩
  clear hb0 hR0
  rcases hM with ⟨hl, rfl⟩ | ⟨hl, rfl⟩
  all_goals
    have hlen := hR.1
    go_enter Try.func5, Try.ntmps5
    go_wp2_with fail
    refine (works_any _).mono ?_
    rintro e w1 ⟨rfl, hB1⟩
    have hR1 := hR.below hB1
    go_wp2_with fail
    try rw [show (300 : Int) = (bs.length : Int) by omega]
    rw [← hlen] at hR1 hR ⊢
    have hm : bs.length ≤ 300 := by omega
    clear hlen
    refine (NewReader_any a0 _ cap0 bs w1 w.heap.size hR1 (by omega) hB1.size).mono ?_
    rintro e w2 ⟨g, R, rfl, hg, hRk, hRd, hB2⟩
    have hb2 := below_more hB1 hB2
    have hgl := hRd.lt
    have hz1 := hB1.size
    have hz2 := hB2.size
    go_wp2_with fail
    refine (NewWriter_any w2 w.heap.size hb2.size).mono ?_
    rintro e w3 ⟨g2, rfl, hg2, hW, hB3⟩
    have hb3 := hb2.trans (hB3.mono hb2.size)
    have hRd3 := hRd.below hB3
    have hz4 := hB3.size
    clear hB1 hB2 hB3 hRd hb2 hR1
    go_wp2_with fail
    go_loopw [7] (fun iv wr => ∃ m p : Nat, ∃ B, iv = .int .i64 m ∧ m ≤ len1 ∧ m ≤ 100 ∧ p ≤ 8 * bs.length ∧ Rd wr w.heap.size g R bs p ∧ Wr wr w.heap.size g2 B ((unB bs).take p) ∧ (∀ k, B = some k → w2.heap.size ≤ k) ∧ Below w.heap.size w wr) (fun iv _ => 100 - (intOf iv).toNat)
    case atStart => exact ⟨0, 0, none, rfl, by omega, by omega, by omega, hRd3, hW, (fun _ h => by cases h), hb3⟩
    case round =>
      obtain ⟨m, p, B, rfl, hm1, hm2, hp, hD, hE, hBn, hw⟩ := hrel
      clear hRd3 hW hb3
      have hrow2 := hE.row
      have hBg : B ≠ some g := fun e => by have := hBn _ e; omega
      have hRB : R = none ∨ R ≠ B := by
        cases R with
        | none => exact .inl rfl
        | some k => exact .inr fun e => by have := hBn k e.symm; have := (hRk k rfl).2; omega
      by_cases hmm : m < len1 ∧ m < 100
      · obtain ⟨h1, h2⟩ := hmm
        · obtain ⟨b, off, rfl, hc⟩ := hrow.2.2.2.2 (by omega)
          have hcm := cell_keep hw (hc m h1)
          generalize z1[m]?.getD 0 = v at hcm
          have am := fun W => among_any v 65 W (by omega) (by omega)
          have hn := amo_lt v (show 0 < 65 by omega)
          generalize amo v 65 = n at *
          have AM := Lib.hid am
          clear am hc hrow
          go_wp2_with fail
          refine (AM.out _).mono ?_
          rintro e w4 ⟨rfl, rfl⟩
          go_wp2_with fail
          refine (get_any _ w.heap.size g R bs p n hD hb).mono ?_
          rintro e w5 ⟨rfl, hD5, hT5⟩
          have hw5 := hw.trans (hT5.below hw.size (by omega) (fun _ h => by cases h))
          have hE5 := hE.touch hT5 (by omega) (by simp) hBg (by cases B <;> simp)
          have hz5 := hT5.size
          have hz6 : w2.heap.size ≤ w5.heap.size := by have := hE5.lt; omega
          rcases getCode_cases bs.length p (n : Int) with ⟨h3, _⟩ | ⟨h3, _⟩ | ⟨N, h3, h4, h5, h6⟩ | ⟨N, h3, h4, h5, h6⟩
          · omega
          · omega
          · obtain rfl : n = N := by omega
            have hv := getVal_bad (bs := bs) (p := p) (n := n) (by rw [h6]; decide)
            have ha := getAt_bad (len := bs.length) (p := p) (n := n) (by rw [h6]; decide)
            rw [ha] at hD5
            rw [hv, h6]
            clear hv ha h6 hcm
            go_wp2_with fail
            go_roundw
            case rel => exact ⟨m + 1, p, B, rfl, by omega, by omega, hp, hD5, hE5, hBn, hw5⟩
            case measure => simp [intOf]; omega
          · obtain rfl : n = N := by omega
            have hv := getVal_good (bs := bs) (p := p) (N := n) h6
            have ha := getAt_good (len := bs.length) (p := p) (N := n) h6
            have hst := again_step bs p n (by omega)
            have hal := again_len bs p hp
            have hXlt := again_lt bs p n (by omega)
            rw [ha] at hD5
            rw [hv, h6]
            clear hv ha h6 hcm
            generalize val (((unB bs).drop p).take n) = X at *
            have HST := Lib.hid hst
            clear hst
            have hput := fun W h => put_nat W w.heap.size g2 B ((unB bs).take p) X n h hXlt (by omega) (by rw [hal]; omega)
            have PUT := Lib.hid hput
            clear hput hal
            go_wp2_with fail
            refine (PUT.out _ hE5 hw5.size).mono ?_
            rintro e w6 ⟨rfl, B6, hE6, hR6, hT6⟩
            have hw6 := hw5.trans (hT6.below hw5.size (by omega) (fun k hk => (hrow2 k hk).1))
            have hD6 := hD5.touch hT6 (by omega) (fun e => hBg e.symm) (fun e => by have := (hRk _ e).2; omega) hRB
            have hBn6 : ∀ k, B6 = some k → w2.heap.size ≤ k := fun k hk => by
              rcases hR6 with h | ⟨x, h, hx⟩
              · exact hBn k (h ▸ hk)
              · rw [hk] at h; injection h with h; omega
            rw [HST.out] at hE6
            go_wp2_with fail
            go_roundw
            case rel => exact ⟨m + 1, p + n, B6, rfl, by omega, by omega, by omega, hD6, hE6, hBn6, hw6⟩
            case measure => simp [intOf]; omega
      · have hex : (m < len1 ∧ ¬ m < 100) ∨ ¬ m < len1 := by omega
        clear hmm hrow
        rcases hex with ⟨d1, d2⟩ | d1
        all_goals
          go_wp2_with fail
          go_loopw [11] (fun iv wq => ∃ q p' : Nat, ∃ B', iv = .int .i64 q ∧ q ≤ p' ∧ p' ≤ 8 * bs.length ∧ Rd wq w.heap.size g R bs p' ∧ Wr wq w.heap.size g2 B' ((unB bs).take p') ∧ (∀ k, B' = some k → w2.heap.size ≤ k) ∧ Below w.heap.size w wq) (fun iv _ => 8 * bs.length - (intOf iv).toNat)
          case atStart => exact ⟨0, p, B, rfl, by omega, hp, hD, hE, hBn, hw⟩
          case round =>
            clear hD hE hBn hw hrow2 hBg hRB
            obtain ⟨q, p', B', rfl, hq, hp', hD, hE, hBn, hw⟩ := hrel
            have hrow2 := hE.row
            have hBg : B' ≠ some g := fun e => by have := hBn _ e; omega
            have hRB : R = none ∨ R ≠ B' := by
              cases R with
              | none => exact .inl rfl
              | some k => exact .inr fun e => by have := hBn k e.symm; have := (hRk k rfl).2; omega
            rcases Nat.lt_or_ge p' (8 * bs.length) with h1 | h1
            · have hq1 : (q : Int) < 8 * (bs.length : Int) := by omega
              have hq3 : (0 : Int) < ((8 * bs.length - p' : Nat) : Int) := by omega
              have hq4 : 0 < 8 * bs.length - p' := by omega
              have hst := again_step bs p' 1 (by omega)
              have hal := again_len bs p' hp'
              have hXlt := again_lt bs p' 1 (by omega)
              have hget := fun W h => get_nat W w.heap.size g R bs p' 1 h (by omega) (by omega) hb
              have hput := fun W h => put_nat W w.heap.size g2 B' ((unB bs).take p') (val (((unB bs).drop p').take 1)) 1 h hXlt (by omega) (by rw [hal]; omega)
              generalize val (((unB bs).drop p').take 1) = X at *
              rw [hst] at hput
              have GET := Lib.hid hget
              have PUT := Lib.hid hput
              clear hst hal hget hput
              go_wp2_with fail
              refine (Left_any _ w.heap.size g R bs p' hD).mono ?_
              rintro e w4 ⟨rfl, nq, rfl⟩
              have hD := hD.drewN nq
              have hE := hE.drewN nq
              have hw := below_drewN hw nq
              generalize wr.drewN nq = W at *
              go_wp2_with fail
              refine (GET.out _ hD).mono ?_
              rintro e w5 ⟨rfl, hD5, hT5⟩
              have hw5 := hw.trans (hT5.below hw.size (by omega) (fun _ h => by cases h))
              have hE5 := hE.touch hT5 (by omega) (by simp) hBg (by cases B' <;> simp)
              have hz6 : w2.heap.size ≤ w5.heap.size := by have := hE5.lt; omega
              go_wp2_with fail
              refine (PUT.out _ hE5 hw5.size).mono ?_
              rintro e w6 ⟨rfl, B6, hE6, hR6, hT6⟩
              have hw6 := hw5.trans (hT6.below hw5.size (by omega) (fun k hk => (hrow2 k hk).1))
              have hD6 := hD5.touch hT6 (by omega) (fun e => hBg e.symm) (fun e => by have := (hRk _ e).2; omega) hRB
              have hBn6 : ∀ k, B6 = some k → w2.heap.size ≤ k := fun k hk => by
                rcases hR6 with h | ⟨x, h, hx⟩
                · exact hBn k (h ▸ hk)
                · rw [hk] at h; injection h with h; omega
              go_wp2_with fail
              go_roundw
              case rel => exact ⟨q + 1, p' + 1, B6, rfl, by omega, by omega, hD6, hE6, hBn6, hw6⟩
              case measure => simp [intOf]; omega
            · obtain rfl : p' = 8 * bs.length := by omega
              have hpk := again_all bs hb
              have hlen := again_len bs _ (Nat.le_refl _)
              have hwb := fun W h => WBytes_any W w.heap.size g2 B' ((unB bs).take (8 * bs.length)) h (by rw [hlen]; omega)
              rw [hpk] at hwb
              have WB := Lib.hid hwb
              clear hpk hlen hwb
              have hq2 : (q : Int) < 8 * (bs.length : Int) ∨ ¬ (q : Int) < 8 * (bs.length : Int) := by omega
              have hq5 : 8 * bs.length - 8 * bs.length = 0 := by omega
              rcases hq2 with hq1 | hq1
              · go_wp2_with fail
                refine (Left_any _ w.heap.size g R bs _ hD).mono ?_
                rintro e w4 ⟨rfl, nq, rfl⟩
                have hE := hE.drewN nq
                have hw := below_drewN hw nq
                generalize wr.drewN nq = W at *
                have hRW := hR.below hw
                go_wp2_with fail
                refine (WB.out _ hE).mono ?_
                rintro e w7 ⟨v, rfl, hO, hB7⟩
                obtain ⟨A1, c1, rfl, hRb⟩ := RB.of_own hO
                have hw7 := hw.trans (hB7.mono hw.size)
                go_wp2_with fail
                refine (same_any A1 a0 _ c1 _ cap0 bs _ hRb (hRW.below hB7)).mono ?_
                rintro e w8 ⟨rfl, rfl⟩
                go_wp2_with fail
                go_ret
                exact ⟨rfl, hw7⟩
              · have hRW := hR.below hw
                go_wp2_with fail
                refine (WB.out _ hE).mono ?_
                rintro e w7 ⟨v, rfl, hO, hB7⟩
                obtain ⟨A1, c1, rfl, hRb⟩ := RB.of_own hO
                have hw7 := hw.trans (hB7.mono hw.size)
                go_wp2_with fail
                refine (same_any A1 a0 _ c1 _ cap0 bs _ hRb (hRW.below hB7)).mono ?_
                rintro e w8 ⟨rfl, rfl⟩
                go_wp2_with fail
                go_ret
                exact ⟨rfl, hw7⟩

set_option maxRecDepth 100000 in
theorem lifted (os : Os) (started : os.Started) (H : Type) (enc : TypeId × Value → H) :
    ReturnsInHanded {} Try.checked os 5 .any (Rows.bitsAgainSpec.pre6 enc Try.prog Try.f5 Rows.bitsAgainRow.domain false) (Rows.bitsAgainSpec.post enc Try.prog Try.f5 false true false false) := by
  refine returnsInHanded_of_change (C := Try.checked) own started (by kernel_rfl) Try.func5
    (ChangeSpec.witness6 (enc := enc) (C := Try.checked) false ⟨#[], #[.slice none 0 0, .slice none 0 0], []⟩ 8 (by kernel_rfl) (by kernel_rfl) (by kernel_rfl) (by kernel_rfl)) ?_
  intro W base args ds gs before hval0 hW hcnd _
  have hval : ∀ (j : Nat) t v, Try.f5.params[j]? = some t → args[j]? = some v → Value.okWide Try.prog W .any base t v := hval0
  have hW' := hW
  obtain ⟨p, q, hA0, hV, rfl, hfz, hnd⟩ := hW
  have hA : DataW.TrodAll enc Try.prog W 0 (fun _ => true) true Try.f5.params.toList args.toList ds p := hA0
  rw [Try.params5] at hA hval
  obtain ⟨v0, vs0, d0, ds0, p0, q0, hargs, rfl, rfl, h0, r0⟩ := trodAll_cons hA
  obtain ⟨v1, vs1, d1, ds1, p1, q1, rfl, rfl, rfl, h1, r1⟩ := trodAll_cons r0
  obtain ⟨rfl, rfl, rfl⟩ := trodAll_nil r1
  obtain rfl : args = #[v0, v1] := by cases args; simp_all
  obtain ⟨rfl, rfl⟩ := trodVars_none hV
  have k0 := h0
  have lt0 : ∀ x ∈ p0, x.block < W.heap.size := by obtain ⟨m, hm⟩ := k0; exact DataW.trod_lt m _ _ _ hm
  have k1 := h1
  have lt1 : ∀ x ∈ p1, x.block < W.heap.size := by obtain ⟨m, hm⟩ := k1; exact DataW.trod_lt m _ _ _ hm
  obtain ⟨a0, len0, cap0, rfl⟩ := okWide_slice Try.underlying36 (hval 0 36 v0 rfl rfl)
  obtain ⟨z0, w0⟩ : ∃ zs, IsRow .u8 W a0 len0 cap0 zs := by
    obtain ⟨fuel, hf⟩ := h0
    exact row_of Try.underlying36 Try.underlying5 (by kernel_rfl) hf
  obtain ⟨a1, len1, cap1, rfl⟩ := okWide_slice Try.underlying44 (hval 1 44 v1 rfl rfl)
  obtain ⟨z1, w1⟩ : ∃ zs, IsRow .i64 W a1 len1 cap1 zs := by
    obtain ⟨fuel, hf⟩ := h1
    exact row_of Try.underlying44 Try.underlying3 (by kernel_rfl) hf
  clear hA0 hval0
  refine (walk a0 len0 cap0 z0 a1 len1 cap1 z1 W w0 w1).mono fun e W' ⟨he, bel⟩ => ?_
  subst he
  exact ⟨_, rfl, _, _, _, [], _, [], hW', trodAll_mk1 (shut_bool Try.underlying4 _), (trodAll_cons_mk (Below.trod laidOut (by kernel_rfl) (of_decide_eq_true (by kernel_rfl)) k0 bel lt0) (trodAll_cons_mk (Below.trod laidOut (by kernel_rfl) (of_decide_eq_true (by kernel_rfl)) k1 bel lt1) trodAll_mk0)), rfl, bel.frame _, fun h => by cases h⟩

theorem over : Rows.bitsAgainRow.holds Try.pinned (OpenSpec.ofChange Rows.bitsAgainSpec) :=
  OpenClaim.holds_of_wide 5 Try.f5 rfl rfl rfl rfl rfl rfl rfl ⟨rfl, rfl, rfl, rfl, rfl⟩ rfl rfl rfl rfl rfl (by kernel_rfl) Try.func5 (by kernel_rfl)
    (of_decide_eq_true (by kernel_rfl)) (by unfold Func.isWrapper; first | (rw [if_pos (by decide +kernel)]; kernel_rfl) | (rw [if_neg (by decide +kernel)]; exact ⟨rfl, rfl⟩))
    (fun os started H enc _ => lifted os started H enc)

theorem proved : Rows.BitsAgainSaid := over
#print axioms proved
end Go.Proofs.Ytlgndfckmnninaa.bitsAgain
