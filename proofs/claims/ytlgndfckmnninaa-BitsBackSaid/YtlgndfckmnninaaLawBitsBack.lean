/- The Go function tidepole/tidepolelaw05.BitsBack returns true for every input, and each argument reads afterwards as it read before. Conditions: none beyond the given row's own. -/
import Derived.Test.YtlgndfckmnninaaRows
import Derived.Test.YtlgndfckmnninaaBitsC
import Derived.Test.YtlgndfckmnninaaFields
import Derived.WalkKit
import Derived.ProofKit
import Derived.OpenShut
import Derived.ChangeOld
import Derived.Below
import Derived.Deep.QuietTactic
import Derived.BigQuiet
import Derived.Deep.RegionHeld3
namespace Go.Proofs.Ytlgndfckmnninaa.bitsBack
open Go.ChangeShapes Go.WideShapes Go.ChangeAt Go.RowKit
set_option linter.unusedVariables false

theorem own : ownKnob Try.prog.godebug = none := by kernel_rfl
theorem laidOut : laidOutB Try.prog = true := by kernel_rfl

set_option maxHeartbeats 3200000 in
theorem walk (a0 : Option Addr) (len0 cap0 : Nat) (U0 V0 : Nat → Int) (w : World) (w0 : IsPairs .u64 .i64 w a0 len0 cap0 U0 V0) :
    Calls Try.prog 8 #[.slice a0 len0 cap0] w fun e w' => e = .returned (.bool true) ∧ Below w.heap.size w w' := by
  have hrow := w0
  obtain ⟨hl2, hl3, _⟩ := w0
  obtain ⟨K, hK⟩ : ∃ K, min len0 100 = K := ⟨_, rfl⟩
  have hK1 : K ≤ len0 := by omega
  have hK2 : K ≤ 100 := by omega
  go_enter Try.func8, Try.ntmps8
  go_wp2_with fail
  refine (works_any _).mono ?_
  rintro e w1 ⟨rfl, hB1⟩
  go_wp2_with fail
  refine (NewWriter_any w1 w.heap.size hB1.size).mono ?_
  rintro e w2 ⟨g, rfl, hg, hW, hB2⟩
  have hb2 := below_more hB1 hB2
  have hg0 : w.heap.size ≤ g := Nat.le_trans hB1.size hg
  clear hB1 hB2 hg
  go_wp2_with fail
  go_loopw [4, 5] (fun av iv wr => ∃ m : Nat, ∃ B, iv = .int .i64 m ∧ av = .int .i64 ((cat U0 V0 m).length : Nat) ∧ m ≤ K ∧ Wr wr w.heap.size g B (cat U0 V0 m) ∧ Below w.heap.size w wr) (fun _ iv _ => 100 - (intOf iv).toNat)
  case atStart => exact ⟨0, none, rfl, rfl, by omega, hW, hb2⟩
  case round =>
    obtain ⟨m, B, rfl, rfl, hm, hD, hb⟩ := hrel
    clear hb2 hW
    rcases Nat.lt_or_ge m K with h1 | h1
    · have hm1 : m < len0 := by omega
      have hm2 : m < 100 := by omega
      obtain ⟨b, off, rfl, hc⟩ := hrow.2.2 (by omega)
      obtain ⟨cU, cV, wU, wV⟩ := hc m hm1
      obtain ⟨X, hX, hX2⟩ := nat_of_u64 wU
      have hlen := cat_len U0 V0 m
      have hn := amo_lt (V0 m) (show 0 < 65 by omega)
      have hcat : cat U0 V0 (m + 1) = cat U0 V0 m ++ bitsOf (amo (V0 m) 65) X := by rw [cat, hX, Int.toNat_natCast]
      have hcl : (cat U0 V0 (m + 1)).length = (cat U0 V0 m).length + amo (V0 m) 65 := by rw [hcat, List.length_append, length_bitsOf]
      rw [hX] at cU
      have dU := cell_keep hb cU
      have dV := cell_keep hb cV
      have HC := Lib.hid hcat
      have HL := Lib.hid hcl
      have am := fun W => among_any (V0 m) 65 W (by omega) (by omega)
      have hput := fun W h => put_nat W w.heap.size g B (cat U0 V0 m) X (amo (V0 m) 65) h hX2 (by omega) (by omega)
      clear hc cU cV wU wV hX hcat hcl hrow
      generalize amo (V0 m) 65 = n at *
      generalize V0 m = v at *
      generalize (cat U0 V0 m).length = L at *
      have AM := Lib.hid am
      have PUT := Lib.hid hput
      clear am hput
      go_wp2_with (first
        | (go_at_call 17; refine (AM.out _).mono ?_; rintro e w' ⟨rfl, rfl⟩)
        | (go_at_call 10; refine (PUT.out _ hD hb.size).mono ?_; rintro e w3 ⟨rfl, B3, hW3, hB3, hT3⟩))
      have hrb := hD.row
      have hb3 := hb.trans (hT3.below hb.size hg0 (fun k hk => (hrb k hk).1))
      rw [← HC.out] at hW3
      go_roundw
      case rel => exact ⟨m + 1, B3, rfl, by rw [HL.out]; rfl, h1, hW3, hb3⟩
      case measure => simp [intOf]; omega
    · obtain rfl : m = K := by omega
      have hlen := cat_len U0 V0 m
      have hpk : (pack (cat U0 V0 m)).length ≤ 1000000 := by rw [pack_length]; omega
      have hW1 := Lib.hid hK
      have hex : (m < len0 ∧ ¬ m < 100) ∨ ¬ m < len0 := by omega
      rcases hex with ⟨d1, d2⟩ | d1
      all_goals
        clear hK
        go_wp2_with fail
        refine (WBytes_any wr w.heap.size g B (cat U0 V0 m) hD (by omega)).mono ?_
        rintro e w3 ⟨v, rfl, hO, hB3⟩
        obtain ⟨A, c, rfl, hR⟩ := RB.of_own hO
        have hb3 := hb.trans (hB3.mono hb.size)
        have hD3 := hD.below hB3
        go_wp2_with fail
        refine (NewReader_any A _ c _ w3 w.heap.size hR hpk hb3.size).mono ?_
        rintro e w4 ⟨gr, R, rfl, hgr, hRk, hRd, hB4⟩
        have hb4 := hb3.trans (hB4.mono hb3.size)
        have hD4 := hD3.below hB4
        have hrb := hD3.row
        have hgl := hD3.lt
        have hz3 := hb3.size
        have hpb := pack_byte (cat U0 V0 m)
        have hRle : (cat U0 V0 m).length ≤ 8 * (pack (cat U0 V0 m)).length := by rw [pack_length]; omega
        have hRle2 : 8 * (pack (cat U0 V0 m)).length - (cat U0 V0 m).length < 8 := by rw [pack_length]; omega
        clear hB3 hB4 hD hD3 hO hR hb
        go_wp2_with fail
        go_loopw [8] (fun iv wq => ∃ q : Nat, iv = .int .i64 q ∧ q ≤ m ∧ Rd wq w.heap.size gr R (pack (cat U0 V0 m)) (cat U0 V0 q).length ∧ Wr wq w.heap.size g B (cat U0 V0 m) ∧ Below w.heap.size w wq) (fun iv _ => 100 - (intOf iv).toNat)
        case atStart => exact ⟨0, rfl, by omega, hRd, hD4, hb4⟩
        case round =>
          obtain ⟨q, rfl, hq, hE, hD, hb⟩ := hrel
          clear hRd hD4 hb3 hb4
          rcases Nat.lt_or_ge q m with h1 | h1
          · have hm1 : q < len0 := by omega
            have hm2 : q < 100 := by omega
            obtain ⟨b, off, rfl, hc⟩ := hrow.2.2 (by omega)
            obtain ⟨cU, cV, wU, wV⟩ := hc q hm1
            obtain ⟨X, hX, hX2⟩ := nat_of_u64 wU
            obtain ⟨r1, r2, r3⟩ := cat_read U0 V0 h1
            have hn := amo_lt (V0 q) (show 0 < 65 by omega)
            rw [hX, Int.toNat_natCast] at r2
            rw [hX] at cU
            have dU := cell_keep hb cU
            have dV := cell_keep hb cV
            have am := fun W => among_any (V0 q) 65 W (by omega) (by omega)
            have hget := fun W h => get_any W w.heap.size gr R (pack (cat U0 V0 m)) (cat U0 V0 q).length (amo (V0 q) 65 : Nat) h hpb
            rw [r1, r2, r3] at hget
            have hlow := fun W => lawlow_any X (amo (V0 q) 65) W hX2 (by omega)
            have HGET := Lib.hid hget
            have HLOW := Lib.hid hlow
            have AM := Lib.hid am
            clear hget hlow am r1 r2 r3 hc wU wV hX hrow
            generalize amo (V0 q) 65 = n at *
            generalize V0 q = v at *
            generalize (cat U0 V0 q).length = p at *
            obtain ⟨p', hp'⟩ : ∃ p', (cat U0 V0 (q + 1)).length = p' := ⟨_, rfl⟩
            have HP := Lib.hid hp'
            rw [hp'] at HGET
            clear hp'
            generalize X % 2 ^ n = Y at *
            go_wp2_with (first
              | (go_at_call 17; refine (AM.out _).mono ?_; rintro e w' ⟨rfl, rfl⟩)
              | (go_at_call 20; refine (HGET.out _ hE).mono ?_; rintro e w5 ⟨rfl, hE5, hT5⟩; have hb5 := hb.trans (hT5.below hb.size (by omega) (fun _ h => by cases h)); have eU := cell_keep hb5 cU; have hD5 := hD.touch hT5 (by omega) (by simp) (fun e => by have := (hrb _ e).2; omega) (by cases B <;> simp))
              | (go_at_call 18; refine (HLOW.out _).mono ?_; rintro e w' ⟨rfl, rfl⟩))
            go_roundw
            case rel => exact ⟨q + 1, rfl, h1, by rw [HP.out]; exact hE5, hD5, hb5⟩
            case measure => simp [intOf]; omega
          · obtain rfl : q = m := by omega
            clear hrow
            generalize cat U0 V0 q = CL at *
            go_wp2_with (first
              | (go_at_call 22; refine (At_any _ w.heap.size gr R _ _ hE).mono ?_; rintro e w' ⟨rfl, rfl⟩)
              | (go_at_call 12; refine (Len_any _ w.heap.size g B _ hD).mono ?_; rintro e w' ⟨rfl, rfl⟩)
              | (go_at_call 21; refine (Left_any _ w.heap.size gr R _ _ hE).mono ?_; rintro e w' ⟨rfl, nq, rfl⟩))
            go_ret
            exact ⟨ret_bool (by simp; omega), below_drewN hb nq⟩

set_option maxRecDepth 100000 in
theorem lifted (os : Os) (started : os.Started) (H : Type) (enc : TypeId × Value → H) :
    ReturnsInHanded {} Try.checked os 8 .any (Rows.bitsBackSpec.pre6 enc Try.prog Try.f8 Rows.bitsBackRow.domain false) (Rows.bitsBackSpec.post enc Try.prog Try.f8 false true false false) := by
  refine returnsInHanded_of_change (C := Try.checked) own started (by kernel_rfl) Try.func8
    (ChangeSpec.witness6 (enc := enc) (C := Try.checked) false ⟨#[], #[.slice none 0 0], []⟩ 8 (by kernel_rfl) (by kernel_rfl) (by kernel_rfl) (by kernel_rfl)) ?_
  intro W base args ds gs before hval0 hW hcnd _
  have hval : ∀ (j : Nat) t v, Try.f8.params[j]? = some t → args[j]? = some v → Value.okWide Try.prog W .any base t v := hval0
  have hW' := hW
  obtain ⟨p, q, hA0, hV, rfl, hfz, hnd⟩ := hW
  have hA : DataW.TrodAll enc Try.prog W 0 (fun _ => true) true Try.f8.params.toList args.toList ds p := hA0
  rw [Try.params8] at hA hval
  obtain ⟨v0, vs0, d0, ds0, p0, q0, hargs, rfl, rfl, h0, r0⟩ := trodAll_cons hA
  obtain ⟨rfl, rfl, rfl⟩ := trodAll_nil r0
  obtain rfl : args = #[v0] := by cases args; simp_all
  obtain ⟨rfl, rfl⟩ := trodVars_none hV
  have k0 := h0
  have lt0 : ∀ x ∈ p0, x.block < W.heap.size := by obtain ⟨m, hm⟩ := k0; exact DataW.trod_lt m _ _ _ hm
  obtain ⟨a0, len0, cap0, rfl⟩ := okWide_slice Try.underlying22 (hval 0 22 v0 rfl rfl)
  obtain ⟨U0, V0, w0⟩ : ∃ U V, IsPairs .u64 .i64 W a0 len0 cap0 U V := by
    obtain ⟨fuel, hf⟩ := h0
    exact pairs_of Try.underlying22 Try.underlying33 (by kernel_rfl) (by kernel_rfl) Try.underlying31 Try.underlying3 hf
  clear hA0 hval0
  refine (walk a0 len0 cap0 U0 V0 W w0).mono fun e W' ⟨he, bel⟩ => ?_
  subst he
  exact ⟨_, rfl, _, _, _, [], _, [], hW', trodAll_mk1 (shut_bool Try.underlying4 _), (trodAll_cons_mk (Below.trod laidOut (by kernel_rfl) (of_decide_eq_true (by kernel_rfl)) k0 bel lt0) trodAll_mk0), rfl, bel.frame _, fun h => by cases h⟩

theorem over : Rows.bitsBackRow.holds Try.pinned (OpenSpec.ofChange Rows.bitsBackSpec) :=
  OpenClaim.holds_of_wide 8 Try.f8 rfl rfl rfl rfl rfl rfl rfl ⟨rfl, rfl, rfl, rfl, rfl⟩ rfl rfl rfl rfl rfl (by kernel_rfl) Try.func8 (by kernel_rfl)
    (of_decide_eq_true (by kernel_rfl)) (by unfold Func.isWrapper; first | (rw [if_pos (by decide +kernel)]; kernel_rfl) | (rw [if_neg (by decide +kernel)]; exact ⟨rfl, rfl⟩))
    (fun os started H enc _ => lifted os started H enc)

theorem proved : Rows.BitsBackSaid := over
#print axioms proved
end Go.Proofs.Ytlgndfckmnninaa.bitsBack
