/- Walk of package bits: a reader's Get. Conditions: as stated. -/
import Derived.Test.YtlgndfckmnninaaDoorRdr
namespace Go.Proofs.YtlgndfckmnninaaDoor
open Go.RowKit

/-- Bits beside bits in a word. -/
theorem or64 (X Y k t : Nat) (hX : X < 2 ^ t) (ht : t + k ≤ 64) (hY : Y < 2 ^ k) : bits BinOp.or IntKind.u64 (IntKind.u64.wrap ((X : Int) * 2 ^ k)) (Y : Int) = ((X * 2 ^ k + Y : Nat) : Int) := by
  have e : (X : Int) * 2 ^ k = ((X * 2 ^ k : Nat) : Int) := by push_cast; rfl
  have h1 : X * 2 ^ k + 2 ^ k ≤ 18446744073709551616 := by
    have : (X + 1) * 2 ^ k ≤ 2 ^ t * 2 ^ k := Nat.mul_le_mul_right _ hX
    rw [← Nat.pow_add, Nat.add_mul, Nat.one_mul] at this
    have h2 : 2 ^ (t + k) ≤ 2 ^ 64 := Nat.pow_le_pow_right (by omega) ht
    omega
  have hm : X * 2 ^ k % 2 ^ k = 0 := Nat.mul_mod_left _ _
  rw [e, IntKind.wrap_u64]
  have hp := Nat.two_pow_pos k
  generalize hZ : X * 2 ^ k = Z at *
  rw [show (Z : Int) % 18446744073709551616 = (Z : Int) by generalize 2 ^ k = K at *; omega, u64_or_nat Z Y (by generalize 2 ^ k = K at *; omega) (by generalize 2 ^ k = K at *; omega), nat_join k Z Y hm hY]

theorem low_same (x n : Nat) (w : World) (hx : x < 18446744073709551616) (hn : n ≤ 64) :
    Calls Tryd.prog 58 #[.int .u64 x, .int .i64 n] w fun e w' => e = .returned (.int .u64 ((x % 2 ^ n : Nat) : Int)) ∧ w' = w :=
  (low_any x n w hx hn).mono fun _ _ ⟨h1, h2⟩ => ⟨h1, h2.symm⟩

set_option maxHeartbeats 1600000 in
theorem get_nat (w : World) (base g : Nat) (R : Option Nat) (bs : List Int) (p n : Nat) (h : Rd w base g R bs p) (hn : n ≤ 64) (hl : p + n ≤ 8 * bs.length) (hbs : ∀ x ∈ bs, Byte x) :
    Calls Tryd.prog 32 #[.pointer (some ⟨g, 0, none⟩), .int .i64 n] w fun e w' =>
      e = .returned (.tuple #[.int .u64 ((val (((unB bs).drop p).take n) : Nat) : Int), .int .i64 0]) ∧ Rd w' base g R bs (p + n) ∧ Touch g none w w' := by
  have hle : ¬ (((8 * bs.length - p : Nat) : Int) < (n : Int)) := by omega
  have hd : decide (((8 * bs.length - p : Nat) : Int) < (n : Int)) = false := decide_eq_false hle
  have hd2 : decide (8 * bs.length - p < n) = false := by simp; omega
  go_enter Tryd.func32, Tryd.ntmps32
  go_wp2_with (first
    | (go_at_call 71; refine (rdIs_any _ base g R bs p h).mono ?_; rintro e w' ⟨rfl, rfl⟩)
    | (go_at_call 72; refine (Left_any _ base g R bs p h).mono ?_; rintro e w' ⟨rfl, nq, rfl⟩))
  go_loopw [1, 6] (fun a xv wr => ∃ m X : Nat, a = .int .i64 m ∧ xv = .int .u64 X ∧ m ≤ n ∧ X < 2 ^ (n - m) ∧ Hid (X = val (((unB bs).drop p).take (n - m))) ∧ Rd wr base g R bs (p + (n - m)) ∧ Touch g none w wr) (fun a _ _ => (intOf a).toNat)
  case atStart => exact ⟨n, 0, rfl, rfl, Nat.le_refl _, Nat.two_pow_pos _, by rw [Nat.sub_self]; exact rfl, by rw [Nat.sub_self]; exact h.drewN nq, (Touch.refl g none w).drewN nq⟩
  case round =>
    obtain ⟨m, X, rfl, rfl, hmn, hX, hXe, hW, hT⟩ := hrel
    rcases Nat.eq_zero_or_pos m with h0 | h0
    · subst h0
      rw [Nat.sub_zero] at hXe hW
      go_wp2
      go_ret2
      rw [hXe.out]
      exact ⟨rfl, hW, hT⟩
    · obtain ⟨q, hq⟩ : ∃ q, p + (n - m) = q := ⟨_, rfl⟩
      rw [hq] at hW
      obtain ⟨hg0, A, N, c, hg, hr, hAR, hne, hp8, hN⟩ := id hW
      have hNl : bs.length = N := hr.1
      have hqb : q / 8 < bs.length := by omega
      obtain ⟨b0, off, rfl, hcell⟩ := hr.2.2.2 (by omega)
      have c0 := hg.cell 0
      have c1 := hg.cell 1
      have f1 := hg.frozen 1
      have cb := hcell (q / 8) (by omega)
      rw [List.getElem?_eq_getElem hqb] at cb
      simp at c0 c1 cb
      obtain ⟨y0, y1⟩ := hbs bs[q / 8] (List.getElem_mem _)
      obtain ⟨Y, hY⟩ : ∃ Y : Nat, bs[q / 8] = Y := Int.eq_ofNat_of_zero_le y0
      rw [hY] at cb y1
      have hbb := fun k hk => byte_bits bs q k hqb hk
      rw [hY, Int.toNat_natCast] at hbb
      have i2 : (q : Int) / 8 < (N : Int) := by omega
      have HBB := Lib.hid hbb
      have HQ := Lib.hid hq
      have HNL := Lib.hid hNl
      clear hbb hq hNl hcell hr hY hAR hne hg0
      have i1 : (0 : Int) ≤ (q : Int) / 8 := by omega
      have i3 : ((q : Int) / 8).toNat = q / 8 := by omega
      obtain ⟨f, he⟩ : ∃ f : Nat, (8 : Int) - (q : Int) % 8 = (f : Int) := ⟨8 - q % 8, by omega⟩
      have hf8 : q % 8 + f ≤ 8 := by omega
      have hf9 : 8 ≤ q % 8 + f := by omega
      have hf1 : 1 ≤ f := by omega
      rcases Nat.lt_or_ge f m with hlt | hge
      · obtain ⟨m', hm'⟩ : ∃ m' : Nat, (m : Int) - (f : Int) = (m' : Int) := ⟨m - f, by omega⟩
        have hlt' : ¬ (m : Int) ≤ (f : Int) := by omega
        have hmm : m' + f = m := by omega
        obtain ⟨Z, hZ⟩ : ∃ Z, Y % 2 ^ f = Z := ⟨_, rfl⟩
        have hZf : Z < 2 ^ f := by rw [← hZ]; exact Nat.mod_lt _ (Nat.two_pow_pos f)
        have low2 := fun W => low_same Y f W (by omega) (by omega)
        rw [hZ] at low2
        obtain ⟨V, hv, hV⟩ : ∃ V : Nat, bits BinOp.or IntKind.u64 (IntKind.u64.wrap ((X : Int) * 2 ^ f)) (Z : Int) = (V : Int) ∧ V = X * 2 ^ f + Z := ⟨_, or64 X Z f (n - m) hX (by omega) hZf, rfl⟩
        have hnew : V = val (((unB bs).drop p).take (n - m')) := by
          rw [show n - m' = (n - m) + f by omega, take_more, val_append, ← hXe.out, HQ.out, HBB.out f hf8, length_bitsOf, val_bitsOf, hV, ← hZ, show 8 - q % 8 - f = 0 by omega, Nat.pow_zero, Nat.div_one]
        have hVlt : V < 2 ^ (n - m') := by
          rw [hnew]
          refine Nat.lt_of_lt_of_le (val_lt _) (Nat.pow_le_pow_right (by omega) ?_)
          rw [List.length_take]; omega
        have hq' : q + f ≤ 8 * bs.length := by omega
        have HV := Lib.hid hnew
        have LOW2 := Lib.hid low2
        have HMM := Lib.hid hmm
        have hmn' : m' ≤ n := by omega
        have hm'm : m' < m := by omega
        clear hV hnew low2 hZ hmm hf9
        go_wp2
        go_quiet (fail)
        have hWd := hW.drewN nq
        have hTd := hT.drewN nq
        have d1 : (wr.drewN nq).cell? ⟨g, 1, none⟩ = some (.int .i64 (q : Int)) := c1
        have g1 : (wr.drewN nq).frozen? ⟨g, 1, none⟩ = false := f1
        generalize wr.drewN nq = W at hWd hTd d1 g1 ⊢
        clear hW hT c0 c1 f1 cb hg
        go_wp2
        go_quiet ((go_at_call 58; exact Calls.quiet_of_same (LOW2.out _)))
        go_wp2
        go_roundw
        case rel => exact ⟨m', V, rfl, rfl, hmn', hVlt, HV.out, by rw [show p + (n - m') = q + f by have := HQ.out; have := HMM.out; omega]; exact (hWd.drewN nq).set_ hq', (hTd.drewN nq).set_ 1 _⟩
        case measure => simp [intOf]; omega
      · obtain ⟨s, hs⟩ : ∃ s : Nat, (f : Int) - (m : Int) = (s : Int) := ⟨f - m, by omega⟩
        have hge' : (m : Int) ≤ (f : Int) := by omega
        have hms : m + s = f := by omega
        obtain ⟨T, hYd, hT2⟩ : ∃ T : Nat, (Y : Int) / 2 ^ s = (T : Int) ∧ Y / 2 ^ s = T := ⟨_, by push_cast; rfl, rfl⟩
        obtain ⟨Z, hZ⟩ : ∃ Z, T % 2 ^ m = Z := ⟨_, rfl⟩
        have hZf : Z < 2 ^ m := by rw [← hZ]; exact Nat.mod_lt _ (Nat.two_pow_pos m)
        have hYs : T < 18446744073709551616 := Nat.lt_of_le_of_lt (by rw [← hT2]; exact Nat.div_le_self _ _) (show Y < _ by omega)
        have low2 := fun W => low_same T m W hYs (by omega)
        rw [hZ] at low2
        obtain ⟨V, hv, hV⟩ : ∃ V : Nat, bits BinOp.or IntKind.u64 (IntKind.u64.wrap ((X : Int) * 2 ^ m)) (Z : Int) = (V : Int) ∧ V = X * 2 ^ m + Z := ⟨_, or64 X Z m (n - m) hX (by omega) hZf, rfl⟩
        have hnew : V = val (((unB bs).drop p).take (n - 0)) := by
          rw [show n - 0 = (n - m) + m by omega, take_more, val_append, ← hXe.out, HQ.out, HBB.out m (by omega), length_bitsOf, val_bitsOf, hV, ← hZ, show 8 - q % 8 - m = s by omega, hT2]
        have hVlt : V < 2 ^ (n - 0) := by
          rw [hnew]
          refine Nat.lt_of_lt_of_le (val_lt _) (Nat.pow_le_pow_right (by omega) ?_)
          rw [List.length_take]; omega
        have hq' : q + m ≤ 8 * bs.length := by omega
        have HV := Lib.hid hnew
        have LOW2 := Lib.hid low2
        have HMS := Lib.hid hms
        clear hV hnew low2 hZ hms hf9 hT2
        go_wp2
        go_quiet (fail)
        have hWd := hW.drewN nq
        have hTd := hT.drewN nq
        have d1 : (wr.drewN nq).cell? ⟨g, 1, none⟩ = some (.int .i64 (q : Int)) := c1
        have g1 : (wr.drewN nq).frozen? ⟨g, 1, none⟩ = false := f1
        generalize wr.drewN nq = W at hWd hTd d1 g1 ⊢
        clear hW hT c0 c1 f1 cb hg
        go_wp2
        go_quiet ((go_at_call 58; exact Calls.quiet_of_same (LOW2.out _)))
        go_wp2
        go_roundw
        case rel => exact ⟨0, V, rfl, rfl, Nat.zero_le _, hVlt, HV.out, by rw [show p + (n - 0) = q + m by have := HQ.out; omega]; exact (hWd.drewN nq).set_ hq', (hTd.drewN nq).set_ 1 _⟩
        case measure => simp [intOf]; omega
end Go.Proofs.YtlgndfckmnninaaDoor
