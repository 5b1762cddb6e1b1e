/- Walks of package bits: whatever is asked of a reader. Conditions: as stated. -/
import Derived.Test.YtlgndfckmnninaaDoorRdrG
namespace Go.Proofs.YtlgndfckmnninaaDoor
open Go.RowKit

/-- What a reader of bits answers: its error. -/
def getCode (len p : Nat) (n : Int) : Int := if n < 0 ∨ 64 < n then 2 else if (8 * len : Int) < p + n then 50 else 0
/-- The number. -/
def getVal (bs : List Int) (p : Nat) (n : Int) : Nat := if getCode bs.length p n = 0 then val (((unB bs).drop p).take n.toNat) else 0
/-- The place behind. -/
def getAt (len p : Nat) (n : Int) : Nat := if getCode len p n = 0 then p + n.toNat else p

theorem getCode_cases (len p : Nat) (n : Int) : (n < 0 ∧ getCode len p n = 2) ∨ (64 < n ∧ getCode len p n = 2) ∨ (∃ N : Nat, n = N ∧ N ≤ 64 ∧ 8 * len < p + N ∧ getCode len p n = 50) ∨ ∃ N : Nat, n = N ∧ N ≤ 64 ∧ p + N ≤ 8 * len ∧ getCode len p n = 0 := by
  rcases Int.lt_or_le n 0 with h | h
  · exact .inl ⟨h, by unfold getCode; rw [if_pos (.inl h)]⟩
  · obtain ⟨N, rfl⟩ := Int.eq_ofNat_of_zero_le h
    by_cases h2 : N ≤ 64
    · right; right
      have h3 : ¬ ((N : Int) < 0 ∨ 64 < (N : Int)) := by omega
      by_cases h4 : 8 * len < p + N
      · exact .inl ⟨N, rfl, h2, h4, by unfold getCode; rw [if_neg h3, if_pos (by omega)]⟩
      · exact .inr ⟨N, rfl, h2, by omega, by unfold getCode; rw [if_neg h3, if_neg (by omega)]⟩
    · right; left
      exact ⟨by omega, by unfold getCode; rw [if_pos (.inr (by omega))]⟩
theorem getVal_bad {bs : List Int} {p : Nat} {n : Int} (h : getCode bs.length p n ≠ 0) : getVal bs p n = 0 := by unfold getVal; rw [if_neg h]
theorem getAt_bad {len p : Nat} {n : Int} (h : getCode len p n ≠ 0) : getAt len p n = p := by unfold getAt; rw [if_neg h]
theorem getVal_good {bs : List Int} {p N : Nat} (h : getCode bs.length p N = 0) : getVal bs p N = val (((unB bs).drop p).take N) := by unfold getVal; rw [if_pos h, Int.toNat_natCast]
theorem getAt_good {len p N : Nat} (h : getCode len p N = 0) : getAt len p N = p + N := by unfold getAt; rw [if_pos h, Int.toNat_natCast]

theorem get_any (w : World) (base g : Nat) (R : Option Nat) (bs : List Int) (p : Nat) (n : Int) (h : Rd w base g R bs p) (hbs : ∀ x ∈ bs, Byte x) :
    Calls Tryd.prog 32 #[.pointer (some ⟨g, 0, none⟩), .int .i64 n] w fun e w' =>
      e = .returned (.tuple #[.int .u64 ((getVal bs p n : Nat) : Int), .int .i64 (getCode bs.length p n)]) ∧ Rd w' base g R bs (getAt bs.length p n) ∧ Touch g none w w' := by
  rcases getCode_cases bs.length p n with ⟨h1, h2⟩ | ⟨h1, h2⟩ | ⟨N, rfl, h3, h4, h2⟩ | ⟨N, rfl, h3, h4, h2⟩
  · rw [getVal_bad (by omega), getAt_bad (by omega), h2]
    clear h2
    have d1 : decide (n < 0) = true := by simp [h1]
    go_enter Tryd.func32, Tryd.ntmps32
    go_wp2_with (first
      | (go_at_call 71; refine (rdIs_any _ base g R bs p h).mono ?_; rintro e w' ⟨rfl, rfl⟩)
      | (go_at_call 72; refine (Left_any _ base g R bs p h).mono ?_; rintro e w' ⟨rfl, nq, rfl⟩))
    go_ret2
    exact ⟨rfl, h, Touch.refl g none _⟩
  · rw [getVal_bad (by omega), getAt_bad (by omega), h2]
    clear h2
    go_enter Tryd.func32, Tryd.ntmps32
    go_wp2_with (first
      | (go_at_call 71; refine (rdIs_any _ base g R bs p h).mono ?_; rintro e w' ⟨rfl, rfl⟩)
      | (go_at_call 72; refine (Left_any _ base g R bs p h).mono ?_; rintro e w' ⟨rfl, nq, rfl⟩))
    go_ret2
    exact ⟨rfl, h, Touch.refl g none _⟩
  · have hpl := h.place
    rw [getVal_bad (by omega), getAt_bad (by omega), h2]
    clear h2
    have hle : ((8 * bs.length - p : Nat) : Int) < (N : Int) := by omega
    have hd : decide (((8 * bs.length - p : Nat) : Int) < (N : Int)) = true := decide_eq_true hle
    have hd2 : decide (8 * bs.length - p < N) = true := by simp; omega
    have hd3 : 8 * bs.length - p < N := by omega
    go_enter Tryd.func32, Tryd.ntmps32
    go_wp2_with (first
      | (go_at_call 71; refine (rdIs_any _ base g R bs p h).mono ?_; rintro e w' ⟨rfl, rfl⟩)
      | (go_at_call 72; refine (Left_any _ base g R bs p h).mono ?_; rintro e w' ⟨rfl, nq, rfl⟩))
    go_ret2
    exact ⟨rfl, h.drewN nq, (Touch.refl g none _).drewN nq⟩
  · rw [h2, getVal_good h2, getAt_good h2]
    exact get_nat w base g R bs p N h h3 h4 hbs

/-- The reference's reader: block g; R: the block of the bytes it reads. -/
def Rr (w : World) (g : Nat) (R : Option Nat) (bs : List Int) (p : Nat) : Prop :=
  ∃ A n c, Blk w g 63 #[.slice A n c, .int .i64 (p : Int)] ∧ RB w A n c bs ∧ (A.map (·.block) = R ∨ n = 0) ∧ R ≠ some g ∧ p ≤ 8 * n ∧ n ≤ 1000000

/-- Bytes that are read, in another block, are as they were; none need no block. -/
theorem RB.touch_any {g : Nat} {B : Option Nat} {w w' : World} {A : Option Addr} {n c : Nat} {xs : List Int} (h : RB w A n c xs) (ht : Touch g B w w') (hA : 0 < n → ∀ x, A = some x → x.block ≠ g ∧ some x.block ≠ B) : RB w' A n c xs := by
  rcases Nat.eq_zero_or_pos n with h0 | h0
  · exact ⟨h.1, h.2.1, h.2.2.1, fun hn => absurd hn (by omega)⟩
  · exact h.touch ht (hA h0)

section
variable {w w' : World} {base g g' : Nat} {R B' : Option Nat} {bs : List Int} {p : Nat}
theorem Rr.touch (h : Rr w g R bs p) (ht : Touch g' B' w w') (h1 : g ≠ g') (h2 : some g ≠ B') (h3 : R ≠ some g') (h4 : R = none ∨ R ≠ B') : Rr w' g R bs p := by
  obtain ⟨A, n, c, hg, hr, hR, hne, hp⟩ := h
  refine ⟨A, n, c, hg.touch ht h1 h2, hr.touch_any ht (fun hn x hx => ?_), hR, hne, hp⟩
  obtain rfl := hR.resolve_right (by omega)
  subst hx
  simp at h3 h4
  exact ⟨h3, h4⟩
theorem Rr.below (h : Rr w g R bs p) (hb : Below w.heap.size w w') : Rr w' g R bs p := by
  obtain ⟨A, n, c, hg, hr, rest⟩ := h
  exact ⟨A, n, c, hg.below hb, hr.below hb, rest⟩
theorem Rr.drewN (h : Rr w g R bs p) (n : Nat) : Rr (w.drewN n) g R bs p := h
theorem Rr.lt (h : Rr w g R bs p) : g < w.heap.size := by
  obtain ⟨A, n, c, hg, _⟩ := h
  exact hg.lt
theorem Rr.place (h : Rr w g R bs p) : p ≤ 8 * bs.length := by
  obtain ⟨A, n, c, hg, hr, _, _, hp, _⟩ := h
  have := hr.1
  omega
/-- The place moves on. -/
theorem Rr.set_ (h : Rr w g R bs p) {q : Nat} (hq : q ≤ 8 * bs.length) : Rr (w.setCell ⟨g, 1, none⟩ (.int .i64 (q : Int))) g R bs q := by
  obtain ⟨A, n, c, hg, hr, hR, hne, hp, hn⟩ := h
  refine ⟨A, n, c, hg.set_ 1 _, hr.touch_any ((Touch.refl g none w).set_ 1 _) (fun h0 x hx => ?_), hR, hne, by have := hr.1; omega, hn⟩
  obtain rfl := hR.resolve_right (by omega)
  subst hx
  simp at hne
  exact ⟨hne, by simp⟩
end

set_option maxHeartbeats 1600000 in
theorem refGet_nat (w : World) (g : Nat) (R : Option Nat) (bs : List Int) (p n : Nat) (h : Rr w g R bs p) (hn : n ≤ 64) (hl : p + n ≤ 8 * bs.length) (hbs : ∀ x ∈ bs, Byte x) :
    Calls Tryd.prog 33 #[.pointer (some ⟨g, 0, none⟩), .int .i64 n] w fun e w' =>
      e = .returned (.tuple #[.int .u64 ((val (((unB bs).drop p).take n) : Nat) : Int), .int .i64 0]) ∧ Rr w' g R bs (p + n) ∧ Touch g none w w' := by
  obtain ⟨A, N, c, hg, hr, hR, hne, hp, hN⟩ := id h
  obtain rfl : bs.length = N := hr.1
  have c0 := hg.cell 0
  have c1 := hg.cell 1
  simp at c0 c1
  have hle : ¬ ((8 * (bs.length : Int) - (p : Int)) < (n : Int)) := by omega
  have hd : decide ((8 * (bs.length : Int) - (p : Int)) < (n : Int)) = false := decide_eq_false hle
  go_enter Tryd.func33, Tryd.ntmps33
  go_wp2
  go_quiet (fail)
  go_wp2
  go_loopw [6, 7] (fun xv iv wr => ∃ m X : Nat, iv = .int .i64 m ∧ xv = .int .u64 X ∧ m ≤ n ∧ X < 2 ^ m ∧ Hid (X = val (((unB bs).drop p).take m)) ∧ Rr wr g R bs (p + m) ∧ Touch g none w wr) (fun _ iv _ => n - (intOf iv).toNat)
  case atStart => exact ⟨0, 0, rfl, rfl, Nat.zero_le _, Nat.two_pow_pos _, rfl, h.drewN nq, (Touch.refl g none w).drewN nq⟩
  case round =>
    obtain ⟨m, X, rfl, rfl, hmn, hX, hXe, hW, hT⟩ := hrel
    rcases Nat.lt_or_ge m n with h0 | h0
    · obtain ⟨q, hq⟩ : ∃ q, p + m = q := ⟨_, rfl⟩
      rw [hq] at hW
      obtain ⟨A, N, c, hg, hr, hAR, hne, hp8, hN⟩ := id hW
      have hNl : bs.length = N := hr.1
      have hqb : q / 8 < bs.length := by omega
      obtain ⟨b0, off, rfl, hcell⟩ := hr.2.2.2 (by omega)
      have c0 := hg.cell 0
      have c1 := hg.cell 1
      have f1 := hg.frozen 1
      have cb := hcell (q / 8) (by omega)
      rw [List.getElem?_eq_getElem hqb] at cb
      simp at c0 c1 cb
      obtain ⟨y0, y1⟩ := hbs bs[q / 8] (List.getElem_mem _)
      obtain ⟨Y, hY⟩ : ∃ Y : Nat, bs[q / 8] = Y := Int.eq_ofNat_of_zero_le y0
      rw [hY] at cb y1
      have hbb := byte_bits bs q 1 hqb (by omega)
      rw [hY, Int.toNat_natCast] at hbb
      have i2 : (q : Int) / 8 < (N : Int) := by omega
      have HBB := Lib.hid hbb
      have HQ := Lib.hid hq
      have HNL := Lib.hid hNl
      clear hbb hq hNl hcell hr hY hAR hne
      have i1 : (0 : Int) ≤ (q : Int) / 8 := by omega
      have i3 : ((q : Int) / 8).toNat = q / 8 := by omega
      go_wp2
      go_quiet (fail)
      have hWd := hW.drewN nq
      have hTd := hT.drewN nq
      have d1 : (wr.drewN nq).cell? ⟨g, 1, none⟩ = some (.int .i64 (q : Int)) := c1
      have g1 : (wr.drewN nq).frozen? ⟨g, 1, none⟩ = false := f1
      generalize wr.drewN nq = W at hWd hTd d1 g1 ⊢
      clear hW hT c0 c1 f1 cb hg
      have hX63 : X < 9223372036854775808 := Nat.lt_of_lt_of_le hX (show 2 ^ m ≤ 2 ^ 63 from Nat.pow_le_pow_right (by omega) (by omega))
      go_wp2
      go_loopw [8, 9] (fun bv kv wr => ∃ t Bv : Nat, kv = .int .i64 t ∧ bv = .int .i64 Bv ∧ q % 8 ≤ t ∧ t ≤ 7 ∧ Bv ≤ 255 ∧ Hid (Bv = Y / 2 ^ (t - q % 8)) ∧ wr = W) (fun _ kv _ => 7 - (intOf kv).toNat)
      case atStart => exact ⟨q % 8, Y, by simp, rfl, Nat.le_refl _, by omega, by omega, by rw [Nat.sub_self, Nat.pow_zero, Nat.div_one]; exact rfl, rfl⟩
      case round =>
        obtain ⟨t, Bv, rfl, rfl, ht1, ht2, hB, hBe, rfl⟩ := hrel
        have e1 : (Bv : Int).tdiv 2 = ((Bv / 2 : Nat) : Int) := rfl
        have e3 : (Bv : Int).tmod 2 = ((Bv % 2 : Nat) : Int) := rfl
        rcases Nat.lt_or_ge t 7 with h7 | h7
        · go_wp2
          go_roundw
          case rel => exact ⟨t + 1, Bv / 2, rfl, rfl, by omega, by omega, by omega, by rw [hBe.out, Nat.div_div_eq_div_mul, ← Nat.pow_succ, show (t - q % 8).succ = t + 1 - q % 8 by omega]; exact rfl, trivial⟩
          case measure => simp [intOf]; omega
        · obtain rfl : t = 7 := by omega
          have hnew : 2 * X + Bv % 2 = val (((unB bs).drop p).take (m + 1)) := by
            rw [take_more, val_append, ← hXe.out, HQ.out, HBB.out, length_bitsOf, val_bitsOf, hBe.out, show 8 - q % 8 - 1 = 7 - q % 8 by omega]
            omega
          have hq' : q + 1 ≤ 8 * bs.length := by have := HQ.out; omega
          have hnlt : 2 * X + Bv % 2 < 2 ^ (m + 1) := by rw [Nat.pow_succ]; omega
          have HN := Lib.hid hnew
          clear hnew
          go_wp2
          go_roundw
          case rel => exact ⟨m + 1, 2 * X + Bv % 2, rfl, rfl, h0, hnlt, HN.out, by rw [← Nat.add_assoc, HQ.out]; exact hWd.set_ hq', hTd.set_ 1 _⟩
          case measure => simp [intOf]; omega
    · have := Nat.le_antisymm h0 hmn
      subst this
      go_wp2
      go_ret2
      rw [hXe.out]
      exact ⟨rfl, hW, hT⟩
end Go.Proofs.YtlgndfckmnninaaDoor
