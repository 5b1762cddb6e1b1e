/- Walks of small helpers of the bits' laws. Conditions: as stated. -/
import Derived.Test.YtlgndfckmnninaaRdrX
import Derived.Test.YtlgndfckmnninaaRefB
namespace Go.Proofs.Ytlgndfckmnninaa
open Go.RowKit

theorem refGet_any (w : World) (g : Nat) (R : Option Nat) (bs : List Int) (p : Nat) (n : Int) (h : Rr w g R bs p) (hbs : ∀ x ∈ bs, Byte x) :
    Calls Try.prog 24 #[.pointer (some ⟨g, 0, none⟩), .int .i64 n] w fun e w' =>
      e = .returned (.tuple #[.int .u64 ((getVal bs p n : Nat) : Int), .int .i64 (getCode bs.length p n)]) ∧ Rr w' g R bs (getAt bs.length p n) ∧ Touch g none w w' := by
  rcases getCode_cases bs.length p n with ⟨h1, h2⟩ | ⟨h1, h2⟩ | ⟨N, rfl, h3, h4, h2⟩ | ⟨N, rfl, h3, h4, h2⟩
  · rw [getVal_bad (by omega), getAt_bad (by omega), h2]
    clear h2
    have d1 : decide (n < 0) = true := by simp [h1]
    go_enter Try.func24, Try.ntmps24
    go_wp2
    go_ret2
    exact ⟨rfl, h, Touch.refl g none _⟩
  · rw [getVal_bad (by omega), getAt_bad (by omega), h2]
    clear h2
    go_enter Try.func24, Try.ntmps24
    go_wp2
    go_ret2
    exact ⟨rfl, h, Touch.refl g none _⟩
  · have hpl := h.place
    rw [getVal_bad (by omega), getAt_bad (by omega), h2]
    clear h2
    obtain ⟨A, N', c, hg, hr, hR, hne, hp, hN⟩ := id h
    obtain rfl : bs.length = N' := hr.1
    have c0 := hg.cell 0
    have c1 := hg.cell 1
    simp at c0 c1
    have hle : (8 * (bs.length : Int) - (p : Int)) < (N : Int) := by omega
    have hd : decide ((8 * (bs.length : Int) - (p : Int)) < (N : Int)) = true := decide_eq_true hle
    go_enter Try.func24, Try.ntmps24
    go_wp2
    go_quiet (fail)
    go_wp2
    go_ret2
    exact ⟨rfl, h.drewN nq, (Touch.refl g none _).drewN nq⟩
  · rw [h2, getVal_good h2, getAt_good h2]
    exact refGet_nat w g R bs p N h h3 h4 hbs

theorem bytes_any (A : Option Addr) (n c : Nat) (xs : List Int) (w : World) (h : RB w A n c xs) (hn : n ≤ 1000000) :
    Calls Try.prog 23 #[.slice A n c] w fun e w' => ∃ v, e = .returned v ∧ w'.ownsRow w.heap.size 5 1 v n (bys xs) ∧ Below w.heap.size w w' := by
  have hB : Below w.heap.size w (w.alloc (.cells #[] 5)) := (Below.refl _ _).alloc (Nat.le_refl _) _
  have hR := h.below hB
  have hO := World.ownsRow_made (base := w.heap.size) (e := 5) (size := 1) w #[] 0 (Nat.le_refl _) (by simp [maxLen]) (by simp)
  go_enter Try.func23, Try.ntmps23
  go_wp2_with (at_builtin; refine app_row w.heap.size rfl _ _ _ 5 rfl Try.underlying36 Try.info5 _ 0 [] xs A n c rfl rfl hO hR hB (by simp) (by omega) ?_; intro v1 w1 hown1 hB1 hz1)
  go_ret
  exact ⟨v1, rfl, by simpa using hown1, hB1⟩

theorem same_any (A A' : Option Addr) (n c n' c' : Nat) (xs : List Int) (w : World) (h : RB w A n c xs) (h' : RB w A' n' c' xs) :
    Calls Try.prog 13 #[.slice A n c, .slice A' n' c'] w fun e w' => e = .returned (.bool true) ∧ w' = w := by
  have k1 := h.string (P := Try.prog) (src := 36) (dst := 9) Try.underlying36 Try.underlying5 Try.underlying9
  have k2 := h'.string (P := Try.prog) (src := 36) (dst := 9) Try.underlying36 Try.underlying5 Try.underlying9
  go_enter Try.func13, Try.ntmps13
  go_wp2
  go_ret
  exact ⟨rfl, rfl⟩

/-- A number as one of m numbers. -/
def amo (x : Int) (m : Nat) : Nat := ((IntKind.u64.wrap x).tmod m).toNat
theorem amo_eq (x : Int) {m : Nat} (h : 0 < m) : (IntKind.u64.wrap x).tmod m = ((amo x m : Nat) : Int) ∧ amo x m < m := by
  have h4 : (0 : Int) ≤ IntKind.u64.wrap x := by rw [IntKind.wrap_u64]; omega
  have h5 := Int.tmod_eq_emod_of_nonneg (b := (m : Int)) h4
  have := Int.emod_lt_of_pos (IntKind.u64.wrap x) (show (0 : Int) < m by omega)
  have := Int.emod_nonneg (IntKind.u64.wrap x) (show (m : Int) ≠ 0 by omega)
  unfold amo
  rw [h5]
  omega
theorem amo_lt (x : Int) {m : Nat} (h : 0 < m) : amo x m < m := (amo_eq x h).2
theorem among_any (x : Int) (m : Nat) (w : World) (h1 : 1 ≤ m) (h2 : m ≤ 1000000) :
    Calls Try.prog 17 #[.int .i64 x, .int .i64 m] w fun e w' => e = .returned (.int .i64 (amo x m)) ∧ w' = w := by
  have h3 : IntKind.u64.wrap (m : Int) = m := by rw [IntKind.wrap_u64]; omega
  obtain ⟨e1, hlt⟩ := amo_eq x (show 0 < m by omega)
  have e2 : wrap64 ((amo x m : Nat) : Int) = ((amo x m : Nat) : Int) := by unfold wrap64; omega
  go_enter Try.func17, Try.ntmps17
  go_wp2
  go_ret
  exact ⟨rfl, rfl⟩

theorem byte_of_wf {x : Int} (h : (Lit.int .u8 x).wf = true) : Byte x := by
  simp [Lit.wf, IntKind.min, IntKind.max, IntKind.signed, IntKind.bits] at h
  unfold Byte
  omega

theorem down_bit (x i : Nat) : (2 ^ i ≤ x % 2 ^ (i + 1) → x % 2 ^ (i + 1) - 2 ^ i = x % 2 ^ i) ∧ (¬ 2 ^ i ≤ x % 2 ^ (i + 1) → x % 2 ^ (i + 1) = x % 2 ^ i) := by
  have h := Nat.mod_mul_right_mod x (2 ^ i) 2
  have hp := Nat.two_pow_pos i
  have hlt := Nat.mod_lt x (show 2 ^ i * 2 > 0 by omega)
  rw [Nat.pow_succ]
  generalize x % (2 ^ i * 2) = a at *
  generalize 2 ^ i = q at *
  constructor
  · intro hq
    rw [← h, Nat.mod_eq_sub_mod hq, Nat.mod_eq_of_lt (by omega)]
  · intro hq
    rw [← h, Nat.mod_eq_of_lt (by omega)]
set_option maxHeartbeats 400000 in
theorem lawlow_any (x n : Nat) (w : World) (hx : x < 18446744073709551616) (hn : n ≤ 64) :
    Calls Try.prog 18 #[.int .u64 x, .int .i64 n] w fun e w' => e = .returned (.int .u64 ((x % 2 ^ n : Nat) : Int)) ∧ w' = w := by
  go_enter Try.func18, Try.ntmps18
  go_wp2
  go_loopw [0, 5] (fun xv iv wr => ∃ t X : Nat, iv = .int .i64 ((t : Int) - 1) ∧ xv = .int .u64 X ∧ n ≤ t ∧ t ≤ 64 ∧ X < 18446744073709551616 ∧ Hid (X = x % 2 ^ t) ∧ wr = w) (fun _ iv _ => (intOf iv + 1).toNat)
  case atStart => exact ⟨64, x, rfl, rfl, hn, Nat.le_refl _, hx, (Nat.mod_eq_of_lt hx).symm, rfl⟩
  case round =>
    obtain ⟨t, X, rfl, rfl, hnt, ht, hX, hXe, rfl⟩ := hrel
    rcases Nat.eq_or_lt_of_le hnt with h0 | h0
    · subst h0
      go_wp2
      go_ret
      exact ⟨ret_int (by rw [hXe.out]), rfl⟩
    · obtain ⟨s, rfl⟩ : ∃ s, t = s + 1 := ⟨t - 1, by omega⟩
      rw [show ((s + 1 : Nat) : Int) - 1 = (s : Int) by omega]
      have hw1 : IntKind.u64.wrap (s : Int) = (s : Int) := by rw [IntKind.wrap_u64]; omega
      have hw2 := wrap_pow (n := s) (by omega)
      obtain ⟨P, hP⟩ : ∃ P, 2 ^ s = P := ⟨_, rfl⟩
      have hd := down_bit x s
      have hsub := Nat.sub_le X P
      rw [← hXe.out] at hd
      rw [hP] at hw2 hd
      have hPl := pow_lt64 (n := s) (by omega)
      rw [hP] at hPl
      have HP := Lib.hid hP
      clear hP
      rcases Nat.lt_or_ge X P with hlt | hge
      · have hY := Lib.hid (hd.2 (by omega))
        clear hd
        go_wp2
        go_roundw
        case rel => exact ⟨s, X, rfl, rfl, by omega, by omega, hX, by rw [hY.out]; exact congrArg (x % ·) HP.out.symm, trivial⟩
        case measure => simp [intOf]
      · have hY := Lib.hid (hd.1 hge)
        clear hd
        go_wp2
        go_roundw
        case rel => exact ⟨s, X - P, rfl, by rw [show (X : Int) - (P : Int) = ((X - P : Nat) : Int) by omega], by omega, by omega, by omega, by rw [hY.out]; exact congrArg (x % ·) HP.out.symm, trivial⟩
        case measure => simp [intOf]

theorem RB.lit (w : World) (e : TypeId) (xs : List Int) (h : xs.length ≤ 1000000) : RB (w.alloc (.cells (bys xs).toArray e)) (some ⟨w.heap.size, 0, none⟩) xs.length xs.length xs := by
  refine ⟨rfl, Nat.le_refl _, by omega, fun _ => ⟨_, _, rfl, fun j hj => ?_⟩⟩
  rw [World.cell?_alloc_at _ _ _ _ rfl]
  simp only [Nat.zero_add, List.getElem?_toArray]
  exact bys_get xs j hj
theorem ex_bits : putBits (putBits [] 3 5) 1 1 = [true, false, true, true] := by decide
theorem ex_pack : pack [true, false, true, true] = [176] := by rw [pack_small (by simp) (by simp)]; rfl
theorem works_any (w : World) : Calls Try.prog 16 #[] w fun e w' => e = .returned (.bool true) ∧ Below w.heap.size w w' := by
  go_enter Try.func16, Try.ntmps16
  go_wp2_with fail
  refine (NewWriter_any w w.heap.size (Nat.le_refl _)).mono ?_
  rintro e w1 ⟨g, rfl, hg, hW, hB⟩
  go_wp2_with fail
  refine (put_any w1 w.heap.size g none [] 5 3 hW (by omega) (by simp) hB.size).mono ?_
  rintro e w2 ⟨rfl, B2, hW2, hB2, hT2⟩
  go_wp2_with fail
  refine (put_any w2 w.heap.size g B2 _ 1 1 hW2 (by omega) (by decide) (Nat.le_trans hB.size hT2.size)).mono ?_
  rintro e w3 ⟨rfl, B3, hW3, hB3, hT3⟩
  rw [ex_bits] at hW3
  have hR3 := hW3.row
  have hR2 := hW2.row
  have hb2 : Below w.heap.size w w2 := hB.trans (hT2.below hB.size hg (fun _ h => by cases h))
  have hb3 : Below w.heap.size w w3 := hb2.trans (hT3.below (Nat.le_trans hB.size hT2.size) hg (fun k hk => (hR2 k hk).1))
  generalize putCode (putBits [] 3 5).length 1 = u1
  generalize putCode 0 3 = u2
  go_wp2_with fail
  refine (WBytes_any w3 w.heap.size g B3 _ hW3 (by simp)).mono ?_
  rintro e w4 ⟨v, rfl, hO, hB4⟩
  rw [ex_pack] at hO
  obtain ⟨A, c, rfl, hR⟩ := RB.of_own hO
  have hW4 := hW3.below hB4
  have hBa : Below w4.heap.size w4 (w4.alloc (.cells (bys [176]).toArray 5)) := (Below.refl _ _).alloc (Nat.le_refl _) _
  go_wp2_with fail
  refine (same_any A (some ⟨w4.heap.size, 0, none⟩) 1 c 1 1 [176] _ (hR.below hBa) (RB.lit w4 5 [176] (by simp))).mono ?_
  rintro e w5 ⟨rfl, rfl⟩
  go_wp2_with fail
  refine (Len_any _ w.heap.size g B3 _ (hW4.below hBa)).mono ?_
  rintro e w6 ⟨rfl, rfl⟩
  go_wp2_with fail
  go_ret
  exact ⟨rfl, hb3.trans ((hB4.mono hb3.size).trans (hBa.mono (Nat.le_trans hb3.size hB4.size)))⟩
end Go.Proofs.Ytlgndfckmnninaa
