/- Walks of package vint: what is read. Conditions: as stated. -/
import Derived.Test.YtkibglmmncpdaaaVintW
import Derived.LoopTactic
namespace Go.Proofs.Ytkibglmmncpdaaa
open Go.RowKit

theorem Try.elem22 : Try.prog.elem 22 = 5 := by kernel_rfl
theorem slice_from (A : Option Addr) (n c k : Nat) (hk : k ≤ n) (W : World) :
    (Instr.slice 22 (.slice A n c) (some (.int .i64 (k : Int))) none none).run Try.prog W = .ok (.slice (if c = k then A else A.map (·.add k)) (n - k) (c - k)) W := by
  rw [run_slice_l W 22 A n c (by rw [Try.elem22]; exact Try.underlying22) .i64 k (by omega) (by omega), Try.elem22]
  simp [go_sem]

/-- What Read gives at a place: the number, the place behind it, what went wrong. -/
def rres (k : Nat) (l : List Int) : Nat × Nat × Int := ((rdv 0 0 l).1, if (rdv 0 0 l).2.2 = 0 then k + (rdv 0 0 l).2.1 else 0, (rdv 0 0 l).2.2)

theorem rres_of {k m c : Nat} {e : Int} {l : List Int} (h : rdv 0 0 l = (m, c, e)) : rres k l = (m, if e = 0 then k + c else 0, e) := by
  unfold rres; rw [h]

theorem rres_cases (k : Nat) {l : List Int} (hb : ∀ x ∈ l, Byte x) : rres k l = (0, 0, 7) ∨ rres k l = (0, 0, 10) ∨
    ∃ n c, rres k l = (n, k + c, 0) ∧ n < 18446744073709551616 ∧ c = (enc n).length ∧ enc n = l.take c ∧ 1 ≤ c ∧ c ≤ l.length := by
  rcases rdv_cases hb with h | h | ⟨n, c, h, hr⟩
  · exact .inl (rres_of h)
  · exact .inr (.inl (rres_of h))
  · exact .inr (.inr ⟨n, c, rres_of h, hr⟩)

theorem ret_tuple3 {k1 k2 k3 : IntKind} {a b c a' b' c' : Int} (h1 : a = a') (h2 : b = b') (h3 : c = c') : Ending.returned (.tuple #[.int k1 a, .int k2 b, .int k3 c]) = .returned (.tuple #[.int k1 a', .int k2 b', .int k3 c']) := by rw [h1, h2, h3]

/-- The bits of a byte, moved, beside those that have come. -/
theorem joins (i a : Nat) (x : Int) (h9 : i ≤ 9) (ha : a < 128 ^ i) (x0 : 0 ≤ x) (x1 : x ≤ 255) (hx : i = 9 → x ≤ 1) :
    bits BinOp.or IntKind.u64 (a : Int) (IntKind.u64.wrap (IntKind.u64.wrap (bits BinOp.and IntKind.u8 x 127) * 2 ^ (7 * i))) = ((a + x.toNat % 128 * 128 ^ i : Nat) : Int) := by
  obtain ⟨y, rfl⟩ := Int.eq_ofNat_of_zero_le x0
  rw [u8_and y 127 (by omega) (by omega) (by omega) (by omega)]
  have e1 : (y : Int).toNat &&& (127 : Int).toNat = y % 128 := by
    rw [Int.toNat_natCast]
    exact Nat.and_two_pow_sub_one_eq_mod y 7
  rw [e1, IntKind.wrap_u64, IntKind.wrap_u64]
  have hp : 128 ^ i ≤ 128 ^ 9 := Nat.pow_le_pow_right (by omega) h9
  have h2 : (2 : Nat) ^ (7 * i) = 128 ^ i := by rw [Nat.pow_mul]
  have hle : y % 128 * 128 ^ i < 18446744073709551616 := by
    rcases Nat.lt_or_ge i 9 with h | h
    · have hp8 : 128 ^ i ≤ 128 ^ 8 := Nat.pow_le_pow_right (by omega) (by omega)
      calc y % 128 * 128 ^ i ≤ 127 * 128 ^ 8 := Nat.mul_le_mul (by omega) hp8
        _ < 18446744073709551616 := by omega
    · obtain rfl : i = 9 := by omega
      have := hx rfl
      have : y % 128 ≤ 1 := by omega
      calc y % 128 * 128 ^ 9 ≤ 1 * 128 ^ 9 := Nat.mul_le_mul_right _ this
        _ < 18446744073709551616 := by omega
  have e2 : ((y % 128 : Nat) : Int) % 18446744073709551616 * 2 ^ (7 * i) % 18446744073709551616 = ((y % 128 * 128 ^ i : Nat) : Int) := by
    have : (2 : Int) ^ (7 * i) = ((128 ^ i : Nat) : Int) := by rw [← h2]; push_cast; rfl
    rw [this, show ((y % 128 : Nat) : Int) % 18446744073709551616 = ((y % 128 : Nat) : Int) by omega, ← Int.natCast_mul]
    omega
  rw [e2, u64_or_nat _ _ (by have : a < 128 ^ 9 := by omega
                             omega) hle, Int.toNat_natCast, Nat.or_comm, nat_join (7 * i) _ _ (by rw [h2]; exact Nat.mul_mod_left _ _) (by rw [h2]; exact ha), Nat.add_comm]

set_option maxHeartbeats 800000 in
theorem read_any (A : Option Addr) (n c : Nat) (xs : List Int) (k : Nat) (w : World) (h : RB w A n c xs) (hn : n ≤ 1000000000) (hk : k ≤ n) (hb : ∀ x ∈ xs, Byte x) :
    Calls Try.prog 21 #[.slice A n c, .int .i64 k] w fun e w' =>
      e = .returned (.tuple #[.int .u64 (rres k (xs.drop k)).1, .int .i64 (rres k (xs.drop k)).2.1, .int .i64 (rres k (xs.drop k)).2.2]) ∧ w = w' := by
  have hc : n ≤ c := h.2.1
  have hcm : c ≤ 9223372036854775807 := h.2.2.1
  have hR := h.cut hk
  generalize hrest : xs.drop k = rest at hR ⊢
  have hbr : ∀ x ∈ rest, Byte x := fun x hx => hb x (by rw [← hrest] at hx; exact List.mem_of_mem_drop hx)
  have Hrest := Lib.hid hrest
  clear hrest hb
  generalize hA2 : (if c = k then A else A.map (·.add k)) = A2 at hR
  obtain ⟨r1, r2, r3, r4⟩ := hR
  have hsl : (Instr.slice 22 (.slice A n c) (some (.int .i64 k)) none none).run Try.prog w = .ok (.slice A2 (n - k) (c - k)) w := by
    rw [← hA2]
    exact slice_from A n c k hk w
  have hnc : n - k ≤ c - k := by omega
  clear hA2 r2 r3
  have hlen : (n : Int) - k = ((n - k : Nat) : Int) := by omega
  generalize hL : n - k = L at hsl r1 r4 hnc hlen
  generalize c - k = C2 at hsl hnc
  have hk0 : ¬ ((k : Int) < 0) := by omega
  have hkn : ¬ ((n : Int) < k) := by omega
  go_enter Try.func21, Try.ntmps21
  go_wp2
  go_loop [7, 22] (fun a i => ∃ (i' a' : Nat), i = .int .i64 i' ∧ a = .int .u64 a' ∧ i' ≤ L ∧ i' ≤ 9 ∧ a' < 128 ^ i' ∧ Hid (rdv i' a' (rest.drop i') = rdv 0 0 rest)) (fun _ i => L - (intOf i).toNat)
  case atStart => exact ⟨0, 0, rfl, rfl, by omega, by omega, by omega, rfl⟩
  case round =>
    obtain ⟨i', a', rfl, rfl, h1, h2, h3, he⟩ := hrel
    rcases Nat.lt_or_ge i' L with hlt | hge
    · obtain ⟨b, off, rfl, hc4⟩ := r4 (by omega)
      have hc5 := hc4 i' hlt
      have hxb : Byte (rest[i']?.getD 0) := by
        rw [List.getElem?_eq_getElem (show i' < rest.length by omega)]
        exact hbr _ (List.getElem_mem _)
      obtain ⟨x0, x1⟩ := hxb
      have hcons : rest.drop i' = (rest[i']?.getD 0) :: rest.drop (i' + 1) := by
        rw [List.drop_eq_getElem_cons (show i' < rest.length by omega), List.getElem?_eq_getElem (show i' < rest.length by omega)]; rfl
      have he2 := he.out
      rw [hcons] at he2
      clear hcons he r4 hc4 hbr
      generalize rest[i']?.getD 0 = x at *
      by_cases hbad : (i' = 9 ∧ 1 < x) ∨ (0 < i' ∧ x = 0)
      · rw [rdv_bad hbad] at he2
        have Hfin := Lib.hid (rres_of (k := k) he2.symm)
        clear he2
        go_wp2
        all_goals
          go_ret3
          rw [Hfin.out]
          exact ⟨rfl, rfl⟩
      · obtain ⟨V, hv, hV⟩ : ∃ V : Nat, bits BinOp.or IntKind.u64 (a' : Int) (IntKind.u64.wrap (IntKind.u64.wrap (bits BinOp.and IntKind.u8 x 127) * 2 ^ (7 * i'))) = (V : Int) ∧ V = a' + x.toNat % 128 * 128 ^ i' :=
          ⟨_, joins i' a' x h2 h3 x0 x1 (by omega), rfl⟩
        by_cases hend : x < 128
        · rw [rdv_end hbad hend, show x.toNat = x.toNat % 128 by omega, ← hV] at he2
          have Hfin := Lib.hid (rres_of (k := k) he2.symm)
          clear he2 hV
          go_wp2
          all_goals
            go_ret3
            rw [Hfin.out]
            exact ⟨ret_tuple3 (by first | rfl | (obtain rfl : i' = 9 := (by omega); simpa using hv)) (by push_cast; omega) rfl, rfl⟩
        · have h8 : i' < 9 := by omega
          have hV2 : V = a' + (x.toNat - 128) * 128 ^ i' := by rw [hV, show x.toNat % 128 = x.toNat - 128 by omega]
          rw [rdv_on hbad hend, ← hV2] at he2
          have He2 := Lib.hid he2
          have hVlt : V < 128 ^ (i' + 1) := by
            rw [hV2, Nat.pow_succ]
            have : (x.toNat - 128) * 128 ^ i' ≤ 127 * 128 ^ i' := Nat.mul_le_mul_right _ (by omega)
            omega
          clear he2 hV hV2
          go_wp2
          all_goals
            go_round
            case rel => exact ⟨i' + 1, V, by go_num, rfl, by omega, by omega, hVlt, He2⟩
            case measure => simp [intOf]; omega
    · have hend : rest.drop i' = [] := List.drop_of_length_le (by omega)
      have he2 := he.out
      rw [hend, rdv_nil] at he2
      have Hfin := Lib.hid (rres_of (k := k) he2.symm)
      clear he2 he hend r4 hbr
      go_wp2
      go_ret3
      rw [Hfin.out]
      exact ⟨rfl, rfl⟩

theorem ofInt_i64 (a : Nat) (ha : a < 9223372036854775808) : (BitVec.ofInt 64 (a : Int)).toNat = a := by
  rw [BitVec.ofInt_natCast, BitVec.toNat_ofNat]; exact Nat.mod_eq_of_lt (by omega)

theorem unz (m : Nat) (hm : m < 18446744073709551616) : bits BinOp.xor IntKind.i64 ((m : Int) / 2) (wrap64 (-wrap64 (bits BinOp.and IntKind.u64 (m : Int) 1))) = unzig m := by
  have e1 : bits BinOp.and IntKind.u64 (m : Int) 1 = ((m % 2 : Nat) : Int) := by
    have := u64_and_nat m 1 hm (by omega)
    rw [Nat.and_one_is_mod] at this
    exact this
  have e2 : (m : Int) / 2 = ((m / 2 : Nat) : Int) := by omega
  rw [e1, e2]
  unfold unzig
  rcases Nat.mod_two_eq_zero_or_one m with h | h
  · rw [h, if_neg (by omega)]
    show IntKind.i64.wrap ((BitVec.ofInt 64 ((m / 2 : Nat) : Int) ^^^ BitVec.ofInt 64 (wrap64 (-wrap64 0))).toNat : Int) = _
    rw [show wrap64 (-wrap64 0) = 0 from by unfold wrap64; omega, show BitVec.ofInt 64 0 = 0#64 from rfl, BitVec.xor_zero, ofInt_i64 _ (by omega), IntKind.wrap_i64]
    omega
  · rw [h, if_pos rfl]
    show IntKind.i64.wrap ((BitVec.ofInt 64 ((m / 2 : Nat) : Int) ^^^ BitVec.ofInt 64 (wrap64 (-wrap64 1))).toNat : Int) = _
    rw [show wrap64 (-wrap64 1) = -1 from by unfold wrap64; omega, show BitVec.ofInt 64 (-1) = BitVec.allOnes 64 from by decide +kernel, BitVec.xor_allOnes, BitVec.toNat_not, ofInt_i64 _ (by omega), IntKind.wrap_i64]
    omega

theorem readInt_any (A : Option Addr) (n c : Nat) (xs : List Int) (k : Nat) (w : World) (h : RB w A n c xs) (hn : n ≤ 1000000000) (hk : k ≤ n) (hb : ∀ x ∈ xs, Byte x) (hm : (rres k (xs.drop k)).1 < 18446744073709551616) :
    Calls Try.prog 22 #[.slice A n c, .int .i64 k] w fun e w' =>
      e = .returned (.tuple #[.int .i64 (unzig (rres k (xs.drop k)).1), .int .i64 (rres k (xs.drop k)).2.1, .int .i64 (rres k (xs.drop k)).2.2]) ∧ w = w' := by
  have H := read_any A n c xs k
  generalize rres k (xs.drop k) = r at *
  obtain ⟨m, nx, er⟩ := r
  have hu := unz m hm
  go_enter Try.func22, Try.ntmps22
  go_wp2_with (go_at_call 21; refine (H _ h hn hk hb).mono ?_; rintro e w' ⟨rfl, rfl⟩)
  go_ret3
  exact ⟨rfl, rfl⟩

theorem PutBytes_any (A A' : Option Addr) (n c n' c' : Nat) (xs ys : List Int) (w : World) (h : RB w A n c xs) (h' : RB w A' n' c' ys) (hn : n ≤ 1000000) (hn' : n' ≤ 65536) :
    Calls Try.prog 23 #[.slice A n c, .slice A' n' c'] w fun e w' => ∃ v, e = .returned (.tuple #[v, .int .i64 0]) ∧ w'.ownsRow w.heap.size 5 1 v (n + (enc n').length + n') (bys (xs ++ enc n' ++ ys)) ∧ Below w.heap.size w w' := by
  have hle := enc_le10 n' (by omega)
  go_enter Try.func23, Try.ntmps23
  go_wp2_with (first
    | (go_at_call 14; refine (Put_any A n c xs n' _ h hn (by omega)).mono ?_; rintro e w1 ⟨v1, rfl, hO1, hB1⟩; have hR1 := h'.below hB1)
    | (at_builtin; refine app_row w.heap.size rfl _ _ _ 5 rfl Try.underlying22 Try.info5 v1 _ _ ys A' n' c' (by rfl) (by rfl) hO1 hR1 hB1 hB1.size (by omega) ?_; intro v2 w2 hown2 hB2 hz2))
  go_ret2
  exact ⟨v2, rfl, hown2, hB2⟩

set_option maxHeartbeats 400000 in
/-- What ReadBytes reads where a number stands at the place, and that many bytes behind it. -/
theorem ReadBytes_any (A : Option Addr) (n c : Nat) (xs : List Int) (k m nx : Nat) (w : World) (h : RB w A n c xs) (hn : n ≤ 1000000000) (hk : k ≤ n) (hb : ∀ x ∈ xs, Byte x) (hr : rres k (xs.drop k) = (m, nx, 0)) (hm : m ≤ 65536) (hnx : nx + m ≤ n) :
    Calls Try.prog 24 #[.slice A n c, .int .i64 k] w fun e w' => ∃ v, e = .returned (.tuple #[v, .int .i64 ((nx + m : Nat) : Int), .int .i64 0]) ∧ w'.ownsRow w.heap.size 5 1 v m (bys ((xs.drop nx).take m)) ∧ Below w.heap.size w w' := by
  have H := read_any A n c xs k
  rw [hr] at H
  have hc : n ≤ c := h.2.1
  have hcm : c ≤ 9223372036854775807 := h.2.2.1
  have hB : Below w.heap.size w (w.alloc (.cells #[] 5)) := (Below.refl _ _).alloc (Nat.le_refl _) _
  have hR := ((h.cut (k := nx) (by omega)).head (k := m) (by omega)).below hB
  have hO := World.ownsRow_made (base := w.heap.size) (e := 5) (size := 1) w #[] 0 (Nat.le_refl _) (by simp [maxLen]) (by simp)
  generalize hA2 : (if c = nx then A else A.map (·.add nx)) = A2 at hR
  have hR2 : RB (w.alloc (.cells #[] 5)) A2 (nx + m - nx) (c - nx) ((xs.drop nx).take m) := by rw [Nat.add_sub_cancel_left]; exact hR
  clear hR
  go_enter Try.func24, Try.ntmps24
  go_wp2_with (first
    | (go_at_call 21; refine (H _ h hn hk hb).mono ?_; rintro e w' ⟨rfl, rfl⟩)
    | (at_builtin; refine app_row w.heap.size rfl _ _ _ 5 rfl Try.underlying22 Try.info5 _ 0 [] _ A2 (nx + m - nx) (c - nx) (by rfl) (by rfl) hO hR2 hB (by simp) (by omega) ?_; intro v2 w2 hown2 hB2 hz2))
  go_ret3
  exact ⟨v2, rfl, by simpa using hown2, hB2⟩
end Go.Proofs.Ytkibglmmncpdaaa
