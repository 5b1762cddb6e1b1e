/- Plain laws of the bits' laws. Conditions: as stated. -/
import Derived.Test.YtlgndfckmnninaaDoorBitsL
namespace Go.Proofs.YtlgndfckmnninaaDoor
open Go.RowKit

/-- A whole number of 64 bits without a sign. -/
theorem nat_of_u64 {x : Int} (h : (Lit.int .u64 x).wf = true) : ∃ X : Nat, x = X ∧ X < 18446744073709551616 := by
  simp [Lit.wf, IntKind.min, IntKind.max, IntKind.signed, IntKind.bits] at h
  obtain ⟨X, rfl⟩ := Int.eq_ofNat_of_zero_le (a := x) (by omega)
  exact ⟨X, rfl, by omega⟩

/-- The bits of the first m numbers. -/
def cat (U V : Nat → Int) : Nat → List Bool
  | 0 => []
  | m + 1 => cat U V m ++ bitsOf (amo (V m) 65) (U m).toNat

section
variable (U V : Nat → Int)
theorem cat_len : ∀ m, (cat U V m).length ≤ 64 * m
  | 0 => Nat.le_refl _
  | m + 1 => by
    have := cat_len m
    have := amo_lt (V m) (show 0 < 65 by omega)
    rw [cat, List.length_append, length_bitsOf]
    omega
theorem cat_pre (m : Nat) : ∀ (K : Nat), m ≤ K → ∃ T, cat U V K = cat U V m ++ T
  | 0, h => ⟨[], by rw [Nat.le_zero.1 h, List.append_nil]⟩
  | K + 1, h => by
    rcases Nat.eq_or_lt_of_le h with e | e
    · exact ⟨[], by rw [e, List.append_nil]⟩
    · obtain ⟨T, hT⟩ := cat_pre m K (by omega)
      exact ⟨T ++ bitsOf (amo (V K) 65) (U K).toNat, by rw [cat, hT, List.append_assoc]⟩
/-- A number read of bytes that begin with these bits. -/
theorem read_mid (A M T : List Bool) (bs : List Int) (p : Nat) (h : unB bs = A ++ M ++ T) (hp : p = A.length) (hM : M.length ≤ 64) :
    getCode bs.length p M.length = 0 ∧ getVal bs p M.length = val M ∧ getAt bs.length p M.length = p + M.length := by
  subst hp
  have hl : (unB bs).length = A.length + M.length + T.length := by rw [h]; simp; omega
  rw [length_unB] at hl
  have hc : getCode bs.length A.length M.length = 0 := by
    unfold getCode
    rw [if_neg (by omega), if_neg (by omega)]
  refine ⟨hc, ?_, getAt_good hc⟩
  rw [getVal_good hc, h, List.append_assoc, List.drop_left, List.take_left]
theorem cat_read {m K : Nat} (h : m < K) : getCode (pack (cat U V K)).length (cat U V m).length (amo (V m) 65 : Nat) = 0 ∧
    getVal (pack (cat U V K)) (cat U V m).length (amo (V m) 65 : Nat) = (U m).toNat % 2 ^ amo (V m) 65 ∧ getAt (pack (cat U V K)).length (cat U V m).length (amo (V m) 65 : Nat) = (cat U V (m + 1)).length := by
  obtain ⟨T, hT⟩ := cat_pre U V (m + 1) K h
  obtain ⟨p, hp, _⟩ := unB_pack (cat U V K)
  have hn := amo_lt (V m) (show 0 < 65 by omega)
  have := read_mid (cat U V m) (bitsOf (amo (V m) 65) (U m).toNat) (T ++ List.replicate p false) (pack (cat U V K)) _ (by rw [hp, hT, cat]; simp only [List.append_assoc]) rfl (by rw [length_bitsOf]; omega)
  rw [length_bitsOf, val_bitsOf] at this
  rw [cat, List.length_append, length_bitsOf]
  exact this
end

/-- Two numbers as one. -/
theorem joins (X Y n m : Nat) (h : n + m ≤ 64) : ∃ Z : Nat, bitsOf (n + m) Z = bitsOf n X ++ bitsOf m Y ∧ Z < 18446744073709551616 ∧
    (m < 64 → IntKind.u64.wrap (((X % 2 ^ n : Nat) : Int) * 2 ^ m) + ((Y % 2 ^ m : Nat) : Int) = Z) ∧ (m < 64 → ((Y % 2 ^ m : Nat) : Int) + IntKind.u64.wrap (((X % 2 ^ n : Nat) : Int) * 2 ^ m) = Z) ∧ (m = 64 → Y % 2 ^ m = Z) := by
  have hx := Nat.mod_lt X (Nat.two_pow_pos n)
  have hy := Nat.mod_lt Y (Nat.two_pow_pos m)
  have hp : 2 ^ (n + m) ≤ 2 ^ 64 := Nat.pow_le_pow_right (by omega) h
  have hle : (X % 2 ^ n + 1) * 2 ^ m ≤ 2 ^ n * 2 ^ m := Nat.mul_le_mul_right _ hx
  rw [Nat.add_mul, Nat.one_mul, ← Nat.pow_add] at hle
  have e1 : IntKind.u64.wrap (((X % 2 ^ n : Nat) : Int) * 2 ^ m) = ((X % 2 ^ n * 2 ^ m : Nat) : Int) := by
    rw [show ((X % 2 ^ n : Nat) : Int) * 2 ^ m = ((X % 2 ^ n * 2 ^ m : Nat) : Int) by push_cast; rfl, IntKind.wrap_u64]
    generalize X % 2 ^ n * 2 ^ m = q at *
    generalize 2 ^ m = r at *
    generalize 2 ^ (n + m) = s at *
    omega
  refine ⟨X % 2 ^ n * 2 ^ m + Y % 2 ^ m, ?_, ?_, fun _ => ?_, fun _ => ?_, fun hm => ?_⟩
  · rw [bitsOf_add]
    congr 1
    · rw [Nat.add_comm, Nat.add_mul_div_right _ _ (Nat.two_pow_pos m), Nat.div_eq_of_lt hy, Nat.zero_add, bitsOf_mod]
    · rw [← bitsOf_mod m (X % 2 ^ n * 2 ^ m + Y % 2 ^ m), Nat.add_comm, Nat.add_mul_mod_self_right, Nat.mod_mod, bitsOf_mod]
  · generalize X % 2 ^ n * 2 ^ m = q at *
    generalize Y % 2 ^ m = t at *
    generalize 2 ^ m = r at *
    generalize 2 ^ (n + m) = s at *
    omega
  · rw [e1]; push_cast; rfl
  · rw [e1]; push_cast; exact Int.add_comm _ _
  · obtain rfl : n = 0 := by omega
    simp [Nat.mod_one]

/-- What was read, written behind what was written. -/
theorem again_step (bs : List Int) (p n : Nat) (h : p + n ≤ 8 * bs.length) : (unB bs).take p ++ bitsOf n (val (((unB bs).drop p).take n)) = (unB bs).take (p + n) := by
  have hl := length_unB bs
  have e : (((unB bs).drop p).take n).length = n := by rw [List.length_take, List.length_drop]; omega
  have := bitsOf_val (((unB bs).drop p).take n)
  rw [e] at this
  rw [this]
  have h2 := take_more (unB bs) 0 p n
  rw [List.drop_zero, Nat.zero_add] at h2
  exact h2.symm
theorem again_len (bs : List Int) (p : Nat) (h : p ≤ 8 * bs.length) : ((unB bs).take p).length = p := by
  have hl := length_unB bs
  rw [List.length_take]; omega
theorem again_all (bs : List Int) (h : ∀ x ∈ bs, Byte x) : pack ((unB bs).take (8 * bs.length)) = bs := by
  rw [← length_unB, List.take_length]; exact pack_unB bs h
theorem again_lt (bs : List Int) (p n : Nat) (h : n ≤ 64) : val (((unB bs).drop p).take n) < 18446744073709551616 :=
  Nat.lt_of_lt_of_le (val_lt _) (show 2 ^ (((unB bs).drop p).take n).length ≤ 2 ^ 64 from Nat.pow_le_pow_right (by omega) (by rw [List.length_take]; omega))

theorem putBits_len (L : List Bool) (n : Int) (x : Nat) : (putBits L n x).length ≤ L.length + 64 := by
  unfold putBits
  split
  · rename_i h
    unfold putCode at h
    rw [List.length_append, length_bitsOf]
    split at h
    · cases h
    · omega
  · omega
theorem Rw.new (w : World) (base : Nat) (hb : base ≤ w.heap.size) : Rw (w.alloc (.cells #[.slice none 0 0] 36)) base w.heap.size none [] :=
  ⟨hb, .slice none 0 0, Blk.new w _ _, World.ownsRow_nil _ _ _ _, rfl⟩
end Go.Proofs.YtlgndfckmnninaaDoor
