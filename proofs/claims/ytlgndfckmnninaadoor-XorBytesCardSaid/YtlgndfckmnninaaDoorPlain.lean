/- Plain lemmas on bits: a number's bits, a list's number, bytes out of bits and back: no program, no memory. Conditions: none beyond each lemma's own. -/
import Derived.Lib.BitFns
namespace Go.Proofs.YtlgndfckmnninaaDoor

/-- The lowest n bits of a number, the greatest first. -/
def bitsOf : Nat → Nat → List Bool
  | 0, _ => []
  | n + 1, x => bitsOf n (x / 2) ++ [x % 2 == 1]

/-- The number of some bits. -/
def val : List Bool → Nat
  | [] => 0
  | b :: l => b.toNat * 2 ^ l.length + val l

theorem length_bitsOf : ∀ (n x : Nat), (bitsOf n x).length = n
  | 0, _ => rfl
  | n + 1, x => by simp [bitsOf, length_bitsOf n]

theorem val_append : ∀ (l m : List Bool), val (l ++ m) = val l * 2 ^ m.length + val m
  | [], m => by simp [val]
  | b :: l, m => by
    simp only [List.cons_append, val, val_append l m, List.length_append, Nat.pow_add, Nat.add_mul]
    rw [Nat.mul_assoc]; omega

theorem val_lt : ∀ l : List Bool, val l < 2 ^ l.length
  | [] => by simp [val]
  | b :: l => by
    have := val_lt l
    simp only [val, List.length_cons, Nat.pow_succ]
    cases b <;> simp <;> omega

theorem val_snoc (l : List Bool) (b : Bool) : val (l ++ [b]) = 2 * val l + b.toNat := by
  rw [val_append]; simp [val]; omega

theorem val_bitsOf : ∀ (n x : Nat), val (bitsOf n x) = x % 2 ^ n
  | 0, x => by simp [bitsOf, val, Nat.mod_one]
  | n + 1, x => by
    rw [bitsOf, val_snoc, val_bitsOf n, Nat.pow_succ, Nat.mul_comm (2 ^ n) 2, Nat.mod_mul]
    have h2 : (x % 2 == 1).toNat = x % 2 := by
      rcases Nat.mod_two_eq_zero_or_one x with h | h <;> simp [h]
    omega

theorem val_inj : ∀ (l m : List Bool), l.length = m.length → val l = val m → l = m
  | [], [], _, _ => rfl
  | [], _ :: _, h, _ => by simp at h
  | _ :: _, [], h, _ => by simp at h
  | b :: l, c :: m, h, hv => by
    have hl : l.length = m.length := by simpa using h
    have h1 := val_lt l
    have h2 := val_lt m
    simp only [val, hl] at hv
    rw [hl] at h1
    have hb : b = c := by
      cases b <;> cases c <;> simp at hv ⊢ <;> omega
    subst hb
    rw [val_inj l m hl (by omega)]

theorem bitsOf_val (l : List Bool) : bitsOf l.length (val l) = l :=
  val_inj _ _ (length_bitsOf _ _) (by rw [val_bitsOf, Nat.mod_eq_of_lt (val_lt l)])

theorem bitsOf_mod (n x : Nat) : bitsOf n (x % 2 ^ n) = bitsOf n x :=
  val_inj _ _ (by simp [length_bitsOf]) (by rw [val_bitsOf, val_bitsOf, Nat.mod_mod])

theorem bitsOf_add (n m x : Nat) : bitsOf (n + m) x = bitsOf n (x / 2 ^ m) ++ bitsOf m x := by
  induction m generalizing x with
  | zero => simp [bitsOf]
  | succ m ih => rw [← Nat.add_assoc, bitsOf, ih, bitsOf, List.append_assoc, Nat.div_div_eq_div_mul, Nat.pow_succ, Nat.mul_comm 2]

theorem bitsOf_zero (n : Nat) : bitsOf n 0 = List.replicate n false := by
  induction n with
  | zero => rfl
  | succ n ih => rw [bitsOf, Nat.zero_div, ih]; simp [List.replicate_succ']

/-- The bytes of some bits; of the last one the lowest bits may be no one's: noughts. -/
def pack : List Bool → List Int
  | [] => []
  | b :: l => ((val ((b :: l).take 8) * 2 ^ (8 - ((b :: l).take 8).length) : Nat) : Int) :: pack (l.drop 7)
termination_by l => l.length
decreasing_by simp; omega

theorem pack_nil : pack [] = [] := by rw [pack]
theorem pack_ne {l : List Bool} (h : l ≠ []) : pack l = ((val (l.take 8) * 2 ^ (8 - (l.take 8).length) : Nat) : Int) :: pack (l.drop 8) := by
  cases l with
  | nil => exact absurd rfl h
  | cons b l => rw [pack]; rfl

theorem pack_small {l : List Bool} (h : l ≠ []) (h8 : l.length ≤ 8) : pack l = [((val l * 2 ^ (8 - l.length) : Nat) : Int)] := by
  rw [pack_ne h, List.take_of_length_le h8, List.drop_of_length_le h8, pack_nil]

theorem pack_append : ∀ (q : Nat) (l m : List Bool), l.length = 8 * q → pack (l ++ m) = pack l ++ pack m := by
  intro q
  induction q with
  | zero => intro l m h; obtain rfl : l = [] := List.eq_nil_of_length_eq_zero (by omega); simp [pack_nil]
  | succ q ih =>
    intro l m h
    have hne : l ≠ [] := by intro e; subst e; simp at h
    have hne' : l ++ m ≠ [] := by simp [hne]
    rw [pack_ne hne, pack_ne hne', List.take_append_of_le_length (by omega), List.drop_append_of_le_length (by omega), ih (l.drop 8) m (by simp; omega)]
    rfl

theorem pack_length (l : List Bool) : (pack l).length = (l.length + 7) / 8 := by
  induction h : l.length using Nat.strongRecOn generalizing l with
  | _ n ih =>
    cases l with
    | nil => simp at h; subst h; rw [pack_nil]; rfl
    | cons b l =>
      rw [pack_ne (by simp), List.length_cons, ih ((b :: l).drop 8).length (by simp at h ⊢; omega) _ rfl]
      simp at h ⊢; omega

/-- A byte. -/
def Byte (x : Int) : Prop := 0 ≤ x ∧ x ≤ 255

theorem head_lt (l : List Bool) (h : l.length ≤ 8) : val l * 2 ^ (8 - l.length) < 256 := by
  have h1 := val_lt l
  have h2 : 2 ^ l.length * 2 ^ (8 - l.length) = 256 := by rw [← Nat.pow_add, show l.length + (8 - l.length) = 8 by omega]
  calc val l * 2 ^ (8 - l.length) < 2 ^ l.length * 2 ^ (8 - l.length) := Nat.mul_lt_mul_of_pos_right h1 (Nat.two_pow_pos _)
    _ = 256 := h2

theorem pack_byte (l : List Bool) : ∀ x ∈ pack l, Byte x := by
  induction h : l.length using Nat.strongRecOn generalizing l with
  | _ n ih =>
    cases l with
    | nil => intro x hx; rw [pack_nil] at hx; simp at hx
    | cons b l =>
      intro x hx
      rw [pack_ne (by simp)] at hx
      rcases List.mem_cons.1 hx with rfl | hx
      · have := head_lt ((b :: l).take 8) (by simp; omega)
        exact ⟨by omega, by omega⟩
      · exact ih ((b :: l).drop 8).length (by simp at h ⊢; omega) _ rfl x hx

/-- Whole bytes, and less than a byte's bits. -/
theorem split8 (l : List Bool) : ∃ A R : List Bool, l = A ++ R ∧ A.length = 8 * (l.length / 8) ∧ R.length = l.length % 8 :=
  ⟨l.take (8 * (l.length / 8)), l.drop (8 * (l.length / 8)), by simp, by simp; omega, by simp; omega⟩

/-- Bits behind whole bytes. -/
theorem pack_new (l : List Bool) (k x : Nat) (h : l.length % 8 = 0) (h1 : 1 ≤ k) (h8 : k ≤ 8) : pack (l ++ bitsOf k x) = pack l ++ [((x % 2 ^ k * 2 ^ (8 - k) : Nat) : Int)] := by
  rw [pack_append (l.length / 8) l _ (by omega), pack_small (l := bitsOf k x) (by intro e; have := congrArg List.length e; simp [length_bitsOf] at this; omega) (by rw [length_bitsOf]; exact h8), val_bitsOf, length_bitsOf]

/-- Bits behind a byte that has room: the byte was 'a', its low bits noughts. -/
theorem pack_more (l : List Bool) (k x : Nat) (h : 0 < l.length % 8) (h1 : l.length % 8 + k ≤ 8) : ∃ (A : List Int) (a : Nat), pack l = A ++ [(a : Int)] ∧ A.length = l.length / 8 ∧ a < 256 ∧
    2 ^ (8 - l.length % 8) ∣ a ∧ pack (l ++ bitsOf k x) = A ++ [((a + x % 2 ^ k * 2 ^ (8 - l.length % 8 - k) : Nat) : Int)] := by
  obtain ⟨A, R, e, hA, hR⟩ := split8 l
  have hRne : R ≠ [] := by intro e; subst e; simp at hR; omega
  refine ⟨pack A, val R * 2 ^ (8 - R.length), ?_, ?_, ?_, ?_, ?_⟩
  · rw [e, pack_append _ A R hA, pack_small hRne (by omega)]
  · rw [pack_length, hA]; omega
  · exact head_lt R (by omega)
  · rw [hR]; exact Nat.dvd_mul_left _ _
  · have key : pack (l ++ bitsOf k x) = pack A ++ [((val (R ++ bitsOf k x) * 2 ^ (8 - (R ++ bitsOf k x).length) : Nat) : Int)] := by
      rw [e, List.append_assoc, pack_append _ A _ hA, pack_small (l := R ++ bitsOf k x) (fun h => hRne (List.append_eq_nil_iff.1 h).1) (by rw [List.length_append, length_bitsOf]; omega)]
    rw [key, List.length_append, length_bitsOf, val_append, length_bitsOf, val_bitsOf, hR, Nat.add_mul, Nat.mul_assoc, ← Nat.pow_add, Nat.sub_sub, show k + (8 - (l.length % 8 + k)) = 8 - l.length % 8 by omega]

/-- The bits of some bytes. -/
def unB (B : List Int) : List Bool := B.flatMap fun b => bitsOf 8 b.toNat

theorem unB_nil : unB [] = [] := rfl
theorem unB_cons (b : Int) (B : List Int) : unB (b :: B) = bitsOf 8 b.toNat ++ unB B := rfl
theorem unB_append (A B : List Int) : unB (A ++ B) = unB A ++ unB B := by simp [unB]
theorem length_unB : ∀ B : List Int, (unB B).length = 8 * B.length
  | [] => rfl
  | b :: B => by rw [unB_cons, List.length_append, length_bitsOf, length_unB B]; simp; omega

theorem pack_unB : ∀ B : List Int, (∀ x ∈ B, Byte x) → pack (unB B) = B
  | [], _ => by rw [unB_nil, pack_nil]
  | b :: B, h => by
    have hb := h b (by simp)
    obtain ⟨h0, h1⟩ := hb
    rw [unB_cons, pack_append 1 _ _ (by rw [length_bitsOf]), pack_unB B fun x hx => h x (by simp [hx]), pack_small (by intro e; have := congrArg List.length e; simp [length_bitsOf] at this) (by rw [length_bitsOf]; omega), val_bitsOf, length_bitsOf]
    simp
    omega

theorem val_pad (R : List Bool) (h : R.length ≤ 8) : bitsOf 8 (val R * 2 ^ (8 - R.length)) = R ++ List.replicate (8 - R.length) false := by
  refine val_inj _ _ (by simp [length_bitsOf]; omega) ?_
  rw [val_bitsOf, Nat.mod_eq_of_lt (head_lt R h), val_append, ← bitsOf_zero, val_bitsOf, length_bitsOf]
  simp

theorem unB_pack (l : List Bool) : ∃ p, unB (pack l) = l ++ List.replicate p false ∧ p < 8 := by
  obtain ⟨A, R, e, hA, hR⟩ := split8 l
  have key : ∀ (q : Nat) (A : List Bool), A.length = 8 * q → unB (pack A) = A := by
    intro q
    induction q with
    | zero => intro A h; obtain rfl : A = [] := List.eq_nil_of_length_eq_zero (by omega); rw [pack_nil, unB_nil]
    | succ q ih =>
      intro A h
      have hne : A ≠ [] := by intro e; subst e; simp at h
      have ht : (A.take 8).length = 8 := by simp; omega
      rw [pack_ne hne, unB_cons, ih (A.drop 8) (by simp; omega), Int.toNat_natCast, val_pad _ (by omega), ht]
      simp
  rcases Nat.eq_zero_or_pos (l.length % 8) with h0 | h0
  · refine ⟨0, ?_, by omega⟩
    obtain rfl : R = [] := List.eq_nil_of_length_eq_zero (by omega)
    rw [List.append_nil] at e
    rw [e, key _ A hA]; simp
  · have hRne : R ≠ [] := by intro e; subst e; simp at hR; omega
    refine ⟨8 - R.length, ?_, by omega⟩
    rw [e, pack_append _ A R hA, unB_append, key _ A hA, pack_small hRne (by omega), unB_cons, unB_nil, List.append_nil, Int.toNat_natCast, val_pad R (by omega), List.append_assoc]

theorem mid_bits (U1 U2 : List Bool) (b r k : Nat) (hk : r + k ≤ 8) :
    ((U1 ++ (bitsOf 8 b ++ U2)).drop (U1.length + r)).take k = bitsOf k (b / 2 ^ (8 - r - k)) := by
  have h5 : bitsOf 8 b = bitsOf r (b / 2 ^ (8 - r)) ++ (bitsOf k (b / 2 ^ (8 - r - k)) ++ bitsOf (8 - r - k) b) := by
    conv => lhs; rw [show 8 = r + (k + (8 - r - k)) by omega]
    rw [bitsOf_add, bitsOf_add, show k + (8 - r - k) = 8 - r by omega]
  rw [List.drop_append, List.drop_of_length_le (show U1.length ≤ U1.length + r by omega), List.nil_append, show U1.length + r - U1.length = r by omega, h5, List.append_assoc]
  rw [List.drop_append, List.drop_of_length_le (by rw [length_bitsOf]; exact Nat.le_refl _), List.nil_append, length_bitsOf, Nat.sub_self, List.drop_zero, List.append_assoc, List.take_append, List.take_of_length_le (by rw [length_bitsOf]; exact Nat.le_refl _), length_bitsOf, Nat.sub_self, List.take_zero, List.append_nil]

/-- Some bits out of a byte. -/
theorem byte_bits (bs : List Int) (p k : Nat) (hp : p / 8 < bs.length) (hk : p % 8 + k ≤ 8) :
    ((unB bs).drop p).take k = bitsOf k (bs[p / 8].toNat / 2 ^ (8 - p % 8 - k)) := by
  have h1 : bs = bs.take (p / 8) ++ bs[p / 8] :: bs.drop (p / 8 + 1) := by rw [← List.drop_eq_getElem_cons hp, List.take_append_drop]
  have h2 : unB bs = unB (bs.take (p / 8)) ++ (bitsOf 8 bs[p / 8].toNat ++ unB (bs.drop (p / 8 + 1))) := by
    conv => lhs; rw [h1]
    rw [unB_append, unB_cons]
  have h3 : (unB (bs.take (p / 8))).length = 8 * (p / 8) := by rw [length_unB, List.length_take]; omega
  have h6 := mid_bits (unB (bs.take (p / 8))) (unB (bs.drop (p / 8 + 1))) bs[p / 8].toNat (p % 8) k hk
  rw [← h2, h3, show 8 * (p / 8) + p % 8 = p by omega] at h6
  exact h6

theorem take_more (l : List Bool) (p m k : Nat) : (l.drop p).take (m + k) = (l.drop p).take m ++ (l.drop (p + m)).take k := by
  rw [List.take_add, List.drop_drop]

theorem bit1 (b : Bool) : bitsOf 1 b.toNat = [b] := by cases b <;> rfl

/-- The bytes of some bits, noughts behind them, P bytes in all. -/
def pad (P : Nat) (l : List Bool) : List Int := pack l ++ List.replicate (P - (pack l).length) 0

theorem length_pad {P : Nat} {l : List Bool} (h : (pack l).length ≤ P) : (pad P l).length = P := by simp [pad]; omega

theorem pad_step (P : Nat) (l : List Bool) (b : Bool) (h : l.length / 8 < P) :
    ∃ a : Nat, (pad P l)[l.length / 8]? = some (a : Int) ∧ a + b.toNat * 2 ^ (7 - l.length % 8) < 256 ∧
      pad P (l ++ [b]) = (pad P l).set (l.length / 8) ((a + b.toNat * 2 ^ (7 - l.length % 8) : Nat) : Int) := by
  have hb1 : b.toNat % 2 ^ 1 = b.toNat := by cases b <;> rfl
  rcases Nat.eq_zero_or_pos (l.length % 8) with h0 | h0
  · have hp := pack_new l 1 b.toNat h0 (by omega) (by omega)
    rw [bit1, hb1] at hp
    have hl : (pack l).length = l.length / 8 := by rw [pack_length]; omega
    have hr : P - (pack l).length = (P - (pack l).length - 1) + 1 := by omega
    refine ⟨0, ?_, ?_, ?_⟩
    · rw [pad, hr, List.replicate_succ, ← hl, List.getElem?_append_right (Nat.le_refl _)]; simp
    · rw [h0]; cases b <;> simp
    · rw [pad, hp, pad, hr, List.replicate_succ, ← hl, List.set_append_right _ _ (Nat.le_refl _), h0]
      simp only [Nat.sub_self, List.set_cons_zero, List.length_append, List.length_cons, List.length_nil, List.append_assoc, List.singleton_append, Nat.zero_add, Nat.sub_zero]
      congr 2
  · obtain ⟨A, a, e1, e2, e3, e4, e5⟩ := pack_more l 1 b.toNat h0 (by omega)
    rw [bit1, hb1] at e5
    have hl : (pack l).length = l.length / 8 + 1 := by rw [pack_length]; omega
    have hl2 : (pack (l ++ [b])).length = l.length / 8 + 1 := by rw [e5]; simp [e2]
    have e7 : 8 - l.length % 8 - 1 = 7 - l.length % 8 := by omega
    rw [e7] at e5
    refine ⟨a, ?_, ?_, ?_⟩
    · rw [pad, e1, List.append_assoc, ← e2, List.getElem?_append_right (Nat.le_refl _)]; simp
    · have h5 := pack_byte (l ++ [b]) ((a + b.toNat * 2 ^ (7 - l.length % 8) : Nat) : Int) (by rw [e5]; simp)
      obtain ⟨_, h6⟩ := h5
      omega
    · rw [pad, hl2, e5, pad, hl, e1, List.append_assoc, List.append_assoc, ← e2, List.set_append_right _ _ (Nat.le_refl _)]
      simp

theorem pad_nil (P : Nat) : pad P [] = List.replicate P 0 := by simp [pad, pack_nil]
theorem pad_full (l : List Bool) : pad ((l.length + 7) / 8) l = pack l := by simp [pad, pack_length]

end Go.Proofs.YtlgndfckmnninaaDoor
