/- Plain laws of stamps: the bits of a time, and what bits say of a time: no program, no memory. Conditions: each lemma's own. -/
import Derived.Test.YtlgndfckmnninaaDoorPlain
import Derived.Laws.DeepNot64
namespace Go.Proofs.YtlgndfckmnninaaDoor

/-- A state of times that may be. -/
def rightS (N L D : Int) : Bool := decide (0 ≤ N ∧ N ≤ 4096 ∧ 0 ≤ L ∧ L ≤ 35184372088832 ∧ 0 ≤ D ∧ D ≤ 35184372088832)
/-- A time that may come next. -/
def nextS (N L t : Int) : Bool := decide (0 ≤ t ∧ t ≤ 35184372088832 ∧ (N = 0 ∨ L < t))
theorem rightS_of {N L D : Int} (h : rightS N L D = true) : 0 ≤ N ∧ N ≤ 4096 ∧ 0 ≤ L ∧ L ≤ 35184372088832 ∧ 0 ≤ D ∧ D ≤ 35184372088832 := by simpa [rightS] using h
theorem rightS_mk {N L D : Int} (h : 0 ≤ N ∧ N ≤ 4096 ∧ 0 ≤ L ∧ L ≤ 35184372088832 ∧ 0 ≤ D ∧ D ≤ 35184372088832) : rightS N L D = true := decide_eq_true h
theorem nextS_of {N L t : Int} (h : nextS N L t = true) : 0 ≤ t ∧ t ≤ 35184372088832 ∧ (N = 0 ∨ L < t) := by simpa [nextS] using h
theorem nextS_mk {N L t : Int} (h : 0 ≤ t ∧ t ≤ 35184372088832 ∧ (N = 0 ∨ L < t)) : nextS N L t = true := decide_eq_true h
theorem rightS_no {N L D : Int} (h : rightS N L D = false) : ¬ (0 ≤ N ∧ N ≤ 4096 ∧ 0 ≤ L ∧ L ≤ 35184372088832 ∧ 0 ≤ D ∧ D ≤ 35184372088832) := of_decide_eq_false h
theorem nextS_no {N L t : Int} (h : nextS N L t = false) : ¬ (0 ≤ t ∧ t ≤ 35184372088832 ∧ (N = 0 ∨ L < t)) := of_decide_eq_false h

/-- The place of a number's class. -/
def ofc (z : Nat) : Nat := if z = 0 then 0 else if z < 128 then 1 else if z < 4096 then 2 else if z < 1048576 then 3 else if z < 281474976710656 then 4 else 5
/-- The bits of a class. -/
def wid : Nat → Nat
  | 0 => 0
  | 1 => 7
  | 2 => 12
  | 3 => 20
  | _ => 48
/-- The nought behind a class's ones. -/
def ends (k : Nat) : List Bool := if k < 4 then [false] else []
/-- A difference of differences as a number. -/
def zig (d : Int) : Nat := if d < 0 then (-2 * d - 1).toNat else (2 * d).toNat
/-- .. and back. -/
def zag (z : Nat) : Int := if z % 2 = 0 then ((z / 2 : Nat) : Int) else -((z / 2 : Nat) : Int) - 1

theorem zag_zig (d : Int) : zag (zig d) = d := by unfold zag zig; (repeat' split) <;> omega
theorem zig_zag (z : Nat) : zig (zag z) = z := by unfold zag zig; (repeat' split) <;> omega
theorem ofc_le (z : Nat) : ofc z ≤ 5 := by unfold ofc; (repeat' split) <;> omega
theorem ofc_iff (z : Nat) : (ofc z = 0 ↔ z = 0) ∧ (ofc z = 1 ↔ 1 ≤ z ∧ z < 128) ∧ (ofc z = 2 ↔ 128 ≤ z ∧ z < 4096) ∧ (ofc z = 3 ↔ 4096 ≤ z ∧ z < 1048576) ∧ (ofc z = 4 ↔ 1048576 ≤ z ∧ z < 281474976710656) ∧ (ofc z = 5 ↔ 281474976710656 ≤ z) := by
  unfold ofc; (repeat' split) <;> omega
theorem ofc_lt (z : Nat) (h : z < 281474976710656) : ofc z ≤ 4 := by unfold ofc; (repeat' split) <;> omega
theorem ofc_wid (z : Nat) (h : z < 281474976710656) : z < 2 ^ wid (ofc z) := by
  have := ofc_lt z h
  obtain ⟨h0, h1, h2, h3, h4, h5⟩ := ofc_iff z
  have hc : ofc z = 0 ∨ ofc z = 1 ∨ ofc z = 2 ∨ ofc z = 3 ∨ ofc z = 4 := by omega
  rcases hc with e | e | e | e | e <;> rw [e] <;> simp only [wid] <;> omega
theorem wid_le (k : Nat) : wid k ≤ 48 := by unfold wid; split <;> omega
theorem ends_le (k : Nat) : (ends k).length ≤ 1 := by unfold ends; split <;> simp
theorem ends_len (k : Nat) (h : k ≤ 4) : k + (ends k).length ≤ 4 := by
  unfold ends; split <;> simp <;> omega

/-- The bits of a class. -/
def encH (z : Nat) : List Bool := List.replicate (ofc z) true ++ ends (ofc z)
/-- The bits of a number. -/
def encZ (z : Nat) : List Bool := encH z ++ bitsOf (wid (ofc z)) z
/-- The bits of a time. -/
def encS (N L D t : Int) : List Bool := if N = 0 then bitsOf 46 t.toNat else encZ (zig (t - L - D))
/-- The difference of a time. -/
def difS (N L t : Int) : Int := if N = 0 then 0 else t - L
/-- How many ones lead, at most so many; none: the bits end. -/
def lead : Nat → List Bool → Option Nat
  | 0, _ => some 0
  | _ + 1, [] => none
  | _ + 1, false :: _ => some 0
  | n + 1, true :: l => (lead n l).map (· + 1)
/-- What bits say of a number: what goes wrong, the number, how many bits. -/
def getZ (l : List Bool) : Int × Nat × Nat :=
  match lead 4 l with
  | none => (50, 0, 0)
  | some k =>
    if l.length < k + (ends k).length + wid k then (50, 0, 0)
    else if ofc (val ((l.drop (k + (ends k).length)).take (wid k))) = k then (0, val ((l.drop (k + (ends k).length)).take (wid k)), k + (ends k).length + wid k)
    else (60, 0, 0)
/-- What bits say of a time: what goes wrong, the time, its difference, how many bits. -/
def getS (l : List Bool) (N L D : Int) : Int × Int × Int × Nat :=
  if rightS N L D = false then (60, 0, 0, 0)
  else if N = 0 then
    if l.length < 46 then (50, 0, 0, 0) else if 35184372088832 < val (l.take 46) then (60, 0, 0, 0) else (0, (val (l.take 46) : Nat), 0, 46)
  else if (getZ l).1 ≠ 0 then ((getZ l).1, 0, 0, 0)
  else if D + zag (getZ l).2.1 < 1 ∨ 35184372088832 - L < D + zag (getZ l).2.1 then (60, 0, 0, 0)
  else (0, L + (D + zag (getZ l).2.1), D + zag (getZ l).2.1, (getZ l).2.2)

theorem lead_le : ∀ (n : Nat) (l : List Bool) (k : Nat), lead n l = some k → k ≤ n
  | 0, _, k, h => by simp [lead] at h; omega
  | _ + 1, [], k, h => by simp [lead] at h
  | _ + 1, false :: _, k, h => by simp [lead] at h; omega
  | n + 1, true :: l, k, h => by
    simp only [lead, Option.map_eq_some_iff] at h
    obtain ⟨j, hj, rfl⟩ := h
    have := lead_le n l j hj
    omega
/-- The ones, and the nought, stand at the bits' head. -/
theorem lead_take : ∀ (n : Nat) (l : List Bool) (k : Nat), lead n l = some k → k + (if k < n then 1 else 0) ≤ l.length ∧ l.take (k + (if k < n then 1 else 0)) = List.replicate k true ++ (if k < n then [false] else [])
  | 0, _, k, h => by simp [lead] at h; subst h; simp
  | _ + 1, [], k, h => by simp [lead] at h
  | n + 1, false :: l, k, h => by simp [lead] at h; subst h; simp
  | n + 1, true :: l, k, h => by
    simp only [lead, Option.map_eq_some_iff] at h
    obtain ⟨j, hj, rfl⟩ := h
    obtain ⟨h1, h2⟩ := lead_take n l j hj
    have e : (if j + 1 < n + 1 then 1 else 0 : Nat) = if j < n then 1 else 0 := by split <;> split <;> omega
    have e2 : (if j + 1 < n + 1 then [false] else []) = if j < n then [false] else [] := by split <;> split <;> first | rfl | omega
    rw [e, e2, show j + 1 + (if j < n then 1 else 0) = (j + (if j < n then 1 else 0)) + 1 by omega, List.take_succ_cons, h2]
    exact ⟨by simp; omega, rfl⟩
theorem lead_ends (l : List Bool) (k : Nat) (h : lead 4 l = some k) : k + (ends k).length ≤ l.length ∧ l.take (k + (ends k).length) = List.replicate k true ++ ends k := by
  have h1 := lead_take 4 l k h
  have e : (ends k).length = if k < 4 then 1 else 0 := by unfold ends; split <;> rfl
  rw [e]
  exact h1
theorem lead_back : ∀ (n k : Nat) (m : List Bool), k ≤ n → lead n (List.replicate k true ++ (if k < n then [false] else []) ++ m) = some k
  | 0, k, m, h => by obtain rfl : k = 0 := by omega
                     rfl
  | n + 1, 0, m, h => by simp [lead]
  | n + 1, k + 1, m, h => by
    have := lead_back n k m (by omega)
    have e2 : (if k + 1 < n + 1 then [false] else []) = if k < n then [false] else [] := by split <;> split <;> first | rfl | omega
    rw [List.replicate_succ, e2]
    simp only [List.cons_append, lead, this, Option.map_some]

theorem length_encH (z : Nat) : (encH z).length = ofc z + (ends (ofc z)).length := by simp [encH]
theorem length_encZ (z : Nat) : (encZ z).length = ofc z + (ends (ofc z)).length + wid (ofc z) := by simp [encZ, length_encH, length_bitsOf]
theorem getZ_back (z : Nat) (m : List Bool) (h : z < 281474976710656) : getZ (encZ z ++ m) = (0, z, (encZ z).length) := by
  have h4 := ofc_lt z h
  have h1 : lead 4 (encZ z ++ m) = some (ofc z) := by
    rw [encZ, encH, ends, List.append_assoc]
    exact lead_back 4 (ofc z) _ h4
  have h2 : (encZ z ++ m).drop (ofc z + (ends (ofc z)).length) = bitsOf (wid (ofc z)) z ++ m := by
    rw [encZ, List.append_assoc, ← length_encH, List.drop_left']
    rfl
  have h3 : ((bitsOf (wid (ofc z)) z ++ m).take (wid (ofc z))) = bitsOf (wid (ofc z)) z := List.take_left' (length_bitsOf _ _)
  have h5 : val (bitsOf (wid (ofc z)) z) = z := by rw [val_bitsOf, Nat.mod_eq_of_lt (ofc_wid z h)]
  unfold getZ
  rw [h1]
  simp only
  rw [h2, h3, h5, if_neg (by rw [List.length_append, length_encZ]; omega), if_pos rfl, length_encZ]
theorem getZ_take (l : List Bool) (z c : Nat) (h : getZ l = (0, z, c)) : c ≤ l.length ∧ encZ z = l.take c ∧ z < 281474976710656 := by
  unfold getZ at h
  split at h
  · simp at h
  · rename_i k hk
    split at h
    · simp at h
    · rename_i hl
      split at h
      · rename_i ho
        simp only [Prod.mk.injEq, true_and] at h
        obtain ⟨h1, h2⟩ := h
        rw [h1] at ho
        obtain ⟨h3, h4⟩ := lead_ends l k hk
        have h5 := lead_le 4 l k hk
        have h6 : ((l.drop (k + (ends k).length)).take (wid k)).length = wid k := by rw [List.length_take, List.length_drop]; omega
        refine ⟨by omega, ?_, ?_⟩
        · have e := bitsOf_val ((l.drop (k + (ends k).length)).take (wid k))
          rw [h6] at e
          have e2 : l.take (k + (ends k).length + wid k) = l.take (k + (ends k).length) ++ (l.drop (k + (ends k).length)).take (wid k) := List.take_add
          rw [encZ, encH, ho, ← h4, ← h2, e2, ← h1, e]
        · have := val_lt ((l.drop (k + (ends k).length)).take (wid k))
          rw [h6, h1] at this
          have h7 : 2 ^ wid k ≤ 2 ^ 48 := Nat.pow_le_pow_right (by omega) (wid_le k)
          omega
      · simp at h

theorem zig_lt (d : Int) (h : -70368744177664 ≤ d ∧ d ≤ 70368744177664) : zig d < 281474976710656 := by unfold zig; split <;> omega

/-- What was written is read back. -/
theorem getS_back (N L D t : Int) (m : List Bool) (h1 : rightS N L D = true) (h2 : nextS N L t = true) : getS (encS N L D t ++ m) N L D = (0, t, difS N L t, (encS N L D t).length) := by
  obtain ⟨a1, a2, a3, a4, a5, a6⟩ := rightS_of h1
  obtain ⟨b1, b2, b3⟩ := nextS_of h2
  unfold getS encS difS
  rw [if_neg (by rw [h1]; decide)]
  by_cases hN : N = 0
  · simp only [if_pos hN]
    have e : val ((bitsOf 46 t.toNat ++ m).take 46) = t.toNat := by
      rw [List.take_left' (length_bitsOf _ _), val_bitsOf]
      exact Nat.mod_eq_of_lt (by omega)
    rw [e, if_neg (by rw [List.length_append, length_bitsOf]; omega), if_neg (by omega), length_bitsOf]
    simp only [Prod.mk.injEq, true_and, and_true]
    omega
  · simp only [if_neg hN]
    have hz := zig_lt (t - L - D) (by omega)
    rw [getZ_back _ m hz, if_neg (by simp)]
    simp only [zag_zig]
    rw [if_neg (by omega)]
    simp only [Prod.mk.injEq, true_and, and_true]
    omega

/-- What is read has, written again, just those bits. -/
theorem getS_take (l : List Bool) (N L D t d : Int) (c : Nat) (h : getS l N L D = (0, t, d, c)) : rightS N L D = true ∧ nextS N L t = true ∧ d = difS N L t ∧ c ≤ l.length ∧ encS N L D t = l.take c := by
  unfold getS at h
  by_cases h1 : rightS N L D = false
  · rw [if_pos h1] at h; simp at h
  rw [if_neg h1] at h
  have h1 : rightS N L D = true := by simpa using h1
  obtain ⟨a1, a2, a3, a4, a5, a6⟩ := rightS_of h1
  by_cases hN : N = 0
  · rw [if_pos hN] at h
    split at h
    · simp at h
    · rename_i hl
      split at h
      · simp at h
      · rename_i hv
        simp only [Prod.mk.injEq, true_and] at h
        obtain ⟨rfl, rfl, rfl⟩ := h
        refine ⟨h1, nextS_mk ⟨by omega, by omega, .inl hN⟩, by simp [difS, hN], by omega, ?_⟩
        rw [encS, if_pos hN, Int.toNat_natCast]
        have := bitsOf_val (l.take 46)
        rw [List.length_take, Nat.min_eq_left (by omega)] at this
        exact this
  · rw [if_neg hN] at h
    split at h
    · rename_i hz
      simp only [Prod.mk.injEq] at h
      exact absurd h.1 hz
    · rename_i hz
      split at h
      · simp at h
      · rename_i hd
        simp only [Prod.mk.injEq, true_and] at h
        obtain ⟨rfl, rfl, rfl⟩ := h
        have hz' : (getZ l).1 = 0 := by simpa using hz
        obtain ⟨z1, z2, z3⟩ := getZ_take l (getZ l).2.1 (getZ l).2.2 (by rw [← hz'])
        refine ⟨h1, nextS_mk ⟨by omega, by omega, .inr (by omega)⟩, by simp [difS, hN]; omega, z1, ?_⟩
        rw [encS, if_neg hN, ← z2]
        congr 1
        rw [show L + (D + zag (getZ l).2.1) - L - D = zag (getZ l).2.1 by omega, zig_zag]
theorem getS_code (l : List Bool) (N L D : Int) : (getS l N L D).1 = 0 ∨ getS l N L D = (50, 0, 0, 0) ∨ getS l N L D = (60, 0, 0, 0) := by
  have hz : (getZ l).1 = 0 ∨ (getZ l).1 = 50 ∨ (getZ l).1 = 60 := by
    unfold getZ
    split
    · simp
    · (repeat' split) <;> simp
  unfold getS
  repeat' split
  all_goals first | (left; rfl) | (right; left; rfl) | (right; right; rfl) | skip
  rcases hz with h | h | h
  · rename_i h'; exact absurd h h'
  · right; left; rw [h]
  · right; right; rw [h]

theorem encZ_le (z : Nat) (h : z < 281474976710656) : (encZ z).length ≤ 52 := by
  have h4 := ofc_lt z h
  have := ends_len (ofc z) h4
  have := wid_le (ofc z)
  rw [length_encZ]; omega
theorem encS_le (N L D t : Int) (h1 : rightS N L D = true) (h2 : nextS N L t = true) : (encS N L D t).length ≤ 52 := by
  obtain ⟨a1, a2, a3, a4, a5, a6⟩ := rightS_of h1
  obtain ⟨b1, b2, b3⟩ := nextS_of h2
  unfold encS
  split
  · rw [length_bitsOf]; omega
  · exact encZ_le _ (zig_lt _ (by omega))
theorem encZ_zero : encZ 0 = [false] := by decide
theorem encS_same (N L D t : Int) (hN : N ≠ 0) (h : t - L = D) : encS N L D t = [false] := by
  rw [encS, if_neg hN, show t - L - D = 0 by omega]
  exact encZ_zero
end Go.Proofs.YtlgndfckmnninaaDoor
