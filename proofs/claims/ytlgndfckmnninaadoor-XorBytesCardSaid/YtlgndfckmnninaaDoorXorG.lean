/- Walks of package xor: what bits say of a value. Conditions: as stated. -/
import Derived.Test.YtlgndfckmnninaaDoorXorP
import Derived.Test.YtlgndfckmnninaaDoorStampG
namespace Go.Proofs.YtlgndfckmnninaaDoor
open Go.RowKit
set_option linter.unusedVariables false

/-! ### plain -/
/-- A number within a window, if there is one. -/
def getN (l : List Bool) (a b : Nat) : Option Nat := if l.length < 64 - a - b then none else if outW a b l = 0 then none else some (outW a b l)
/-- A window of its own, and the number within it. -/
def getF (l : List Bool) (a b : Nat) : Option (Nat × Nat × Nat × Nat) :=
  if l.length < 12 then none
  else if 64 < val (l.take 6) + (val ((l.drop 6).take 6) + 1) then none
  else match getN (l.drop 12) (val (l.take 6)) (64 - val (l.take 6) - (val ((l.drop 6).take 6) + 1)) with
    | none => none
    | some x => if lz x ≠ val (l.take 6) ∨ tz x ≠ 64 - val (l.take 6) - (val ((l.drop 6).take 6) + 1) ∨ inW a b x = true then none
      else some (x, val (l.take 6), 64 - val (l.take 6) - (val ((l.drop 6).take 6) + 1), 12 + (val ((l.drop 6).take 6) + 1))
/-- What getD says, by its first two bits. -/
def getE (l : List Bool) (a b : Nat) : Option (Nat × Nat × Nat × Nat) :=
  if l.length < 1 then none
  else if val (l.take 1) = 0 then some (0, a, b, 1)
  else if l.length < 2 then none
  else if val ((l.drop 1).take 1) = 0 then (if a = 64 then none else (getN (l.drop 2) a b).map fun x => (x, a, b, 2 + (64 - a - b)))
  else (getF (l.drop 2) a b).map fun r => (r.1, r.2.1, r.2.2.1, 2 + r.2.2.2)
theorem getD_getE (l : List Bool) (a b : Nat) : getD l a b = match getE l a b with | none => (50, 0, 0, 0, 0) | some r => (0, r) := by
  unfold getD getE
  by_cases h1 : l.length < 1
  · rw [if_pos h1, if_pos h1]
  rw [if_neg h1, if_neg h1]
  by_cases h2 : val (l.take 1) = 0
  · rw [if_pos h2, if_pos h2]
  rw [if_neg h2, if_neg h2]
  by_cases h3 : l.length < 2
  · rw [if_pos h3, if_pos h3]
  rw [if_neg h3, if_neg h3]
  by_cases h4 : val ((l.drop 1).take 1) = 0
  · rw [if_pos h4, if_pos h4]
    by_cases h5 : a = 64
    · rw [if_pos h5, if_pos h5]
    rw [if_neg h5, if_neg h5]
    unfold getN
    rw [List.length_drop]
    by_cases h6 : l.length < 2 + (64 - a - b)
    · rw [if_pos h6, if_pos (show l.length - 2 < 64 - a - b by omega)]; rfl
    rw [if_neg h6, if_neg (show ¬ l.length - 2 < 64 - a - b by omega)]
    by_cases h7 : outW a b (l.drop 2) = 0
    · rw [if_pos h7, if_pos h7]; rfl
    · rw [if_neg h7, if_neg h7]; rfl
  · rw [if_neg h4, if_neg h4]
    unfold getF getN
    rw [List.drop_drop, List.drop_drop, List.length_drop, List.length_drop]
    simp only [show 2 + 6 = 8 from rfl, show 2 + 12 = 14 from rfl]
    by_cases h5 : l.length < 14
    · rw [if_pos h5, if_pos (show l.length - 2 < 12 by omega)]; rfl
    rw [if_neg h5, if_neg (show ¬ l.length - 2 < 12 by omega)]
    generalize val ((l.drop 2).take 6) = A
    generalize val ((l.drop 8).take 6) = M
    by_cases h6 : 64 < A + (M + 1)
    · rw [if_pos h6, if_pos h6]; rfl
    rw [if_neg h6, if_neg h6]
    obtain ⟨B, hB⟩ : ∃ B, 64 - A - (M + 1) = B := ⟨_, rfl⟩
    rw [hB]
    generalize outW A B (l.drop 14) = X
    by_cases h7 : l.length < 14 + (M + 1)
    · rw [if_pos h7, if_pos (show l.length - 14 < 64 - A - B by omega)]; rfl
    rw [if_neg h7, if_neg (show ¬ l.length - 14 < 64 - A - B by omega)]
    by_cases h8 : X = 0
    · rw [if_pos h8, if_pos h8]; rfl
    rw [if_neg h8, if_neg h8]
    simp only
    by_cases h9 : lz X ≠ A ∨ tz X ≠ B ∨ inW a b X = true
    · rw [if_pos h9, if_pos h9]; rfl
    · rw [if_neg h9, if_neg h9]
      simp only [Option.map_some, Prod.mk.injEq, true_and]
      omega
theorem val_take_lt (l : List Bool) (n : Nat) : val (l.take n) < 2 ^ n := Nat.lt_of_lt_of_le (val_lt _) (Nat.pow_le_pow_right (by omega) (by rw [List.length_take]; omega))
theorem outW_lt (l : List Bool) (a b : Nat) (h : a + b ≤ 64) : outW a b l < 2 ^ 64 := by
  unfold outW
  calc val (l.take (64 - a - b)) * 2 ^ b < 2 ^ (64 - a - b) * 2 ^ b := Nat.mul_lt_mul_of_pos_right (val_take_lt _ _) (Nat.two_pow_pos _)
    _ = 2 ^ (64 - a) := by rw [← Nat.pow_add, show 64 - a - b + b = 64 - a by omega]
    _ ≤ 2 ^ 64 := Nat.pow_le_pow_right (by omega) (by omega)

/-! ### read -/
theorem Tryd.info38 : (Tryd.prog.info? 38).map (fun i => (i.zero, i.size, i.bytes)) = some (some (.int .u64 0), 1, 8) := by kernel_rfl
/-- The numbers of so many bits each, one behind the other. -/
def readV (bs : List Int) : Nat → List Nat → List Nat
  | _, [] => []
  | p, n :: ns => val (((unB bs).drop p).take n) :: readV bs (p + n) ns
theorem readV_snoc (bs : List Int) : ∀ (ns : List Nat) (p n : Nat), readV bs p (ns ++ [n]) = readV bs p ns ++ [val (((unB bs).drop (p + ns.sum)).take n)]
  | [], p, n => by simp [readV]
  | m :: ns, p, n => by simp [readV, readV_snoc bs ns, Nat.add_assoc]
/-- The sizes lie in block q. -/
def SizesAt (w : World) (q : Nat) (ns : List Nat) : Prop := ∀ j n, ns[j]? = some n → w.cell? ⟨q, j, none⟩ = some (.int .i64 (n : Nat))
/-- The numbers lie in block q. -/
def NumsAt (w : World) (q : Nat) (xs : List Nat) : Prop := ∀ j x, xs[j]? = some x → w.cell? ⟨q, j, none⟩ = some (.int .u64 (x : Nat))
theorem SizesAt.keep {w w' : World} {q : Nat} {ns : List Nat} (h : SizesAt w q ns) (hk : ∀ o, w'.cell? ⟨q, o, none⟩ = w.cell? ⟨q, o, none⟩) : SizesAt w' q ns := fun j n hj => (hk j).trans (h j n hj)
theorem touch_cells {w w' : World} {g q : Nat} {B : Option Nat} (ht : Touch g B w w') (hq : q < w.heap.size) (h1 : q ≠ g) (h2 : some q ≠ B) (o : Nat) : w'.cell? ⟨q, o, none⟩ = w.cell? ⟨q, o, none⟩ := World.cell?_of_block (ht.block q hq h1 h2)
def nums (xs : List Nat) : List Value := xs.map fun x => .int .u64 ((x : Nat) : Int)
theorem take_sum_le : ∀ (ns : List Nat) (i : Nat), (ns.take i).sum ≤ ns.sum
  | [], i => by simp
  | n :: ns, 0 => by simp
  | n :: ns, i + 1 => by simp only [List.take_succ_cons, List.sum_cons]; have := take_sum_le ns i; omega
theorem take_sum_step (ns : List Nat) (i n : Nat) (h : ns[i]? = some n) : (ns.take (i + 1)).sum = (ns.take i).sum + n := by
  have hj := (List.getElem?_eq_some_iff.1 h).1
  have hx := (List.getElem?_eq_some_iff.1 h).2
  rw [List.take_succ_eq_append_getElem hj, hx]; simp

set_option maxHeartbeats 1600000 in
theorem read_ok (w : World) (base g q : Nat) (R : Option Nat) (bs : List Int) (p c : Nat) (ns : List Nat) (h : Rd w base g R bs p) (hbs : ∀ x ∈ bs, Byte x) (hS : SizesAt w q ns) (hq : q < w.heap.size) (hqg : q ≠ g) (hns : ∀ n ∈ ns, n ≤ 64) (hl : ns.length ≤ 5) (hc : ns.length ≤ c ∧ c ≤ 1000) (hsum : p + ns.sum ≤ 8 * bs.length) (hR : ∀ k, R = some k → k < w.heap.size) :
    Calls Tryd.prog 83 #[.pointer (some ⟨g, 0, none⟩), .slice (some ⟨q, 0, none⟩) ns.length c] w fun e w' => ∃ v, e = .returned (.tuple #[v, .int .i64 0]) ∧ w'.ownsRow w.heap.size 38 1 v ns.length (nums (readV bs p ns)) ∧ Rd w' base g R bs (p + ns.sum) ∧ Touch g none w w' := by
  have hlt := h.lt
  have HBS := Lib.hid hbs
  have HNS := Lib.hid hns
  have HR := Lib.hid hR
  obtain ⟨m, hm⟩ : ∃ m, ns.length = m := ⟨_, rfl⟩
  rw [hm] at hl hc ⊢
  have HM := Lib.hid hm
  obtain ⟨hc1, hc2⟩ := hc
  clear hns hbs hm hR
  go_enter Tryd.func83, Tryd.ntmps83
  go_wp2_with fail
  go_loopw [13, 6] (fun iv lv wr => ∃ (i : Nat), iv = .int .i64 i ∧ i ≤ m ∧ Rd wr base g R bs (p + (ns.take i).sum) ∧ wr.ownsRow w.heap.size 38 1 lv i (nums (readV bs p (ns.take i))) ∧ Touch g none w wr ∧ SizesAt wr q ns) (fun iv _ _ => m - (intOf iv).toNat)
  case atStart => exact ⟨0, rfl, Nat.zero_le _, by simpa using h, by simpa [readV, nums] using World.ownsRow_nil _ _ _ _, Touch.refl _ _ _, hS⟩
  case round =>
    obtain ⟨i, rfl, hi, hD, hO, hT, hSz⟩ := hrel
    have hsz := hT.size
    rcases Nat.lt_or_ge i m with hlt2 | hge
    · obtain ⟨n, hn⟩ : ∃ n, ns[i]? = some n := ⟨_, List.getElem?_eq_getElem (by rw [HM.out]; exact hlt2)⟩
      have c1 := hSz i n hn
      have hn64 := HNS.out n (List.mem_of_getElem? hn)
      have hst := take_sum_step ns i n hn
      have hle := take_sum_le ns (i + 1)
      have hrv : readV bs p (ns.take (i + 1)) = readV bs p (ns.take i) ++ [val (((unB bs).drop (p + (ns.take i).sum)).take n)] := by
        have hj := (List.getElem?_eq_some_iff.1 hn).1
        have hx := (List.getElem?_eq_some_iff.1 hn).2
        rw [List.take_succ_eq_append_getElem hj, hx, readV_snoc]
      obtain ⟨X, hX⟩ : ∃ X, val (((unB bs).drop (p + (ns.take i).sum)).take n) = X := ⟨_, rfl⟩
      rw [hX] at hrv
      obtain ⟨P, hP⟩ : ∃ P, p + (ns.take i).sum = P := ⟨_, rfl⟩
      have hP2 : p + (ns.take (i + 1)).sum = P + n := by omega
      rw [hP] at hX hD
      have GE := fun W h => getI_ok W base g R bs P n h HBS.out (by omega) (by omega) (by rw [Int.toNat_natCast]; omega)
      rw [Int.toNat_natCast, hX] at GE
      have HGE := Lib.hid GE
      have HRV := Lib.hid hrv
      have HP2 := Lib.hid hP2
      clear hn hst hle hrv hX hP hP2 GE hn64
      go_wp2_with fail
      refine (HGE.out _ hD).mono ?_
      rintro e w3 ⟨rfl, D3, hT3⟩
      have T3 := hT.trans hT3 (.inl rfl)
      have S3 := hSz.keep (touch_cells hT3 (by omega) hqg (by simp))
      have hz3 := hT3.size
      have hOB : ∀ k, (Value.ownBlock u6) = some k → w.heap.size ≤ k ∧ k < wr.heap.size := fun k hk => hO.lt k hk
      have O3 := own_touch hO hT3 (fun e => by have := (hOB _ e).1; omega) (by cases Value.ownBlock u6 <;> simp)
      obtain ⟨A6, c6, rfl, _, _⟩ := own_slice O3
      have HOB := Lib.hid hOB
      clear hD hO hT hSz hT3 hOB c1
      go_wp2_with (at_builtin; refine app_one_at w.heap.size rfl _ _ 46 38 (.int .u64 0) 8 rfl Tryd.underlying46 Tryd.info38 rfl (.slice A6 i c6) i (nums (readV bs p (ns.take i))) (.int .u64 (X : Nat)) (by rfl) (by rfl) rfl O3 (by omega) (by omega) (by omega) ?_; intro r7 c7 w7 O7 G7 at7)
      have hrb : (Value.ownBlock (.slice A6 i c6)) = none ∨ ∃ x, (Value.ownBlock (.slice A6 i c6)) = some x ∧ w.heap.size ≤ x := by
        cases e : Value.ownBlock (.slice A6 i c6) with
        | none => exact .inl rfl
        | some x => exact .inr ⟨x, rfl, (HOB.out x e).1⟩
      have T7 := T3.grown G7 (.inr hrb)
      have hG : ∀ y, y < w.heap.size → some y ≠ Value.ownBlock (.slice A6 i c6) := fun y hy e => by have := (HOB.out y e.symm).1; omega
      have S7 := S3.keep (fun o => World.cell?_of_block (G7.block q (by omega) (hG q hq)))
      have TG : Touch g (Value.ownBlock (.slice A6 i c6)) w3 w7 := (Touch.refl g _ w3).grown G7 (.inl rfl)
      obtain ⟨hb, AA, nn, cc, hgB, hrB, hAR, hne, hpp⟩ := id D3
      have D7 : Rd w7 base g R bs (P + n) := by
        refine ⟨hb, AA, nn, cc, hgB.grown G7 (hG g hlt), ?_, hAR, hne, hpp⟩
        refine ⟨hrB.1, hrB.2.1, hrB.2.2.1, fun hn => ?_⟩
        obtain ⟨r, off, e, hcl⟩ := hrB.2.2.2 hn
        refine ⟨r, off, e, fun j hj => ?_⟩
        have hcj := hcl j hj
        have hrl := World.block_lt_of_cell? w3 _ hcj
        refine (World.cell?_of_block (G7.block r hrl (hG r (HR.out r (by rw [← hAR, e]; rfl))))).trans hcj
      have O7' : w7.ownsRow w.heap.size 38 1 (.slice (some ⟨r7, 0, none⟩) (i + 1) c7) (i + 1) (nums (readV bs p (ns.take (i + 1)))) := by
        rw [HRV.out]; simpa [nums] using O7
      clear O3 O7 G7 at7 hrb hG TG hb hgB hrB hAR hne hpp T3 S3 D3
      go_wp2_with fail
      go_roundw
      case rel => exact ⟨i + 1, by go_num, hlt2, by rw [HP2.out]; exact D7, O7', T7, S7⟩
      case measure => simp [intOf]; omega
    · obtain rfl : i = m := by omega
      rw [List.take_of_length_le (by rw [HM.out]; exact Nat.le_refl _)] at hD hO
      go_wp2_with fail
      go_ret2
      exact ⟨_, rfl, hO, hD, hT⟩

set_option maxHeartbeats 1600000 in
theorem read_no (w : World) (base g q : Nat) (R : Option Nat) (bs : List Int) (p c : Nat) (ns : List Nat) (h : Rd w base g R bs p) (hbs : ∀ x ∈ bs, Byte x) (hS : SizesAt w q ns) (hq : q < w.heap.size) (hqg : q ≠ g) (hns : ∀ n ∈ ns, n ≤ 64) (hl : ns.length ≤ 5) (hc : ns.length ≤ c ∧ c ≤ 1000) (hsum : 8 * bs.length < p + ns.sum) (hR : ∀ k, R = some k → k < w.heap.size) :
    Calls Tryd.prog 83 #[.pointer (some ⟨g, 0, none⟩), .slice (some ⟨q, 0, none⟩) ns.length c] w fun e w' => ∃ p', e = .returned (.tuple #[.slice none 0 0, .int .i64 50]) ∧ Rd w' base g R bs p' ∧ Touch g none w w' := by
  have hlt := h.lt
  have HBS := Lib.hid hbs
  have HNS := Lib.hid hns
  have HR := Lib.hid hR
  obtain ⟨m, hm⟩ : ∃ m, ns.length = m := ⟨_, rfl⟩
  rw [hm] at hl hc ⊢
  have HM := Lib.hid hm
  obtain ⟨hc1, hc2⟩ := hc
  clear hns hbs hm hR
  go_enter Tryd.func83, Tryd.ntmps83
  go_wp2_with fail
  go_loopw [13, 6] (fun iv lv wr => ∃ (i : Nat), iv = .int .i64 i ∧ i ≤ m ∧ Rd wr base g R bs (p + (ns.take i).sum) ∧ wr.ownsRow w.heap.size 38 1 lv i (nums (readV bs p (ns.take i))) ∧ Touch g none w wr ∧ SizesAt wr q ns) (fun iv _ _ => m - (intOf iv).toNat)
  case atStart => exact ⟨0, rfl, Nat.zero_le _, by simpa using h, by simpa [readV, nums] using World.ownsRow_nil _ _ _ _, Touch.refl _ _ _, hS⟩
  case round =>
    obtain ⟨i, rfl, hi, hD, hO, hT, hSz⟩ := hrel
    have hsz := hT.size
    rcases Nat.lt_or_ge i m with hlt2 | hge
    · obtain ⟨n, hn⟩ : ∃ n, ns[i]? = some n := ⟨_, List.getElem?_eq_getElem (by rw [HM.out]; exact hlt2)⟩
      have c1 := hSz i n hn
      have hn64 := HNS.out n (List.mem_of_getElem? hn)
      have hst := take_sum_step ns i n hn
      have hle := take_sum_le ns (i + 1)
      have hrv : readV bs p (ns.take (i + 1)) = readV bs p (ns.take i) ++ [val (((unB bs).drop (p + (ns.take i).sum)).take n)] := by
        have hj := (List.getElem?_eq_some_iff.1 hn).1
        have hx := (List.getElem?_eq_some_iff.1 hn).2
        rw [List.take_succ_eq_append_getElem hj, hx, readV_snoc]
      obtain ⟨X, hX⟩ : ∃ X, val (((unB bs).drop (p + (ns.take i).sum)).take n) = X := ⟨_, rfl⟩
      rw [hX] at hrv
      obtain ⟨P, hP⟩ : ∃ P, p + (ns.take i).sum = P := ⟨_, rfl⟩
      have hP2 : p + (ns.take (i + 1)).sum = P + n := by omega
      rw [hP] at hX hD
      rcases Nat.lt_or_ge (8 * bs.length) (P + n) with hshort | hfit
      · have GN := fun W h => getI_no W base g R bs P n h HBS.out (by omega) (by omega) (by rw [Int.toNat_natCast]; omega)
        have HGN := Lib.hid GN
        clear hn hst hle hrv hX hP hP2 GN hn64
        go_wp2_with fail
        refine (HGN.out _ hD).mono ?_
        rintro e w3 ⟨rfl, D3, hT3⟩
        go_wp2_with fail
        go_ret2
        exact ⟨_, rfl, D3, hT.trans hT3 (.inl rfl)⟩
      have GE := fun W h => getI_ok W base g R bs P n h HBS.out (by omega) (by omega) (by rw [Int.toNat_natCast]; omega)
      rw [Int.toNat_natCast, hX] at GE
      have HGE := Lib.hid GE
      have HRV := Lib.hid hrv
      have HP2 := Lib.hid hP2
      clear hn hst hle hrv hX hP hP2 GE hn64
      go_wp2_with fail
      refine (HGE.out _ hD).mono ?_
      rintro e w3 ⟨rfl, D3, hT3⟩
      have T3 := hT.trans hT3 (.inl rfl)
      have S3 := hSz.keep (touch_cells hT3 (by omega) hqg (by simp))
      have hz3 := hT3.size
      have hOB : ∀ k, (Value.ownBlock u6) = some k → w.heap.size ≤ k ∧ k < wr.heap.size := fun k hk => hO.lt k hk
      have O3 := own_touch hO hT3 (fun e => by have := (hOB _ e).1; omega) (by cases Value.ownBlock u6 <;> simp)
      obtain ⟨A6, c6, rfl, _, _⟩ := own_slice O3
      have HOB := Lib.hid hOB
      clear hD hO hT hSz hT3 hOB c1
      go_wp2_with (at_builtin; refine app_one_at w.heap.size rfl _ _ 46 38 (.int .u64 0) 8 rfl Tryd.underlying46 Tryd.info38 rfl (.slice A6 i c6) i (nums (readV bs p (ns.take i))) (.int .u64 (X : Nat)) (by rfl) (by rfl) rfl O3 (by omega) (by omega) (by omega) ?_; intro r7 c7 w7 O7 G7 at7)
      have hrb : (Value.ownBlock (.slice A6 i c6)) = none ∨ ∃ x, (Value.ownBlock (.slice A6 i c6)) = some x ∧ w.heap.size ≤ x := by
        cases e : Value.ownBlock (.slice A6 i c6) with
        | none => exact .inl rfl
        | some x => exact .inr ⟨x, rfl, (HOB.out x e).1⟩
      have T7 := T3.grown G7 (.inr hrb)
      have hG : ∀ y, y < w.heap.size → some y ≠ Value.ownBlock (.slice A6 i c6) := fun y hy e => by have := (HOB.out y e.symm).1; omega
      have S7 := S3.keep (fun o => World.cell?_of_block (G7.block q (by omega) (hG q hq)))
      have TG : Touch g (Value.ownBlock (.slice A6 i c6)) w3 w7 := (Touch.refl g _ w3).grown G7 (.inl rfl)
      obtain ⟨hb, AA, nn, cc, hgB, hrB, hAR, hne, hpp⟩ := id D3
      have D7 : Rd w7 base g R bs (P + n) := by
        refine ⟨hb, AA, nn, cc, hgB.grown G7 (hG g hlt), ?_, hAR, hne, hpp⟩
        refine ⟨hrB.1, hrB.2.1, hrB.2.2.1, fun hn => ?_⟩
        obtain ⟨r, off, e, hcl⟩ := hrB.2.2.2 hn
        refine ⟨r, off, e, fun j hj => ?_⟩
        have hcj := hcl j hj
        have hrl := World.block_lt_of_cell? w3 _ hcj
        refine (World.cell?_of_block (G7.block r hrl (hG r (HR.out r (by rw [← hAR, e]; rfl))))).trans hcj
      have O7' : w7.ownsRow w.heap.size 38 1 (.slice (some ⟨r7, 0, none⟩) (i + 1) c7) (i + 1) (nums (readV bs p (ns.take (i + 1)))) := by
        rw [HRV.out]; simpa [nums] using O7
      clear O3 O7 G7 at7 hrb hG TG hb hgB hrB hAR hne hpp T3 S3 D3
      go_wp2_with fail
      go_roundw
      case rel => exact ⟨i + 1, by go_num, hlt2, by rw [HP2.out]; exact D7, O7', T7, S7⟩
      case measure => simp [intOf]; omega
    · obtain rfl : i = m := by omega
      have hpl := hD.place
      rw [List.take_of_length_le (by rw [HM.out]; exact Nat.le_refl _)] at hpl
      omega

theorem SizesAt.one {w : World} {q : Nat} {t : TypeId} {M : Int} {n : Nat} (h : Blk w q t #[.int .i64 M]) (hm : M = n) : SizesAt w q [n] := fun j y hj => by
  subst hm
  match j with
  | 0 => simp at hj; subst hj; exact h.cell 0
theorem SizesAt.two {w : World} {q : Nat} {t : TypeId} {M M2 : Int} {n n2 : Nat} (h : Blk w q t #[.int .i64 M, .int .i64 M2]) (hm : M = n) (hm2 : M2 = n2) : SizesAt w q [n, n2] := fun j y hj => by
  subst hm hm2
  match j with
  | 0 => simp at hj; subst hj; exact h.cell 0
  | 1 => simp at hj; subst hj; exact h.cell 1
/-- One number that was read. -/
theorem own_one {w : World} {base : Nat} {v : Value} {x : Nat} (h : w.ownsRow base 38 1 v 1 (nums [x])) : ∃ q c, v = .slice (some ⟨q, 0, none⟩) 1 c ∧ 1 ≤ c ∧ c ≤ 9223372036854775807 ∧ base ≤ q ∧ q < w.heap.size ∧ w.cell? ⟨q, 0, none⟩ = some (.int .u64 (x : Nat)) := by
  obtain ⟨q, c, rfl, h1, h2⟩ := h.form (by omega)
  obtain ⟨_, _, hv, h5, h6⟩ := own_slice h
  injection hv with _ _ hv
  subst hv
  have h3 := h.lt q rfl
  exact ⟨q, c, rfl, h5, h6, h3.1, h3.2, h.cells (g := q) rfl 0 _ rfl⟩
theorem own_two {w : World} {base : Nat} {v : Value} {x y : Nat} (h : w.ownsRow base 38 1 v 2 (nums [x, y])) : ∃ q c, v = .slice (some ⟨q, 0, none⟩) 2 c ∧ 2 ≤ c ∧ c ≤ 9223372036854775807 ∧ base ≤ q ∧ q < w.heap.size ∧ w.cell? ⟨q, 0, none⟩ = some (.int .u64 (x : Nat)) ∧ w.cell? ⟨q, 1, none⟩ = some (.int .u64 (y : Nat)) := by
  obtain ⟨q, c, rfl, h1, h2⟩ := h.form (by omega)
  obtain ⟨_, _, hv, h5, h6⟩ := own_slice h
  injection hv with _ _ hv
  subst hv
  have h3 := h.lt q rfl
  have h4 := h.cells (g := q) rfl 1 _ rfl
  have ha : (⟨q, 0, none⟩ : Addr).add 1 = ⟨q, 1, none⟩ := by unfold Addr.add; split <;> simp_all
  rw [ha] at h4
  exact ⟨q, c, rfl, h5, h6, h3.1, h3.2, h.cells (g := q) rfl 0 _ rfl, h4⟩

theorem getN_some {l : List Bool} {a b x : Nat} (h : getN l a b = some x) : 64 - a - b ≤ l.length ∧ outW a b l = x ∧ x ≠ 0 := by
  unfold getN at h
  split at h
  · cases h
  · split at h
    · cases h
    · rename_i h2
      injection h with h
      exact ⟨by omega, h, by rw [← h]; exact h2⟩
theorem getN_none {l : List Bool} {a b : Nat} (h : getN l a b = none) : l.length < 64 - a - b ∨ (64 - a - b ≤ l.length ∧ outW a b l = 0) := by
  unfold getN at h
  split at h
  · exact .inl (by assumption)
  · split at h
    · exact .inr ⟨by omega, by assumption⟩
    · cases h

set_option maxHeartbeats 800000 in
theorem within_ok (w : World) (base g : Nat) (R : Option Nat) (bs : List Int) (p a b : Nat) (X : Nat) (h : Rd w base g R bs p) (hbs : ∀ x ∈ bs, Byte x) (hR : ∀ k, R = some k → k < w.heap.size) (hab : a + b ≤ 63) (hX : getN ((unB bs).drop p) a b = some X) :
    Calls Tryd.prog 85 #[.pointer (some ⟨g, 0, none⟩), .agg #[.int .i64 (a : Nat), .int .i64 (b : Nat)]] w fun e w' => e = .returned (.tuple #[.int .u64 (X : Nat), .int .i64 0]) ∧ Rd w' base g R bs (p + (64 - a - b)) ∧ Touch g none w w' := by
  have S0 := Blk.new w 113 #[.int .i64 (a : Nat), .int .i64 (b : Nat)]
  have B0 : Below w.heap.size w (w.alloc (.cells #[.int .i64 (a : Nat), .int .i64 (b : Nat)] 113)) := (Below.refl _ w).alloc (Nat.le_refl _) _
  have hlt := h.lt
  have HBS := Lib.hid hbs
  have HR := Lib.hid hR
  obtain ⟨m, hm⟩ : ∃ m : Nat, (64 : Int) - (a : Int) - (b : Int) = (m : Int) := ⟨64 - a - b, by omega⟩
  have hm2 : 64 - a - b = m := by omega
  have SZ := fun W => size_win a b W (by omega) (by omega) (by omega) (by omega)
  rw [hm] at SZ
  have HSZ := Lib.hid SZ
  have HM2 := Lib.hid hm2
  have hm64 : m ≤ 64 := by omega
  have hb64 : (b : Int) < 64 := by omega
  have hb63 : b < 64 := by omega
  obtain ⟨hl, ho, h0⟩ := getN_some hX
  rw [hm2, rest_len] at hl
  have hpl := h.place
  obtain ⟨Y, hY⟩ : ∃ Y, val (((unB bs).drop p).take m) = Y := ⟨_, rfl⟩
  have hsh : IntKind.u64.wrap ((Y : Int) * 2 ^ b) = ((X : Nat) : Int) := by
    have hx := outW_lt ((unB bs).drop p) a b (by omega)
    rw [ho] at hx
    have e : Y * 2 ^ b = X := by rw [← ho, outW, hm2, hY]
    rw [show (Y : Int) * 2 ^ b = ((Y * 2 ^ b : Nat) : Int) by push_cast; rfl, e, IntKind.wrap_u64]
    omega
  have hx1 : ((X : Int) == 0) = false := by simp; exact h0
  have hx2 : (X == 0) = false := beq_eq_false_iff_ne.2 h0
  have HYY := Lib.hid hY
  clear hX ho hm2 hm SZ hY h0 hbs hR
  go_enter Tryd.func85, Tryd.ntmps85
  go_wp2_with fail
  refine (HSZ.out _).mono ?_
  rintro e w2 ⟨rfl, hB2⟩
  have H2 := below_more B0 hB2
  have S2 := S0.below hB2
  have A3 : Below w2.heap.size w2 (w2.alloc (.cells #[.int .i64 (m : Nat)] 3)) := (Below.refl _ w2).alloc (Nat.le_refl _) _
  have Z3 := SizesAt.one (n := m) (Blk.new w2 3 #[.int .i64 (m : Nat)]) rfl
  have H3 := H2.trans (A3.mono H2.size)
  have S3 := S2.below A3
  have D3 := h.below H3
  have hz2 := H2.size
  have hz3 : w2.heap.size < (w2.alloc (.cells #[.int .i64 (m : Nat)] 3)).heap.size := by simp
  have hzb : w.heap.size < w2.heap.size := S2.lt
  go_wp2_with fail
  obtain ⟨q, hq⟩ : ∃ q, w2.heap.size = q := ⟨_, rfl⟩
  rw [hq] at Z3 hz2 hz3 hzb ⊢
  generalize w2.alloc (.cells #[.int .i64 (m : Nat)] 3) = w3 at *
  clear A3 H2 S2 hB2 S0 B0 hq
  have hqg : q ≠ g := by omega
  have HRq : ∀ k, R = some k → k < w3.heap.size := fun k hk => by have := HR.out k hk; omega
  refine (read_ok w3 base g q R bs p 1 [m] D3 HBS.out Z3 hz3 hqg (by simp; omega) (by simp) (by simp) (by simp; omega) HRq).mono ?_
  rw [show readV bs p [m] = [Y] by simp [readV, HYY.out], show p + [m].sum = p + m by simp]
  rintro e w4 ⟨v, rfl, O4, D4, T4⟩
  obtain ⟨r, c, rfl, hc1, hc2, hr1, hr2, hr3⟩ := own_one O4
  have S4 := S3.touch T4 (by omega) (by simp)
  obtain ⟨s0, s1⟩ := S4.cells2
  have K4 := (Touch.of_below H3 g none).trans T4 (.inl rfl)
  clear O4 T4 D3 S3 H3
  go_wp2_with fail
  go_quiet (fail)
  go_wp2_with fail
  go_ret2
  rw [HM2.out]
  exact ⟨rfl, D4.drewN nq, K4.drewN nq⟩

set_option maxHeartbeats 800000 in
theorem within_no (w : World) (base g : Nat) (R : Option Nat) (bs : List Int) (p a b : Nat) (h : Rd w base g R bs p) (hbs : ∀ x ∈ bs, Byte x) (hR : ∀ k, R = some k → k < w.heap.size) (hab : a + b ≤ 63) (hX : getN ((unB bs).drop p) a b = none) :
    Calls Tryd.prog 85 #[.pointer (some ⟨g, 0, none⟩), .agg #[.int .i64 (a : Nat), .int .i64 (b : Nat)]] w fun e w' => ∃ p', e = .returned (.tuple #[.int .u64 0, .int .i64 50]) ∧ Rd w' base g R bs p' ∧ Touch g none w w' := by
  have S0 := Blk.new w 113 #[.int .i64 (a : Nat), .int .i64 (b : Nat)]
  have B0 : Below w.heap.size w (w.alloc (.cells #[.int .i64 (a : Nat), .int .i64 (b : Nat)] 113)) := (Below.refl _ w).alloc (Nat.le_refl _) _
  have hlt := h.lt
  have HBS := Lib.hid hbs
  have HR := Lib.hid hR
  obtain ⟨m, hm⟩ : ∃ m : Nat, (64 : Int) - (a : Int) - (b : Int) = (m : Int) := ⟨64 - a - b, by omega⟩
  have hm2 : 64 - a - b = m := by omega
  have SZ := fun W => size_win a b W (by omega) (by omega) (by omega) (by omega)
  rw [hm] at SZ
  have HSZ := Lib.hid SZ
  have HM2 := Lib.hid hm2
  have hm64 : m ≤ 64 := by omega
  have hb64 : (b : Int) < 64 := by omega
  have hb63 : b < 64 := by omega
  have hpl := h.place
  rcases getN_none hX with hl | ⟨hl, ho⟩
  · rw [hm2, rest_len] at hl
    clear hX hm2 hm SZ hbs hR
    go_enter Tryd.func85, Tryd.ntmps85
    go_wp2_with fail
    refine (HSZ.out _).mono ?_
    rintro e w2 ⟨rfl, hB2⟩
    have H2 := below_more B0 hB2
    have S2 := S0.below hB2
    have A3 : Below w2.heap.size w2 (w2.alloc (.cells #[.int .i64 (m : Nat)] 3)) := (Below.refl _ w2).alloc (Nat.le_refl _) _
    have Z3 := SizesAt.one (n := m) (Blk.new w2 3 #[.int .i64 (m : Nat)]) rfl
    have H3 := H2.trans (A3.mono H2.size)
    have S3 := S2.below A3
    have D3 := h.below H3
    have hz2 := H2.size
    have hz3 : w2.heap.size < (w2.alloc (.cells #[.int .i64 (m : Nat)] 3)).heap.size := by simp
    have hzb : w.heap.size < w2.heap.size := S2.lt
    go_wp2_with fail
    obtain ⟨q, hq⟩ : ∃ q, w2.heap.size = q := ⟨_, rfl⟩
    rw [hq] at Z3 hz2 hz3 hzb ⊢
    generalize w2.alloc (.cells #[.int .i64 (m : Nat)] 3) = w3 at *
    clear A3 H2 S2 hB2 S0 B0 hq
    have hqg : q ≠ g := by omega
    have HRq : ∀ k, R = some k → k < w3.heap.size := fun k hk => by have := HR.out k hk; omega
    refine (read_no w3 base g q R bs p 1 [m] D3 HBS.out Z3 hz3 hqg (by simp; omega) (by simp) (by simp) (by simp; omega) HRq).mono ?_
    rintro e w4 ⟨p4, rfl, D4, T4⟩
    have K4 := (Touch.of_below H3 g none).trans T4 (.inl rfl)
    go_wp2_with fail
    go_ret2
    exact ⟨_, rfl, D4, K4⟩
  · rw [hm2, rest_len] at hl
    obtain ⟨Y, hY⟩ : ∃ Y, val (((unB bs).drop p).take m) = Y := ⟨_, rfl⟩
    have hsh : IntKind.u64.wrap ((Y : Int) * 2 ^ b) = 0 := by
      have e : Y * 2 ^ b = 0 := by rw [← ho, outW, hm2, hY]
      rw [show (Y : Int) * 2 ^ b = ((Y * 2 ^ b : Nat) : Int) by push_cast; rfl, e, IntKind.wrap_u64]
      rfl
    have HYY := Lib.hid hY
    clear hX ho hm2 hm SZ hY hbs hR
    go_enter Tryd.func85, Tryd.ntmps85
    go_wp2_with fail
    refine (HSZ.out _).mono ?_
    rintro e w2 ⟨rfl, hB2⟩
    have H2 := below_more B0 hB2
    have S2 := S0.below hB2
    have A3 : Below w2.heap.size w2 (w2.alloc (.cells #[.int .i64 (m : Nat)] 3)) := (Below.refl _ w2).alloc (Nat.le_refl _) _
    have Z3 := SizesAt.one (n := m) (Blk.new w2 3 #[.int .i64 (m : Nat)]) rfl
    have H3 := H2.trans (A3.mono H2.size)
    have S3 := S2.below A3
    have D3 := h.below H3
    have hz2 := H2.size
    have hz3 : w2.heap.size < (w2.alloc (.cells #[.int .i64 (m : Nat)] 3)).heap.size := by simp
    have hzb : w.heap.size < w2.heap.size := S2.lt
    go_wp2_with fail
    obtain ⟨q, hq⟩ : ∃ q, w2.heap.size = q := ⟨_, rfl⟩
    rw [hq] at Z3 hz2 hz3 hzb ⊢
    generalize w2.alloc (.cells #[.int .i64 (m : Nat)] 3) = w3 at *
    clear A3 H2 S2 hB2 S0 B0 hq
    have hqg : q ≠ g := by omega
    have HRq : ∀ k, R = some k → k < w3.heap.size := fun k hk => by have := HR.out k hk; omega
    refine (read_ok w3 base g q R bs p 1 [m] D3 HBS.out Z3 hz3 hqg (by simp; omega) (by simp) (by simp) (by simp; omega) HRq).mono ?_
    rw [show readV bs p [m] = [Y] by simp [readV, HYY.out], show p + [m].sum = p + m by simp]
    rintro e w4 ⟨v, rfl, O4, D4, T4⟩
    obtain ⟨r, c, rfl, hc1, hc2, hr1, hr2, hr3⟩ := own_one O4
    have S4 := S3.touch T4 (by omega) (by simp)
    obtain ⟨s0, s1⟩ := S4.cells2
    have K4 := (Touch.of_below H3 g none).trans T4 (.inl rfl)
    clear O4 T4 D3 S3 H3
    go_wp2_with fail
    go_quiet (fail)
    go_wp2_with fail
    go_ret2
    exact ⟨_, rfl, D4.drewN nq, K4.drewN nq⟩

theorem XorTab.touch {g : Nat} {B : Option Nat} {w w' : World} (h : XorTab w) (ht : Touch g B w w') (hg : 2 ≤ g) (hB : some 1 ≠ B) : XorTab w' := fun j hj =>
  (World.cell?_of_block (ht.block 1 (World.block_lt_of_cell? w ⟨1, j, none⟩ (h j hj)) (by omega) hB)).trans (h j hj)
theorem XorTab.pos {w : World} (h : XorTab w) : 1 < w.heap.size := World.block_lt_of_cell? w ⟨1, 0, none⟩ (h 0 (by decide))
theorem Rd.set2 {w : World} {base g r : Nat} {R : Option Nat} {bs : List Int} {p : Nat} (h : Rd w base g R bs p) (h1 : g ≠ r) (h2 : R ≠ some r) (x y : Value) : Rd (Go.Proofs.YtlgndfckmnninaaDoor.set2 w r x y) base g R bs p :=
  h.touch (touch_set2 w r x y) h1 (by simp) h2 (by cases R <;> simp)
theorem Rd.set4 {w : World} {base g r : Nat} {R : Option Nat} {bs : List Int} {p : Nat} (h : Rd w base g R bs p) (h1 : g ≠ r) (h2 : R ≠ some r) (x y z u : Value) : Rd (Go.Proofs.YtlgndfckmnninaaDoor.set4 w r x y z u) base g R bs p :=
  h.touch (touch_set4 w r x y z u) h1 (by simp) h2 (by cases R <;> simp)
theorem win_new (w : World) (a b c d : Value) (t t' : TypeId) : Blk ((w.alloc (.cells #[a, b] t)).alloc (.cells #[c, d] t')) w.heap.size t #[a, b] ∧ Blk ((w.alloc (.cells #[a, b] t)).alloc (.cells #[c, d] t')) (w.heap.size + 1) t' #[c, d] ∧ Below w.heap.size w ((w.alloc (.cells #[a, b] t)).alloc (.cells #[c, d] t')) :=
  ⟨(Blk.new w t _).alloc _, by simpa using Blk.new (w.alloc (.cells #[a, b] t)) t' #[c, d], below2 w _ _⟩

theorem getF_some {l : List Bool} {a b X A B c : Nat} (h : getF l a b = some (X, A, B, c)) : ∃ M, 12 ≤ l.length ∧ val (l.take 6) = A ∧ val ((l.drop 6).take 6) = M ∧ A + (M + 1) ≤ 64 ∧ 64 - A - (M + 1) = B ∧ getN (l.drop 12) A B = some X ∧ lz X = A ∧ tz X = B ∧ inW a b X = false ∧ c = 12 + (M + 1) := by
  unfold getF at h
  split at h
  · cases h
  · split at h
    · cases h
    · split at h
      · cases h
      · rename_i h1 h2 _ x hx
        split at h
        · cases h
        · rename_i h3
          simp only [not_or, ne_eq, Decidable.not_not, Bool.not_eq_true] at h3
          injection h with h
          simp only [Prod.mk.injEq] at h
          obtain ⟨rfl, rfl, rfl, rfl⟩ := h
          exact ⟨_, by omega, rfl, rfl, by omega, rfl, hx, h3.1, h3.2.1, h3.2.2, rfl⟩
theorem getF_none {l : List Bool} {a b : Nat} (h : getF l a b = none) : l.length < 12 ∨ (12 ≤ l.length ∧ ∃ A M, val (l.take 6) = A ∧ val ((l.drop 6).take 6) = M ∧ (64 < A + (M + 1) ∨ (A + (M + 1) ≤ 64 ∧ ∃ B, 64 - A - (M + 1) = B ∧ (getN (l.drop 12) A B = none ∨ ∃ X, getN (l.drop 12) A B = some X ∧ (¬ (lz X = A ∧ tz X = B) ∨ (lz X = A ∧ tz X = B ∧ inW a b X = true)))))) := by
  unfold getF at h
  by_cases h1 : l.length < 12
  · exact .inl h1
  rw [if_neg h1] at h
  refine .inr ⟨by omega, _, _, rfl, rfl, ?_⟩
  by_cases h2 : 64 < val (l.take 6) + (val ((l.drop 6).take 6) + 1)
  · exact .inl h2
  rw [if_neg h2] at h
  refine .inr ⟨by omega, _, rfl, ?_⟩
  split at h
  · exact .inl (by assumption)
  · rename_i x hx
    refine .inr ⟨x, hx, ?_⟩
    split at h
    · rename_i h3
      by_cases h4 : lz x = val (l.take 6) ∧ tz x = 64 - val (l.take 6) - (val ((l.drop 6).take 6) + 1)
      · exact .inr ⟨h4.1, h4.2, (h3.resolve_left (fun h => h h4.1)).resolve_left (fun h => h h4.2)⟩
      · exact .inl h4
    · cases h

theorem i64_id {x : Int} (h0 : -1000 ≤ x) (h1 : x ≤ 1000) : IntKind.i64.wrap x = x := by rw [IntKind.wrap_i64]; omega
theorem w64_id {x : Int} (h0 : -1000 ≤ x) (h1 : x ≤ 1000) : wrap64 x = x := by unfold wrap64; omega

set_option maxHeartbeats 3200000 in
theorem fresh_ok (w : World) (base g : Nat) (R : Option Nat) (bs : List Int) (p a b : Nat) (X A B c : Nat) (h : Rd w base g R bs p) (hT : XorTab w) (hb : 2 ≤ base) (hbs : ∀ x ∈ bs, Byte x) (hR : ∀ k, R = some k → k < w.heap.size) (hF : getF ((unB bs).drop p) a b = some (X, A, B, c)) :
    Calls Tryd.prog 84 #[.pointer (some ⟨g, 0, none⟩), .agg #[.int .i64 (a : Nat), .int .i64 (b : Nat)]] w fun e w' => e = .returned (.tuple #[.int .u64 (X : Nat), .agg #[.int .i64 (A : Nat), .int .i64 (B : Nat)], .int .i64 0]) ∧ Rd w' base g R bs (p + c) ∧ Touch g none w w' := by
  obtain ⟨S0, R0, B0⟩ := win_new w (.int .i64 (a : Nat)) (.int .i64 (b : Nat)) (.int .i64 0) (.int .i64 0) 113 113
  have hlt := h.lt
  have hg2 : 2 ≤ g := Nat.le_trans hb h.1
  have HBS := Lib.hid hbs
  have HR := Lib.hid hR
  have nR : R ≠ some (w.heap.size + 1) := fun e => by have := hR _ e; omega
  have NR := Lib.hid nR
  have hpl := h.place
  clear nR hR hbs
  obtain ⟨M, hl, hA, hM, hAM, hB, hN, hlz, htz, hiw, hc⟩ := getF_some hF
  rw [rest_len] at hl
  rw [List.drop_drop] at hM hN
  have HA := Lib.hid hA
  have HM := Lib.hid hM
  have HN := Lib.hid hN
  have HC := Lib.hid hc
  have hA6 : A < 64 := by rw [← HA.out]; exact val_take_lt _ 6
  have hM6 : M < 64 := by rw [← HM.out]; exact val_take_lt _ 6
  have WSA := Lib.hid (show wrap64 (A : Int) = (A : Int) from w64_id (by omega) (by omega))
  have WSM := Lib.hid (show wrap64 (M : Int) = (M : Int) from w64_id (by omega) (by omega))
  have WSN := Lib.hid (show IntKind.i64.wrap (M : Int) = (M : Int) from i64_id (by omega) (by omega))
  have ws1 : IntKind.i64.wrap (64 - (A : Int)) = 64 - (A : Int) := i64_id (by omega) (by omega)
  have ws2 : IntKind.i64.wrap (64 - (A : Int) - (M : Int)) = 64 - (A : Int) - (M : Int) := i64_id (by omega) (by omega)
  have hB6 : (64 : Int) - (A : Int) - (M : Int) - 1 = (B : Nat) := by omega
  have ws3 : IntKind.i64.wrap (64 - (A : Int) - (M : Int) - 1) = (B : Nat) := (i64_id (by omega) (by omega)).trans hB6
  have hab2 : A + B ≤ 63 := by omega
  have HBN := Lib.hid (show A + M + 1 + B = 64 by omega)
  clear hB6
  have HRw : ∀ W, Touch g none w W → ∀ k, R = some k → k < W.heap.size := fun W hW k hk => by have := HR.out k hk; have := hW.size; omega
  have HRW := Lib.hid HRw
  obtain ⟨_, hox, hx0⟩ := getN_some hN
  have hX64 : X < 18446744073709551616 := by have := outW_lt ((unB bs).drop (p + 12)) A B (by omega); rw [hox] at this; omega
  have AR := fun W h => around_any X W hx0 hX64 h
  rw [hlz, htz] at AR
  have HO := fun W => holdsW_any a b A B W false (by rw [← hiw, inW, hlz, htz]; exact decide_eq_decide.2 (by omega))
  have HAR := Lib.hid AR
  have HHO := Lib.hid HO
  clear hF hA hM hN hlz htz hiw hc hox hx0 hX64 AR HO HRw hB
  go_enter Tryd.func84, Tryd.ntmps84
  have A3 : Below ((w.alloc (.cells #[.int .i64 (a : Nat), .int .i64 (b : Nat)] 113)).alloc (.cells #[.int .i64 0, .int .i64 0] 113)).heap.size ((w.alloc (.cells #[.int .i64 (a : Nat), .int .i64 (b : Nat)] 113)).alloc (.cells #[.int .i64 0, .int .i64 0] 113)) (((w.alloc (.cells #[.int .i64 (a : Nat), .int .i64 (b : Nat)] 113)).alloc (.cells #[.int .i64 0, .int .i64 0] 113)).alloc (.cells #[.int .i64 6, .int .i64 6] 3)) := (Below.refl _ _).alloc (Nat.le_refl _) _
  have Z3 := SizesAt.two (n := 6) (n2 := 6) (Blk.new ((w.alloc (.cells #[.int .i64 (a : Nat), .int .i64 (b : Nat)] 113)).alloc (.cells #[.int .i64 0, .int .i64 0] 113)) 3 #[.int .i64 6, .int .i64 6]) rfl rfl
  have S3 := S0.below A3
  have R3 := R0.below A3
  have H3 := below_more B0 A3
  have D3 := h.below H3
  have hsz : ((w.alloc (.cells #[.int .i64 (a : Nat), .int .i64 (b : Nat)] 113)).alloc (.cells #[.int .i64 0, .int .i64 0] 113)).heap.size = w.heap.size + 2 := by simp
  rw [hsz] at Z3
  have hz3 : w.heap.size + 2 < (((w.alloc (.cells #[.int .i64 (a : Nat), .int .i64 (b : Nat)] 113)).alloc (.cells #[.int .i64 0, .int .i64 0] 113)).alloc (.cells #[.int .i64 6, .int .i64 6] 3)).heap.size := by simp
  clear hsz A3 S0 R0 B0
  go_wp2_with fail
  generalize ((w.alloc (.cells #[.int .i64 (a : Nat), .int .i64 (b : Nat)] 113)).alloc (.cells #[.int .i64 0, .int .i64 0] 113)).alloc (.cells #[.int .i64 6, .int .i64 6] 3) = w3 at *
  have hqg : w.heap.size + 2 ≠ g := by omega
  have HRq : ∀ k, R = some k → k < w3.heap.size := fun k hk => by have := HR.out k hk; omega
  refine (read_ok w3 base g (w.heap.size + 2) R bs p 2 [6, 6] D3 HBS.out Z3 hz3 hqg (by simp) (by simp) (by simp) (by simp; omega) HRq).mono ?_
  rw [show readV bs p [6, 6] = [A, M] by simp [readV, HA.out, HM.out], show p + [6, 6].sum = p + 12 by simp]
  rintro e w4 ⟨v, rfl, O4, D4, T4⟩
  obtain ⟨r, cq, rfl, hc1, hc2, hr1, hr2, hr3, hr4⟩ := own_two O4
  have S4 := S3.touch T4 (by omega) (by simp)
  have R4 := R3.touch T4 (by omega) (by simp)
  have K4 := (Touch.of_below H3 g none).trans T4 (.inl rfl)
  have A5 : Below w4.heap.size w4 (w4.alloc (.cells #[.int .i64 (A : Nat), .int .i64 0] 113)) := (Below.refl _ w4).alloc (Nat.le_refl _) _
  have hr5 := cell_keep A5 hr4
  have S5 := S4.below A5
  have R5 := R4.below A5
  have D5 := D4.below A5
  have K5 := K4.trans (Touch.of_below A5 g none) (.inl rfl)
  have Y5 := Blk.new w4 113 #[.int .i64 (A : Nat), .int .i64 0]
  have hz4 := T4.size
  clear O4 T4 D3 S3 R3 H3 D4 S4 R4 K4 HRq Z3
  go_wp2_with fail
  obtain ⟨y, hy⟩ : ∃ y, w4.heap.size = y := ⟨_, rfl⟩
  rw [hy] at Y5 hz4 hr2 ⊢
  generalize w4.alloc (.cells #[.int .i64 (A : Nat), .int .i64 0] 113) = w5 at *
  clear A5 hr3 hr4 hy
  refine wp_region_noPanic ?_
  refine wp_region_held_drew (S := fun W : World => W.cell? ⟨y, 0, none⟩ = some (.int .i64 (A : Nat)) ∧ W.cell? ⟨r, 1, none⟩ = some (.int .u64 (M : Nat))) (by kernel_rfl) (⟨(Y5.drewN 1).cells2.1, hr5⟩) (fun hSt => ?_)
  have S6 : Blk w5.drew w.heap.size 113 _ := S5
  have R6 : Blk w5.drew (w.heap.size + 1) 113 _ := R5
  have Y6 : Blk w5.drew y 113 _ := Y5
  have D6 : Rd w5.drew base g R bs (p + 12) := D5
  have K6 : Touch g none w w5.drew := K5.drewN 1
  have hr6 : w5.drew.cell? ⟨r, 1, none⟩ = some (.int .u64 (M : Nat)) := hr5
  clear S5 R5 Y5 D5 K5 hr5
  generalize w5.drew = w6 at *
  have wsA := WSA.out
  have wsM := WSM.out
  have wsN := WSN.out
  refine wpAnyH_picks [0, 1, 2, 3, 4, 5, 6, 7, 8, 9] 1 (by rfl) (by kernel_rfl) (by kernel_rfl) (by kernel_rfl) (fun _ _ _ _ _ h => h) (by assumption) ?_
  simp only [picks, List.drop_succ_cons, List.drop_zero, List.take_succ_cons, List.take_zero, List.cons_append, List.nil_append]
  repeat (first
    | (refine wpY_skip (by rfl) ?_; simp only [Act.put, List.setIfInBounds_toArray, List.set_cons_zero, List.set_cons_succ])
    | (refine wpY_want (v := ?_) (by rfl) (fun W hW => ?_) ?_; rotate_left; (obtain ⟨hW0, hW1⟩ := hW; go_simp; try with_reducible rfl); simp only [Act.put, List.setIfInBounds_toArray, List.set_cons_zero, List.set_cons_succ]))
  refine wpY_nil ?_
  clear wsA wsM wsN ws1 ws2 ws3
  have y1 := Y6.cells2.2
  have f1 := Y6.frozen 1
  have hry : r ≠ y := by omega
  refine wpAnyH_one 10 0 (by rfl) (by rfl) (by kernel_rfl) (fun K hK => ?_)
  go_simp
  refine hK.out _ _ (⟨((Y6.set_ 1 (.int .i64 (B : Nat))).cell 0), by rw [World.cell?_setCell_far _ _ _ _ (show y ≠ r by omega)]; exact hr6⟩) (fun hSt => ?_)
  clear hK K
  try simp only [Act.put, List.setIfInBounds_toArray, List.set_cons_zero, List.set_cons_succ]
  refine wpAnyH_done (by kernel_rfl) ?_ _
  refine NoPanic.normal ?_
  have Y7 : Blk (w6.setCell ⟨y, 1, none⟩ (.int .i64 (B : Nat))) y 113 #[.int .i64 (A : Nat), .int .i64 (B : Nat)] := Y6.set_ 1 (.int .i64 (B : Nat))
  have S7 := S6.far (p := ⟨y, 1, none⟩) (show w.heap.size ≠ y by omega) (.int .i64 (B : Nat))
  have R7 := R6.far (p := ⟨y, 1, none⟩) (show w.heap.size + 1 ≠ y by omega) (.int .i64 (B : Nat))
  have D7 := D6.touch ((Touch.refl y none w6).set_ 1 (.int .i64 (B : Nat))) (show g ≠ y by omega) (by simp) (fun e => by have := HR.out _ e; omega) (by cases R <;> simp)
  have K7 := K6.setRow (r := y) (.inr (by omega)) 1 (.int .i64 (B : Nat))
  clear y1 f1 S6 R6 Y6 D6 K6 hr6
  generalize w6.setCell ⟨y, 1, none⟩ (.int .i64 (B : Nat)) = w7 at *
  obtain ⟨y0, y1⟩ := Y7.cells2
  go_wp2_with fail
  refine (within_ok w7 base g R bs (p + 12) A B X D7 HBS.out (HRW.out _ K7) hab2 HN.out).mono ?_
  rintro e w8 ⟨rfl, D8, T8⟩
  have S8 := S7.touch T8 (by omega) (by simp)
  have R8 := R7.touch T8 (by omega) (by simp)
  have Y8 := Y7.touch T8 (by omega) (by simp)
  have K8 := K7.trans T8 (.inl rfl)
  clear S7 R7 Y7 D7 K7 T8 y0 y1
  go_wp2_with fail
  refine wp_region_noPanic ?_
  refine wp_region_held_drew (S := fun W : World => (W.cell? ⟨y, 0, none⟩ = some (.int .i64 (A : Nat)) ∧ W.cell? ⟨y, 1, none⟩ = some (.int .i64 (B : Nat))) ∧ W.cell? ⟨w.heap.size, 0, none⟩ = some (.int .i64 (a : Nat)) ∧ W.cell? ⟨w.heap.size, 1, none⟩ = some (.int .i64 (b : Nat))) (by kernel_rfl) (⟨(Y8.drewN 1).cells2, (S8.drewN 1).cells2⟩) (fun hSt => ?_)
  have S9 : Blk w8.drew w.heap.size 113 _ := S8
  have R9 : Blk w8.drew (w.heap.size + 1) 113 _ := R8
  have Y9 : Blk w8.drew y 113 _ := Y8
  have D9 : Rd w8.drew base g R bs _ := D8
  have K9 : Touch g none w w8.drew := K8.drewN 1
  have TX := hT.touch K9 hg2 (by simp)
  clear S8 R8 Y8 D8 K8
  generalize w8.drew = w9 at *
  refine wpAnyH_picks [0, 1, 2, 3, 5] 8 (by rfl) (by kernel_rfl) (by kernel_rfl) (by kernel_rfl) (fun _ _ _ _ _ h => h) (by assumption) ?_
  simp only [picks, List.drop_succ_cons, List.drop_zero, List.take_succ_cons, List.take_zero, List.cons_append, List.nil_append]
  repeat (first
    | (refine wpY_skip (by rfl) ?_; simp only [Act.put, List.setIfInBounds_toArray, List.set_cons_zero, List.set_cons_succ])
    | (refine wpY_want (v := ?_) (by rfl) (fun W hW => ?_) ?_; rotate_left; (obtain ⟨⟨hW0, hW1⟩, hW2, hW3⟩ := hW; go_simp; try with_reducible rfl); simp only [Act.put, List.setIfInBounds_toArray, List.set_cons_zero, List.set_cons_succ]))
  refine wpY_nil ?_
  refine wpAnyH_one 4 7 (by rfl) (by rfl) (by kernel_rfl) (fun K hK => ?_)
  go_simp
  refine (HAR.out _ TX).mono ?_
  rintro e wb ⟨rfl, hBb⟩
  have S9 := S9.below hBb
  have R9 := R9.below hBb
  have Y9 := Y9.below hBb
  have D9 := D9.below hBb
  have K9 := K9.trans (Touch.of_below hBb g none) (.inl rfl)
  refine hK.out _ _ (⟨Y9.cells2, S9.cells2⟩) (fun hSt => ?_)
  clear hK K
  try simp only [Act.put, List.setIfInBounds_toArray, List.set_cons_zero, List.set_cons_succ]
  refine wpAnyH_picks [6, 7, 8, 9] 3 (by rfl) (by kernel_rfl) (by kernel_rfl) (by kernel_rfl) (fun _ _ _ _ _ h => h) (by assumption) ?_
  simp only [picks, List.drop_succ_cons, List.drop_zero, List.take_succ_cons, List.take_zero, List.cons_append, List.nil_append]
  repeat (first
    | (refine wpY_skip (by rfl) ?_; simp only [Act.put, List.setIfInBounds_toArray, List.set_cons_zero, List.set_cons_succ])
    | (refine wpY_want (v := ?_) (by rfl) (fun W hW => ?_) ?_; rotate_left; (obtain ⟨⟨hW0, hW1⟩, hW2, hW3⟩ := hW; go_simp; try with_reducible rfl); simp only [Act.put, List.setIfInBounds_toArray, List.set_cons_zero, List.set_cons_succ]))
  refine wpY_nil ?_
  refine wpAnyH_one 10 2 (by rfl) (by rfl) (by kernel_rfl) (fun K hK => ?_)
  go_simp
  refine (HHO.out _).mono ?_
  rintro e wc ⟨rfl, hBc⟩
  have S9 := S9.below hBc
  have R9 := R9.below hBc
  have Y9 := Y9.below hBc
  have D9 := D9.below hBc
  have K9 := K9.trans (Touch.of_below hBc g none) (.inl rfl)
  refine hK.out _ _ (⟨Y9.cells2, S9.cells2⟩) (fun hSt => ?_)
  clear hK K
  try simp only [Act.put, List.setIfInBounds_toArray, List.set_cons_zero, List.set_cons_succ]
  refine wpAnyH_picks [11, 12] 0 (by rfl) (by kernel_rfl) (by kernel_rfl) (by kernel_rfl) (fun _ _ _ _ _ h => h) (by assumption) ?_
  simp only [picks, List.drop_succ_cons, List.drop_zero, List.take_succ_cons, List.take_zero, List.cons_append, List.nil_append]
  repeat (first
    | (refine wpY_skip (by rfl) ?_; simp only [Act.put, List.setIfInBounds_toArray, List.set_cons_zero, List.set_cons_succ])
    | (refine wpY_want (v := ?_) (by rfl) (fun W hW => ?_) ?_; rotate_left; (go_simp; try with_reducible rfl); simp only [Act.put, List.setIfInBounds_toArray, List.set_cons_zero, List.set_cons_succ]))
  refine wpY_nil ?_
  refine wpAnyH_done (by kernel_rfl) ?_ _
  refine NoPanic.normal ?_
  go_wp2_with fail
  refine wp_region_noPanic ?_
  refine wp_region_held_drew (S := fun W : World => W.cell? ⟨y, 0, none⟩ = some (.int .i64 (A : Nat)) ∧ W.cell? ⟨y, 1, none⟩ = some (.int .i64 (B : Nat))) (by kernel_rfl) ((Y9.drewN 1).cells2) (fun hSt => ?_)
  have Ra : Blk wc.drew (w.heap.size + 1) 113 _ := R9
  have Ya : Blk wc.drew y 113 _ := Y9
  have Da : Rd wc.drew base g R bs _ := D9
  have Ka : Touch g none w wc.drew := K9.drewN 1
  clear R9 Y9 D9 K9
  generalize wc.drew = wa at *
  refine wpAnyH_picks [0, 1, 2, 3] 2 (by rfl) (by kernel_rfl) (by kernel_rfl) (by kernel_rfl) (fun _ _ _ _ _ h => h) (by assumption) ?_
  simp only [picks, List.drop_succ_cons, List.drop_zero, List.take_succ_cons, List.take_zero, List.cons_append, List.nil_append]
  repeat (first
    | (refine wpY_skip (by rfl) ?_; simp only [Act.put, List.setIfInBounds_toArray, List.set_cons_zero, List.set_cons_succ])
    | (refine wpY_want (v := ?_) (by rfl) (fun W hW => ?_) ?_; rotate_left; (obtain ⟨hW0, hW1⟩ := hW; go_simp; try with_reducible rfl); simp only [Act.put, List.setIfInBounds_toArray, List.set_cons_zero, List.set_cons_succ]))
  refine wpY_nil ?_
  obtain ⟨d0, d1⟩ := Ra.cells2
  have f0 := Ra.frozen 0
  have f1 := Ra.frozen 1
  refine wpAnyH_one 4 1 (by rfl) (by rfl) (by kernel_rfl) (fun K hK => ?_)
  go_simp
  refine hK.out _ _ ((Ya.farSet2 (g' := w.heap.size + 1) (by omega) _ _).cells2) (fun hSt => ?_)
  clear hK K
  try simp only [Act.put, List.setIfInBounds_toArray, List.set_cons_zero, List.set_cons_succ]
  refine wpAnyH_picks [5] 0 (by rfl) (by kernel_rfl) (by kernel_rfl) (by kernel_rfl) (fun _ _ _ _ _ h => h) (by assumption) ?_
  simp only [picks, List.drop_succ_cons, List.drop_zero, List.take_succ_cons, List.take_zero, List.cons_append, List.nil_append]
  repeat (first
    | (refine wpY_skip (by rfl) ?_; simp only [Act.put, List.setIfInBounds_toArray, List.set_cons_zero, List.set_cons_succ])
    | (refine wpY_want (v := ?_) (by rfl) (fun W hW => ?_) ?_; rotate_left; (go_simp; try with_reducible rfl); simp only [Act.put, List.setIfInBounds_toArray, List.set_cons_zero, List.set_cons_succ]))
  refine wpY_nil ?_
  refine wpAnyH_done (by kernel_rfl) ?_ _
  refine NoPanic.normal ?_
  go_wp2_with fail
  obtain ⟨q0, q1⟩ := (Ra.set2 (.int .i64 (A : Nat)) (.int .i64 (B : Nat))).cells2
  refine bodyPost_ret (v := .tuple #[.int .u64 (X : Nat), .agg #[.int .i64 (A : Nat), .int .i64 (B : Nat)], .int .i64 0]) (by simp [results, Tryd.results84, go_sem, q0, q1]) rfl ?_
  exact ⟨rfl, by rw [HC.out, show p + (12 + (M + 1)) = p + 12 + (64 - A - B) by have := HBN.out; omega]; exact Da.set2 (by omega) NR.out _ _, Ka.set2 (by omega) _ _⟩

set_option maxHeartbeats 3200000 in
theorem fresh_n1 (w : World) (base g : Nat) (R : Option Nat) (bs : List Int) (p a b : Nat) (h : Rd w base g R bs p) (hT : XorTab w) (hb : 2 ≤ base) (hbs : ∀ x ∈ bs, Byte x) (hR : ∀ k, R = some k → k < w.heap.size) (hl : ((unB bs).drop p).length < 12) :
    Calls Tryd.prog 84 #[.pointer (some ⟨g, 0, none⟩), .agg #[.int .i64 (a : Nat), .int .i64 (b : Nat)]] w fun e w' => ∃ x a1 b1 : Int, e = .returned (.tuple #[.int .u64 x, .agg #[.int .i64 a1, .int .i64 b1], .int .i64 50]) ∧ RdS w' base g R bs ∧ Touch g none w w' := by
  obtain ⟨S0, R0, B0⟩ := win_new w (.int .i64 (a : Nat)) (.int .i64 (b : Nat)) (.int .i64 0) (.int .i64 0) 113 113
  have hlt := h.lt
  have hg2 : 2 ≤ g := Nat.le_trans hb h.1
  have HBS := Lib.hid hbs
  have HR := Lib.hid hR
  have nR : R ≠ some (w.heap.size + 1) := fun e => by have := hR _ e; omega
  have NR := Lib.hid nR
  have hpl := h.place
  clear nR hR hbs
  rw [rest_len] at hl
  go_enter Tryd.func84, Tryd.ntmps84
  have A3 : Below ((w.alloc (.cells #[.int .i64 (a : Nat), .int .i64 (b : Nat)] 113)).alloc (.cells #[.int .i64 0, .int .i64 0] 113)).heap.size ((w.alloc (.cells #[.int .i64 (a : Nat), .int .i64 (b : Nat)] 113)).alloc (.cells #[.int .i64 0, .int .i64 0] 113)) (((w.alloc (.cells #[.int .i64 (a : Nat), .int .i64 (b : Nat)] 113)).alloc (.cells #[.int .i64 0, .int .i64 0] 113)).alloc (.cells #[.int .i64 6, .int .i64 6] 3)) := (Below.refl _ _).alloc (Nat.le_refl _) _
  have Z3 := SizesAt.two (n := 6) (n2 := 6) (Blk.new ((w.alloc (.cells #[.int .i64 (a : Nat), .int .i64 (b : Nat)] 113)).alloc (.cells #[.int .i64 0, .int .i64 0] 113)) 3 #[.int .i64 6, .int .i64 6]) rfl rfl
  have S3 := S0.below A3
  have R3 := R0.below A3
  have H3 := below_more B0 A3
  have D3 := h.below H3
  have hsz : ((w.alloc (.cells #[.int .i64 (a : Nat), .int .i64 (b : Nat)] 113)).alloc (.cells #[.int .i64 0, .int .i64 0] 113)).heap.size = w.heap.size + 2 := by simp
  rw [hsz] at Z3
  have hz3 : w.heap.size + 2 < (((w.alloc (.cells #[.int .i64 (a : Nat), .int .i64 (b : Nat)] 113)).alloc (.cells #[.int .i64 0, .int .i64 0] 113)).alloc (.cells #[.int .i64 6, .int .i64 6] 3)).heap.size := by simp
  clear hsz A3 S0 R0 B0
  go_wp2_with fail
  generalize ((w.alloc (.cells #[.int .i64 (a : Nat), .int .i64 (b : Nat)] 113)).alloc (.cells #[.int .i64 0, .int .i64 0] 113)).alloc (.cells #[.int .i64 6, .int .i64 6] 3) = w3 at *
  have hqg : w.heap.size + 2 ≠ g := by omega
  have HRq : ∀ k, R = some k → k < w3.heap.size := fun k hk => by have := HR.out k hk; omega
  refine (read_no w3 base g (w.heap.size + 2) R bs p 2 [6, 6] D3 HBS.out Z3 hz3 hqg (by simp) (by simp) (by simp) (by simp; omega) HRq).mono ?_
  rintro e w4 ⟨p4, rfl, D4, T4⟩
  have R4 := R3.touch T4 (by omega) (by simp)
  have K4 := (Touch.of_below H3 g none).trans T4 (.inl rfl)
  obtain ⟨d0, d1⟩ := R4.cells2
  have f0 := R4.frozen 0
  have f1 := R4.frozen 1
  go_wp2_with fail
  obtain ⟨q0, q1⟩ := (R4.set2 (.int .i64 0) (.int .i64 0)).cells2
  refine bodyPost_ret (v := .tuple #[.int .u64 0, .agg #[.int .i64 0, .int .i64 0], .int .i64 50]) (by simp [results, Tryd.results84, go_sem, q0, q1]) rfl ?_
  exact ⟨_, _, _, rfl, ⟨_, D4.set2 (by omega) NR.out _ _⟩, K4.set2 (by omega) _ _⟩

set_option maxHeartbeats 3200000 in
theorem fresh_n2 (w : World) (base g : Nat) (R : Option Nat) (bs : List Int) (p a b : Nat) (A M : Nat) (h : Rd w base g R bs p) (hT : XorTab w) (hb : 2 ≤ base) (hbs : ∀ x ∈ bs, Byte x) (hR : ∀ k, R = some k → k < w.heap.size) (hl : 12 ≤ ((unB bs).drop p).length) (hA : val (((unB bs).drop p).take 6) = A) (hM : val ((((unB bs).drop p).drop 6).take 6) = M) (hAM : 64 < A + (M + 1)) :
    Calls Tryd.prog 84 #[.pointer (some ⟨g, 0, none⟩), .agg #[.int .i64 (a : Nat), .int .i64 (b : Nat)]] w fun e w' => ∃ x a1 b1 : Int, e = .returned (.tuple #[.int .u64 x, .agg #[.int .i64 a1, .int .i64 b1], .int .i64 50]) ∧ RdS w' base g R bs ∧ Touch g none w w' := by
  obtain ⟨S0, R0, B0⟩ := win_new w (.int .i64 (a : Nat)) (.int .i64 (b : Nat)) (.int .i64 0) (.int .i64 0) 113 113
  have hlt := h.lt
  have hg2 : 2 ≤ g := Nat.le_trans hb h.1
  have HBS := Lib.hid hbs
  have HR := Lib.hid hR
  have nR : R ≠ some (w.heap.size + 1) := fun e => by have := hR _ e; omega
  have NR := Lib.hid nR
  have hpl := h.place
  clear nR hR hbs
  rw [rest_len] at hl
  rw [List.drop_drop] at hM
  have HA := Lib.hid hA
  have HM := Lib.hid hM
  have hA6 : A < 64 := by rw [← HA.out]; exact val_take_lt _ 6
  have hM6 : M < 64 := by rw [← HM.out]; exact val_take_lt _ 6
  have WSA := Lib.hid (show wrap64 (A : Int) = (A : Int) from w64_id (by omega) (by omega))
  have WSM := Lib.hid (show wrap64 (M : Int) = (M : Int) from w64_id (by omega) (by omega))
  have WSN := Lib.hid (show IntKind.i64.wrap (M : Int) = (M : Int) from i64_id (by omega) (by omega))
  have ws1 : IntKind.i64.wrap (64 - (A : Int)) = 64 - (A : Int) := i64_id (by omega) (by omega)
  have ws2 : IntKind.i64.wrap (64 - (A : Int) - (M : Int)) = 64 - (A : Int) - (M : Int) := i64_id (by omega) (by omega)
  obtain ⟨T, hTT⟩ : ∃ T : Int, 64 - (A : Int) - (M : Int) - 1 = T := ⟨_, rfl⟩
  have ws3 : IntKind.i64.wrap (64 - (A : Int) - (M : Int) - 1) = T := (i64_id (by omega) (by omega)).trans hTT
  have hTn : T < 0 := by omega
  have hTd : decide (T < 0) = true := decide_eq_true hTn
  clear hA hM hTT hAM
  go_enter Tryd.func84, Tryd.ntmps84
  have A3 : Below ((w.alloc (.cells #[.int .i64 (a : Nat), .int .i64 (b : Nat)] 113)).alloc (.cells #[.int .i64 0, .int .i64 0] 113)).heap.size ((w.alloc (.cells #[.int .i64 (a : Nat), .int .i64 (b : Nat)] 113)).alloc (.cells #[.int .i64 0, .int .i64 0] 113)) (((w.alloc (.cells #[.int .i64 (a : Nat), .int .i64 (b : Nat)] 113)).alloc (.cells #[.int .i64 0, .int .i64 0] 113)).alloc (.cells #[.int .i64 6, .int .i64 6] 3)) := (Below.refl _ _).alloc (Nat.le_refl _) _
  have Z3 := SizesAt.two (n := 6) (n2 := 6) (Blk.new ((w.alloc (.cells #[.int .i64 (a : Nat), .int .i64 (b : Nat)] 113)).alloc (.cells #[.int .i64 0, .int .i64 0] 113)) 3 #[.int .i64 6, .int .i64 6]) rfl rfl
  have S3 := S0.below A3
  have R3 := R0.below A3
  have H3 := below_more B0 A3
  have D3 := h.below H3
  have hsz : ((w.alloc (.cells #[.int .i64 (a : Nat), .int .i64 (b : Nat)] 113)).alloc (.cells #[.int .i64 0, .int .i64 0] 113)).heap.size = w.heap.size + 2 := by simp
  rw [hsz] at Z3
  have hz3 : w.heap.size + 2 < (((w.alloc (.cells #[.int .i64 (a : Nat), .int .i64 (b : Nat)] 113)).alloc (.cells #[.int .i64 0, .int .i64 0] 113)).alloc (.cells #[.int .i64 6, .int .i64 6] 3)).heap.size := by simp
  clear hsz A3 S0 R0 B0
  go_wp2_with fail
  generalize ((w.alloc (.cells #[.int .i64 (a : Nat), .int .i64 (b : Nat)] 113)).alloc (.cells #[.int .i64 0, .int .i64 0] 113)).alloc (.cells #[.int .i64 6, .int .i64 6] 3) = w3 at *
  have hqg : w.heap.size + 2 ≠ g := by omega
  have HRq : ∀ k, R = some k → k < w3.heap.size := fun k hk => by have := HR.out k hk; omega
  refine (read_ok w3 base g (w.heap.size + 2) R bs p 2 [6, 6] D3 HBS.out Z3 hz3 hqg (by simp) (by simp) (by simp) (by simp; omega) HRq).mono ?_
  rw [show readV bs p [6, 6] = [A, M] by simp [readV, HA.out, HM.out], show p + [6, 6].sum = p + 12 by simp]
  rintro e w4 ⟨v, rfl, O4, D4, T4⟩
  obtain ⟨r, cq, rfl, hc1, hc2, hr1, hr2, hr3, hr4⟩ := own_two O4
  have S4 := S3.touch T4 (by omega) (by simp)
  have R4 := R3.touch T4 (by omega) (by simp)
  have K4 := (Touch.of_below H3 g none).trans T4 (.inl rfl)
  have A5 : Below w4.heap.size w4 (w4.alloc (.cells #[.int .i64 (A : Nat), .int .i64 0] 113)) := (Below.refl _ w4).alloc (Nat.le_refl _) _
  have hr5 := cell_keep A5 hr4
  have S5 := S4.below A5
  have R5 := R4.below A5
  have D5 := D4.below A5
  have K5 := K4.trans (Touch.of_below A5 g none) (.inl rfl)
  have Y5 := Blk.new w4 113 #[.int .i64 (A : Nat), .int .i64 0]
  have hz4 := T4.size
  clear O4 T4 D3 S3 R3 H3 D4 S4 R4 K4 HRq Z3
  go_wp2_with fail
  obtain ⟨y, hy⟩ : ∃ y, w4.heap.size = y := ⟨_, rfl⟩
  rw [hy] at Y5 hz4 hr2 ⊢
  generalize w4.alloc (.cells #[.int .i64 (A : Nat), .int .i64 0] 113) = w5 at *
  clear A5 hr3 hr4 hy
  refine wp_region_noPanic ?_
  refine wp_region_held_drew (S := fun W : World => W.cell? ⟨y, 0, none⟩ = some (.int .i64 (A : Nat)) ∧ W.cell? ⟨r, 1, none⟩ = some (.int .u64 (M : Nat))) (by kernel_rfl) (⟨(Y5.drewN 1).cells2.1, hr5⟩) (fun hSt => ?_)
  have S6 : Blk w5.drew w.heap.size 113 _ := S5
  have R6 : Blk w5.drew (w.heap.size + 1) 113 _ := R5
  have Y6 : Blk w5.drew y 113 _ := Y5
  have D6 : Rd w5.drew base g R bs (p + 12) := D5
  have K6 : Touch g none w w5.drew := K5.drewN 1
  have hr6 : w5.drew.cell? ⟨r, 1, none⟩ = some (.int .u64 (M : Nat)) := hr5
  clear S5 R5 Y5 D5 K5 hr5
  generalize w5.drew = w6 at *
  have wsA := WSA.out
  have wsM := WSM.out
  have wsN := WSN.out
  refine wpAnyH_picks [0, 1, 2, 3, 4, 5, 6, 7, 8, 9] 1 (by rfl) (by kernel_rfl) (by kernel_rfl) (by kernel_rfl) (fun _ _ _ _ _ h => h) (by assumption) ?_
  simp only [picks, List.drop_succ_cons, List.drop_zero, List.take_succ_cons, List.take_zero, List.cons_append, List.nil_append]
  repeat (first
    | (refine wpY_skip (by rfl) ?_; simp only [Act.put, List.setIfInBounds_toArray, List.set_cons_zero, List.set_cons_succ])
    | (refine wpY_want (v := ?_) (by rfl) (fun W hW => ?_) ?_; rotate_left; (obtain ⟨hW0, hW1⟩ := hW; go_simp; try with_reducible rfl); simp only [Act.put, List.setIfInBounds_toArray, List.set_cons_zero, List.set_cons_succ]))
  refine wpY_nil ?_
  clear wsA wsM wsN ws1 ws2 ws3
  have y1 := Y6.cells2.2
  have f1 := Y6.frozen 1
  have hry : r ≠ y := by omega
  refine wpAnyH_one 10 0 (by rfl) (by rfl) (by kernel_rfl) (fun K hK => ?_)
  go_simp
  refine hK.out _ _ (⟨((Y6.set_ 1 (.int .i64 T)).cell 0), by rw [World.cell?_setCell_far _ _ _ _ (show y ≠ r by omega)]; exact hr6⟩) (fun hSt => ?_)
  clear hK K
  try simp only [Act.put, List.setIfInBounds_toArray, List.set_cons_zero, List.set_cons_succ]
  refine wpAnyH_done (by kernel_rfl) ?_ _
  refine NoPanic.normal ?_
  have Y7 : Blk (w6.setCell ⟨y, 1, none⟩ (.int .i64 T)) y 113 #[.int .i64 (A : Nat), .int .i64 T] := Y6.set_ 1 (.int .i64 T)
  have S7 := S6.far (p := ⟨y, 1, none⟩) (show w.heap.size ≠ y by omega) (.int .i64 T)
  have R7 := R6.far (p := ⟨y, 1, none⟩) (show w.heap.size + 1 ≠ y by omega) (.int .i64 T)
  have D7 := D6.touch ((Touch.refl y none w6).set_ 1 (.int .i64 T)) (show g ≠ y by omega) (by simp) (fun e => by have := HR.out _ e; omega) (by cases R <;> simp)
  have K7 := K6.setRow (r := y) (.inr (by omega)) 1 (.int .i64 T)
  clear y1 f1 S6 R6 Y6 D6 K6 hr6
  generalize w6.setCell ⟨y, 1, none⟩ (.int .i64 T) = w7 at *
  obtain ⟨y0, y1⟩ := Y7.cells2
  obtain ⟨d0, d1⟩ := R7.cells2
  have f0 := R7.frozen 0
  have f1 := R7.frozen 1
  go_wp2_with fail
  obtain ⟨q0, q1⟩ := (R7.set2 (.int .i64 0) (.int .i64 0)).cells2
  refine bodyPost_ret (v := .tuple #[.int .u64 0, .agg #[.int .i64 0, .int .i64 0], .int .i64 50]) (by simp [results, Tryd.results84, go_sem, q0, q1]) rfl ?_
  exact ⟨_, _, _, rfl, ⟨_, D7.set2 (by omega) NR.out _ _⟩, K7.set2 (by omega) _ _⟩

set_option maxHeartbeats 3200000 in
theorem fresh_n3 (w : World) (base g : Nat) (R : Option Nat) (bs : List Int) (p a b : Nat) (A M B : Nat) (h : Rd w base g R bs p) (hT : XorTab w) (hb : 2 ≤ base) (hbs : ∀ x ∈ bs, Byte x) (hR : ∀ k, R = some k → k < w.heap.size) (hl : 12 ≤ ((unB bs).drop p).length) (hA : val (((unB bs).drop p).take 6) = A) (hM : val ((((unB bs).drop p).drop 6).take 6) = M) (hAM : A + (M + 1) ≤ 64) (hB : 64 - A - (M + 1) = B) (hN : getN (((unB bs).drop p).drop 12) A B = none) :
    Calls Tryd.prog 84 #[.pointer (some ⟨g, 0, none⟩), .agg #[.int .i64 (a : Nat), .int .i64 (b : Nat)]] w fun e w' => ∃ x a1 b1 : Int, e = .returned (.tuple #[.int .u64 x, .agg #[.int .i64 a1, .int .i64 b1], .int .i64 50]) ∧ RdS w' base g R bs ∧ Touch g none w w' := by
  obtain ⟨S0, R0, B0⟩ := win_new w (.int .i64 (a : Nat)) (.int .i64 (b : Nat)) (.int .i64 0) (.int .i64 0) 113 113
  have hlt := h.lt
  have hg2 : 2 ≤ g := Nat.le_trans hb h.1
  have HBS := Lib.hid hbs
  have HR := Lib.hid hR
  have nR : R ≠ some (w.heap.size + 1) := fun e => by have := hR _ e; omega
  have NR := Lib.hid nR
  have hpl := h.place
  clear nR hR hbs
  rw [rest_len] at hl
  rw [List.drop_drop] at hM hN
  have HA := Lib.hid hA
  have HM := Lib.hid hM
  have HN := Lib.hid hN
  have hA6 : A < 64 := by rw [← HA.out]; exact val_take_lt _ 6
  have hM6 : M < 64 := by rw [← HM.out]; exact val_take_lt _ 6
  have WSA := Lib.hid (show wrap64 (A : Int) = (A : Int) from w64_id (by omega) (by omega))
  have WSM := Lib.hid (show wrap64 (M : Int) = (M : Int) from w64_id (by omega) (by omega))
  have WSN := Lib.hid (show IntKind.i64.wrap (M : Int) = (M : Int) from i64_id (by omega) (by omega))
  have ws1 : IntKind.i64.wrap (64 - (A : Int)) = 64 - (A : Int) := i64_id (by omega) (by omega)
  have ws2 : IntKind.i64.wrap (64 - (A : Int) - (M : Int)) = 64 - (A : Int) - (M : Int) := i64_id (by omega) (by omega)
  have hB6 : (64 : Int) - (A : Int) - (M : Int) - 1 = (B : Nat) := by omega
  have ws3 : IntKind.i64.wrap (64 - (A : Int) - (M : Int) - 1) = (B : Nat) := (i64_id (by omega) (by omega)).trans hB6
  have hab2 : A + B ≤ 63 := by omega
  have HBN := Lib.hid (show A + M + 1 + B = 64 by omega)
  clear hB6
  have HRw : ∀ W, Touch g none w W → ∀ k, R = some k → k < W.heap.size := fun W hW k hk => by have := HR.out k hk; have := hW.size; omega
  have HRW := Lib.hid HRw
  clear hA hM hN hB HRw
  go_enter Tryd.func84, Tryd.ntmps84
  have A3 : Below ((w.alloc (.cells #[.int .i64 (a : Nat), .int .i64 (b : Nat)] 113)).alloc (.cells #[.int .i64 0, .int .i64 0] 113)).heap.size ((w.alloc (.cells #[.int .i64 (a : Nat), .int .i64 (b : Nat)] 113)).alloc (.cells #[.int .i64 0, .int .i64 0] 113)) (((w.alloc (.cells #[.int .i64 (a : Nat), .int .i64 (b : Nat)] 113)).alloc (.cells #[.int .i64 0, .int .i64 0] 113)).alloc (.cells #[.int .i64 6, .int .i64 6] 3)) := (Below.refl _ _).alloc (Nat.le_refl _) _
  have Z3 := SizesAt.two (n := 6) (n2 := 6) (Blk.new ((w.alloc (.cells #[.int .i64 (a : Nat), .int .i64 (b : Nat)] 113)).alloc (.cells #[.int .i64 0, .int .i64 0] 113)) 3 #[.int .i64 6, .int .i64 6]) rfl rfl
  have S3 := S0.below A3
  have R3 := R0.below A3
  have H3 := below_more B0 A3
  have D3 := h.below H3
  have hsz : ((w.alloc (.cells #[.int .i64 (a : Nat), .int .i64 (b : Nat)] 113)).alloc (.cells #[.int .i64 0, .int .i64 0] 113)).heap.size = w.heap.size + 2 := by simp
  rw [hsz] at Z3
  have hz3 : w.heap.size + 2 < (((w.alloc (.cells #[.int .i64 (a : Nat), .int .i64 (b : Nat)] 113)).alloc (.cells #[.int .i64 0, .int .i64 0] 113)).alloc (.cells #[.int .i64 6, .int .i64 6] 3)).heap.size := by simp
  clear hsz A3 S0 R0 B0
  go_wp2_with fail
  generalize ((w.alloc (.cells #[.int .i64 (a : Nat), .int .i64 (b : Nat)] 113)).alloc (.cells #[.int .i64 0, .int .i64 0] 113)).alloc (.cells #[.int .i64 6, .int .i64 6] 3) = w3 at *
  have hqg : w.heap.size + 2 ≠ g := by omega
  have HRq : ∀ k, R = some k → k < w3.heap.size := fun k hk => by have := HR.out k hk; omega
  refine (read_ok w3 base g (w.heap.size + 2) R bs p 2 [6, 6] D3 HBS.out Z3 hz3 hqg (by simp) (by simp) (by simp) (by simp; omega) HRq).mono ?_
  rw [show readV bs p [6, 6] = [A, M] by simp [readV, HA.out, HM.out], show p + [6, 6].sum = p + 12 by simp]
  rintro e w4 ⟨v, rfl, O4, D4, T4⟩
  obtain ⟨r, cq, rfl, hc1, hc2, hr1, hr2, hr3, hr4⟩ := own_two O4
  have S4 := S3.touch T4 (by omega) (by simp)
  have R4 := R3.touch T4 (by omega) (by simp)
  have K4 := (Touch.of_below H3 g none).trans T4 (.inl rfl)
  have A5 : Below w4.heap.size w4 (w4.alloc (.cells #[.int .i64 (A : Nat), .int .i64 0] 113)) := (Below.refl _ w4).alloc (Nat.le_refl _) _
  have hr5 := cell_keep A5 hr4
  have S5 := S4.below A5
  have R5 := R4.below A5
  have D5 := D4.below A5
  have K5 := K4.trans (Touch.of_below A5 g none) (.inl rfl)
  have Y5 := Blk.new w4 113 #[.int .i64 (A : Nat), .int .i64 0]
  have hz4 := T4.size
  clear O4 T4 D3 S3 R3 H3 D4 S4 R4 K4 HRq Z3
  go_wp2_with fail
  obtain ⟨y, hy⟩ : ∃ y, w4.heap.size = y := ⟨_, rfl⟩
  rw [hy] at Y5 hz4 hr2 ⊢
  generalize w4.alloc (.cells #[.int .i64 (A : Nat), .int .i64 0] 113) = w5 at *
  clear A5 hr3 hr4 hy
  refine wp_region_noPanic ?_
  refine wp_region_held_drew (S := fun W : World => W.cell? ⟨y, 0, none⟩ = some (.int .i64 (A : Nat)) ∧ W.cell? ⟨r, 1, none⟩ = some (.int .u64 (M : Nat))) (by kernel_rfl) (⟨(Y5.drewN 1).cells2.1, hr5⟩) (fun hSt => ?_)
  have S6 : Blk w5.drew w.heap.size 113 _ := S5
  have R6 : Blk w5.drew (w.heap.size + 1) 113 _ := R5
  have Y6 : Blk w5.drew y 113 _ := Y5
  have D6 : Rd w5.drew base g R bs (p + 12) := D5
  have K6 : Touch g none w w5.drew := K5.drewN 1
  have hr6 : w5.drew.cell? ⟨r, 1, none⟩ = some (.int .u64 (M : Nat)) := hr5
  clear S5 R5 Y5 D5 K5 hr5
  generalize w5.drew = w6 at *
  have wsA := WSA.out
  have wsM := WSM.out
  have wsN := WSN.out
  refine wpAnyH_picks [0, 1, 2, 3, 4, 5, 6, 7, 8, 9] 1 (by rfl) (by kernel_rfl) (by kernel_rfl) (by kernel_rfl) (fun _ _ _ _ _ h => h) (by assumption) ?_
  simp only [picks, List.drop_succ_cons, List.drop_zero, List.take_succ_cons, List.take_zero, List.cons_append, List.nil_append]
  repeat (first
    | (refine wpY_skip (by rfl) ?_; simp only [Act.put, List.setIfInBounds_toArray, List.set_cons_zero, List.set_cons_succ])
    | (refine wpY_want (v := ?_) (by rfl) (fun W hW => ?_) ?_; rotate_left; (obtain ⟨hW0, hW1⟩ := hW; go_simp; try with_reducible rfl); simp only [Act.put, List.setIfInBounds_toArray, List.set_cons_zero, List.set_cons_succ]))
  refine wpY_nil ?_
  clear wsA wsM wsN ws1 ws2 ws3
  have y1 := Y6.cells2.2
  have f1 := Y6.frozen 1
  have hry : r ≠ y := by omega
  refine wpAnyH_one 10 0 (by rfl) (by rfl) (by kernel_rfl) (fun K hK => ?_)
  go_simp
  refine hK.out _ _ (⟨((Y6.set_ 1 (.int .i64 (B : Nat))).cell 0), by rw [World.cell?_setCell_far _ _ _ _ (show y ≠ r by omega)]; exact hr6⟩) (fun hSt => ?_)
  clear hK K
  try simp only [Act.put, List.setIfInBounds_toArray, List.set_cons_zero, List.set_cons_succ]
  refine wpAnyH_done (by kernel_rfl) ?_ _
  refine NoPanic.normal ?_
  have Y7 : Blk (w6.setCell ⟨y, 1, none⟩ (.int .i64 (B : Nat))) y 113 #[.int .i64 (A : Nat), .int .i64 (B : Nat)] := Y6.set_ 1 (.int .i64 (B : Nat))
  have S7 := S6.far (p := ⟨y, 1, none⟩) (show w.heap.size ≠ y by omega) (.int .i64 (B : Nat))
  have R7 := R6.far (p := ⟨y, 1, none⟩) (show w.heap.size + 1 ≠ y by omega) (.int .i64 (B : Nat))
  have D7 := D6.touch ((Touch.refl y none w6).set_ 1 (.int .i64 (B : Nat))) (show g ≠ y by omega) (by simp) (fun e => by have := HR.out _ e; omega) (by cases R <;> simp)
  have K7 := K6.setRow (r := y) (.inr (by omega)) 1 (.int .i64 (B : Nat))
  clear y1 f1 S6 R6 Y6 D6 K6 hr6
  generalize w6.setCell ⟨y, 1, none⟩ (.int .i64 (B : Nat)) = w7 at *
  obtain ⟨y0, y1⟩ := Y7.cells2
  go_wp2_with fail
  refine (within_no w7 base g R bs (p + 12) A B D7 HBS.out (HRW.out _ K7) hab2 HN.out).mono ?_
  rintro e w8 ⟨p8, rfl, D8, T8⟩
  have S8 := S7.touch T8 (by omega) (by simp)
  have R8 := R7.touch T8 (by omega) (by simp)
  have Y8 := Y7.touch T8 (by omega) (by simp)
  have K8 := K7.trans T8 (.inl rfl)
  clear S7 R7 Y7 D7 K7 T8 y0 y1
  go_wp2_with fail
  refine wp_region_noPanic ?_
  refine wp_region_held_drew (S := fun W : World => (W.cell? ⟨y, 0, none⟩ = some (.int .i64 (A : Nat)) ∧ W.cell? ⟨y, 1, none⟩ = some (.int .i64 (B : Nat))) ∧ W.cell? ⟨w.heap.size, 0, none⟩ = some (.int .i64 (a : Nat)) ∧ W.cell? ⟨w.heap.size, 1, none⟩ = some (.int .i64 (b : Nat))) (by kernel_rfl) (⟨(Y8.drewN 1).cells2, (S8.drewN 1).cells2⟩) (fun hSt => ?_)
  have S9 : Blk w8.drew w.heap.size 113 _ := S8
  have R9 : Blk w8.drew (w.heap.size + 1) 113 _ := R8
  have Y9 : Blk w8.drew y 113 _ := Y8
  have D9 : Rd w8.drew base g R bs _ := D8
  have K9 : Touch g none w w8.drew := K8.drewN 1
  have TX := hT.touch K9 hg2 (by simp)
  clear S8 R8 Y8 D8 K8
  generalize w8.drew = w9 at *
  refine wpAnyH_picks [0, 1, 2, 3, 5] 8 (by rfl) (by kernel_rfl) (by kernel_rfl) (by kernel_rfl) (fun _ _ _ _ _ h => h) (by assumption) ?_
  simp only [picks, List.drop_succ_cons, List.drop_zero, List.take_succ_cons, List.take_zero, List.cons_append, List.nil_append]
  repeat (first
    | (refine wpY_skip (by rfl) ?_; simp only [Act.put, List.setIfInBounds_toArray, List.set_cons_zero, List.set_cons_succ])
    | (refine wpY_want (v := ?_) (by rfl) (fun W hW => ?_) ?_; rotate_left; (obtain ⟨⟨hW0, hW1⟩, hW2, hW3⟩ := hW; go_simp; try with_reducible rfl); simp only [Act.put, List.setIfInBounds_toArray, List.set_cons_zero, List.set_cons_succ]))
  refine wpY_nil ?_
  refine wpAnyH_one 4 7 (by rfl) (by rfl) (by kernel_rfl) (fun K hK => ?_)
  go_simp
  refine hK.out _ _ (⟨Y9.cells2, S9.cells2⟩) (fun hSt => ?_)
  clear hK K
  try simp only [Act.put, List.setIfInBounds_toArray, List.set_cons_zero, List.set_cons_succ]
  refine wpAnyH_picks [6, 7, 8, 9] 3 (by rfl) (by kernel_rfl) (by kernel_rfl) (by kernel_rfl) (fun _ _ _ _ _ h => h) (by assumption) ?_
  simp only [picks, List.drop_succ_cons, List.drop_zero, List.take_succ_cons, List.take_zero, List.cons_append, List.nil_append]
  repeat (first
    | (refine wpY_skip (by rfl) ?_; simp only [Act.put, List.setIfInBounds_toArray, List.set_cons_zero, List.set_cons_succ])
    | (refine wpY_want (v := ?_) (by rfl) (fun W hW => ?_) ?_; rotate_left; (obtain ⟨⟨hW0, hW1⟩, hW2, hW3⟩ := hW; go_simp; try with_reducible rfl); simp only [Act.put, List.setIfInBounds_toArray, List.set_cons_zero, List.set_cons_succ]))
  refine wpY_nil ?_
  refine wpAnyH_one 10 2 (by rfl) (by rfl) (by kernel_rfl) (fun K hK => ?_)
  go_simp
  refine hK.out _ _ (⟨Y9.cells2, S9.cells2⟩) (fun hSt => ?_)
  clear hK K
  try simp only [Act.put, List.setIfInBounds_toArray, List.set_cons_zero, List.set_cons_succ]
  refine wpAnyH_picks [11, 12] 0 (by rfl) (by kernel_rfl) (by kernel_rfl) (by kernel_rfl) (fun _ _ _ _ _ h => h) (by assumption) ?_
  simp only [picks, List.drop_succ_cons, List.drop_zero, List.take_succ_cons, List.take_zero, List.cons_append, List.nil_append]
  repeat (first
    | (refine wpY_skip (by rfl) ?_; simp only [Act.put, List.setIfInBounds_toArray, List.set_cons_zero, List.set_cons_succ])
    | (refine wpY_want (v := ?_) (by rfl) (fun W hW => ?_) ?_; rotate_left; (go_simp; try with_reducible rfl); simp only [Act.put, List.setIfInBounds_toArray, List.set_cons_zero, List.set_cons_succ]))
  refine wpY_nil ?_
  refine wpAnyH_done (by kernel_rfl) ?_ _
  refine NoPanic.normal ?_
  go_wp2_with fail
  refine wp_region_noPanic ?_
  refine wp_region_held_drew (S := fun W : World => W.cell? ⟨y, 0, none⟩ = some (.int .i64 (A : Nat)) ∧ W.cell? ⟨y, 1, none⟩ = some (.int .i64 (B : Nat))) (by kernel_rfl) ((Y9.drewN 1).cells2) (fun hSt => ?_)
  have Ra : Blk w9.drew (w.heap.size + 1) 113 _ := R9
  have Ya : Blk w9.drew y 113 _ := Y9
  have Da : Rd w9.drew base g R bs _ := D9
  have Ka : Touch g none w w9.drew := K9.drewN 1
  clear R9 Y9 D9 K9
  generalize w9.drew = wa at *
  refine wpAnyH_picks [0, 1, 2, 3] 2 (by rfl) (by kernel_rfl) (by kernel_rfl) (by kernel_rfl) (fun _ _ _ _ _ h => h) (by assumption) ?_
  simp only [picks, List.drop_succ_cons, List.drop_zero, List.take_succ_cons, List.take_zero, List.cons_append, List.nil_append]
  repeat (first
    | (refine wpY_skip (by rfl) ?_; simp only [Act.put, List.setIfInBounds_toArray, List.set_cons_zero, List.set_cons_succ])
    | (refine wpY_want (v := ?_) (by rfl) (fun W hW => ?_) ?_; rotate_left; (obtain ⟨hW0, hW1⟩ := hW; go_simp; try with_reducible rfl); simp only [Act.put, List.setIfInBounds_toArray, List.set_cons_zero, List.set_cons_succ]))
  refine wpY_nil ?_
  obtain ⟨d0, d1⟩ := Ra.cells2
  have f0 := Ra.frozen 0
  have f1 := Ra.frozen 1
  refine wpAnyH_one 4 1 (by rfl) (by rfl) (by kernel_rfl) (fun K hK => ?_)
  go_simp
  refine hK.out _ _ ((Ya.farSet2 (g' := w.heap.size + 1) (by omega) _ _).cells2) (fun hSt => ?_)
  clear hK K
  try simp only [Act.put, List.setIfInBounds_toArray, List.set_cons_zero, List.set_cons_succ]
  refine wpAnyH_picks [5] 0 (by rfl) (by kernel_rfl) (by kernel_rfl) (by kernel_rfl) (fun _ _ _ _ _ h => h) (by assumption) ?_
  simp only [picks, List.drop_succ_cons, List.drop_zero, List.take_succ_cons, List.take_zero, List.cons_append, List.nil_append]
  repeat (first
    | (refine wpY_skip (by rfl) ?_; simp only [Act.put, List.setIfInBounds_toArray, List.set_cons_zero, List.set_cons_succ])
    | (refine wpY_want (v := ?_) (by rfl) (fun W hW => ?_) ?_; rotate_left; (go_simp; try with_reducible rfl); simp only [Act.put, List.setIfInBounds_toArray, List.set_cons_zero, List.set_cons_succ]))
  refine wpY_nil ?_
  refine wpAnyH_done (by kernel_rfl) ?_ _
  refine NoPanic.normal ?_
  go_wp2_with fail
  obtain ⟨q0, q1⟩ := (Ra.set2 (.int .i64 (A : Nat)) (.int .i64 (B : Nat))).cells2
  refine bodyPost_ret (v := .tuple #[.int .u64 0, .agg #[.int .i64 (A : Nat), .int .i64 (B : Nat)], .int .i64 50]) (by simp [results, Tryd.results84, go_sem, q0, q1]) rfl ?_
  exact ⟨_, _, _, rfl, ⟨_, Da.set2 (by omega) NR.out _ _⟩, Ka.set2 (by omega) _ _⟩

set_option maxHeartbeats 3200000 in
theorem fresh_n4 (w : World) (base g : Nat) (R : Option Nat) (bs : List Int) (p a b : Nat) (A M B X : Nat) (h : Rd w base g R bs p) (hT : XorTab w) (hb : 2 ≤ base) (hbs : ∀ x ∈ bs, Byte x) (hR : ∀ k, R = some k → k < w.heap.size) (hl : 12 ≤ ((unB bs).drop p).length) (hA : val (((unB bs).drop p).take 6) = A) (hM : val ((((unB bs).drop p).drop 6).take 6) = M) (hAM : A + (M + 1) ≤ 64) (hB : 64 - A - (M + 1) = B) (hN : getN (((unB bs).drop p).drop 12) A B = some X) (hcan : ¬ (lz X = A ∧ tz X = B)) :
    Calls Tryd.prog 84 #[.pointer (some ⟨g, 0, none⟩), .agg #[.int .i64 (a : Nat), .int .i64 (b : Nat)]] w fun e w' => ∃ x a1 b1 : Int, e = .returned (.tuple #[.int .u64 x, .agg #[.int .i64 a1, .int .i64 b1], .int .i64 50]) ∧ RdS w' base g R bs ∧ Touch g none w w' := by
  obtain ⟨S0, R0, B0⟩ := win_new w (.int .i64 (a : Nat)) (.int .i64 (b : Nat)) (.int .i64 0) (.int .i64 0) 113 113
  have hlt := h.lt
  have hg2 : 2 ≤ g := Nat.le_trans hb h.1
  have HBS := Lib.hid hbs
  have HR := Lib.hid hR
  have nR : R ≠ some (w.heap.size + 1) := fun e => by have := hR _ e; omega
  have NR := Lib.hid nR
  have hpl := h.place
  clear nR hR hbs
  rw [rest_len] at hl
  rw [List.drop_drop] at hM hN
  have HA := Lib.hid hA
  have HM := Lib.hid hM
  have HN := Lib.hid hN
  have hA6 : A < 64 := by rw [← HA.out]; exact val_take_lt _ 6
  have hM6 : M < 64 := by rw [← HM.out]; exact val_take_lt _ 6
  have WSA := Lib.hid (show wrap64 (A : Int) = (A : Int) from w64_id (by omega) (by omega))
  have WSM := Lib.hid (show wrap64 (M : Int) = (M : Int) from w64_id (by omega) (by omega))
  have WSN := Lib.hid (show IntKind.i64.wrap (M : Int) = (M : Int) from i64_id (by omega) (by omega))
  have ws1 : IntKind.i64.wrap (64 - (A : Int)) = 64 - (A : Int) := i64_id (by omega) (by omega)
  have ws2 : IntKind.i64.wrap (64 - (A : Int) - (M : Int)) = 64 - (A : Int) - (M : Int) := i64_id (by omega) (by omega)
  have hB6 : (64 : Int) - (A : Int) - (M : Int) - 1 = (B : Nat) := by omega
  have ws3 : IntKind.i64.wrap (64 - (A : Int) - (M : Int) - 1) = (B : Nat) := (i64_id (by omega) (by omega)).trans hB6
  have hab2 : A + B ≤ 63 := by omega
  have HBN := Lib.hid (show A + M + 1 + B = 64 by omega)
  clear hB6
  have HRw : ∀ W, Touch g none w W → ∀ k, R = some k → k < W.heap.size := fun W hW k hk => by have := HR.out k hk; have := hW.size; omega
  have HRW := Lib.hid HRw
  obtain ⟨_, hox, hx0⟩ := getN_some hN
  have hX64 : X < 18446744073709551616 := by have := outW_lt ((unB bs).drop (p + 12)) A B (by omega); rw [hox] at this; omega
  have AR := fun W h => around_any X W hx0 hX64 h
  obtain ⟨l, hl2⟩ : ∃ l, lz X = l := ⟨_, rfl⟩
  obtain ⟨t, ht2⟩ : ∃ t, tz X = t := ⟨_, rfl⟩
  rw [hl2, ht2] at AR hcan
  have HAR := Lib.hid AR
  have hcs : ((l == A) = false ∧ ((l : Int) == (A : Int)) = false) ∨ (l = A ∧ (t == B) = false ∧ ((t : Int) == (B : Int)) = false) := by
    by_cases e : l = A
    · exact .inr ⟨e, beq_eq_false_iff_ne.2 (fun e2 => hcan ⟨e, e2⟩), beq_eq_false_iff_ne.2 (fun e2 => hcan ⟨e, by omega⟩)⟩
    · exact .inl ⟨beq_eq_false_iff_ne.2 e, beq_eq_false_iff_ne.2 (by omega)⟩
  clear hA hM hN hB HRw hox hx0 hX64 AR hl2 ht2 hcan
  rcases hcs with ⟨e1, e2⟩ | ⟨e0, e1, e2⟩
  all_goals
    try subst l
    go_enter Tryd.func84, Tryd.ntmps84
    have A3 : Below ((w.alloc (.cells #[.int .i64 (a : Nat), .int .i64 (b : Nat)] 113)).alloc (.cells #[.int .i64 0, .int .i64 0] 113)).heap.size ((w.alloc (.cells #[.int .i64 (a : Nat), .int .i64 (b : Nat)] 113)).alloc (.cells #[.int .i64 0, .int .i64 0] 113)) (((w.alloc (.cells #[.int .i64 (a : Nat), .int .i64 (b : Nat)] 113)).alloc (.cells #[.int .i64 0, .int .i64 0] 113)).alloc (.cells #[.int .i64 6, .int .i64 6] 3)) := (Below.refl _ _).alloc (Nat.le_refl _) _
    have Z3 := SizesAt.two (n := 6) (n2 := 6) (Blk.new ((w.alloc (.cells #[.int .i64 (a : Nat), .int .i64 (b : Nat)] 113)).alloc (.cells #[.int .i64 0, .int .i64 0] 113)) 3 #[.int .i64 6, .int .i64 6]) rfl rfl
    have S3 := S0.below A3
    have R3 := R0.below A3
    have H3 := below_more B0 A3
    have D3 := h.below H3
    have hsz : ((w.alloc (.cells #[.int .i64 (a : Nat), .int .i64 (b : Nat)] 113)).alloc (.cells #[.int .i64 0, .int .i64 0] 113)).heap.size = w.heap.size + 2 := by simp
    rw [hsz] at Z3
    have hz3 : w.heap.size + 2 < (((w.alloc (.cells #[.int .i64 (a : Nat), .int .i64 (b : Nat)] 113)).alloc (.cells #[.int .i64 0, .int .i64 0] 113)).alloc (.cells #[.int .i64 6, .int .i64 6] 3)).heap.size := by simp
    clear hsz A3 S0 R0 B0
    go_wp2_with fail
    generalize ((w.alloc (.cells #[.int .i64 (a : Nat), .int .i64 (b : Nat)] 113)).alloc (.cells #[.int .i64 0, .int .i64 0] 113)).alloc (.cells #[.int .i64 6, .int .i64 6] 3) = w3 at *
    have hqg : w.heap.size + 2 ≠ g := by omega
    have HRq : ∀ k, R = some k → k < w3.heap.size := fun k hk => by have := HR.out k hk; omega
    refine (read_ok w3 base g (w.heap.size + 2) R bs p 2 [6, 6] D3 HBS.out Z3 hz3 hqg (by simp) (by simp) (by simp) (by simp; omega) HRq).mono ?_
    rw [show readV bs p [6, 6] = [A, M] by simp [readV, HA.out, HM.out], show p + [6, 6].sum = p + 12 by simp]
    rintro e w4 ⟨v, rfl, O4, D4, T4⟩
    obtain ⟨r, cq, rfl, hc1, hc2, hr1, hr2, hr3, hr4⟩ := own_two O4
    have S4 := S3.touch T4 (by omega) (by simp)
    have R4 := R3.touch T4 (by omega) (by simp)
    have K4 := (Touch.of_below H3 g none).trans T4 (.inl rfl)
    have A5 : Below w4.heap.size w4 (w4.alloc (.cells #[.int .i64 (A : Nat), .int .i64 0] 113)) := (Below.refl _ w4).alloc (Nat.le_refl _) _
    have hr5 := cell_keep A5 hr4
    have S5 := S4.below A5
    have R5 := R4.below A5
    have D5 := D4.below A5
    have K5 := K4.trans (Touch.of_below A5 g none) (.inl rfl)
    have Y5 := Blk.new w4 113 #[.int .i64 (A : Nat), .int .i64 0]
    have hz4 := T4.size
    clear O4 T4 D3 S3 R3 H3 D4 S4 R4 K4 HRq Z3
    go_wp2_with fail
    obtain ⟨y, hy⟩ : ∃ y, w4.heap.size = y := ⟨_, rfl⟩
    rw [hy] at Y5 hz4 hr2 ⊢
    generalize w4.alloc (.cells #[.int .i64 (A : Nat), .int .i64 0] 113) = w5 at *
    clear A5 hr3 hr4 hy
    refine wp_region_noPanic ?_
    refine wp_region_held_drew (S := fun W : World => W.cell? ⟨y, 0, none⟩ = some (.int .i64 (A : Nat)) ∧ W.cell? ⟨r, 1, none⟩ = some (.int .u64 (M : Nat))) (by kernel_rfl) (⟨(Y5.drewN 1).cells2.1, hr5⟩) (fun hSt => ?_)
    have S6 : Blk w5.drew w.heap.size 113 _ := S5
    have R6 : Blk w5.drew (w.heap.size + 1) 113 _ := R5
    have Y6 : Blk w5.drew y 113 _ := Y5
    have D6 : Rd w5.drew base g R bs (p + 12) := D5
    have K6 : Touch g none w w5.drew := K5.drewN 1
    have hr6 : w5.drew.cell? ⟨r, 1, none⟩ = some (.int .u64 (M : Nat)) := hr5
    clear S5 R5 Y5 D5 K5 hr5
    generalize w5.drew = w6 at *
    have wsA := WSA.out
    have wsM := WSM.out
    have wsN := WSN.out
    refine wpAnyH_picks [0, 1, 2, 3, 4, 5, 6, 7, 8, 9] 1 (by rfl) (by kernel_rfl) (by kernel_rfl) (by kernel_rfl) (fun _ _ _ _ _ h => h) (by assumption) ?_
    simp only [picks, List.drop_succ_cons, List.drop_zero, List.take_succ_cons, List.take_zero, List.cons_append, List.nil_append]
    repeat (first
      | (refine wpY_skip (by rfl) ?_; simp only [Act.put, List.setIfInBounds_toArray, List.set_cons_zero, List.set_cons_succ])
      | (refine wpY_want (v := ?_) (by rfl) (fun W hW => ?_) ?_; rotate_left; (obtain ⟨hW0, hW1⟩ := hW; go_simp; try with_reducible rfl); simp only [Act.put, List.setIfInBounds_toArray, List.set_cons_zero, List.set_cons_succ]))
    refine wpY_nil ?_
    clear wsA wsM wsN ws1 ws2 ws3
    have y1 := Y6.cells2.2
    have f1 := Y6.frozen 1
    have hry : r ≠ y := by omega
    refine wpAnyH_one 10 0 (by rfl) (by rfl) (by kernel_rfl) (fun K hK => ?_)
    go_simp
    refine hK.out _ _ (⟨((Y6.set_ 1 (.int .i64 (B : Nat))).cell 0), by rw [World.cell?_setCell_far _ _ _ _ (show y ≠ r by omega)]; exact hr6⟩) (fun hSt => ?_)
    clear hK K
    try simp only [Act.put, List.setIfInBounds_toArray, List.set_cons_zero, List.set_cons_succ]
    refine wpAnyH_done (by kernel_rfl) ?_ _
    refine NoPanic.normal ?_
    have Y7 : Blk (w6.setCell ⟨y, 1, none⟩ (.int .i64 (B : Nat))) y 113 #[.int .i64 (A : Nat), .int .i64 (B : Nat)] := Y6.set_ 1 (.int .i64 (B : Nat))
    have S7 := S6.far (p := ⟨y, 1, none⟩) (show w.heap.size ≠ y by omega) (.int .i64 (B : Nat))
    have R7 := R6.far (p := ⟨y, 1, none⟩) (show w.heap.size + 1 ≠ y by omega) (.int .i64 (B : Nat))
    have D7 := D6.touch ((Touch.refl y none w6).set_ 1 (.int .i64 (B : Nat))) (show g ≠ y by omega) (by simp) (fun e => by have := HR.out _ e; omega) (by cases R <;> simp)
    have K7 := K6.setRow (r := y) (.inr (by omega)) 1 (.int .i64 (B : Nat))
    clear y1 f1 S6 R6 Y6 D6 K6 hr6
    generalize w6.setCell ⟨y, 1, none⟩ (.int .i64 (B : Nat)) = w7 at *
    obtain ⟨y0, y1⟩ := Y7.cells2
    go_wp2_with fail
    refine (within_ok w7 base g R bs (p + 12) _ B X D7 HBS.out (HRW.out _ K7) hab2 HN.out).mono ?_
    rintro e w8 ⟨rfl, D8, T8⟩
    have S8 := S7.touch T8 (by omega) (by simp)
    have R8 := R7.touch T8 (by omega) (by simp)
    have Y8 := Y7.touch T8 (by omega) (by simp)
    have K8 := K7.trans T8 (.inl rfl)
    clear S7 R7 Y7 D7 K7 T8 y0 y1
    go_wp2_with fail
    refine wp_region_noPanic ?_
    refine wp_region_held_drew (S := fun W : World => (W.cell? ⟨y, 0, none⟩ = some (.int .i64 _) ∧ W.cell? ⟨y, 1, none⟩ = some (.int .i64 (B : Nat))) ∧ W.cell? ⟨w.heap.size, 0, none⟩ = some (.int .i64 (a : Nat)) ∧ W.cell? ⟨w.heap.size, 1, none⟩ = some (.int .i64 (b : Nat))) (by kernel_rfl) (⟨(Y8.drewN 1).cells2, (S8.drewN 1).cells2⟩) (fun hSt => ?_)
    have S9 : Blk w8.drew w.heap.size 113 _ := S8
    have R9 : Blk w8.drew (w.heap.size + 1) 113 _ := R8
    have Y9 : Blk w8.drew y 113 _ := Y8
    have D9 : Rd w8.drew base g R bs _ := D8
    have K9 : Touch g none w w8.drew := K8.drewN 1
    have TX := hT.touch K9 hg2 (by simp)
    clear S8 R8 Y8 D8 K8
    generalize w8.drew = w9 at *
    refine wpAnyH_picks [0, 1, 2, 3, 5] 8 (by rfl) (by kernel_rfl) (by kernel_rfl) (by kernel_rfl) (fun _ _ _ _ _ h => h) (by assumption) ?_
    simp only [picks, List.drop_succ_cons, List.drop_zero, List.take_succ_cons, List.take_zero, List.cons_append, List.nil_append]
    repeat (first
      | (refine wpY_skip (by rfl) ?_; simp only [Act.put, List.setIfInBounds_toArray, List.set_cons_zero, List.set_cons_succ])
      | (refine wpY_want (v := ?_) (by rfl) (fun W hW => ?_) ?_; rotate_left; (obtain ⟨⟨hW0, hW1⟩, hW2, hW3⟩ := hW; go_simp; try with_reducible rfl); simp only [Act.put, List.setIfInBounds_toArray, List.set_cons_zero, List.set_cons_succ]))
    refine wpY_nil ?_
    refine wpAnyH_one 4 7 (by rfl) (by rfl) (by kernel_rfl) (fun K hK => ?_)
    go_simp
    refine (HAR.out _ TX).mono ?_
    rintro e wb ⟨rfl, hBb⟩
    have S9 := S9.below hBb
    have R9 := R9.below hBb
    have Y9 := Y9.below hBb
    have D9 := D9.below hBb
    have K9 := K9.trans (Touch.of_below hBb g none) (.inl rfl)
    refine hK.out _ _ (⟨Y9.cells2, S9.cells2⟩) (fun hSt => ?_)
    clear hK K
    try simp only [Act.put, List.setIfInBounds_toArray, List.set_cons_zero, List.set_cons_succ]
    refine wpAnyH_picks [6, 7, 8, 9] 3 (by rfl) (by kernel_rfl) (by kernel_rfl) (by kernel_rfl) (fun _ _ _ _ _ h => h) (by assumption) ?_
    simp only [picks, List.drop_succ_cons, List.drop_zero, List.take_succ_cons, List.take_zero, List.cons_append, List.nil_append]
    repeat (first
      | (refine wpY_skip (by rfl) ?_; simp only [Act.put, List.setIfInBounds_toArray, List.set_cons_zero, List.set_cons_succ])
      | (refine wpY_want (v := ?_) (by rfl) (fun W hW => ?_) ?_; rotate_left; (obtain ⟨⟨hW0, hW1⟩, hW2, hW3⟩ := hW; go_simp; try with_reducible rfl); simp only [Act.put, List.setIfInBounds_toArray, List.set_cons_zero, List.set_cons_succ]))
    refine wpY_nil ?_
    refine wpAnyH_one 10 2 (by rfl) (by rfl) (by kernel_rfl) (fun K hK => ?_)
    go_simp
    refine hK.out _ _ (⟨Y9.cells2, S9.cells2⟩) (fun hSt => ?_)
    clear hK K
    try simp only [Act.put, List.setIfInBounds_toArray, List.set_cons_zero, List.set_cons_succ]
    refine wpAnyH_picks [11, 12] 0 (by rfl) (by kernel_rfl) (by kernel_rfl) (by kernel_rfl) (fun _ _ _ _ _ h => h) (by assumption) ?_
    simp only [picks, List.drop_succ_cons, List.drop_zero, List.take_succ_cons, List.take_zero, List.cons_append, List.nil_append]
    repeat (first
      | (refine wpY_skip (by rfl) ?_; simp only [Act.put, List.setIfInBounds_toArray, List.set_cons_zero, List.set_cons_succ])
      | (refine wpY_want (v := ?_) (by rfl) (fun W hW => ?_) ?_; rotate_left; (go_simp; try with_reducible rfl); simp only [Act.put, List.setIfInBounds_toArray, List.set_cons_zero, List.set_cons_succ]))
    refine wpY_nil ?_
    refine wpAnyH_done (by kernel_rfl) ?_ _
    refine NoPanic.normal ?_
    go_wp2_with fail
    refine wp_region_noPanic ?_
    refine wp_region_held_drew (S := fun W : World => W.cell? ⟨y, 0, none⟩ = some (.int .i64 (A : Nat)) ∧ W.cell? ⟨y, 1, none⟩ = some (.int .i64 (B : Nat))) (by kernel_rfl) ((Y9.drewN 1).cells2) (fun hSt => ?_)
    have Ra : Blk wb.drew (w.heap.size + 1) 113 _ := R9
    have Ya : Blk wb.drew y 113 _ := Y9
    have Da : Rd wb.drew base g R bs _ := D9
    have Ka : Touch g none w wb.drew := K9.drewN 1
    clear R9 Y9 D9 K9
    generalize wb.drew = wa at *
    refine wpAnyH_picks [0, 1, 2, 3] 2 (by rfl) (by kernel_rfl) (by kernel_rfl) (by kernel_rfl) (fun _ _ _ _ _ h => h) (by assumption) ?_
    simp only [picks, List.drop_succ_cons, List.drop_zero, List.take_succ_cons, List.take_zero, List.cons_append, List.nil_append]
    repeat (first
      | (refine wpY_skip (by rfl) ?_; simp only [Act.put, List.setIfInBounds_toArray, List.set_cons_zero, List.set_cons_succ])
      | (refine wpY_want (v := ?_) (by rfl) (fun W hW => ?_) ?_; rotate_left; (obtain ⟨hW0, hW1⟩ := hW; go_simp; try with_reducible rfl); simp only [Act.put, List.setIfInBounds_toArray, List.set_cons_zero, List.set_cons_succ]))
    refine wpY_nil ?_
    obtain ⟨d0, d1⟩ := Ra.cells2
    have f0 := Ra.frozen 0
    have f1 := Ra.frozen 1
    refine wpAnyH_one 4 1 (by rfl) (by rfl) (by kernel_rfl) (fun K hK => ?_)
    go_simp
    refine hK.out _ _ ((Ya.farSet2 (g' := w.heap.size + 1) (by omega) _ _).cells2) (fun hSt => ?_)
    clear hK K
    try simp only [Act.put, List.setIfInBounds_toArray, List.set_cons_zero, List.set_cons_succ]
    refine wpAnyH_picks [5] 0 (by rfl) (by kernel_rfl) (by kernel_rfl) (by kernel_rfl) (fun _ _ _ _ _ h => h) (by assumption) ?_
    simp only [picks, List.drop_succ_cons, List.drop_zero, List.take_succ_cons, List.take_zero, List.cons_append, List.nil_append]
    repeat (first
      | (refine wpY_skip (by rfl) ?_; simp only [Act.put, List.setIfInBounds_toArray, List.set_cons_zero, List.set_cons_succ])
      | (refine wpY_want (v := ?_) (by rfl) (fun W hW => ?_) ?_; rotate_left; (go_simp; try with_reducible rfl); simp only [Act.put, List.setIfInBounds_toArray, List.set_cons_zero, List.set_cons_succ]))
    refine wpY_nil ?_
    refine wpAnyH_done (by kernel_rfl) ?_ _
    refine NoPanic.normal ?_
    go_wp2_with fail
    obtain ⟨q0, q1⟩ := (Ra.set2 (.int .i64 (A : Nat)) (.int .i64 (B : Nat))).cells2
    refine bodyPost_ret (v := .tuple #[.int .u64 (X : Nat), .agg #[.int .i64 (A : Nat), .int .i64 (B : Nat)], .int .i64 50]) (by simp [results, Tryd.results84, go_sem, q0, q1]) rfl ?_
    exact ⟨_, _, _, rfl, ⟨_, Da.set2 (by omega) NR.out _ _⟩, Ka.set2 (by omega) _ _⟩

set_option maxHeartbeats 3200000 in
theorem fresh_n5 (w : World) (base g : Nat) (R : Option Nat) (bs : List Int) (p a b : Nat) (A M B X : Nat) (h : Rd w base g R bs p) (hT : XorTab w) (hb : 2 ≤ base) (hbs : ∀ x ∈ bs, Byte x) (hR : ∀ k, R = some k → k < w.heap.size) (hl : 12 ≤ ((unB bs).drop p).length) (hA : val (((unB bs).drop p).take 6) = A) (hM : val ((((unB bs).drop p).drop 6).take 6) = M) (hAM : A + (M + 1) ≤ 64) (hB : 64 - A - (M + 1) = B) (hN : getN (((unB bs).drop p).drop 12) A B = some X) (hlz : lz X = A) (htz : tz X = B) (hiw : inW a b X = true) :
    Calls Tryd.prog 84 #[.pointer (some ⟨g, 0, none⟩), .agg #[.int .i64 (a : Nat), .int .i64 (b : Nat)]] w fun e w' => ∃ x a1 b1 : Int, e = .returned (.tuple #[.int .u64 x, .agg #[.int .i64 a1, .int .i64 b1], .int .i64 50]) ∧ RdS w' base g R bs ∧ Touch g none w w' := by
  obtain ⟨S0, R0, B0⟩ := win_new w (.int .i64 (a : Nat)) (.int .i64 (b : Nat)) (.int .i64 0) (.int .i64 0) 113 113
  have hlt := h.lt
  have hg2 : 2 ≤ g := Nat.le_trans hb h.1
  have HBS := Lib.hid hbs
  have HR := Lib.hid hR
  have nR : R ≠ some (w.heap.size + 1) := fun e => by have := hR _ e; omega
  have NR := Lib.hid nR
  have hpl := h.place
  clear nR hR hbs
  rw [rest_len] at hl
  rw [List.drop_drop] at hM hN
  have HA := Lib.hid hA
  have HM := Lib.hid hM
  have HN := Lib.hid hN
  have hA6 : A < 64 := by rw [← HA.out]; exact val_take_lt _ 6
  have hM6 : M < 64 := by rw [← HM.out]; exact val_take_lt _ 6
  have WSA := Lib.hid (show wrap64 (A : Int) = (A : Int) from w64_id (by omega) (by omega))
  have WSM := Lib.hid (show wrap64 (M : Int) = (M : Int) from w64_id (by omega) (by omega))
  have WSN := Lib.hid (show IntKind.i64.wrap (M : Int) = (M : Int) from i64_id (by omega) (by omega))
  have ws1 : IntKind.i64.wrap (64 - (A : Int)) = 64 - (A : Int) := i64_id (by omega) (by omega)
  have ws2 : IntKind.i64.wrap (64 - (A : Int) - (M : Int)) = 64 - (A : Int) - (M : Int) := i64_id (by omega) (by omega)
  have hB6 : (64 : Int) - (A : Int) - (M : Int) - 1 = (B : Nat) := by omega
  have ws3 : IntKind.i64.wrap (64 - (A : Int) - (M : Int) - 1) = (B : Nat) := (i64_id (by omega) (by omega)).trans hB6
  have hab2 : A + B ≤ 63 := by omega
  have HBN := Lib.hid (show A + M + 1 + B = 64 by omega)
  clear hB6
  have HRw : ∀ W, Touch g none w W → ∀ k, R = some k → k < W.heap.size := fun W hW k hk => by have := HR.out k hk; have := hW.size; omega
  have HRW := Lib.hid HRw
  obtain ⟨_, hox, hx0⟩ := getN_some hN
  have hX64 : X < 18446744073709551616 := by have := outW_lt ((unB bs).drop (p + 12)) A B (by omega); rw [hox] at this; omega
  have AR := fun W h => around_any X W hx0 hX64 h
  rw [hlz, htz] at AR
  have HO := fun W => holdsW_any a b A B W true (by rw [← hiw, inW, hlz, htz]; exact decide_eq_decide.2 (by omega))
  have HAR := Lib.hid AR
  have HHO := Lib.hid HO
  clear hA hM hN hB HRw hox hx0 hX64 AR HO hlz htz hiw
  go_enter Tryd.func84, Tryd.ntmps84
  have A3 : Below ((w.alloc (.cells #[.int .i64 (a : Nat), .int .i64 (b : Nat)] 113)).alloc (.cells #[.int .i64 0, .int .i64 0] 113)).heap.size ((w.alloc (.cells #[.int .i64 (a : Nat), .int .i64 (b : Nat)] 113)).alloc (.cells #[.int .i64 0, .int .i64 0] 113)) (((w.alloc (.cells #[.int .i64 (a : Nat), .int .i64 (b : Nat)] 113)).alloc (.cells #[.int .i64 0, .int .i64 0] 113)).alloc (.cells #[.int .i64 6, .int .i64 6] 3)) := (Below.refl _ _).alloc (Nat.le_refl _) _
  have Z3 := SizesAt.two (n := 6) (n2 := 6) (Blk.new ((w.alloc (.cells #[.int .i64 (a : Nat), .int .i64 (b : Nat)] 113)).alloc (.cells #[.int .i64 0, .int .i64 0] 113)) 3 #[.int .i64 6, .int .i64 6]) rfl rfl
  have S3 := S0.below A3
  have R3 := R0.below A3
  have H3 := below_more B0 A3
  have D3 := h.below H3
  have hsz : ((w.alloc (.cells #[.int .i64 (a : Nat), .int .i64 (b : Nat)] 113)).alloc (.cells #[.int .i64 0, .int .i64 0] 113)).heap.size = w.heap.size + 2 := by simp
  rw [hsz] at Z3
  have hz3 : w.heap.size + 2 < (((w.alloc (.cells #[.int .i64 (a : Nat), .int .i64 (b : Nat)] 113)).alloc (.cells #[.int .i64 0, .int .i64 0] 113)).alloc (.cells #[.int .i64 6, .int .i64 6] 3)).heap.size := by simp
  clear hsz A3 S0 R0 B0
  go_wp2_with fail
  generalize ((w.alloc (.cells #[.int .i64 (a : Nat), .int .i64 (b : Nat)] 113)).alloc (.cells #[.int .i64 0, .int .i64 0] 113)).alloc (.cells #[.int .i64 6, .int .i64 6] 3) = w3 at *
  have hqg : w.heap.size + 2 ≠ g := by omega
  have HRq : ∀ k, R = some k → k < w3.heap.size := fun k hk => by have := HR.out k hk; omega
  refine (read_ok w3 base g (w.heap.size + 2) R bs p 2 [6, 6] D3 HBS.out Z3 hz3 hqg (by simp) (by simp) (by simp) (by simp; omega) HRq).mono ?_
  rw [show readV bs p [6, 6] = [A, M] by simp [readV, HA.out, HM.out], show p + [6, 6].sum = p + 12 by simp]
  rintro e w4 ⟨v, rfl, O4, D4, T4⟩
  obtain ⟨r, cq, rfl, hc1, hc2, hr1, hr2, hr3, hr4⟩ := own_two O4
  have S4 := S3.touch T4 (by omega) (by simp)
  have R4 := R3.touch T4 (by omega) (by simp)
  have K4 := (Touch.of_below H3 g none).trans T4 (.inl rfl)
  have A5 : Below w4.heap.size w4 (w4.alloc (.cells #[.int .i64 (A : Nat), .int .i64 0] 113)) := (Below.refl _ w4).alloc (Nat.le_refl _) _
  have hr5 := cell_keep A5 hr4
  have S5 := S4.below A5
  have R5 := R4.below A5
  have D5 := D4.below A5
  have K5 := K4.trans (Touch.of_below A5 g none) (.inl rfl)
  have Y5 := Blk.new w4 113 #[.int .i64 (A : Nat), .int .i64 0]
  have hz4 := T4.size
  clear O4 T4 D3 S3 R3 H3 D4 S4 R4 K4 HRq Z3
  go_wp2_with fail
  obtain ⟨y, hy⟩ : ∃ y, w4.heap.size = y := ⟨_, rfl⟩
  rw [hy] at Y5 hz4 hr2 ⊢
  generalize w4.alloc (.cells #[.int .i64 (A : Nat), .int .i64 0] 113) = w5 at *
  clear A5 hr3 hr4 hy
  refine wp_region_noPanic ?_
  refine wp_region_held_drew (S := fun W : World => W.cell? ⟨y, 0, none⟩ = some (.int .i64 (A : Nat)) ∧ W.cell? ⟨r, 1, none⟩ = some (.int .u64 (M : Nat))) (by kernel_rfl) (⟨(Y5.drewN 1).cells2.1, hr5⟩) (fun hSt => ?_)
  have S6 : Blk w5.drew w.heap.size 113 _ := S5
  have R6 : Blk w5.drew (w.heap.size + 1) 113 _ := R5
  have Y6 : Blk w5.drew y 113 _ := Y5
  have D6 : Rd w5.drew base g R bs (p + 12) := D5
  have K6 : Touch g none w w5.drew := K5.drewN 1
  have hr6 : w5.drew.cell? ⟨r, 1, none⟩ = some (.int .u64 (M : Nat)) := hr5
  clear S5 R5 Y5 D5 K5 hr5
  generalize w5.drew = w6 at *
  have wsA := WSA.out
  have wsM := WSM.out
  have wsN := WSN.out
  refine wpAnyH_picks [0, 1, 2, 3, 4, 5, 6, 7, 8, 9] 1 (by rfl) (by kernel_rfl) (by kernel_rfl) (by kernel_rfl) (fun _ _ _ _ _ h => h) (by assumption) ?_
  simp only [picks, List.drop_succ_cons, List.drop_zero, List.take_succ_cons, List.take_zero, List.cons_append, List.nil_append]
  repeat (first
    | (refine wpY_skip (by rfl) ?_; simp only [Act.put, List.setIfInBounds_toArray, List.set_cons_zero, List.set_cons_succ])
    | (refine wpY_want (v := ?_) (by rfl) (fun W hW => ?_) ?_; rotate_left; (obtain ⟨hW0, hW1⟩ := hW; go_simp; try with_reducible rfl); simp only [Act.put, List.setIfInBounds_toArray, List.set_cons_zero, List.set_cons_succ]))
  refine wpY_nil ?_
  clear wsA wsM wsN ws1 ws2 ws3
  have y1 := Y6.cells2.2
  have f1 := Y6.frozen 1
  have hry : r ≠ y := by omega
  refine wpAnyH_one 10 0 (by rfl) (by rfl) (by kernel_rfl) (fun K hK => ?_)
  go_simp
  refine hK.out _ _ (⟨((Y6.set_ 1 (.int .i64 (B : Nat))).cell 0), by rw [World.cell?_setCell_far _ _ _ _ (show y ≠ r by omega)]; exact hr6⟩) (fun hSt => ?_)
  clear hK K
  try simp only [Act.put, List.setIfInBounds_toArray, List.set_cons_zero, List.set_cons_succ]
  refine wpAnyH_done (by kernel_rfl) ?_ _
  refine NoPanic.normal ?_
  have Y7 : Blk (w6.setCell ⟨y, 1, none⟩ (.int .i64 (B : Nat))) y 113 #[.int .i64 (A : Nat), .int .i64 (B : Nat)] := Y6.set_ 1 (.int .i64 (B : Nat))
  have S7 := S6.far (p := ⟨y, 1, none⟩) (show w.heap.size ≠ y by omega) (.int .i64 (B : Nat))
  have R7 := R6.far (p := ⟨y, 1, none⟩) (show w.heap.size + 1 ≠ y by omega) (.int .i64 (B : Nat))
  have D7 := D6.touch ((Touch.refl y none w6).set_ 1 (.int .i64 (B : Nat))) (show g ≠ y by omega) (by simp) (fun e => by have := HR.out _ e; omega) (by cases R <;> simp)
  have K7 := K6.setRow (r := y) (.inr (by omega)) 1 (.int .i64 (B : Nat))
  clear y1 f1 S6 R6 Y6 D6 K6 hr6
  generalize w6.setCell ⟨y, 1, none⟩ (.int .i64 (B : Nat)) = w7 at *
  obtain ⟨y0, y1⟩ := Y7.cells2
  go_wp2_with fail
  refine (within_ok w7 base g R bs (p + 12) A B X D7 HBS.out (HRW.out _ K7) hab2 HN.out).mono ?_
  rintro e w8 ⟨rfl, D8, T8⟩
  have S8 := S7.touch T8 (by omega) (by simp)
  have R8 := R7.touch T8 (by omega) (by simp)
  have Y8 := Y7.touch T8 (by omega) (by simp)
  have K8 := K7.trans T8 (.inl rfl)
  clear S7 R7 Y7 D7 K7 T8 y0 y1
  go_wp2_with fail
  refine wp_region_noPanic ?_
  refine wp_region_held_drew (S := fun W : World => (W.cell? ⟨y, 0, none⟩ = some (.int .i64 (A : Nat)) ∧ W.cell? ⟨y, 1, none⟩ = some (.int .i64 (B : Nat))) ∧ W.cell? ⟨w.heap.size, 0, none⟩ = some (.int .i64 (a : Nat)) ∧ W.cell? ⟨w.heap.size, 1, none⟩ = some (.int .i64 (b : Nat))) (by kernel_rfl) (⟨(Y8.drewN 1).cells2, (S8.drewN 1).cells2⟩) (fun hSt => ?_)
  have S9 : Blk w8.drew w.heap.size 113 _ := S8
  have R9 : Blk w8.drew (w.heap.size + 1) 113 _ := R8
  have Y9 : Blk w8.drew y 113 _ := Y8
  have D9 : Rd w8.drew base g R bs _ := D8
  have K9 : Touch g none w w8.drew := K8.drewN 1
  have TX := hT.touch K9 hg2 (by simp)
  clear S8 R8 Y8 D8 K8
  generalize w8.drew = w9 at *
  refine wpAnyH_picks [0, 1, 2, 3, 5] 8 (by rfl) (by kernel_rfl) (by kernel_rfl) (by kernel_rfl) (fun _ _ _ _ _ h => h) (by assumption) ?_
  simp only [picks, List.drop_succ_cons, List.drop_zero, List.take_succ_cons, List.take_zero, List.cons_append, List.nil_append]
  repeat (first
    | (refine wpY_skip (by rfl) ?_; simp only [Act.put, List.setIfInBounds_toArray, List.set_cons_zero, List.set_cons_succ])
    | (refine wpY_want (v := ?_) (by rfl) (fun W hW => ?_) ?_; rotate_left; (obtain ⟨⟨hW0, hW1⟩, hW2, hW3⟩ := hW; go_simp; try with_reducible rfl); simp only [Act.put, List.setIfInBounds_toArray, List.set_cons_zero, List.set_cons_succ]))
  refine wpY_nil ?_
  refine wpAnyH_one 4 7 (by rfl) (by rfl) (by kernel_rfl) (fun K hK => ?_)
  go_simp
  refine (HAR.out _ TX).mono ?_
  rintro e wb ⟨rfl, hBb⟩
  have S9 := S9.below hBb
  have R9 := R9.below hBb
  have Y9 := Y9.below hBb
  have D9 := D9.below hBb
  have K9 := K9.trans (Touch.of_below hBb g none) (.inl rfl)
  refine hK.out _ _ (⟨Y9.cells2, S9.cells2⟩) (fun hSt => ?_)
  clear hK K
  try simp only [Act.put, List.setIfInBounds_toArray, List.set_cons_zero, List.set_cons_succ]
  refine wpAnyH_picks [6, 7, 8, 9] 3 (by rfl) (by kernel_rfl) (by kernel_rfl) (by kernel_rfl) (fun _ _ _ _ _ h => h) (by assumption) ?_
  simp only [picks, List.drop_succ_cons, List.drop_zero, List.take_succ_cons, List.take_zero, List.cons_append, List.nil_append]
  repeat (first
    | (refine wpY_skip (by rfl) ?_; simp only [Act.put, List.setIfInBounds_toArray, List.set_cons_zero, List.set_cons_succ])
    | (refine wpY_want (v := ?_) (by rfl) (fun W hW => ?_) ?_; rotate_left; (obtain ⟨⟨hW0, hW1⟩, hW2, hW3⟩ := hW; go_simp; try with_reducible rfl); simp only [Act.put, List.setIfInBounds_toArray, List.set_cons_zero, List.set_cons_succ]))
  refine wpY_nil ?_
  refine wpAnyH_one 10 2 (by rfl) (by rfl) (by kernel_rfl) (fun K hK => ?_)
  go_simp
  refine (HHO.out _).mono ?_
  rintro e wc ⟨rfl, hBc⟩
  have S9 := S9.below hBc
  have R9 := R9.below hBc
  have Y9 := Y9.below hBc
  have D9 := D9.below hBc
  have K9 := K9.trans (Touch.of_below hBc g none) (.inl rfl)
  refine hK.out _ _ (⟨Y9.cells2, S9.cells2⟩) (fun hSt => ?_)
  clear hK K
  try simp only [Act.put, List.setIfInBounds_toArray, List.set_cons_zero, List.set_cons_succ]
  refine wpAnyH_picks [11, 12] 0 (by rfl) (by kernel_rfl) (by kernel_rfl) (by kernel_rfl) (fun _ _ _ _ _ h => h) (by assumption) ?_
  simp only [picks, List.drop_succ_cons, List.drop_zero, List.take_succ_cons, List.take_zero, List.cons_append, List.nil_append]
  repeat (first
    | (refine wpY_skip (by rfl) ?_; simp only [Act.put, List.setIfInBounds_toArray, List.set_cons_zero, List.set_cons_succ])
    | (refine wpY_want (v := ?_) (by rfl) (fun W hW => ?_) ?_; rotate_left; (go_simp; try with_reducible rfl); simp only [Act.put, List.setIfInBounds_toArray, List.set_cons_zero, List.set_cons_succ]))
  refine wpY_nil ?_
  refine wpAnyH_done (by kernel_rfl) ?_ _
  refine NoPanic.normal ?_
  go_wp2_with fail
  refine wp_region_noPanic ?_
  refine wp_region_held_drew (S := fun W : World => W.cell? ⟨y, 0, none⟩ = some (.int .i64 (A : Nat)) ∧ W.cell? ⟨y, 1, none⟩ = some (.int .i64 (B : Nat))) (by kernel_rfl) ((Y9.drewN 1).cells2) (fun hSt => ?_)
  have Ra : Blk wc.drew (w.heap.size + 1) 113 _ := R9
  have Ya : Blk wc.drew y 113 _ := Y9
  have Da : Rd wc.drew base g R bs _ := D9
  have Ka : Touch g none w wc.drew := K9.drewN 1
  clear R9 Y9 D9 K9
  generalize wc.drew = wa at *
  refine wpAnyH_picks [0, 1, 2, 3] 2 (by rfl) (by kernel_rfl) (by kernel_rfl) (by kernel_rfl) (fun _ _ _ _ _ h => h) (by assumption) ?_
  simp only [picks, List.drop_succ_cons, List.drop_zero, List.take_succ_cons, List.take_zero, List.cons_append, List.nil_append]
  repeat (first
    | (refine wpY_skip (by rfl) ?_; simp only [Act.put, List.setIfInBounds_toArray, List.set_cons_zero, List.set_cons_succ])
    | (refine wpY_want (v := ?_) (by rfl) (fun W hW => ?_) ?_; rotate_left; (obtain ⟨hW0, hW1⟩ := hW; go_simp; try with_reducible rfl); simp only [Act.put, List.setIfInBounds_toArray, List.set_cons_zero, List.set_cons_succ]))
  refine wpY_nil ?_
  obtain ⟨d0, d1⟩ := Ra.cells2
  have f0 := Ra.frozen 0
  have f1 := Ra.frozen 1
  refine wpAnyH_one 4 1 (by rfl) (by rfl) (by kernel_rfl) (fun K hK => ?_)
  go_simp
  refine hK.out _ _ ((Ya.farSet2 (g' := w.heap.size + 1) (by omega) _ _).cells2) (fun hSt => ?_)
  clear hK K
  try simp only [Act.put, List.setIfInBounds_toArray, List.set_cons_zero, List.set_cons_succ]
  refine wpAnyH_picks [5] 0 (by rfl) (by kernel_rfl) (by kernel_rfl) (by kernel_rfl) (fun _ _ _ _ _ h => h) (by assumption) ?_
  simp only [picks, List.drop_succ_cons, List.drop_zero, List.take_succ_cons, List.take_zero, List.cons_append, List.nil_append]
  repeat (first
    | (refine wpY_skip (by rfl) ?_; simp only [Act.put, List.setIfInBounds_toArray, List.set_cons_zero, List.set_cons_succ])
    | (refine wpY_want (v := ?_) (by rfl) (fun W hW => ?_) ?_; rotate_left; (go_simp; try with_reducible rfl); simp only [Act.put, List.setIfInBounds_toArray, List.set_cons_zero, List.set_cons_succ]))
  refine wpY_nil ?_
  refine wpAnyH_done (by kernel_rfl) ?_ _
  refine NoPanic.normal ?_
  go_wp2_with fail
  obtain ⟨q0, q1⟩ := (Ra.set2 (.int .i64 (A : Nat)) (.int .i64 (B : Nat))).cells2
  refine bodyPost_ret (v := .tuple #[.int .u64 (X : Nat), .agg #[.int .i64 (A : Nat), .int .i64 (B : Nat)], .int .i64 50]) (by simp [results, Tryd.results84, go_sem, q0, q1]) rfl ?_
  exact ⟨_, _, _, rfl, ⟨_, Da.set2 (by omega) NR.out _ _⟩, Ka.set2 (by omega) _ _⟩

theorem fresh_no (w : World) (base g : Nat) (R : Option Nat) (bs : List Int) (p a b : Nat) (h : Rd w base g R bs p) (hT : XorTab w) (hb : 2 ≤ base) (hbs : ∀ x ∈ bs, Byte x) (hR : ∀ k, R = some k → k < w.heap.size) (hF : getF ((unB bs).drop p) a b = none) :
    Calls Tryd.prog 84 #[.pointer (some ⟨g, 0, none⟩), .agg #[.int .i64 (a : Nat), .int .i64 (b : Nat)]] w fun e w' => ∃ x a1 b1 : Int, e = .returned (.tuple #[.int .u64 x, .agg #[.int .i64 a1, .int .i64 b1], .int .i64 50]) ∧ RdS w' base g R bs ∧ Touch g none w w' := by
  rcases getF_none hF with hl | ⟨hl, A, M, hA, hM, hAM | ⟨hAM, B, hB, hN | ⟨X, hN, hc | ⟨h1, h2, h3⟩⟩⟩⟩
  · exact fresh_n1 w base g R bs p a b h hT hb hbs hR hl
  · exact fresh_n2 w base g R bs p a b A M h hT hb hbs hR hl hA hM hAM
  · exact fresh_n3 w base g R bs p a b A M B h hT hb hbs hR hl hA hM hAM hB hN
  · exact fresh_n4 w base g R bs p a b A M B X h hT hb hbs hR hl hA hM hAM hB hN hc
  · exact fresh_n5 w base g R bs p a b A M B X h hT hb hbs hR hl hA hM hAM hB hN h1 h2 h3

theorem one_bit (l : List Bool) : val (l.take 1) = 0 ∨ val (l.take 1) = 1 := by have := val_take_lt l 1; omega
theorem getE_some {l : List Bool} {a b X A B c : Nat} (h : getE l a b = some (X, A, B, c)) :
    (1 ≤ l.length ∧ val (l.take 1) = 0 ∧ X = 0 ∧ A = a ∧ B = b ∧ c = 1) ∨
    (2 ≤ l.length ∧ val (l.take 1) = 1 ∧ val ((l.drop 1).take 1) = 0 ∧ a ≠ 64 ∧ getN (l.drop 2) a b = some X ∧ A = a ∧ B = b ∧ c = 2 + (64 - a - b)) ∨
    (2 ≤ l.length ∧ val (l.take 1) = 1 ∧ val ((l.drop 1).take 1) = 1 ∧ ∃ c', getF (l.drop 2) a b = some (X, A, B, c') ∧ c = 2 + c') := by
  unfold getE at h
  rcases one_bit l with e0 | e0 <;> rcases one_bit (l.drop 1) with e1 | e1 <;> rw [e0, e1] at h <;> by_cases h1 : l.length < 1 <;> by_cases h2 : l.length < 2 <;> simp only [h1, h2, if_true, if_false, Nat.one_ne_zero] at h <;> try (cases h; done)
  all_goals first
    | (injection h with h; simp only [Prod.mk.injEq] at h; obtain ⟨rfl, rfl, rfl, rfl⟩ := h; exact .inl ⟨by omega, e0, rfl, rfl, rfl, rfl⟩)
    | (by_cases h3 : a = 64
       · rw [if_pos h3] at h; cases h
       · rw [if_neg h3] at h
         obtain ⟨x, hx, e⟩ := Option.map_eq_some_iff.1 h
         simp only [Prod.mk.injEq] at e
         obtain ⟨rfl, rfl, rfl, rfl⟩ := e
         exact .inr (.inl ⟨by omega, e0, e1, h3, hx, rfl, rfl, rfl⟩))
    | (obtain ⟨⟨x, y, z, c'⟩, hx, e⟩ := Option.map_eq_some_iff.1 h
       simp only [Prod.mk.injEq] at e
       obtain ⟨rfl, rfl, rfl, rfl⟩ := e
       exact .inr (.inr ⟨by omega, e0, e1, c', hx, rfl⟩))
theorem getE_none {l : List Bool} {a b : Nat} (h : getE l a b = none) :
    l.length < 1 ∨ (1 ≤ l.length ∧ l.length < 2 ∧ val (l.take 1) = 1) ∨
    (2 ≤ l.length ∧ val (l.take 1) = 1 ∧ val ((l.drop 1).take 1) = 0 ∧ (a = 64 ∨ (a ≠ 64 ∧ getN (l.drop 2) a b = none))) ∨
    (2 ≤ l.length ∧ val (l.take 1) = 1 ∧ val ((l.drop 1).take 1) = 1 ∧ getF (l.drop 2) a b = none) := by
  unfold getE at h
  rcases one_bit l with e0 | e0 <;> rcases one_bit (l.drop 1) with e1 | e1 <;> rw [e0, e1] at h <;> by_cases h1 : l.length < 1 <;> by_cases h2 : l.length < 2 <;> simp only [h1, h2, if_true, if_false, Nat.one_ne_zero] at h <;> try (cases h; done)
  all_goals first
    | exact .inl h1
    | exact .inr (.inl ⟨by omega, h2, e0⟩)
    | (refine .inr (.inr (.inl ⟨by omega, e0, e1, ?_⟩))
       by_cases h3 : a = 64
       · exact .inl h3
       · rw [if_neg h3] at h
         exact .inr ⟨h3, Option.map_eq_none_iff.1 h⟩)
    | exact .inr (.inr (.inr ⟨by omega, e0, e1, Option.map_eq_none_iff.1 h⟩))

set_option maxHeartbeats 3200000 in
theorem diff_a (w : World) (base g : Nat) (R : Option Nat) (bs : List Int) (p a b : Nat) (h : Rd w base g R bs p) (hT : XorTab w) (hb : 2 ≤ base) (hbs : ∀ x ∈ bs, Byte x) (hR : ∀ k, R = some k → k < w.heap.size) (hl : 1 ≤ ((unB bs).drop p).length) (hV : val (((unB bs).drop p).take 1) = 0) :
    Calls Tryd.prog 75 #[.pointer (some ⟨g, 0, none⟩), .agg #[.int .i64 (a : Nat), .int .i64 (b : Nat)]] w fun e w' => e = .returned (.tuple #[.int .u64 0, .agg #[.int .i64 (a : Nat), .int .i64 (b : Nat)], .int .i64 0]) ∧ Rd w' base g R bs (p + 1) ∧ Touch g none w w' := by
  obtain ⟨S0, R0, B0⟩ := win_new w (.int .i64 (a : Nat)) (.int .i64 (b : Nat)) (.int .i64 0) (.int .i64 0) 113 113
  have hlt := h.lt
  have hg2 : 2 ≤ g := Nat.le_trans hb h.1
  have HBS := Lib.hid hbs
  have HR := Lib.hid hR
  have nR : R ≠ some (w.heap.size + 1) := fun e => by have := hR _ e; omega
  have NR := Lib.hid nR
  have hpl := h.place
  clear nR hR hbs
  rw [rest_len] at hl
  have HV := Lib.hid hV
  clear hV
  go_enter Tryd.func75, Tryd.ntmps75
  have A3 : Below ((w.alloc (.cells #[.int .i64 (a : Nat), .int .i64 (b : Nat)] 113)).alloc (.cells #[.int .i64 0, .int .i64 0] 113)).heap.size ((w.alloc (.cells #[.int .i64 (a : Nat), .int .i64 (b : Nat)] 113)).alloc (.cells #[.int .i64 0, .int .i64 0] 113)) (((w.alloc (.cells #[.int .i64 (a : Nat), .int .i64 (b : Nat)] 113)).alloc (.cells #[.int .i64 0, .int .i64 0] 113)).alloc (.cells #[.int .i64 1] 3)) := (Below.refl _ _).alloc (Nat.le_refl _) _
  have Z3 := SizesAt.one (n := 1) (Blk.new ((w.alloc (.cells #[.int .i64 (a : Nat), .int .i64 (b : Nat)] 113)).alloc (.cells #[.int .i64 0, .int .i64 0] 113)) 3 #[.int .i64 1]) rfl
  have S3 := S0.below A3
  have R3 := R0.below A3
  have H3 := below_more B0 A3
  have D3 := h.below H3
  have hsz : ((w.alloc (.cells #[.int .i64 (a : Nat), .int .i64 (b : Nat)] 113)).alloc (.cells #[.int .i64 0, .int .i64 0] 113)).heap.size = w.heap.size + 2 := by simp
  rw [hsz] at Z3
  have hz3 : w.heap.size + 2 < (((w.alloc (.cells #[.int .i64 (a : Nat), .int .i64 (b : Nat)] 113)).alloc (.cells #[.int .i64 0, .int .i64 0] 113)).alloc (.cells #[.int .i64 1] 3)).heap.size := by simp
  clear hsz A3 S0 R0 B0
  go_wp2_with fail
  generalize ((w.alloc (.cells #[.int .i64 (a : Nat), .int .i64 (b : Nat)] 113)).alloc (.cells #[.int .i64 0, .int .i64 0] 113)).alloc (.cells #[.int .i64 1] 3) = w3 at *
  have hqg : w.heap.size + 2 ≠ g := by omega
  have HRq : ∀ k, R = some k → k < w3.heap.size := fun k hk => by have := HR.out k hk; omega
  refine (read_ok w3 base g (w.heap.size + 2) R bs p 1 [1] D3 HBS.out Z3 hz3 hqg (by simp) (by simp) (by simp) (by simp; omega) HRq).mono ?_
  rw [show readV bs p [1] = [0] by simp [readV, HV.out], show p + [1].sum = p + 1 by simp]
  rintro e w4 ⟨v, rfl, O4, D4, T4⟩
  obtain ⟨r, cq, rfl, hc1, hc2, hr1, hr2, hr3⟩ := own_one O4
  have S4 := S3.touch T4 (by omega) (by simp)
  have R4 := R3.touch T4 (by omega) (by simp)
  have K4 := (Touch.of_below H3 g none).trans T4 (.inl rfl)
  have hz4 := T4.size
  clear O4 T4 D3 S3 R3 H3 HRq Z3
  go_wp2_with fail
  refine wp_region_noPanic ?_
  refine wp_region_held_drew (S := fun W : World => W.cell? ⟨w.heap.size, 0, none⟩ = some (.int .i64 (a : Nat)) ∧ W.cell? ⟨w.heap.size, 1, none⟩ = some (.int .i64 (b : Nat))) (by kernel_rfl) ((S4.drewN 1).cells2) (fun hSt => ?_)
  have Sa : Blk w4.drew w.heap.size 113 _ := S4
  have Ra : Blk w4.drew (w.heap.size + 1) 113 _ := R4
  have Da : Rd w4.drew base g R bs _ := D4
  have Ka : Touch g none w w4.drew := K4.drewN 1
  clear R4 S4 D4 K4
  generalize w4.drew = wa at *
  refine wpAnyH_picks [0, 1, 2] 2 (by rfl) (by kernel_rfl) (by kernel_rfl) (by kernel_rfl) (fun _ _ _ _ _ h => h) (by assumption) ?_
  simp only [picks, List.drop_succ_cons, List.drop_zero, List.take_succ_cons, List.take_zero, List.cons_append, List.nil_append]
  repeat (first
    | (refine wpY_skip (by rfl) ?_; simp only [Act.put, List.setIfInBounds_toArray, List.set_cons_zero, List.set_cons_succ])
    | (refine wpY_want (v := ?_) (by rfl) (fun W hW => ?_) ?_; rotate_left; (obtain ⟨hW0, hW1⟩ := hW; go_simp; try with_reducible rfl); simp only [Act.put, List.setIfInBounds_toArray, List.set_cons_zero, List.set_cons_succ]))
  refine wpY_nil ?_
  obtain ⟨d0, d1⟩ := Ra.cells2
  have f0 := Ra.frozen 0
  have f1 := Ra.frozen 1
  refine wpAnyH_one 3 1 (by rfl) (by rfl) (by kernel_rfl) (fun K hK => ?_)
  go_simp
  refine hK.out _ _ ((Sa.farSet2 (g' := w.heap.size + 1) (by omega) _ _).cells2) (fun hSt => ?_)
  clear hK K
  try simp only [Act.put, List.setIfInBounds_toArray, List.set_cons_zero, List.set_cons_succ]
  refine wpAnyH_picks [4] 0 (by rfl) (by kernel_rfl) (by kernel_rfl) (by kernel_rfl) (fun _ _ _ _ _ h => h) (by assumption) ?_
  simp only [picks, List.drop_succ_cons, List.drop_zero, List.take_succ_cons, List.take_zero, List.cons_append, List.nil_append]
  repeat (first
    | (refine wpY_skip (by rfl) ?_; simp only [Act.put, List.setIfInBounds_toArray, List.set_cons_zero, List.set_cons_succ])
    | (refine wpY_want (v := ?_) (by rfl) (fun W hW => ?_) ?_; rotate_left; (go_simp; try with_reducible rfl); simp only [Act.put, List.setIfInBounds_toArray, List.set_cons_zero, List.set_cons_succ]))
  refine wpY_nil ?_
  refine wpAnyH_done (by kernel_rfl) ?_ _
  refine NoPanic.normal ?_
  go_wp2_with fail
  obtain ⟨q0, q1⟩ := (Ra.set2 (.int .i64 (a : Nat)) (.int .i64 (b : Nat))).cells2
  refine bodyPost_ret (v := .tuple #[.int .u64 0, .agg #[.int .i64 (a : Nat), .int .i64 (b : Nat)], .int .i64 0]) (by simp [results, Tryd.results75, go_sem, q0, q1]) rfl ?_
  exact ⟨rfl, Da.set2 (by omega) NR.out _ _, Ka.set2 (by omega) _ _⟩

set_option maxHeartbeats 3200000 in
theorem diff_n0 (w : World) (base g : Nat) (R : Option Nat) (bs : List Int) (p a b : Nat) (h : Rd w base g R bs p) (hT : XorTab w) (hb : 2 ≤ base) (hbs : ∀ x ∈ bs, Byte x) (hR : ∀ k, R = some k → k < w.heap.size) (hl : ((unB bs).drop p).length < 1) :
    Calls Tryd.prog 75 #[.pointer (some ⟨g, 0, none⟩), .agg #[.int .i64 (a : Nat), .int .i64 (b : Nat)]] w fun e w' => ∃ x a1 b1 : Int, e = .returned (.tuple #[.int .u64 x, .agg #[.int .i64 a1, .int .i64 b1], .int .i64 50]) ∧ RdS w' base g R bs ∧ Touch g none w w' := by
  obtain ⟨S0, R0, B0⟩ := win_new w (.int .i64 (a : Nat)) (.int .i64 (b : Nat)) (.int .i64 0) (.int .i64 0) 113 113
  have hlt := h.lt
  have hg2 : 2 ≤ g := Nat.le_trans hb h.1
  have HBS := Lib.hid hbs
  have HR := Lib.hid hR
  have nR : R ≠ some (w.heap.size + 1) := fun e => by have := hR _ e; omega
  have NR := Lib.hid nR
  have hpl := h.place
  clear nR hR hbs
  rw [rest_len] at hl
  go_enter Tryd.func75, Tryd.ntmps75
  have A3 : Below ((w.alloc (.cells #[.int .i64 (a : Nat), .int .i64 (b : Nat)] 113)).alloc (.cells #[.int .i64 0, .int .i64 0] 113)).heap.size ((w.alloc (.cells #[.int .i64 (a : Nat), .int .i64 (b : Nat)] 113)).alloc (.cells #[.int .i64 0, .int .i64 0] 113)) (((w.alloc (.cells #[.int .i64 (a : Nat), .int .i64 (b : Nat)] 113)).alloc (.cells #[.int .i64 0, .int .i64 0] 113)).alloc (.cells #[.int .i64 1] 3)) := (Below.refl _ _).alloc (Nat.le_refl _) _
  have Z3 := SizesAt.one (n := 1) (Blk.new ((w.alloc (.cells #[.int .i64 (a : Nat), .int .i64 (b : Nat)] 113)).alloc (.cells #[.int .i64 0, .int .i64 0] 113)) 3 #[.int .i64 1]) rfl
  have S3 := S0.below A3
  have R3 := R0.below A3
  have H3 := below_more B0 A3
  have D3 := h.below H3
  have hsz : ((w.alloc (.cells #[.int .i64 (a : Nat), .int .i64 (b : Nat)] 113)).alloc (.cells #[.int .i64 0, .int .i64 0] 113)).heap.size = w.heap.size + 2 := by simp
  rw [hsz] at Z3
  have hz3 : w.heap.size + 2 < (((w.alloc (.cells #[.int .i64 (a : Nat), .int .i64 (b : Nat)] 113)).alloc (.cells #[.int .i64 0, .int .i64 0] 113)).alloc (.cells #[.int .i64 1] 3)).heap.size := by simp
  clear hsz A3 S0 R0 B0
  go_wp2_with fail
  generalize ((w.alloc (.cells #[.int .i64 (a : Nat), .int .i64 (b : Nat)] 113)).alloc (.cells #[.int .i64 0, .int .i64 0] 113)).alloc (.cells #[.int .i64 1] 3) = w3 at *
  have hqg : w.heap.size + 2 ≠ g := by omega
  have HRq : ∀ k, R = some k → k < w3.heap.size := fun k hk => by have := HR.out k hk; omega
  refine (read_no w3 base g (w.heap.size + 2) R bs p 1 [1] D3 HBS.out Z3 hz3 hqg (by simp) (by simp) (by simp) (by simp; omega) HRq).mono ?_
  rintro e w4 ⟨p4, rfl, D4, T4⟩
  have S4 := S3.touch T4 (by omega) (by simp)
  have R4 := R3.touch T4 (by omega) (by simp)
  have K4 := (Touch.of_below H3 g none).trans T4 (.inl rfl)
  clear T4 D3 S3 R3 H3 HRq Z3
  go_wp2_with fail
  refine wp_region_noPanic ?_
  refine wp_region_held_drew (S := fun W : World => W.cell? ⟨w.heap.size, 0, none⟩ = some (.int .i64 (a : Nat)) ∧ W.cell? ⟨w.heap.size, 1, none⟩ = some (.int .i64 (b : Nat))) (by kernel_rfl) ((S4.drewN 1).cells2) (fun hSt => ?_)
  have Sa : Blk w4.drew w.heap.size 113 _ := S4
  have Ra : Blk w4.drew (w.heap.size + 1) 113 _ := R4
  have Da : Rd w4.drew base g R bs _ := D4
  have Ka : Touch g none w w4.drew := K4.drewN 1
  clear R4 S4 D4 K4
  generalize w4.drew = wa at *
  refine wpAnyH_picks [0, 1, 2] 2 (by rfl) (by kernel_rfl) (by kernel_rfl) (by kernel_rfl) (fun _ _ _ _ _ h => h) (by assumption) ?_
  simp only [picks, List.drop_succ_cons, List.drop_zero, List.take_succ_cons, List.take_zero, List.cons_append, List.nil_append]
  repeat (first
    | (refine wpY_skip (by rfl) ?_; simp only [Act.put, List.setIfInBounds_toArray, List.set_cons_zero, List.set_cons_succ])
    | (refine wpY_want (v := ?_) (by rfl) (fun W hW => ?_) ?_; rotate_left; (obtain ⟨hW0, hW1⟩ := hW; go_simp; try with_reducible rfl); simp only [Act.put, List.setIfInBounds_toArray, List.set_cons_zero, List.set_cons_succ]))
  refine wpY_nil ?_
  obtain ⟨d0, d1⟩ := Ra.cells2
  have f0 := Ra.frozen 0
  have f1 := Ra.frozen 1
  refine wpAnyH_one 3 1 (by rfl) (by rfl) (by kernel_rfl) (fun K hK => ?_)
  go_simp
  refine hK.out _ _ ((Sa.farSet2 (g' := w.heap.size + 1) (by omega) _ _).cells2) (fun hSt => ?_)
  clear hK K
  try simp only [Act.put, List.setIfInBounds_toArray, List.set_cons_zero, List.set_cons_succ]
  refine wpAnyH_picks [4] 0 (by rfl) (by kernel_rfl) (by kernel_rfl) (by kernel_rfl) (fun _ _ _ _ _ h => h) (by assumption) ?_
  simp only [picks, List.drop_succ_cons, List.drop_zero, List.take_succ_cons, List.take_zero, List.cons_append, List.nil_append]
  repeat (first
    | (refine wpY_skip (by rfl) ?_; simp only [Act.put, List.setIfInBounds_toArray, List.set_cons_zero, List.set_cons_succ])
    | (refine wpY_want (v := ?_) (by rfl) (fun W hW => ?_) ?_; rotate_left; (go_simp; try with_reducible rfl); simp only [Act.put, List.setIfInBounds_toArray, List.set_cons_zero, List.set_cons_succ]))
  refine wpY_nil ?_
  refine wpAnyH_done (by kernel_rfl) ?_ _
  refine NoPanic.normal ?_
  go_wp2_with fail
  obtain ⟨q0, q1⟩ := (Ra.set2 (.int .i64 (a : Nat)) (.int .i64 (b : Nat))).cells2
  refine bodyPost_ret (v := .tuple #[.int .u64 0, .agg #[.int .i64 (a : Nat), .int .i64 (b : Nat)], .int .i64 50]) (by simp [results, Tryd.results75, go_sem, q0, q1]) rfl ?_
  exact ⟨_, _, _, rfl, ⟨_, Da.set2 (by omega) NR.out _ _⟩, Ka.set2 (by omega) _ _⟩

set_option maxHeartbeats 3200000 in
theorem diff_n1 (w : World) (base g : Nat) (R : Option Nat) (bs : List Int) (p a b : Nat) (h : Rd w base g R bs p) (hT : XorTab w) (hb : 2 ≤ base) (hbs : ∀ x ∈ bs, Byte x) (hR : ∀ k, R = some k → k < w.heap.size) (hl : 1 ≤ ((unB bs).drop p).length) (hl2 : ((unB bs).drop p).length < 2) (hV : val (((unB bs).drop p).take 1) = 1) :
    Calls Tryd.prog 75 #[.pointer (some ⟨g, 0, none⟩), .agg #[.int .i64 (a : Nat), .int .i64 (b : Nat)]] w fun e w' => ∃ x a1 b1 : Int, e = .returned (.tuple #[.int .u64 x, .agg #[.int .i64 a1, .int .i64 b1], .int .i64 50]) ∧ RdS w' base g R bs ∧ Touch g none w w' := by
  obtain ⟨S0, R0, B0⟩ := win_new w (.int .i64 (a : Nat)) (.int .i64 (b : Nat)) (.int .i64 0) (.int .i64 0) 113 113
  have hlt := h.lt
  have hg2 : 2 ≤ g := Nat.le_trans hb h.1
  have HBS := Lib.hid hbs
  have HR := Lib.hid hR
  have nR : R ≠ some (w.heap.size + 1) := fun e => by have := hR _ e; omega
  have NR := Lib.hid nR
  have hpl := h.place
  clear nR hR hbs
  rw [rest_len] at hl2
  rw [rest_len] at hl
  have HV := Lib.hid hV
  clear hV
  go_enter Tryd.func75, Tryd.ntmps75
  have A3 : Below ((w.alloc (.cells #[.int .i64 (a : Nat), .int .i64 (b : Nat)] 113)).alloc (.cells #[.int .i64 0, .int .i64 0] 113)).heap.size ((w.alloc (.cells #[.int .i64 (a : Nat), .int .i64 (b : Nat)] 113)).alloc (.cells #[.int .i64 0, .int .i64 0] 113)) (((w.alloc (.cells #[.int .i64 (a : Nat), .int .i64 (b : Nat)] 113)).alloc (.cells #[.int .i64 0, .int .i64 0] 113)).alloc (.cells #[.int .i64 1] 3)) := (Below.refl _ _).alloc (Nat.le_refl _) _
  have Z3 := SizesAt.one (n := 1) (Blk.new ((w.alloc (.cells #[.int .i64 (a : Nat), .int .i64 (b : Nat)] 113)).alloc (.cells #[.int .i64 0, .int .i64 0] 113)) 3 #[.int .i64 1]) rfl
  have S3 := S0.below A3
  have R3 := R0.below A3
  have H3 := below_more B0 A3
  have D3 := h.below H3
  have hsz : ((w.alloc (.cells #[.int .i64 (a : Nat), .int .i64 (b : Nat)] 113)).alloc (.cells #[.int .i64 0, .int .i64 0] 113)).heap.size = w.heap.size + 2 := by simp
  rw [hsz] at Z3
  have hz3 : w.heap.size + 2 < (((w.alloc (.cells #[.int .i64 (a : Nat), .int .i64 (b : Nat)] 113)).alloc (.cells #[.int .i64 0, .int .i64 0] 113)).alloc (.cells #[.int .i64 1] 3)).heap.size := by simp
  clear hsz A3 S0 R0 B0
  go_wp2_with fail
  generalize ((w.alloc (.cells #[.int .i64 (a : Nat), .int .i64 (b : Nat)] 113)).alloc (.cells #[.int .i64 0, .int .i64 0] 113)).alloc (.cells #[.int .i64 1] 3) = w3 at *
  have hqg : w.heap.size + 2 ≠ g := by omega
  have HRq : ∀ k, R = some k → k < w3.heap.size := fun k hk => by have := HR.out k hk; omega
  refine (read_ok w3 base g (w.heap.size + 2) R bs p 1 [1] D3 HBS.out Z3 hz3 hqg (by simp) (by simp) (by simp) (by simp; omega) HRq).mono ?_
  rw [show readV bs p [1] = [1] by simp [readV, HV.out], show p + [1].sum = p + 1 by simp]
  rintro e w4 ⟨v, rfl, O4, D4, T4⟩
  obtain ⟨r, cq, rfl, hc1, hc2, hr1, hr2, hr3⟩ := own_one O4
  have S4 := S3.touch T4 (by omega) (by simp)
  have R4 := R3.touch T4 (by omega) (by simp)
  have K4 := (Touch.of_below H3 g none).trans T4 (.inl rfl)
  have hz4 := T4.size
  clear O4 T4 D3 S3 R3 H3 HRq Z3
  have A5 : Below w4.heap.size w4 (w4.alloc (.cells #[.int .i64 1] 3)) := (Below.refl _ w4).alloc (Nat.le_refl _) _
  have Z5 := SizesAt.one (n := 1) (Blk.new w4 3 #[.int .i64 1]) rfl
  have S5 := S4.below A5
  have R5 := R4.below A5
  have D5 := D4.below A5
  have K5 := K4.trans (Touch.of_below A5 g none) (.inl rfl)
  have hz5 : w4.heap.size < (w4.alloc (.cells #[.int .i64 1] 3)).heap.size := by simp
  clear S4 R4 D4 K4
  go_wp2_with fail
  obtain ⟨y, hy⟩ : ∃ y, w4.heap.size = y := ⟨_, rfl⟩
  rw [hy] at Z5 hz5 hz4 hr2 ⊢
  generalize w4.alloc (.cells #[.int .i64 1] 3) = w5 at *
  clear A5 hr3 hy
  have hyg : y ≠ g := by omega
  have HRy : ∀ k, R = some k → k < w5.heap.size := fun k hk => by have := HR.out k hk; omega
  refine (read_no w5 base g y R bs (p + 1) 1 [1] D5 HBS.out Z5 hz5 hyg (by simp) (by simp) (by simp) (by simp; omega) HRy).mono ?_
  rintro e w6 ⟨p6, rfl, D6, T6⟩
  have S6 := S5.touch T6 (by omega) (by simp)
  have R6 := R5.touch T6 (by omega) (by simp)
  have K6 := K5.trans T6 (.inl rfl)
  clear T6 D5 S5 R5 K5 HRy Z5
  go_wp2_with fail
  refine wp_region_noPanic ?_
  refine wp_region_held_drew (S := fun W : World => W.cell? ⟨w.heap.size, 0, none⟩ = some (.int .i64 (a : Nat)) ∧ W.cell? ⟨w.heap.size, 1, none⟩ = some (.int .i64 (b : Nat))) (by kernel_rfl) ((S6.drewN 1).cells2) (fun hSt => ?_)
  have Sa : Blk w6.drew w.heap.size 113 _ := S6
  have Ra : Blk w6.drew (w.heap.size + 1) 113 _ := R6
  have Da : Rd w6.drew base g R bs _ := D6
  have Ka : Touch g none w w6.drew := K6.drewN 1
  clear R6 S6 D6 K6
  generalize w6.drew = wa at *
  refine wpAnyH_picks [0, 1, 2] 2 (by rfl) (by kernel_rfl) (by kernel_rfl) (by kernel_rfl) (fun _ _ _ _ _ h => h) (by assumption) ?_
  simp only [picks, List.drop_succ_cons, List.drop_zero, List.take_succ_cons, List.take_zero, List.cons_append, List.nil_append]
  repeat (first
    | (refine wpY_skip (by rfl) ?_; simp only [Act.put, List.setIfInBounds_toArray, List.set_cons_zero, List.set_cons_succ])
    | (refine wpY_want (v := ?_) (by rfl) (fun W hW => ?_) ?_; rotate_left; (obtain ⟨hW0, hW1⟩ := hW; go_simp; try with_reducible rfl); simp only [Act.put, List.setIfInBounds_toArray, List.set_cons_zero, List.set_cons_succ]))
  refine wpY_nil ?_
  obtain ⟨d0, d1⟩ := Ra.cells2
  have f0 := Ra.frozen 0
  have f1 := Ra.frozen 1
  refine wpAnyH_one 3 1 (by rfl) (by rfl) (by kernel_rfl) (fun K hK => ?_)
  go_simp
  refine hK.out _ _ ((Sa.farSet2 (g' := w.heap.size + 1) (by omega) _ _).cells2) (fun hSt => ?_)
  clear hK K
  try simp only [Act.put, List.setIfInBounds_toArray, List.set_cons_zero, List.set_cons_succ]
  refine wpAnyH_picks [4] 0 (by rfl) (by kernel_rfl) (by kernel_rfl) (by kernel_rfl) (fun _ _ _ _ _ h => h) (by assumption) ?_
  simp only [picks, List.drop_succ_cons, List.drop_zero, List.take_succ_cons, List.take_zero, List.cons_append, List.nil_append]
  repeat (first
    | (refine wpY_skip (by rfl) ?_; simp only [Act.put, List.setIfInBounds_toArray, List.set_cons_zero, List.set_cons_succ])
    | (refine wpY_want (v := ?_) (by rfl) (fun W hW => ?_) ?_; rotate_left; (go_simp; try with_reducible rfl); simp only [Act.put, List.setIfInBounds_toArray, List.set_cons_zero, List.set_cons_succ]))
  refine wpY_nil ?_
  refine wpAnyH_done (by kernel_rfl) ?_ _
  refine NoPanic.normal ?_
  go_wp2_with fail
  obtain ⟨q0, q1⟩ := (Ra.set2 (.int .i64 (a : Nat)) (.int .i64 (b : Nat))).cells2
  refine bodyPost_ret (v := .tuple #[.int .u64 0, .agg #[.int .i64 (a : Nat), .int .i64 (b : Nat)], .int .i64 50]) (by simp [results, Tryd.results75, go_sem, q0, q1]) rfl ?_
  exact ⟨_, _, _, rfl, ⟨_, Da.set2 (by omega) NR.out _ _⟩, Ka.set2 (by omega) _ _⟩

set_option maxHeartbeats 3200000 in
theorem diff_n2 (w : World) (base g : Nat) (R : Option Nat) (bs : List Int) (p a b : Nat) (h : Rd w base g R bs p) (hT : XorTab w) (hb : 2 ≤ base) (hbs : ∀ x ∈ bs, Byte x) (hR : ∀ k, R = some k → k < w.heap.size) (hl : 2 ≤ ((unB bs).drop p).length) (hV : val (((unB bs).drop p).take 1) = 1) (hU : val ((((unB bs).drop p).drop 1).take 1) = 0) (ha : a = 64) :
    Calls Tryd.prog 75 #[.pointer (some ⟨g, 0, none⟩), .agg #[.int .i64 (a : Nat), .int .i64 (b : Nat)]] w fun e w' => ∃ x a1 b1 : Int, e = .returned (.tuple #[.int .u64 x, .agg #[.int .i64 a1, .int .i64 b1], .int .i64 50]) ∧ RdS w' base g R bs ∧ Touch g none w w' := by
  obtain ⟨S0, R0, B0⟩ := win_new w (.int .i64 (a : Nat)) (.int .i64 (b : Nat)) (.int .i64 0) (.int .i64 0) 113 113
  have hlt := h.lt
  have hg2 : 2 ≤ g := Nat.le_trans hb h.1
  have HBS := Lib.hid hbs
  have HR := Lib.hid hR
  have nR : R ≠ some (w.heap.size + 1) := fun e => by have := hR _ e; omega
  have NR := Lib.hid nR
  have hpl := h.place
  clear nR hR hbs
  rw [rest_len] at hl
  have HV := Lib.hid hV
  clear hV
  rw [List.drop_drop] at hU
  have HU := Lib.hid hU
  clear hU
  have e64 : ((a : Int) == 64) = true ∧ (a == 64) = true := ⟨by simp [ha], by simp [ha]⟩
  obtain ⟨e64, e64'⟩ := e64
  clear ha
  go_enter Tryd.func75, Tryd.ntmps75
  have A3 : Below ((w.alloc (.cells #[.int .i64 (a : Nat), .int .i64 (b : Nat)] 113)).alloc (.cells #[.int .i64 0, .int .i64 0] 113)).heap.size ((w.alloc (.cells #[.int .i64 (a : Nat), .int .i64 (b : Nat)] 113)).alloc (.cells #[.int .i64 0, .int .i64 0] 113)) (((w.alloc (.cells #[.int .i64 (a : Nat), .int .i64 (b : Nat)] 113)).alloc (.cells #[.int .i64 0, .int .i64 0] 113)).alloc (.cells #[.int .i64 1] 3)) := (Below.refl _ _).alloc (Nat.le_refl _) _
  have Z3 := SizesAt.one (n := 1) (Blk.new ((w.alloc (.cells #[.int .i64 (a : Nat), .int .i64 (b : Nat)] 113)).alloc (.cells #[.int .i64 0, .int .i64 0] 113)) 3 #[.int .i64 1]) rfl
  have S3 := S0.below A3
  have R3 := R0.below A3
  have H3 := below_more B0 A3
  have D3 := h.below H3
  have hsz : ((w.alloc (.cells #[.int .i64 (a : Nat), .int .i64 (b : Nat)] 113)).alloc (.cells #[.int .i64 0, .int .i64 0] 113)).heap.size = w.heap.size + 2 := by simp
  rw [hsz] at Z3
  have hz3 : w.heap.size + 2 < (((w.alloc (.cells #[.int .i64 (a : Nat), .int .i64 (b : Nat)] 113)).alloc (.cells #[.int .i64 0, .int .i64 0] 113)).alloc (.cells #[.int .i64 1] 3)).heap.size := by simp
  clear hsz A3 S0 R0 B0
  go_wp2_with fail
  generalize ((w.alloc (.cells #[.int .i64 (a : Nat), .int .i64 (b : Nat)] 113)).alloc (.cells #[.int .i64 0, .int .i64 0] 113)).alloc (.cells #[.int .i64 1] 3) = w3 at *
  have hqg : w.heap.size + 2 ≠ g := by omega
  have HRq : ∀ k, R = some k → k < w3.heap.size := fun k hk => by have := HR.out k hk; omega
  refine (read_ok w3 base g (w.heap.size + 2) R bs p 1 [1] D3 HBS.out Z3 hz3 hqg (by simp) (by simp) (by simp) (by simp; omega) HRq).mono ?_
  rw [show readV bs p [1] = [1] by simp [readV, HV.out], show p + [1].sum = p + 1 by simp]
  rintro e w4 ⟨v, rfl, O4, D4, T4⟩
  obtain ⟨r, cq, rfl, hc1, hc2, hr1, hr2, hr3⟩ := own_one O4
  have S4 := S3.touch T4 (by omega) (by simp)
  have R4 := R3.touch T4 (by omega) (by simp)
  have K4 := (Touch.of_below H3 g none).trans T4 (.inl rfl)
  have hz4 := T4.size
  clear O4 T4 D3 S3 R3 H3 HRq Z3
  have A5 : Below w4.heap.size w4 (w4.alloc (.cells #[.int .i64 1] 3)) := (Below.refl _ w4).alloc (Nat.le_refl _) _
  have Z5 := SizesAt.one (n := 1) (Blk.new w4 3 #[.int .i64 1]) rfl
  have S5 := S4.below A5
  have R5 := R4.below A5
  have D5 := D4.below A5
  have K5 := K4.trans (Touch.of_below A5 g none) (.inl rfl)
  have hz5 : w4.heap.size < (w4.alloc (.cells #[.int .i64 1] 3)).heap.size := by simp
  clear S4 R4 D4 K4
  go_wp2_with fail
  obtain ⟨y, hy⟩ : ∃ y, w4.heap.size = y := ⟨_, rfl⟩
  rw [hy] at Z5 hz5 hz4 hr2 ⊢
  generalize w4.alloc (.cells #[.int .i64 1] 3) = w5 at *
  clear A5 hr3 hy
  have hyg : y ≠ g := by omega
  have HRy : ∀ k, R = some k → k < w5.heap.size := fun k hk => by have := HR.out k hk; omega
  refine (read_ok w5 base g y R bs (p + 1) 1 [1] D5 HBS.out Z5 hz5 hyg (by simp) (by simp) (by simp) (by simp; omega) HRy).mono ?_
  rw [show readV bs (p + 1) [1] = [0] by simp [readV, HU.out], show p + 1 + [1].sum = p + 2 by simp]
  rintro e w6 ⟨v2, rfl, O6, D6, T6⟩
  obtain ⟨r2, c2, rfl, hd1, hd2, hs1, hs2, hs3⟩ := own_one O6
  have S6 := S5.touch T6 (by omega) (by simp)
  have R6 := R5.touch T6 (by omega) (by simp)
  have K6 := K5.trans T6 (.inl rfl)
  obtain ⟨s0, s1⟩ := S6.cells2
  clear O6 T6 D5 S5 R5 K5 HRy Z5
  go_wp2_with fail
  refine wp_region_noPanic ?_
  refine wp_region_held_drew (S := fun W : World => W.cell? ⟨w.heap.size, 0, none⟩ = some (.int .i64 (a : Nat)) ∧ W.cell? ⟨w.heap.size, 1, none⟩ = some (.int .i64 (b : Nat))) (by kernel_rfl) ((S6.drewN 1).cells2) (fun hSt => ?_)
  have Sa : Blk w6.drew w.heap.size 113 _ := S6
  have Ra : Blk w6.drew (w.heap.size + 1) 113 _ := R6
  have Da : Rd w6.drew base g R bs _ := D6
  have Ka : Touch g none w w6.drew := K6.drewN 1
  clear R6 S6 D6 K6
  generalize w6.drew = wa at *
  refine wpAnyH_picks [0, 1] 2 (by rfl) (by kernel_rfl) (by kernel_rfl) (by kernel_rfl) (fun _ _ _ _ _ h => h) (by assumption) ?_
  simp only [picks, List.drop_succ_cons, List.drop_zero, List.take_succ_cons, List.take_zero, List.cons_append, List.nil_append]
  repeat (first
    | (refine wpY_skip (by rfl) ?_; simp only [Act.put, List.setIfInBounds_toArray, List.set_cons_zero, List.set_cons_succ])
    | (refine wpY_want (v := ?_) (by rfl) (fun W hW => ?_) ?_; rotate_left; (obtain ⟨hW0, hW1⟩ := hW; go_simp; try with_reducible rfl); simp only [Act.put, List.setIfInBounds_toArray, List.set_cons_zero, List.set_cons_succ]))
  refine wpY_nil ?_
  obtain ⟨d0, d1⟩ := Ra.cells2
  have f0 := Ra.frozen 0
  have f1 := Ra.frozen 1
  refine wpAnyH_one 2 1 (by rfl) (by rfl) (by kernel_rfl) (fun K hK => ?_)
  go_simp
  refine hK.out _ _ ((Sa.farSet2 (g' := w.heap.size + 1) (by omega) _ _).cells2) (fun hSt => ?_)
  clear hK K
  try simp only [Act.put, List.setIfInBounds_toArray, List.set_cons_zero, List.set_cons_succ]
  refine wpAnyH_picks [3] 0 (by rfl) (by kernel_rfl) (by kernel_rfl) (by kernel_rfl) (fun _ _ _ _ _ h => h) (by assumption) ?_
  simp only [picks, List.drop_succ_cons, List.drop_zero, List.take_succ_cons, List.take_zero, List.cons_append, List.nil_append]
  repeat (first
    | (refine wpY_skip (by rfl) ?_; simp only [Act.put, List.setIfInBounds_toArray, List.set_cons_zero, List.set_cons_succ])
    | (refine wpY_want (v := ?_) (by rfl) (fun W hW => ?_) ?_; rotate_left; (go_simp; try with_reducible rfl); simp only [Act.put, List.setIfInBounds_toArray, List.set_cons_zero, List.set_cons_succ]))
  refine wpY_nil ?_
  refine wpAnyH_done (by kernel_rfl) ?_ _
  refine NoPanic.normal ?_
  go_wp2_with fail
  obtain ⟨q0, q1⟩ := (Ra.set2 (.int .i64 (a : Nat)) (.int .i64 (b : Nat))).cells2
  refine bodyPost_ret (v := .tuple #[.int .u64 0, .agg #[.int .i64 (a : Nat), .int .i64 (b : Nat)], .int .i64 50]) (by simp [results, Tryd.results75, go_sem, q0, q1]) rfl ?_
  exact ⟨_, _, _, rfl, ⟨_, Da.set2 (by omega) NR.out _ _⟩, Ka.set2 (by omega) _ _⟩

set_option maxHeartbeats 3200000 in
theorem diff_b (w : World) (base g : Nat) (R : Option Nat) (bs : List Int) (p a b : Nat) (X : Nat) (h : Rd w base g R bs p) (hT : XorTab w) (hb : 2 ≤ base) (hbs : ∀ x ∈ bs, Byte x) (hR : ∀ k, R = some k → k < w.heap.size) (hl : 2 ≤ ((unB bs).drop p).length) (hV : val (((unB bs).drop p).take 1) = 1) (hU : val ((((unB bs).drop p).drop 1).take 1) = 0) (ha : a ≠ 64) (hab : a + b ≤ 63) (hN : getN (((unB bs).drop p).drop 2) a b = some X) :
    Calls Tryd.prog 75 #[.pointer (some ⟨g, 0, none⟩), .agg #[.int .i64 (a : Nat), .int .i64 (b : Nat)]] w fun e w' => e = .returned (.tuple #[.int .u64 (X : Nat), .agg #[.int .i64 (a : Nat), .int .i64 (b : Nat)], .int .i64 0]) ∧ Rd w' base g R bs (p + (2 + (64 - a - b))) ∧ Touch g none w w' := by
  obtain ⟨S0, R0, B0⟩ := win_new w (.int .i64 (a : Nat)) (.int .i64 (b : Nat)) (.int .i64 0) (.int .i64 0) 113 113
  have hlt := h.lt
  have hg2 : 2 ≤ g := Nat.le_trans hb h.1
  have HBS := Lib.hid hbs
  have HR := Lib.hid hR
  have nR : R ≠ some (w.heap.size + 1) := fun e => by have := hR _ e; omega
  have NR := Lib.hid nR
  have hpl := h.place
  clear nR hR hbs
  rw [rest_len] at hl
  have HV := Lib.hid hV
  clear hV
  rw [List.drop_drop] at hU
  have HU := Lib.hid hU
  clear hU
  have e64 : ((a : Int) == 64) = false ∧ (a == 64) = false := ⟨beq_eq_false_iff_ne.2 (by omega), beq_eq_false_iff_ne.2 ha⟩
  obtain ⟨e64, e64'⟩ := e64
  clear ha
  rw [List.drop_drop] at hN
  have HN := Lib.hid hN
  clear hN
  go_enter Tryd.func75, Tryd.ntmps75
  have A3 : Below ((w.alloc (.cells #[.int .i64 (a : Nat), .int .i64 (b : Nat)] 113)).alloc (.cells #[.int .i64 0, .int .i64 0] 113)).heap.size ((w.alloc (.cells #[.int .i64 (a : Nat), .int .i64 (b : Nat)] 113)).alloc (.cells #[.int .i64 0, .int .i64 0] 113)) (((w.alloc (.cells #[.int .i64 (a : Nat), .int .i64 (b : Nat)] 113)).alloc (.cells #[.int .i64 0, .int .i64 0] 113)).alloc (.cells #[.int .i64 1] 3)) := (Below.refl _ _).alloc (Nat.le_refl _) _
  have Z3 := SizesAt.one (n := 1) (Blk.new ((w.alloc (.cells #[.int .i64 (a : Nat), .int .i64 (b : Nat)] 113)).alloc (.cells #[.int .i64 0, .int .i64 0] 113)) 3 #[.int .i64 1]) rfl
  have S3 := S0.below A3
  have R3 := R0.below A3
  have H3 := below_more B0 A3
  have D3 := h.below H3
  have hsz : ((w.alloc (.cells #[.int .i64 (a : Nat), .int .i64 (b : Nat)] 113)).alloc (.cells #[.int .i64 0, .int .i64 0] 113)).heap.size = w.heap.size + 2 := by simp
  rw [hsz] at Z3
  have hz3 : w.heap.size + 2 < (((w.alloc (.cells #[.int .i64 (a : Nat), .int .i64 (b : Nat)] 113)).alloc (.cells #[.int .i64 0, .int .i64 0] 113)).alloc (.cells #[.int .i64 1] 3)).heap.size := by simp
  clear hsz A3 S0 R0 B0
  go_wp2_with fail
  generalize ((w.alloc (.cells #[.int .i64 (a : Nat), .int .i64 (b : Nat)] 113)).alloc (.cells #[.int .i64 0, .int .i64 0] 113)).alloc (.cells #[.int .i64 1] 3) = w3 at *
  have hqg : w.heap.size + 2 ≠ g := by omega
  have HRq : ∀ k, R = some k → k < w3.heap.size := fun k hk => by have := HR.out k hk; omega
  refine (read_ok w3 base g (w.heap.size + 2) R bs p 1 [1] D3 HBS.out Z3 hz3 hqg (by simp) (by simp) (by simp) (by simp; omega) HRq).mono ?_
  rw [show readV bs p [1] = [1] by simp [readV, HV.out], show p + [1].sum = p + 1 by simp]
  rintro e w4 ⟨v, rfl, O4, D4, T4⟩
  obtain ⟨r, cq, rfl, hc1, hc2, hr1, hr2, hr3⟩ := own_one O4
  have S4 := S3.touch T4 (by omega) (by simp)
  have R4 := R3.touch T4 (by omega) (by simp)
  have K4 := (Touch.of_below H3 g none).trans T4 (.inl rfl)
  have hz4 := T4.size
  clear O4 T4 D3 S3 R3 H3 HRq Z3
  have A5 : Below w4.heap.size w4 (w4.alloc (.cells #[.int .i64 1] 3)) := (Below.refl _ w4).alloc (Nat.le_refl _) _
  have Z5 := SizesAt.one (n := 1) (Blk.new w4 3 #[.int .i64 1]) rfl
  have S5 := S4.below A5
  have R5 := R4.below A5
  have D5 := D4.below A5
  have K5 := K4.trans (Touch.of_below A5 g none) (.inl rfl)
  have hz5 : w4.heap.size < (w4.alloc (.cells #[.int .i64 1] 3)).heap.size := by simp
  clear S4 R4 D4 K4
  go_wp2_with fail
  obtain ⟨y, hy⟩ : ∃ y, w4.heap.size = y := ⟨_, rfl⟩
  rw [hy] at Z5 hz5 hz4 hr2 ⊢
  generalize w4.alloc (.cells #[.int .i64 1] 3) = w5 at *
  clear A5 hr3 hy
  have hyg : y ≠ g := by omega
  have HRy : ∀ k, R = some k → k < w5.heap.size := fun k hk => by have := HR.out k hk; omega
  refine (read_ok w5 base g y R bs (p + 1) 1 [1] D5 HBS.out Z5 hz5 hyg (by simp) (by simp) (by simp) (by simp; omega) HRy).mono ?_
  rw [show readV bs (p + 1) [1] = [0] by simp [readV, HU.out], show p + 1 + [1].sum = p + 2 by simp]
  rintro e w6 ⟨v2, rfl, O6, D6, T6⟩
  obtain ⟨r2, c2, rfl, hd1, hd2, hs1, hs2, hs3⟩ := own_one O6
  have S6 := S5.touch T6 (by omega) (by simp)
  have R6 := R5.touch T6 (by omega) (by simp)
  have K6 := K5.trans T6 (.inl rfl)
  obtain ⟨s0, s1⟩ := S6.cells2
  clear O6 T6 D5 S5 R5 K5 HRy Z5
  go_wp2_with fail
  have HRw : ∀ k, R = some k → k < w6.heap.size := fun k hk => by have := HR.out k hk; have := K6.size; omega
  refine (within_ok w6 base g R bs (p + 2) a b X D6 HBS.out HRw hab HN.out).mono ?_
  rintro e w8 ⟨rfl, D8, T8⟩
  have S8 := S6.touch T8 (by omega) (by simp)
  have R8 := R6.touch T8 (by omega) (by simp)
  have K8 := K6.trans T8 (.inl rfl)
  clear S6 R6 D6 K6 T8 s0 s1 HRw
  go_wp2_with fail
  refine wp_region_noPanic ?_
  refine wp_region_held_drew (S := fun W : World => W.cell? ⟨w.heap.size, 0, none⟩ = some (.int .i64 (a : Nat)) ∧ W.cell? ⟨w.heap.size, 1, none⟩ = some (.int .i64 (b : Nat))) (by kernel_rfl) ((S8.drewN 1).cells2) (fun hSt => ?_)
  have Sa : Blk w8.drew w.heap.size 113 _ := S8
  have Ra : Blk w8.drew (w.heap.size + 1) 113 _ := R8
  have Da : Rd w8.drew base g R bs _ := D8
  have Ka : Touch g none w w8.drew := K8.drewN 1
  clear R8 S8 D8 K8
  generalize w8.drew = wa at *
  refine wpAnyH_picks [0, 1, 2, 3] 2 (by rfl) (by kernel_rfl) (by kernel_rfl) (by kernel_rfl) (fun _ _ _ _ _ h => h) (by assumption) ?_
  simp only [picks, List.drop_succ_cons, List.drop_zero, List.take_succ_cons, List.take_zero, List.cons_append, List.nil_append]
  repeat (first
    | (refine wpY_skip (by rfl) ?_; simp only [Act.put, List.setIfInBounds_toArray, List.set_cons_zero, List.set_cons_succ])
    | (refine wpY_want (v := ?_) (by rfl) (fun W hW => ?_) ?_; rotate_left; (obtain ⟨hW0, hW1⟩ := hW; go_simp; try with_reducible rfl); simp only [Act.put, List.setIfInBounds_toArray, List.set_cons_zero, List.set_cons_succ]))
  refine wpY_nil ?_
  obtain ⟨d0, d1⟩ := Ra.cells2
  have f0 := Ra.frozen 0
  have f1 := Ra.frozen 1
  refine wpAnyH_one 4 1 (by rfl) (by rfl) (by kernel_rfl) (fun K hK => ?_)
  go_simp
  refine hK.out _ _ ((Sa.farSet2 (g' := w.heap.size + 1) (by omega) _ _).cells2) (fun hSt => ?_)
  clear hK K
  try simp only [Act.put, List.setIfInBounds_toArray, List.set_cons_zero, List.set_cons_succ]
  refine wpAnyH_picks [5] 0 (by rfl) (by kernel_rfl) (by kernel_rfl) (by kernel_rfl) (fun _ _ _ _ _ h => h) (by assumption) ?_
  simp only [picks, List.drop_succ_cons, List.drop_zero, List.take_succ_cons, List.take_zero, List.cons_append, List.nil_append]
  repeat (first
    | (refine wpY_skip (by rfl) ?_; simp only [Act.put, List.setIfInBounds_toArray, List.set_cons_zero, List.set_cons_succ])
    | (refine wpY_want (v := ?_) (by rfl) (fun W hW => ?_) ?_; rotate_left; (go_simp; try with_reducible rfl); simp only [Act.put, List.setIfInBounds_toArray, List.set_cons_zero, List.set_cons_succ]))
  refine wpY_nil ?_
  refine wpAnyH_done (by kernel_rfl) ?_ _
  refine NoPanic.normal ?_
  go_wp2_with fail
  obtain ⟨q0, q1⟩ := (Ra.set2 (.int .i64 (a : Nat)) (.int .i64 (b : Nat))).cells2
  refine bodyPost_ret (v := .tuple #[.int .u64 (X : Nat), .agg #[.int .i64 (a : Nat), .int .i64 (b : Nat)], .int .i64 0]) (by simp [results, Tryd.results75, go_sem, q0, q1]) rfl ?_
  exact ⟨rfl, by rw [← Nat.add_assoc]; exact Da.set2 (by omega) NR.out _ _, Ka.set2 (by omega) _ _⟩

set_option maxHeartbeats 3200000 in
theorem diff_n3 (w : World) (base g : Nat) (R : Option Nat) (bs : List Int) (p a b : Nat) (h : Rd w base g R bs p) (hT : XorTab w) (hb : 2 ≤ base) (hbs : ∀ x ∈ bs, Byte x) (hR : ∀ k, R = some k → k < w.heap.size) (hl : 2 ≤ ((unB bs).drop p).length) (hV : val (((unB bs).drop p).take 1) = 1) (hU : val ((((unB bs).drop p).drop 1).take 1) = 0) (ha : a ≠ 64) (hab : a + b ≤ 63) (hN : getN (((unB bs).drop p).drop 2) a b = none) :
    Calls Tryd.prog 75 #[.pointer (some ⟨g, 0, none⟩), .agg #[.int .i64 (a : Nat), .int .i64 (b : Nat)]] w fun e w' => ∃ x a1 b1 : Int, e = .returned (.tuple #[.int .u64 x, .agg #[.int .i64 a1, .int .i64 b1], .int .i64 50]) ∧ RdS w' base g R bs ∧ Touch g none w w' := by
  obtain ⟨S0, R0, B0⟩ := win_new w (.int .i64 (a : Nat)) (.int .i64 (b : Nat)) (.int .i64 0) (.int .i64 0) 113 113
  have hlt := h.lt
  have hg2 : 2 ≤ g := Nat.le_trans hb h.1
  have HBS := Lib.hid hbs
  have HR := Lib.hid hR
  have nR : R ≠ some (w.heap.size + 1) := fun e => by have := hR _ e; omega
  have NR := Lib.hid nR
  have hpl := h.place
  clear nR hR hbs
  rw [rest_len] at hl
  have HV := Lib.hid hV
  clear hV
  rw [List.drop_drop] at hU
  have HU := Lib.hid hU
  clear hU
  have e64 : ((a : Int) == 64) = false ∧ (a == 64) = false := ⟨beq_eq_false_iff_ne.2 (by omega), beq_eq_false_iff_ne.2 ha⟩
  obtain ⟨e64, e64'⟩ := e64
  clear ha
  rw [List.drop_drop] at hN
  have HN := Lib.hid hN
  clear hN
  go_enter Tryd.func75, Tryd.ntmps75
  have A3 : Below ((w.alloc (.cells #[.int .i64 (a : Nat), .int .i64 (b : Nat)] 113)).alloc (.cells #[.int .i64 0, .int .i64 0] 113)).heap.size ((w.alloc (.cells #[.int .i64 (a : Nat), .int .i64 (b : Nat)] 113)).alloc (.cells #[.int .i64 0, .int .i64 0] 113)) (((w.alloc (.cells #[.int .i64 (a : Nat), .int .i64 (b : Nat)] 113)).alloc (.cells #[.int .i64 0, .int .i64 0] 113)).alloc (.cells #[.int .i64 1] 3)) := (Below.refl _ _).alloc (Nat.le_refl _) _
  have Z3 := SizesAt.one (n := 1) (Blk.new ((w.alloc (.cells #[.int .i64 (a : Nat), .int .i64 (b : Nat)] 113)).alloc (.cells #[.int .i64 0, .int .i64 0] 113)) 3 #[.int .i64 1]) rfl
  have S3 := S0.below A3
  have R3 := R0.below A3
  have H3 := below_more B0 A3
  have D3 := h.below H3
  have hsz : ((w.alloc (.cells #[.int .i64 (a : Nat), .int .i64 (b : Nat)] 113)).alloc (.cells #[.int .i64 0, .int .i64 0] 113)).heap.size = w.heap.size + 2 := by simp
  rw [hsz] at Z3
  have hz3 : w.heap.size + 2 < (((w.alloc (.cells #[.int .i64 (a : Nat), .int .i64 (b : Nat)] 113)).alloc (.cells #[.int .i64 0, .int .i64 0] 113)).alloc (.cells #[.int .i64 1] 3)).heap.size := by simp
  clear hsz A3 S0 R0 B0
  go_wp2_with fail
  generalize ((w.alloc (.cells #[.int .i64 (a : Nat), .int .i64 (b : Nat)] 113)).alloc (.cells #[.int .i64 0, .int .i64 0] 113)).alloc (.cells #[.int .i64 1] 3) = w3 at *
  have hqg : w.heap.size + 2 ≠ g := by omega
  have HRq : ∀ k, R = some k → k < w3.heap.size := fun k hk => by have := HR.out k hk; omega
  refine (read_ok w3 base g (w.heap.size + 2) R bs p 1 [1] D3 HBS.out Z3 hz3 hqg (by simp) (by simp) (by simp) (by simp; omega) HRq).mono ?_
  rw [show readV bs p [1] = [1] by simp [readV, HV.out], show p + [1].sum = p + 1 by simp]
  rintro e w4 ⟨v, rfl, O4, D4, T4⟩
  obtain ⟨r, cq, rfl, hc1, hc2, hr1, hr2, hr3⟩ := own_one O4
  have S4 := S3.touch T4 (by omega) (by simp)
  have R4 := R3.touch T4 (by omega) (by simp)
  have K4 := (Touch.of_below H3 g none).trans T4 (.inl rfl)
  have hz4 := T4.size
  clear O4 T4 D3 S3 R3 H3 HRq Z3
  have A5 : Below w4.heap.size w4 (w4.alloc (.cells #[.int .i64 1] 3)) := (Below.refl _ w4).alloc (Nat.le_refl _) _
  have Z5 := SizesAt.one (n := 1) (Blk.new w4 3 #[.int .i64 1]) rfl
  have S5 := S4.below A5
  have R5 := R4.below A5
  have D5 := D4.below A5
  have K5 := K4.trans (Touch.of_below A5 g none) (.inl rfl)
  have hz5 : w4.heap.size < (w4.alloc (.cells #[.int .i64 1] 3)).heap.size := by simp
  clear S4 R4 D4 K4
  go_wp2_with fail
  obtain ⟨y, hy⟩ : ∃ y, w4.heap.size = y := ⟨_, rfl⟩
  rw [hy] at Z5 hz5 hz4 hr2 ⊢
  generalize w4.alloc (.cells #[.int .i64 1] 3) = w5 at *
  clear A5 hr3 hy
  have hyg : y ≠ g := by omega
  have HRy : ∀ k, R = some k → k < w5.heap.size := fun k hk => by have := HR.out k hk; omega
  refine (read_ok w5 base g y R bs (p + 1) 1 [1] D5 HBS.out Z5 hz5 hyg (by simp) (by simp) (by simp) (by simp; omega) HRy).mono ?_
  rw [show readV bs (p + 1) [1] = [0] by simp [readV, HU.out], show p + 1 + [1].sum = p + 2 by simp]
  rintro e w6 ⟨v2, rfl, O6, D6, T6⟩
  obtain ⟨r2, c2, rfl, hd1, hd2, hs1, hs2, hs3⟩ := own_one O6
  have S6 := S5.touch T6 (by omega) (by simp)
  have R6 := R5.touch T6 (by omega) (by simp)
  have K6 := K5.trans T6 (.inl rfl)
  obtain ⟨s0, s1⟩ := S6.cells2
  clear O6 T6 D5 S5 R5 K5 HRy Z5
  go_wp2_with fail
  have HRw : ∀ k, R = some k → k < w6.heap.size := fun k hk => by have := HR.out k hk; have := K6.size; omega
  refine (within_no w6 base g R bs (p + 2) a b D6 HBS.out HRw hab HN.out).mono ?_
  rintro e w8 ⟨p8, rfl, D8, T8⟩
  have S8 := S6.touch T8 (by omega) (by simp)
  have R8 := R6.touch T8 (by omega) (by simp)
  have K8 := K6.trans T8 (.inl rfl)
  clear S6 R6 D6 K6 T8 s0 s1 HRw
  go_wp2_with fail
  refine wp_region_noPanic ?_
  refine wp_region_held_drew (S := fun W : World => W.cell? ⟨w.heap.size, 0, none⟩ = some (.int .i64 (a : Nat)) ∧ W.cell? ⟨w.heap.size, 1, none⟩ = some (.int .i64 (b : Nat))) (by kernel_rfl) ((S8.drewN 1).cells2) (fun hSt => ?_)
  have Sa : Blk w8.drew w.heap.size 113 _ := S8
  have Ra : Blk w8.drew (w.heap.size + 1) 113 _ := R8
  have Da : Rd w8.drew base g R bs _ := D8
  have Ka : Touch g none w w8.drew := K8.drewN 1
  clear R8 S8 D8 K8
  generalize w8.drew = wa at *
  refine wpAnyH_picks [0, 1, 2, 3] 2 (by rfl) (by kernel_rfl) (by kernel_rfl) (by kernel_rfl) (fun _ _ _ _ _ h => h) (by assumption) ?_
  simp only [picks, List.drop_succ_cons, List.drop_zero, List.take_succ_cons, List.take_zero, List.cons_append, List.nil_append]
  repeat (first
    | (refine wpY_skip (by rfl) ?_; simp only [Act.put, List.setIfInBounds_toArray, List.set_cons_zero, List.set_cons_succ])
    | (refine wpY_want (v := ?_) (by rfl) (fun W hW => ?_) ?_; rotate_left; (obtain ⟨hW0, hW1⟩ := hW; go_simp; try with_reducible rfl); simp only [Act.put, List.setIfInBounds_toArray, List.set_cons_zero, List.set_cons_succ]))
  refine wpY_nil ?_
  obtain ⟨d0, d1⟩ := Ra.cells2
  have f0 := Ra.frozen 0
  have f1 := Ra.frozen 1
  refine wpAnyH_one 4 1 (by rfl) (by rfl) (by kernel_rfl) (fun K hK => ?_)
  go_simp
  refine hK.out _ _ ((Sa.farSet2 (g' := w.heap.size + 1) (by omega) _ _).cells2) (fun hSt => ?_)
  clear hK K
  try simp only [Act.put, List.setIfInBounds_toArray, List.set_cons_zero, List.set_cons_succ]
  refine wpAnyH_picks [5] 0 (by rfl) (by kernel_rfl) (by kernel_rfl) (by kernel_rfl) (fun _ _ _ _ _ h => h) (by assumption) ?_
  simp only [picks, List.drop_succ_cons, List.drop_zero, List.take_succ_cons, List.take_zero, List.cons_append, List.nil_append]
  repeat (first
    | (refine wpY_skip (by rfl) ?_; simp only [Act.put, List.setIfInBounds_toArray, List.set_cons_zero, List.set_cons_succ])
    | (refine wpY_want (v := ?_) (by rfl) (fun W hW => ?_) ?_; rotate_left; (go_simp; try with_reducible rfl); simp only [Act.put, List.setIfInBounds_toArray, List.set_cons_zero, List.set_cons_succ]))
  refine wpY_nil ?_
  refine wpAnyH_done (by kernel_rfl) ?_ _
  refine NoPanic.normal ?_
  go_wp2_with fail
  obtain ⟨q0, q1⟩ := (Ra.set2 (.int .i64 (a : Nat)) (.int .i64 (b : Nat))).cells2
  refine bodyPost_ret (v := .tuple #[.int .u64 0, .agg #[.int .i64 (a : Nat), .int .i64 (b : Nat)], .int .i64 50]) (by simp [results, Tryd.results75, go_sem, q0, q1]) rfl ?_
  exact ⟨_, _, _, rfl, ⟨_, Da.set2 (by omega) NR.out _ _⟩, Ka.set2 (by omega) _ _⟩

set_option maxHeartbeats 3200000 in
theorem diff_c (w : World) (base g : Nat) (R : Option Nat) (bs : List Int) (p a b : Nat) (X A B c : Nat) (h : Rd w base g R bs p) (hT : XorTab w) (hb : 2 ≤ base) (hbs : ∀ x ∈ bs, Byte x) (hR : ∀ k, R = some k → k < w.heap.size) (hl : 2 ≤ ((unB bs).drop p).length) (hV : val (((unB bs).drop p).take 1) = 1) (hU : val ((((unB bs).drop p).drop 1).take 1) = 1) (hN : getF (((unB bs).drop p).drop 2) a b = some (X, A, B, c)) :
    Calls Tryd.prog 75 #[.pointer (some ⟨g, 0, none⟩), .agg #[.int .i64 (a : Nat), .int .i64 (b : Nat)]] w fun e w' => e = .returned (.tuple #[.int .u64 (X : Nat), .agg #[.int .i64 (A : Nat), .int .i64 (B : Nat)], .int .i64 0]) ∧ Rd w' base g R bs (p + (2 + c)) ∧ Touch g none w w' := by
  obtain ⟨S0, R0, B0⟩ := win_new w (.int .i64 (a : Nat)) (.int .i64 (b : Nat)) (.int .i64 0) (.int .i64 0) 113 113
  have hlt := h.lt
  have hg2 : 2 ≤ g := Nat.le_trans hb h.1
  have HBS := Lib.hid hbs
  have HR := Lib.hid hR
  have nR : R ≠ some (w.heap.size + 1) := fun e => by have := hR _ e; omega
  have NR := Lib.hid nR
  have hpl := h.place
  clear nR hR hbs
  rw [rest_len] at hl
  have HV := Lib.hid hV
  clear hV
  rw [List.drop_drop] at hU
  have HU := Lib.hid hU
  clear hU
  rw [List.drop_drop] at hN
  have HN := Lib.hid hN
  clear hN
  go_enter Tryd.func75, Tryd.ntmps75
  have A3 : Below ((w.alloc (.cells #[.int .i64 (a : Nat), .int .i64 (b : Nat)] 113)).alloc (.cells #[.int .i64 0, .int .i64 0] 113)).heap.size ((w.alloc (.cells #[.int .i64 (a : Nat), .int .i64 (b : Nat)] 113)).alloc (.cells #[.int .i64 0, .int .i64 0] 113)) (((w.alloc (.cells #[.int .i64 (a : Nat), .int .i64 (b : Nat)] 113)).alloc (.cells #[.int .i64 0, .int .i64 0] 113)).alloc (.cells #[.int .i64 1] 3)) := (Below.refl _ _).alloc (Nat.le_refl _) _
  have Z3 := SizesAt.one (n := 1) (Blk.new ((w.alloc (.cells #[.int .i64 (a : Nat), .int .i64 (b : Nat)] 113)).alloc (.cells #[.int .i64 0, .int .i64 0] 113)) 3 #[.int .i64 1]) rfl
  have S3 := S0.below A3
  have R3 := R0.below A3
  have H3 := below_more B0 A3
  have D3 := h.below H3
  have hsz : ((w.alloc (.cells #[.int .i64 (a : Nat), .int .i64 (b : Nat)] 113)).alloc (.cells #[.int .i64 0, .int .i64 0] 113)).heap.size = w.heap.size + 2 := by simp
  rw [hsz] at Z3
  have hz3 : w.heap.size + 2 < (((w.alloc (.cells #[.int .i64 (a : Nat), .int .i64 (b : Nat)] 113)).alloc (.cells #[.int .i64 0, .int .i64 0] 113)).alloc (.cells #[.int .i64 1] 3)).heap.size := by simp
  clear hsz A3 S0 R0 B0
  go_wp2_with fail
  generalize ((w.alloc (.cells #[.int .i64 (a : Nat), .int .i64 (b : Nat)] 113)).alloc (.cells #[.int .i64 0, .int .i64 0] 113)).alloc (.cells #[.int .i64 1] 3) = w3 at *
  have hqg : w.heap.size + 2 ≠ g := by omega
  have HRq : ∀ k, R = some k → k < w3.heap.size := fun k hk => by have := HR.out k hk; omega
  refine (read_ok w3 base g (w.heap.size + 2) R bs p 1 [1] D3 HBS.out Z3 hz3 hqg (by simp) (by simp) (by simp) (by simp; omega) HRq).mono ?_
  rw [show readV bs p [1] = [1] by simp [readV, HV.out], show p + [1].sum = p + 1 by simp]
  rintro e w4 ⟨v, rfl, O4, D4, T4⟩
  obtain ⟨r, cq, rfl, hc1, hc2, hr1, hr2, hr3⟩ := own_one O4
  have S4 := S3.touch T4 (by omega) (by simp)
  have R4 := R3.touch T4 (by omega) (by simp)
  have K4 := (Touch.of_below H3 g none).trans T4 (.inl rfl)
  have hz4 := T4.size
  clear O4 T4 D3 S3 R3 H3 HRq Z3
  have A5 : Below w4.heap.size w4 (w4.alloc (.cells #[.int .i64 1] 3)) := (Below.refl _ w4).alloc (Nat.le_refl _) _
  have Z5 := SizesAt.one (n := 1) (Blk.new w4 3 #[.int .i64 1]) rfl
  have S5 := S4.below A5
  have R5 := R4.below A5
  have D5 := D4.below A5
  have K5 := K4.trans (Touch.of_below A5 g none) (.inl rfl)
  have hz5 : w4.heap.size < (w4.alloc (.cells #[.int .i64 1] 3)).heap.size := by simp
  clear S4 R4 D4 K4
  go_wp2_with fail
  obtain ⟨y, hy⟩ : ∃ y, w4.heap.size = y := ⟨_, rfl⟩
  rw [hy] at Z5 hz5 hz4 hr2 ⊢
  generalize w4.alloc (.cells #[.int .i64 1] 3) = w5 at *
  clear A5 hr3 hy
  have hyg : y ≠ g := by omega
  have HRy : ∀ k, R = some k → k < w5.heap.size := fun k hk => by have := HR.out k hk; omega
  refine (read_ok w5 base g y R bs (p + 1) 1 [1] D5 HBS.out Z5 hz5 hyg (by simp) (by simp) (by simp) (by simp; omega) HRy).mono ?_
  rw [show readV bs (p + 1) [1] = [1] by simp [readV, HU.out], show p + 1 + [1].sum = p + 2 by simp]
  rintro e w6 ⟨v2, rfl, O6, D6, T6⟩
  obtain ⟨r2, c2, rfl, hd1, hd2, hs1, hs2, hs3⟩ := own_one O6
  have S6 := S5.touch T6 (by omega) (by simp)
  have R6 := R5.touch T6 (by omega) (by simp)
  have K6 := K5.trans T6 (.inl rfl)
  obtain ⟨s0, s1⟩ := S6.cells2
  clear O6 T6 D5 S5 R5 K5 HRy Z5
  go_wp2_with fail
  have HRw : ∀ k, R = some k → k < w6.heap.size := fun k hk => by have := HR.out k hk; have := K6.size; omega
  refine (fresh_ok w6 base g R bs (p + 2) a b X A B c D6 (hT.touch K6 hg2 (by simp)) hb HBS.out HRw HN.out).mono ?_
  rintro e w8 ⟨rfl, D8, T8⟩
  have R8 := R6.touch T8 (by omega) (by simp)
  have K8 := K6.trans T8 (.inl rfl)
  obtain ⟨d0, d1⟩ := R8.cells2
  have f0 := R8.frozen 0
  have f1 := R8.frozen 1
  clear S6 R6 D6 K6 T8 s0 s1 HRw
  go_wp2_with fail
  obtain ⟨q0, q1⟩ := (R8.set2 (.int .i64 (A : Nat)) (.int .i64 (B : Nat))).cells2
  refine bodyPost_ret (v := .tuple #[.int .u64 (X : Nat), .agg #[.int .i64 (A : Nat), .int .i64 (B : Nat)], .int .i64 0]) (by simp [results, Tryd.results75, go_sem, q0, q1]) rfl ?_
  exact ⟨rfl, by rw [← Nat.add_assoc]; exact D8.set2 (by omega) NR.out _ _, K8.set2 (by omega) _ _⟩

set_option maxHeartbeats 3200000 in
theorem diff_n4 (w : World) (base g : Nat) (R : Option Nat) (bs : List Int) (p a b : Nat) (h : Rd w base g R bs p) (hT : XorTab w) (hb : 2 ≤ base) (hbs : ∀ x ∈ bs, Byte x) (hR : ∀ k, R = some k → k < w.heap.size) (hl : 2 ≤ ((unB bs).drop p).length) (hV : val (((unB bs).drop p).take 1) = 1) (hU : val ((((unB bs).drop p).drop 1).take 1) = 1) (hN : getF (((unB bs).drop p).drop 2) a b = none) :
    Calls Tryd.prog 75 #[.pointer (some ⟨g, 0, none⟩), .agg #[.int .i64 (a : Nat), .int .i64 (b : Nat)]] w fun e w' => ∃ x a1 b1 : Int, e = .returned (.tuple #[.int .u64 x, .agg #[.int .i64 a1, .int .i64 b1], .int .i64 50]) ∧ RdS w' base g R bs ∧ Touch g none w w' := by
  obtain ⟨S0, R0, B0⟩ := win_new w (.int .i64 (a : Nat)) (.int .i64 (b : Nat)) (.int .i64 0) (.int .i64 0) 113 113
  have hlt := h.lt
  have hg2 : 2 ≤ g := Nat.le_trans hb h.1
  have HBS := Lib.hid hbs
  have HR := Lib.hid hR
  have nR : R ≠ some (w.heap.size + 1) := fun e => by have := hR _ e; omega
  have NR := Lib.hid nR
  have hpl := h.place
  clear nR hR hbs
  rw [rest_len] at hl
  have HV := Lib.hid hV
  clear hV
  rw [List.drop_drop] at hU
  have HU := Lib.hid hU
  clear hU
  rw [List.drop_drop] at hN
  have HN := Lib.hid hN
  clear hN
  go_enter Tryd.func75, Tryd.ntmps75
  have A3 : Below ((w.alloc (.cells #[.int .i64 (a : Nat), .int .i64 (b : Nat)] 113)).alloc (.cells #[.int .i64 0, .int .i64 0] 113)).heap.size ((w.alloc (.cells #[.int .i64 (a : Nat), .int .i64 (b : Nat)] 113)).alloc (.cells #[.int .i64 0, .int .i64 0] 113)) (((w.alloc (.cells #[.int .i64 (a : Nat), .int .i64 (b : Nat)] 113)).alloc (.cells #[.int .i64 0, .int .i64 0] 113)).alloc (.cells #[.int .i64 1] 3)) := (Below.refl _ _).alloc (Nat.le_refl _) _
  have Z3 := SizesAt.one (n := 1) (Blk.new ((w.alloc (.cells #[.int .i64 (a : Nat), .int .i64 (b : Nat)] 113)).alloc (.cells #[.int .i64 0, .int .i64 0] 113)) 3 #[.int .i64 1]) rfl
  have S3 := S0.below A3
  have R3 := R0.below A3
  have H3 := below_more B0 A3
  have D3 := h.below H3
  have hsz : ((w.alloc (.cells #[.int .i64 (a : Nat), .int .i64 (b : Nat)] 113)).alloc (.cells #[.int .i64 0, .int .i64 0] 113)).heap.size = w.heap.size + 2 := by simp
  rw [hsz] at Z3
  have hz3 : w.heap.size + 2 < (((w.alloc (.cells #[.int .i64 (a : Nat), .int .i64 (b : Nat)] 113)).alloc (.cells #[.int .i64 0, .int .i64 0] 113)).alloc (.cells #[.int .i64 1] 3)).heap.size := by simp
  clear hsz A3 S0 R0 B0
  go_wp2_with fail
  generalize ((w.alloc (.cells #[.int .i64 (a : Nat), .int .i64 (b : Nat)] 113)).alloc (.cells #[.int .i64 0, .int .i64 0] 113)).alloc (.cells #[.int .i64 1] 3) = w3 at *
  have hqg : w.heap.size + 2 ≠ g := by omega
  have HRq : ∀ k, R = some k → k < w3.heap.size := fun k hk => by have := HR.out k hk; omega
  refine (read_ok w3 base g (w.heap.size + 2) R bs p 1 [1] D3 HBS.out Z3 hz3 hqg (by simp) (by simp) (by simp) (by simp; omega) HRq).mono ?_
  rw [show readV bs p [1] = [1] by simp [readV, HV.out], show p + [1].sum = p + 1 by simp]
  rintro e w4 ⟨v, rfl, O4, D4, T4⟩
  obtain ⟨r, cq, rfl, hc1, hc2, hr1, hr2, hr3⟩ := own_one O4
  have S4 := S3.touch T4 (by omega) (by simp)
  have R4 := R3.touch T4 (by omega) (by simp)
  have K4 := (Touch.of_below H3 g none).trans T4 (.inl rfl)
  have hz4 := T4.size
  clear O4 T4 D3 S3 R3 H3 HRq Z3
  have A5 : Below w4.heap.size w4 (w4.alloc (.cells #[.int .i64 1] 3)) := (Below.refl _ w4).alloc (Nat.le_refl _) _
  have Z5 := SizesAt.one (n := 1) (Blk.new w4 3 #[.int .i64 1]) rfl
  have S5 := S4.below A5
  have R5 := R4.below A5
  have D5 := D4.below A5
  have K5 := K4.trans (Touch.of_below A5 g none) (.inl rfl)
  have hz5 : w4.heap.size < (w4.alloc (.cells #[.int .i64 1] 3)).heap.size := by simp
  clear S4 R4 D4 K4
  go_wp2_with fail
  obtain ⟨y, hy⟩ : ∃ y, w4.heap.size = y := ⟨_, rfl⟩
  rw [hy] at Z5 hz5 hz4 hr2 ⊢
  generalize w4.alloc (.cells #[.int .i64 1] 3) = w5 at *
  clear A5 hr3 hy
  have hyg : y ≠ g := by omega
  have HRy : ∀ k, R = some k → k < w5.heap.size := fun k hk => by have := HR.out k hk; omega
  refine (read_ok w5 base g y R bs (p + 1) 1 [1] D5 HBS.out Z5 hz5 hyg (by simp) (by simp) (by simp) (by simp; omega) HRy).mono ?_
  rw [show readV bs (p + 1) [1] = [1] by simp [readV, HU.out], show p + 1 + [1].sum = p + 2 by simp]
  rintro e w6 ⟨v2, rfl, O6, D6, T6⟩
  obtain ⟨r2, c2, rfl, hd1, hd2, hs1, hs2, hs3⟩ := own_one O6
  have S6 := S5.touch T6 (by omega) (by simp)
  have R6 := R5.touch T6 (by omega) (by simp)
  have K6 := K5.trans T6 (.inl rfl)
  obtain ⟨s0, s1⟩ := S6.cells2
  clear O6 T6 D5 S5 R5 K5 HRy Z5
  go_wp2_with fail
  have HRw : ∀ k, R = some k → k < w6.heap.size := fun k hk => by have := HR.out k hk; have := K6.size; omega
  refine (fresh_no w6 base g R bs (p + 2) a b D6 (hT.touch K6 hg2 (by simp)) hb HBS.out HRw HN.out).mono ?_
  rintro e w8 ⟨x, a1, b1, rfl, ⟨p8, D8⟩, T8⟩
  have R8 := R6.touch T8 (by omega) (by simp)
  have K8 := K6.trans T8 (.inl rfl)
  obtain ⟨d0, d1⟩ := R8.cells2
  have f0 := R8.frozen 0
  have f1 := R8.frozen 1
  clear S6 R6 D6 K6 T8 s0 s1 HRw
  go_wp2_with fail
  obtain ⟨q0, q1⟩ := (R8.set2 (.int .i64 a1) (.int .i64 b1)).cells2
  refine bodyPost_ret (v := .tuple #[.int .u64 x, .agg #[.int .i64 a1, .int .i64 b1], .int .i64 50]) (by simp [results, Tryd.results75, go_sem, q0, q1]) rfl ?_
  exact ⟨_, _, _, rfl, ⟨_, D8.set2 (by omega) NR.out _ _⟩, K8.set2 (by omega) _ _⟩

theorem diff_ok (w : World) (base g : Nat) (R : Option Nat) (bs : List Int) (p a b : Nat) (X A B c : Nat) (h : Rd w base g R bs p) (hT : XorTab w) (hb : 2 ≤ base) (hbs : ∀ x ∈ bs, Byte x) (hR : ∀ k, R = some k → k < w.heap.size) (hab : a = 64 ∧ b = 0 ∨ a + b ≤ 63) (hD : getE ((unB bs).drop p) a b = some (X, A, B, c)) :
    Calls Tryd.prog 75 #[.pointer (some ⟨g, 0, none⟩), .agg #[.int .i64 (a : Nat), .int .i64 (b : Nat)]] w fun e w' => e = .returned (.tuple #[.int .u64 (X : Nat), .agg #[.int .i64 (A : Nat), .int .i64 (B : Nat)], .int .i64 0]) ∧ Rd w' base g R bs (p + c) ∧ Touch g none w w' := by
  rcases getE_some hD with ⟨hl, hV, rfl, rfl, rfl, rfl⟩ | ⟨hl, hV, hU, ha, hN, rfl, rfl, rfl⟩ | ⟨hl, hV, hU, c', hF, rfl⟩
  · exact diff_a w base g R bs p _ _ h hT hb hbs hR hl hV
  · exact diff_b w base g R bs p _ _ X h hT hb hbs hR hl hV hU ha (by omega) hN
  · exact diff_c w base g R bs p a b X A B c' h hT hb hbs hR hl hV hU hF
theorem diff_no (w : World) (base g : Nat) (R : Option Nat) (bs : List Int) (p a b : Nat) (h : Rd w base g R bs p) (hT : XorTab w) (hb : 2 ≤ base) (hbs : ∀ x ∈ bs, Byte x) (hR : ∀ k, R = some k → k < w.heap.size) (hab : a = 64 ∧ b = 0 ∨ a + b ≤ 63) (hD : getE ((unB bs).drop p) a b = none) :
    Calls Tryd.prog 75 #[.pointer (some ⟨g, 0, none⟩), .agg #[.int .i64 (a : Nat), .int .i64 (b : Nat)]] w fun e w' => ∃ x a1 b1 : Int, e = .returned (.tuple #[.int .u64 x, .agg #[.int .i64 a1, .int .i64 b1], .int .i64 50]) ∧ RdS w' base g R bs ∧ Touch g none w w' := by
  rcases getE_none hD with hl | ⟨hl, hl2, hV⟩ | ⟨hl, hV, hU, ha | ⟨ha, hN⟩⟩ | ⟨hl, hV, hU, hF⟩
  · exact diff_n0 w base g R bs p a b h hT hb hbs hR hl
  · exact diff_n1 w base g R bs p a b h hT hb hbs hR hl hl2 hV
  · exact diff_n2 w base g R bs p a b h hT hb hbs hR hl hV hU ha
  · exact diff_n3 w base g R bs p a b h hT hb hbs hR hl hV hU ha (by omega) hN
  · exact diff_n4 w base g R bs p a b h hT hb hbs hR hl hV hU hF

set_option maxHeartbeats 800000 in
theorem xGet_wrong (w : World) (base g : Nat) (R : Option Nat) (bs : List Int) (p : Nat) (N V a b : Int) (h : Rd w base g R bs p) (hT : XorTab w) (hb : 2 ≤ base) (hbs : ∀ x ∈ bs, Byte x) (hR : ∀ k, R = some k → k < w.heap.size) (hg : rightX N a b = false) :
    Calls Tryd.prog 45 #[.pointer (some ⟨g, 0, none⟩), .agg #[.int .i64 N, .int .u64 V, .int .i64 a, .int .i64 b]] w fun e w' => e = .returned (.tuple #[.agg #[.int .i64 0, .int .u64 0, .int .i64 0, .int .i64 0], .int .u64 0, .int .i64 2]) ∧ RdS w' base g R bs ∧ Touch g none w w' := by
  obtain ⟨S0, R0, H0⟩ := four_new w (.int .i64 N) (.int .u64 V) (.int .i64 a) (.int .i64 b) (.int .i64 0) (.int .u64 0) (.int .i64 0) (.int .i64 0) 48 48
  have hlt := h.lt
  have hg2 : 2 ≤ g := Nat.le_trans hb h.1
  have HBS := Lib.hid hbs
  have HR := Lib.hid hR
  have nR : R ≠ some (w.heap.size + 1) := fun e => by have := hR _ e; omega
  have NR := Lib.hid nR
  have hpl := h.place
  clear nR hR hbs
  clear hpl
  go_enter Tryd.func45, Tryd.ntmps45
  go_wp2_with fail
  refine (xright_no N V a b _ hg).mono ?_
  rintro e w1 ⟨rfl, hB1⟩
  have H1 := below_more H0 hB1
  have R1 := R0.below hB1
  have D1 := h.below H1
  have K1 := Touch.of_below H1 g none
  obtain ⟨d0, d1, d2, d3⟩ := R1.cells4
  obtain ⟨e0, e1, e2, e3⟩ := R1.free4
  go_wp2_with fail
  obtain ⟨q0, q1, q2, q3⟩ := (R1.set4 (.int .i64 0) (.int .u64 0) (.int .i64 0) (.int .i64 0)).cells4
  refine bodyPost_ret (v := .tuple #[.agg #[.int .i64 0, .int .u64 0, .int .i64 0, .int .i64 0], .int .u64 0, .int .i64 2]) (by simp [results, Tryd.results45, go_sem, q0, q1, q2, q3]) rfl ⟨rfl, ⟨_, D1.set4 (by omega) NR.out _ _ _ _⟩, K1.set4 (by omega) _ _ _ _⟩

set_option maxHeartbeats 1600000 in
theorem xGet_f0 (w : World) (base g : Nat) (R : Option Nat) (bs : List Int) (p : Nat) (N : Int) (V a b : Nat) (h : Rd w base g R bs p) (hT : XorTab w) (hb : 2 ≤ base) (hbs : ∀ x ∈ bs, Byte x) (hR : ∀ k, R = some k → k < w.heap.size) (hg : rightX N a b = true) (hN : N = 0) (hl : ((unB bs).drop p).length < 64) :
    Calls Tryd.prog 45 #[.pointer (some ⟨g, 0, none⟩), .agg #[.int .i64 N, .int .u64 (V : Nat), .int .i64 (a : Nat), .int .i64 (b : Nat)]] w fun e w' => e = .returned (.tuple #[.agg #[.int .i64 0, .int .u64 0, .int .i64 0, .int .i64 0], .int .u64 0, .int .i64 50]) ∧ RdS w' base g R bs ∧ Touch g none w w' := by
  obtain ⟨S0, R0, H0⟩ := four_new w (.int .i64 N) (.int .u64 (V : Nat)) (.int .i64 (a : Nat)) (.int .i64 (b : Nat)) (.int .i64 0) (.int .u64 0) (.int .i64 0) (.int .i64 0) 48 48
  have hlt := h.lt
  have hg2 : 2 ≤ g := Nat.le_trans hb h.1
  have HBS := Lib.hid hbs
  have HR := Lib.hid hR
  have nR : R ≠ some (w.heap.size + 1) := fun e => by have := hR _ e; omega
  have NR := Lib.hid nR
  have hpl := h.place
  clear nR hR hbs
  rw [rest_len] at hl
  subst hN
  have HG := Lib.hid hg
  clear hg
  go_enter Tryd.func45, Tryd.ntmps45
  go_wp2_with fail
  refine (xright_yes _ V a b _ HG.out).mono ?_
  rintro e w1 ⟨rfl, hB1⟩
  have H1 := below_more H0 hB1
  have S1 := S0.below hB1
  have R1 := R0.below hB1
  have D1 := h.below H1
  have K1 := Touch.of_below H1 g none
  clear S0 R0 H0 hB1 H1
  obtain ⟨s0, s1, s2, s3⟩ := S1.cells4
  go_wp2_with fail
  refine (getI_no w1 base g R bs p 64 D1 HBS.out (by omega) (by omega) (by have : (64 : Int).toNat = 64 := rfl; omega)).mono ?_
  rintro e w2 ⟨rfl, D2, T2⟩
  have R2 := R1.touch T2 (by omega) (by simp)
  have K2 := K1.trans T2 (.inl rfl)
  clear s0 s1 s2 s3
  obtain ⟨d0, d1, d2, d3⟩ := R2.cells4
  obtain ⟨e0, e1, e2, e3⟩ := R2.free4
  go_wp2_with fail
  obtain ⟨q0, q1, q2, q3⟩ := (R2.set4 (.int .i64 0) (.int .u64 0) (.int .i64 0) (.int .i64 0)).cells4
  refine bodyPost_ret (v := .tuple #[.agg #[.int .i64 0, .int .u64 0, .int .i64 0, .int .i64 0], .int .u64 0, .int .i64 50]) (by simp [results, Tryd.results45, go_sem, q0, q1, q2, q3]) rfl ⟨rfl, ⟨_, D2.set4 (by omega) NR.out _ _ _ _⟩, K2.set4 (by omega) _ _ _ _⟩

set_option maxHeartbeats 3200000 in
theorem xGet_f1 (w : World) (base g : Nat) (R : Option Nat) (bs : List Int) (p : Nat) (N : Int) (V a b : Nat) (v : Nat) (h : Rd w base g R bs p) (hT : XorTab w) (hb : 2 ≤ base) (hbs : ∀ x ∈ bs, Byte x) (hR : ∀ k, R = some k → k < w.heap.size) (hg : rightX N a b = true) (hN : N = 0) (hl : 64 ≤ ((unB bs).drop p).length) (hv : val (((unB bs).drop p).take 64) = v) :
    Calls Tryd.prog 45 #[.pointer (some ⟨g, 0, none⟩), .agg #[.int .i64 N, .int .u64 (V : Nat), .int .i64 (a : Nat), .int .i64 (b : Nat)]] w fun e w' => e = .returned (.tuple #[.agg #[.int .i64 (N + 1), .int .u64 (v : Nat), .int .i64 (a : Nat), .int .i64 (b : Nat)], .int .u64 (v : Nat), .int .i64 0]) ∧ Rd w' base g R bs (p + 64) ∧ Touch g none w w' := by
  obtain ⟨S0, R0, H0⟩ := four_new w (.int .i64 N) (.int .u64 (V : Nat)) (.int .i64 (a : Nat)) (.int .i64 (b : Nat)) (.int .i64 0) (.int .u64 0) (.int .i64 0) (.int .i64 0) 48 48
  have hlt := h.lt
  have hg2 : 2 ≤ g := Nat.le_trans hb h.1
  have HBS := Lib.hid hbs
  have HR := Lib.hid hR
  have nR : R ≠ some (w.heap.size + 1) := fun e => by have := hR _ e; omega
  have NR := Lib.hid nR
  have hpl := h.place
  clear nR hR hbs
  rw [rest_len] at hl
  subst hN
  have HV := Lib.hid hv
  clear hv
  have HG := Lib.hid hg
  clear hg
  go_enter Tryd.func45, Tryd.ntmps45
  go_wp2_with fail
  refine (xright_yes _ V a b _ HG.out).mono ?_
  rintro e w1 ⟨rfl, hB1⟩
  have H1 := below_more H0 hB1
  have S1 := S0.below hB1
  have R1 := R0.below hB1
  have D1 := h.below H1
  have K1 := Touch.of_below H1 g none
  clear S0 R0 H0 hB1 H1
  obtain ⟨s0, s1, s2, s3⟩ := S1.cells4
  go_wp2_with fail
  refine (getI_ok w1 base g R bs p 64 D1 HBS.out (by omega) (by omega) (by have : (64 : Int).toNat = 64 := rfl; omega)).mono ?_
  rw [show (64 : Int).toNat = 64 from rfl, HV.out]
  rintro e w2 ⟨rfl, D2, T2⟩
  have S2 := S1.touch T2 (by omega) (by simp)
  have R2 := R1.touch T2 (by omega) (by simp)
  have K2 := K1.trans T2 (.inl rfl)
  clear s0 s1 s2 s3 S1 R1 D1 K1 T2
  go_wp2_with fail
  refine wp_region_noPanic ?_
  refine wp_region_held_drew (S := fun W : World => W.cell? ⟨w.heap.size, 0, none⟩ = some (.int .i64 0) ∧ W.cell? ⟨w.heap.size, 1, none⟩ = some (.int .u64 (V : Nat)) ∧ W.cell? ⟨w.heap.size, 2, none⟩ = some (.int .i64 (a : Nat)) ∧ W.cell? ⟨w.heap.size, 3, none⟩ = some (.int .i64 (b : Nat))) (by kernel_rfl) ((S2.drewN 1).cells4) (fun hSt => ?_)
  have S3 : Blk w2.drew w.heap.size 48 _ := S2
  have R3 : Blk w2.drew (w.heap.size + 1) 48 _ := R2
  have D3 : Rd w2.drew base g R bs _ := D2
  have K3 : Touch g none w w2.drew := K2.drewN 1
  clear S2 R2 D2 K2
  generalize w2.drew = w3 at *
  refine wpAnyH_picks [0, 1, 2, 5, 6] 5 (by rfl) (by kernel_rfl) (by kernel_rfl) (by kernel_rfl) (fun _ _ _ _ _ h => h) (by assumption) ?_
  simp only [picks, List.drop_succ_cons, List.drop_zero, List.take_succ_cons, List.take_zero, List.cons_append, List.nil_append]
  repeat (first
    | (refine wpY_skip (by rfl) ?_; simp only [Act.put, List.setIfInBounds_toArray, List.set_cons_zero, List.set_cons_succ])
    | (refine wpY_want (v := ?_) (by rfl) (fun W hW => ?_) ?_; rotate_left; (obtain ⟨hW0, hW1, hW2, hW3⟩ := hW; go_simp; try with_reducible rfl); simp only [Act.put, List.setIfInBounds_toArray, List.set_cons_zero, List.set_cons_succ]))
  refine wpY_nil ?_
  refine wpAnyH_one 3 4 (by rfl) (by rfl) (by kernel_rfl) (fun K hK => ?_)
  go_simp
  refine (window_any _ V a b _).mono ?_
  rintro e w4 ⟨rfl, hB4⟩
  have S4 := S3.below hB4
  have R4 := R3.below hB4
  have D4 := D3.below hB4
  have K4 := K3.trans (Touch.of_below hB4 g none) (.inl rfl)
  clear S3 R3 D3 K3 hB4
  refine hK.out _ _ (S4.cells4) (fun hSt => ?_)
  clear hK K
  try simp only [Act.put, List.setIfInBounds_toArray, List.set_cons_zero, List.set_cons_succ]
  have S3 := S4
  have R3 := R4
  have D3 := D4
  have K3 := K4
  clear S4 R4 D4 K4
  refine wpAnyH_one 4 3 (by rfl) (by rfl) (by kernel_rfl) (fun K hK => ?_)
  go_simp
  refine (xnext_any _ V a b v a b _ (by omega) (by omega)).mono ?_
  rintro e w5 ⟨rfl, hB5⟩
  have S4 := S3.below hB5
  have R4 := R3.below hB5
  have D4 := D3.below hB5
  have K4 := K3.trans (Touch.of_below hB5 g none) (.inl rfl)
  clear S3 R3 D3 K3 hB5
  refine hK.out _ _ (S4.cells4) (fun hSt => ?_)
  clear hK K
  try simp only [Act.put, List.setIfInBounds_toArray, List.set_cons_zero, List.set_cons_succ]
  obtain ⟨d0, d1, d2, d3⟩ := R4.cells4
  obtain ⟨e0, e1, e2, e3⟩ := R4.free4
  refine wpAnyH_one 7 2 (by rfl) (by rfl) (by kernel_rfl) (fun K hK => ?_)
  go_simp
  refine hK.out _ _ ((S4.farSet4 (g' := w.heap.size + 1) (by omega) _ _ _ _).cells4) (fun hSt => ?_)
  clear hK K
  try simp only [Act.put, List.setIfInBounds_toArray, List.set_cons_zero, List.set_cons_succ]
  refine wpAnyH_picks [8, 9] 0 (by rfl) (by kernel_rfl) (by kernel_rfl) (by kernel_rfl) (fun _ _ _ _ _ h => h) (by assumption) ?_
  simp only [picks, List.drop_succ_cons, List.drop_zero, List.take_succ_cons, List.take_zero, List.cons_append, List.nil_append]
  repeat (first
    | (refine wpY_skip (by rfl) ?_; simp only [Act.put, List.setIfInBounds_toArray, List.set_cons_zero, List.set_cons_succ])
    | (refine wpY_want (v := ?_) (by rfl) (fun W hW => ?_) ?_; rotate_left; (go_simp; try with_reducible rfl); simp only [Act.put, List.setIfInBounds_toArray, List.set_cons_zero, List.set_cons_succ]))
  refine wpY_nil ?_
  refine wpAnyH_done (by kernel_rfl) ?_ _
  refine NoPanic.normal ?_
  have R6 := R4
  have K6 := K4
  go_wp2_with fail
  obtain ⟨q0, q1, q2, q3⟩ := (R6.set4 (.int .i64 1) (.int .u64 (v : Nat)) (.int .i64 (a : Nat)) (.int .i64 (b : Nat))).cells4
  refine bodyPost_ret (v := .tuple #[.agg #[.int .i64 1, .int .u64 (v : Nat), .int .i64 (a : Nat), .int .i64 (b : Nat)], .int .u64 (v : Nat), .int .i64 0]) (by simp [results, Tryd.results45, go_sem, q0, q1, q2, q3]) rfl ⟨rfl, D4.set4 (by omega) NR.out _ _ _ _, K6.set4 (by omega) _ _ _ _⟩

set_option maxHeartbeats 1600000 in
theorem xGet_d0 (w : World) (base g : Nat) (R : Option Nat) (bs : List Int) (p : Nat) (N : Int) (V a b : Nat) (h : Rd w base g R bs p) (hT : XorTab w) (hb : 2 ≤ base) (hbs : ∀ x ∈ bs, Byte x) (hR : ∀ k, R = some k → k < w.heap.size) (hg : rightX N a b = true) (hN : N ≠ 0) (hE : getE ((unB bs).drop p) a b = none) :
    Calls Tryd.prog 45 #[.pointer (some ⟨g, 0, none⟩), .agg #[.int .i64 N, .int .u64 (V : Nat), .int .i64 (a : Nat), .int .i64 (b : Nat)]] w fun e w' => e = .returned (.tuple #[.agg #[.int .i64 0, .int .u64 0, .int .i64 0, .int .i64 0], .int .u64 0, .int .i64 50]) ∧ RdS w' base g R bs ∧ Touch g none w w' := by
  obtain ⟨S0, R0, H0⟩ := four_new w (.int .i64 N) (.int .u64 (V : Nat)) (.int .i64 (a : Nat)) (.int .i64 (b : Nat)) (.int .i64 0) (.int .u64 0) (.int .i64 0) (.int .i64 0) 48 48
  have hlt := h.lt
  have hg2 : 2 ≤ g := Nat.le_trans hb h.1
  have HBS := Lib.hid hbs
  have HR := Lib.hid hR
  have nR : R ≠ some (w.heap.size + 1) := fun e => by have := hR _ e; omega
  have NR := Lib.hid nR
  have hpl := h.place
  clear nR hR hbs
  have hNb : (N == 0) = false := beq_eq_false_iff_ne.2 hN
  obtain ⟨n1, n2, n3⟩ := rightX_of hg
  have hab : a = 64 ∧ b = 0 ∨ a + b ≤ 63 := by omega
  have HAB := Lib.hid hab
  have HE := Lib.hid hE
  clear hab hE hN n3
  have HG := Lib.hid hg
  clear hg
  go_enter Tryd.func45, Tryd.ntmps45
  go_wp2_with fail
  refine (xright_yes _ V a b _ HG.out).mono ?_
  rintro e w1 ⟨rfl, hB1⟩
  have H1 := below_more H0 hB1
  have S1 := S0.below hB1
  have R1 := R0.below hB1
  have D1 := h.below H1
  have K1 := Touch.of_below H1 g none
  clear S0 R0 H0 hB1 H1
  obtain ⟨s0, s1, s2, s3⟩ := S1.cells4
  go_wp2_with fail
  refine (window_any N V a b _).mono ?_
  rintro e w2 ⟨rfl, hB2⟩
  have R2 := R1.below hB2
  have D2 := D1.below hB2
  have K2 := K1.trans (Touch.of_below hB2 g none) (.inl rfl)
  clear s0 s1 s2 s3
  go_wp2_with fail
  refine (diff_no w2 base g R bs p a b D2 (hT.touch K2 hg2 (by simp)) hb HBS.out (fun k hk => by have := HR.out k hk; have := K2.size; omega) HAB.out HE.out).mono ?_
  rintro e w3 ⟨x, a1, b1, rfl, ⟨p3, D3⟩, T3⟩
  have R3 := R2.touch T3 (by omega) (by simp)
  have K3 := K2.trans T3 (.inl rfl)
  have A4 : Below w3.heap.size w3 (w3.alloc (.cells #[.int .i64 a1, .int .i64 b1] 113)) := (Below.refl _ w3).alloc (Nat.le_refl _) _
  have R4 := R3.below A4
  have D4 := D3.below A4
  have K4 := K3.trans (Touch.of_below A4 g none) (.inl rfl)
  obtain ⟨d0, d1, d2, d3⟩ := R4.cells4
  obtain ⟨e0, e1, e2, e3⟩ := R4.free4
  go_wp2_with fail
  obtain ⟨q0, q1, q2, q3⟩ := (R4.set4 (.int .i64 0) (.int .u64 0) (.int .i64 0) (.int .i64 0)).cells4
  refine bodyPost_ret (v := .tuple #[.agg #[.int .i64 0, .int .u64 0, .int .i64 0, .int .i64 0], .int .u64 0, .int .i64 50]) (by simp [results, Tryd.results45, go_sem, q0, q1, q2, q3]) rfl ⟨rfl, ⟨_, D4.set4 (by omega) NR.out _ _ _ _⟩, K4.set4 (by omega) _ _ _ _⟩

set_option maxHeartbeats 3200000 in
theorem xGet_d1 (w : World) (base g : Nat) (R : Option Nat) (bs : List Int) (p : Nat) (N : Int) (V a b : Nat) (X A B c : Nat) (h : Rd w base g R bs p) (hT : XorTab w) (hb : 2 ≤ base) (hbs : ∀ x ∈ bs, Byte x) (hR : ∀ k, R = some k → k < w.heap.size) (hg : rightX N a b = true) (hN : N ≠ 0) (hV : V < 18446744073709551616) (hX : X < 18446744073709551616) (hE : getE ((unB bs).drop p) a b = some (X, A, B, c)) :
    Calls Tryd.prog 45 #[.pointer (some ⟨g, 0, none⟩), .agg #[.int .i64 N, .int .u64 (V : Nat), .int .i64 (a : Nat), .int .i64 (b : Nat)]] w fun e w' => e = .returned (.tuple #[.agg #[.int .i64 (N + 1), .int .u64 (V ^^^ X : Nat), .int .i64 (A : Nat), .int .i64 (B : Nat)], .int .u64 (V ^^^ X : Nat), .int .i64 0]) ∧ Rd w' base g R bs (p + c) ∧ Touch g none w w' := by
  obtain ⟨S0, R0, H0⟩ := four_new w (.int .i64 N) (.int .u64 (V : Nat)) (.int .i64 (a : Nat)) (.int .i64 (b : Nat)) (.int .i64 0) (.int .u64 0) (.int .i64 0) (.int .i64 0) 48 48
  have hlt := h.lt
  have hg2 : 2 ≤ g := Nat.le_trans hb h.1
  have HBS := Lib.hid hbs
  have HR := Lib.hid hR
  have nR : R ≠ some (w.heap.size + 1) := fun e => by have := hR _ e; omega
  have NR := Lib.hid nR
  have hpl := h.place
  clear nR hR hbs
  have hNb : (N == 0) = false := beq_eq_false_iff_ne.2 hN
  obtain ⟨n1, n2, n3⟩ := rightX_of hg
  have hab : a = 64 ∧ b = 0 ∨ a + b ≤ 63 := by omega
  have HAB := Lib.hid hab
  have HE := Lib.hid hE
  have hxx := u64_xor_nat V X hV hX
  obtain ⟨v, hv⟩ : ∃ v, V ^^^ X = v := ⟨_, rfl⟩
  rw [hv] at hxx ⊢
  clear hab hE hN n3 hv hV hX
  have HG := Lib.hid hg
  clear hg
  go_enter Tryd.func45, Tryd.ntmps45
  go_wp2_with fail
  refine (xright_yes _ V a b _ HG.out).mono ?_
  rintro e w1 ⟨rfl, hB1⟩
  have H1 := below_more H0 hB1
  have S1 := S0.below hB1
  have R1 := R0.below hB1
  have D1 := h.below H1
  have K1 := Touch.of_below H1 g none
  clear S0 R0 H0 hB1 H1
  obtain ⟨s0, s1, s2, s3⟩ := S1.cells4
  go_wp2_with fail
  refine (window_any N V a b _).mono ?_
  rintro e w2 ⟨rfl, hB2⟩
  have S2 := S1.below hB2
  have R2 := R1.below hB2
  have D2 := D1.below hB2
  have K2 := K1.trans (Touch.of_below hB2 g none) (.inl rfl)
  clear s0 s1 s2 s3
  go_wp2_with fail
  refine (diff_ok w2 base g R bs p a b X A B c D2 (hT.touch K2 hg2 (by simp)) hb HBS.out (fun k hk => by have := HR.out k hk; have := K2.size; omega) HAB.out HE.out).mono ?_
  rintro e w3 ⟨rfl, D3, T3⟩
  have S3 := S2.touch T3 (by omega) (by simp)
  have R3 := R2.touch T3 (by omega) (by simp)
  have K3 := K2.trans T3 (.inl rfl)
  have A4 : Below w3.heap.size w3 (w3.alloc (.cells #[.int .i64 (A : Nat), .int .i64 (B : Nat)] 113)) := (Below.refl _ w3).alloc (Nat.le_refl _) _
  have S4 := S3.below A4
  have R4 := R3.below A4
  have D4 := D3.below A4
  have K4 := K3.trans (Touch.of_below A4 g none) (.inl rfl)
  have Y4 := Blk.new w3 113 #[.int .i64 (A : Nat), .int .i64 (B : Nat)]
  have hz3 := R3.lt
  clear S1 R1 D1 K1 S2 R2 D2 K2 S3 R3 D3 K3 T3 hB2
  go_wp2_with fail
  obtain ⟨y, hy⟩ : ∃ y, w3.heap.size = y := ⟨_, rfl⟩
  rw [hy] at Y4 hz3 ⊢
  generalize w3.alloc (.cells #[.int .i64 (A : Nat), .int .i64 (B : Nat)] 113) = w4 at *
  clear A4 hy
  refine wp_region_noPanic ?_
  refine wp_region_held_drew (S := fun W : World => (W.cell? ⟨w.heap.size, 0, none⟩ = some (.int .i64 N) ∧ W.cell? ⟨w.heap.size, 1, none⟩ = some (.int .u64 (V : Nat)) ∧ W.cell? ⟨w.heap.size, 2, none⟩ = some (.int .i64 (a : Nat)) ∧ W.cell? ⟨w.heap.size, 3, none⟩ = some (.int .i64 (b : Nat))) ∧ W.cell? ⟨y, 0, none⟩ = some (.int .i64 (A : Nat)) ∧ W.cell? ⟨y, 1, none⟩ = some (.int .i64 (B : Nat))) (by kernel_rfl) (⟨(S4.drewN 1).cells4, (Y4.drewN 1).cells2⟩) (fun hSt => ?_)
  have S3 : Blk w4.drew w.heap.size 48 _ := S4
  have R3 : Blk w4.drew (w.heap.size + 1) 48 _ := R4
  have Y3 : Blk w4.drew y 113 _ := Y4
  have D3 : Rd w4.drew base g R bs _ := D4
  have K3 : Touch g none w w4.drew := K4.drewN 1
  clear S4 R4 D4 K4 Y4
  generalize w4.drew = w5 at *
  refine wpAnyH_picks [0, 1, 2, 3, 4, 5, 7, 8, 9, 10, 11] 4 (by rfl) (by kernel_rfl) (by kernel_rfl) (by kernel_rfl) (fun _ _ _ _ _ h => h) (by assumption) ?_
  simp only [picks, List.drop_succ_cons, List.drop_zero, List.take_succ_cons, List.take_zero, List.cons_append, List.nil_append]
  repeat (first
    | (refine wpY_skip (by rfl) ?_; simp only [Act.put, List.setIfInBounds_toArray, List.set_cons_zero, List.set_cons_succ])
    | (refine wpY_want (v := ?_) (by rfl) (fun W hW => ?_) ?_; rotate_left; (obtain ⟨⟨hW0, hW1, hW2, hW3⟩, hW4, hW5⟩ := hW; go_simp; try with_reducible rfl); simp only [Act.put, List.setIfInBounds_toArray, List.set_cons_zero, List.set_cons_succ]))
  refine wpY_nil ?_
  refine wpAnyH_one 6 3 (by rfl) (by rfl) (by kernel_rfl) (fun K hK => ?_)
  go_simp
  refine (xnext_any N V a b v A B _ n1 n2).mono ?_
  rintro e w6 ⟨rfl, hB6⟩
  have Y4 := Y3.below hB6
  have S4 := S3.below hB6
  have R4 := R3.below hB6
  have D4 := D3.below hB6
  have K4 := K3.trans (Touch.of_below hB6 g none) (.inl rfl)
  clear S3 R3 D3 K3 hB6
  refine hK.out _ _ (⟨S4.cells4, Y4.cells2⟩) (fun hSt => ?_)
  clear hK K
  try simp only [Act.put, List.setIfInBounds_toArray, List.set_cons_zero, List.set_cons_succ]
  obtain ⟨d0, d1, d2, d3⟩ := R4.cells4
  obtain ⟨e0, e1, e2, e3⟩ := R4.free4
  refine wpAnyH_one 12 2 (by rfl) (by rfl) (by kernel_rfl) (fun K hK => ?_)
  go_simp
  refine hK.out _ _ (⟨(S4.farSet4 (g' := w.heap.size + 1) (by omega) _ _ _ _).cells4, (Y4.farSet4 (g' := w.heap.size + 1) (by omega) _ _ _ _).cells2⟩) (fun hSt => ?_)
  clear hK K
  try simp only [Act.put, List.setIfInBounds_toArray, List.set_cons_zero, List.set_cons_succ]
  refine wpAnyH_picks [13, 14] 0 (by rfl) (by kernel_rfl) (by kernel_rfl) (by kernel_rfl) (fun _ _ _ _ _ h => h) (by assumption) ?_
  simp only [picks, List.drop_succ_cons, List.drop_zero, List.take_succ_cons, List.take_zero, List.cons_append, List.nil_append]
  repeat (first
    | (refine wpY_skip (by rfl) ?_; simp only [Act.put, List.setIfInBounds_toArray, List.set_cons_zero, List.set_cons_succ])
    | (refine wpY_want (v := ?_) (by rfl) (fun W hW => ?_) ?_; rotate_left; (go_simp; try with_reducible rfl); simp only [Act.put, List.setIfInBounds_toArray, List.set_cons_zero, List.set_cons_succ]))
  refine wpY_nil ?_
  refine wpAnyH_done (by kernel_rfl) ?_ _
  refine NoPanic.normal ?_
  have R6 := R4
  have K6 := K4
  go_wp2_with fail
  obtain ⟨q0, q1, q2, q3⟩ := (R6.set4 (.int .i64 (N + 1)) (.int .u64 (v : Nat)) (.int .i64 (A : Nat)) (.int .i64 (B : Nat))).cells4
  refine bodyPost_ret (v := .tuple #[.agg #[.int .i64 (N + 1), .int .u64 (v : Nat), .int .i64 (A : Nat), .int .i64 (B : Nat)], .int .u64 (v : Nat), .int .i64 0]) (by simp [results, Tryd.results45, go_sem, q0, q1, q2, q3]) rfl ⟨rfl, D4.set4 (by omega) NR.out _ _ _ _, K6.set4 (by omega) _ _ _ _⟩

theorem getX_e {l : List Bool} {N : Int} {V a b : Nat} (hN : N ≠ 0) : getX l N V a b = match getE l a b with | none => (50, 0, 0, 0, 0) | some r => (0, V ^^^ r.1, r.2.1, r.2.2.1, r.2.2.2) := by
  unfold getX
  rw [if_neg hN, getD_getE]
  cases getE l a b with
  | none => rfl
  | some r => rfl
theorem xGet_ok (w : World) (base g : Nat) (R : Option Nat) (bs : List Int) (p : Nat) (N : Int) (V a b : Nat) (v A B c : Nat) (h : Rd w base g R bs p) (hT : XorTab w) (hb : 2 ≤ base) (hbs : ∀ x ∈ bs, Byte x) (hR : ∀ k, R = some k → k < w.heap.size) (hg : rightX N a b = true) (hV : V < 18446744073709551616) (hG : getX ((unB bs).drop p) N V a b = (0, v, A, B, c)) :
    Calls Tryd.prog 45 #[.pointer (some ⟨g, 0, none⟩), .agg #[.int .i64 N, .int .u64 (V : Nat), .int .i64 (a : Nat), .int .i64 (b : Nat)]] w fun e w' => e = .returned (.tuple #[.agg #[.int .i64 (N + 1), .int .u64 (v : Nat), .int .i64 (A : Nat), .int .i64 (B : Nat)], .int .u64 (v : Nat), .int .i64 0]) ∧ Rd w' base g R bs (p + c) ∧ Touch g none w w' := by
  by_cases hN : N = 0
  · unfold getX at hG
    rw [if_pos hN] at hG
    split at hG
    · simp at hG
    · rename_i hl
      simp only [Prod.mk.injEq, true_and] at hG
      obtain ⟨hv, rfl, rfl, rfl⟩ := hG
      exact xGet_f1 w base g R bs p N V _ _ v h hT hb hbs hR hg hN (by omega) hv
  · rw [getX_e hN] at hG
    cases hE : getE ((unB bs).drop p) a b with
    | none => rw [hE] at hG; simp at hG
    | some r =>
      obtain ⟨X, A', B', c'⟩ := r
      rw [hE] at hG
      simp only [Prod.mk.injEq, true_and] at hG
      obtain ⟨rfl, rfl, rfl, rfl⟩ := hG
      have hd := getD_getE ((unB bs).drop p) a b
      rw [hE] at hd
      obtain ⟨_, _, n3⟩ := rightX_of hg
      have hX := (getD_take _ _ _ _ _ _ _ (by omega) hd).1
      exact xGet_d1 w base g R bs p N V a b X _ _ _ h hT hb hbs hR hg hN hV (by simpa using hX) hE
theorem xGet_no (w : World) (base g : Nat) (R : Option Nat) (bs : List Int) (p : Nat) (N : Int) (V a b : Nat) (h : Rd w base g R bs p) (hT : XorTab w) (hb : 2 ≤ base) (hbs : ∀ x ∈ bs, Byte x) (hR : ∀ k, R = some k → k < w.heap.size) (hg : rightX N a b = true) (hG : (getX ((unB bs).drop p) N V a b).1 ≠ 0) :
    Calls Tryd.prog 45 #[.pointer (some ⟨g, 0, none⟩), .agg #[.int .i64 N, .int .u64 (V : Nat), .int .i64 (a : Nat), .int .i64 (b : Nat)]] w fun e w' => e = .returned (.tuple #[.agg #[.int .i64 0, .int .u64 0, .int .i64 0, .int .i64 0], .int .u64 0, .int .i64 50]) ∧ RdS w' base g R bs ∧ Touch g none w w' := by
  by_cases hN : N = 0
  · unfold getX at hG
    rw [if_pos hN] at hG
    split at hG
    · rename_i hl
      exact xGet_f0 w base g R bs p N V a b h hT hb hbs hR hg hN hl
    · simp at hG
  · rw [getX_e hN] at hG
    cases hE : getE ((unB bs).drop p) a b with
    | none => exact xGet_d0 w base g R bs p N V a b h hT hb hbs hR hg hN hE
    | some r => rw [hE] at hG; simp at hG
end Go.Proofs.YtlgndfckmnninaaDoor
