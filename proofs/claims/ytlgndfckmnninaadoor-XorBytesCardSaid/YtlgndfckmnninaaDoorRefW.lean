/- Walks of the reference's writer of bits. Conditions: as stated. -/
import Derived.Test.YtlgndfckmnninaaDoorBitsP
namespace Go.Proofs.YtlgndfckmnninaaDoor
open Go.RowKit

/-- Bools as values. -/
def bls (L : List Bool) : List Value := L.map Value.bool
theorem bls_length (L : List Bool) : (bls L).length = L.length := by simp [bls]
theorem bls_append (L M : List Bool) : bls (L ++ M) = bls L ++ bls M := by simp [bls]

/-- The reference's writer: block g; B: the block that holds its bits, if there is one. -/
def Rw (w : World) (base g : Nat) (B : Option Nat) (L : List Bool) : Prop :=
  base ≤ g ∧ ∃ v, Blk w g 36 #[v] ∧ w.ownsRow base 4 1 v L.length (bls L) ∧ v.ownBlock = B

section
variable {w w' : World} {base g g' : Nat} {B B' : Option Nat} {L : List Bool}
theorem Rw.touch (h : Rw w base g B L) (ht : Touch g' B' w w') (h1 : g ≠ g') (h2 : some g ≠ B') (h3 : B ≠ some g') (h4 : B = none ∨ B ≠ B') : Rw w' base g B L := by
  obtain ⟨hb, v, hg, ho, rfl⟩ := h
  exact ⟨hb, v, hg.touch ht h1 h2, own_touch ho ht h3 h4, rfl⟩
theorem Rw.below (h : Rw w base g B L) (hb : Below w.heap.size w w') : Rw w' base g B L := by
  obtain ⟨h1, v, hg, ho, rfl⟩ := h
  exact ⟨h1, v, hg.below hb, ho.kept (row := none) ⟨hb.os, hb.tape, hb.output, hb.size, fun i hi _ => hb.block i hi⟩ (by cases v.ownBlock <;> simp), rfl⟩
theorem Rw.drewN (h : Rw w base g B L) (n : Nat) : Rw (w.drewN n) base g B L := h
theorem Rw.row (h : Rw w base g B L) : ∀ k, B = some k → base ≤ k ∧ k < w.heap.size := by
  obtain ⟨_, v, _, ho, rfl⟩ := h
  exact fun k hk => ho.lt k hk
theorem Rw.lt (h : Rw w base g B L) : g < w.heap.size := by
  obtain ⟨_, v, hg, _, _⟩ := h
  exact hg.lt
theorem Rw.ne (h : Rw w base g B L) : B ≠ some g := by
  obtain ⟨_, v, hg, ho, rfl⟩ := h
  exact own_blk_ne ho hg (by decide)
/-- A writer of the program's and one of the reference's share nothing. -/
theorem Wr.apart {bs gs : Nat} {Bs : Option Nat} {M : List Bool} (h : Wr w base g B L) (k : Rw w bs gs Bs M) : g ≠ gs ∧ some g ≠ Bs ∧ B ≠ some gs ∧ (B = none ∨ B ≠ Bs) := by
  obtain ⟨_, v, hg, ho, rfl⟩ := h
  obtain ⟨_, v', hg', ho', rfl⟩ := k
  refine ⟨hg.ne_ hg' (by decide), (own_blk_ne ho' hg (by decide)).symm, own_blk_ne ho hg' (by decide), ?_⟩
  rcases ho.2 with ⟨rfl, _⟩ | ⟨r, cap, cur, rfl, _, hh, _⟩
  · exact .inl rfl
  · exact .inr fun e => own_blk_ne ho' (t := 5) (cs := cur) (g := r) hh (by decide) (by simpa [Value.ownBlock] using e.symm)
theorem Rw.apart {bs gs : Nat} {Bs : Option Nat} {M : List Bool} (h : Rw w base g B L) (k : Wr w bs gs Bs M) : g ≠ gs ∧ some g ≠ Bs ∧ B ≠ some gs ∧ (B = none ∨ B ≠ Bs) := by
  obtain ⟨_, v, hg, ho, rfl⟩ := h
  obtain ⟨_, v', hg', ho', rfl⟩ := k
  refine ⟨hg.ne_ hg' (by decide), (own_blk_ne ho' hg (by decide)).symm, own_blk_ne ho hg' (by decide), ?_⟩
  rcases ho.2 with ⟨rfl, _⟩ | ⟨r, cap, cur, rfl, _, hh, _⟩
  · exact .inl rfl
  · exact .inr fun e => own_blk_ne ho' (t := 4) (cs := cur) (g := r) hh (by decide) (by simpa [Value.ownBlock] using e.symm)
end

theorem own_slice {w : World} {base n : Nat} {e : TypeId} {size : Nat} {v : Value} {xs : List Value} (h : w.ownsRow base e size v n xs) : ∃ A c, v = .slice A n c ∧ n ≤ c ∧ c ≤ 9223372036854775807 := by
  rcases h.2 with ⟨rfl, rfl⟩ | ⟨g, cap, cur, rfl, _, _, h1, h2, _⟩
  · exact ⟨none, 0, rfl, Nat.le_refl _, by omega⟩
  · exact ⟨_, cap, rfl, h1, by simp only [maxLen] at h2; omega⟩

theorem own_lt {w : World} {base r n c : Nat} {e : TypeId} {xs : List Value} (h : w.ownsRow base e 1 (.slice (some ⟨r, 0, none⟩) n c) n xs) : r < w.heap.size := (own_blk h).lt

set_option maxHeartbeats 1600000 in
theorem refPut_nat (w : World) (base g : Nat) (B : Option Nat) (L : List Bool) (x n : Nat) (h : Rw w base g B L) (hx : x < 18446744073709551616) (hn : n ≤ 64) (hL : L.length + n ≤ 524288) (hbase : base ≤ w.heap.size) :
    Calls Tryd.prog 20 #[.pointer (some ⟨g, 0, none⟩), .int .u64 x, .int .i64 n] w fun e w' => e = .returned (.int .i64 0) ∧
      ∃ B', Rw w' base g B' (L ++ bitsOf n x) ∧ (B' = B ∨ ∃ b, B' = some b ∧ w.heap.size ≤ b) ∧ Touch g B w w' := by
  obtain ⟨hg0, v, hg, ho, hB⟩ := h
  have hne := own_blk_ne ho hg (by decide)
  obtain ⟨A, c, rfl, hc1, hc2⟩ := own_slice ho
  have c0 := hg.cell 0
  simp at c0
  have hmk := run_make_row' (P := Tryd.prog) 34 4 (.bool false) 1 Tryd.underlying34 Tryd.info4 rfl .i64 .i64 n (by omega) (by omega)
  go_enter Tryd.func20, Tryd.ntmps20
  go_wp2
  go_loopw [8, 1] (fun i xv wr => ∃ m X : Nat, i = .int .i64 ((m : Int) - 1) ∧ xv = .int .u64 X ∧ m ≤ n ∧ X < 18446744073709551616 ∧ Hid (X = x / 2 ^ (n - m)) ∧
      wr.ownsRow w.heap.size 4 1 (.slice (some ⟨w.heap.size, 0, none⟩) n n) n (bls (List.replicate m false ++ bitsOf (n - m) x)) ∧ Below w.heap.size w wr) (fun i _ _ => (intOf i + 1).toNat)
  case atStart =>
    refine ⟨n, x, rfl, rfl, Nat.le_refl _, hx, by rw [Nat.sub_self, Nat.pow_zero, Nat.div_one]; exact rfl, ?_, (Below.refl _ _).alloc (Nat.le_refl _) _⟩
    rw [Nat.sub_self]
    have := World.ownsRow_lit (base := w.heap.size) (e := 4) (size := 1) w (madeCells #[.bool false] n) n (Nat.le_refl _) (by simp only [maxLen]; omega) (by simp [size_madeCells])
    rwa [show (madeCells #[Value.bool false] n).toList = bls (List.replicate n false ++ bitsOf 0 x) from ?_] at this
    rw [bitsOf, List.append_nil]
    apply List.ext_getElem
    · simp [bls, madeCells]
    · intro i h1 h2
      simp [bls, madeCells, Nat.mod_one]
  case round =>
    obtain ⟨m, X, rfl, rfl, hmn, hX64, hX, hr, hb⟩ := hrel
    rcases Nat.eq_zero_or_pos m with h0 | h0
    · subst h0
      rw [Nat.sub_zero, List.replicate_zero, List.nil_append] at hr
      have hgr := hg.below hb
      have hor := ho.kept (w' := wr) (row := none) ⟨hb.os, hb.tape, hb.output, hb.size, fun i hi _ => hb.block i hi⟩ (by cases Value.ownBlock (.slice A L.length c) <;> simp)
      have hz := hb.size
      have hlt := hg.lt
      have hz2 := own_lt hr
      have c3 := hgr.cell 0
      have e3 := hgr.frozen 0
      simp at c3
      obtain ⟨i0, hi, hi0, hi1, hi2⟩ := info_parts Tryd.info4
      go_wp2_with (at_builtin; refine wpList_append_own_at _ rfl _ _ _ rfl base 4 i0 (.bool false) 1 1 Tryd.underlying34 hi hi0 hi1 hi2 rfl (by omega) (.slice A L.length c) L.length (bls L) (by rfl) hor ⟨w.heap.size, 0, none⟩ n n (bls (bitsOf n x)) (by rfl) (by rw [bls_length, length_bitsOf, Nat.mul_one]) (hr.cells (g := w.heap.size) rfl) (by intro u hu; simp [bls] at hu; rcases hu with ⟨_, rfl⟩ | ⟨_, rfl⟩ <;> rfl) (by simp only [maxLen]; omega) (by omega) (by omega) ?_; intro v2 w2 hown2 hg2 hnil2 hat2; obtain ⟨A2, c2, rfl, _, _⟩ := own_slice hown2; have hg3 := hgr.grown hg2 (Ne.symm hne); have c4 := hg3.cell 0; have e4 := hg3.frozen 0; simp at c4)
      go_ret
      have hne2 := own_blk_ne hown2 hg3 (by decide)
      have hown3 := own_touch hown2 ((Touch.refl g none w2).set_ 0 (.slice A2 (L.length + n) c2)) hne2 (by
        cases Value.ownBlock (.slice A2 (L.length + n) c2)
        · exact .inl rfl
        · exact .inr (by simp))
      refine ⟨rfl, Value.ownBlock (.slice A2 (L.length + n) c2), ⟨hg0, .slice A2 (L.length + n) c2, hg3.set_ 0 _, ?_, rfl⟩, ?_, ?_⟩
      · rw [List.length_append, length_bitsOf, bls_append]
        exact hown3
      · rcases hat2 with h | h
        · exact .inl (h.trans hB)
        · exact .inr ⟨_, h, hz⟩
      · exact ((Touch.of_below hb g B).grown hg2 (.inl hB)).set_ 0 _
    · obtain ⟨j, rfl⟩ : ∃ j, m = j + 1 := ⟨m - 1, by omega⟩
      rw [show ((j + 1 : Nat) : Int) - 1 = (j : Int) by omega]
      have hblk := own_blk hr
      have e0 := hblk.frozen j
      obtain ⟨u, hu⟩ : ∃ u, wr.cell? ⟨w.heap.size, j, none⟩ = some u := by
        have := hr.cells (g := w.heap.size) rfl j ((bls (List.replicate (j + 1) false ++ bitsOf (n - (j + 1)) x))[j]'(by simp [bls, length_bitsOf]; omega)) (List.getElem?_eq_getElem _)
        have ha : (⟨w.heap.size, 0, none⟩ : Addr).add j = ⟨w.heap.size, j, none⟩ := by unfold Addr.add; split <;> simp_all
        rw [ha] at this
        exact ⟨_, this⟩
      have hbb : ((X : Int) % 2 == 1) = (X % 2 == 1) := by rw [Bool.eq_iff_iff]; simp; omega
      have hjn : (j : Int) < (n : Int) := by omega
      go_wp2
      go_roundw
      case rel =>
        have hst := hr.stored j (.bool (X % 2 == 1))
        refine ⟨j, X / 2, rfl, by first | rfl | go_num, by omega, by omega, ?_, ?_, hb.setCell (Nat.le_refl _) _⟩
        · have e : n - j = (n - (j + 1)) + 1 := by omega
          unfold Hid
          rw [hX.out, e, Nat.pow_succ, Nat.div_div_eq_div_mul]
        · have e : (bls (List.replicate (j + 1) false ++ bitsOf (n - (j + 1)) x)).set j (.bool (X % 2 == 1)) = bls (List.replicate j false ++ bitsOf (n - j) x) := by
            have e1 : n - j = 1 + (n - (j + 1)) := by omega
            rw [e1, bitsOf_add, ← hX.out, List.replicate_succ', List.append_assoc, bls_append, bls_append, bls_append, bls_append, List.set_append_right _ _ (by simp [bls])]
            simp [bls, bitsOf]
          rw [← e]
          exact hst.1
      case measure => simp [intOf]

theorem refPut_any (w : World) (base g : Nat) (B : Option Nat) (L : List Bool) (x : Nat) (n : Int) (h : Rw w base g B L) (hx : x < 18446744073709551616) (hL : L.length ≤ 524288) (hbase : base ≤ w.heap.size) :
    Calls Tryd.prog 20 #[.pointer (some ⟨g, 0, none⟩), .int .u64 x, .int .i64 n] w fun e w' => e = .returned (.int .i64 (putCode L.length n)) ∧
      ∃ B', Rw w' base g B' (putBits L n x) ∧ (B' = B ∨ ∃ b, B' = some b ∧ w.heap.size ≤ b) ∧ Touch g B w w' := by
  by_cases h1 : n < 0 ∨ 64 < n
  · have e1 : putCode L.length n = 2 := by unfold putCode; rw [if_pos h1]
    have e2 : putBits L n x = L := by unfold putBits; rw [e1, if_neg (by decide)]
    rw [e1, e2]
    clear e1 e2
    rcases Int.lt_or_le n 0 with h2 | h2
    · have d1 : decide (n < 0) = true := by simp [h2]
      clear h1
      go_enter Tryd.func20, Tryd.ntmps20
      go_wp2
      go_ret
      exact ⟨rfl, B, h, .inl rfl, Touch.refl g B _⟩
    · have h3 : 64 < n := by omega
      clear h1
      go_enter Tryd.func20, Tryd.ntmps20
      go_wp2
      go_ret
      exact ⟨rfl, B, h, .inl rfl, Touch.refl g B _⟩
  · obtain ⟨N, rfl⟩ : ∃ N : Nat, n = N := Int.eq_ofNat_of_zero_le (by omega)
    have hN : N ≤ 64 := by omega
    by_cases h2 : 524288 < L.length + N
    · have e1 : putCode L.length N = 3 := by unfold putCode; rw [if_neg h1, if_pos (by omega)]
      have e2 : putBits L N x = L := by unfold putBits; rw [e1, if_neg (by decide)]
      rw [e1, e2]
      clear e1 e2 h1
      obtain ⟨_, v, hg, ho, _⟩ := id h
      obtain ⟨A, c, rfl, _, _⟩ := own_slice ho
      have c0 := hg.cell 0
      simp at c0
      have h3 : (524288 : Int) < (L.length : Int) + (N : Int) := by omega
      go_enter Tryd.func20, Tryd.ntmps20
      go_wp2
      go_ret
      exact ⟨rfl, B, h, .inl rfl, Touch.refl g B _⟩
    · have e1 : putCode L.length N = 0 := by unfold putCode; rw [if_neg h1, if_neg (by omega)]
      have e2 : putBits L N x = L ++ bitsOf N x := by unfold putBits; rw [e1, if_pos rfl, Int.toNat_natCast]
      rw [e1, e2]
      exact refPut_nat w base g B L x N h hx hN (by omega) hbase
end Go.Proofs.YtlgndfckmnninaaDoor
