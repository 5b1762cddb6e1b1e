/- Walks of package bits: a writer's add and Put. Conditions: as stated. -/
import Derived.Test.YtlgndfckmnninaaDoorBitsW
import Derived.StillTailTactics
namespace Go.Proofs.YtlgndfckmnninaaDoor
open Go.RowKit

/-- The cells of a block. -/
def _root_.Go.World.rowCells (w : World) (r : Nat) : Array Value := match w.heap[r]? with | some (.cells cs _ _) => cs | _ => #[]

theorem own_blk {w : World} {base r n c : Nat} {e : TypeId} {xs : List Value} (h : w.ownsRow base e 1 (.slice (some ⟨r, 0, none⟩) n c) n xs) : Blk w r e (w.rowCells r) := by
  rcases h.2 with ⟨h', _⟩ | ⟨g, cap, cur, h', _, hh, _⟩
  · simp at h'
  · simp only [Value.slice.injEq, Option.some.injEq, Addr.mk.injEq, and_true, true_and] at h'
    obtain ⟨rfl, _⟩ := h'
    unfold Blk World.rowCells
    rw [hh]

theorem own_last {w : World} {base r n c : Nat} {e : TypeId} {xs : List Value} {y : Value} (h : w.ownsRow base e 1 (.slice (some ⟨r, 0, none⟩) (n + 1) c) (n + 1) (xs ++ [y])) (hx : xs.length = n) : w.cell? ⟨r, n, none⟩ = some y := by
  have := h.cells (g := r) rfl n y (by rw [List.getElem?_append_right (by omega)]; simp [hx])
  have ha : (⟨r, 0, none⟩ : Addr).add n = ⟨r, n, none⟩ := by unfold Addr.add; split <;> simp_all
  rwa [ha] at this

/-- Bits beside bits in a byte. -/
theorem or_val (a x s t : Nat) (ha : a % 2 ^ t = 0) (hx : x * 2 ^ s < 2 ^ t) (ha8 : a + x * 2 ^ s < 256) :
    bits BinOp.or IntKind.u8 (a : Int) (IntKind.u64.wrap ((x : Int) * 2 ^ s) % 256) = ((a + x * 2 ^ s : Nat) : Int) := by
  have e : (x : Int) * 2 ^ s = ((x * 2 ^ s : Nat) : Int) := by push_cast; rfl
  rw [e, IntKind.wrap_u64]
  generalize x * 2 ^ s = y at *
  rw [show (y : Int) % 18446744073709551616 % 256 = (y : Int) by omega, u8_or_nat a y (by omega) (by omega), nat_join t a y ha hx]

/-- Behind an add: the last byte has been stored, and the number of bits. -/
theorem add_end {W : World} {base g r m cc : Nat} {A : List Value} {a : Value} {n n' V : Int} {L : List Bool} (hg0 : base ≤ g)
    (hg : Blk W g 98 #[.slice (some ⟨r, 0, none⟩) (m + 1) cc, .int .i64 n, .bool true])
    (ho : W.ownsRow base 5 1 (.slice (some ⟨r, 0, none⟩) (m + 1) cc) (m + 1) (A ++ [a])) (hA : A.length = m) (hrg : r ≠ g)
    (hp : bys (pack L) = A ++ [.int .u8 V]) (hn : n' = (L.length : Int)) :
    Wr ((W.setCell ⟨r, m, none⟩ (.int .u8 V)).setCell ⟨g, 1, none⟩ (.int .i64 n')) base g (some r) L := by
  have hl : (pack L).length = m + 1 := by rw [← bys_length, hp]; simp [hA]
  have h1 := (ho.stored m (.int .u8 V)).1
  have h2 := (hg.far (p := ⟨r, m, none⟩) (Ne.symm hrg) (.int .u8 V)).set_ 1 (.int .i64 n')
  have h3 : (A ++ [a]).set m (.int .u8 V) = bys (pack L) := by rw [hp, ← hA]; simp
  rw [h3] at h1
  have h4 := own_touch h1 ((Touch.refl g none _).set_ 1 (.int .i64 n')) (by simpa [Value.ownBlock] using hrg) (.inr (by simp [Value.ownBlock]))
  refine ⟨hg0, .slice (some ⟨r, 0, none⟩) (m + 1) cc, ?_, ?_, rfl⟩
  · rw [← hn]; exact h2
  · rw [hl]; exact h4

set_option maxRecDepth 20000 in
set_option maxHeartbeats 1600000 in
theorem add_new (w : World) (base g : Nat) (B : Option Nat) (L : List Bool) (x k : Nat) (h : Wr w base g B L) (hx : x < 2 ^ k) (h1 : 1 ≤ k) (h8 : k ≤ 8) (h0 : L.length % 8 = 0) (hL : L.length ≤ 600000) (hbase : base ≤ w.heap.size) :
    Calls Tryd.prog 59 #[.pointer (some ⟨g, 0, none⟩), .int .u64 x, .int .i64 k] w fun e w' => e = .returned (.tuple #[]) ∧
      ∃ B', Wr w' base g B' (L ++ bitsOf k x) ∧ (B' = B ∨ ∃ b, B' = some b ∧ w.heap.size ≤ b) ∧ Touch g B w w' := by
  obtain ⟨hg0, v, hg, ho, hB⟩ := h
  have hpl := pack_length L
  have hne := own_blk_ne ho hg (by decide)
  obtain ⟨A, c, rfl, hR⟩ := RB.of_own ho
  obtain ⟨q, hq⟩ : ∃ q, L.length = 8 * q := ⟨L.length / 8, by omega⟩
  have hP : (pack L).length = q := by omega
  rw [hP] at ho hg hR hne hB
  rw [hq] at hg
  have c0 := hg.cell 0
  have c1 := hg.cell 1
  simp at c0 c1
  have hq6 : q ≤ 75000 := by omega
  have HP := Lib.hid hP
  have HQ := Lib.hid hq
  have HB := Lib.hid hB
  clear hpl hP hq hB
  have t0 : ((q : Int) * 8 - 8 * (q : Int) == 0) = true := by rw [beq_iff_eq]; omega
  go_enter Tryd.func59, Tryd.ntmps59
  go_wp2
  go_quiet (fail)
  go_wp2_with (at_builtin; refine app_one_at base rfl _ _ _ 5 (.int .u8 0) 1 rfl Tryd.underlying43 Tryd.info5 rfl (.slice A q c) q (bys (pack L)) _ (by rfl) (by rfl) rfl ho hbase (by omega) (by omega) ?_; intro r cc w1 hown1 hgr1 hat1; have hg1 := (hg.drewN nq).grown hgr1 (Ne.symm hne); have d0 := hg1.cell 0; have d1 := hg1.cell 1; have e0 := hg1.frozen 0; have e1 := hg1.frozen 1; simp at d0 d1)
  have hrg : r ≠ g := Blk.ne_ (t := 5) (t' := 98) (own_blk hown1) hg1 (by decide)
  have ht3 : Touch g none w1 (w1.setCell ⟨g, 0, none⟩ (.slice (some ⟨r, 0, none⟩) (q + 1) cc)) := (Touch.refl g none w1).set_ 0 _
  have hg3 := hg1.set_ 0 (.slice (some ⟨r, 0, none⟩) (q + 1) cc)
  have hown3 := own_touch hown1 ht3 (by simpa [Value.ownBlock] using hrg) (.inr (by simp [Value.ownBlock]))
  generalize w1.setCell ⟨g, 0, none⟩ (.slice (some ⟨r, 0, none⟩) (q + 1) cc) = W3 at ht3 hg3 hown3 ⊢
  have d3 := hg3.cell 0
  have d4 := hg3.cell 1
  have e3 := hg3.frozen 1
  have e4 := (own_blk hown3).frozen q
  have hlast : W3.cell? ⟨r, q, none⟩ = some (.int .u8 0) := own_last hown3 (by rw [bys_length]; exact HP.out)
  simp at d3 d4
  have hg3' : Blk W3 g 98 #[.slice (some ⟨r, 0, none⟩) (q + 1) cc, .int .i64 ((8 * q : Nat) : Int), .bool true] := hg3
  clear hown1 hg1 hg c0 d0 d1 e0 e1
  have s1 : IntKind.i64.wrap (q : Int) = q := by rw [IntKind.wrap_i64]; omega
  have s2 : IntKind.i64.wrap (8 - (k : Int)) = 8 - (k : Int) := by rw [IntKind.wrap_i64]; omega
  have z2 : (0 : Int) ≤ 8 - (k : Int) := by omega
  have n2 : (8 - (k : Int)).toNat = 8 - k := by omega
  have i1 : (0 : Int) ≤ (q : Int) := by omega
  have i2 : (q : Int) < ((q + 1 : Nat) : Int) := by omega
  have i3 : (q : Int) < (q : Int) + 1 := by omega
  go_still_tail 20, (by kernel_rfl)
  change wpList _ _ _ _ _ W3.drew
  go_wp2
  go_end0
  have hlp : (bys (pack L)).length = q := by rw [bys_length]; exact HP.out
  have hV : x * 2 ^ (8 - k) < 256 := by
    have e : 2 ^ k * 2 ^ (8 - k) = 256 := by rw [← Nat.pow_add, show k + (8 - k) = 8 by omega]
    rw [← e]
    exact Nat.mul_lt_mul_of_pos_right hx (Nat.two_pow_pos _)
  have hv := or_val 0 x (8 - k) 8 (by simp) hV (by omega)
  rw [Nat.zero_add, show ((0 : Nat) : Int) = 0 from rfl] at hv
  rw [hv]
  have hpk := pack_new L k x h0 h1 h8
  rw [Nat.mod_eq_of_lt hx] at hpk
  have HW := add_end (L := L ++ bitsOf k x) (n' := 8 * (q : Int) + k) hg0 hg3' hown3 hlp hrg (by rw [hpk, bys_append]; rfl) (by rw [List.length_append, length_bitsOf, HQ.out]; push_cast; rfl)
  refine ⟨rfl, some r, HW.drewN 1, ?_, ?_⟩
  · rw [← HB.out]
    rcases hat1 with h | h
    · exact .inl h.symm
    · exact .inr ⟨r, rfl, h⟩
  · have hr : B = some r ∨ w.heap.size ≤ r := by
      rcases hat1 with h | h
      · exact .inl (by rw [← HB.out]; exact h)
      · exact .inr h
    have ht1 : Touch g B w w1 := ((Touch.refl g B w).drewN nq).grown hgr1 (.inl HB.out)
    exact ((((ht1.trans (ht3.any B) (.inl rfl)).setRow hr q _).set_ 1 _).drewN 1)

set_option maxRecDepth 20000 in
set_option maxHeartbeats 1600000 in
theorem add_more (w : World) (base g : Nat) (B : Option Nat) (L : List Bool) (x k : Nat) (h : Wr w base g B L) (hx : x < 2 ^ k) (h1 : 1 ≤ k) (h0 : 0 < L.length % 8) (h8 : L.length % 8 + k ≤ 8) (hL : L.length ≤ 600000) :
    Calls Tryd.prog 59 #[.pointer (some ⟨g, 0, none⟩), .int .u64 x, .int .i64 k] w fun e w' => e = .returned (.tuple #[]) ∧
      ∃ B', Wr w' base g B' (L ++ bitsOf k x) ∧ (B' = B ∨ ∃ b, B' = some b ∧ w.heap.size ≤ b) ∧ Touch g B w w' := by
  obtain ⟨hg0, v, hg, ho, hB⟩ := h
  have hpl := pack_length L
  have hne := own_blk_ne ho hg (by decide)
  obtain ⟨P, a, hpa, hPl, ha, hdv, hpk⟩ := pack_more L k x h0 h8
  rw [Nat.mod_eq_of_lt hx] at hpk
  obtain ⟨s, hs⟩ : ∃ s, L.length % 8 = s := ⟨_, rfl⟩
  obtain ⟨q, hq⟩ : ∃ q, L.length / 8 = q := ⟨_, rfl⟩
  have hlen : L.length = 8 * q + s := by omega
  have hP : (pack L).length = q + 1 := by omega
  rw [hs] at h0 h8 hdv hpk
  rw [hq] at hPl
  rw [hP] at ho
  rw [hlen] at hg
  obtain ⟨r, cc, rfl, _, _⟩ := ho.form (by omega)
  rw [hpa, bys_append] at ho
  have hown3 : w.ownsRow base 5 1 (.slice (some ⟨r, 0, none⟩) (q + 1) cc) (q + 1) (bys P ++ [.int .u8 (a : Int)]) := ho
  have hlp : (bys P).length = q := by rw [bys_length]; exact hPl
  have c0 := hg.cell 0
  have c1 := hg.cell 1
  have f1 := hg.frozen 1
  have e4 := (own_blk hown3).frozen q
  have hlast : w.cell? ⟨r, q, none⟩ = some (.int .u8 (a : Int)) := own_last hown3 hlp
  have hrg : r ≠ g := by simpa [Value.ownBlock] using hne
  simp at c0 c1
  have hq6 : q ≤ 75000 := by omega
  have HP := Lib.hid hP
  have HL := Lib.hid hlen
  have HB := Lib.hid hB
  have HPK := Lib.hid hpk
  have Hhs := Lib.hid hs
  have hV : x * 2 ^ (8 - s - k) < 2 ^ (8 - s) := by
    have e : 2 ^ k * 2 ^ (8 - s - k) = 2 ^ (8 - s) := by rw [← Nat.pow_add, show k + (8 - s - k) = 8 - s by omega]
    rw [← e]
    exact Nat.mul_lt_mul_of_pos_right hx (Nat.two_pow_pos _)
  have hsum : a + x * 2 ^ (8 - s - k) < 256 := by
    have h2 : 2 ^ (8 - s) * 2 ^ s = 256 := by rw [← Nat.pow_add, show 8 - s + s = 8 by omega]
    obtain ⟨m, rfl⟩ := hdv
    have h3 : m < 2 ^ s := by
      rcases Nat.lt_or_ge m (2 ^ s) with h | h
      · exact h
      · have := Nat.mul_le_mul_left (2 ^ (8 - s)) h
        omega
    have h4 : 2 ^ (8 - s) * (m + 1) ≤ 2 ^ (8 - s) * 2 ^ s := Nat.mul_le_mul_left _ h3
    rw [Nat.mul_add] at h4
    omega
  have hv := or_val a x (8 - s - k) (8 - s) (Nat.mod_eq_zero_of_dvd hdv) hV hsum
  have Hv := Lib.hid hv
  clear hpl hP hlen hB hpk hs hq hpa hPl hdv hV hsum hv ho hne
  obtain ⟨f, hf⟩ : ∃ f, 8 - s = f := ⟨_, rfl⟩
  rw [hf] at HPK Hv
  have hkf : k ≤ f := by omega
  have hf8 : f ≤ 7 := by omega
  have hfs : s = 8 - f := by omega
  have Hf := Lib.hid hf
  clear hf
  have t0 : (((q : Int) + 1) * 8 - (8 * (q : Int) + (s : Int)) == 0) = false := by rw [beq_eq_false_iff_ne]; omega
  have t1 : ((q : Int) + 1) * 8 - (8 * (q : Int) + (s : Int)) = (f : Int) := by omega
  clear hfs
  have s2 : IntKind.i64.wrap ((f : Int) - (k : Int)) = (f : Int) - (k : Int) := by rw [IntKind.wrap_i64]; omega
  have z2 : (0 : Int) ≤ (f : Int) - (k : Int) := by omega
  have n2 : ((f : Int) - (k : Int)).toNat = f - k := by omega
  have s1 : IntKind.i64.wrap (q : Int) = q := by rw [IntKind.wrap_i64]; omega
  have i1 : (0 : Int) ≤ (q : Int) := by omega
  have i2 : (q : Int) < ((q + 1 : Nat) : Int) := by omega
  have i3 : (q : Int) < (q : Int) + 1 := by omega
  go_enter Tryd.func59, Tryd.ntmps59
  go_wp2
  go_quiet (fail)
  go_wp2
  have htw : Touch g B w (w.drewN nq) := (Touch.refl g B w).drewN nq
  have hgW := hg.drewN nq
  have hoW : (w.drewN nq).ownsRow base 5 1 (.slice (some ⟨r, 0, none⟩) (q + 1) cc) (q + 1) (bys P ++ [.int .u8 (a : Int)]) := hown3
  have d0 : (w.drewN nq).cell? ⟨g, 0, none⟩ = some (.slice (some ⟨r, 0, none⟩) (q + 1) cc) := c0
  have d1 : (w.drewN nq).cell? ⟨g, 1, none⟩ = some (.int .i64 (8 * (q : Int) + (s : Int))) := c1
  have g1 : (w.drewN nq).frozen? ⟨g, 1, none⟩ = false := f1
  have g4 : (w.drewN nq).frozen? ⟨r, q, none⟩ = false := e4
  have dl : (w.drewN nq).cell? ⟨r, q, none⟩ = some (.int .u8 (a : Int)) := hlast
  generalize w.drewN nq = W at htw hgW hoW d0 d1 g1 g4 dl ⊢
  clear c0 c1 f1 e4 hlast hown3 hg t1
  go_still_tail 20, (by kernel_rfl)
  change wpList _ _ _ _ _ W.drew
  go_wp2
  go_end0
  rw [Hv.out]
  have HW := add_end (L := L ++ bitsOf k x) (n' := 8 * (q : Int) + s + k) hg0 hgW hoW hlp hrg (by rw [HPK.out, bys_append]; rfl) (by rw [List.length_append, length_bitsOf, HL.out]; push_cast; rfl)
  refine ⟨rfl, some r, HW.drewN 1, .inl HB.out, ?_⟩
  exact (((htw.setRow (.inl HB.out.symm) q _).set_ 1 _).drewN 1)

/-- add, whatever room the last byte has. -/
theorem add_any (w : World) (base g : Nat) (B : Option Nat) (L : List Bool) (x k : Nat) (h : Wr w base g B L) (hx : x < 2 ^ k) (h1 : 1 ≤ k) (h8 : L.length % 8 + k ≤ 8) (hL : L.length ≤ 600000) (hbase : base ≤ w.heap.size) :
    Calls Tryd.prog 59 #[.pointer (some ⟨g, 0, none⟩), .int .u64 x, .int .i64 k] w fun e w' => e = .returned (.tuple #[]) ∧
      ∃ B', Wr w' base g B' (L ++ bitsOf k x) ∧ (B' = B ∨ ∃ b, B' = some b ∧ w.heap.size ≤ b) ∧ Touch g B w w' := by
  rcases Nat.eq_zero_or_pos (L.length % 8) with h0 | h0
  · exact add_new w base g B L x k h hx h1 (by omega) h0 hL hbase
  · exact add_more w base g B L x k h hx h1 h0 h8 hL
end Go.Proofs.YtlgndfckmnninaaDoor
