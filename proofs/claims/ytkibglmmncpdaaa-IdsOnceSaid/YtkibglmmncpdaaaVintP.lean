/- Walks of the reference's Put, PutInt, Size, of vint.Size, and of the chapter's example. Conditions: as stated. -/
import Derived.Test.YtkibglmmncpdaaaVintR
import Derived.Test.YtkibglmmncpdaaaShelf
import Derived.OpenShut
namespace Go.Proofs.Ytkibglmmncpdaaa
open Go.RowKit

theorem own_none (w : World) (base : Nat) (e : TypeId) : w.ownsRow base e 1 (.slice none 0 0) 0 (bys []) := World.ownsRow_nil w base e 1

theorem RB.lit (w : World) (e : TypeId) (xs : List Int) (h : xs.length ≤ 1000) : RB (w.alloc (.cells (bys xs).toArray e)) (some ⟨w.heap.size, 0, none⟩) xs.length xs.length xs := by
  refine ⟨rfl, Nat.le_refl _, by omega, fun _ => ⟨_, _, rfl, fun j hj => ?_⟩⟩
  rw [World.cell?_alloc_at _ _ _ _ rfl]
  simp only [Nat.zero_add, List.getElem?_toArray]
  exact bys_get xs j hj

set_option maxHeartbeats 400000 in
theorem refPut_nat (A : Option Addr) (n c : Nat) (xs : List Int) (N : Nat) (w : World) (h : RB w A n c xs) (hn : n ≤ 1000000) (hN : N < 18446744073709551616) :
    Calls Try.prog 15 #[.slice A n c, .int .u64 N] w fun e w' =>
      ∃ v, e = .returned v ∧ w'.ownsRow w.heap.size 5 1 v (n + (enc N).length) (bys (xs ++ enc N)) ∧ Below w.heap.size w w' := by
  have hle := enc_le10 N hN
  have hB : Below w.heap.size w (w.alloc (.cells #[] 5)) := (Below.refl _ _).alloc (Nat.le_refl _) _
  have hR := h.below hB
  have hO := World.ownsRow_made (base := w.heap.size) (e := 5) (size := 1) w #[] 0 (Nat.le_refl _) (by simp [maxLen]) (by simp)
  go_enter Try.func15, Try.ntmps15
  go_wp2_with (at_builtin; refine app_row w.heap.size rfl _ _ _ 5 rfl Try.underlying22 Try.info5 _ 0 [] xs A n c rfl rfl hO hR hB (by simp) (by omega) ?_; intro v1 w1 hown1 hB1 hz1)
  simp only [Nat.zero_add, List.nil_append] at hown1
  go_loopw [5, 1] (fun v x wr => ∃ (m : Nat) (done : List Int), x = .int .u64 m ∧ Hid (done ++ enc m = enc N) ∧ m ≤ N ∧ wr.ownsRow w.heap.size 5 1 v (n + done.length) (bys (xs ++ done)) ∧ Below w.heap.size w wr ∧ w.heap.size ≤ wr.heap.size) (fun _ x _ => (intOf x).toNat)
  case atStart => exact ⟨N, [], rfl, rfl, Nat.le_refl _, by simpa using hown1, hB1, hz1⟩
  case round =>
    obtain ⟨m, done, rfl, he, hm, hown, hBr, hzr⟩ := hrel
    have hd : done.length + (enc m).length ≤ 10 := by rw [← List.length_append, he.out]; exact hle
    by_cases hlt : 128 ≤ m
    · have h127 : (128 : Int) ≤ (m : Int) := by omega
      go_wp2_with (at_builtin; refine app_one w.heap.size rfl _ _ _ 5 rfl Try.underlying22 Try.info5 _ (n + done.length) (xs ++ done) _ (by rfl) (by rfl) hown hBr hzr (by omega) ?_; intro v2 w2 hown2 hB2 hz2)
      go_roundw
      case rel =>
        refine ⟨m / 128, done ++ [((128 + m % 128 : Nat) : Int)], by go_num, ?_, by omega, ?_, hB2, hz2⟩
        · rw [List.append_assoc, List.singleton_append, ← enc_big hlt]; exact he.out
        · rw [← List.append_assoc, List.length_append]; exact hown2
      case measure => simp [intOf]; omega
    · have h127 : ¬ (128 : Int) ≤ (m : Int) := by omega
      go_wp2_with (at_builtin; refine app_one w.heap.size rfl _ _ _ 5 rfl Try.underlying22 Try.info5 _ (n + done.length) (xs ++ done) _ (by rfl) (by rfl) hown hBr hzr (by omega) ?_; intro v2 w2 hown2 hB2 hz2)
      have hx : xs ++ done ++ [(m : Int)] = xs ++ enc N := by rw [← he.out, enc_small (n := m) (by omega), List.append_assoc]
      have hl : n + done.length + 1 = n + (enc N).length := by rw [← he.out, enc_small (n := m) (by omega), List.length_append]; rfl
      rw [hx, hl] at hown2
      go_ret
      exact ⟨v2, rfl, hown2, hB2⟩

theorem refPut_any (A : Option Addr) (n c : Nat) (xs : List Int) (N : Int) (w : World) (h : RB w A n c xs) (hn : n ≤ 1000000) (h0 : 0 ≤ N) (hN : N < 18446744073709551616) :
    Calls Try.prog 15 #[.slice A n c, .int .u64 N] w fun e w' =>
      ∃ v, e = .returned v ∧ w'.ownsRow w.heap.size 5 1 v (n + (enc N.toNat).length) (bys (xs ++ enc N.toNat)) ∧ Below w.heap.size w w' := by
  obtain ⟨N, rfl⟩ := Int.eq_ofNat_of_zero_le h0
  rw [Int.toNat_natCast]
  exact refPut_nat A n c xs N w h hn (by omega)

theorem refPutInt_any (A : Option Addr) (n c : Nat) (xs : List Int) (k : Int) (w : World) (h : RB w A n c xs) (hn : n ≤ 1000000) (hk1 : -9223372036854775808 ≤ k) (hk2 : k ≤ 9223372036854775807) :
    Calls Try.prog 17 #[.slice A n c, .int .i64 k] w fun e w' =>
      ∃ v, e = .returned v ∧ w'.ownsRow w.heap.size 5 1 v (n + (enc (zig k)).length) (bys (xs ++ enc (zig k))) ∧ Below w.heap.size w w' := by
  by_cases hk : k < 0
  · have hz : zig k = (-(k + 1) * 2 + 1).toNat := by unfold zig; rw [if_pos hk]; omega
    rw [hz]
    go_enter Try.func17, Try.ntmps17
    go_wp2_with (go_at_call 15; refine (refPut_any A n c xs (-(k + 1) * 2 + 1) _ h hn (by omega) (by omega)).mono ?_; rintro e w' ⟨v, rfl, hO, hB⟩)
    go_ret
    exact ⟨v, rfl, hO, hB⟩
  · have hz : zig k = (k * 2).toNat := by unfold zig; rw [if_neg hk]; omega
    rw [hz]
    go_enter Try.func17, Try.ntmps17
    go_wp2_with (go_at_call 15; refine (refPut_any A n c xs (k * 2) _ h hn (by omega) (by omega)).mono ?_; rintro e w' ⟨v, rfl, hO, hB⟩)
    go_ret
    exact ⟨v, rfl, hO, hB⟩

theorem ret_int {k : IntKind} {a b : Int} (h : a = b) : Ending.returned (.int k a) = .returned (.int k b) := by rw [h]

theorem Size_any (N : Nat) (w : World) (hN : N < 18446744073709551616) : Calls Try.prog 18 #[.int .u64 N] w fun e w' => e = .returned (.int .i64 (enc N).length) ∧ w = w' := by
  have hs := enc_size N hN
  have hb := Lib.bitLen_le N 64 (by omega) (by omega)
  have hT : (N : Int).toNat = N := Int.toNat_natCast N
  have hd : (Lib.bitLen N + 6) / 7 ≤ 10 := by omega
  go_enter Try.func18, Try.ntmps18
  go_wp2_with (go_at_call 45; refine (Try.bits_Len64 N _ (by omega) (by omega)).mono ?_; rintro e w' ⟨rfl, rfl⟩)
  go_ret
  exact ⟨ret_int (by rw [hs]; omega), rfl⟩

theorem Size_int (N : Int) (w : World) (h0 : 0 ≤ N) (hN : N < 18446744073709551616) : Calls Try.prog 18 #[.int .u64 N] w fun e w' => e = .returned (.int .i64 (enc N.toNat).length) ∧ w = w' := by
  obtain ⟨N, rfl⟩ := Int.eq_ofNat_of_zero_le h0
  rw [Int.toNat_natCast]
  exact Size_any N w (by omega)

theorem refSize_any (N : Nat) (w : World) (hN : N < 18446744073709551616) : Calls Try.prog 19 #[.int .u64 N] w fun e w' => e = .returned (.int .i64 (enc N).length) ∧ Below w.heap.size w w' := by
  go_enter Try.func19, Try.ntmps19
  go_wp2_with (go_at_call 15; refine (refPut_nat none 0 0 [] N _ (RB.nil _) (by omega) hN).mono ?_; rintro e w1 ⟨v, rfl, hO, hB⟩; obtain ⟨A1, c1, rfl, hR⟩ := RB.of_own hO)
  go_ret
  exact ⟨by simp, hB⟩

theorem enc300 : enc 300 = [172, 2] := by rw [enc_big (by omega), enc_small (by omega)]; rfl
theorem enc1 : enc 1 = [1] := enc_small (by omega)
theorem enc2 : enc 2 = [2] := enc_small (by omega)

set_option maxHeartbeats 400000 in
theorem works_any (w : World) : Calls Try.prog 20 #[] w fun e w' => e = .returned (.bool true) ∧ Below w.heap.size w w' := by
  go_enter Try.func20, Try.ntmps20
  go_wp2_with fail
  have hB0 : Below w.heap.size w (w.alloc (.cells (bys [7, 8]).toArray 5)) := (Below.refl _ _).alloc (Nat.le_refl _) _
  refine (PutBytes_any none (some ⟨w.heap.size, 0, none⟩) 0 0 2 2 [] [7, 8] _ (RB.nil _) (RB.lit w 5 [7, 8] (by simp)) (by omega) (by omega)).mono ?_
  rintro e w1 ⟨v1, rfl, hO1, hB1⟩
  rw [List.nil_append, enc2] at hO1
  obtain ⟨A1, c1, rfl, hR1⟩ := RB.of_own hO1
  have hb1 := below_more hB0 hB1
  go_wp2_with fail
  refine (Put_any none 0 0 [] 300 _ (RB.nil _) (by omega) (by omega)).mono ?_
  rintro e w2 ⟨v2, rfl, hO2, hB2⟩
  rw [List.nil_append, enc300] at hO2
  obtain ⟨A2, c2, rfl, hR2⟩ := RB.of_own hO2
  have hr1 := hR1.below hB2
  have hb2 := below_more hb1 hB2
  have hBa : Below w2.heap.size w2 (w2.alloc (.cells (bys [172, 2]).toArray 5)) := (Below.refl _ _).alloc (Nat.le_refl _) _
  go_wp2_with fail
  refine (same_any A2 (some ⟨w2.heap.size, 0, none⟩) 2 c2 2 2 [172, 2] _ (hR2.below hBa) (RB.lit w2 5 [172, 2] (by simp))).mono ?_
  rintro e w3 ⟨rfl, rfl⟩
  go_wp2_with fail
  have hb3 := below_more hb2 hBa
  have hr2 := hr1.below hBa
  refine (PutInt_any none 0 0 [] (-1) _ (RB.nil _) (by omega) (by omega) (by omega)).mono ?_
  rintro e w3 ⟨v3, rfl, hO3, hB3⟩
  rw [List.nil_append, show zig (-1) = 1 from rfl, enc1] at hO3
  obtain ⟨A3, c3, rfl, hR3⟩ := RB.of_own hO3
  have hr3 := hr2.below hB3
  have hb4 := below_more hb3 hB3
  have hBb : Below w3.heap.size w3 (w3.alloc (.cells (bys [1]).toArray 5)) := (Below.refl _ _).alloc (Nat.le_refl _) _
  go_wp2_with fail
  refine (same_any A3 (some ⟨w3.heap.size, 0, none⟩) 1 c3 1 1 [1] _ (hR3.below hBb) (RB.lit w3 5 [1] (by simp))).mono ?_
  rintro e w4 ⟨rfl, rfl⟩
  have hb5 := below_more hb4 hBb
  have hr4 := hr3.below hBb
  have hBc : ∀ W : World, Below W.heap.size W (W.alloc (.cells (bys [2, 7, 8]).toArray 5)) := fun W => (Below.refl _ _).alloc (Nat.le_refl _) _
  have hr5 := hr4.below (hBc _)
  have hb6 := below_more hb5 (hBc _)
  go_wp2_with fail
  have hL := RB.lit (w3.alloc (.cells (bys [1]).toArray 5)) 5 [2, 7, 8] (by simp)
  rw [World.size_alloc] at hL
  refine (same_any A1 (some ⟨w3.heap.size + 1, 0, none⟩) 3 c1 3 3 [2, 7, 8] _ hr5 hL).mono ?_
  rintro e w5 ⟨rfl, rfl⟩
  go_wp2
  go_ret
  exact ⟨rfl, hb6⟩

/-- What the frame tells of a slice of bytes that came in. -/
theorem rb_of {w : World} {a : Option Addr} {len cap : Nat} {zs : List Int}
    (h : (a = none ∧ len = 0 ∧ cap = 0 ∧ zs = []) ∨ ∃ x, a = some x ∧ len ≤ cap ∧ cap ≤ maxLen ∧ zs.length = cap ∧ (∀ i, i < zs.length → w.cell? (x.add i) = some (.int .u8 (zs.getD i 0))) ∧ ∀ n ∈ zs, (Lit.int .u8 n).wf = true) :
    RB w a len cap (zs.take len) ∧ ∀ x ∈ zs.take len, Byte x := by
  rcases h with ⟨rfl, rfl, rfl, rfl⟩ | ⟨x, rfl, h1, h2, h3, h4, h5⟩
  · exact ⟨RB.nil w, by simp⟩
  · constructor
    · refine ⟨by simp; omega, h1, by simp only [maxLen] at h2; omega, fun hn => ?_⟩
      obtain ⟨b, off, rfl, hc⟩ := ints_at h4 (by omega)
      refine ⟨b, off, rfl, fun j hj => ?_⟩
      rw [hc j (by omega), List.getElem?_take_of_lt hj, List.getD_eq_getElem?_getD]
    · intro y hy
      have := h5 y (List.mem_of_mem_take hy)
      simp [Lit.wf, IntKind.min, IntKind.max, IntKind.signed, IntKind.bits] at this
      exact ⟨by omega, by omega⟩
end Go.Proofs.Ytkibglmmncpdaaa
