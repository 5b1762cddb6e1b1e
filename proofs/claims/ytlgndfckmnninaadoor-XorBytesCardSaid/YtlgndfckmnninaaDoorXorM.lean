/- Values that are the same; the reference's Read of values; Read at every number of values; what was written is read back. Conditions: as stated. -/
import Derived.Test.YtlgndfckmnninaaDoorXorL
import Derived.Test.YtlgndfckmnninaaDoorXorH
import Derived.Test.YtlgndfckmnninaaDoorStampF
namespace Go.Proofs.YtlgndfckmnninaaDoor
open Go.RowKit
set_option linter.unusedVariables false

theorem RU.head {w : World} {A : Option Addr} {n c : Nat} {xs : List Nat} (h : RU w A n c xs) {k : Nat} (hk : k ≤ n) : RU w A k c (xs.take k) := by
  obtain ⟨h1, h2, h3, h4⟩ := h
  refine ⟨by simp; omega, by omega, h3, fun hn => ?_⟩
  obtain ⟨b, off, e, hc⟩ := h4 (by omega)
  refine ⟨b, off, e, fun j x hj => hc j x ?_⟩
  rw [List.getElem?_take] at hj
  split at hj
  · exact hj
  · cases hj
set_option maxHeartbeats 800000 in
theorem sameX_any (A A' : Option Addr) (n c c' : Nat) (xs : List Nat) (w : World) (h : RU w A n c xs) (h' : RU w A' n c' xs) :
    Calls Tryd.prog 51 #[.slice A n c, .slice A' n c'] w fun e w' => e = .returned (.bool true) ∧ Below w.heap.size w w' := by
  obtain ⟨hl, hc1, hc2, h1⟩ := h
  obtain ⟨_, hd1, hd2, h2⟩ := h'
  have HL := Lib.hid hl
  have H1 := Lib.hid h1
  have H2 := Lib.hid h2
  clear hl h1 h2
  go_enter Tryd.func51, Tryd.ntmps51
  go_wp2_with fail
  go_loopw [5] (fun iv wr => ∃ i : Nat, iv = .int .i64 i ∧ i ≤ n ∧ Below w.heap.size w wr) (fun iv _ => n - (intOf iv).toNat)
  case atStart => exact ⟨0, rfl, Nat.zero_le _, Below.refl _ _⟩
  case round =>
    obtain ⟨i, rfl, hi, hB⟩ := hrel
    rcases Nat.lt_or_ge i n with hlt | hge
    · obtain ⟨t, ht⟩ : ∃ t, xs[i]? = some t := ⟨_, List.getElem?_eq_getElem (by rw [HL.out]; exact hlt)⟩
      obtain ⟨b1, o1, rfl, k1⟩ := H1.out (by omega)
      obtain ⟨b2, o2, rfl, k2⟩ := H2.out (by omega)
      have z1 := cell_keep hB (k1 i t ht)
      have z2 := cell_keep hB (k2 i t ht)
      clear k1 k2 ht
      go_wp2_with fail
      go_quiet (fail)
      go_wp2_with fail
      go_roundw
      case rel => exact ⟨i + 1, by go_num, hlt, below_drewN hB nq⟩
      case measure => simp [intOf]; omega
    · obtain rfl : i = n := by omega
      go_wp2_with fail
      go_ret
      exact ⟨rfl, hB⟩

set_option maxHeartbeats 3200000 in
theorem xrRead_any (w : World) (a0 : Option Addr) (len cap n : Nat) (bs : List Int) (hR : RB w a0 len cap bs) (hbs : ∀ x ∈ bs, Byte x) (hle : len ≤ 1000000) (hn : n ≤ 4096) :
    Calls Tryd.prog 50 #[.slice a0 len cap, .int .i64 (n : Nat)] w fun e w' => AnsX w w' (readsX n (unB bs) 0 0 64 0) e ∧ Below w.heap.size w w' := by
  obtain ⟨RA, hRA, E1⟩ := Rr.new w a0 len cap bs hR hle
  have A1 : Below w.heap.size w (w.alloc (.cells #[.slice a0 len cap, .int .i64 0] 63)) := (Below.refl _ w).alloc (Nat.le_refl _) _
  have hs1 : (w.alloc (.cells #[.slice a0 len cap, .int .i64 0] 63)).heap.size = w.heap.size + 1 := by simp
  have HBS := Lib.hid hbs
  have HRA := Lib.hid hRA
  clear hbs hRA hR
  go_enter Tryd.func50, Tryd.ntmps50
  go_wp2_with fail
  refine (refBegin_any _).mono ?_
  rintro e u1 ⟨rfl, hB1⟩
  have hu1 : w.heap.size + 1 ≤ u1.heap.size := by have := hB1.size; omega
  have E1' := E1.below hB1
  have H1 := A1.trans (hB1.mono A1.size)
  have A2 : Below u1.heap.size u1 (u1.alloc (.cells #[.int .i64 0, .int .u64 0, .int .i64 64, .int .i64 0] 53)) := (Below.refl _ u1).alloc (Nat.le_refl _) _
  have X2 := Blk.new u1 53 #[.int .i64 0, .int .u64 0, .int .i64 64, .int .i64 0]
  have hs2 : (u1.alloc (.cells #[.int .i64 0, .int .u64 0, .int .i64 64, .int .i64 0] 53)).heap.size = u1.heap.size + 1 := by simp
  have E2 := E1'.below A2
  have H2 := H1.trans (A2.mono H1.size)
  generalize hw2 : u1.alloc (.cells #[.int .i64 0, .int .u64 0, .int .i64 64, .int .i64 0] 53) = w2 at X2 E2 H2 hs2
  have A3 : Below w2.heap.size w2 (w2.alloc (.cells #[] 38)) := (Below.refl _ w2).alloc (Nat.le_refl _) _
  have O3 := World.ownsRow_made (base := u1.heap.size + 1) (e := 38) (size := 1) w2 #[] 0 (by omega) (by simp [maxLen]) (by simp)
  have E3 := E2.below A3
  have X3 := X2.below A3
  have H3 := H2.trans (A3.mono H2.size)
  rw [hs2] at O3
  subst hw2
  clear A1 A2 A3 E1 E1' E2 X2 H1 H2 hs1 hB1
  go_wp2_with fail
  obtain ⟨x, hx⟩ : ∃ x, u1.heap.size = x := ⟨_, rfl⟩
  rw [hx] at X3 O3 hu1 ⊢
  generalize ((u1.alloc (.cells #[.int .i64 0, .int .u64 0, .int .i64 64, .int .i64 0] 53)).alloc (.cells #[] 38)) = w3 at *
  clear hs2 hx
  go_loopw [8, 9] (fun ov iv wr => ∃ (i p V a b : Nat) (acc : List Nat), iv = .int .i64 (i : Nat) ∧ i ≤ n ∧ Rr wr w.heap.size RA bs p ∧ Blk wr x 53 #[.int .i64 (i : Nat), .int .u64 (V : Nat), .int .i64 (a : Nat), .int .i64 (b : Nat)] ∧ wr.ownsRow (x + 1) 38 1 ov i (acc.map fun (x : Nat) => .int .u64 (x : Nat)) ∧ Below w.heap.size w wr ∧ Hid (readsX n (unB bs) 0 0 64 0 = afterX acc (readsX (n - i) ((unB bs).drop p) i V a b)) ∧ Hid ((a = 64 ∧ b = 0 ∨ a + b ≤ 63) ∧ V < 18446744073709551616)) (fun _ iv _ => n - (intOf iv).toNat)
  case atStart => exact ⟨0, 0, 0, 64, 0, [], rfl, Nat.zero_le _, E3, X3, by simpa using O3, H3, by
    show _ = _
    rw [Nat.sub_zero, List.drop_zero, show ((0 : Nat) : Int) = 0 from rfl]
    exact afterX_nil _ _ _ _ _ _, ⟨.inl ⟨rfl, rfl⟩, by omega⟩⟩
  case round =>
    obtain ⟨i, p, V, a, b, acc, rfl, hi, hE, hX, hO, hH, hQ, HW⟩ := hrel
    clear E3 X3 O3 H3
    have hxl := hX.lt
    have hOB := fun k hk => hO.lt k hk
    have HOB := Lib.hid hOB
    obtain ⟨c0, c1, c2, c3⟩ := hX.cells4
    obtain ⟨A6, c6, rfl, _, _⟩ := own_slice hO
    clear hOB
    rcases Nat.lt_or_ge i n with hlt | hge
    · obtain ⟨C, v, a2, b2, c, hG⟩ : ∃ C v A B c, getX ((unB bs).drop p) i V a b = (C, v, A, B, c) := ⟨_, _, _, _, _, rfl⟩
      obtain ⟨m, hm⟩ : ∃ m, n - i = m + 1 := ⟨n - i - 1, by omega⟩
      obtain ⟨i2, hi2⟩ : ∃ i2 : Int, ((i + 1 : Nat) : Int) = i2 := ⟨_, rfl⟩
      have hi3 : (i : Int) + 1 = i2 := by rw [← hi2]; push_cast; rfl
      have hr : rightX i a b = true := rightX_mk ⟨by omega, by omega, by have := HW.out.1; omega⟩
      by_cases hC : C = 0
      · subst hC
        have hQ2 : readsX n (unB bs) 0 0 64 0 = afterX (acc ++ [v]) (readsX (n - (i + 1)) ((unB bs).drop (p + c)) i2 v a2 b2) := by
          rw [hQ.out, hm, readsX_yes hG, List.drop_drop, hi3, show n - (i + 1) = m by omega]
        have GET := fun W h1 h2 => xrGet_ok W w.heap.size RA bs p i V a b v a2 b2 c h1 HBS.out h2 hr HW.out.2 hG
        obtain ⟨hv1, _, _, _, hv2⟩ := getX_take _ _ _ _ _ _ _ _ _ HW.out.1 HW.out.2 hG
        have HW2 : Hid ((a2 = 64 ∧ b2 = 0 ∨ a2 + b2 ≤ 63) ∧ v < 18446744073709551616) := ⟨hv2, hv1⟩
        rw [hi3] at GET
        have HGET := Lib.hid GET
        have HQ2 := Lib.hid hQ2
        have HI2 := Lib.hid hi2
        clear hQ hQ2 GET hG hi2 hi3 hm hv1 hv2 hr HW
        go_wp2_with fail
        refine (HGET.out _ hE (fun k hk => by have := HRA.out k hk; have := hH.size; omega)).mono ?_
        rintro e u5 ⟨rfl, D5, T5⟩
        have ob : ∀ k, (Value.slice A6 i c6).ownBlock = some k → x + 1 ≤ k ∧ k < wr.heap.size := fun k hk => hO.lt k hk
        have OB := Lib.hid ob
        have X5 := hX.touch T5 (by omega) (by simp)
        have O5 := own_touch hO T5 (fun e => by have := (ob _ e).1; omega) (by cases Value.ownBlock (.slice A6 i c6) <;> simp)
        have H5 := hH.trans (T5.below hH.size (Nat.le_refl _) (fun _ h => by cases h))
        have A5 : Below u5.heap.size u5 (u5.alloc (.cells #[.int .i64 i2, .int .u64 (v : Nat), .int .i64 (a2 : Nat), .int .i64 (b2 : Nat)] 53)) := (Below.refl _ u5).alloc (Nat.le_refl _) _
        have Y6 := Blk.new u5 53 #[.int .i64 i2, .int .u64 (v : Nat), .int .i64 (a2 : Nat), .int .i64 (b2 : Nat)]
        have X6 := X5.below A5
        have D6 := D5.below A5
        have H6 := H5.trans (A5.mono H5.size)
        have O6 := own_touch O5 (Touch.of_below A5 x none) (fun e => by have := (ob _ e).1; omega) (by cases Value.ownBlock (.slice A6 i c6) <;> simp)
        have O7 := own_touch O6 (touch_set4 _ x (.int .i64 i2) (.int .u64 (v : Nat)) (.int .i64 (a2 : Nat)) (.int .i64 (b2 : Nat))) (fun e => by have := (ob _ e).1; omega) (by cases Value.ownBlock (.slice A6 i c6) <;> simp)
        have X7 := X6.set4 (.int .i64 i2) (.int .u64 (v : Nat)) (.int .i64 (a2 : Nat)) (.int .i64 (b2 : Nat))
        have D7 := D6.set4 (r := x) (by omega) (fun e => by have := HRA.out _ e; omega) (.int .i64 i2) (.int .u64 (v : Nat)) (.int .i64 (a2 : Nat)) (.int .i64 (b2 : Nat))
        have H7 := below_set4 H6 (g := x) (by omega) (.int .i64 i2) (.int .u64 (v : Nat)) (.int .i64 (a2 : Nat)) (.int .i64 (b2 : Nat))
        have hz5 := T5.size
        clear c0 c1 c2 c3 ob X5 O5 H5 T5 hX hO hE hH
        obtain ⟨c0, c1, c2, c3⟩ := X6.cells4
        obtain ⟨f0, f1, f2, f3⟩ := X6.free4
        obtain ⟨y0, y1, y2, y3⟩ := Y6.cells4
        unfold set4 at *
        have hsz7 := H7.size
        have hx7 := X7.lt
        go_wp2_with (at_builtin; refine app_one_at (x + 1) rfl _ _ 46 38 (.int .u64 0) 8 rfl Tryd.underlying46 Tryd.infoU64 rfl (.slice A6 i c6) i (acc.map fun (x : Nat) => .int .u64 (x : Nat)) (.int .u64 (v : Nat)) (by rfl) (by first | rfl | (simp [go_sem]; done) | (go_simp; done)) rfl O7 (by omega) (by omega) (by omega) ?_; intro r8 c8 w8 O8 G8 at8)
        have hne : ∀ k, k < x + 1 → some k ≠ Value.ownBlock (.slice A6 i c6) := fun k hk e => by have := (OB.out k e.symm).1; omega
        have X8 := X7.grown G8 (hne _ (by omega))
        have D8 := D7.touch ((Touch.refl x _ _).grown G8 (.inl rfl)) (by omega) (hne _ (by omega)) (fun e => by have := HRA.out _ e; omega) (by
          cases hRA : RA with
          | none => exact .inl rfl
          | some k => exact .inr (hne k (by have := HRA.out k hRA; omega)))
        have H8 := H7.grown G8 H7.size (fun k e => by have := (OB.out k e).1; omega)
        go_wp2_with fail
        go_roundw
        case rel => exact ⟨i + 1, p + c, v, a2, b2, acc ++ [v], by go_num, hlt, D8, by rw [HI2.out]; exact X8, by simpa using O8, H8, by rw [HI2.out]; exact HQ2, HW2⟩
        case measure => simp [intOf]; omega
      · have hQ2 : readsX n (unB bs) 0 0 64 0 = (C, []) := by rw [hQ.out, hm, readsX_no (by rw [hG]) hC]
        have hC5 : C = 50 := by
          rcases getX_code ((unB bs).drop p) i V a b with e | e
          · rw [hG] at e; exact absurd e hC
          · rw [hG] at e; exact congrArg Prod.fst e
        subst hC5
        have GET := fun W h1 h2 => xrGet_no W w.heap.size RA bs p i V a b h1 HBS.out h2 hr HW.out.2 (by rw [hG]; exact hC)
        have HGET := Lib.hid GET
        have HQ2 := Lib.hid hQ2
        clear hQ hQ2 GET hG hi2 hi3 hm hC hr HW
        go_wp2_with fail
        refine (HGET.out _ hE (fun k hk => by have := HRA.out k hk; have := hH.size; omega)).mono ?_
        rintro e u5 ⟨rfl, D5, T5⟩
        have H5 := hH.trans (T5.below hH.size (Nat.le_refl _) (fun _ h => by cases h))
        have A5 : Below u5.heap.size u5 (u5.alloc (.cells #[.int .i64 0, .int .u64 0, .int .i64 0, .int .i64 0] 53)) := (Below.refl _ u5).alloc (Nat.le_refl _) _
        have H6 := H5.trans (A5.mono H5.size)
        go_wp2_with fail
        go_ret2
        exact ⟨by rw [HQ2.out]; exact ansX_code _ _ _, H6⟩
    · obtain rfl : i = n := by omega
      have hQ2 : readsX i (unB bs) 0 0 64 0 = (0, acc) := by rw [hQ.out, Nat.sub_self]; simp [readsX, afterX]
      have HQ2 := Lib.hid hQ2
      obtain ⟨A7, c7, e7, R7⟩ := RU.of_own hO
      cases e7
      have hal := R7.1
      clear hQ hQ2
      go_wp2_with fail
      go_ret2
      refine ⟨?_, hH⟩
      rw [HQ2.out]
      show ∃ A c, _ = Ending.returned (.tuple #[.slice A acc.length c, .int .i64 0]) ∧ RU _ A acc.length c acc
      rw [hal]
      exact ⟨_, _, rfl, R7⟩
end Go.Proofs.YtlgndfckmnninaaDoor
