/- Slices of integers that are the same; the reference's Read of times. Conditions: as stated. -/
import Derived.Test.YtlgndfckmnninaaDoorStampB
import Derived.Test.YtlgndfckmnninaaDoorStampH
import Derived.Test.YtlgndfckmnninaaDoorBitsL
namespace Go.Proofs.YtlgndfckmnninaaDoor
open Go.RowKit
set_option linter.unusedVariables false

set_option maxHeartbeats 800000 in
theorem sameI_any (A A' : Option Addr) (n c c' : Nat) (xs : List Int) (w : World) (h : RI w A n c xs) (h' : RI w A' n c' xs) :
    Calls Tryd.prog 43 #[.slice A n c, .slice A' n c'] w fun e w' => e = .returned (.bool true) ∧ Below w.heap.size w w' := by
  obtain ⟨hl, hc1, hc2, h1⟩ := h
  obtain ⟨_, hd1, hd2, h2⟩ := h'
  have HL := Lib.hid hl
  have H1 := Lib.hid h1
  have H2 := Lib.hid h2
  clear hl h1 h2
  go_enter Tryd.func43, Tryd.ntmps43
  go_wp2_with fail
  go_loopw [5] (fun iv wr => ∃ i : Nat, iv = .int .i64 i ∧ i ≤ n ∧ Below w.heap.size w wr) (fun iv _ => n - (intOf iv).toNat)
  case atStart => exact ⟨0, rfl, Nat.zero_le _, Below.refl _ _⟩
  case round =>
    obtain ⟨i, rfl, hi, hB⟩ := hrel
    rcases Nat.lt_or_ge i n with hlt | hge
    · obtain ⟨t, ht⟩ : ∃ t, xs[i]? = some t := ⟨_, List.getElem?_eq_getElem (by rw [HL.out]; exact hlt)⟩
      obtain ⟨b1, o1, rfl, k1⟩ := H1.out (by omega)
      obtain ⟨b2, o2, rfl, k2⟩ := H2.out (by omega)
      have z1 := cell_keep hB (k1 i t ht)
      have z2 := cell_keep hB (k2 i t ht)
      clear k1 k2 ht
      go_wp2_with fail
      go_quiet (fail)
      go_wp2_with fail
      go_roundw
      case rel => exact ⟨i + 1, by go_num, hlt, below_drewN hB nq⟩
      case measure => simp [intOf]; omega
    · obtain rfl : i = n := by omega
      go_wp2_with fail
      go_ret
      exact ⟨rfl, hB⟩

/-- What a Read of n times says. -/
def readsS : Nat → List Bool → Int → Int → Int → Int × List Int
  | 0, _, _, _, _ => (0, [])
  | n + 1, l, N, L, D => if (getS l N L D).1 ≠ 0 then ((getS l N L D).1, []) else
      (let q := readsS n (l.drop (getS l N L D).2.2.2) (N + 1) (getS l N L D).2.1 (getS l N L D).2.2.1
       if q.1 ≠ 0 then (q.1, []) else (0, (getS l N L D).2.1 :: q.2))
/-- Some that have come, and what comes. -/
def after (acc : List Int) (q : Int × List Int) : Int × List Int := if q.1 ≠ 0 then (q.1, []) else (0, acc ++ q.2)
theorem readsS_no {n : Nat} {l : List Bool} {N L D C : Int} (h : (getS l N L D).1 = C) (hC : C ≠ 0) (acc : List Int) : after acc (readsS (n + 1) l N L D) = (C, []) := by
  unfold readsS after
  rw [h, if_pos hC]
  simp [hC]
theorem readsS_yes {n : Nat} {l : List Bool} {N L D t d : Int} {c : Nat} (h : getS l N L D = (0, t, d, c)) (acc : List Int) : after acc (readsS (n + 1) l N L D) = after (acc ++ [t]) (readsS n (l.drop c) (N + 1) t d) := by
  unfold after
  rw [readsS, h]
  simp only [ne_eq, not_true_eq_false, if_false]
  by_cases hq : (readsS n (l.drop c) (N + 1) t d).1 = 0
  · simp [hq]
  · simp [hq]
theorem readsS_code {n : Nat} {l : List Bool} {N L D : Int} : (readsS n l N L D).1 ≠ 0 → (readsS n l N L D).2 = [] := by
  cases n with
  | zero => simp [readsS]
  | succ m =>
    unfold readsS
    split
    · exact fun _ => rfl
    · simp only
      split
      · exact fun _ => rfl
      · exact fun h => absurd rfl h
theorem after_nil (n : Nat) (l : List Bool) (N L D : Int) : readsS n l N L D = after [] (readsS n l N L D) := by
  unfold after
  by_cases h : (readsS n l N L D).1 ≠ 0
  · rw [if_pos h]; exact Prod.ext rfl (readsS_code h)
  · rw [if_neg h, List.nil_append]; exact Prod.ext (Decidable.not_not.1 h) rfl
/-- The reader laid over bytes. -/
theorem Rr.new (w : World) (a0 : Option Addr) (len cap : Nat) (bs : List Int) (hR : RB w a0 len cap bs) (hle : len ≤ 1000000) :
    ∃ RA, (∀ k, RA = some k → k < w.heap.size) ∧ Rr (w.alloc (.cells #[.slice a0 len cap, .int .i64 0] 63)) w.heap.size RA bs 0 := by
  have BA : Below w.heap.size w (w.alloc (.cells #[.slice a0 len cap, .int .i64 0] 63)) := (Below.refl _ w).alloc (Nat.le_refl _) _
  have hlen := hR.1
  subst hlen
  rcases Nat.eq_zero_or_pos bs.length with h0 | h0
  · exact ⟨none, (fun k hk => by cases hk), a0, _, cap, Blk.new w 63 _, hR.below BA, .inr h0, by simp, by omega, by omega⟩
  · obtain ⟨b, off, e, hc⟩ := hR.2.2.2 h0
    have hlt := World.block_lt_of_cell? w _ (hc 0 h0)
    refine ⟨some b, fun k hk => ?_, a0, _, cap, Blk.new w 63 _, hR.below BA, .inl (by rw [e]; rfl), fun e => ?_, by omega, by omega⟩
    · injection hk with hk; subst hk; exact hlt
    · injection e with e; subst e; simp at hlt

/-- What a Read answers: a slice that holds the times, and the code. -/
def AnsR (w w' : World) (q : Int × List Int) (e : Ending) : Prop :=
  ∃ A c, e = .returned (.tuple #[.slice A q.2.length c, .int .i64 q.1]) ∧ RI w' A q.2.length c q.2
theorem RI.of_own {w : World} {base n : Nat} {v : Value} {xs : List Int} {t : TypeId} (h : w.ownsRow base t 1 v n (xs.map fun x => .int .i64 x)) : ∃ A c, v = .slice A n c ∧ RI w A n c xs := by
  obtain ⟨h1, ⟨rfl, rfl⟩ | ⟨g, cap, cur, rfl, h2, h3, h4, h5, h6, h7⟩⟩ := h
  · refine ⟨none, 0, rfl, by simpa using h1, Nat.le_refl _, by omega, fun h => by omega⟩
  · have hl : xs.length = n := by simpa using h1
    refine ⟨_, cap, rfl, hl, h4, by simp [maxLen] at h5; omega, fun _ => ⟨g, 0, rfl, fun j x hj => ?_⟩⟩
    have hjn : j < n := by rw [← hl]; exact (List.getElem?_eq_some_iff.1 hj).1
    have e1 : (cur.toList.take (n * 1))[j]? = some (.int .i64 x) := by rw [h7, List.getElem?_map, hj]; rfl
    rw [List.getElem?_take_of_lt (by omega), Array.getElem?_toList] at e1
    rw [Nat.zero_add]
    simp [World.cell?, h3, e1]
theorem Tryd.infoInt : (Tryd.prog.info? 3).map (fun i => (i.zero, i.size, i.bytes)) = some (some (.int .i64 0), 1, 8) := by kernel_rfl

set_option maxHeartbeats 3200000 in
theorem rRead_any (w : World) (a0 : Option Addr) (len cap n : Nat) (bs : List Int) (hR : RB w a0 len cap bs) (hbs : ∀ x ∈ bs, Byte x) (hle : len ≤ 1000000) (hn : n ≤ 4096) :
    Calls Tryd.prog 42 #[.slice a0 len cap, .int .i64 (n : Nat)] w fun e w' => AnsR w w' (readsS n (unB bs) 0 0 0) e ∧ Below w.heap.size w w' := by
  obtain ⟨RA, hRA, E1⟩ := Rr.new w a0 len cap bs hR hle
  have A1 : Below w.heap.size w (w.alloc (.cells #[.slice a0 len cap, .int .i64 0] 63)) := (Below.refl _ w).alloc (Nat.le_refl _) _
  have hs1 : (w.alloc (.cells #[.slice a0 len cap, .int .i64 0] 63)).heap.size = w.heap.size + 1 := by simp
  have HBS := Lib.hid hbs
  have HRA := Lib.hid hRA
  clear hbs hRA hR
  go_enter Tryd.func42, Tryd.ntmps42
  generalize hw1 : w.alloc (.cells #[.slice a0 len cap, .int .i64 0] 63) = w1 at E1 A1 hs1
  have A2 : Below w1.heap.size w1 (w1.alloc (.cells #[.int .i64 0, .int .i64 0, .int .i64 0] 39)) := (Below.refl _ w1).alloc (Nat.le_refl _) _
  have X2 := Blk.new w1 39 #[.int .i64 0, .int .i64 0, .int .i64 0]
  have hs2 : (w1.alloc (.cells #[.int .i64 0, .int .i64 0, .int .i64 0] 39)).heap.size = w.heap.size + 2 := by simp [hs1]
  have E2 := E1.below A2
  have H2 := A1.trans (A2.mono A1.size)
  generalize hw2 : w1.alloc (.cells #[.int .i64 0, .int .i64 0, .int .i64 0] 39) = w2 at X2 E2 H2 hs2
  have A3 : Below w2.heap.size w2 (w2.alloc (.cells #[] 3)) := (Below.refl _ w2).alloc (Nat.le_refl _) _
  have O3 := World.ownsRow_made (base := w.heap.size + 2) (e := 3) (size := 1) w2 #[] 0 (by omega) (by simp [maxLen]) (by simp)
  have E3 := E2.below A3
  have X3 := X2.below A3
  have H3 := H2.trans (A3.mono H2.size)
  rw [hs1] at X3
  rw [hs2] at O3
  subst hw2 hw1
  clear A1 A2 A3 E1 E2 X2 H2 hs1
  go_wp2_with fail
  generalize (((w.alloc (.cells #[.slice a0 len cap, .int .i64 0] 63)).alloc (.cells #[.int .i64 0, .int .i64 0, .int .i64 0] 39)).alloc (.cells #[] 3)) = w3 at *
  clear hs2
  go_loopw [8, 9] (fun ov iv wr => ∃ (i p : Nat) (L D : Int) (acc : List Int), iv = .int .i64 i ∧ i ≤ n ∧ Rr wr w.heap.size RA bs p ∧ Blk wr (w.heap.size + 1) 39 #[.int .i64 i, .int .i64 L, .int .i64 D] ∧ wr.ownsRow (w.heap.size + 2) 3 1 ov i (acc.map fun x => .int .i64 x) ∧ Below w.heap.size w wr ∧ Hid (readsS n (unB bs) 0 0 0 = after acc (readsS (n - i) ((unB bs).drop p) i L D))) (fun _ iv _ => n - (intOf iv).toNat)
  case atStart => exact ⟨0, 0, 0, 0, [], rfl, Nat.zero_le _, E3, X3, by simpa using O3, H3, by
    show _ = _
    rw [Nat.sub_zero, List.drop_zero, show ((0 : Nat) : Int) = 0 from rfl]
    exact after_nil _ _ _ _ _⟩
  case round =>
    obtain ⟨i, p, L, D, acc, rfl, hi, hE, hX, hO, hH, hQ⟩ := hrel
    clear E3 X3 O3 H3
    have hxl := hX.lt
    have hOB := fun k hk => hO.lt k hk
    have HOB := Lib.hid hOB
    obtain ⟨c0, c1, c2⟩ := hX.cells3
    obtain ⟨A6, c6, rfl, _, _⟩ := own_slice hO
    clear hOB
    rcases Nat.lt_or_ge i n with hlt | hge
    · obtain ⟨C, t, d, c, hG⟩ : ∃ C t d c, getS ((unB bs).drop p) i L D = (C, t, d, c) := ⟨_, _, _, _, rfl⟩
      obtain ⟨m, hm⟩ : ∃ m, n - i = m + 1 := ⟨n - i - 1, by omega⟩
      obtain ⟨i2, hi2⟩ : ∃ i2 : Int, ((i + 1 : Nat) : Int) = i2 := ⟨_, rfl⟩
      have hi3 : (i : Int) + 1 = i2 := by rw [← hi2]; push_cast; rfl
      by_cases hC : C = 0
      · subst hC
        have hQ2 : readsS n (unB bs) 0 0 0 = after (acc ++ [t]) (readsS (n - (i + 1)) ((unB bs).drop (p + c)) i2 t d) := by
          rw [hQ.out, hm, readsS_yes hG, List.drop_drop, hi3, show n - (i + 1) = m by omega]
        have GET := fun W h1 h2 => rGet_ok W w.heap.size RA bs p i L D t d c h1 h2 HBS.out hG
        rw [hi3] at GET
        have HGET := Lib.hid GET
        have HQ2 := Lib.hid hQ2
        have HI2 := Lib.hid hi2
        clear hQ hQ2 GET hG hi2 hi3 hm
        go_wp2_with fail
        refine (HGET.out _ hE (fun k hk => by have := HRA.out k hk; have := hH.size; omega)).mono ?_
        rintro e u5 ⟨rfl, D5, T5⟩
        have ob : ∀ k, (Value.slice A6 i c6).ownBlock = some k → w.heap.size + 2 ≤ k ∧ k < wr.heap.size := fun k hk => hO.lt k hk
        have OB := Lib.hid ob
        have X5 := hX.touch T5 (by omega) (by simp)
        have O5 := own_touch hO T5 (fun e => by have := (ob _ e).1; omega) (by cases Value.ownBlock (.slice A6 i c6) <;> simp)
        have H5 := hH.trans (T5.below hH.size (Nat.le_refl _) (fun _ h => by cases h))
        have A5 : Below u5.heap.size u5 (u5.alloc (.cells #[.int .i64 i2, .int .i64 t, .int .i64 d] 39)) := (Below.refl _ u5).alloc (Nat.le_refl _) _
        have Y6 := Blk.new u5 39 #[.int .i64 i2, .int .i64 t, .int .i64 d]
        have X6 := X5.below A5
        have D6 := D5.below A5
        have H6 := H5.trans (A5.mono H5.size)
        have O6 := own_touch O5 (Touch.of_below A5 (w.heap.size + 1) none) (fun e => by have := (ob _ e).1; omega) (by cases Value.ownBlock (.slice A6 i c6) <;> simp)
        have O7 := own_touch O6 ((((Touch.refl (w.heap.size + 1) none _).set_ 0 (.int .i64 i2)).set_ 1 (.int .i64 t)).set_ 2 (.int .i64 d)) (fun e => by have := (ob _ e).1; omega) (by cases Value.ownBlock (.slice A6 i c6) <;> simp)
        have X7 := X6.put3 (.int .i64 i2) (.int .i64 t) (.int .i64 d)
        have D7 := D6.put3 (r := w.heap.size + 1) (by omega) (fun e => by have := HRA.out _ e; omega) (.int .i64 i2) (.int .i64 t) (.int .i64 d)
        have H7 := below_put3 H6 (g := w.heap.size + 1) (by omega) (.int .i64 i2) (.int .i64 t) (.int .i64 d)
        have hz5 := T5.size
        clear c0 c1 c2 ob X5 O5 H5 T5 hX hO hE hH
        obtain ⟨c0, c1, c2⟩ := X6.cells3
        obtain ⟨f0, f1, f2⟩ := X6.free3
        obtain ⟨y0, y1, y2⟩ := Y6.cells3
        unfold put3 at *
        have hsz7 := H7.size
        go_wp2_with (at_builtin; refine app_one_at (w.heap.size + 2) rfl _ _ 72 3 (.int .i64 0) 8 rfl Tryd.underlying72 Tryd.infoInt rfl (.slice A6 i c6) i (acc.map fun x => .int .i64 x) (.int .i64 t) (by rfl) (by first | rfl | (simp [go_sem]; done) | (go_simp; done)) rfl O7 (by have := X7.lt; omega) (by omega) (by omega) ?_; intro r8 c8 w8 O8 G8 at8)
        have hne : ∀ k, k < w.heap.size + 2 → some k ≠ Value.ownBlock (.slice A6 i c6) := fun k hk e => by have := (OB.out k e.symm).1; omega
        have X8 := X7.grown G8 (hne _ (by omega))
        have D8 := D7.touch ((Touch.refl (w.heap.size + 1) _ _).grown G8 (.inl rfl)) (by omega) (hne _ (by omega)) (fun e => by have := HRA.out _ e; omega) (by
          cases hRA : RA with
          | none => exact .inl rfl
          | some k => exact .inr (hne k (by have := HRA.out k hRA; omega)))
        have H8 := H7.grown G8 H7.size (fun k e => by have := (OB.out k e).1; omega)
        go_wp2_with fail
        go_roundw
        case rel => exact ⟨i + 1, p + c, t, d, acc ++ [t], by go_num, hlt, D8, by rw [HI2.out]; exact X8, by simpa using O8, H8, by rw [HI2.out]; exact HQ2⟩
        case measure => simp [intOf]; omega
      · have hQ2 : readsS n (unB bs) 0 0 0 = (C, []) := by rw [hQ.out, hm, readsS_no (by rw [hG]) hC]
        have GET := fun W h1 h2 => rGet_no W w.heap.size RA bs p i L D C h1 h2 HBS.out (by rw [hG]) hC
        have HGET := Lib.hid GET
        have HQ2 := Lib.hid hQ2
        have hC1 : (C != 0) = true := by simp [hC]
        have hC2 : (C == 0) = false := beq_eq_false_iff_ne.2 hC
        clear hQ hQ2 GET hG hi2 hi3 hm hC
        go_wp2_with fail
        refine (HGET.out _ hE (fun k hk => by have := HRA.out k hk; have := hH.size; omega)).mono ?_
        rintro e u5 ⟨rfl, D5, T5⟩
        have H5 := hH.trans (T5.below hH.size (Nat.le_refl _) (fun _ h => by cases h))
        have A5 : Below u5.heap.size u5 (u5.alloc (.cells #[.int .i64 0, .int .i64 0, .int .i64 0] 39)) := (Below.refl _ u5).alloc (Nat.le_refl _) _
        have H6 := H5.trans (A5.mono H5.size)
        go_wp2_with fail
        go_ret2
        exact ⟨by rw [HQ2.out]; exact ⟨none, 0, rfl, rfl, Nat.le_refl _, by omega, fun h => by simp at h⟩, H6⟩
    · obtain rfl : i = n := by omega
      have hQ2 : readsS i (unB bs) 0 0 0 = (0, acc) := by rw [hQ.out, Nat.sub_self]; simp [readsS, after]
      have HQ2 := Lib.hid hQ2
      obtain ⟨A7, c7, e7, R7⟩ := RI.of_own hO
      cases e7
      have hal := R7.1
      clear hQ hQ2
      go_wp2_with fail
      go_ret2
      refine ⟨?_, hH⟩
      rw [HQ2.out]
      show ∃ A c, _ = Ending.returned (.tuple #[.slice A acc.length c, .int .i64 0]) ∧ RI _ A acc.length c acc
      rw [hal]
      exact ⟨_, _, rfl, R7⟩
end Go.Proofs.YtlgndfckmnninaaDoor
