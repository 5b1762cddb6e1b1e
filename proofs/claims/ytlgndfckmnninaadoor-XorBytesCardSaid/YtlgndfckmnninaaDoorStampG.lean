/- Walks of package stamp: what bits say of a time. Conditions: as stated. -/
import Derived.Test.YtlgndfckmnninaaDoorStampX
namespace Go.Proofs.YtlgndfckmnninaaDoor
open Go.RowKit

theorem getI_ok (w : World) (base g : Nat) (R : Option Nat) (bs : List Int) (p : Nat) (n : Int) (h : Rd w base g R bs p) (hbs : ∀ x ∈ bs, Byte x) (h0 : 0 ≤ n) (h64 : n ≤ 64) (hl : p + n.toNat ≤ 8 * bs.length) :
    Calls Tryd.prog 32 #[.pointer (some ⟨g, 0, none⟩), .int .i64 n] w fun e w' =>
      e = .returned (.tuple #[.int .u64 ((val (((unB bs).drop p).take n.toNat) : Nat) : Int), .int .i64 0]) ∧ Rd w' base g R bs (p + n.toNat) ∧ Touch g none w w' := by
  obtain ⟨N, rfl⟩ := Int.eq_ofNat_of_zero_le h0
  rw [Int.toNat_natCast] at hl ⊢
  exact get_nat w base g R bs p N h (by omega) hl hbs
theorem getI_no (w : World) (base g : Nat) (R : Option Nat) (bs : List Int) (p : Nat) (n : Int) (h : Rd w base g R bs p) (hbs : ∀ x ∈ bs, Byte x) (h0 : 0 ≤ n) (h64 : n ≤ 64) (hl : 8 * bs.length < p + n.toNat) :
    Calls Tryd.prog 32 #[.pointer (some ⟨g, 0, none⟩), .int .i64 n] w fun e w' =>
      e = .returned (.tuple #[.int .u64 0, .int .i64 50]) ∧ Rd w' base g R bs p ∧ Touch g none w w' := by
  have hc : getCode bs.length p n = 50 := by
    unfold getCode
    rw [if_neg (by omega), if_pos (by omega)]
  have := get_any w base g R bs p n h hbs
  rw [hc, getVal_bad (by rw [hc]; decide), getAt_bad (by rw [hc]; decide)] at this
  exact this

/-- One bit. -/
theorem drop_cons {bs : List Int} {p : Nat} {b : Bool} {m : List Bool} (h : (unB bs).drop p = b :: m) : p + 1 ≤ 8 * bs.length ∧ val (((unB bs).drop p).take 1) = b.toNat ∧ (unB bs).drop (p + 1) = m := by
  have h1 := congrArg List.length h
  rw [List.length_drop, length_unB, List.length_cons] at h1
  refine ⟨by omega, by rw [h]; simp [val], ?_⟩
  rw [← List.drop_drop, h]
  rfl
theorem drop_nil {bs : List Int} {p : Nat} (h : (unB bs).drop p = []) : 8 * bs.length < p + 1 := by
  have h1 := congrArg List.length h
  rw [List.length_drop, length_unB, List.length_nil] at h1
  omega
theorem bit_ok (w : World) (base g : Nat) (R : Option Nat) (bs : List Int) (p : Nat) (b : Bool) (m : List Bool) (v : Int) (h : Rd w base g R bs p) (hbs : ∀ x ∈ bs, Byte x) (hm : (unB bs).drop p = b :: m) (hv : (b.toNat : Int) = v) :
    Calls Tryd.prog 32 #[.pointer (some ⟨g, 0, none⟩), .int .i64 1] w fun e w' =>
      e = .returned (.tuple #[.int .u64 v, .int .i64 0]) ∧ Rd w' base g R bs (p + 1) ∧ Touch g none w w' := by
  obtain ⟨h1, h2, _⟩ := drop_cons hm
  have := getI_ok w base g R bs p 1 h hbs (by omega) (by omega) h1
  rw [show (1 : Int).toNat = 1 from rfl, h2, hv] at this
  exact this
theorem bit_no (w : World) (base g : Nat) (R : Option Nat) (bs : List Int) (p : Nat) (h : Rd w base g R bs p) (hbs : ∀ x ∈ bs, Byte x) (hm : (unB bs).drop p = []) :
    Calls Tryd.prog 32 #[.pointer (some ⟨g, 0, none⟩), .int .i64 1] w fun e w' =>
      e = .returned (.tuple #[.int .u64 0, .int .i64 50]) ∧ Rd w' base g R bs p ∧ Touch g none w w' :=
  getI_no w base g R bs p 1 h hbs (by omega) (by omega) (drop_nil hm)

theorem lead_cons {n : Nat} {l : List Bool} {k : Nat} (h : lead (n + 1) l = some k) : (∃ m, l = false :: m ∧ k = 0) ∨ ∃ m j, l = true :: m ∧ k = j + 1 ∧ lead n m = some j := by
  cases l with
  | nil => simp [lead] at h
  | cons b m =>
    cases b with
    | false => simp [lead] at h; exact .inl ⟨m, rfl, h.symm⟩
    | true =>
      simp only [lead, Option.map_eq_some_iff] at h
      obtain ⟨j, hj, rfl⟩ := h
      exact .inr ⟨m, j, rfl, rfl, hj⟩
theorem lead_non {n : Nat} {l : List Bool} (h : lead (n + 1) l = none) : l = [] ∨ ∃ m, l = true :: m ∧ lead n m = none := by
  cases l with
  | nil => exact .inl rfl
  | cons b m =>
    cases b with
    | false => simp [lead] at h
    | true =>
      simp only [lead, Option.map_eq_none_iff] at h
      exact .inr ⟨m, rfl, h⟩

theorem leadW_some (w : World) (base g : Nat) (R : Option Nat) (bs : List Int) (p k : Nat) (h : Rd w base g R bs p) (hbs : ∀ x ∈ bs, Byte x) (hk : lead 4 ((unB bs).drop p) = some k) :
    Calls Tryd.prog 81 #[.pointer (some ⟨g, 0, none⟩)] w fun e w' => e = .returned (.tuple #[.int .i64 (k : Nat), .int .i64 0]) ∧ Rd w' base g R bs (p + (k + (ends k).length)) ∧ Touch g none w w' := by
  have hk4 := lead_le _ _ _ hk
  have HBS := Lib.hid hbs
  have HK := Lib.hid hk
  clear hbs hk
  go_enter Tryd.func81, Tryd.ntmps81
  go_wp2_with fail
  go_loopw [7] (fun kv wr => ∃ i : Nat, kv = .int .i64 i ∧ i ≤ k ∧ Rd wr base g R bs (p + i) ∧ Touch g none w wr ∧ Hid (lead (4 - i) ((unB bs).drop (p + i)) = some (k - i))) (fun kv _ => 4 - (intOf kv).toNat)
  case atStart => exact ⟨0, rfl, Nat.zero_le _, h, Touch.refl _ _ _, HK.out⟩
  case round =>
    obtain ⟨i, rfl, hi, hR, hT, hL⟩ := hrel
    rcases Nat.lt_or_ge i 4 with hi4 | hi4
    · have hl := hL.out
      rw [show 4 - i = (3 - i) + 1 by omega] at hl
      rcases lead_cons hl with ⟨m, hm, hk0⟩ | ⟨m, j, hm, hkj, hj⟩
      · have bk := bit_ok wr base g R bs (p + i) false m 0 hR HBS.out hm rfl
        obtain rfl : k = i := by omega
        have BK := Lib.hid bk
        clear bk hl hm hk0 hL HK
        go_wp2_with fail
        refine BK.out.mono ?_
        rintro e w2 ⟨rfl, hR2, hT2⟩
        go_wp2_with fail
        go_ret2
        refine ⟨rfl, ?_, hT.trans hT2 (.inl rfl)⟩
        rw [show (ends k).length = 1 by unfold ends; rw [if_pos hi4]; rfl, ← Nat.add_assoc]
        exact hR2
      · have bk := bit_ok wr base g R bs (p + i) true m 1 hR HBS.out hm rfl
        have hd := (drop_cons hm).2.2
        have BK := Lib.hid bk
        have HJ : Hid (lead (4 - (i + 1)) ((unB bs).drop (p + (i + 1))) = some (k - (i + 1))) := by
          rw [← Nat.add_assoc, hd, show 4 - (i + 1) = 3 - i by omega, hj, show k - (i + 1) = j by omega]
          exact rfl
        have hki : i + 1 ≤ k := by omega
        clear bk hl hm hd hj hkj hL HK
        go_wp2_with fail
        refine BK.out.mono ?_
        rintro e w2 ⟨rfl, hR2, hT2⟩
        go_wp2_with fail
        go_roundw
        case rel => exact ⟨i + 1, by go_num, hki, hR2, hT.trans hT2 (.inl rfl), HJ⟩
        case measure => simp [intOf]; omega
    · obtain rfl : i = 4 := by omega
      obtain rfl : k = 4 := by omega
      clear hL HK
      go_wp2_with fail
      go_ret2
      exact ⟨rfl, hR, hT⟩

theorem leadW_none (w : World) (base g : Nat) (R : Option Nat) (bs : List Int) (p : Nat) (h : Rd w base g R bs p) (hbs : ∀ x ∈ bs, Byte x) (hk : lead 4 ((unB bs).drop p) = none) :
    Calls Tryd.prog 81 #[.pointer (some ⟨g, 0, none⟩)] w fun e w' => ∃ (k : Int) (p' : Nat), e = .returned (.tuple #[.int .i64 k, .int .i64 50]) ∧ Rd w' base g R bs p' ∧ Touch g none w w' := by
  have HBS := Lib.hid hbs
  have HK := Lib.hid hk
  clear hbs hk
  go_enter Tryd.func81, Tryd.ntmps81
  go_wp2_with fail
  go_loopw [7] (fun kv wr => ∃ i : Nat, kv = .int .i64 i ∧ i ≤ 4 ∧ Rd wr base g R bs (p + i) ∧ Touch g none w wr ∧ Hid (lead (4 - i) ((unB bs).drop (p + i)) = none)) (fun kv _ => 4 - (intOf kv).toNat)
  case atStart => exact ⟨0, rfl, Nat.zero_le _, h, Touch.refl _ _ _, HK.out⟩
  case round =>
    obtain ⟨i, rfl, hi, hR, hT, hL⟩ := hrel
    rcases Nat.lt_or_ge i 4 with hi4 | hi4
    · have hl := hL.out
      rw [show 4 - i = (3 - i) + 1 by omega] at hl
      rcases lead_non hl with hm | ⟨m, hm, hj⟩
      · have bk := bit_no wr base g R bs (p + i) hR HBS.out hm
        have BK := Lib.hid bk
        clear bk hl hm hL HK
        go_wp2_with fail
        refine BK.out.mono ?_
        rintro e w2 ⟨rfl, hR2, hT2⟩
        go_wp2_with fail
        go_ret2
        exact ⟨_, _, rfl, hR2, hT.trans hT2 (.inl rfl)⟩
      · have bk := bit_ok wr base g R bs (p + i) true m 1 hR HBS.out hm rfl
        have hd := (drop_cons hm).2.2
        have BK := Lib.hid bk
        have HJ : Hid (lead (4 - (i + 1)) ((unB bs).drop (p + (i + 1))) = none) := by
          rw [← Nat.add_assoc, hd, show 4 - (i + 1) = 3 - i by omega, hj]
          exact rfl
        clear bk hl hm hd hj hL HK
        go_wp2_with fail
        refine BK.out.mono ?_
        rintro e w2 ⟨rfl, hR2, hT2⟩
        go_wp2_with fail
        go_roundw
        case rel => exact ⟨i + 1, by go_num, by omega, hR2, hT.trans hT2 (.inl rfl), HJ⟩
        case measure => simp [intOf]; omega
    · obtain rfl : i = 4 := by omega
      have := hL.out
      simp [lead] at this

theorem StampTab.wid {w : World} (h : StampTab w) {k : Nat} (hk : k ≤ 4) : w.cell? ⟨0, k * 3 + 2, none⟩ = some (.int .i64 (wid k : Nat)) := by
  rw [h _ (by omega)]
  have hc : k = 0 ∨ k = 1 ∨ k = 2 ∨ k = 3 ∨ k = 4 := by omega
  rcases hc with rfl | rfl | rfl | rfl | rfl <;> rfl
/-- What getZ says, taken apart. -/
theorem getZ_parts {l : List Bool} {z c : Nat} (h : getZ l = (0, z, c)) : ∃ k, lead 4 l = some k ∧ k + (ends k).length + wid k ≤ l.length ∧ val ((l.drop (k + (ends k).length)).take (wid k)) = z ∧ ofc z = k ∧ c = k + (ends k).length + wid k := by
  unfold getZ at h
  split at h
  · simp at h
  · rename_i k hk
    split at h
    · simp at h
    · rename_i hl
      split at h
      · rename_i ho
        simp only [Prod.mk.injEq, true_and] at h
        exact ⟨k, hk, by omega, h.1, by rw [← h.1]; exact ho, h.2.symm⟩
      · simp at h
theorem getZ_wrong {l : List Bool} (h : (getZ l).1 ≠ 0) : (lead 4 l = none ∧ (getZ l).1 = 50) ∨ ∃ k, lead 4 l = some k ∧ ((l.length < k + (ends k).length + wid k ∧ (getZ l).1 = 50) ∨
    (k + (ends k).length + wid k ≤ l.length ∧ ofc (val ((l.drop (k + (ends k).length)).take (wid k))) ≠ k ∧ (getZ l).1 = 60)) := by
  unfold getZ at h ⊢
  split
  · exact .inl ⟨by assumption, rfl⟩
  · rename_i k hk
    refine .inr ⟨k, hk, ?_⟩
    rw [hk] at h
    simp only at h
    by_cases h1 : l.length < k + (ends k).length + wid k
    · rw [if_pos h1]; exact .inl ⟨h1, rfl⟩
    · rw [if_neg h1] at h ⊢
      by_cases h2 : ofc (val ((l.drop (k + (ends k).length)).take (wid k))) = k
      · rw [if_pos h2] at h; simp at h
      · rw [if_neg h2]; exact .inr ⟨by omega, h2, rfl⟩

theorem rest_len (bs : List Int) (p : Nat) : ((unB bs).drop p).length = 8 * bs.length - p := by rw [List.length_drop, length_unB]
theorem StampTab.touch {g : Nat} {B : Option Nat} {w w' : World} (h : StampTab w) (ht : Touch g B w w') (hg : 1 ≤ g) (hB : some 0 ≠ B) : StampTab w' := fun j hj =>
  (World.cell?_of_block (ht.block 0 (World.block_lt_of_cell? w ⟨0, j, none⟩ (h j hj)) (by omega) hB)).trans (h j hj)
theorem StampTab.pos {w : World} (h : StampTab w) : 0 < w.heap.size := World.block_lt_of_cell? w ⟨0, 0, none⟩ (h 0 (by omega))

theorem zag_word (z : Nat) (hz : z < 281474976710656) : bits BinOp.xor IntKind.i64 (wrap64 ((z : Int) / 2)) (wrap64 (-wrap64 (bits BinOp.and IntKind.u64 (z : Int) 1))) = zag z := by
  have e1 : bits BinOp.and IntKind.u64 (z : Int) 1 = ((z % 2 : Nat) : Int) := by
    have := u64_and_nat z 1 (by omega) (by omega)
    rw [Nat.and_one_is_mod] at this
    exact this
  have e2 : wrap64 ((z : Int) / 2) = ((z / 2 : Nat) : Int) := by unfold wrap64; omega
  rw [e1, e2]
  unfold zag
  rcases Nat.mod_two_eq_zero_or_one z with h | h
  · rw [h, if_pos rfl, show wrap64 (-wrap64 ((0 : Nat) : Int)) = 0 by unfold wrap64; omega, bits_xor_zero _ (by omega) (by omega)]
  · rw [h, if_neg (by decide), show wrap64 (-wrap64 ((1 : Nat) : Int)) = -1 by unfold wrap64; omega, bits_xor_neg _ (by omega) (by omega)]

set_option maxHeartbeats 400000 in
theorem dif_ok (w : World) (base g : Nat) (R : Option Nat) (bs : List Int) (p z c : Nat) (h : Rd w base g R bs p) (hT : StampTab w) (hb : 1 ≤ base) (hbs : ∀ x ∈ bs, Byte x) (hz : getZ ((unB bs).drop p) = (0, z, c)) :
    Calls Tryd.prog 73 #[.pointer (some ⟨g, 0, none⟩)] w fun e w' => e = .returned (.tuple #[.int .i64 (zag z), .int .i64 0]) ∧ Rd w' base g R bs (p + c) ∧ Touch g none w w' := by
  obtain ⟨_, _, hz48⟩ := getZ_take _ _ _ hz
  obtain ⟨k, hk, hl, hv, hok, hc⟩ := getZ_parts hz
  have hk4 := lead_le _ _ _ hk
  rw [rest_len] at hl
  have hpl := h.place
  have hg1 : 1 ≤ g := Nat.le_trans hb h.1
  rw [List.drop_drop] at hv
  have HBS := Lib.hid hbs
  have HK := Lib.hid hk
  have HV := Lib.hid hv
  have HC := Lib.hid hc
  have HZ := Lib.hid hz48
  have OF := fun W h1 => of_int z k W h1 (by rw [hok])
  have HOF := Lib.hid OF
  have hwd := wid_le k
  clear hbs hk hv hok hc hz hz48 OF
  go_enter Tryd.func73, Tryd.ntmps73
  go_wp2_with fail
  refine (leadW_some w base g R bs p k h HBS.out HK.out).mono ?_
  rintro e w1 ⟨rfl, hR1, hT1⟩
  have T1 := hT.touch hT1 hg1 (by simp)
  have t1 := T1.wid hk4
  go_wp2_with fail
  refine (getI_ok w1 base g R bs _ (wid k : Nat) hR1 HBS.out (by omega) (by omega) (by rw [Int.toNat_natCast]; omega)).mono ?_
  rw [Int.toNat_natCast, HV.out]
  rintro e w2 ⟨rfl, hR2, hT2⟩
  have T2 := T1.touch hT2 hg1 (by simp)
  have hT12 := hT1.trans hT2 (.inl rfl)
  clear t1 hT1 hT2
  go_wp2_with fail
  refine (HOF.out _ T2).mono ?_
  rintro e w3 ⟨rfl, hB3⟩
  go_wp2_with fail
  rw [zag_word z HZ.out]
  go_ret2
  refine ⟨rfl, ?_, hT12.trans (Touch.of_below hB3 g none) (.inl rfl)⟩
  rw [HC.out, ← Nat.add_assoc]
  exact hR2.below hB3

theorem dif_no (w : World) (base g : Nat) (R : Option Nat) (bs : List Int) (p : Nat) (C : Int) (h : Rd w base g R bs p) (hT : StampTab w) (hb : 1 ≤ base) (hbs : ∀ x ∈ bs, Byte x) (hz : (getZ ((unB bs).drop p)).1 = C) (hC : C ≠ 0) :
    Calls Tryd.prog 73 #[.pointer (some ⟨g, 0, none⟩)] w fun e w' => ∃ p', e = .returned (.tuple #[.int .i64 0, .int .i64 C]) ∧ Rd w' base g R bs p' ∧ Touch g none w w' := by
  have hpl := h.place
  have hg1 : 1 ≤ g := Nat.le_trans hb h.1
  have HBS := Lib.hid hbs
  rcases getZ_wrong (by rw [hz]; exact hC) with ⟨hk, hc⟩ | ⟨k, hk, ⟨hl, hc⟩ | ⟨hl, ho, hc⟩⟩
  · obtain rfl : C = 50 := by rw [← hz, hc]
    have HK := Lib.hid hk
    clear hbs hk hc hz hC
    go_enter Tryd.func73, Tryd.ntmps73
    go_wp2_with fail
    refine (leadW_none w base g R bs p h HBS.out HK.out).mono ?_
    rintro e w1 ⟨k, p1, rfl, hR1, hT1⟩
    go_wp2_with fail
    go_ret2
    exact ⟨_, rfl, hR1, hT1⟩
  · obtain rfl : C = 50 := by rw [← hz, hc]
    have HK := Lib.hid hk
    have hk4 := lead_le _ _ _ hk
    have hwd := wid_le k
    rw [rest_len] at hl
    clear hbs hk hc hz hC
    go_enter Tryd.func73, Tryd.ntmps73
    go_wp2_with fail
    refine (leadW_some w base g R bs p k h HBS.out HK.out).mono ?_
    rintro e w1 ⟨rfl, hR1, hT1⟩
    have T1 := hT.touch hT1 hg1 (by simp)
    have t1 := T1.wid hk4
    have hp1 := hR1.place
    go_wp2_with fail
    refine (getI_no w1 base g R bs _ (wid k : Nat) hR1 HBS.out (by omega) (by omega) (by rw [Int.toNat_natCast]; omega)).mono ?_
    rintro e w2 ⟨rfl, hR2, hT2⟩
    have hT12 := hT1.trans hT2 (.inl rfl)
    clear t1 hT1 hT2
    go_wp2_with fail
    go_ret2
    exact ⟨_, rfl, hR2, hT12⟩
  · obtain rfl : C = 60 := by rw [← hz, hc]
    have HK := Lib.hid hk
    have hk4 := lead_le _ _ _ hk
    have hwd := wid_le k
    rw [rest_len] at hl
    rw [List.drop_drop] at ho
    obtain ⟨z, hv⟩ : ∃ z, val (((unB bs).drop (p + (k + (ends k).length))).take (wid k)) = z := ⟨_, rfl⟩
    rw [hv] at ho
    have HV := Lib.hid hv
    have OF := fun W h1 => of_any z W h1
    have hn : (((ofc z : Nat) : Int) != ((k : Nat) : Int)) = true := by simp; omega
    have hn2 : (ofc z == k) = false := beq_eq_false_iff_ne.2 ho
    have HOF := Lib.hid OF
    clear hbs hk hc hz hC hv OF ho
    generalize ofc z = oz at *
    go_enter Tryd.func73, Tryd.ntmps73
    go_wp2_with fail
    refine (leadW_some w base g R bs p k h HBS.out HK.out).mono ?_
    rintro e w1 ⟨rfl, hR1, hT1⟩
    have T1 := hT.touch hT1 hg1 (by simp)
    have t1 := T1.wid hk4
    go_wp2_with fail
    refine (getI_ok w1 base g R bs _ (wid k : Nat) hR1 HBS.out (by omega) (by omega) (by rw [Int.toNat_natCast]; omega)).mono ?_
    rw [Int.toNat_natCast, HV.out]
    rintro e w2 ⟨rfl, hR2, hT2⟩
    have T2 := T1.touch hT2 hg1 (by simp)
    have hT12 := hT1.trans hT2 (.inl rfl)
    clear t1 hT1 hT2
    go_wp2_with fail
    refine (HOF.out _ T2).mono ?_
    rintro e w3 ⟨rfl, hB3⟩
    go_wp2_with fail
    go_ret2
    exact ⟨_, rfl, hR2.below hB3, hT12.trans (Touch.of_below hB3 g none) (.inl rfl)⟩

/-- What getS says, taken apart. -/
theorem getS_parts {l : List Bool} {N L D t d : Int} {c : Nat} (h : getS l N L D = (0, t, d, c)) : rightS N L D = true ∧ ((N = 0 ∧ 46 ≤ l.length ∧ val (l.take 46) ≤ 35184372088832 ∧ t = (val (l.take 46) : Nat) ∧ d = 0 ∧ c = 46) ∨
    (N ≠ 0 ∧ ∃ z, getZ l = (0, z, c) ∧ 1 ≤ D + zag z ∧ D + zag z ≤ 35184372088832 - L ∧ t = L + (D + zag z) ∧ d = D + zag z)) := by
  unfold getS at h
  by_cases h1 : rightS N L D = false
  · rw [if_pos h1] at h; simp at h
  rw [if_neg h1] at h
  refine ⟨by simpa using h1, ?_⟩
  by_cases hN : N = 0
  · rw [if_pos hN] at h
    by_cases h2 : l.length < 46
    · rw [if_pos h2] at h; simp at h
    rw [if_neg h2] at h
    by_cases h3 : 35184372088832 < val (l.take 46)
    · rw [if_pos h3] at h; simp at h
    rw [if_neg h3] at h
    simp only [Prod.mk.injEq, true_and] at h
    exact .inl ⟨hN, by omega, by omega, h.1.symm, h.2.1.symm, h.2.2.symm⟩
  · rw [if_neg hN] at h
    by_cases h2 : (getZ l).1 ≠ 0
    · rw [if_pos h2] at h
      simp only [Prod.mk.injEq] at h
      exact absurd h.1 h2
    rw [if_neg h2] at h
    have h2 : (getZ l).1 = 0 := by simpa using h2
    split at h
    · simp at h
    · rename_i hd
      simp only [Prod.mk.injEq, true_and] at h
      obtain ⟨e1, e2, e3⟩ := h
      exact .inr ⟨hN, (getZ l).2.1, by rw [← e3, ← h2], by omega, by omega, e1.symm, e2.symm⟩
/-- .. and where it refuses. -/
theorem getS_wrong {l : List Bool} {N L D : Int} (h : (getS l N L D).1 ≠ 0) : (rightS N L D = false ∧ getS l N L D = (60, 0, 0, 0)) ∨ (rightS N L D = true ∧ ((N = 0 ∧ ((l.length < 46 ∧ getS l N L D = (50, 0, 0, 0)) ∨ (46 ≤ l.length ∧ 35184372088832 < val (l.take 46) ∧ getS l N L D = (60, 0, 0, 0)))) ∨
    (N ≠ 0 ∧ (((getZ l).1 ≠ 0 ∧ getS l N L D = ((getZ l).1, 0, 0, 0)) ∨ (∃ z c, getZ l = (0, z, c) ∧ (D + zag z < 1 ∨ 35184372088832 - L < D + zag z) ∧ getS l N L D = (60, 0, 0, 0)))))) := by
  unfold getS at h ⊢
  by_cases h1 : rightS N L D = false
  · exact .inl ⟨h1, by rw [if_pos h1]⟩
  rw [if_neg h1] at h ⊢
  refine .inr ⟨by simpa using h1, ?_⟩
  by_cases hN : N = 0
  · rw [if_pos hN] at h ⊢
    refine .inl ⟨hN, ?_⟩
    by_cases h2 : l.length < 46
    · exact .inl ⟨h2, by rw [if_pos h2]⟩
    rw [if_neg h2] at h ⊢
    by_cases h3 : 35184372088832 < val (l.take 46)
    · exact .inr ⟨by omega, h3, by rw [if_pos h3]⟩
    · rw [if_neg h3] at h; simp at h
  · rw [if_neg hN] at h ⊢
    refine .inr ⟨hN, ?_⟩
    by_cases h2 : (getZ l).1 ≠ 0
    · exact .inl ⟨h2, by rw [if_pos h2]⟩
    rw [if_neg h2] at h ⊢
    have h2 : (getZ l).1 = 0 := by simpa using h2
    by_cases hd : D + zag (getZ l).2.1 < 1 ∨ 35184372088832 - L < D + zag (getZ l).2.1
    · exact .inr ⟨(getZ l).2.1, (getZ l).2.2, by rw [← h2], hd, by rw [if_pos hd]⟩
    · rw [if_neg hd] at h; simp at h

theorem Rd.put3 {w : World} {base g r : Nat} {R : Option Nat} {bs : List Int} {p : Nat} (h : Rd w base g R bs p) (h1 : g ≠ r) (h2 : R ≠ some r) (x y z : Value) : Rd (Go.Proofs.YtlgndfckmnninaaDoor.put3 w r x y z) base g R bs p :=
  h.touch ((((Touch.refl r none w).set_ 0 x).set_ 1 y).set_ 2 z) h1 (by simp) h2 (by cases R <;> simp)

/-- A reader, wherever it stands. -/
def RdS (w : World) (base g : Nat) (R : Option Nat) (bs : List Int) : Prop := ∃ p, Rd w base g R bs p

set_option maxHeartbeats 1600000 in
theorem sGet_no (w : World) (base g : Nat) (R : Option Nat) (bs : List Int) (p : Nat) (N L D C : Int) (h : Rd w base g R bs p) (hRl : ∀ k, R = some k → k < w.heap.size) (hT : StampTab w) (hb : 1 ≤ base) (hbs : ∀ x ∈ bs, Byte x) (hC : (getS ((unB bs).drop p) N L D).1 = C) (hC0 : C ≠ 0) :
    Calls Tryd.prog 34 #[.pointer (some ⟨g, 0, none⟩), .agg #[.int .i64 N, .int .i64 L, .int .i64 D]] w fun e w' =>
      e = .returned (.tuple #[.agg #[.int .i64 0, .int .i64 0, .int .i64 0], .int .i64 0, .int .i64 C]) ∧ RdS w' base g R bs ∧ Touch g none w w' := by
  obtain ⟨S0, R0, H0⟩ := two_new w (.int .i64 N) (.int .i64 L) (.int .i64 0) (.int .i64 0) (.int .i64 0) (.int .i64 D) 27 27
  have hlt := h.lt
  have HRL := Lib.hid hRl
  have HBS := Lib.hid hbs
  have nR : R ≠ some (w.heap.size + 1) := fun e => by have := hRl _ e; omega
  have NR := Lib.hid nR
  clear nR
  rcases getS_wrong (by rw [hC]; exact hC0) with ⟨hr, he⟩ | ⟨hr, ⟨hN, ⟨hl, he⟩ | ⟨hl, hv, he⟩⟩ | ⟨hN, ⟨hz, he⟩ | ⟨z, c, hz, hd, he⟩⟩⟩
  · obtain rfl : C = 60 := by rw [← hC, he]
    clear hC he hC0 hbs hRl
    go_enter Tryd.func34, Tryd.ntmps34
    go_wp2_with fail
    refine (right_no N L D _ hr).mono ?_
    rintro e w1 ⟨rfl, hB1⟩
    have H1 := below_more H0 hB1
    have R2 := R0.below hB1
    have D2 := h.below H1
    have K2 := Touch.of_below H1 g none
    obtain ⟨d0, d1, d2⟩ := R2.cells3
    obtain ⟨e0, e1, e2⟩ := R2.free3
    go_wp2_with fail
    obtain ⟨q0, q1, q2⟩ := (R2.put3 (.int .i64 0) (.int .i64 0) (.int .i64 0)).cells3
    refine bodyPost_ret (v := .tuple #[.agg #[.int .i64 0, .int .i64 0, .int .i64 0], .int .i64 0, .int .i64 60]) (by simp [results, Tryd.results34, go_sem, q0, q1, q2]) rfl ⟨rfl, ⟨_, D2.put3 (by omega) NR.out _ _ _⟩, K2.put3 (by omega) _ _ _⟩
  · subst hN
    obtain rfl : C = 50 := by rw [← hC, he]
    rw [rest_len] at hl
    have hpl := h.place
    have HR := Lib.hid hr
    clear hC he hC0 hbs hRl hr
    go_enter Tryd.func34, Tryd.ntmps34
    go_wp2_with fail
    refine (right_yes _ _ _ _ HR.out).mono ?_
    rintro e w1 ⟨rfl, hB1⟩
    have H1 := below_more H0 hB1
    have R1 := R0.below hB1
    have S1 := S0.below hB1
    have D1 := h.below H1
    have T1 := hT.below H1
    have hz1 := H1.size
    have hz1r := R1.lt
    obtain ⟨c0, c1, c2⟩ := S1.cells3
    go_wp2_with fail
    refine (getI_no w1 base g R bs p 46 D1 HBS.out (by omega) (by omega) (by have : (46 : Int).toNat = 46 := rfl; omega)).mono ?_
    rintro e w2 ⟨rfl, D2, hT2⟩
    have R2 := R1.touch hT2 (by omega) (by simp)
    have K2 := (Touch.of_below H1 g none).trans hT2 (.inl rfl)
    clear c0 c1 c2
    obtain ⟨d0, d1, d2⟩ := R2.cells3
    obtain ⟨e0, e1, e2⟩ := R2.free3
    go_wp2_with fail
    obtain ⟨q0, q1, q2⟩ := (R2.put3 (.int .i64 0) (.int .i64 0) (.int .i64 0)).cells3
    refine bodyPost_ret (v := .tuple #[.agg #[.int .i64 0, .int .i64 0, .int .i64 0], .int .i64 0, .int .i64 50]) (by simp [results, Tryd.results34, go_sem, q0, q1, q2]) rfl ⟨rfl, ⟨_, D2.put3 (by omega) NR.out _ _ _⟩, K2.put3 (by omega) _ _ _⟩
  · subst hN
    obtain rfl : C = 60 := by rw [← hC, he]
    rw [rest_len] at hl
    have hpl := h.place
    obtain ⟨V, hV⟩ : ∃ V, val (((unB bs).drop p).take 46) = V := ⟨_, rfl⟩
    rw [hV] at hv
    have hV2 : V < 70368744177664 := by
      rw [← hV]
      refine Nat.lt_of_lt_of_le (val_lt _) (show 2 ^ (((unB bs).drop p).take 46).length ≤ 2 ^ 46 from Nat.pow_le_pow_right (by omega) (by rw [List.length_take]; omega))
    have hw : wrap64 (V : Int) = (V : Int) := by unfold wrap64; omega
    have hnx : nextS 0 L (V : Int) = false := decide_eq_false (by omega)
    have nx := fun W => next_no 0 L D V W hnx
    have NX := Lib.hid nx
    have HV := Lib.hid hV
    have HR := Lib.hid hr
    clear hC he hC0 hbs hRl hr hv hV2 hnx nx hV
    go_enter Tryd.func34, Tryd.ntmps34
    go_wp2_with fail
    refine (right_yes _ _ _ _ HR.out).mono ?_
    rintro e w1 ⟨rfl, hB1⟩
    have H1 := below_more H0 hB1
    have R1 := R0.below hB1
    have S1 := S0.below hB1
    have D1 := h.below H1
    have T1 := hT.below H1
    have hz1 := H1.size
    have hz1r := R1.lt
    obtain ⟨c0, c1, c2⟩ := S1.cells3
    go_wp2_with fail
    refine (getI_ok w1 base g R bs p 46 D1 HBS.out (by omega) (by omega) (by have : (46 : Int).toNat = 46 := rfl; omega)).mono ?_
    rw [show (46 : Int).toNat = 46 from rfl, HV.out]
    rintro e w2 ⟨rfl, D2', hT2⟩
    have R2' := R1.touch hT2 (by omega) (by simp)
    have S2' := S1.touch hT2 (by omega) (by simp)
    have K2' := (Touch.of_below H1 g none).trans hT2 (.inl rfl)
    clear c0 c1 c2
    obtain ⟨c0, c1, c2⟩ := S2'.cells3
    go_wp2_with fail
    refine (NX.out _).mono ?_
    rintro e w3 ⟨rfl, hB3⟩
    have BA := (Below.refl w3.heap.size w3).alloc (Nat.le_refl _) (.cells #[.int .i64 0, .int .i64 0, .int .i64 0] 27)
    have R2 := (R2'.below hB3).below BA
    have D2 := (D2'.below hB3).below BA
    have K2 := (K2'.trans (Touch.of_below hB3 g none) (.inl rfl)).trans (Touch.of_below BA g none) (.inl rfl)
    clear c0 c1 c2
    obtain ⟨d0, d1, d2⟩ := R2.cells3
    obtain ⟨e0, e1, e2⟩ := R2.free3
    go_wp2_with fail
    obtain ⟨q0, q1, q2⟩ := (R2.put3 (.int .i64 0) (.int .i64 0) (.int .i64 0)).cells3
    refine bodyPost_ret (v := .tuple #[.agg #[.int .i64 0, .int .i64 0, .int .i64 0], .int .i64 0, .int .i64 60]) (by simp [results, Tryd.results34, go_sem, q0, q1, q2]) rfl ⟨rfl, ⟨_, D2.put3 (by omega) NR.out _ _ _⟩, K2.put3 (by omega) _ _ _⟩
  · have h0 : (N == 0) = false := beq_eq_false_iff_ne.2 hN
    obtain ⟨HC1, HC2⟩ : Hid ((getZ ((unB bs).drop p)).1 = C) ∧ Hid (C ≠ 0) := ⟨by rw [he] at hC; exact hC, hC0⟩
    have h1 : (C != 0) = true := by simp [hC0]
    have h2 : (C == 0) = false := beq_eq_false_iff_ne.2 hC0
    have HR := Lib.hid hr
    clear hC he hC0 hbs hRl hr hN hz
    go_enter Tryd.func34, Tryd.ntmps34
    go_wp2_with fail
    refine (right_yes _ _ _ _ HR.out).mono ?_
    rintro e w1 ⟨rfl, hB1⟩
    have H1 := below_more H0 hB1
    have R1 := R0.below hB1
    have S1 := S0.below hB1
    have D1 := h.below H1
    have T1 := hT.below H1
    have hz1 := H1.size
    have hz1r := R1.lt
    obtain ⟨c0, c1, c2⟩ := S1.cells3
    go_wp2_with fail
    refine (dif_no w1 base g R bs p C D1 T1 hb HBS.out HC1.out HC2.out).mono ?_
    rintro e w2 ⟨p2, rfl, D2, hT2⟩
    have R2 := R1.touch hT2 (by omega) (by simp)
    have K2 := (Touch.of_below H1 g none).trans hT2 (.inl rfl)
    clear c0 c1 c2
    obtain ⟨d0, d1, d2⟩ := R2.cells3
    obtain ⟨e0, e1, e2⟩ := R2.free3
    go_wp2_with fail
    obtain ⟨q0, q1, q2⟩ := (R2.put3 (.int .i64 0) (.int .i64 0) (.int .i64 0)).cells3
    refine bodyPost_ret (v := .tuple #[.agg #[.int .i64 0, .int .i64 0, .int .i64 0], .int .i64 0, .int .i64 C]) (by simp [results, Tryd.results34, go_sem, q0, q1, q2]) rfl ⟨rfl, ⟨_, D2.put3 (by omega) NR.out _ _ _⟩, K2.put3 (by omega) _ _ _⟩
  · obtain rfl : C = 60 := by rw [← hC, he]
    have h0 : (N == 0) = false := beq_eq_false_iff_ne.2 hN
    obtain ⟨a1, a2, a3, a4, a5, a6⟩ := rightS_of hr
    obtain ⟨_, _, hz48⟩ := getZ_take _ _ _ hz
    have hzg : -281474976710656 < zag z ∧ zag z < 281474976710656 := by unfold zag; split <;> omega
    have hnx : nextS N L (L + D + zag z) = false := decide_eq_false (by omega)
    have nx := fun W => next_no N L D (L + D + zag z) W hnx
    obtain ⟨dz, hdz⟩ : ∃ dz, zag z = dz := ⟨_, rfl⟩
    have do_ := fun W h1 h2 => dif_ok W base g R bs p z c h1 h2 hb HBS.out hz
    rw [hdz] at nx do_ hzg
    have NX := Lib.hid nx
    have DO := Lib.hid do_
    have HR := Lib.hid hr
    clear hC he hC0 hbs hRl hr hN hz hnx nx do_ hd hdz
    go_enter Tryd.func34, Tryd.ntmps34
    go_wp2_with fail
    refine (right_yes _ _ _ _ HR.out).mono ?_
    rintro e w1 ⟨rfl, hB1⟩
    have H1 := below_more H0 hB1
    have R1 := R0.below hB1
    have S1 := S0.below hB1
    have D1 := h.below H1
    have T1 := hT.below H1
    have hz1 := H1.size
    have hz1r := R1.lt
    obtain ⟨c0, c1, c2⟩ := S1.cells3
    go_wp2_with fail
    refine (DO.out _ D1 T1).mono ?_
    rintro e w2 ⟨rfl, D2', hT2⟩
    have R2' := R1.touch hT2 (by omega) (by simp)
    have S2' := S1.touch hT2 (by omega) (by simp)
    have K2' := (Touch.of_below H1 g none).trans hT2 (.inl rfl)
    clear c0 c1 c2
    obtain ⟨c0, c1, c2⟩ := S2'.cells3
    go_wp2_with fail
    refine (NX.out _).mono ?_
    rintro e w3 ⟨rfl, hB3⟩
    have BA := (Below.refl w3.heap.size w3).alloc (Nat.le_refl _) (.cells #[.int .i64 0, .int .i64 0, .int .i64 0] 27)
    have R2 := (R2'.below hB3).below BA
    have D2 := (D2'.below hB3).below BA
    have K2 := (K2'.trans (Touch.of_below hB3 g none) (.inl rfl)).trans (Touch.of_below BA g none) (.inl rfl)
    clear c0 c1 c2
    obtain ⟨d0, d1, d2⟩ := R2.cells3
    obtain ⟨e0, e1, e2⟩ := R2.free3
    go_wp2_with fail
    obtain ⟨q0, q1, q2⟩ := (R2.put3 (.int .i64 0) (.int .i64 0) (.int .i64 0)).cells3
    refine bodyPost_ret (v := .tuple #[.agg #[.int .i64 0, .int .i64 0, .int .i64 0], .int .i64 0, .int .i64 60]) (by simp [results, Tryd.results34, go_sem, q0, q1, q2]) rfl ⟨rfl, ⟨_, D2.put3 (by omega) NR.out _ _ _⟩, K2.put3 (by omega) _ _ _⟩

set_option maxHeartbeats 1600000 in
theorem sGet_ok (w : World) (base g : Nat) (R : Option Nat) (bs : List Int) (p : Nat) (N L D t d : Int) (c : Nat) (h : Rd w base g R bs p) (hRl : ∀ k, R = some k → k < w.heap.size) (hT : StampTab w) (hb : 1 ≤ base) (hbs : ∀ x ∈ bs, Byte x) (hG : getS ((unB bs).drop p) N L D = (0, t, d, c)) :
    Calls Tryd.prog 34 #[.pointer (some ⟨g, 0, none⟩), .agg #[.int .i64 N, .int .i64 L, .int .i64 D]] w fun e w' =>
      e = .returned (.tuple #[.agg #[.int .i64 (N + 1), .int .i64 t, .int .i64 d], .int .i64 t, .int .i64 0]) ∧ Rd w' base g R bs (p + c) ∧ Touch g none w w' := by
  obtain ⟨S0, R0, H0⟩ := two_new w (.int .i64 N) (.int .i64 L) (.int .i64 0) (.int .i64 0) (.int .i64 0) (.int .i64 D) 27 27
  have hlt := h.lt
  have HBS := Lib.hid hbs
  have nR : R ≠ some (w.heap.size + 1) := fun e => by have := hRl _ e; omega
  have NR := Lib.hid nR
  obtain ⟨hr, hnx, hdd, _, _⟩ := getS_take _ _ _ _ _ _ _ hG
  have nx := fun W => next_yes N L D t W hnx hr
  rw [← hdd] at nx
  have NX := Lib.hid nx
  have hpl := h.place
  have HR := Lib.hid hr
  obtain ⟨_, hcs⟩ := getS_parts hG
  clear nR hbs hRl nx hdd hG hnx
  rcases hcs with ⟨rfl, hl, hv, rfl, rfl, rfl⟩ | ⟨hN, z, hz, hd1, hd2, rfl, rfl⟩
  · rw [rest_len] at hl
    obtain ⟨V, hV⟩ : ∃ V, val (((unB bs).drop p).take 46) = V := ⟨_, rfl⟩
    rw [hV] at hv NX ⊢
    rw [show (0 : Int) + 1 = 1 from rfl] at NX ⊢
    have hw : wrap64 (V : Int) = (V : Int) := by unfold wrap64; omega
    have HV := Lib.hid hV
    clear hV hr hv
    go_enter Tryd.func34, Tryd.ntmps34
    go_wp2_with fail
    refine (right_yes _ _ _ _ HR.out).mono ?_
    rintro e w1 ⟨rfl, hB1⟩
    have H1 := below_more H0 hB1
    have R1 := R0.below hB1
    have S1 := S0.below hB1
    have D1 := h.below H1
    have T1 := hT.below H1
    have hz1 := H1.size
    have hz1r := R1.lt
    obtain ⟨c0, c1, c2⟩ := S1.cells3
    go_wp2_with fail
    refine (getI_ok w1 base g R bs p 46 D1 HBS.out (by omega) (by omega) (by have : (46 : Int).toNat = 46 := rfl; omega)).mono ?_
    rw [show (46 : Int).toNat = 46 from rfl, HV.out]
    rintro e w2 ⟨rfl, D2', hT2⟩
    have R2' := R1.touch hT2 (by omega) (by simp)
    have S2' := S1.touch hT2 (by omega) (by simp)
    have K2' := (Touch.of_below H1 g none).trans hT2 (.inl rfl)
    clear c0 c1 c2
    obtain ⟨c0, c1, c2⟩ := S2'.cells3
    go_wp2_with fail
    refine (NX.out _).mono ?_
    rintro e w3 ⟨rfl, hB3⟩
    have BA := (Below.refl w3.heap.size w3).alloc (Nat.le_refl _) (.cells #[.int .i64 1, .int .i64 V, .int .i64 0] 27)
    have R2 := (R2'.below hB3).below BA
    have D2 := (D2'.below hB3).below BA
    have K2 := (K2'.trans (Touch.of_below hB3 g none) (.inl rfl)).trans (Touch.of_below BA g none) (.inl rfl)
    clear c0 c1 c2
    obtain ⟨d0, d1, d2⟩ := R2.cells3
    obtain ⟨e0, e1, e2⟩ := R2.free3
    go_wp2_with fail
    obtain ⟨q0, q1, q2⟩ := (R2.put3 (.int .i64 1) (.int .i64 V) (.int .i64 0)).cells3
    refine bodyPost_ret (v := .tuple #[.agg #[.int .i64 1, .int .i64 V, .int .i64 0], .int .i64 V, .int .i64 0]) (by simp [results, Tryd.results34, go_sem, q0, q1, q2]) rfl ⟨rfl, D2.put3 (by omega) NR.out _ _ _, K2.put3 (by omega) _ _ _⟩
  · have h0 : (N == 0) = false := beq_eq_false_iff_ne.2 hN
    obtain ⟨a1, a2, a3, a4, a5, a6⟩ := rightS_of hr
    obtain ⟨dz, hdz⟩ : ∃ dz, zag z = dz := ⟨_, rfl⟩
    have do_ := fun W h1 h2 => dif_ok W base g R bs p z c h1 h2 hb HBS.out hz
    rw [hdz] at do_ hd1 hd2 NX ⊢
    have DO := Lib.hid do_
    have hs : L + D + dz = L + (D + dz) := by omega
    clear hr hN hz do_ hdz
    go_enter Tryd.func34, Tryd.ntmps34
    go_wp2_with fail
    refine (right_yes _ _ _ _ HR.out).mono ?_
    rintro e w1 ⟨rfl, hB1⟩
    have H1 := below_more H0 hB1
    have R1 := R0.below hB1
    have S1 := S0.below hB1
    have D1 := h.below H1
    have T1 := hT.below H1
    have hz1 := H1.size
    have hz1r := R1.lt
    obtain ⟨c0, c1, c2⟩ := S1.cells3
    go_wp2_with fail
    refine (DO.out _ D1 T1).mono ?_
    rintro e w2 ⟨rfl, D2', hT2⟩
    have R2' := R1.touch hT2 (by omega) (by simp)
    have S2' := S1.touch hT2 (by omega) (by simp)
    have K2' := (Touch.of_below H1 g none).trans hT2 (.inl rfl)
    clear c0 c1 c2
    obtain ⟨c0, c1, c2⟩ := S2'.cells3
    go_wp2_with fail
    refine (NX.out _).mono ?_
    rintro e w3 ⟨rfl, hB3⟩
    have BA := (Below.refl w3.heap.size w3).alloc (Nat.le_refl _) (.cells #[.int .i64 (N + 1), .int .i64 (L + (D + dz)), .int .i64 (D + dz)] 27)
    have R2 := (R2'.below hB3).below BA
    have D2 := (D2'.below hB3).below BA
    have K2 := (K2'.trans (Touch.of_below hB3 g none) (.inl rfl)).trans (Touch.of_below BA g none) (.inl rfl)
    clear c0 c1 c2
    obtain ⟨d0, d1, d2⟩ := R2.cells3
    obtain ⟨e0, e1, e2⟩ := R2.free3
    go_wp2_with fail
    obtain ⟨q0, q1, q2⟩ := (R2.put3 (.int .i64 (N + 1)) (.int .i64 (L + (D + dz))) (.int .i64 (D + dz))).cells3
    refine bodyPost_ret (v := .tuple #[.agg #[.int .i64 (N + 1), .int .i64 (L + (D + dz)), .int .i64 (D + dz)], .int .i64 (L + (D + dz)), .int .i64 0]) (by simp [results, Tryd.results34, go_sem, q0, q1, q2]) rfl ⟨rfl, D2.put3 (by omega) NR.out _ _ _, K2.put3 (by omega) _ _ _⟩
end Go.Proofs.YtlgndfckmnninaaDoor
