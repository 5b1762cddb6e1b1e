/- Walk of the reference's Get of a time. Conditions: as stated. -/
import Derived.Test.YtlgndfckmnninaaDoorStampG
import Derived.Test.YtlgndfckmnninaaDoorStampR
namespace Go.Proofs.YtlgndfckmnninaaDoor
open Go.RowKit

theorem rgetI_ok (w : World) (g : Nat) (R : Option Nat) (bs : List Int) (p : Nat) (n : Int) (h : Rr w g R bs p) (hbs : ∀ x ∈ bs, Byte x) (h0 : 0 ≤ n) (h64 : n ≤ 64) (hl : p + n.toNat ≤ 8 * bs.length) :
    Calls Tryd.prog 33 #[.pointer (some ⟨g, 0, none⟩), .int .i64 n] w fun e w' =>
      e = .returned (.tuple #[.int .u64 ((val (((unB bs).drop p).take n.toNat) : Nat) : Int), .int .i64 0]) ∧ Rr w' g R bs (p + n.toNat) ∧ Touch g none w w' := by
  obtain ⟨N, rfl⟩ := Int.eq_ofNat_of_zero_le h0
  rw [Int.toNat_natCast] at hl ⊢
  exact refGet_nat w g R bs p N h (by omega) hl hbs
theorem rgetI_no (w : World) (g : Nat) (R : Option Nat) (bs : List Int) (p : Nat) (n : Int) (h : Rr w g R bs p) (hbs : ∀ x ∈ bs, Byte x) (h0 : 0 ≤ n) (h64 : n ≤ 64) (hl : 8 * bs.length < p + n.toNat) :
    Calls Tryd.prog 33 #[.pointer (some ⟨g, 0, none⟩), .int .i64 n] w fun e w' =>
      e = .returned (.tuple #[.int .u64 0, .int .i64 50]) ∧ Rr w' g R bs p ∧ Touch g none w w' := by
  have hc : getCode bs.length p n = 50 := by
    unfold getCode
    rw [if_neg (by omega), if_pos (by omega)]
  have := refGet_any w g R bs p n h hbs
  rw [hc, getVal_bad (by rw [hc]; decide), getAt_bad (by rw [hc]; decide)] at this
  exact this
theorem rbit_ok (w : World) (g : Nat) (R : Option Nat) (bs : List Int) (p : Nat) (b : Bool) (m : List Bool) (v : Int) (h : Rr w g R bs p) (hbs : ∀ x ∈ bs, Byte x) (hm : (unB bs).drop p = b :: m) (hv : (b.toNat : Int) = v) :
    Calls Tryd.prog 33 #[.pointer (some ⟨g, 0, none⟩), .int .i64 1] w fun e w' =>
      e = .returned (.tuple #[.int .u64 v, .int .i64 0]) ∧ Rr w' g R bs (p + 1) ∧ Touch g none w w' := by
  obtain ⟨h1, h2, _⟩ := drop_cons hm
  have := rgetI_ok w g R bs p 1 h hbs (by omega) (by omega) h1
  rw [show (1 : Int).toNat = 1 from rfl, h2, hv] at this
  exact this
theorem rbit_no (w : World) (g : Nat) (R : Option Nat) (bs : List Int) (p : Nat) (h : Rr w g R bs p) (hbs : ∀ x ∈ bs, Byte x) (hm : (unB bs).drop p = []) :
    Calls Tryd.prog 33 #[.pointer (some ⟨g, 0, none⟩), .int .i64 1] w fun e w' =>
      e = .returned (.tuple #[.int .u64 0, .int .i64 50]) ∧ Rr w' g R bs p ∧ Touch g none w w' :=
  rgetI_no w g R bs p 1 h hbs (by omega) (by omega) (drop_nil hm)
theorem Rr.put3 {w : World} {g r : Nat} {R : Option Nat} {bs : List Int} {p : Nat} (h : Rr w g R bs p) (h1 : g ≠ r) (h2 : R ≠ some r) (x y z : Value) : Rr (Go.Proofs.YtlgndfckmnninaaDoor.put3 w r x y z) g R bs p :=
  h.touch ((((Touch.refl r none w).set_ 0 x).set_ 1 y).set_ 2 z) h1 (by simp) h2 (by cases R <;> simp)
/-- A reader, wherever it stands. -/
def RrS (w : World) (g : Nat) (R : Option Nat) (bs : List Int) : Prop := ∃ p, Rr w g R bs p

theorem wids_cell (w : World) (t : TypeId) (k : Nat) (hk : k ≤ 4) : (w.alloc (.cells #[.int .i64 0, .int .i64 7, .int .i64 12, .int .i64 20, .int .i64 48] t)).cell? ⟨w.heap.size, k, none⟩ = some (.int .i64 (wid k : Nat)) := by
  rw [(Blk.new w t _).cell k]
  have hc : k = 0 ∨ k = 1 ∨ k = 2 ∨ k = 3 ∨ k = 4 := by omega
  rcases hc with rfl | rfl | rfl | rfl | rfl <;> rfl

set_option maxHeartbeats 1600000 in
theorem rGet_n1 (w : World) (g : Nat) (R : Option Nat) (bs : List Int) (p : Nat) (N L D : Int) (h : Rr w g R bs p) (hRl : ∀ k, R = some k → k < w.heap.size) (hbs : ∀ x ∈ bs, Byte x) (hr : rightS N L D = false) :
    Calls Tryd.prog 35 #[.pointer (some ⟨g, 0, none⟩), .agg #[.int .i64 N, .int .i64 L, .int .i64 D]] w fun e w' =>
      e = .returned (.tuple #[.agg #[.int .i64 0, .int .i64 0, .int .i64 0], .int .i64 0, .int .i64 60]) ∧ RrS w' g R bs ∧ Touch g none w w' := by
  obtain ⟨S0, R0, H0⟩ := two_new w (.int .i64 N) (.int .i64 L) (.int .i64 0) (.int .i64 0) (.int .i64 0) (.int .i64 D) 39 39
  have hlt := h.lt
  have HBS := Lib.hid hbs
  have nR : R ≠ some (w.heap.size + 1) := fun e => by have := hRl _ e; omega
  have NR := Lib.hid nR
  clear nR hRl hbs
  go_enter Tryd.func35, Tryd.ntmps35
  go_wp2_with fail
  refine (refRight_no N L D _ hr).mono ?_
  rintro e w1 ⟨rfl, hB1⟩
  have H1 := below_more H0 hB1
  have R2 := R0.below hB1
  have D2 := h.below H1
  have K2 := Touch.of_below H1 g none
  obtain ⟨d0, d1, d2⟩ := R2.cells3
  obtain ⟨e0, e1, e2⟩ := R2.free3
  go_wp2_with fail
  obtain ⟨q0, q1, q2⟩ := (R2.put3 (.int .i64 0) (.int .i64 0) (.int .i64 0)).cells3
  refine bodyPost_ret (v := .tuple #[.agg #[.int .i64 0, .int .i64 0, .int .i64 0], .int .i64 0, .int .i64 60]) (by simp [results, Tryd.results35, go_sem, q0, q1, q2]) rfl ⟨rfl, ⟨_, D2.put3 (by omega) NR.out _ _ _⟩, K2.put3 (by omega) _ _ _⟩

set_option maxHeartbeats 1600000 in
theorem rGet_n2 (w : World) (g : Nat) (R : Option Nat) (bs : List Int) (p : Nat) (N L D : Int) (h : Rr w g R bs p) (hRl : ∀ k, R = some k → k < w.heap.size) (hbs : ∀ x ∈ bs, Byte x) (hr : rightS N L D = true) (hN : N = 0) (hl : ((unB bs).drop p).length < 46) :
    Calls Tryd.prog 35 #[.pointer (some ⟨g, 0, none⟩), .agg #[.int .i64 N, .int .i64 L, .int .i64 D]] w fun e w' =>
      e = .returned (.tuple #[.agg #[.int .i64 0, .int .i64 0, .int .i64 0], .int .i64 0, .int .i64 50]) ∧ RrS w' g R bs ∧ Touch g none w w' := by
  obtain ⟨S0, R0, H0⟩ := two_new w (.int .i64 N) (.int .i64 L) (.int .i64 0) (.int .i64 0) (.int .i64 0) (.int .i64 D) 39 39
  have hlt := h.lt
  have HBS := Lib.hid hbs
  have nR : R ≠ some (w.heap.size + 1) := fun e => by have := hRl _ e; omega
  have NR := Lib.hid nR
  clear nR hRl hbs
  subst hN
  rw [rest_len] at hl
  have hpl := h.place
  have HR := Lib.hid hr
  clear hr
  go_enter Tryd.func35, Tryd.ntmps35
  go_wp2_with fail
  refine (refRight_yes _ _ _ _ HR.out).mono ?_
  rintro e w1 ⟨rfl, hB1⟩
  have H1 := below_more H0 hB1
  have R1 := R0.below hB1
  have S1 := S0.below hB1
  have D1 := h.below H1
  have K1 := Touch.of_below H1 g none
  have hz1 := H1.size
  have hz1r := R1.lt
  obtain ⟨c0, c1, c2⟩ := S1.cells3

  go_wp2_with fail
  refine (rgetI_no w1 g R bs p 46 D1 HBS.out (by omega) (by omega) (by have : (46 : Int).toNat = 46 := rfl; omega)).mono ?_
  rintro e w2 ⟨rfl, D2, hT2⟩
  have R2 := R1.touch hT2 (by omega) (by simp)
  have K2 := K1.trans hT2 (.inl rfl)
  clear c0 c1 c2
  obtain ⟨d0, d1, d2⟩ := R2.cells3
  obtain ⟨e0, e1, e2⟩ := R2.free3
  go_wp2_with fail
  obtain ⟨q0, q1, q2⟩ := (R2.put3 (.int .i64 0) (.int .i64 0) (.int .i64 0)).cells3
  refine bodyPost_ret (v := .tuple #[.agg #[.int .i64 0, .int .i64 0, .int .i64 0], .int .i64 0, .int .i64 50]) (by simp [results, Tryd.results35, go_sem, q0, q1, q2]) rfl ⟨rfl, ⟨_, D2.put3 (by omega) NR.out _ _ _⟩, K2.put3 (by omega) _ _ _⟩

set_option maxHeartbeats 1600000 in
theorem rGet_n3 (w : World) (g : Nat) (R : Option Nat) (bs : List Int) (p : Nat) (N L D : Int) (h : Rr w g R bs p) (hRl : ∀ k, R = some k → k < w.heap.size) (hbs : ∀ x ∈ bs, Byte x) (hr : rightS N L D = true) (hN : N = 0) (hl : 46 ≤ ((unB bs).drop p).length) (hx : 35184372088832 < val (((unB bs).drop p).take 46)) :
    Calls Tryd.prog 35 #[.pointer (some ⟨g, 0, none⟩), .agg #[.int .i64 N, .int .i64 L, .int .i64 D]] w fun e w' =>
      e = .returned (.tuple #[.agg #[.int .i64 0, .int .i64 0, .int .i64 0], .int .i64 0, .int .i64 60]) ∧ RrS w' g R bs ∧ Touch g none w w' := by
  obtain ⟨S0, R0, H0⟩ := two_new w (.int .i64 N) (.int .i64 L) (.int .i64 0) (.int .i64 0) (.int .i64 0) (.int .i64 D) 39 39
  have hlt := h.lt
  have HBS := Lib.hid hbs
  have nR : R ≠ some (w.heap.size + 1) := fun e => by have := hRl _ e; omega
  have NR := Lib.hid nR
  clear nR hRl hbs
  subst hN
  rw [rest_len] at hl
  have hpl := h.place
  obtain ⟨V, hV⟩ : ∃ V : Int, ((val (((unB bs).drop p).take 46) : Nat) : Int) = V := ⟨_, rfl⟩
  have hv : 35184372088832 < V := by rw [← hV]; omega
  have HV := Lib.hid hV
  have HR := Lib.hid hr
  clear hr hV hx
  go_enter Tryd.func35, Tryd.ntmps35
  go_wp2_with fail
  refine (refRight_yes _ _ _ _ HR.out).mono ?_
  rintro e w1 ⟨rfl, hB1⟩
  have H1 := below_more H0 hB1
  have R1 := R0.below hB1
  have S1 := S0.below hB1
  have D1 := h.below H1
  have K1 := Touch.of_below H1 g none
  have hz1 := H1.size
  have hz1r := R1.lt
  obtain ⟨c0, c1, c2⟩ := S1.cells3

  go_wp2_with fail
  refine (rgetI_ok w1 g R bs p 46 D1 HBS.out (by omega) (by omega) (by have : (46 : Int).toNat = 46 := rfl; omega)).mono ?_
  rw [show (46 : Int).toNat = 46 from rfl, HV.out]
  rintro e w2 ⟨rfl, D2, hT2⟩
  have R2 := R1.touch hT2 (by omega) (by simp)
  have K2 := K1.trans hT2 (.inl rfl)
  clear c0 c1 c2
  obtain ⟨d0, d1, d2⟩ := R2.cells3
  obtain ⟨e0, e1, e2⟩ := R2.free3
  go_wp2_with fail
  obtain ⟨q0, q1, q2⟩ := (R2.put3 (.int .i64 0) (.int .i64 0) (.int .i64 0)).cells3
  refine bodyPost_ret (v := .tuple #[.agg #[.int .i64 0, .int .i64 0, .int .i64 0], .int .i64 0, .int .i64 60]) (by simp [results, Tryd.results35, go_sem, q0, q1, q2]) rfl ⟨rfl, ⟨_, D2.put3 (by omega) NR.out _ _ _⟩, K2.put3 (by omega) _ _ _⟩

set_option maxHeartbeats 1600000 in
theorem rGet_y0 (w : World) (g : Nat) (R : Option Nat) (bs : List Int) (p : Nat) (N L D V : Int) (h : Rr w g R bs p) (hRl : ∀ k, R = some k → k < w.heap.size) (hbs : ∀ x ∈ bs, Byte x) (hr : rightS N L D = true) (hN : N = 0) (hl : 46 ≤ ((unB bs).drop p).length) (hV : ((val (((unB bs).drop p).take 46) : Nat) : Int) = V) (hx : V ≤ 35184372088832) :
    Calls Tryd.prog 35 #[.pointer (some ⟨g, 0, none⟩), .agg #[.int .i64 N, .int .i64 L, .int .i64 D]] w fun e w' =>
      e = .returned (.tuple #[.agg #[.int .i64 1, .int .i64 V, .int .i64 0], .int .i64 V, .int .i64 0]) ∧ Rr w' g R bs (p + 46) ∧ Touch g none w w' := by
  obtain ⟨S0, R0, H0⟩ := two_new w (.int .i64 N) (.int .i64 L) (.int .i64 0) (.int .i64 0) (.int .i64 0) (.int .i64 D) 39 39
  have hlt := h.lt
  have HBS := Lib.hid hbs
  have nR : R ≠ some (w.heap.size + 1) := fun e => by have := hRl _ e; omega
  have NR := Lib.hid nR
  clear nR hRl hbs
  subst hN
  rw [rest_len] at hl
  have hpl := h.place
  have hv0 : 0 ≤ V := by rw [← hV]; omega
  have hw : wrap64 V = V := by unfold wrap64; omega
  have HV := Lib.hid hV
  have HR := Lib.hid hr
  clear hr hV
  go_enter Tryd.func35, Tryd.ntmps35
  go_wp2_with fail
  refine (refRight_yes _ _ _ _ HR.out).mono ?_
  rintro e w1 ⟨rfl, hB1⟩
  have H1 := below_more H0 hB1
  have R1 := R0.below hB1
  have S1 := S0.below hB1
  have D1 := h.below H1
  have K1 := Touch.of_below H1 g none
  have hz1 := H1.size
  have hz1r := R1.lt
  obtain ⟨c0, c1, c2⟩ := S1.cells3

  go_wp2_with fail
  refine (rgetI_ok w1 g R bs p 46 D1 HBS.out (by omega) (by omega) (by have : (46 : Int).toNat = 46 := rfl; omega)).mono ?_
  rw [show (46 : Int).toNat = 46 from rfl, HV.out]
  rintro e w2 ⟨rfl, D2, hT2⟩
  have R2 := R1.touch hT2 (by omega) (by simp)
  have K2 := K1.trans hT2 (.inl rfl)
  clear c0 c1 c2
  obtain ⟨d0, d1, d2⟩ := R2.cells3
  obtain ⟨e0, e1, e2⟩ := R2.free3
  go_wp2_with fail
  obtain ⟨q0, q1, q2⟩ := (R2.put3 (.int .i64 1) (.int .i64 V) (.int .i64 0)).cells3
  refine bodyPost_ret (v := .tuple #[.agg #[.int .i64 1, .int .i64 V, .int .i64 0], .int .i64 V, .int .i64 0]) (by simp [results, Tryd.results35, go_sem, q0, q1, q2]) rfl ⟨rfl, D2.put3 (by omega) NR.out _ _ _, K2.put3 (by omega) _ _ _⟩

set_option maxHeartbeats 1600000 in
theorem rGet_n4 (w : World) (g : Nat) (R : Option Nat) (bs : List Int) (p : Nat) (N L D : Int) (h : Rr w g R bs p) (hRl : ∀ k, R = some k → k < w.heap.size) (hbs : ∀ x ∈ bs, Byte x) (hr : rightS N L D = true) (hN : N ≠ 0) (hk : lead 4 ((unB bs).drop p) = none) :
    Calls Tryd.prog 35 #[.pointer (some ⟨g, 0, none⟩), .agg #[.int .i64 N, .int .i64 L, .int .i64 D]] w fun e w' =>
      e = .returned (.tuple #[.agg #[.int .i64 0, .int .i64 0, .int .i64 0], .int .i64 0, .int .i64 50]) ∧ RrS w' g R bs ∧ Touch g none w w' := by
  obtain ⟨S0, R0, H0⟩ := two_new w (.int .i64 N) (.int .i64 L) (.int .i64 0) (.int .i64 0) (.int .i64 0) (.int .i64 D) 39 39
  have hlt := h.lt
  have HBS := Lib.hid hbs
  have nR : R ≠ some (w.heap.size + 1) := fun e => by have := hRl _ e; omega
  have NR := Lib.hid nR
  clear nR hRl hbs
  have h0 : (N == 0) = false := beq_eq_false_iff_ne.2 hN
  have HR := Lib.hid hr
  have hpl := h.place
  have HK := Lib.hid hk
  clear hr hN hk
  go_enter Tryd.func35, Tryd.ntmps35
  go_wp2_with fail
  refine (refRight_yes _ _ _ _ HR.out).mono ?_
  rintro e w1 ⟨rfl, hB1⟩
  have H1 := below_more H0 hB1
  have R1 := R0.below hB1
  have S1 := S0.below hB1
  have D1 := h.below H1
  have K1 := Touch.of_below H1 g none
  have hz1 := H1.size
  have hz1r := R1.lt
  obtain ⟨c0, c1, c2⟩ := S1.cells3
  go_wp2_with fail
  clear c0 c1 c2
  go_loopw [9] (fun kv wr => ∃ i : Nat, kv = .int .i64 i ∧ i ≤ 4 ∧ Rr wr g R bs (p + i) ∧ Touch g none w wr ∧ w1.heap.size ≤ wr.heap.size ∧ Blk wr w.heap.size 39 #[.int .i64 N, .int .i64 L, .int .i64 D] ∧ Blk wr (w.heap.size + 1) 39 #[.int .i64 0, .int .i64 0, .int .i64 0] ∧ Hid (lead (4 - i) ((unB bs).drop (p + i)) = none)) (fun kv _ => 4 - (intOf kv).toNat)
  case atStart => exact ⟨0, rfl, Nat.zero_le _, D1, K1, Nat.le_refl _, S1, R1, HK.out⟩
  case round =>
    obtain ⟨i, rfl, hi, hD, hT, hz2, hS, hRR, hL⟩ := hrel
    clear R1 S1 D1 K1
    rcases Nat.lt_or_ge i 4 with hi4 | hi4
    · have hl := hL.out
      rw [show 4 - i = (3 - i) + 1 by omega] at hl
      rcases lead_non hl with hm | ⟨m, hm, hj⟩
      · have bk := rbit_no wr g R bs (p + i) hD HBS.out hm
        have BK := Lib.hid bk
        clear bk hl hm hL HK
        go_wp2_with fail
        refine BK.out.mono ?_
        rintro e w2 ⟨rfl, D2, hT2⟩
        have R2 := hRR.touch hT2 (by omega) (by simp)
        have K2 := hT.trans hT2 (.inl rfl)
        obtain ⟨d0, d1, d2⟩ := R2.cells3
        obtain ⟨e0, e1, e2⟩ := R2.free3
        go_wp2_with fail
        obtain ⟨q0, q1, q2⟩ := (R2.put3 (.int .i64 0) (.int .i64 0) (.int .i64 0)).cells3
        refine bodyPost_ret (v := .tuple #[.agg #[.int .i64 0, .int .i64 0, .int .i64 0], .int .i64 0, .int .i64 50]) (by simp [results, Tryd.results35, go_sem, q0, q1, q2]) rfl ⟨rfl, ⟨_, D2.put3 (by omega) NR.out _ _ _⟩, K2.put3 (by omega) _ _ _⟩

      · have bk := rbit_ok wr g R bs (p + i) true m 1 hD HBS.out hm rfl
        have hd := (drop_cons hm).2.2
        have BK := Lib.hid bk
        have HJ : Hid (lead (4 - (i + 1)) ((unB bs).drop (p + (i + 1))) = none) := by
          rw [← Nat.add_assoc, hd, show 4 - (i + 1) = 3 - i by omega, hj]
          exact rfl
        have HKI : i + 1 ≤ 4 := by omega
        clear bk hl hm hd hj hL HK
        go_wp2_with fail
        refine BK.out.mono ?_
        rintro e w2 ⟨rfl, hD2, hT2⟩
        have S2 := hS.touch hT2 (by omega) (by simp)
        have R2 := hRR.touch hT2 (by omega) (by simp)
        have K2 := hT.trans hT2 (.inl rfl)
        have hz3 := hT2.size
        go_wp2_with fail
        go_roundw
        case rel => exact ⟨i + 1, by go_num, HKI, hD2, K2, by omega, S2, R2, HJ⟩
        case measure => simp [intOf]; omega

    · obtain rfl : i = 4 := by omega
      have := hL.out
      simp [lead] at this

set_option maxHeartbeats 1600000 in
theorem rGet_n5 (w : World) (g : Nat) (R : Option Nat) (bs : List Int) (p : Nat) (N L D : Int) (h : Rr w g R bs p) (hRl : ∀ k, R = some k → k < w.heap.size) (hbs : ∀ x ∈ bs, Byte x) (k : Nat) (hr : rightS N L D = true) (hN : N ≠ 0) (hk : lead 4 ((unB bs).drop p) = some k) (hl : ((unB bs).drop p).length < k + (ends k).length + wid k) :
    Calls Tryd.prog 35 #[.pointer (some ⟨g, 0, none⟩), .agg #[.int .i64 N, .int .i64 L, .int .i64 D]] w fun e w' =>
      e = .returned (.tuple #[.agg #[.int .i64 0, .int .i64 0, .int .i64 0], .int .i64 0, .int .i64 50]) ∧ RrS w' g R bs ∧ Touch g none w w' := by
  obtain ⟨S0, R0, H0⟩ := two_new w (.int .i64 N) (.int .i64 L) (.int .i64 0) (.int .i64 0) (.int .i64 0) (.int .i64 D) 39 39
  have hlt := h.lt
  have HBS := Lib.hid hbs
  have nR : R ≠ some (w.heap.size + 1) := fun e => by have := hRl _ e; omega
  have NR := Lib.hid nR
  clear nR hRl hbs
  have h0 : (N == 0) = false := beq_eq_false_iff_ne.2 hN
  have HR := Lib.hid hr
  have hpl := h.place
  have hk4 := lead_le _ _ _ hk
  have hwd := wid_le k
  rw [rest_len] at hl
  have HK := Lib.hid hk
  clear hr hN hk
  go_enter Tryd.func35, Tryd.ntmps35
  go_wp2_with fail
  refine (refRight_yes _ _ _ _ HR.out).mono ?_
  rintro e w1 ⟨rfl, hB1⟩
  have H1 := below_more H0 hB1
  have R1 := R0.below hB1
  have S1 := S0.below hB1
  have D1 := h.below H1
  have K1 := Touch.of_below H1 g none
  have hz1 := H1.size
  have hz1r := R1.lt
  obtain ⟨c0, c1, c2⟩ := S1.cells3
  go_wp2_with fail
  clear c0 c1 c2
  go_loopw [9] (fun kv wr => ∃ i : Nat, kv = .int .i64 i ∧ i ≤ k ∧ Rr wr g R bs (p + i) ∧ Touch g none w wr ∧ w1.heap.size ≤ wr.heap.size ∧ Blk wr w.heap.size 39 #[.int .i64 N, .int .i64 L, .int .i64 D] ∧ Blk wr (w.heap.size + 1) 39 #[.int .i64 0, .int .i64 0, .int .i64 0] ∧ Hid (lead (4 - i) ((unB bs).drop (p + i)) = some (k - i))) (fun kv _ => 4 - (intOf kv).toNat)
  case atStart => exact ⟨0, rfl, Nat.zero_le _, D1, K1, Nat.le_refl _, S1, R1, HK.out⟩
  case round =>
    obtain ⟨i, rfl, hi, hD, hT, hz2, hS, hRR, hL⟩ := hrel
    clear R1 S1 D1 K1
    rcases Nat.lt_or_ge i 4 with hi4 | hi4
    · have hl := hL.out
      rw [show 4 - i = (3 - i) + 1 by omega] at hl
      rcases lead_cons hl with ⟨m, hm, hk0⟩ | ⟨m, j, hm, hkj, hj⟩
      · have bk := rbit_ok wr g R bs (p + i) false m 0 hD HBS.out hm rfl
        obtain rfl : k = i := by omega
        have BK := Lib.hid bk
        have hen : (ends k).length = 1 := by unfold ends; rw [if_pos hi4]; rfl
        have HEN := Lib.hid hen
        clear bk hl hm hk0 hL HK hen
        go_wp2_with fail
        refine BK.out.mono ?_
        rintro e w2 ⟨rfl, hD2, hT2⟩
        have S2 := hS.touch hT2 (by omega) (by simp)
        have R2 := hRR.touch hT2 (by omega) (by simp)
        have K2 := hT.trans hT2 (.inl rfl)
        have hz3 := Nat.le_trans hz2 hT2.size
        have D2 : Rr w2 g R bs (p + (k + (ends k).length)) := by rw [HEN.out, ← Nat.add_assoc]; exact hD2
        clear hD hT hS hRR hT2 hD2
        have A2 : Below w2.heap.size w2 (w2.alloc (.cells #[.int .i64 0, .int .i64 7, .int .i64 12, .int .i64 20, .int .i64 48] 3)) := (Below.refl _ w2).alloc (Nat.le_refl _) _
        have D3 := D2.below A2
        have S3 := S2.below A2
        have R3 := R2.below A2
        have K3 := K2.trans (Touch.of_below A2 g none) (.inl rfl)
        have hz4 := Nat.le_trans hz3 A2.size
        have wc := wids_cell w2 3 (k : Nat) (by omega)
        have hp3 := D3.place
        clear D2 S2 R2 K2 A2
        go_wp2_with fail
        clear wc
        generalize w2.alloc (.cells #[.int .i64 0, .int .i64 7, .int .i64 12, .int .i64 20, .int .i64 48] 3) = w3 at *
        refine (rgetI_no w3 g R bs _ (wid (k : Nat) : Nat) D3 HBS.out (by omega) (by omega) (by rw [Int.toNat_natCast]; omega)).mono ?_
        rintro e w4 ⟨rfl, D2, hT4⟩
        have R2 := R3.touch hT4 (by omega) (by simp)
        have K2 := K3.trans hT4 (.inl rfl)
        clear R3 S3 K3 D3 hT4
        obtain ⟨d0, d1, d2⟩ := R2.cells3
        obtain ⟨e0, e1, e2⟩ := R2.free3
        go_wp2_with fail
        obtain ⟨q0, q1, q2⟩ := (R2.put3 (.int .i64 0) (.int .i64 0) (.int .i64 0)).cells3
        refine bodyPost_ret (v := .tuple #[.agg #[.int .i64 0, .int .i64 0, .int .i64 0], .int .i64 0, .int .i64 50]) (by simp [results, Tryd.results35, go_sem, q0, q1, q2]) rfl ⟨rfl, ⟨_, D2.put3 (by omega) NR.out _ _ _⟩, K2.put3 (by omega) _ _ _⟩

      · have bk := rbit_ok wr g R bs (p + i) true m 1 hD HBS.out hm rfl
        have hd := (drop_cons hm).2.2
        have BK := Lib.hid bk
        have HJ : Hid (lead (4 - (i + 1)) ((unB bs).drop (p + (i + 1))) = some (k - (i + 1))) := by
          rw [← Nat.add_assoc, hd, show 4 - (i + 1) = 3 - i by omega, hj, show k - (i + 1) = j by omega]
          exact rfl
        have HKI : i + 1 ≤ k := by omega
        clear bk hl hm hd hj hkj hL HK
        go_wp2_with fail
        refine BK.out.mono ?_
        rintro e w2 ⟨rfl, hD2, hT2⟩
        have S2 := hS.touch hT2 (by omega) (by simp)
        have R2 := hRR.touch hT2 (by omega) (by simp)
        have K2 := hT.trans hT2 (.inl rfl)
        have hz3 := hT2.size
        go_wp2_with fail
        go_roundw
        case rel => exact ⟨i + 1, by go_num, HKI, hD2, K2, by omega, S2, R2, HJ⟩
        case measure => simp [intOf]; omega

    · obtain rfl : i = 4 := by omega
      obtain rfl : k = 4 := by omega
      clear hL HK
      have S2 := hS
      have R2 := hRR
      have K2 := hT
      have hz3 := hz2
      have D2 : Rr wr g R bs (p + (4 + (ends 4).length)) := hD
      obtain ⟨w2, rfl⟩ : ∃ w2, w2 = wr := ⟨_, rfl⟩
      clear hD hT hS hRR
      have A2 : Below w2.heap.size w2 (w2.alloc (.cells #[.int .i64 0, .int .i64 7, .int .i64 12, .int .i64 20, .int .i64 48] 3)) := (Below.refl _ w2).alloc (Nat.le_refl _) _
      have D3 := D2.below A2
      have S3 := S2.below A2
      have R3 := R2.below A2
      have K3 := K2.trans (Touch.of_below A2 g none) (.inl rfl)
      have hz4 := Nat.le_trans hz3 A2.size
      have wc := wids_cell w2 3 4 (by omega)
      have hp3 := D3.place
      clear D2 S2 R2 K2 A2
      go_wp2_with fail
      clear wc
      generalize w2.alloc (.cells #[.int .i64 0, .int .i64 7, .int .i64 12, .int .i64 20, .int .i64 48] 3) = w3 at *
      refine (rgetI_no w3 g R bs _ (wid 4 : Nat) D3 HBS.out (by omega) (by omega) (by rw [Int.toNat_natCast]; omega)).mono ?_
      rintro e w4 ⟨rfl, D2, hT4⟩
      have R2 := R3.touch hT4 (by omega) (by simp)
      have K2 := K3.trans hT4 (.inl rfl)
      clear R3 S3 K3 D3 hT4
      obtain ⟨d0, d1, d2⟩ := R2.cells3
      obtain ⟨e0, e1, e2⟩ := R2.free3
      go_wp2_with fail
      obtain ⟨q0, q1, q2⟩ := (R2.put3 (.int .i64 0) (.int .i64 0) (.int .i64 0)).cells3
      refine bodyPost_ret (v := .tuple #[.agg #[.int .i64 0, .int .i64 0, .int .i64 0], .int .i64 0, .int .i64 50]) (by simp [results, Tryd.results35, go_sem, q0, q1, q2]) rfl ⟨rfl, ⟨_, D2.put3 (by omega) NR.out _ _ _⟩, K2.put3 (by omega) _ _ _⟩

set_option maxHeartbeats 1600000 in
theorem rGet_n6 (w : World) (g : Nat) (R : Option Nat) (bs : List Int) (p : Nat) (N L D : Int) (h : Rr w g R bs p) (hRl : ∀ k, R = some k → k < w.heap.size) (hbs : ∀ x ∈ bs, Byte x) (k z : Nat) (hr : rightS N L D = true) (hN : N ≠ 0) (hk : lead 4 ((unB bs).drop p) = some k) (hl : k + (ends k).length + wid k ≤ ((unB bs).drop p).length) (hv : val ((((unB bs).drop p).drop (k + (ends k).length)).take (wid k)) = z) (ho : ofc z ≠ k) :
    Calls Tryd.prog 35 #[.pointer (some ⟨g, 0, none⟩), .agg #[.int .i64 N, .int .i64 L, .int .i64 D]] w fun e w' =>
      e = .returned (.tuple #[.agg #[.int .i64 0, .int .i64 0, .int .i64 0], .int .i64 0, .int .i64 60]) ∧ RrS w' g R bs ∧ Touch g none w w' := by
  obtain ⟨S0, R0, H0⟩ := two_new w (.int .i64 N) (.int .i64 L) (.int .i64 0) (.int .i64 0) (.int .i64 0) (.int .i64 D) 39 39
  have hlt := h.lt
  have HBS := Lib.hid hbs
  have nR : R ≠ some (w.heap.size + 1) := fun e => by have := hRl _ e; omega
  have NR := Lib.hid nR
  clear nR hRl hbs
  have h0 : (N == 0) = false := beq_eq_false_iff_ne.2 hN
  have HR := Lib.hid hr
  have hpl := h.place
  have hk4 := lead_le _ _ _ hk
  have hwd := wid_le k
  have hz48 : z < 281474976710656 := by
    rw [← hv]
    refine Nat.lt_of_lt_of_le (val_lt _) (show 2 ^ ((((unB bs).drop p).drop (k + (ends k).length)).take (wid k)).length ≤ 2 ^ 48 from Nat.pow_le_pow_right (by omega) (by rw [List.length_take]; omega))
  rw [rest_len] at hl
  rw [List.drop_drop] at hv
  have HK := Lib.hid hk
  have HV := Lib.hid hv
  have cl := fun W => class_any z W hz48
  have HCL := Lib.hid cl
  have hn2 : (ofc z == k) = false := beq_eq_false_iff_ne.2 ho
  have hn : (((ofc z : Nat) : Int) != ((k : Nat) : Int)) = true := by simp; omega
  clear hr hN hk hv cl ho hz48
  generalize ofc z = oz at *
  go_enter Tryd.func35, Tryd.ntmps35
  go_wp2_with fail
  refine (refRight_yes _ _ _ _ HR.out).mono ?_
  rintro e w1 ⟨rfl, hB1⟩
  have H1 := below_more H0 hB1
  have R1 := R0.below hB1
  have S1 := S0.below hB1
  have D1 := h.below H1
  have K1 := Touch.of_below H1 g none
  have hz1 := H1.size
  have hz1r := R1.lt
  obtain ⟨c0, c1, c2⟩ := S1.cells3
  go_wp2_with fail
  clear c0 c1 c2
  go_loopw [9] (fun kv wr => ∃ i : Nat, kv = .int .i64 i ∧ i ≤ k ∧ Rr wr g R bs (p + i) ∧ Touch g none w wr ∧ w1.heap.size ≤ wr.heap.size ∧ Blk wr w.heap.size 39 #[.int .i64 N, .int .i64 L, .int .i64 D] ∧ Blk wr (w.heap.size + 1) 39 #[.int .i64 0, .int .i64 0, .int .i64 0] ∧ Hid (lead (4 - i) ((unB bs).drop (p + i)) = some (k - i))) (fun kv _ => 4 - (intOf kv).toNat)
  case atStart => exact ⟨0, rfl, Nat.zero_le _, D1, K1, Nat.le_refl _, S1, R1, HK.out⟩
  case round =>
    obtain ⟨i, rfl, hi, hD, hT, hz2, hS, hRR, hL⟩ := hrel
    clear R1 S1 D1 K1
    rcases Nat.lt_or_ge i 4 with hi4 | hi4
    · have hl := hL.out
      rw [show 4 - i = (3 - i) + 1 by omega] at hl
      rcases lead_cons hl with ⟨m, hm, hk0⟩ | ⟨m, j, hm, hkj, hj⟩
      · have bk := rbit_ok wr g R bs (p + i) false m 0 hD HBS.out hm rfl
        obtain rfl : k = i := by omega
        have BK := Lib.hid bk
        have hen : (ends k).length = 1 := by unfold ends; rw [if_pos hi4]; rfl
        have HEN := Lib.hid hen
        clear bk hl hm hk0 hL HK hen
        go_wp2_with fail
        refine BK.out.mono ?_
        rintro e w2 ⟨rfl, hD2, hT2⟩
        have S2 := hS.touch hT2 (by omega) (by simp)
        have R2 := hRR.touch hT2 (by omega) (by simp)
        have K2 := hT.trans hT2 (.inl rfl)
        have hz3 := Nat.le_trans hz2 hT2.size
        have D2 : Rr w2 g R bs (p + (k + (ends k).length)) := by rw [HEN.out, ← Nat.add_assoc]; exact hD2
        clear hD hT hS hRR hT2 hD2
        have A2 : Below w2.heap.size w2 (w2.alloc (.cells #[.int .i64 0, .int .i64 7, .int .i64 12, .int .i64 20, .int .i64 48] 3)) := (Below.refl _ w2).alloc (Nat.le_refl _) _
        have D3 := D2.below A2
        have S3 := S2.below A2
        have R3 := R2.below A2
        have K3 := K2.trans (Touch.of_below A2 g none) (.inl rfl)
        have hz4 := Nat.le_trans hz3 A2.size
        have wc := wids_cell w2 3 (k : Nat) (by omega)
        have hp3 := D3.place
        clear D2 S2 R2 K2 A2
        go_wp2_with fail
        clear wc
        generalize w2.alloc (.cells #[.int .i64 0, .int .i64 7, .int .i64 12, .int .i64 20, .int .i64 48] 3) = w3 at *
        refine (rgetI_ok w3 g R bs _ (wid (k : Nat) : Nat) D3 HBS.out (by omega) (by omega) (by rw [Int.toNat_natCast]; omega)).mono ?_
        rw [Int.toNat_natCast, HV.out]
        rintro e w4 ⟨rfl, D4, hT4⟩
        have R4 := R3.touch hT4 (by omega) (by simp)
        have S4 := S3.touch hT4 (by omega) (by simp)
        have K4 := K3.trans hT4 (.inl rfl)
        have hz5 := Nat.le_trans hz4 hT4.size
        clear R3 S3 K3 D3 hT4
        go_wp2_with fail
        refine (HCL.out _).mono ?_
        rintro e w5 ⟨rfl, rfl⟩
        have R2 := R4
        have D2 := D4
        have K2 := K4
        obtain ⟨d0, d1, d2⟩ := R2.cells3
        obtain ⟨e0, e1, e2⟩ := R2.free3
        go_wp2_with fail
        obtain ⟨q0, q1, q2⟩ := (R2.put3 (.int .i64 0) (.int .i64 0) (.int .i64 0)).cells3
        refine bodyPost_ret (v := .tuple #[.agg #[.int .i64 0, .int .i64 0, .int .i64 0], .int .i64 0, .int .i64 60]) (by simp [results, Tryd.results35, go_sem, q0, q1, q2]) rfl ⟨rfl, ⟨_, D2.put3 (by omega) NR.out _ _ _⟩, K2.put3 (by omega) _ _ _⟩

      · have bk := rbit_ok wr g R bs (p + i) true m 1 hD HBS.out hm rfl
        have hd := (drop_cons hm).2.2
        have BK := Lib.hid bk
        have HJ : Hid (lead (4 - (i + 1)) ((unB bs).drop (p + (i + 1))) = some (k - (i + 1))) := by
          rw [← Nat.add_assoc, hd, show 4 - (i + 1) = 3 - i by omega, hj, show k - (i + 1) = j by omega]
          exact rfl
        have HKI : i + 1 ≤ k := by omega
        clear bk hl hm hd hj hkj hL HK
        go_wp2_with fail
        refine BK.out.mono ?_
        rintro e w2 ⟨rfl, hD2, hT2⟩
        have S2 := hS.touch hT2 (by omega) (by simp)
        have R2 := hRR.touch hT2 (by omega) (by simp)
        have K2 := hT.trans hT2 (.inl rfl)
        have hz3 := hT2.size
        go_wp2_with fail
        go_roundw
        case rel => exact ⟨i + 1, by go_num, HKI, hD2, K2, by omega, S2, R2, HJ⟩
        case measure => simp [intOf]; omega

    · obtain rfl : i = 4 := by omega
      obtain rfl : k = 4 := by omega
      clear hL HK
      have S2 := hS
      have R2 := hRR
      have K2 := hT
      have hz3 := hz2
      have D2 : Rr wr g R bs (p + (4 + (ends 4).length)) := hD
      obtain ⟨w2, rfl⟩ : ∃ w2, w2 = wr := ⟨_, rfl⟩
      clear hD hT hS hRR
      have A2 : Below w2.heap.size w2 (w2.alloc (.cells #[.int .i64 0, .int .i64 7, .int .i64 12, .int .i64 20, .int .i64 48] 3)) := (Below.refl _ w2).alloc (Nat.le_refl _) _
      have D3 := D2.below A2
      have S3 := S2.below A2
      have R3 := R2.below A2
      have K3 := K2.trans (Touch.of_below A2 g none) (.inl rfl)
      have hz4 := Nat.le_trans hz3 A2.size
      have wc := wids_cell w2 3 4 (by omega)
      have hp3 := D3.place
      clear D2 S2 R2 K2 A2
      go_wp2_with fail
      clear wc
      generalize w2.alloc (.cells #[.int .i64 0, .int .i64 7, .int .i64 12, .int .i64 20, .int .i64 48] 3) = w3 at *
      refine (rgetI_ok w3 g R bs _ (wid 4 : Nat) D3 HBS.out (by omega) (by omega) (by rw [Int.toNat_natCast]; omega)).mono ?_
      rw [Int.toNat_natCast, HV.out]
      rintro e w4 ⟨rfl, D4, hT4⟩
      have R4 := R3.touch hT4 (by omega) (by simp)
      have S4 := S3.touch hT4 (by omega) (by simp)
      have K4 := K3.trans hT4 (.inl rfl)
      have hz5 := Nat.le_trans hz4 hT4.size
      clear R3 S3 K3 D3 hT4
      go_wp2_with fail
      refine (HCL.out _).mono ?_
      rintro e w5 ⟨rfl, rfl⟩
      have R2 := R4
      have D2 := D4
      have K2 := K4
      obtain ⟨d0, d1, d2⟩ := R2.cells3
      obtain ⟨e0, e1, e2⟩ := R2.free3
      go_wp2_with fail
      obtain ⟨q0, q1, q2⟩ := (R2.put3 (.int .i64 0) (.int .i64 0) (.int .i64 0)).cells3
      refine bodyPost_ret (v := .tuple #[.agg #[.int .i64 0, .int .i64 0, .int .i64 0], .int .i64 0, .int .i64 60]) (by simp [results, Tryd.results35, go_sem, q0, q1, q2]) rfl ⟨rfl, ⟨_, D2.put3 (by omega) NR.out _ _ _⟩, K2.put3 (by omega) _ _ _⟩

set_option maxHeartbeats 1600000 in
theorem rGet_n7 (w : World) (g : Nat) (R : Option Nat) (bs : List Int) (p : Nat) (N L D : Int) (h : Rr w g R bs p) (hRl : ∀ k, R = some k → k < w.heap.size) (hbs : ∀ x ∈ bs, Byte x) (k z : Nat) (hr : rightS N L D = true) (hN : N ≠ 0) (hk : lead 4 ((unB bs).drop p) = some k) (hl : k + (ends k).length + wid k ≤ ((unB bs).drop p).length) (hv : val ((((unB bs).drop p).drop (k + (ends k).length)).take (wid k)) = z) (ho : ofc z = k) (hd : D + zag z < 1 ∨ 35184372088832 - L < D + zag z) :
    Calls Tryd.prog 35 #[.pointer (some ⟨g, 0, none⟩), .agg #[.int .i64 N, .int .i64 L, .int .i64 D]] w fun e w' =>
      e = .returned (.tuple #[.agg #[.int .i64 0, .int .i64 0, .int .i64 0], .int .i64 0, .int .i64 60]) ∧ RrS w' g R bs ∧ Touch g none w w' := by
  obtain ⟨S0, R0, H0⟩ := two_new w (.int .i64 N) (.int .i64 L) (.int .i64 0) (.int .i64 0) (.int .i64 0) (.int .i64 D) 39 39
  have hlt := h.lt
  have HBS := Lib.hid hbs
  have nR : R ≠ some (w.heap.size + 1) := fun e => by have := hRl _ e; omega
  have NR := Lib.hid nR
  clear nR hRl hbs
  have h0 : (N == 0) = false := beq_eq_false_iff_ne.2 hN
  have HR := Lib.hid hr
  have hpl := h.place
  have hk4 := lead_le _ _ _ hk
  have hwd := wid_le k
  have hz48 : z < 281474976710656 := by
    rw [← hv]
    refine Nat.lt_of_lt_of_le (val_lt _) (show 2 ^ ((((unB bs).drop p).drop (k + (ends k).length)).take (wid k)).length ≤ 2 ^ 48 from Nat.pow_le_pow_right (by omega) (by rw [List.length_take]; omega))
  rw [rest_len] at hl
  rw [List.drop_drop] at hv
  have HK := Lib.hid hk
  have HV := Lib.hid hv
  have cl := fun W => class_int z k (wid (ofc z) : Nat) W hz48 (by rw [ho]) rfl
  have HCL := Lib.hid cl
  obtain ⟨a1, a2, a3, a4, a5, a6⟩ := rightS_of hr
  obtain ⟨q, hq⟩ : ∃ q : Int, ((z / 2 : Nat) : Int) = q := ⟨_, rfl⟩
  have hq0 : 0 ≤ q := by omega
  have hq1 : q ≤ 281474976710656 := by omega
  have hqq : wrap64 ((z : Int) / 2) = q := by unfold wrap64; omega
  have hqd : (z : Int) / 2 = q := by omega
  have hzg : (z % 2 = 0 ∧ zag z = q) ∨ (z % 2 = 1 ∧ zag z = -q - 1) := by
    unfold zag
    rcases Nat.mod_two_eq_zero_or_one z with e | e
    · rw [if_pos e]; exact .inl ⟨e, hq⟩
    · rw [if_neg (by rw [e]; decide), hq]; exact .inr ⟨e, rfl⟩
  clear hr hN hk hv cl ho hz48 hq hqq
  rcases hzg with ⟨hpar, hzg⟩ | ⟨hpar, hzg⟩
  · have hm : ((z : Int) % 2 == 1) = false := by simp only [beq_eq_false_iff_ne, ne_eq]; omega
    rw [hzg] at hd
    clear hpar hzg
    have hcs : D + (q) < 1 ∨ (¬ D + (q) < 1 ∧ 35184372088832 - L < D + (q)) := by omega
    clear hd
    rcases hcs with g1 | ⟨g1, g2⟩
    all_goals
      go_enter Tryd.func35, Tryd.ntmps35
      go_wp2_with fail
      refine (refRight_yes _ _ _ _ HR.out).mono ?_
      rintro e w1 ⟨rfl, hB1⟩
      have H1 := below_more H0 hB1
      have R1 := R0.below hB1
      have S1 := S0.below hB1
      have D1 := h.below H1
      have K1 := Touch.of_below H1 g none
      have hz1 := H1.size
      have hz1r := R1.lt
      obtain ⟨c0, c1, c2⟩ := S1.cells3
      go_wp2_with fail
      clear c0 c1 c2
      go_loopw [9] (fun kv wr => ∃ i : Nat, kv = .int .i64 i ∧ i ≤ k ∧ Rr wr g R bs (p + i) ∧ Touch g none w wr ∧ w1.heap.size ≤ wr.heap.size ∧ Blk wr w.heap.size 39 #[.int .i64 N, .int .i64 L, .int .i64 D] ∧ Blk wr (w.heap.size + 1) 39 #[.int .i64 0, .int .i64 0, .int .i64 0] ∧ Hid (lead (4 - i) ((unB bs).drop (p + i)) = some (k - i))) (fun kv _ => 4 - (intOf kv).toNat)
      case atStart => exact ⟨0, rfl, Nat.zero_le _, D1, K1, Nat.le_refl _, S1, R1, HK.out⟩
      case round =>
        obtain ⟨i, rfl, hi, hD, hT, hz2, hS, hRR, hL⟩ := hrel
        clear R1 S1 D1 K1
        rcases Nat.lt_or_ge i 4 with hi4 | hi4
        · have hl := hL.out
          rw [show 4 - i = (3 - i) + 1 by omega] at hl
          rcases lead_cons hl with ⟨m, hm, hk0⟩ | ⟨m, j, hm, hkj, hj⟩
          · have bk := rbit_ok wr g R bs (p + i) false m 0 hD HBS.out hm rfl
            obtain rfl : k = i := by omega
            have BK := Lib.hid bk
            have hen : (ends k).length = 1 := by unfold ends; rw [if_pos hi4]; rfl
            have HEN := Lib.hid hen
            clear bk hl hm hk0 hL HK hen
            go_wp2_with fail
            refine BK.out.mono ?_
            rintro e w2 ⟨rfl, hD2, hT2⟩
            have S2 := hS.touch hT2 (by omega) (by simp)
            have R2 := hRR.touch hT2 (by omega) (by simp)
            have K2 := hT.trans hT2 (.inl rfl)
            have hz3 := Nat.le_trans hz2 hT2.size
            have D2 : Rr w2 g R bs (p + (k + (ends k).length)) := by rw [HEN.out, ← Nat.add_assoc]; exact hD2
            clear hD hT hS hRR hT2 hD2
            have A2 : Below w2.heap.size w2 (w2.alloc (.cells #[.int .i64 0, .int .i64 7, .int .i64 12, .int .i64 20, .int .i64 48] 3)) := (Below.refl _ w2).alloc (Nat.le_refl _) _
            have D3 := D2.below A2
            have S3 := S2.below A2
            have R3 := R2.below A2
            have K3 := K2.trans (Touch.of_below A2 g none) (.inl rfl)
            have hz4 := Nat.le_trans hz3 A2.size
            have wc := wids_cell w2 3 (k : Nat) (by omega)
            have hp3 := D3.place
            clear D2 S2 R2 K2 A2
            go_wp2_with fail
            clear wc
            generalize w2.alloc (.cells #[.int .i64 0, .int .i64 7, .int .i64 12, .int .i64 20, .int .i64 48] 3) = w3 at *
            refine (rgetI_ok w3 g R bs _ (wid (k : Nat) : Nat) D3 HBS.out (by omega) (by omega) (by rw [Int.toNat_natCast]; omega)).mono ?_
            rw [Int.toNat_natCast, HV.out]
            rintro e w4 ⟨rfl, D4, hT4⟩
            have R4 := R3.touch hT4 (by omega) (by simp)
            have S4 := S3.touch hT4 (by omega) (by simp)
            have K4 := K3.trans hT4 (.inl rfl)
            have hz5 := Nat.le_trans hz4 hT4.size
            clear R3 S3 K3 D3 hT4
            go_wp2_with fail
            refine (HCL.out _).mono ?_
            rintro e w5 ⟨rfl, rfl⟩
            obtain ⟨c0, c1, c2⟩ := S4.cells3
            have R2 := R4
            have D2 := D4
            have K2 := K4
            obtain ⟨d0, d1, d2⟩ := R2.cells3
            obtain ⟨e0, e1, e2⟩ := R2.free3
            go_wp2_with fail
            obtain ⟨q0, q1, q2⟩ := (R2.put3 (.int .i64 0) (.int .i64 0) (.int .i64 0)).cells3
            refine bodyPost_ret (v := .tuple #[.agg #[.int .i64 0, .int .i64 0, .int .i64 0], .int .i64 0, .int .i64 60]) (by simp [results, Tryd.results35, go_sem, q0, q1, q2]) rfl ⟨rfl, ⟨_, D2.put3 (by omega) NR.out _ _ _⟩, K2.put3 (by omega) _ _ _⟩

          · have bk := rbit_ok wr g R bs (p + i) true m 1 hD HBS.out hm rfl
            have hd := (drop_cons hm).2.2
            have BK := Lib.hid bk
            have HJ : Hid (lead (4 - (i + 1)) ((unB bs).drop (p + (i + 1))) = some (k - (i + 1))) := by
              rw [← Nat.add_assoc, hd, show 4 - (i + 1) = 3 - i by omega, hj, show k - (i + 1) = j by omega]
              exact rfl
            have HKI : i + 1 ≤ k := by omega
            clear bk hl hm hd hj hkj hL HK
            go_wp2_with fail
            refine BK.out.mono ?_
            rintro e w2 ⟨rfl, hD2, hT2⟩
            have S2 := hS.touch hT2 (by omega) (by simp)
            have R2 := hRR.touch hT2 (by omega) (by simp)
            have K2 := hT.trans hT2 (.inl rfl)
            have hz3 := hT2.size
            go_wp2_with fail
            go_roundw
            case rel => exact ⟨i + 1, by go_num, HKI, hD2, K2, by omega, S2, R2, HJ⟩
            case measure => simp [intOf]; omega

        · obtain rfl : i = 4 := by omega
          obtain rfl : k = 4 := by omega
          clear hL HK
          have S2 := hS
          have R2 := hRR
          have K2 := hT
          have hz3 := hz2
          have D2 : Rr wr g R bs (p + (4 + (ends 4).length)) := hD
          obtain ⟨w2, rfl⟩ : ∃ w2, w2 = wr := ⟨_, rfl⟩
          clear hD hT hS hRR
          have A2 : Below w2.heap.size w2 (w2.alloc (.cells #[.int .i64 0, .int .i64 7, .int .i64 12, .int .i64 20, .int .i64 48] 3)) := (Below.refl _ w2).alloc (Nat.le_refl _) _
          have D3 := D2.below A2
          have S3 := S2.below A2
          have R3 := R2.below A2
          have K3 := K2.trans (Touch.of_below A2 g none) (.inl rfl)
          have hz4 := Nat.le_trans hz3 A2.size
          have wc := wids_cell w2 3 4 (by omega)
          have hp3 := D3.place
          clear D2 S2 R2 K2 A2
          go_wp2_with fail
          clear wc
          generalize w2.alloc (.cells #[.int .i64 0, .int .i64 7, .int .i64 12, .int .i64 20, .int .i64 48] 3) = w3 at *
          refine (rgetI_ok w3 g R bs _ (wid 4 : Nat) D3 HBS.out (by omega) (by omega) (by rw [Int.toNat_natCast]; omega)).mono ?_
          rw [Int.toNat_natCast, HV.out]
          rintro e w4 ⟨rfl, D4, hT4⟩
          have R4 := R3.touch hT4 (by omega) (by simp)
          have S4 := S3.touch hT4 (by omega) (by simp)
          have K4 := K3.trans hT4 (.inl rfl)
          have hz5 := Nat.le_trans hz4 hT4.size
          clear R3 S3 K3 D3 hT4
          go_wp2_with fail
          refine (HCL.out _).mono ?_
          rintro e w5 ⟨rfl, rfl⟩
          obtain ⟨c0, c1, c2⟩ := S4.cells3
          have R2 := R4
          have D2 := D4
          have K2 := K4
          obtain ⟨d0, d1, d2⟩ := R2.cells3
          obtain ⟨e0, e1, e2⟩ := R2.free3
          go_wp2_with fail
          obtain ⟨q0, q1, q2⟩ := (R2.put3 (.int .i64 0) (.int .i64 0) (.int .i64 0)).cells3
          refine bodyPost_ret (v := .tuple #[.agg #[.int .i64 0, .int .i64 0, .int .i64 0], .int .i64 0, .int .i64 60]) (by simp [results, Tryd.results35, go_sem, q0, q1, q2]) rfl ⟨rfl, ⟨_, D2.put3 (by omega) NR.out _ _ _⟩, K2.put3 (by omega) _ _ _⟩
  · have hm : ((z : Int) % 2 == 1) = true := by simp only [beq_iff_eq]; omega
    rw [hzg] at hd
    clear hpar hzg
    have hcs : D + (-q - 1) < 1 ∨ (¬ D + (-q - 1) < 1 ∧ 35184372088832 - L < D + (-q - 1)) := by omega
    clear hd
    rcases hcs with g1 | ⟨g1, g2⟩
    all_goals
      go_enter Tryd.func35, Tryd.ntmps35
      go_wp2_with fail
      refine (refRight_yes _ _ _ _ HR.out).mono ?_
      rintro e w1 ⟨rfl, hB1⟩
      have H1 := below_more H0 hB1
      have R1 := R0.below hB1
      have S1 := S0.below hB1
      have D1 := h.below H1
      have K1 := Touch.of_below H1 g none
      have hz1 := H1.size
      have hz1r := R1.lt
      obtain ⟨c0, c1, c2⟩ := S1.cells3
      go_wp2_with fail
      clear c0 c1 c2
      go_loopw [9] (fun kv wr => ∃ i : Nat, kv = .int .i64 i ∧ i ≤ k ∧ Rr wr g R bs (p + i) ∧ Touch g none w wr ∧ w1.heap.size ≤ wr.heap.size ∧ Blk wr w.heap.size 39 #[.int .i64 N, .int .i64 L, .int .i64 D] ∧ Blk wr (w.heap.size + 1) 39 #[.int .i64 0, .int .i64 0, .int .i64 0] ∧ Hid (lead (4 - i) ((unB bs).drop (p + i)) = some (k - i))) (fun kv _ => 4 - (intOf kv).toNat)
      case atStart => exact ⟨0, rfl, Nat.zero_le _, D1, K1, Nat.le_refl _, S1, R1, HK.out⟩
      case round =>
        obtain ⟨i, rfl, hi, hD, hT, hz2, hS, hRR, hL⟩ := hrel
        clear R1 S1 D1 K1
        rcases Nat.lt_or_ge i 4 with hi4 | hi4
        · have hl := hL.out
          rw [show 4 - i = (3 - i) + 1 by omega] at hl
          rcases lead_cons hl with ⟨m, hm, hk0⟩ | ⟨m, j, hm, hkj, hj⟩
          · have bk := rbit_ok wr g R bs (p + i) false m 0 hD HBS.out hm rfl
            obtain rfl : k = i := by omega
            have BK := Lib.hid bk
            have hen : (ends k).length = 1 := by unfold ends; rw [if_pos hi4]; rfl
            have HEN := Lib.hid hen
            clear bk hl hm hk0 hL HK hen
            go_wp2_with fail
            refine BK.out.mono ?_
            rintro e w2 ⟨rfl, hD2, hT2⟩
            have S2 := hS.touch hT2 (by omega) (by simp)
            have R2 := hRR.touch hT2 (by omega) (by simp)
            have K2 := hT.trans hT2 (.inl rfl)
            have hz3 := Nat.le_trans hz2 hT2.size
            have D2 : Rr w2 g R bs (p + (k + (ends k).length)) := by rw [HEN.out, ← Nat.add_assoc]; exact hD2
            clear hD hT hS hRR hT2 hD2
            have A2 : Below w2.heap.size w2 (w2.alloc (.cells #[.int .i64 0, .int .i64 7, .int .i64 12, .int .i64 20, .int .i64 48] 3)) := (Below.refl _ w2).alloc (Nat.le_refl _) _
            have D3 := D2.below A2
            have S3 := S2.below A2
            have R3 := R2.below A2
            have K3 := K2.trans (Touch.of_below A2 g none) (.inl rfl)
            have hz4 := Nat.le_trans hz3 A2.size
            have wc := wids_cell w2 3 (k : Nat) (by omega)
            have hp3 := D3.place
            clear D2 S2 R2 K2 A2
            go_wp2_with fail
            clear wc
            generalize w2.alloc (.cells #[.int .i64 0, .int .i64 7, .int .i64 12, .int .i64 20, .int .i64 48] 3) = w3 at *
            refine (rgetI_ok w3 g R bs _ (wid (k : Nat) : Nat) D3 HBS.out (by omega) (by omega) (by rw [Int.toNat_natCast]; omega)).mono ?_
            rw [Int.toNat_natCast, HV.out]
            rintro e w4 ⟨rfl, D4, hT4⟩
            have R4 := R3.touch hT4 (by omega) (by simp)
            have S4 := S3.touch hT4 (by omega) (by simp)
            have K4 := K3.trans hT4 (.inl rfl)
            have hz5 := Nat.le_trans hz4 hT4.size
            clear R3 S3 K3 D3 hT4
            go_wp2_with fail
            refine (HCL.out _).mono ?_
            rintro e w5 ⟨rfl, rfl⟩
            obtain ⟨c0, c1, c2⟩ := S4.cells3
            have R2 := R4
            have D2 := D4
            have K2 := K4
            obtain ⟨d0, d1, d2⟩ := R2.cells3
            obtain ⟨e0, e1, e2⟩ := R2.free3
            go_wp2_with fail
            obtain ⟨q0, q1, q2⟩ := (R2.put3 (.int .i64 0) (.int .i64 0) (.int .i64 0)).cells3
            refine bodyPost_ret (v := .tuple #[.agg #[.int .i64 0, .int .i64 0, .int .i64 0], .int .i64 0, .int .i64 60]) (by simp [results, Tryd.results35, go_sem, q0, q1, q2]) rfl ⟨rfl, ⟨_, D2.put3 (by omega) NR.out _ _ _⟩, K2.put3 (by omega) _ _ _⟩

          · have bk := rbit_ok wr g R bs (p + i) true m 1 hD HBS.out hm rfl
            have hd := (drop_cons hm).2.2
            have BK := Lib.hid bk
            have HJ : Hid (lead (4 - (i + 1)) ((unB bs).drop (p + (i + 1))) = some (k - (i + 1))) := by
              rw [← Nat.add_assoc, hd, show 4 - (i + 1) = 3 - i by omega, hj, show k - (i + 1) = j by omega]
              exact rfl
            have HKI : i + 1 ≤ k := by omega
            clear bk hl hm hd hj hkj hL HK
            go_wp2_with fail
            refine BK.out.mono ?_
            rintro e w2 ⟨rfl, hD2, hT2⟩
            have S2 := hS.touch hT2 (by omega) (by simp)
            have R2 := hRR.touch hT2 (by omega) (by simp)
            have K2 := hT.trans hT2 (.inl rfl)
            have hz3 := hT2.size
            go_wp2_with fail
            go_roundw
            case rel => exact ⟨i + 1, by go_num, HKI, hD2, K2, by omega, S2, R2, HJ⟩
            case measure => simp [intOf]; omega

        · obtain rfl : i = 4 := by omega
          obtain rfl : k = 4 := by omega
          clear hL HK
          have S2 := hS
          have R2 := hRR
          have K2 := hT
          have hz3 := hz2
          have D2 : Rr wr g R bs (p + (4 + (ends 4).length)) := hD
          obtain ⟨w2, rfl⟩ : ∃ w2, w2 = wr := ⟨_, rfl⟩
          clear hD hT hS hRR
          have A2 : Below w2.heap.size w2 (w2.alloc (.cells #[.int .i64 0, .int .i64 7, .int .i64 12, .int .i64 20, .int .i64 48] 3)) := (Below.refl _ w2).alloc (Nat.le_refl _) _
          have D3 := D2.below A2
          have S3 := S2.below A2
          have R3 := R2.below A2
          have K3 := K2.trans (Touch.of_below A2 g none) (.inl rfl)
          have hz4 := Nat.le_trans hz3 A2.size
          have wc := wids_cell w2 3 4 (by omega)
          have hp3 := D3.place
          clear D2 S2 R2 K2 A2
          go_wp2_with fail
          clear wc
          generalize w2.alloc (.cells #[.int .i64 0, .int .i64 7, .int .i64 12, .int .i64 20, .int .i64 48] 3) = w3 at *
          refine (rgetI_ok w3 g R bs _ (wid 4 : Nat) D3 HBS.out (by omega) (by omega) (by rw [Int.toNat_natCast]; omega)).mono ?_
          rw [Int.toNat_natCast, HV.out]
          rintro e w4 ⟨rfl, D4, hT4⟩
          have R4 := R3.touch hT4 (by omega) (by simp)
          have S4 := S3.touch hT4 (by omega) (by simp)
          have K4 := K3.trans hT4 (.inl rfl)
          have hz5 := Nat.le_trans hz4 hT4.size
          clear R3 S3 K3 D3 hT4
          go_wp2_with fail
          refine (HCL.out _).mono ?_
          rintro e w5 ⟨rfl, rfl⟩
          obtain ⟨c0, c1, c2⟩ := S4.cells3
          have R2 := R4
          have D2 := D4
          have K2 := K4
          obtain ⟨d0, d1, d2⟩ := R2.cells3
          obtain ⟨e0, e1, e2⟩ := R2.free3
          go_wp2_with fail
          obtain ⟨q0, q1, q2⟩ := (R2.put3 (.int .i64 0) (.int .i64 0) (.int .i64 0)).cells3
          refine bodyPost_ret (v := .tuple #[.agg #[.int .i64 0, .int .i64 0, .int .i64 0], .int .i64 0, .int .i64 60]) (by simp [results, Tryd.results35, go_sem, q0, q1, q2]) rfl ⟨rfl, ⟨_, D2.put3 (by omega) NR.out _ _ _⟩, K2.put3 (by omega) _ _ _⟩

set_option maxHeartbeats 1600000 in
theorem rGet_y1 (w : World) (g : Nat) (R : Option Nat) (bs : List Int) (p : Nat) (N L D : Int) (k z : Nat) (h : Rr w g R bs p) (hRl : ∀ k, R = some k → k < w.heap.size) (hbs : ∀ x ∈ bs, Byte x) (hr : rightS N L D = true) (hN : N ≠ 0) (hk : lead 4 ((unB bs).drop p) = some k) (hl : k + (ends k).length + wid k ≤ ((unB bs).drop p).length) (hv : val ((((unB bs).drop p).drop (k + (ends k).length)).take (wid k)) = z) (ho : ofc z = k) (hd1 : 1 ≤ D + zag z) (hd2 : D + zag z ≤ 35184372088832 - L) :
    Calls Tryd.prog 35 #[.pointer (some ⟨g, 0, none⟩), .agg #[.int .i64 N, .int .i64 L, .int .i64 D]] w fun e w' =>
      e = .returned (.tuple #[.agg #[.int .i64 (N + 1), .int .i64 (L + (D + zag z)), .int .i64 (D + zag z)], .int .i64 (L + (D + zag z)), .int .i64 0]) ∧ Rr w' g R bs (p + (k + (ends k).length + wid k)) ∧ Touch g none w w' := by
  obtain ⟨S0, R0, H0⟩ := two_new w (.int .i64 N) (.int .i64 L) (.int .i64 0) (.int .i64 0) (.int .i64 0) (.int .i64 D) 39 39
  have hlt := h.lt
  have HBS := Lib.hid hbs
  have nR : R ≠ some (w.heap.size + 1) := fun e => by have := hRl _ e; omega
  have NR := Lib.hid nR
  clear nR hRl hbs
  have h0 : (N == 0) = false := beq_eq_false_iff_ne.2 hN
  have HR := Lib.hid hr
  have hpl := h.place
  have hk4 := lead_le _ _ _ hk
  have hwd := wid_le k
  have hz48 : z < 281474976710656 := by
    rw [← hv]
    refine Nat.lt_of_lt_of_le (val_lt _) (show 2 ^ ((((unB bs).drop p).drop (k + (ends k).length)).take (wid k)).length ≤ 2 ^ 48 from Nat.pow_le_pow_right (by omega) (by rw [List.length_take]; omega))
  rw [rest_len] at hl
  rw [List.drop_drop] at hv
  have HK := Lib.hid hk
  have HV := Lib.hid hv
  have cl := fun W => class_int z k (wid (ofc z) : Nat) W hz48 (by rw [ho]) rfl
  have HCL := Lib.hid cl
  obtain ⟨a1, a2, a3, a4, a5, a6⟩ := rightS_of hr
  obtain ⟨q, hq⟩ : ∃ q : Int, ((z / 2 : Nat) : Int) = q := ⟨_, rfl⟩
  have hq0 : 0 ≤ q := by omega
  have hq1 : q ≤ 281474976710656 := by omega
  have hqq : wrap64 ((z : Int) / 2) = q := by unfold wrap64; omega
  have hqd : (z : Int) / 2 = q := by omega
  have hzg : (z % 2 = 0 ∧ zag z = q) ∨ (z % 2 = 1 ∧ zag z = -q - 1) := by
    unfold zag
    rcases Nat.mod_two_eq_zero_or_one z with e | e
    · rw [if_pos e]; exact .inl ⟨e, hq⟩
    · rw [if_neg (by rw [e]; decide), hq]; exact .inr ⟨e, rfl⟩
  clear hr hN hk hv cl ho hz48 hq hqq
  rcases hzg with ⟨hpar, hzg⟩ | ⟨hpar, hzg⟩
  · have hm : ((z : Int) % 2 == 1) = false := by simp only [beq_eq_false_iff_ne, ne_eq]; omega
    rw [hzg] at hd1 hd2 ⊢
    clear hpar hzg
    have g1 : ¬ D + (q) < 1 := by omega
    have g2 : ¬ 35184372088832 - L < D + (q) := by omega
    go_enter Tryd.func35, Tryd.ntmps35
    go_wp2_with fail
    refine (refRight_yes _ _ _ _ HR.out).mono ?_
    rintro e w1 ⟨rfl, hB1⟩
    have H1 := below_more H0 hB1
    have R1 := R0.below hB1
    have S1 := S0.below hB1
    have D1 := h.below H1
    have K1 := Touch.of_below H1 g none
    have hz1 := H1.size
    have hz1r := R1.lt
    obtain ⟨c0, c1, c2⟩ := S1.cells3
    go_wp2_with fail
    clear c0 c1 c2
    go_loopw [9] (fun kv wr => ∃ i : Nat, kv = .int .i64 i ∧ i ≤ k ∧ Rr wr g R bs (p + i) ∧ Touch g none w wr ∧ w1.heap.size ≤ wr.heap.size ∧ Blk wr w.heap.size 39 #[.int .i64 N, .int .i64 L, .int .i64 D] ∧ Blk wr (w.heap.size + 1) 39 #[.int .i64 0, .int .i64 0, .int .i64 0] ∧ Hid (lead (4 - i) ((unB bs).drop (p + i)) = some (k - i))) (fun kv _ => 4 - (intOf kv).toNat)
    case atStart => exact ⟨0, rfl, Nat.zero_le _, D1, K1, Nat.le_refl _, S1, R1, HK.out⟩
    case round =>
      obtain ⟨i, rfl, hi, hD, hT, hz2, hS, hRR, hL⟩ := hrel
      clear R1 S1 D1 K1
      rcases Nat.lt_or_ge i 4 with hi4 | hi4
      · have hl := hL.out
        rw [show 4 - i = (3 - i) + 1 by omega] at hl
        rcases lead_cons hl with ⟨m, hm, hk0⟩ | ⟨m, j, hm, hkj, hj⟩
        · have bk := rbit_ok wr g R bs (p + i) false m 0 hD HBS.out hm rfl
          obtain rfl : k = i := by omega
          have BK := Lib.hid bk
          have hen : (ends k).length = 1 := by unfold ends; rw [if_pos hi4]; rfl
          have HEN := Lib.hid hen
          clear bk hl hm hk0 hL HK hen
          go_wp2_with fail
          refine BK.out.mono ?_
          rintro e w2 ⟨rfl, hD2, hT2⟩
          have S2 := hS.touch hT2 (by omega) (by simp)
          have R2 := hRR.touch hT2 (by omega) (by simp)
          have K2 := hT.trans hT2 (.inl rfl)
          have hz3 := Nat.le_trans hz2 hT2.size
          have D2 : Rr w2 g R bs (p + (k + (ends k).length)) := by rw [HEN.out, ← Nat.add_assoc]; exact hD2
          clear hD hT hS hRR hT2 hD2
          have A2 : Below w2.heap.size w2 (w2.alloc (.cells #[.int .i64 0, .int .i64 7, .int .i64 12, .int .i64 20, .int .i64 48] 3)) := (Below.refl _ w2).alloc (Nat.le_refl _) _
          have D3 := D2.below A2
          have S3 := S2.below A2
          have R3 := R2.below A2
          have K3 := K2.trans (Touch.of_below A2 g none) (.inl rfl)
          have hz4 := Nat.le_trans hz3 A2.size
          have wc := wids_cell w2 3 (k : Nat) (by omega)
          have hp3 := D3.place
          clear D2 S2 R2 K2 A2
          go_wp2_with fail
          clear wc
          generalize w2.alloc (.cells #[.int .i64 0, .int .i64 7, .int .i64 12, .int .i64 20, .int .i64 48] 3) = w3 at *
          refine (rgetI_ok w3 g R bs _ (wid (k : Nat) : Nat) D3 HBS.out (by omega) (by omega) (by rw [Int.toNat_natCast]; omega)).mono ?_
          rw [Int.toNat_natCast, HV.out]
          rintro e w4 ⟨rfl, D4, hT4⟩
          have R4 := R3.touch hT4 (by omega) (by simp)
          have S4 := S3.touch hT4 (by omega) (by simp)
          have K4 := K3.trans hT4 (.inl rfl)
          have hz5 := Nat.le_trans hz4 hT4.size
          clear R3 S3 K3 D3 hT4
          go_wp2_with fail
          refine (HCL.out _).mono ?_
          rintro e w5 ⟨rfl, rfl⟩
          obtain ⟨c0, c1, c2⟩ := S4.cells3
          go_wp2_with fail
          have ws1 : IntKind.i64.wrap (N + 1) = N + 1 := by rw [IntKind.wrap_i64]; omega
          have ws2 : IntKind.i64.wrap (L + (D + (q))) = L + (D + (q)) := by rw [IntKind.wrap_i64]; omega
          refine wp_region_noPanic ?_
          refine wp_region_held_drew (S := fun W : World => W.cell? ⟨w.heap.size, 0, none⟩ = some (.int .i64 N) ∧ W.cell? ⟨w.heap.size, 1, none⟩ = some (.int .i64 L) ∧ W.cell? ⟨w.heap.size, 2, none⟩ = some (.int .i64 D)) (by kernel_rfl) ((S4.drewN 1).cells3) (fun hSt => ?_)
          have S5 : Blk w5.drew w.heap.size 39 #[.int .i64 N, .int .i64 L, .int .i64 D] := S4
          have R5 : Blk w5.drew (w.heap.size + 1) 39 #[.int .i64 0, .int .i64 0, .int .i64 0] := R4
          have D5 : Rr w5.drew g R bs _ := D4
          have K5 : Touch g none w w5.drew := K4.drewN 1
          clear R4 S4 D4 K4 c0 c1 c2
          generalize w5.drew = w6 at *
          refine wpAnyH_picks [0, 1, 2, 3, 4, 5, 6, 7, 8, 9, 10, 11, 12] 3 (by rfl) (by kernel_rfl) (by kernel_rfl) (by kernel_rfl) (fun _ _ _ _ _ h => h) (by assumption) ?_
          simp only [picks, List.drop_succ_cons, List.drop_zero, List.take_succ_cons, List.take_zero, List.cons_append, List.nil_append]
          repeat (first
            | (refine wpY_skip (by rfl) ?_; simp only [Act.put, List.setIfInBounds_toArray, List.set_cons_zero, List.set_cons_succ])
            | (refine wpY_want (v := ?_) (by rfl) (fun W hW => ?_) ?_; rotate_left; (obtain ⟨hW0, hW1, hW2⟩ := hW; go_simp; try with_reducible rfl); simp only [Act.put, List.setIfInBounds_toArray, List.set_cons_zero, List.set_cons_succ]))
          refine wpY_nil ?_
          obtain ⟨d0, d1, d2⟩ := R5.cells3
          obtain ⟨e0, e1, e2⟩ := R5.free3
          refine wpAnyH_one 13 2 (by rfl) (by rfl) (by kernel_rfl) (fun K hK => ?_)
          go_simp
          refine hK.out _ _ ((S5.farPut3 (g' := w.heap.size + 1) (by omega) _ _ _).cells3) (fun hSt => ?_)
          clear hK K
          try simp only [Act.put, List.setIfInBounds_toArray, List.set_cons_zero, List.set_cons_succ]
          refine wpAnyH_picks [14, 15] 0 (by rfl) (by kernel_rfl) (by kernel_rfl) (by kernel_rfl) (fun _ _ _ _ _ h => h) (by assumption) ?_
          simp only [picks, List.drop_succ_cons, List.drop_zero, List.take_succ_cons, List.take_zero, List.cons_append, List.nil_append]
          repeat (first
            | (refine wpY_skip (by rfl) ?_; simp only [Act.put, List.setIfInBounds_toArray, List.set_cons_zero, List.set_cons_succ])
            | (refine wpY_want (v := ?_) (by rfl) (fun W hW => ?_) ?_; rotate_left; (go_simp; try with_reducible rfl); simp only [Act.put, List.setIfInBounds_toArray, List.set_cons_zero, List.set_cons_succ]))
          refine wpY_nil ?_
          refine wpAnyH_done (by kernel_rfl) ?_ _
          refine NoPanic.normal ?_
          clear ws1 ws2
          go_wp2_with fail
          have D2 := D5
          have K2 := K5
          have R2 := R5
          obtain ⟨q0, q1, q2⟩ := (R2.put3 (.int .i64 (N + 1)) (.int .i64 (L + (D + (q)))) (.int .i64 (D + (q)))).cells3
          refine bodyPost_ret (v := .tuple #[.agg #[.int .i64 (N + 1), .int .i64 (L + (D + (q))), .int .i64 (D + (q))], .int .i64 (L + (D + (q))), .int .i64 0]) (by simp [results, Tryd.results35, go_sem, q0, q1, q2]) rfl ⟨rfl, ?_, K2.put3 (by omega) _ _ _⟩
          refine Rr.put3 ?_ (show g ≠ w.heap.size + 1 by omega) NR.out _ _ _
          rw [← Nat.add_assoc]
          exact D2

        · have bk := rbit_ok wr g R bs (p + i) true m 1 hD HBS.out hm rfl
          have hd := (drop_cons hm).2.2
          have BK := Lib.hid bk
          have HJ : Hid (lead (4 - (i + 1)) ((unB bs).drop (p + (i + 1))) = some (k - (i + 1))) := by
            rw [← Nat.add_assoc, hd, show 4 - (i + 1) = 3 - i by omega, hj, show k - (i + 1) = j by omega]
            exact rfl
          have HKI : i + 1 ≤ k := by omega
          clear bk hl hm hd hj hkj hL HK
          go_wp2_with fail
          refine BK.out.mono ?_
          rintro e w2 ⟨rfl, hD2, hT2⟩
          have S2 := hS.touch hT2 (by omega) (by simp)
          have R2 := hRR.touch hT2 (by omega) (by simp)
          have K2 := hT.trans hT2 (.inl rfl)
          have hz3 := hT2.size
          go_wp2_with fail
          go_roundw
          case rel => exact ⟨i + 1, by go_num, HKI, hD2, K2, by omega, S2, R2, HJ⟩
          case measure => simp [intOf]; omega

      · obtain rfl : i = 4 := by omega
        obtain rfl : k = 4 := by omega
        clear hL HK
        have S2 := hS
        have R2 := hRR
        have K2 := hT
        have hz3 := hz2
        have D2 : Rr wr g R bs (p + (4 + (ends 4).length)) := hD
        obtain ⟨w2, rfl⟩ : ∃ w2, w2 = wr := ⟨_, rfl⟩
        clear hD hT hS hRR
        have A2 : Below w2.heap.size w2 (w2.alloc (.cells #[.int .i64 0, .int .i64 7, .int .i64 12, .int .i64 20, .int .i64 48] 3)) := (Below.refl _ w2).alloc (Nat.le_refl _) _
        have D3 := D2.below A2
        have S3 := S2.below A2
        have R3 := R2.below A2
        have K3 := K2.trans (Touch.of_below A2 g none) (.inl rfl)
        have hz4 := Nat.le_trans hz3 A2.size
        have wc := wids_cell w2 3 4 (by omega)
        have hp3 := D3.place
        clear D2 S2 R2 K2 A2
        go_wp2_with fail
        clear wc
        generalize w2.alloc (.cells #[.int .i64 0, .int .i64 7, .int .i64 12, .int .i64 20, .int .i64 48] 3) = w3 at *
        refine (rgetI_ok w3 g R bs _ (wid 4 : Nat) D3 HBS.out (by omega) (by omega) (by rw [Int.toNat_natCast]; omega)).mono ?_
        rw [Int.toNat_natCast, HV.out]
        rintro e w4 ⟨rfl, D4, hT4⟩
        have R4 := R3.touch hT4 (by omega) (by simp)
        have S4 := S3.touch hT4 (by omega) (by simp)
        have K4 := K3.trans hT4 (.inl rfl)
        have hz5 := Nat.le_trans hz4 hT4.size
        clear R3 S3 K3 D3 hT4
        go_wp2_with fail
        refine (HCL.out _).mono ?_
        rintro e w5 ⟨rfl, rfl⟩
        obtain ⟨c0, c1, c2⟩ := S4.cells3
        go_wp2_with fail
        have ws1 : IntKind.i64.wrap (N + 1) = N + 1 := by rw [IntKind.wrap_i64]; omega
        have ws2 : IntKind.i64.wrap (L + (D + (q))) = L + (D + (q)) := by rw [IntKind.wrap_i64]; omega
        refine wp_region_noPanic ?_
        refine wp_region_held_drew (S := fun W : World => W.cell? ⟨w.heap.size, 0, none⟩ = some (.int .i64 N) ∧ W.cell? ⟨w.heap.size, 1, none⟩ = some (.int .i64 L) ∧ W.cell? ⟨w.heap.size, 2, none⟩ = some (.int .i64 D)) (by kernel_rfl) ((S4.drewN 1).cells3) (fun hSt => ?_)
        have S5 : Blk w5.drew w.heap.size 39 #[.int .i64 N, .int .i64 L, .int .i64 D] := S4
        have R5 : Blk w5.drew (w.heap.size + 1) 39 #[.int .i64 0, .int .i64 0, .int .i64 0] := R4
        have D5 : Rr w5.drew g R bs _ := D4
        have K5 : Touch g none w w5.drew := K4.drewN 1
        clear R4 S4 D4 K4 c0 c1 c2
        generalize w5.drew = w6 at *
        refine wpAnyH_picks [0, 1, 2, 3, 4, 5, 6, 7, 8, 9, 10, 11, 12] 3 (by rfl) (by kernel_rfl) (by kernel_rfl) (by kernel_rfl) (fun _ _ _ _ _ h => h) (by assumption) ?_
        simp only [picks, List.drop_succ_cons, List.drop_zero, List.take_succ_cons, List.take_zero, List.cons_append, List.nil_append]
        repeat (first
          | (refine wpY_skip (by rfl) ?_; simp only [Act.put, List.setIfInBounds_toArray, List.set_cons_zero, List.set_cons_succ])
          | (refine wpY_want (v := ?_) (by rfl) (fun W hW => ?_) ?_; rotate_left; (obtain ⟨hW0, hW1, hW2⟩ := hW; go_simp; try with_reducible rfl); simp only [Act.put, List.setIfInBounds_toArray, List.set_cons_zero, List.set_cons_succ]))
        refine wpY_nil ?_
        obtain ⟨d0, d1, d2⟩ := R5.cells3
        obtain ⟨e0, e1, e2⟩ := R5.free3
        refine wpAnyH_one 13 2 (by rfl) (by rfl) (by kernel_rfl) (fun K hK => ?_)
        go_simp
        refine hK.out _ _ ((S5.farPut3 (g' := w.heap.size + 1) (by omega) _ _ _).cells3) (fun hSt => ?_)
        clear hK K
        try simp only [Act.put, List.setIfInBounds_toArray, List.set_cons_zero, List.set_cons_succ]
        refine wpAnyH_picks [14, 15] 0 (by rfl) (by kernel_rfl) (by kernel_rfl) (by kernel_rfl) (fun _ _ _ _ _ h => h) (by assumption) ?_
        simp only [picks, List.drop_succ_cons, List.drop_zero, List.take_succ_cons, List.take_zero, List.cons_append, List.nil_append]
        repeat (first
          | (refine wpY_skip (by rfl) ?_; simp only [Act.put, List.setIfInBounds_toArray, List.set_cons_zero, List.set_cons_succ])
          | (refine wpY_want (v := ?_) (by rfl) (fun W hW => ?_) ?_; rotate_left; (go_simp; try with_reducible rfl); simp only [Act.put, List.setIfInBounds_toArray, List.set_cons_zero, List.set_cons_succ]))
        refine wpY_nil ?_
        refine wpAnyH_done (by kernel_rfl) ?_ _
        refine NoPanic.normal ?_
        clear ws1 ws2
        go_wp2_with fail
        have D2 := D5
        have K2 := K5
        have R2 := R5
        obtain ⟨q0, q1, q2⟩ := (R2.put3 (.int .i64 (N + 1)) (.int .i64 (L + (D + (q)))) (.int .i64 (D + (q)))).cells3
        refine bodyPost_ret (v := .tuple #[.agg #[.int .i64 (N + 1), .int .i64 (L + (D + (q))), .int .i64 (D + (q))], .int .i64 (L + (D + (q))), .int .i64 0]) (by simp [results, Tryd.results35, go_sem, q0, q1, q2]) rfl ⟨rfl, ?_, K2.put3 (by omega) _ _ _⟩
        refine Rr.put3 ?_ (show g ≠ w.heap.size + 1 by omega) NR.out _ _ _
        rw [← Nat.add_assoc]
        exact D2
  · have hm : ((z : Int) % 2 == 1) = true := by simp only [beq_iff_eq]; omega
    rw [hzg] at hd1 hd2 ⊢
    clear hpar hzg
    have g1 : ¬ D + (-q - 1) < 1 := by omega
    have g2 : ¬ 35184372088832 - L < D + (-q - 1) := by omega
    go_enter Tryd.func35, Tryd.ntmps35
    go_wp2_with fail
    refine (refRight_yes _ _ _ _ HR.out).mono ?_
    rintro e w1 ⟨rfl, hB1⟩
    have H1 := below_more H0 hB1
    have R1 := R0.below hB1
    have S1 := S0.below hB1
    have D1 := h.below H1
    have K1 := Touch.of_below H1 g none
    have hz1 := H1.size
    have hz1r := R1.lt
    obtain ⟨c0, c1, c2⟩ := S1.cells3
    go_wp2_with fail
    clear c0 c1 c2
    go_loopw [9] (fun kv wr => ∃ i : Nat, kv = .int .i64 i ∧ i ≤ k ∧ Rr wr g R bs (p + i) ∧ Touch g none w wr ∧ w1.heap.size ≤ wr.heap.size ∧ Blk wr w.heap.size 39 #[.int .i64 N, .int .i64 L, .int .i64 D] ∧ Blk wr (w.heap.size + 1) 39 #[.int .i64 0, .int .i64 0, .int .i64 0] ∧ Hid (lead (4 - i) ((unB bs).drop (p + i)) = some (k - i))) (fun kv _ => 4 - (intOf kv).toNat)
    case atStart => exact ⟨0, rfl, Nat.zero_le _, D1, K1, Nat.le_refl _, S1, R1, HK.out⟩
    case round =>
      obtain ⟨i, rfl, hi, hD, hT, hz2, hS, hRR, hL⟩ := hrel
      clear R1 S1 D1 K1
      rcases Nat.lt_or_ge i 4 with hi4 | hi4
      · have hl := hL.out
        rw [show 4 - i = (3 - i) + 1 by omega] at hl
        rcases lead_cons hl with ⟨m, hm, hk0⟩ | ⟨m, j, hm, hkj, hj⟩
        · have bk := rbit_ok wr g R bs (p + i) false m 0 hD HBS.out hm rfl
          obtain rfl : k = i := by omega
          have BK := Lib.hid bk
          have hen : (ends k).length = 1 := by unfold ends; rw [if_pos hi4]; rfl
          have HEN := Lib.hid hen
          clear bk hl hm hk0 hL HK hen
          go_wp2_with fail
          refine BK.out.mono ?_
          rintro e w2 ⟨rfl, hD2, hT2⟩
          have S2 := hS.touch hT2 (by omega) (by simp)
          have R2 := hRR.touch hT2 (by omega) (by simp)
          have K2 := hT.trans hT2 (.inl rfl)
          have hz3 := Nat.le_trans hz2 hT2.size
          have D2 : Rr w2 g R bs (p + (k + (ends k).length)) := by rw [HEN.out, ← Nat.add_assoc]; exact hD2
          clear hD hT hS hRR hT2 hD2
          have A2 : Below w2.heap.size w2 (w2.alloc (.cells #[.int .i64 0, .int .i64 7, .int .i64 12, .int .i64 20, .int .i64 48] 3)) := (Below.refl _ w2).alloc (Nat.le_refl _) _
          have D3 := D2.below A2
          have S3 := S2.below A2
          have R3 := R2.below A2
          have K3 := K2.trans (Touch.of_below A2 g none) (.inl rfl)
          have hz4 := Nat.le_trans hz3 A2.size
          have wc := wids_cell w2 3 (k : Nat) (by omega)
          have hp3 := D3.place
          clear D2 S2 R2 K2 A2
          go_wp2_with fail
          clear wc
          generalize w2.alloc (.cells #[.int .i64 0, .int .i64 7, .int .i64 12, .int .i64 20, .int .i64 48] 3) = w3 at *
          refine (rgetI_ok w3 g R bs _ (wid (k : Nat) : Nat) D3 HBS.out (by omega) (by omega) (by rw [Int.toNat_natCast]; omega)).mono ?_
          rw [Int.toNat_natCast, HV.out]
          rintro e w4 ⟨rfl, D4, hT4⟩
          have R4 := R3.touch hT4 (by omega) (by simp)
          have S4 := S3.touch hT4 (by omega) (by simp)
          have K4 := K3.trans hT4 (.inl rfl)
          have hz5 := Nat.le_trans hz4 hT4.size
          clear R3 S3 K3 D3 hT4
          go_wp2_with fail
          refine (HCL.out _).mono ?_
          rintro e w5 ⟨rfl, rfl⟩
          obtain ⟨c0, c1, c2⟩ := S4.cells3
          go_wp2_with fail
          have ws1 : IntKind.i64.wrap (N + 1) = N + 1 := by rw [IntKind.wrap_i64]; omega
          have ws2 : IntKind.i64.wrap (L + (D + (-q - 1))) = L + (D + (-q - 1)) := by rw [IntKind.wrap_i64]; omega
          refine wp_region_noPanic ?_
          refine wp_region_held_drew (S := fun W : World => W.cell? ⟨w.heap.size, 0, none⟩ = some (.int .i64 N) ∧ W.cell? ⟨w.heap.size, 1, none⟩ = some (.int .i64 L) ∧ W.cell? ⟨w.heap.size, 2, none⟩ = some (.int .i64 D)) (by kernel_rfl) ((S4.drewN 1).cells3) (fun hSt => ?_)
          have S5 : Blk w5.drew w.heap.size 39 #[.int .i64 N, .int .i64 L, .int .i64 D] := S4
          have R5 : Blk w5.drew (w.heap.size + 1) 39 #[.int .i64 0, .int .i64 0, .int .i64 0] := R4
          have D5 : Rr w5.drew g R bs _ := D4
          have K5 : Touch g none w w5.drew := K4.drewN 1
          clear R4 S4 D4 K4 c0 c1 c2
          generalize w5.drew = w6 at *
          refine wpAnyH_picks [0, 1, 2, 3, 4, 5, 6, 7, 8, 9, 10, 11, 12] 3 (by rfl) (by kernel_rfl) (by kernel_rfl) (by kernel_rfl) (fun _ _ _ _ _ h => h) (by assumption) ?_
          simp only [picks, List.drop_succ_cons, List.drop_zero, List.take_succ_cons, List.take_zero, List.cons_append, List.nil_append]
          repeat (first
            | (refine wpY_skip (by rfl) ?_; simp only [Act.put, List.setIfInBounds_toArray, List.set_cons_zero, List.set_cons_succ])
            | (refine wpY_want (v := ?_) (by rfl) (fun W hW => ?_) ?_; rotate_left; (obtain ⟨hW0, hW1, hW2⟩ := hW; go_simp; try with_reducible rfl); simp only [Act.put, List.setIfInBounds_toArray, List.set_cons_zero, List.set_cons_succ]))
          refine wpY_nil ?_
          obtain ⟨d0, d1, d2⟩ := R5.cells3
          obtain ⟨e0, e1, e2⟩ := R5.free3
          refine wpAnyH_one 13 2 (by rfl) (by rfl) (by kernel_rfl) (fun K hK => ?_)
          go_simp
          refine hK.out _ _ ((S5.farPut3 (g' := w.heap.size + 1) (by omega) _ _ _).cells3) (fun hSt => ?_)
          clear hK K
          try simp only [Act.put, List.setIfInBounds_toArray, List.set_cons_zero, List.set_cons_succ]
          refine wpAnyH_picks [14, 15] 0 (by rfl) (by kernel_rfl) (by kernel_rfl) (by kernel_rfl) (fun _ _ _ _ _ h => h) (by assumption) ?_
          simp only [picks, List.drop_succ_cons, List.drop_zero, List.take_succ_cons, List.take_zero, List.cons_append, List.nil_append]
          repeat (first
            | (refine wpY_skip (by rfl) ?_; simp only [Act.put, List.setIfInBounds_toArray, List.set_cons_zero, List.set_cons_succ])
            | (refine wpY_want (v := ?_) (by rfl) (fun W hW => ?_) ?_; rotate_left; (go_simp; try with_reducible rfl); simp only [Act.put, List.setIfInBounds_toArray, List.set_cons_zero, List.set_cons_succ]))
          refine wpY_nil ?_
          refine wpAnyH_done (by kernel_rfl) ?_ _
          refine NoPanic.normal ?_
          clear ws1 ws2
          go_wp2_with fail
          have D2 := D5
          have K2 := K5
          have R2 := R5
          obtain ⟨q0, q1, q2⟩ := (R2.put3 (.int .i64 (N + 1)) (.int .i64 (L + (D + (-q - 1)))) (.int .i64 (D + (-q - 1)))).cells3
          refine bodyPost_ret (v := .tuple #[.agg #[.int .i64 (N + 1), .int .i64 (L + (D + (-q - 1))), .int .i64 (D + (-q - 1))], .int .i64 (L + (D + (-q - 1))), .int .i64 0]) (by simp [results, Tryd.results35, go_sem, q0, q1, q2]) rfl ⟨rfl, ?_, K2.put3 (by omega) _ _ _⟩
          refine Rr.put3 ?_ (show g ≠ w.heap.size + 1 by omega) NR.out _ _ _
          rw [← Nat.add_assoc]
          exact D2

        · have bk := rbit_ok wr g R bs (p + i) true m 1 hD HBS.out hm rfl
          have hd := (drop_cons hm).2.2
          have BK := Lib.hid bk
          have HJ : Hid (lead (4 - (i + 1)) ((unB bs).drop (p + (i + 1))) = some (k - (i + 1))) := by
            rw [← Nat.add_assoc, hd, show 4 - (i + 1) = 3 - i by omega, hj, show k - (i + 1) = j by omega]
            exact rfl
          have HKI : i + 1 ≤ k := by omega
          clear bk hl hm hd hj hkj hL HK
          go_wp2_with fail
          refine BK.out.mono ?_
          rintro e w2 ⟨rfl, hD2, hT2⟩
          have S2 := hS.touch hT2 (by omega) (by simp)
          have R2 := hRR.touch hT2 (by omega) (by simp)
          have K2 := hT.trans hT2 (.inl rfl)
          have hz3 := hT2.size
          go_wp2_with fail
          go_roundw
          case rel => exact ⟨i + 1, by go_num, HKI, hD2, K2, by omega, S2, R2, HJ⟩
          case measure => simp [intOf]; omega

      · obtain rfl : i = 4 := by omega
        obtain rfl : k = 4 := by omega
        clear hL HK
        have S2 := hS
        have R2 := hRR
        have K2 := hT
        have hz3 := hz2
        have D2 : Rr wr g R bs (p + (4 + (ends 4).length)) := hD
        obtain ⟨w2, rfl⟩ : ∃ w2, w2 = wr := ⟨_, rfl⟩
        clear hD hT hS hRR
        have A2 : Below w2.heap.size w2 (w2.alloc (.cells #[.int .i64 0, .int .i64 7, .int .i64 12, .int .i64 20, .int .i64 48] 3)) := (Below.refl _ w2).alloc (Nat.le_refl _) _
        have D3 := D2.below A2
        have S3 := S2.below A2
        have R3 := R2.below A2
        have K3 := K2.trans (Touch.of_below A2 g none) (.inl rfl)
        have hz4 := Nat.le_trans hz3 A2.size
        have wc := wids_cell w2 3 4 (by omega)
        have hp3 := D3.place
        clear D2 S2 R2 K2 A2
        go_wp2_with fail
        clear wc
        generalize w2.alloc (.cells #[.int .i64 0, .int .i64 7, .int .i64 12, .int .i64 20, .int .i64 48] 3) = w3 at *
        refine (rgetI_ok w3 g R bs _ (wid 4 : Nat) D3 HBS.out (by omega) (by omega) (by rw [Int.toNat_natCast]; omega)).mono ?_
        rw [Int.toNat_natCast, HV.out]
        rintro e w4 ⟨rfl, D4, hT4⟩
        have R4 := R3.touch hT4 (by omega) (by simp)
        have S4 := S3.touch hT4 (by omega) (by simp)
        have K4 := K3.trans hT4 (.inl rfl)
        have hz5 := Nat.le_trans hz4 hT4.size
        clear R3 S3 K3 D3 hT4
        go_wp2_with fail
        refine (HCL.out _).mono ?_
        rintro e w5 ⟨rfl, rfl⟩
        obtain ⟨c0, c1, c2⟩ := S4.cells3
        go_wp2_with fail
        have ws1 : IntKind.i64.wrap (N + 1) = N + 1 := by rw [IntKind.wrap_i64]; omega
        have ws2 : IntKind.i64.wrap (L + (D + (-q - 1))) = L + (D + (-q - 1)) := by rw [IntKind.wrap_i64]; omega
        refine wp_region_noPanic ?_
        refine wp_region_held_drew (S := fun W : World => W.cell? ⟨w.heap.size, 0, none⟩ = some (.int .i64 N) ∧ W.cell? ⟨w.heap.size, 1, none⟩ = some (.int .i64 L) ∧ W.cell? ⟨w.heap.size, 2, none⟩ = some (.int .i64 D)) (by kernel_rfl) ((S4.drewN 1).cells3) (fun hSt => ?_)
        have S5 : Blk w5.drew w.heap.size 39 #[.int .i64 N, .int .i64 L, .int .i64 D] := S4
        have R5 : Blk w5.drew (w.heap.size + 1) 39 #[.int .i64 0, .int .i64 0, .int .i64 0] := R4
        have D5 : Rr w5.drew g R bs _ := D4
        have K5 : Touch g none w w5.drew := K4.drewN 1
        clear R4 S4 D4 K4 c0 c1 c2
        generalize w5.drew = w6 at *
        refine wpAnyH_picks [0, 1, 2, 3, 4, 5, 6, 7, 8, 9, 10, 11, 12] 3 (by rfl) (by kernel_rfl) (by kernel_rfl) (by kernel_rfl) (fun _ _ _ _ _ h => h) (by assumption) ?_
        simp only [picks, List.drop_succ_cons, List.drop_zero, List.take_succ_cons, List.take_zero, List.cons_append, List.nil_append]
        repeat (first
          | (refine wpY_skip (by rfl) ?_; simp only [Act.put, List.setIfInBounds_toArray, List.set_cons_zero, List.set_cons_succ])
          | (refine wpY_want (v := ?_) (by rfl) (fun W hW => ?_) ?_; rotate_left; (obtain ⟨hW0, hW1, hW2⟩ := hW; go_simp; try with_reducible rfl); simp only [Act.put, List.setIfInBounds_toArray, List.set_cons_zero, List.set_cons_succ]))
        refine wpY_nil ?_
        obtain ⟨d0, d1, d2⟩ := R5.cells3
        obtain ⟨e0, e1, e2⟩ := R5.free3
        refine wpAnyH_one 13 2 (by rfl) (by rfl) (by kernel_rfl) (fun K hK => ?_)
        go_simp
        refine hK.out _ _ ((S5.farPut3 (g' := w.heap.size + 1) (by omega) _ _ _).cells3) (fun hSt => ?_)
        clear hK K
        try simp only [Act.put, List.setIfInBounds_toArray, List.set_cons_zero, List.set_cons_succ]
        refine wpAnyH_picks [14, 15] 0 (by rfl) (by kernel_rfl) (by kernel_rfl) (by kernel_rfl) (fun _ _ _ _ _ h => h) (by assumption) ?_
        simp only [picks, List.drop_succ_cons, List.drop_zero, List.take_succ_cons, List.take_zero, List.cons_append, List.nil_append]
        repeat (first
          | (refine wpY_skip (by rfl) ?_; simp only [Act.put, List.setIfInBounds_toArray, List.set_cons_zero, List.set_cons_succ])
          | (refine wpY_want (v := ?_) (by rfl) (fun W hW => ?_) ?_; rotate_left; (go_simp; try with_reducible rfl); simp only [Act.put, List.setIfInBounds_toArray, List.set_cons_zero, List.set_cons_succ]))
        refine wpY_nil ?_
        refine wpAnyH_done (by kernel_rfl) ?_ _
        refine NoPanic.normal ?_
        clear ws1 ws2
        go_wp2_with fail
        have D2 := D5
        have K2 := K5
        have R2 := R5
        obtain ⟨q0, q1, q2⟩ := (R2.put3 (.int .i64 (N + 1)) (.int .i64 (L + (D + (-q - 1)))) (.int .i64 (D + (-q - 1)))).cells3
        refine bodyPost_ret (v := .tuple #[.agg #[.int .i64 (N + 1), .int .i64 (L + (D + (-q - 1))), .int .i64 (D + (-q - 1))], .int .i64 (L + (D + (-q - 1))), .int .i64 0]) (by simp [results, Tryd.results35, go_sem, q0, q1, q2]) rfl ⟨rfl, ?_, K2.put3 (by omega) _ _ _⟩
        refine Rr.put3 ?_ (show g ≠ w.heap.size + 1 by omega) NR.out _ _ _
        rw [← Nat.add_assoc]
        exact D2

theorem rGet_no (w : World) (g : Nat) (R : Option Nat) (bs : List Int) (p : Nat) (N L D C : Int) (h : Rr w g R bs p) (hRl : ∀ k, R = some k → k < w.heap.size) (hbs : ∀ x ∈ bs, Byte x) (hC : (getS ((unB bs).drop p) N L D).1 = C) (hC0 : C ≠ 0) :
    Calls Tryd.prog 35 #[.pointer (some ⟨g, 0, none⟩), .agg #[.int .i64 N, .int .i64 L, .int .i64 D]] w fun e w' =>
      e = .returned (.tuple #[.agg #[.int .i64 0, .int .i64 0, .int .i64 0], .int .i64 0, .int .i64 C]) ∧ RrS w' g R bs ∧ Touch g none w w' := by
  rcases getS_wrong (by rw [hC]; exact hC0) with ⟨hr, he⟩ | ⟨hr, ⟨hN, ⟨hl, he⟩ | ⟨hl, hv, he⟩⟩ | ⟨hN, ⟨hz, he⟩ | ⟨z, c, hz, hd, he⟩⟩⟩
  · obtain rfl : C = 60 := by rw [← hC, he]
    exact rGet_n1 w g R bs p N L D h hRl hbs hr
  · obtain rfl : C = 50 := by rw [← hC, he]
    exact rGet_n2 w g R bs p N L D h hRl hbs hr hN hl
  · obtain rfl : C = 60 := by rw [← hC, he]
    exact rGet_n3 w g R bs p N L D h hRl hbs hr hN hl hv
  · rw [he] at hC
    rcases getZ_wrong hz with ⟨hk, hc⟩ | ⟨k, hk, ⟨hl, hc⟩ | ⟨hl, ho, hc⟩⟩
    · obtain rfl : C = 50 := by rw [← hC, ← hc]
      exact rGet_n4 w g R bs p N L D h hRl hbs hr hN hk
    · obtain rfl : C = 50 := by rw [← hC, ← hc]
      exact rGet_n5 w g R bs p N L D h hRl hbs k hr hN hk hl
    · obtain rfl : C = 60 := by rw [← hC, ← hc]
      exact rGet_n6 w g R bs p N L D h hRl hbs k _ hr hN hk hl rfl ho
  · obtain rfl : C = 60 := by rw [← hC, he]
    obtain ⟨k, hk, hl, hv, ho, hc⟩ := getZ_parts hz
    exact rGet_n7 w g R bs p N L D h hRl hbs k z hr hN hk hl hv ho hd
theorem rGet_ok (w : World) (g : Nat) (R : Option Nat) (bs : List Int) (p : Nat) (N L D t d : Int) (c : Nat) (h : Rr w g R bs p) (hRl : ∀ k, R = some k → k < w.heap.size) (hbs : ∀ x ∈ bs, Byte x) (hG : getS ((unB bs).drop p) N L D = (0, t, d, c)) :
    Calls Tryd.prog 35 #[.pointer (some ⟨g, 0, none⟩), .agg #[.int .i64 N, .int .i64 L, .int .i64 D]] w fun e w' =>
      e = .returned (.tuple #[.agg #[.int .i64 (N + 1), .int .i64 t, .int .i64 d], .int .i64 t, .int .i64 0]) ∧ Rr w' g R bs (p + c) ∧ Touch g none w w' := by
  obtain ⟨hr, hcs⟩ := getS_parts hG
  rcases hcs with ⟨rfl, hl, hv, rfl, rfl, rfl⟩ | ⟨hN, z, hz, hd1, hd2, rfl, rfl⟩
  · exact rGet_y0 w g R bs p 0 L D _ h hRl hbs hr rfl hl rfl (by omega)
  · obtain ⟨k, hk, hl, hv, ho, rfl⟩ := getZ_parts hz
    exact rGet_y1 w g R bs p N L D k z h hRl hbs hr hN hk hl hv ho hd1 hd2
end Go.Proofs.YtlgndfckmnninaaDoor
