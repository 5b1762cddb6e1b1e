/- The iterator of xor.values: what it yields; its walk. Conditions: as stated. -/
import Derived.Shelf.Abstract
import Derived.WalkKit
import Derived.OwnWalkIn
import Derived.TacticsInMore
import Derived.LoopNIn
import Derived.LoopIn
import Derived.Test.YtlgndfckmnninaaDoorYld
import Derived.Test.YtlgndfckmnninaaDoorXorB
import Derived.Test.YtlgndfckmnninaaDoorXorG
namespace Go.Proofs.YtlgndfckmnninaaDoor
open Go.RowKit
set_option linter.unusedVariables false

/-- What the iterator yields: values, each with code 0; at last a code, or none. -/
def valsX : Nat → List Bool → Int → Nat → Nat → Nat → List (Nat × Int)
  | 0, _, _, _, _, _ => []
  | k + 1, l, N, V, a, b => if (getX l N V a b).1 ≠ 0 then [(0, (getX l N V a b).1)] else ((getX l N V a b).2.1, 0) :: valsX k (l.drop (getX l N V a b).2.2.2.2) (N + 1) (getX l N V a b).2.1 (getX l N V a b).2.2.1 (getX l N V a b).2.2.2.1
theorem valsX_no {k : Nat} {l : List Bool} {N C : Int} {V a b : Nat} (h : (getX l N V a b).1 = C) (hC : C ≠ 0) : valsX (k + 1) l N V a b = [(0, C)] := by
  rw [valsX, h, if_pos hC]
theorem valsX_yes {k : Nat} {l : List Bool} {N : Int} {V a b v A B c : Nat} (h : getX l N V a b = (0, v, A, B, c)) : valsX (k + 1) l N V a b = (v, 0) :: valsX k (l.drop c) (N + 1) v A B := by
  rw [valsX, h]; simp

attribute [local go_sem] Oper.semAt_some
set_option maxRecDepth 100000 in
set_option maxHeartbeats 3200000 in
theorem vals_feeds (n : Nat) (hn : 1 ≤ n) (base g Bn Nn m : Nat) (R : Option Nat) (bs : List Int) (C : Nat → Prop) (w : World) (h : Rd w base g R bs 0) (hT : XorTab w) (hb : 2 ≤ base) (hbs : ∀ x ∈ bs, Byte x) (hRl : ∀ k, R = some k → k < w.heap.size)
    (hm : m ≤ 4096) (hBn : w.cell? ⟨Bn, 0, none⟩ = some (.pointer (some ⟨g, 0, none⟩))) (hNn : w.cell? ⟨Nn, 0, none⟩ = some (.int .i64 (m : Nat))) (hgB : g ≠ Bn) (hRB : ∀ k, R = some k → k ≠ Bn) (hCg : ¬ C g) (hCB : ¬ C Bn) (hCR : ∀ k, R = some k → ¬ C k) (hC1 : ¬ C 1) (hCw : ∀ k, C k → k < w.heap.size) :
    Feeds Fence.wide n Tryd.prog 86 #[.pointer (some ⟨Nn, 0, none⟩), .pointer (some ⟨Bn, 0, none⟩)] (fun x : Nat × Int => #[.int .u64 (x.1 : Nat), .int .i64 x.2]) g C (fun xs => xs = valsX m (unB bs) 0 0 64 0) (fun pre => pre <+: valsX m (unB bs) 0 0 64 0) 5000 w := by
  intro l J Jx W hW hl1 hl2 hJB hJM hJr hY h0
  refine callsIn_of_wp Tryd.func86 rfl trivial ?_ rfl
  simp only [Tryd.ntmps86, List.size_toArray, List.length_cons, List.length_nil, Nat.reduceAdd, Nat.reduceSub, Array.replicate_succ, Array.replicate_zero, List.push_toArray, List.append_toArray, List.nil_append, List.cons_append]
  gi_wp2
  refine ⟨trivial, ?_⟩
  refine (callsIn_wide.2 (begin_any _)).mono ?_
  rintro e u0 ⟨rfl, hB0⟩
  have A1 : Below u0.heap.size u0 (u0.alloc (.cells #[.int .i64 0, .int .u64 0, .int .i64 64, .int .i64 0] 48)) := (Below.refl _ u0).alloc (Nat.le_refl _) _
  have X1 := Blk.new u0 48 #[.int .i64 0, .int .u64 0, .int .i64 64, .int .i64 0]
  have K1 := below_more hB0 A1
  have D1 := (h.below hW).below K1
  have T1 := (hT.below hW).below K1
  have B1 := cell_keep K1 (cell_keep hW hBn)
  have N1 := cell_keep K1 (cell_keep hW hNn)
  have J1 := hJB _ _ _ _ h0 K1
  have hz0 := hB0.size
  gi_wp2
  obtain ⟨x, hx⟩ : ∃ x, u0.heap.size = x := ⟨_, rfl⟩
  rw [hx] at X1 hz0 ⊢
  generalize u0.alloc (.cells #[.int .i64 0, .int .u64 0, .int .i64 64, .int .i64 0] 48) = u1 at *
  clear hB0 A1 hx K1
  gi_loopw [10] (fun iv wr => ∃ (i p V a b : Nat) (r : Option Nat) (pre : List (Nat × Int)), iv = .int .i64 (i : Nat) ∧ J r pre wr ∧ i ≤ m ∧ pre.length = i ∧ Rd wr base g R bs p ∧ XorTab wr ∧ Blk wr x 48 #[.int .i64 (i : Nat), .int .u64 (V : Nat), .int .i64 (a : Nat), .int .i64 (b : Nat)] ∧ wr.cell? ⟨Bn, 0, none⟩ = some (.pointer (some ⟨g, 0, none⟩)) ∧ Hid (r ≠ some x) ∧ Hid (valsX m (unB bs) 0 0 64 0 = pre ++ valsX (m - i) ((unB bs).drop p) i V a b) ∧ Hid ((a = 64 ∧ b = 0 ∨ a + b ≤ 63) ∧ V < 18446744073709551616)) (fun iv _ => m - (intOf iv).toNat)
  case atStart => exact ⟨0, 0, 0, 64, 0, none, [], rfl, J1, by omega, rfl, D1, T1, X1, B1, (fun e => by cases e), by show _ = _; simp, ⟨.inl ⟨rfl, rfl⟩, by omega⟩⟩
  case round =>
    obtain ⟨i, p, V, a, b, r, pre, rfl, hj, hi, hlen, hD, hTT, hX, hB, hrx, hQ, HW⟩ := hrel
    clear X1 D1 T1 B1 J1 N1
    have hxl := hX.lt
    have hws := hW.size
    have hBl := World.block_lt_of_cell? w _ hBn
    have hgw := h.lt
    obtain ⟨c0, c1, c2, c3⟩ := hX.cells4
    have hgc : ∃ cs t, wr.heap[g]? = some (.cells cs t) := by
      obtain ⟨_, A, m, c, hg, _⟩ := id hD
      exact ⟨_, _, hg⟩
    rcases Nat.lt_or_ge i m with hlt | hge
    · obtain ⟨Cc, v, A, Bb, c, hG⟩ : ∃ C v A B c, getX ((unB bs).drop p) i V a b = (C, v, A, B, c) := ⟨_, _, _, _, _, rfl⟩
      obtain ⟨k, hk⟩ : ∃ k, m - i = k + 1 := ⟨m - i - 1, by omega⟩
      have hr : rightX i a b = true := rightX_mk ⟨by omega, by omega, by have := HW.out.1; omega⟩
      by_cases hC : Cc = 0
      · subst hC
        have GET := xGet_ok wr base g R bs p i V a b v A Bb c hD hTT hb hbs (fun k hk => by have := hRl k hk; omega) hr HW.out.2 hG
        obtain ⟨hv1, _, _, _, hv2⟩ := getX_take _ _ _ _ _ _ _ _ _ HW.out.1 HW.out.2 hG
        have HW2 : Hid ((A = 64 ∧ Bb = 0 ∨ A + Bb ≤ 63) ∧ v < 18446744073709551616) := ⟨hv2, hv1⟩
        clear hv1 hv2
        gi_wp2
        refine ⟨trivial, ?_⟩
        refine (callsIn_wide.2 GET).mono ?_
        clear GET
        rintro e u5 ⟨rfl, D5, T5⟩
        have J5 := hJM _ _ _ _ hj ⟨g, T5, hgc, .inl rfl⟩
        have hz5 := T5.size
        have X5 := hX.touch T5 (by omega) (by simp)
        have A5 : Below u5.heap.size u5 (u5.alloc (.cells #[.int .i64 (i + 1), .int .u64 (v : Nat), .int .i64 (A : Nat), .int .i64 (Bb : Nat)] 48)) := (Below.refl _ u5).alloc (Nat.le_refl _) _
        have Y6 := Blk.new u5 48 #[.int .i64 (i + 1), .int .u64 (v : Nat), .int .i64 (A : Nat), .int .i64 (Bb : Nat)]
        have J6 := hJB _ _ _ _ J5 A5
        obtain ⟨fn, tmps, assign, body, hy, hR⟩ := hY r pre (v, 0) _ J6 (by omega)
        dsimp only at hy
        gi_wp2
        refine hR.mono ?_
        have X6 := X5.below A5
        have D6 := D5.below A5
        have hne : some x ≠ r := fun e => hrx.out e.symm
        have hny : some u5.heap.size ≠ r := fun e => by have := (hJr _ _ _ J5 _ e.symm).2; omega
        rintro e W3 (⟨rfl, r', J7, hrr, hK⟩ | ⟨rfl, r', Jx7⟩)
        · have X7 : Blk W3 x 48 _ := (hK.block _ X6.lt (fun hc => by have := hCw _ hc; omega) (by omega) hne).trans X6
          have Y7 : Blk W3 u5.heap.size 48 _ := (hK.block _ Y6.lt (fun hc => by have := hCw _ hc; omega) (by omega) hny).trans Y6
          obtain ⟨x0, x1, x2, x3⟩ := X7.cells4
          obtain ⟨f0, f1, f2, f3⟩ := X7.free4
          obtain ⟨y0, y1, y2, y3⟩ := Y7.cells4
          have hrx' : some x ≠ r' := by
            rcases hrr with rfl | ⟨q, rfl, hq⟩
            · exact hne
            · intro e; injection e with e; simp at hq; omega
          have hny' : ∀ q, q < w.heap.size → some q ≠ r := fun q hq e => by have := (hJr _ _ _ hj _ e.symm).1; omega
          have kp : ∀ q, q < w.heap.size → ¬ C q → W3.heap[q]? = (u5.alloc (.cells #[.int .i64 (i + 1), .int .u64 (v : Nat), .int .i64 (A : Nat), .int .i64 (Bb : Nat)] 48)).heap[q]? := fun q hq hc => hK.block q (by simp; omega) hc (by omega) (hny' q hq)
          have D7 : Rd W3 base g R bs (p + c) := by
            obtain ⟨hb', AA, nn, cc, hgB, hrB, hAR, hne', hpp⟩ := D6
            refine ⟨hb', AA, nn, cc, (kp g hgw hCg).trans hgB, ⟨hrB.1, hrB.2.1, hrB.2.2.1, fun hn => ?_⟩, hAR, hne', hpp⟩
            obtain ⟨rr, off, e, hcl⟩ := hrB.2.2.2 hn
            have hRr : R = some rr := by rw [← hAR, e]; rfl
            exact ⟨rr, off, e, fun j hj => (World.cell?_of_block (kp rr (hRl rr hRr) (hCR rr hRr))).trans (hcl j hj)⟩
          have T7 : XorTab W3 := fun j hj => (World.cell?_of_block (kp 1 (by have := h.1; omega) hC1)).trans ((hTT.touch T5 (by have := h.1; omega) (by simp)).below A5 j hj)
          have B5 : u5.cell? ⟨Bn, 0, none⟩ = _ := (World.cell?_of_block (T5.block Bn (by omega) (by omega) (by simp))).trans hB
          have B7 : W3.cell? ⟨Bn, 0, none⟩ = _ := (World.cell?_of_block (kp Bn hBl hCB)).trans (cell_keep A5 B5)
          have hQ7 : valsX m (unB bs) 0 0 64 0 = (pre ++ [(v, 0)]) ++ valsX (m - (i + 1)) ((unB bs).drop (p + c)) ((i + 1 : Nat) : Int) v A Bb := by
            rw [hQ.out, hk, valsX_yes hG, List.drop_drop, show m - (i + 1) = k by omega, List.append_assoc]; push_cast; rfl
          gi_wp2
          go_roundw
          case rel => exact ⟨i + 1, p + c, v, A, Bb, r', pre ++ [(v, 0)], by go_num, hJM _ _ _ _ J7 ⟨x, touch_set4 _ _ _ _ _ _, ⟨_, _, X7⟩, .inr ⟨by omega, hrx'⟩⟩, by omega, by simp; omega, D7.set4 (by omega) (fun e => by have := hRl _ e; omega) _ _ _ _, T7.touch (touch_set4 _ x _ _ _ _) (by have := h.1; omega) (by simp), by push_cast; exact X7.set4 _ _ _ _, (World.cell?_of_block ((touch_set4 W3 x (.int .i64 (i + 1)) (.int .u64 (v : Nat)) (.int .i64 (A : Nat)) (.int .i64 (Bb : Nat))).block Bn (by have := hK.size; simp at this; omega) (by omega) (by simp))).trans B7, fun e => hrx' e.symm, hQ7, HW2.out⟩
          case measure => simp [intOf]; omega
        · gi_wp2
          refine bodyPost_ret (results_none rfl _ _ _) rfl ?_
          exact ⟨⟨_, rfl⟩, .inr ⟨r', pre ++ [(v, 0)], by rw [hQ.out, hk, valsX_yes hG]; exact ⟨_, by rw [List.append_assoc]; rfl⟩, Jx7⟩⟩
      · have hC5 : Cc = 50 := by
          rcases getX_code ((unB bs).drop p) i V a b with e | e
          · rw [hG] at e; exact absurd e hC
          · rw [hG] at e; exact congrArg Prod.fst e
        subst hC5
        have GET := xGet_no wr base g R bs p i V a b hD hTT hb hbs (fun k hk => by have := hRl k hk; omega) hr (by rw [hG]; exact hC)
        have hQ7 : valsX m (unB bs) 0 0 64 0 = pre ++ [(0, 50)] := by
          rw [hQ.out, hk, valsX_no (by rw [hG]) hC]
        gi_wp2
        refine ⟨trivial, ?_⟩
        refine (callsIn_wide.2 GET).mono ?_
        clear GET
        rintro e u5 ⟨rfl, D5, T5⟩
        have J5 := hJM _ _ _ _ hj ⟨g, T5, hgc, .inl rfl⟩
        have A5 : Below u5.heap.size u5 (u5.alloc (.cells #[.int .i64 0, .int .u64 0, .int .i64 0, .int .i64 0] 48)) := (Below.refl _ u5).alloc (Nat.le_refl _) _
        have Y6 := Blk.new u5 48 #[.int .i64 0, .int .u64 0, .int .i64 0, .int .i64 0]
        have J6 := hJB _ _ _ _ J5 A5
        obtain ⟨fn, tmps, assign, body, hy, hR⟩ := hY r pre (0, 50) _ J6 (by omega)
        dsimp only at hy
        simp only [Int.natCast_zero] at hy
        gi_wp2
        refine hR.mono ?_
        rintro e W3 (⟨rfl, r', J7, hrr, hK⟩ | ⟨rfl, r', Jx7⟩)
        · gi_wp2
          refine bodyPost_ret (results_none rfl _ _ _) rfl ?_
          exact ⟨⟨_, rfl⟩, .inl ⟨r', pre ++ [(0, 50)], hQ7.symm, J7⟩⟩
        · gi_wp2
          refine bodyPost_ret (results_none rfl _ _ _) rfl ?_
          exact ⟨⟨_, rfl⟩, .inr ⟨r', pre ++ [(0, 50)], by rw [hQ7]; exact List.prefix_refl _, Jx7⟩⟩
    · obtain rfl : i = m := by omega
      have hQ7 : valsX i (unB bs) 0 0 64 0 = pre := by rw [hQ.out, Nat.sub_self, valsX, List.append_nil]
      gi_wp2
      go_end0
      exact ⟨⟨_, rfl⟩, .inl ⟨r, hj⟩⟩
end Go.Proofs.YtlgndfckmnninaaDoor
