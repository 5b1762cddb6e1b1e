/- The iterator of stamp.times: what it yields; its walk. Conditions: as stated. -/
import Derived.Shelf.Abstract
import Derived.WalkKit
import Derived.OwnWalkIn
import Derived.TacticsInMore
import Derived.LoopNIn
import Derived.LoopIn
import Derived.Test.YtlgndfckmnninaaDoorYld
import Derived.Test.YtlgndfckmnninaaDoorStampF
namespace Go.Proofs.YtlgndfckmnninaaDoor
open Go.RowKit
set_option linter.unusedVariables false

/-- What the iterator yields: times, each with code 0; at last a code. -/
def timesS : Nat → List Bool → Int → Int → Int → List (Int × Int)
  | 0, _, _, _, _ => []
  | k + 1, l, N, L, D => if (getS l N L D).1 ≠ 0 then [(0, (getS l N L D).1)] else ((getS l N L D).2.1, 0) :: timesS k (l.drop (getS l N L D).2.2.2) (N + 1) (getS l N L D).2.1 (getS l N L D).2.2.1
theorem timesS_no {k : Nat} {l : List Bool} {N L D C : Int} (h : (getS l N L D).1 = C) (hC : C ≠ 0) : timesS (k + 1) l N L D = [(0, C)] := by
  rw [timesS, h, if_pos hC]
theorem timesS_yes {k : Nat} {l : List Bool} {N L D t d : Int} {c : Nat} (h : getS l N L D = (0, t, d, c)) : timesS (k + 1) l N L D = (t, 0) :: timesS k (l.drop c) (N + 1) t d := by
  rw [timesS, h]; simp
theorem getS_far {l : List Bool} {N L D : Int} (h : 4096 < N) : (getS l N L D).1 ≠ 0 := fun h0 => by
  obtain ⟨C, t, d, c, hG⟩ : ∃ C t d c, getS l N L D = (C, t, d, c) := ⟨_, _, _, _, rfl⟩
  rw [hG] at h0
  simp only at h0
  subst h0
  obtain ⟨hr, _⟩ := getS_take _ _ _ _ _ _ _ hG
  have := rightS_of hr
  omega

attribute [local go_sem] Oper.semAt_some
/-- The count in the state at block x. -/
def countAt (x : Nat) (W : World) : Nat := match W.cell? ⟨x, 0, none⟩ with | some (.int _ N) => (5000 - N).toNat | _ => 0
set_option maxRecDepth 100000 in
set_option maxHeartbeats 3200000 in
theorem times_feeds (n : Nat) (hn : 1 ≤ n) (base g Bn : Nat) (R : Option Nat) (bs : List Int) (C : Nat → Prop) (w : World) (h : Rd w base g R bs 0) (hT : StampTab w) (hb : 1 ≤ base) (hbs : ∀ x ∈ bs, Byte x) (hRl : ∀ k, R = some k → k < w.heap.size)
    (hBn : w.cell? ⟨Bn, 0, none⟩ = some (.pointer (some ⟨g, 0, none⟩))) (hgB : g ≠ Bn) (hRB : ∀ k, R = some k → k ≠ Bn) (hCg : ¬ C g) (hCB : ¬ C Bn) (hCR : ∀ k, R = some k → ¬ C k) (hC0 : ¬ C 0) (hCw : ∀ k, C k → k < w.heap.size) :
    Feeds Fence.wide n Tryd.prog 82 #[.pointer (some ⟨Bn, 0, none⟩)] (fun x : Int × Int => #[.int .i64 x.1, .int .i64 x.2]) g C (fun xs => xs = timesS 5000 (unB bs) 0 0 0) (fun pre => pre <+: timesS 5000 (unB bs) 0 0 0) 5000 w := by
  intro l J Jx W hW hl1 hl2 hJB hJM hJr hY h0
  refine callsIn_of_wp Tryd.func82 rfl trivial ?_ rfl
  simp only [Tryd.ntmps82, List.size_toArray, List.length_cons, List.length_nil, Nat.reduceAdd, Nat.reduceSub, Array.replicate_succ, Array.replicate_zero, List.push_toArray, List.append_toArray, List.nil_append, List.cons_append]
  gi_wp2
  have A1 : Below W.heap.size W (W.alloc (.cells #[.int .i64 0, .int .i64 0, .int .i64 0] 27)) := (Below.refl _ W).alloc (Nat.le_refl _) _
  have X1 := Blk.new W 27 #[.int .i64 0, .int .i64 0, .int .i64 0]
  have D1 := (h.below hW).below A1
  have T1 := (hT.below hW).below A1
  have B1 := cell_keep A1 (cell_keep hW hBn)
  have J1 := hJB _ _ _ _ h0 A1
  gi_loopw [] (fun wr => ∃ (i p : Nat) (L D : Int) (r : Option Nat) (pre : List (Int × Int)), J r pre wr ∧ i ≤ 4097 ∧ pre.length = i ∧ Rd wr base g R bs p ∧ StampTab wr ∧ Blk wr W.heap.size 27 #[.int .i64 i, .int .i64 L, .int .i64 D] ∧ wr.cell? ⟨Bn, 0, none⟩ = some (.pointer (some ⟨g, 0, none⟩)) ∧ Hid (r ≠ some W.heap.size) ∧ Hid (timesS 5000 (unB bs) 0 0 0 = pre ++ timesS (5000 - i) ((unB bs).drop p) i L D)) (fun wr => countAt W.heap.size wr)
  case atStart => exact ⟨0, 0, 0, 0, none, [], J1, by omega, rfl, D1, T1, X1, B1, (fun e => by cases e), by show _ = _; simp⟩
  case round =>
    obtain ⟨i, p, L, D, r, pre, hj, hi, hlen, hD, hTT, hX, hB, hrx, hQ⟩ := hrel
    have hxl := hX.lt
    have hws := hW.size
    have hBl := World.block_lt_of_cell? w _ hBn
    obtain ⟨c0, c1, c2⟩ := hX.cells3
    have hgc : ∃ cs t, wr.heap[g]? = some (.cells cs t) := by
      obtain ⟨_, A, m, c, hg, _⟩ := id hD
      exact ⟨_, _, hg⟩
    obtain ⟨Cc, t, d, c, hG⟩ : ∃ C t d c, getS ((unB bs).drop p) i L D = (C, t, d, c) := ⟨_, _, _, _, rfl⟩
    obtain ⟨k, hk⟩ : ∃ k, 5000 - i = k + 1 := ⟨5000 - i - 1, by omega⟩
    by_cases hC : Cc = 0
    · subst hC
      have GET := sGet_ok wr base g R bs p i L D t d c hD (fun k hk => by have := hRl k hk; omega) hTT hb hbs hG
      gi_wp2
      refine ⟨trivial, ?_⟩
      refine (callsIn_wide.2 GET).mono ?_
      clear GET
      rintro e u5 ⟨rfl, D5, T5⟩
      have J5 := hJM _ _ _ _ hj ⟨g, T5, hgc, .inl rfl⟩
      have hgw := h.lt
      have X5 := hX.touch T5 (by omega) (by simp)
      have A5 : Below u5.heap.size u5 (u5.alloc (.cells #[.int .i64 (i + 1), .int .i64 t, .int .i64 d] 27)) := (Below.refl _ u5).alloc (Nat.le_refl _) _
      have Y6 := Blk.new u5 27 #[.int .i64 (i + 1), .int .i64 t, .int .i64 d]
      have J6 := hJB _ _ _ _ J5 A5
      obtain ⟨fn, tmps, assign, body, hy, hR⟩ := hY r pre (t, 0) _ J6 (by omega)
      dsimp only at hy
      gi_wp2
      refine hR.mono ?_
      have X6 := X5.below A5
      have D6 := D5.below A5
      have hne : some W.heap.size ≠ r := fun e => hrx.out e.symm
      have hny : some u5.heap.size ≠ r := fun e => by have := (hJr _ _ _ J5 _ e.symm).2; omega
      rintro e W3 (⟨rfl, r', J7, hrr, hK⟩ | ⟨rfl, r', Jx7⟩)
      · have X7 : Blk W3 W.heap.size 27 _ := (hK.block _ X6.lt (fun hc => by have := hCw _ hc; omega) (by omega) hne).trans X6
        have Y7 : Blk W3 u5.heap.size 27 _ := (hK.block _ Y6.lt (fun hc => by have := hCw _ hc; have := T5.size; omega) (by have := T5.size; omega) hny).trans Y6
        obtain ⟨x0, x1, x2⟩ := X7.cells3
        obtain ⟨f0, f1, f2⟩ := X7.free3
        obtain ⟨y0, y1, y2⟩ := Y7.cells3
        have hrs := (rightS_of (getS_take _ _ _ _ _ _ _ hG).1)
        have hz5 := T5.size
        have hrx' : some W.heap.size ≠ r' := by
          rcases hrr with rfl | ⟨q, rfl, hq⟩
          · exact hne
          · intro e; injection e with e; simp at hq; omega
        have hny' : ∀ q, q < w.heap.size → some q ≠ r := fun q hq e => by have := (hJr _ _ _ hj _ e.symm).1; omega
        have kp : ∀ q, q < w.heap.size → ¬ C q → W3.heap[q]? = (u5.alloc (.cells #[.int .i64 (i + 1), .int .i64 t, .int .i64 d] 27)).heap[q]? := fun q hq hc => hK.block q (by simp; omega) hc (by omega) (hny' q hq)
        have D7 : Rd W3 base g R bs (p + c) := by
          obtain ⟨hb', AA, nn, cc, hgB, hrB, hAR, hne', hpp⟩ := D6
          refine ⟨hb', AA, nn, cc, (kp g hgw hCg).trans hgB, ⟨hrB.1, hrB.2.1, hrB.2.2.1, fun hn => ?_⟩, hAR, hne', hpp⟩
          obtain ⟨rr, off, e, hcl⟩ := hrB.2.2.2 hn
          have hRr : R = some rr := by rw [← hAR, e]; rfl
          exact ⟨rr, off, e, fun j hj => (World.cell?_of_block (kp rr (hRl rr hRr) (hCR rr hRr))).trans (hcl j hj)⟩
        have T7 : StampTab W3 := fun j hj => (World.cell?_of_block (kp 0 (by have := h.1; omega) hC0)).trans ((hTT.touch T5 (by have := h.1; omega) (by simp)).below A5 j hj)
        have B5 : u5.cell? ⟨Bn, 0, none⟩ = _ := (World.cell?_of_block (T5.block Bn (by omega) (by omega) (by simp))).trans hB
        have B7 : W3.cell? ⟨Bn, 0, none⟩ = _ := (World.cell?_of_block (kp Bn hBl hCB)).trans (cell_keep A5 B5)
        have hQ7 : timesS 5000 (unB bs) 0 0 0 = (pre ++ [(t, 0)]) ++ timesS (5000 - (i + 1)) ((unB bs).drop (p + c)) ((i + 1 : Nat) : Int) t d := by
          rw [hQ.out, hk, timesS_yes hG, List.drop_drop, show 5000 - (i + 1) = k by omega, List.append_assoc]; push_cast; rfl
        gi_wp2
        go_roundw
        case rel => exact ⟨i + 1, p + c, t, d, r', pre ++ [(t, 0)], hJM _ _ _ _ J7 ⟨W.heap.size, (((Touch.refl W.heap.size none _).set_ 0 _).set_ 1 _).set_ 2 _, ⟨_, _, X7⟩, .inr ⟨Nat.le_refl _, hrx'⟩⟩, by omega, by simp; omega, D7.put3 (by omega) (fun e => by have := hRl _ e; omega) _ _ _, T7.touch ((((Touch.refl W.heap.size none _).set_ 0 _).set_ 1 _).set_ 2 _) (by have := h.1; omega) (by simp), by push_cast; exact X7.put3 _ _ _, (World.cell?_of_block (((((Touch.refl W.heap.size none W3).set_ 0 (.int .i64 (i + 1))).set_ 1 (.int .i64 t)).set_ 2 (.int .i64 d)).block Bn (by have := hK.size; simp at this; omega) (by omega) (by simp))).trans B7, fun e => hrx' e.symm, hQ7⟩
        case measure =>
          have z7 := (X7.put3 (.int .i64 (i + 1)) (.int .i64 t) (.int .i64 d)).cells3.1
          unfold put3 at z7
          simp only [countAt, z7, c0]
          omega
      · gi_wp2
        refine bodyPost_ret (results_none rfl _ _ _) rfl ?_
        exact ⟨⟨_, rfl⟩, .inr ⟨r', pre ++ [(t, 0)], by rw [hQ.out, hk, timesS_yes hG]; exact ⟨_, by rw [List.append_assoc]; rfl⟩, Jx7⟩⟩
    · have GET := sGet_no wr base g R bs p i L D Cc hD (fun k hk => by have := hRl k hk; omega) hTT hb hbs (by rw [hG]) hC
      have hC1 : (Cc != 0) = true := by simp [hC]
      have hC2 : (Cc == 0) = false := beq_eq_false_iff_ne.2 hC
      have hQ7 : timesS 5000 (unB bs) 0 0 0 = pre ++ [(0, Cc)] := by
        rw [hQ.out, hk, timesS_no (by rw [hG]) hC]
      gi_wp2
      refine ⟨trivial, ?_⟩
      refine (callsIn_wide.2 GET).mono ?_
      clear GET
      rintro e u5 ⟨rfl, D5, T5⟩
      have J5 := hJM _ _ _ _ hj ⟨g, T5, hgc, .inl rfl⟩
      have A5 : Below u5.heap.size u5 (u5.alloc (.cells #[.int .i64 0, .int .i64 0, .int .i64 0] 27)) := (Below.refl _ u5).alloc (Nat.le_refl _) _
      have Y6 := Blk.new u5 27 #[.int .i64 0, .int .i64 0, .int .i64 0]
      have J6 := hJB _ _ _ _ J5 A5
      obtain ⟨fn, tmps, assign, body, hy, hR⟩ := hY r pre (0, Cc) _ J6 (by omega)
      dsimp only at hy
      gi_wp2
      refine hR.mono ?_
      rintro e W3 (⟨rfl, r', J7, hrr, hK⟩ | ⟨rfl, r', Jx7⟩)
      · gi_wp2
        refine bodyPost_ret (results_none rfl _ _ _) rfl ?_
        exact ⟨⟨_, rfl⟩, .inl ⟨r', pre ++ [(0, Cc)], hQ7.symm, J7⟩⟩
      · gi_wp2
        refine bodyPost_ret (results_none rfl _ _ _) rfl ?_
        exact ⟨⟨_, rfl⟩, .inr ⟨r', pre ++ [(0, Cc)], by rw [hQ7]; exact List.prefix_refl _, Jx7⟩⟩
end Go.Proofs.YtlgndfckmnninaaDoor
