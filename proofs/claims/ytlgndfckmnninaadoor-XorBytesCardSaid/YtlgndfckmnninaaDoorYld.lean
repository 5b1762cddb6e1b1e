/- A range over a function whose iterator writes the block of a reader and cells of its own between two rounds. Conditions: as stated. -/
import Derived.RangeFuncNested
import Derived.RangeFuncBound
import Derived.RangeFuncCalls
import Derived.RangeFuncLeaves
import Derived.Test.YtlgndfckmnninaaDoorObjs
namespace Go.Proofs.YtlgndfckmnninaaDoor
open Go.RowKit
set_option linter.unusedVariables false

/-- What a round keeps: all but the blocks C, the row r and the loop's record l. -/
structure Kept (C : Nat → Prop) (l : Nat) (r : Option Nat) (A B : World) : Prop where
  size : A.heap.size ≤ B.heap.size
  block : ∀ k, k < A.heap.size → ¬ C k → k ≠ l → some k ≠ r → B.heap[k]? = A.heap[k]?
/-- A step of an iterator that reads a reader at block g: it writes g, or a block of its own (laid since the loop began at size n, and no row of the caller's). -/
def Moved (g n : Nat) (r : Option Nat) (A B : World) : Prop := ∃ x, Touch x none A B ∧ (∃ cs t, A.heap[x]? = some (.cells cs t)) ∧ (x = g ∨ (n ≤ x ∧ some x ≠ r))
/-- What an iterator promises whose rounds keep all but C and a row of the caller's. -/
def Feeds {α : Type} (F : Fence) (n : Nat) (P : Program) (gf : Nat) (lb : Array Value) (encs : α → Array Value) (g : Nat) (C : Nat → Prop) (S Sp : List α → Prop) (N : Nat) (w : World) : Prop :=
  ∀ (l : Nat) (J Jx : Option Nat → List α → World → Prop) (W : World), Below w.heap.size w W → w.heap.size ≤ l → l < W.heap.size →
    (∀ r pre A B, J r pre A → Below A.heap.size A B → J r pre B) →
    (∀ r pre A B, J r pre A → Moved g W.heap.size r A B → J r pre B) →
    (∀ r pre A, J r pre A → ∀ k, r = some k → W.heap.size ≤ k ∧ k < A.heap.size) →
    (∀ r pre x A, J r pre A → pre.length < N → YieldAt F (n - 1) P l (encs x) A fun e B =>
      (e = .returned (.bool true) ∧ ∃ r', J r' (pre ++ [x]) B ∧ (r' = r ∨ ∃ k, r' = some k ∧ A.heap.size ≤ k) ∧ Kept C l r A B) ∨ (e = .returned (.bool false) ∧ ∃ r', Jx r' (pre ++ [x]) B)) →
    J none [] W →
    CallsIn F n P gf (#[.func (.yield l) #[] #[]] ++ lb) W fun e B => (∃ v, e = .returned v) ∧ ((∃ r xs, S xs ∧ J r xs B) ∨ (∃ r pre, Sp pre ∧ Jx r pre B))

variable {F : Fence} {n : Nat} {P : Program}

/-- How a round's body may be left. -/
def leftBy {α : Type} (C : Nat → Prop) (D : Nat) (I : Option Nat → List α → World → Prop) (Ix : Code → List α → World → Prop) (r : Option Nat) (xs : List α) (A : World) : Exit → Act → World → Prop
  | .normal, _, B => ∃ r', I r' xs B ∧ (r' = r ∨ ∃ k, r' = some k ∧ A.heap.size ≤ k) ∧ A.heap.size ≤ B.heap.size ∧ ∀ k, k < A.heap.size → ¬ C k → some k ≠ r → B.heap[k]? = A.heap[k]?
  | .ret, _, B => Ix .ret xs B ∧ B.heap[D]? = A.heap[D]? ∧ B.heap[D + 1]? = A.heap[D + 1]?
  | .exit id, _, B => Ix (.exit id) xs B ∧ B.heap[D]? = A.heap[D]? ∧ B.heap[D + 1]? = A.heap[D + 1]?
  | _, _, _ => False

/-- The statement. -/
theorem range_by {α : Type} {gv : Operand} {ps : Array Tmp} {assign body : Code} {Q : Exit → Act → World → Prop} {a : Act} {w : World}
    (hro : F.round = none) (h1 : 1 ≤ n) {gf : Nat} {lb : Array Value} (hgv : a.eval gv = .func (.func gf) #[] lb) (hFg : F.fn gf) (eg : ∀ args w, (callFunc gf args).run P w = .ok (.enter gf args) w)
    {encs : α → Array Value} {g : Nat} {C : Nat → Prop} {S Sp : List α → Prop} {N : Nat} (hseq : Feeds F (n - 1) P gf lb encs g C S Sp N w)
    (hps : ∀ x, (encs x).size = ps.size) (hC : ∀ k, C k → k < w.heap.size) (hgw : g < w.heap.size)
    (I : Option Nat → List α → World → Prop) (Ix : Code → List α → World → Prop)
    (hB : ∀ r pre A B, I r pre A → Below A.heap.size A B → I r pre B)
    (hM : ∀ r pre A B, I r pre A → Moved g w.heap.size r A B → I r pre B)
    (hL : ∀ r pre A l o, I r pre A → w.heap.size ≤ l → some l ≠ r → I r pre (A.putObj l o))
    (hLx : ∀ c pre A l o, Ix c pre A → w.heap.size ≤ l → l ≤ w.heap.size + 1 → Ix c pre (A.putObj l o))
    (hr : ∀ r pre A, I r pre A → ∀ k, r = some k → w.heap.size + 2 ≤ k ∧ k < A.heap.size)
    (h0 : I none [] w) (a₁ : α → Act)
    (hassign : ∀ (l : Nat) (x : α) (W : World) (K : Act → World → Prop), K (a₁ x) W →
      assign.wpIn (F.inRound l) (n - 1 - 1) P (Exit.then K (fun _ _ _ => False)) { tmps := (ps.zip (encs x)).foldl (fun t (p, v) => t.setIfInBounds p v) a.tmps, defers := [] } W)
    (hbody : ∀ (l : Nat) (r : Option Nat) (pre : List α) (x : α) (W : World), w.heap.size + 2 ≤ W.heap.size → I r pre W → pre.length < N → body.wpIn (F.inRound l) (n - 1 - 1) P (leftBy C w.heap.size I Ix r (pre ++ [x]) W) (a₁ x) W)
    (hdone : ∀ (r : Option Nat) (xs : List α) (W : World), S xs → I r xs W → W.heap[w.heap.size]? = some (.deferred (some [])) → Q .normal { a with defers := { target := .collected w.heap.size, args := #[] } :: a.defers } W)
    (hstop : ∀ (c : Code) (pre : List α) (W : World), Sp pre → Ix c pre W → W.heap[w.heap.size]? = some (.deferred (some [])) → c.wpIn F n P Q { a with defers := { target := .collected w.heap.size, args := #[] } :: a.defers } W) :
    (Code.rangeFunc gv ps assign body).wpIn F n P Q a w := by
  refine wpIn_rangeFunc fun fn hfn => ?_
  rw [hro]
  obtain ⟨rec, hrec⟩ : ∃ rec : LoopState → Option Code → Loop, rec = fun st pe => { state := st, pending := pe, fn, tmps := a.tmps, params := ps, assign, body, defers := w.heap.size } := ⟨_, rfl⟩
  obtain ⟨D, hD⟩ : ∃ D, w.heap.size = D := ⟨_, rfl⟩
  have ent := run_enterLoop_outer (P := P) (w := w) fn a.tmps ps assign body
  obtain ⟨W1, hW1⟩ : ∃ W1, (w.alloc (.deferred (some []))).alloc (.loop (rec .ready none)) = W1 := ⟨_, rfl⟩
  have hs1 : W1.heap.size = D + 2 := by rw [← hW1]; simp [hD]
  have hb1 : Below w.heap.size w W1 := by rw [← hW1]; exact ((Below.refl _ w).alloc (Nat.le_refl _) _).alloc (by simp) _
  have hl1 : W1.heap[D + 1]? = some (.loop (rec .ready none)) := by
    rw [← hW1, ← hD]; have := World.alloc_heap_new (w.alloc (.deferred (some []))) (.loop (rec .ready none)); rwa [World.size_alloc] at this
  have hd1 : W1.heap[D]? = some (.deferred (some [])) := by
    rw [← hW1, ← hD]; exact (Below.heap_alloc _ _ _ (by simp)).trans (World.alloc_heap_new w _)
  refine ⟨D + 1, [{ target := .collected D, args := #[] }], W1, { target := .fn (.func gf) lb, args := #[.func (.yield (D + 1)) #[] #[]] }, W1, gf, #[.func (.yield (D + 1)) #[] #[]] ++ lb, W1, ?_, ?_, ?_, ?_, fun _ => h1, ?_⟩
  · rw [← hW1, hrec, ← hD]; exact ent
  · simp only [resolve, hgv]; simp [go_sem]
  · intro f' hf'; simp [Target.leads] at hf'; subst hf'; exact hFg
  · simp [invoke, go_sem, eg]
  rw [hD] at hM hL hLx hr hbody hdone hstop hC hgw
  clear ent
  have keep : ∀ (A B : World) (k : Nat) (o : Obj), Below A.heap.size A B → A.heap[k]? = some o → B.heap[k]? = some o := fun A B k o hb hk => (hb.block k (Array.getElem?_eq_some_iff.1 hk).1).trans hk
  have keepM : ∀ (A B : World) (k : Nat) (o : Obj) (r : Option Nat), Moved g W1.heap.size r A B → A.heap[k]? = some o → (k = D ∨ k = D + 1) → B.heap[k]? = some o := fun A B k o r hm hk hkk => by
    obtain ⟨x, ht, _, hx⟩ := hm
    exact (ht.block k (Array.getElem?_eq_some_iff.1 hk).1 (by omega) (by simp)).trans hk
  refine (hseq (D + 1)
    (fun r pre W => I r pre W ∧ W.heap[D + 1]? = some (.loop (rec .ready none)) ∧ W.heap[D]? = some (.deferred (some [])))
    (fun _ pre W => ∃ c, Ix c pre W ∧ W.heap[D + 1]? = some (.loop (rec .done (some c))) ∧ W.heap[D]? = some (.deferred (some [])))
    W1 hb1 (by omega) (by omega) ?_ ?_ ?_ ?_ ⟨hB _ _ _ _ h0 hb1, hl1, hd1⟩).mono ?_
  · rintro r pre A B ⟨hi, hl, hd⟩ hb
    exact ⟨hB _ _ _ _ hi hb, keep A B _ _ hb hl, keep A B _ _ hb hd⟩
  · rintro r pre A B ⟨hi, hl, hd⟩ hm
    refine ⟨hM _ _ _ _ hi ?_, keepM A B _ _ r hm hl (.inr rfl), keepM A B _ _ r hm hd (.inl rfl)⟩
    obtain ⟨x, ht, hc, hx⟩ := hm
    exact ⟨x, ht, hc, by rcases hx with h | ⟨h, h'⟩ <;> first | exact .inl h | exact .inr ⟨by omega, h'⟩⟩
  · rintro r pre A ⟨hi, _, _⟩ k hk
    have := hr r pre A hi k hk
    omega
  · rintro r pre x A ⟨hi, hl, hd⟩ hlen
    have hlt : D + 1 < A.heap.size := (Array.getElem?_eq_some_iff.1 hl).1
    have hrl : ∀ j, j ≤ 1 → some (D + j) ≠ r := fun j hj e => by have := (hr r pre A hi _ e.symm).1; omega
    have hy := run_yield (P := P) (args := encs x) hl (by rw [hrec]; exact hps x)
    rw [hrec] at hy
    refine ⟨fn, _, assign, body, hy, roundIn_of_wpIn hfn (hassign _ x A _ ⟨_, run_beginRound hl (by rw [hrec]), ?_⟩)⟩
    obtain ⟨A2, hA2⟩ : ∃ A2, A.putObj (D + 1) (.loop { rec .ready none with state := .busy }) = A2 := ⟨_, rfl⟩
    rw [hA2]
    have hz2 : A2.heap.size = A.heap.size := by rw [← hA2]; simp
    have hl2 : A2.heap[D + 1]? = some (.loop { rec .ready none with state := .busy }) := by rw [← hA2]; exact World.putObj_heap_same hlt
    have ho2 : ∀ k, k ≠ D + 1 → A2.heap[k]? = A.heap[k]? := fun k hk => by rw [← hA2]; exact World.putObj_heap_other hk
    have hi2 : I r pre A2 := by rw [← hA2]; exact hL _ _ _ _ _ hi (by omega) (hrl 1 (by omega))
    refine wpIn_mono (hbody _ r pre x A2 (by omega) hi2 hlen) ?_
    have nC : ∀ j, ¬ C (D + j) := fun j h => by have := hC _ h; omega
    rintro e a3 B hp
    cases e with
    | normal =>
      obtain ⟨r', hi3, hrr, hsz, hbk⟩ := hp
      have hl3 : B.heap[D + 1]? = some (.loop { rec .ready none with state := .busy }) := (hbk _ (by omega) (nC 1) (hrl 1 (by omega))).trans hl2
      have hd3 : B.heap[D]? = some (.deferred (some [])) := (hbk _ (by omega) (nC 0) (hrl 0 (by omega))).trans ((ho2 _ (by omega)).trans hd)
      have hend := run_endRound (P := P) none hl3
      have hr3 : some (D + 1) ≠ r' := fun e => by have := (hr r' _ B hi3 _ e.symm).1; omega
      refine ⟨_, _, hend, .inl ⟨rfl, r', ⟨hL _ _ _ _ _ hi3 (by omega) hr3, ?_, (World.putObj_heap_other (by omega)).trans hd3⟩, by rw [← hz2]; exact hrr, ⟨by simp; omega, fun k hk hc hkl hkr => ?_⟩⟩⟩
      · rw [hrec]; exact World.putObj_heap_same (Array.getElem?_eq_some_iff.1 hl3).1
      · exact (World.putObj_heap_other hkl).trans ((hbk k (by omega) hc hkr).trans (ho2 k hkl))
    | ret =>
      obtain ⟨hi3, hdd, hll⟩ := hp
      have hl3 := hll.trans hl2
      have hd3 : B.heap[D]? = some (.deferred (some [])) := hdd.trans ((ho2 _ (by omega)).trans hd)
      have hend := run_endRound (P := P) (some .ret) hl3
      refine ⟨_, _, hend, .inr ⟨rfl, none, .ret, hLx _ _ _ _ _ hi3 (by omega) (by omega), ?_, (World.putObj_heap_other (by omega)).trans hd3⟩⟩
      rw [hrec]; exact World.putObj_heap_same (Array.getElem?_eq_some_iff.1 hl3).1
    | exit id =>
      obtain ⟨hi3, hdd, hll⟩ := hp
      have hl3 := hll.trans hl2
      have hd3 : B.heap[D]? = some (.deferred (some [])) := hdd.trans ((ho2 _ (by omega)).trans hd)
      have hend := run_endRound (P := P) (some (.exit id)) hl3
      refine ⟨_, _, hend, .inr ⟨rfl, none, .exit id, hLx _ _ _ _ _ hi3 (by omega) (by omega), ?_, (World.putObj_heap_other (by omega)).trans hd3⟩⟩
      rw [hrec]; exact World.putObj_heap_same (Array.getElem?_eq_some_iff.1 hl3).1
    | goto t => exact hp.elim
    | panic ch => exact hp.elim
    | outgrown => exact hp.elim
  · rintro e W2 ⟨⟨v, rfl⟩, ⟨r, xs, hS, hi, hl, hd⟩ | ⟨r, pre, hSp, c, hi, hl, hd⟩⟩
    · have hend := run_endLoop (P := P) hl (by rw [hrec]; simp)
      have hr3 : some (D + 1) ≠ r := fun e => by have := (hr r _ W2 hi _ e.symm).1; omega
      refine ⟨none, _, by rw [hend, hrec], ?_⟩
      exact hdone r xs _ hS (hL _ _ _ _ _ hi (by omega) hr3) ((World.putObj_heap_other (by omega)).trans hd)
    · have hend := run_endLoop (P := P) hl (by rw [hrec]; simp)
      refine ⟨some c, _, by rw [hend, hrec], ?_⟩
      exact hstop c pre _ hSp (hLx _ _ _ _ _ hi (by omega) (by omega)) ((World.putObj_heap_other (by omega)).trans hd)
end Go.Proofs.YtlgndfckmnninaaDoor
