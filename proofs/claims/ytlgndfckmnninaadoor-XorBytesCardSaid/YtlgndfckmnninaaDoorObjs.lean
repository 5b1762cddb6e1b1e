/- Words on objects in memory: a block that is known whole; a writer of bits; a reader of bits; what a call on one of them leaves alone. Conditions: each lemma's own. -/
import Derived.Test.YtlgndfckmnninaaDoorWords
import Derived.Test.YtlgndfckmnninaaDoorPlain
import Derived.Test.YtlgndfckmnninaaDoorProg
import Derived.WalkKit
import Derived.KernelRfl
import Derived.Deep.OwnRows
import Derived.Laws.Rows
namespace Go.Proofs.YtlgndfckmnninaaDoor
open Go.RowKit

theorem Tryd.info5 : (Tryd.prog.info? 5).map (fun i => (i.zero, i.size, i.bytes)) = some (some (.int .u8 0), 1, 1) := by kernel_rfl
theorem Tryd.info4 : (Tryd.prog.info? 4).map (fun i => (i.zero, i.size, i.bytes)) = some (some (.bool false), 1, 1) := by kernel_rfl

/-- Block g is just these cells. -/
def Blk (w : World) (g : Nat) (t : TypeId) (cs : Array Value) : Prop := w.heap[g]? = some (.cells cs t (0, 0))

section
variable {w w' : World} {g : Nat} {t : TypeId} {cs : Array Value}
theorem Blk.lt (h : Blk w g t cs) : g < w.heap.size := by
  rcases Nat.lt_or_ge g w.heap.size with hlt | hge
  · exact hlt
  · unfold Blk at h; rw [Array.getElem?_eq_none hge] at h; cases h
theorem Blk.cell (h : Blk w g t cs) (i : Nat) : w.cell? ⟨g, i, none⟩ = cs[i]? := cell_of_row w g i cs t (0, 0) h
theorem Blk.frozen (h : Blk w g t cs) (i : Nat) : w.frozen? ⟨g, i, none⟩ = false := by
  unfold Blk at h
  simp [World.frozen?, h]
theorem Blk.new (w : World) (t : TypeId) (cs : Array Value) : Blk (w.alloc (.cells cs t)) w.heap.size t cs := heap_alloc_new w _
theorem Blk.drewN (h : Blk w g t cs) (n : Nat) : Blk (w.drewN n) g t cs := h
theorem Blk.alloc (h : Blk w g t cs) (o : Obj) : Blk (w.alloc o) g t cs := (Below.heap_alloc w o g h.lt).trans h
theorem Blk.set_ (h : Blk w g t cs) (i : Nat) (u : Value) : Blk (w.setCell ⟨g, i, none⟩ u) g t (cs.setIfInBounds i u) := by
  unfold Blk at h ⊢
  simp [World.setCell, Array.getElem?_modify, h]
theorem Blk.far (h : Blk w g t cs) {p : Addr} (hp : g ≠ p.block) (u : Value) : Blk (w.setCell p u) g t cs := (Below.heap_setCell w p u g hp).trans h
theorem Blk.grown {row : Option Nat} (h : Blk w g t cs) (hb : w.grownBy w' row) (hg : some g ≠ row) : Blk w' g t cs := (hb.block g h.lt hg).trans h
theorem Blk.below (h : Blk w g t cs) (hb : Below w.heap.size w w') : Blk w' g t cs := (hb.block g h.lt).trans h
theorem Blk.ne_ {g' : Nat} {t' : TypeId} {cs' : Array Value} (h : Blk w g t cs) (h' : Blk w g' t' cs') (hne : t ≠ t') : g ≠ g' := by
  rintro rfl
  unfold Blk at h h'
  rw [h] at h'
  injection h' with h'
  injection h' with _ ht
  exact hne ht
theorem own_blk_ne {base : Nat} {e : TypeId} {size n : Nat} {v : Value} {xs : List Value} (h : w.ownsRow base e size v n xs) (hg : Blk w g t cs) (hne : e ≠ t) : v.ownBlock ≠ some g := by
  rcases h.2 with ⟨rfl, _⟩ | ⟨g', cap, cur, rfl, _, hh, _⟩
  · simp [Value.ownBlock]
  · intro he
    have : g' = g := by simpa [Value.ownBlock] using he
    subst this
    exact Blk.ne_ (t := e) hh hg hne rfl
end

/-- Of what was there only block g and the row B may have turned. -/
structure Touch (g : Nat) (B : Option Nat) (w w' : World) : Prop where
  os : w'.os = w.os
  tape : w'.tape = w.tape
  output : w'.output = w.output
  size : w.heap.size ≤ w'.heap.size
  block : ∀ k, k < w.heap.size → k ≠ g → some k ≠ B → w'.heap[k]? = w.heap[k]?

section
variable {g : Nat} {B B' : Option Nat} {w w' a b c : World}
theorem Touch.refl (g : Nat) (B : Option Nat) (w : World) : Touch g B w w := ⟨rfl, rfl, rfl, Nat.le_refl _, fun _ _ _ _ => rfl⟩
theorem Touch.any (h : Touch g none w w') (B : Option Nat) : Touch g B w w' := ⟨h.os, h.tape, h.output, h.size, fun k hk hg _ => h.block k hk hg (by simp)⟩
theorem Touch.of_below (h : Below w.heap.size w w') (g : Nat) (B : Option Nat) : Touch g B w w' := ⟨h.os, h.tape, h.output, h.size, fun k hk _ _ => h.block k hk⟩
theorem Touch.below (h : Touch g B w w') {base : Nat} (hb : base ≤ w.heap.size) (hg : base ≤ g) (hB : ∀ k, B = some k → base ≤ k) : Below base w w' :=
  ⟨h.os, h.tape, h.output, h.size, fun k hk => h.block k (by omega) (by omega) (fun e => by have := hB k e.symm; omega)⟩
theorem Touch.trans (h : Touch g B a b) (k : Touch g B' b c) (hB : B' = B ∨ ∃ x, B' = some x ∧ a.heap.size ≤ x) : Touch g B a c :=
  ⟨k.os.trans h.os, k.tape.trans h.tape, k.output.trans h.output, Nat.le_trans h.size k.size, fun i hi hg hne => (k.block i (Nat.lt_of_lt_of_le hi h.size) hg (by
    rcases hB with rfl | ⟨x, rfl, hx⟩
    · exact hne
    · intro e; injection e with e; omega)).trans (h.block i hi hg hne)⟩
theorem Touch.drewN (h : Touch g B w w') (n : Nat) : Touch g B w (w'.drewN n) := ⟨h.os, h.tape, h.output, h.size, h.block⟩
theorem Touch.of_drewN {n : Nat} (h : Touch g B (w.drewN n) w') : Touch g B w w' := ⟨h.os, h.tape, h.output, h.size, h.block⟩
theorem Touch.of_drew (h : Touch g B w.drew w') : Touch g B w w' := ⟨h.os, h.tape, h.output, h.size, h.block⟩
theorem Touch.set_ (h : Touch g B a w) (i : Nat) (u : Value) : Touch g B a (w.setCell ⟨g, i, none⟩ u) :=
  ⟨h.os, h.tape, h.output, by simpa [World.setCell] using h.size, fun k hk hg hne => (Below.heap_setCell w _ u k (by simpa using hg)).trans (h.block k hk hg hne)⟩
theorem Touch.setRow (h : Touch g B a w) {r : Nat} (hr : B = some r ∨ a.heap.size ≤ r) (i : Nat) (u : Value) : Touch g B a (w.setCell ⟨r, i, none⟩ u) :=
  ⟨h.os, h.tape, h.output, by simpa [World.setCell] using h.size, fun k hk hg hne => (Below.heap_setCell w ⟨r, i, none⟩ u k (by
    intro e
    have e' : k = r := e
    rcases hr with rfl | hr
    · exact hne (by rw [e'])
    · omega)).trans (h.block k hk hg hne)⟩
theorem Touch.alloc (h : Touch g B a w) (o : Obj) : Touch g B a (w.alloc o) :=
  ⟨h.os, h.tape, h.output, Nat.le_trans h.size (by simp), fun k hk hg hne => (Below.heap_alloc w o k (Nat.lt_of_lt_of_le hk h.size)).trans (h.block k hk hg hne)⟩
theorem Touch.grown (h : Touch g B a w) {row : Option Nat} (hg : w.grownBy w' row) (hr : row = B ∨ row = none ∨ ∃ x, row = some x ∧ a.heap.size ≤ x) : Touch g B a w' :=
  ⟨hg.os.trans h.os, hg.tape.trans h.tape, hg.output.trans h.output, Nat.le_trans h.size hg.size, fun k hk hgk hne => (hg.block k (Nat.lt_of_lt_of_le hk h.size) (by
    rcases hr with rfl | rfl | ⟨x, rfl, hx⟩
    · exact hne
    · simp
    · intro e; injection e with e; omega)).trans (h.block k hk hgk hne)⟩
/-- Another block is as it was. -/
theorem Blk.touch {g' : Nat} {t : TypeId} {cs : Array Value} (h : Blk w g' t cs) (ht : Touch g B w w') (h1 : g' ≠ g) (h2 : some g' ≠ B) : Blk w' g' t cs := (ht.block g' h.lt h1 h2).trans h
/-- Another row is as it was. -/
theorem own_touch {base : Nat} {e : TypeId} {size n : Nat} {v : Value} {xs : List Value} (h : w.ownsRow base e size v n xs) (ht : Touch g B w w') (h1 : v.ownBlock ≠ some g) (h2 : v.ownBlock = none ∨ v.ownBlock ≠ B) : w'.ownsRow base e size v n xs := by
  refine ⟨h.1, ?_⟩
  rcases h.2 with h0 | ⟨r, cap, cur, rfl, hb, hh, rest⟩
  · exact .inl h0
  · refine .inr ⟨r, cap, cur, rfl, hb, ?_, rest⟩
    have hlt : r < w.heap.size := Blk.lt (t := e) hh
    refine (ht.block r hlt (fun e => h1 (by simp [Value.ownBlock, e])) ?_).trans hh
    rcases h2 with h2 | h2
    · simp [Value.ownBlock] at h2
    · exact fun e => h2 (by simpa [Value.ownBlock] using e)
/-- Bytes that are read, in another block, are as they were. -/
theorem RB.touch {A : Option Addr} {n c : Nat} {xs : List Int} (h : RB w A n c xs) (ht : Touch g B w w') (hA : ∀ x, A = some x → x.block ≠ g ∧ some x.block ≠ B) : RB w' A n c xs :=
  ⟨h.1, h.2.1, h.2.2.1, fun hn => by
    obtain ⟨r, off, e, hc⟩ := h.2.2.2 hn
    obtain ⟨h1, h2⟩ := hA _ e
    exact ⟨r, off, e, fun j hj => by
      have hcj := hc j hj
      exact (World.cell?_of_block (ht.block r (World.block_lt_of_cell? w _ hcj) h1 h2)).trans hcj⟩⟩
end

/-- A writer of bits: block g; B: the block that holds its bytes, if there is one. -/
def Wr (w : World) (base g : Nat) (B : Option Nat) (L : List Bool) : Prop :=
  base ≤ g ∧ ∃ v, Blk w g 98 #[v, .int .i64 (L.length : Int), .bool true] ∧ w.ownsRow base 5 1 v (pack L).length (bys (pack L)) ∧ v.ownBlock = B

section
variable {w w' : World} {base g g' : Nat} {B B' : Option Nat} {L : List Bool}
theorem Wr.touch (h : Wr w base g B L) (ht : Touch g' B' w w') (h1 : g ≠ g') (h2 : some g ≠ B') (h3 : B ≠ some g') (h4 : B = none ∨ B ≠ B') : Wr w' base g B L := by
  obtain ⟨hb, v, hg, ho, rfl⟩ := h
  exact ⟨hb, v, hg.touch ht h1 h2, own_touch ho ht h3 h4, rfl⟩
theorem Wr.below (h : Wr w base g B L) (hb : Below w.heap.size w w') : Wr w' base g B L := by
  obtain ⟨h1, v, hg, ho, rfl⟩ := h
  exact ⟨h1, v, hg.below hb, ho.kept (row := none) ⟨hb.os, hb.tape, hb.output, hb.size, fun i hi _ => hb.block i hi⟩ (by cases v.ownBlock <;> simp), rfl⟩
theorem Wr.drewN (h : Wr w base g B L) (n : Nat) : Wr (w.drewN n) base g B L := h
theorem Wr.row (h : Wr w base g B L) : ∀ k, B = some k → base ≤ k ∧ k < w.heap.size := by
  obtain ⟨_, v, _, ho, rfl⟩ := h
  exact fun k hk => ho.lt k hk
theorem Wr.lt (h : Wr w base g B L) : g < w.heap.size := by
  obtain ⟨_, v, hg, _, _⟩ := h
  exact hg.lt
theorem Wr.ne (h : Wr w base g B L) : B ≠ some g := by
  obtain ⟨_, v, hg, ho, rfl⟩ := h
  exact own_blk_ne ho hg (by decide)
end
end Go.Proofs.YtlgndfckmnninaaDoor
