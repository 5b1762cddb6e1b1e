/- stamp.Read: what it answers; its walk. Conditions: as stated. -/
import Derived.Maps.OwnIn
import Derived.Test.YtlgndfckmnninaaDoorStampJ
namespace Go.Proofs.YtlgndfckmnninaaDoor
open Go.RowKit Go.Shelf
set_option linter.unusedVariables false

theorem times_len : ∀ (k : Nat) (l : List Bool) (N L D : Int), (∀ x ∈ timesS k l N L D, x.2 = 0) → (timesS k l N L D).length = k
  | 0, _, _, _, _, _ => rfl
  | k + 1, l, N, L, D, h => by
    obtain ⟨C, t, d, c, hG⟩ : ∃ C t d c, getS l N L D = (C, t, d, c) := ⟨_, _, _, _, rfl⟩
    by_cases hC : C = 0
    · subst hC
      rw [timesS_yes hG] at h ⊢
      rw [List.length_cons, times_len k _ _ _ _ fun x hx => h x (List.mem_cons_of_mem _ hx)]
    · rw [timesS_no (by rw [hG]) hC] at h
      exact absurd (h _ (List.mem_singleton.2 rfl)) hC
theorem reads_of_times : ∀ (pre : List (Int × Int)) (k : Nat) (l : List Bool) (N L D : Int), pre <+: timesS k l N L D → (∀ x ∈ pre, x.2 = 0) → readsS pre.length l N L D = (0, pre.map (·.1))
  | [], _, _, _, _, _, _, _ => rfl
  | x :: pre, 0, l, N, L, D, h, _ => by simp [timesS] at h
  | x :: pre, k + 1, l, N, L, D, h, h0 => by
    obtain ⟨C, t, d, c, hG⟩ : ∃ C t d c, getS l N L D = (C, t, d, c) := ⟨_, _, _, _, rfl⟩
    by_cases hC : C = 0
    · subst hC
      rw [timesS_yes hG, List.cons_prefix_cons] at h
      obtain ⟨rfl, h⟩ := h
      have ih := reads_of_times pre k _ _ _ _ h fun y hy => h0 y (List.mem_cons_of_mem _ hy)
      rw [List.length_cons, after_nil, readsS_yes hG, ih]
      rfl
    · rw [timesS_no (by rw [hG]) hC, List.cons_prefix_cons] at h
      obtain ⟨rfl, _⟩ := h
      exact absurd (h0 _ (List.mem_cons_self)) hC
theorem reads_stop : ∀ (pre : List (Int × Int)) (n k : Nat) (l : List Bool) (N L D z C : Int), (pre ++ [(z, C)]) <+: timesS k l N L D → (∀ x ∈ pre, x.2 = 0) → C ≠ 0 → pre.length < n → readsS n l N L D = (C, [])
  | [], n, 0, l, N, L, D, z, C, h, _, _, _ => by simp [timesS] at h
  | x :: pre, n, 0, l, N, L, D, z, C, h, _, _, _ => by simp [timesS] at h
  | _, 0, _, _, _, _, _, _, _, _, _, _, h => absurd h (by omega)
  | [], n + 1, k + 1, l, N, L, D, z, C, h, h0, hC, hn => by
    obtain ⟨C', t, d, c, hG⟩ : ∃ C t d c, getS l N L D = (C, t, d, c) := ⟨_, _, _, _, rfl⟩
    by_cases hC' : C' = 0
    · subst hC'
      rw [timesS_yes hG, List.nil_append, List.cons_prefix_cons] at h
      exact absurd (congrArg Prod.snd h.1) hC
    · rw [timesS_no (by rw [hG]) hC', List.nil_append, List.cons_prefix_cons] at h
      have e : C = C' := congrArg Prod.snd h.1
      subst e
      rw [after_nil, readsS_no (by rw [hG]) hC]
  | x :: pre, n + 1, k + 1, l, N, L, D, z, C, h, h0, hC, hn => by
    obtain ⟨C', t, d, c, hG⟩ : ∃ C t d c, getS l N L D = (C, t, d, c) := ⟨_, _, _, _, rfl⟩
    by_cases hC' : C' = 0
    · subst hC'
      rw [timesS_yes hG, List.cons_append, List.cons_prefix_cons] at h
      obtain ⟨rfl, h⟩ := h
      have ih := reads_stop pre n k _ _ _ _ z C h (fun y hy => h0 y (List.mem_cons_of_mem _ hy)) hC (by simpa using hn)
      rw [after_nil, readsS_yes hG, ih]
      simp [after, hC]
    · rw [timesS_no (by rw [hG]) hC', List.cons_append, List.cons_prefix_cons] at h
      obtain ⟨rfl, _⟩ := h
      exact absurd (h0 _ (List.mem_cons_self)) hC'

theorem own_same {A B : World} {base : Nat} {e : TypeId} {size n : Nat} {v : Value} {xs : List Value} (h : A.ownsRow base e size v n xs) (hk : ∀ k, v.ownBlock = some k → B.heap[k]? = A.heap[k]?) : B.ownsRow base e size v n xs := by
  refine ⟨h.1, ?_⟩
  rcases h.2 with h0 | ⟨r, cap, cur, rfl, hb, hh, rest⟩
  · exact .inl h0
  · exact .inr ⟨r, cap, cur, rfl, hb, (hk r rfl).trans hh, rest⟩
theorem Blk.same {A B : World} {g : Nat} {t : TypeId} {cs : Array Value} (h : Blk A g t cs) (hk : B.heap[g]? = A.heap[g]?) : Blk B g t cs := hk.trans h
theorem below_putObj {base l : Nat} {a w : World} (h : Below base a w) (hl : base ≤ l) (o : Obj) : Below base a (w.putObj l o) :=
  ⟨h.os, h.tape, h.output, by simpa using h.size, fun k hk => (World.putObj_heap_other (by omega)).trans (h.block k hk)⟩
theorem below_moved {base g n : Nat} {r : Option Nat} {a A B : World} (h : Below base a A) (hm : Moved g n r A B) (hg : base ≤ g) (hn : base ≤ n) (ha : base ≤ a.heap.size) : Below base a B := by
  obtain ⟨x, ht, _, hx⟩ := hm
  exact h.trans (ht.below (Nat.le_trans ha h.size) (by omega) (fun _ e => by cases e))

/-- stamp.times: a function value over a box that holds the reader's pointer. -/
theorem times_any (g : Nat) (w : World) : Calls Tryd.prog 74 #[.pointer (some ⟨g, 0, none⟩)] w fun e w' => e = .returned (.func (.func 82) #[] #[.pointer (some ⟨w.heap.size, 0, none⟩)]) ∧ w' = w.alloc (.cells #[.pointer (some ⟨g, 0, none⟩)] 59) := by
  go_enter Tryd.func74, Tryd.ntmps74
  go_wp2_with fail
  go_ret
  exact ⟨rfl, rfl⟩
/-- Between two rounds of Read's loop: its boxes b0 (n), b1, b2 (what it answers), b3 (the row). -/
def RdI (n s b0 b1 b2 b3 : Nat) (w : World) (r : Option Nat) (pre : List (Int × Int)) (W : World) : Prop :=
  (∃ v, Blk W b3 72 #[v] ∧ W.ownsRow (s + 2) 3 1 v pre.length ((pre.map (·.1)).map fun x => .int .i64 x) ∧ r = v.ownBlock) ∧
  Blk W b0 3 #[.int .i64 (n : Int)] ∧ Blk W b1 72 #[.slice none 0 0] ∧ Blk W b2 28 #[.int .i64 0] ∧ (∀ x ∈ pre, x.2 = 0) ∧ pre.length < n ∧ Below w.heap.size w W ∧ s ≤ W.heap.size
/-- A round of it has left. -/
def RdX (n s b1 b2 b3 : Nat) (w : World) (c : Code) (pre : List (Int × Int)) (W : World) : Prop :=
  ((c = .ret ∧ ∃ pre' z C, pre = pre' ++ [(z, C)] ∧ (∀ x ∈ pre', x.2 = 0) ∧ C ≠ 0 ∧ pre'.length < n ∧ Blk W b1 72 #[.slice none 0 0] ∧ Blk W b2 28 #[.int .i64 C]) ∨
   (c = .exit 1 ∧ ∃ v, Blk W b3 72 #[v] ∧ W.ownsRow (s + 2) 3 1 v pre.length ((pre.map (·.1)).map fun x => .int .i64 x) ∧ (∀ x ∈ pre, x.2 = 0) ∧ pre.length = n ∧ Blk W b1 72 #[.slice none 0 0] ∧ Blk W b2 28 #[.int .i64 0])) ∧
  Below w.heap.size w W ∧ s ≤ W.heap.size
section
variable {n s b0 b1 b2 b3 : Nat} {w A B : World} {r : Option Nat} {pre : List (Int × Int)} {c : Code}
theorem RdI.same (h : RdI n s b0 b1 b2 b3 w r pre A) (hk : ∀ k, k = b0 ∨ k = b1 ∨ k = b2 ∨ k = b3 ∨ r = some k → B.heap[k]? = A.heap[k]?) (hb : Below w.heap.size w B) (hs : s ≤ B.heap.size) : RdI n s b0 b1 b2 b3 w r pre B := by
  obtain ⟨⟨v, h3, ho, rfl⟩, h0, h1, h2, hc, hl, _, _⟩ := h
  exact ⟨⟨v, h3.same (hk _ (by simp)), own_same ho fun k e => hk k (by simp [e]), rfl⟩, h0.same (hk _ (by simp)), h1.same (hk _ (by simp)), h2.same (hk _ (by simp)), hc, hl, hb, hs⟩
theorem RdI.row (h : RdI n s b0 b1 b2 b3 w r pre A) : ∀ k, r = some k → s + 2 ≤ k ∧ k < A.heap.size := by
  obtain ⟨⟨v, _, ho, rfl⟩, _⟩ := h
  exact fun k hk => ho.lt k hk
theorem RdI.lts (h : RdI n s b0 b1 b2 b3 w r pre A) : b0 < A.heap.size ∧ b1 < A.heap.size ∧ b2 < A.heap.size ∧ b3 < A.heap.size := by
  obtain ⟨⟨v, h3, _, _⟩, h0, h1, h2, _⟩ := h
  exact ⟨h0.lt, h1.lt, h2.lt, h3.lt⟩
theorem RdX.put (h : RdX n s b1 b2 b3 w c pre A) {l : Nat} (o : Obj) (hl : s ≤ l) (hl2 : l ≤ s + 1) (h1 : b1 < s) (h2 : b2 < s) (h3 : b3 < s) (hw : w.heap.size ≤ s) : RdX n s b1 b2 b3 w c pre (A.putObj l o) := by
  have hk : ∀ k, k ≠ l → (A.putObj l o).heap[k]? = A.heap[k]? := fun k hk => World.putObj_heap_other hk
  obtain ⟨h, hb, hs⟩ := h
  refine ⟨?_, below_putObj hb (by omega) o, by simpa using hs⟩
  rcases h with ⟨rfl, p, z, C, e, hc, hC, hn, r1, r2⟩ | ⟨rfl, v, r3, ho, hc, hn, r1, r2⟩
  · exact .inl ⟨rfl, p, z, C, e, hc, hC, hn, r1.same (hk _ (by omega)), r2.same (hk _ (by omega))⟩
  · exact .inr ⟨rfl, v, r3.same (hk _ (by omega)), own_same ho fun k e => hk k (by have := (ho.lt k e).1; omega), hc, hn, r1.same (hk _ (by omega)), r2.same (hk _ (by omega))⟩
end
section
variable {F : Fence} {nF : Nat} {P : Program} {ops : Array Oper} {rest : List Oper} {o : Oper} {a : Act} {Q : Exit → Act → World → Prop}
/-- append(v, x), in a fence: where the new row lies, and what is left alone. -/
theorem app_one_in {W : World} (base : Nat) (hgd : o.guard = none) (s x : Operand) (t e : TypeId) (z : Value) (bytes : Nat)
    (ho : o.op = .call { callee := .builtin .append, args := #[s, x], argTypes := #[t, t] })
    (ht : P.underlying t = some (.slice e)) (hinfo : (P.info? e).map (fun i => (i.zero, i.size, i.bytes)) = some (some z, 1, bytes)) (hz : z.cells.size = 1)
    (v : Value) (n : Nat) (xs : List Value) (y : Value) (hs : a.eval s = v) (hx : a.eval x = .slice (some ⟨W.heap.size, 0, none⟩) 1 1) (h1 : y.oneCell' = true)
    (HO : W.ownsRow base e 1 v n xs) (hbase : base ≤ W.heap.size) (hl : n + 1 ≤ 1000000000) (hby : bytes ≤ 16)
    (h : ∀ g c w1, w1.ownsRow base e 1 (.slice (some ⟨g, 0, none⟩) (n + 1) c) (n + 1) (xs ++ [y]) → W.grownBy w1 v.ownBlock → (v.ownBlock = some g ∨ W.heap.size ≤ g) → wpListIn F nF P ops Q rest (a.put o.dst (.slice (some ⟨g, 0, none⟩) (n + 1) c)) w1) :
    wpListIn F nF P ops Q (o :: rest) a (W.alloc (.cells #[y] e)) := by
  obtain ⟨i0, hi, hzz⟩ := Option.map_eq_some_iff.1 hinfo
  simp only [Prod.mk.injEq] at hzz
  obtain ⟨hz0, hz1, hz2⟩ := hzz
  have hnb : (n + 1) * bytes ≤ 140737488355328 := Nat.le_trans (Nat.mul_le_mul hl hby) (by omega)
  refine wpListIn_append_own_at _ hgd s x t ho base e i0 z 1 bytes ht hi hz0 hz1 hz2 hz (by omega) v n xs hs (HO.alloc _) ⟨W.heap.size, 0, none⟩ 1 1 [y] hx rfl
    (cell_one_new _ _ _) (by simpa using h1) (by simp only [maxLen]; omega) hnb (by simp; omega) ?_
  intro v1 w1 hown hg _ hat
  obtain ⟨g, c, rfl, _, _⟩ := hown.form (by omega)
  refine h g c w1 hown (World.grownBy.trans (World.grownBy_alloc W _ _) hg) ?_
  rcases hat with hat | hat
  · exact .inl hat.symm
  · refine .inr ?_
    have : g = W.heap.size + 1 := by simpa [Value.ownBlock] using hat
    omega
end

attribute [local go_sem] Oper.semAt_some
set_option maxRecDepth 100000 in
set_option maxHeartbeats 3200000 in
theorem sRead_any (w : World) (a0 : Option Addr) (len cap n : Nat) (bs : List Int) (hR : RB w a0 len cap bs) (hbs : ∀ x ∈ bs, Byte x) (hle : len ≤ 1000000) (hT : StampTab w) (hn0 : 1 ≤ n) (hn : n ≤ 4096) :
    Calls Tryd.prog 40 #[.slice a0 len cap, .int .i64 (n : Nat)] w fun e w' => AnsR w w' (readsS n (unB bs) 0 0 0) e ∧ Below w.heap.size w w' := by
  refine (callsIn_wide (n := 3)).1 ?_
  refine callsIn_of_wp_marks Tryd.func40 rfl trivial ?_ rfl
  simp only [Tryd.ntmps40, List.size_toArray, List.length_cons, List.length_nil, Nat.reduceAdd, Nat.reduceSub, Array.replicate_succ, Array.replicate_zero, List.push_toArray, List.append_toArray, List.nil_append, List.cons_append]
  have hw0 := hT.pos
  have A1 : Below w.heap.size w (w.alloc (.cells #[.int .i64 (n : Int)] 3)) := (Below.refl _ w).alloc (Nat.le_refl _) _
  have X1 := Blk.new w 3 #[.int .i64 (n : Int)]
  have X2 := Blk.new (w.alloc (.cells #[.int .i64 (n : Int)] 3)) 72 #[.slice none 0 0]
  have X3 := Blk.new ((w.alloc (.cells #[.int .i64 (n : Int)] 3)).alloc (.cells #[.slice none 0 0] 72)) 28 #[.int .i64 0]
  have X4 := Blk.new (((w.alloc (.cells #[.int .i64 (n : Int)] 3)).alloc (.cells #[.slice none 0 0] 72)).alloc (.cells #[.int .i64 0] 28)) 72 #[.slice none 0 0]
  simp only [World.size_alloc, Nat.add_assoc, Nat.reduceAdd] at X2 X3 X4
  have A4 : Below w.heap.size w ((((w.alloc (.cells #[.int .i64 (n : Int)] 3)).alloc (.cells #[.slice none 0 0] 72)).alloc (.cells #[.int .i64 0] 28)).alloc (.cells #[.slice none 0 0] 72)) := (((A1.alloc (by simp) _).alloc (by simp; omega) _).alloc (by simp; omega) _)
  have hs4 : ((((w.alloc (.cells #[.int .i64 (n : Int)] 3)).alloc (.cells #[.slice none 0 0] 72)).alloc (.cells #[.int .i64 0] 28)).alloc (.cells #[.slice none 0 0] 72)).heap.size = w.heap.size + 4 := by simp
  have Y1 := ((X1.alloc (.cells #[.slice none 0 0] 72)).alloc (.cells #[.int .i64 0] 28)).alloc (.cells #[.slice none 0 0] 72)
  have Y2 := (X2.alloc (.cells #[.int .i64 0] 28)).alloc (.cells #[.slice none 0 0] 72)
  have Y3 := X3.alloc (.cells #[.slice none 0 0] 72)
  have T4 := hT.below A4
  have R4 := hR.below A4
  clear X1 X2 X3 A1
  have e1 : ((n : Int) < 0) = False := by simp
  have e2 : decide ((n : Int) < 0) = false := by simp
  have e3 : decide ((n : Int) > 4096) = false := by simp; omega
  have e4 : ((n : Int) == 0) = false := by simp; omega
  have e5 : decide ((4096 : Int) < n) = false := by simp; omega
  gi_wp2
  refine ⟨trivial, ?_⟩
  refine (callsIn_wide.2 (NewReader_any a0 len cap bs _ (w.heap.size + 4) R4 hle (by rw [hs4]; exact Nat.le_refl _))).mono ?_
  rintro e u5 ⟨g, R, rfl, hg, hRl, D5, B5⟩
  rw [hs4] at hg hRl
  have H5 := A4.trans (B5.mono A4.size)
  gi_wp2
  refine ⟨trivial, ?_⟩
  refine (callsIn_wide.2 (times_any g _)).mono ?_
  rintro e u6 ⟨rfl, rfl⟩
  gi_wp2
  obtain ⟨b0, hb0⟩ : ∃ b, w.heap.size = b := ⟨_, rfl⟩
  obtain ⟨b1, hb1⟩ : ∃ b, w.heap.size + 1 = b := ⟨_, rfl⟩
  obtain ⟨b2, hb2⟩ : ∃ b, w.heap.size + 2 = b := ⟨_, rfl⟩
  obtain ⟨b3, hb3⟩ : ∃ b, w.heap.size + 3 = b := ⟨_, rfl⟩
  have A6 : Below u5.heap.size u5 (u5.alloc (.cells #[.pointer (some ⟨g, 0, none⟩)] 59)) := (Below.refl _ u5).alloc (Nat.le_refl _) _
  have Z0 := ((Y1.below B5).below A6)
  have Z1 := ((Y2.below B5).below A6)
  have Z2 := ((Y3.below B5).below A6)
  have Z3 := ((X4.below B5).below A6)
  have Bn6 := (Blk.new u5 59 #[.pointer (some ⟨g, 0, none⟩)]).cell 0
  have D6 := D5.below A6
  have T6 := (T4.below B5).below A6
  have H6 := H5.trans (A6.mono H5.size)
  have hgl := D5.lt
  have hs5 : w.heap.size + 4 ≤ u5.heap.size := by have := B5.size; omega
  have hs6 : (u5.alloc (.cells #[.pointer (some ⟨g, 0, none⟩)] 59)).heap.size = u5.heap.size + 1 := by simp
  rw [hb0] at Z0
  rw [hb1] at Z1
  rw [hb2] at Z2
  rw [hb3] at Z3
  rw [show w.heap.size + 1 + 1 + 1 = b3 from by omega, show w.heap.size + 1 + 1 = b2 from by omega, hb1]
  obtain ⟨W0, hW0⟩ : ∃ W0, u5.alloc (.cells #[.pointer (some ⟨g, 0, none⟩)] 59) = W0 := ⟨_, rfl⟩
  obtain ⟨s, hs⟩ : ∃ s, W0.heap.size = s := ⟨_, rfl⟩
  rw [hW0] at Z0 Z1 Z2 Z3 Bn6 D6 T6 H6 hs6 ⊢
  rw [hs] at hs6
  have FD := times_feeds 2 (by omega) (w.heap.size + 4) g u5.heap.size R bs (fun k => k = b1 ∨ k = b2 ∨ k = b3) W0 D6 T6 (by omega) hbs (fun k hk => by have := (hRl k hk).2; omega) Bn6 (by omega) (fun k hk => by have := (hRl k hk).2; omega)
    (by omega) (by omega) (fun k hk => by have := (hRl k hk).1; omega) (by omega) (fun k hk => by omega)
  clear X4 Y1 Y2 Y3 T4 R4 A4 A6 B5 D5 H5 hs4 hW0
  refine range_by (F := Fence.wide) (n := 3) rfl (by omega) (gf := 82) (lb := #[.pointer (some ⟨u5.heap.size, 0, none⟩)]) rfl trivial (enters_of Tryd.func82 (by kernel_rfl) rfl) FD (fun _ => rfl) (fun k hk => by omega) (by omega)
    (RdI n s b0 b1 b2 b3 w) (RdX n s b1 b2 b3 w) ?hB ?hM ?hL ?hLx ?hr ?h0
    (fun x => { tmps := #[.slice a0 len cap, .int .i64 (n : Int), undef, .pointer (some ⟨b0, 0, none⟩), .pointer (some ⟨b1, 0, none⟩), .pointer (some ⟨b2, 0, none⟩), .pointer (some ⟨b3, 0, none⟩), .int .i64 x.1, .int .i64 x.2, .bool false, .int .i64 n, .bool false, .bool false, .int .i64 n, .bool false, .bool false, .bool false, .int .i64 n, .bool false, .slice a0 len cap, .pointer (some ⟨g, 0, none⟩), .func (.func 82) #[] #[.pointer (some ⟨u5.heap.size, 0, none⟩)], .int .i64 x.1, .int .i64 x.2, undef, undef, undef, undef, undef, undef, undef, undef, undef, undef, undef, undef], defers := [] }) ?hassign ?hbody ?hdone ?hstop
  case hB =>
    intro r pre A B h hb
    exact h.same (fun k hk => hb.block k (by have := h.lts; have := h.row; rcases hk with rfl | rfl | rfl | rfl | e <;> first | omega | exact (this k e).2)) (h.2.2.2.2.2.2.1.trans (hb.mono h.2.2.2.2.2.2.1.size)) (by have := h.2.2.2.2.2.2.2; have := hb.size; omega)
  case hM =>
    intro r pre A B h hm
    have hmm := hm
    obtain ⟨x, ht, hc, hx⟩ := hm
    have hlt := h.lts
    have hrw := h.row
    have h7 := h.2.2.2.2.2.2
    refine h.same (fun k hk => ht.block k ?_ ?_ (by simp)) (below_moved h7.1 hmm (by omega) (by omega) (by omega)) (by have := h7.2; have := ht.size; omega)
    · rcases hk with rfl | rfl | rfl | rfl | e
      · exact hlt.1
      · exact hlt.2.1
      · exact hlt.2.2.1
      · exact hlt.2.2.2
      · exact (hrw k e).2
    · rcases hk with rfl | rfl | rfl | rfl | e <;> first | omega | skip
      rcases hx with rfl | ⟨_, hx⟩
      · have := (hrw k e).1; omega
      · rintro rfl; exact hx e.symm
  case hL =>
    intro r pre A l o h hl hlr
    refine h.same (fun k hk => World.putObj_heap_other ?_) (below_putObj h.2.2.2.2.2.2.1 (by omega) o) (by simpa using h.2.2.2.2.2.2.2)
    rcases hk with rfl | rfl | rfl | rfl | e <;> first | omega | skip
    rintro rfl; exact hlr e.symm
  case hLx =>
    intro c pre A l o h h1 h2
    exact h.put o (by omega) (by omega) (by omega) (by omega) (by omega) (by omega)
  case hr =>
    intro r pre A h k hk
    rw [hs]; exact h.row k hk
  case h0 =>
    exact ⟨⟨_, Z3, World.ownsRow_nil _ _ _ _, rfl⟩, Z0, Z1, Z2, (fun _ h => by cases h), by simp; omega, H6, by omega⟩
  case hassign =>
    intro l x W K hK
    gi_wp2
    exact hK
  case hbody =>
    rintro l r pre ⟨t, C⟩ W hWs ⟨⟨v, h3, ho, hrv⟩, h0, h1, h2, hc, hl, hb, hsz⟩ hlt
    have c0 : W.cell? ⟨b0, 0, none⟩ = some (.int .i64 (n : Int)) := h0.cell 0
    have c1 : W.cell? ⟨b1, 0, none⟩ = some (.slice none 0 0) := h1.cell 0
    have c2 : W.cell? ⟨b2, 0, none⟩ = some (.int .i64 0) := h2.cell 0
    have c3 : W.cell? ⟨b3, 0, none⟩ = some v := h3.cell 0
    have f1 := h1.frozen 0
    have f2 := h2.frozen 0
    dsimp only
    by_cases hC : C = 0
    · subst hC
      have hrow := ho.lt
      gi_wp2_with (gi_at_builtin; refine app_one_in (s + 2) rfl _ _ 72 3 (.int .i64 0) 8 rfl Tryd.underlying72 Tryd.infoInt rfl v pre.length _ (.int .i64 t) rfl rfl rfl ho (by omega) (by omega) (by omega) ?_; intro r8 c8 w8 O8 G8 at8; have X8 := h3.grown G8 (fun e => by have := (hrow _ e.symm).1; omega); have q8 : w8.cell? ⟨b3, 0, none⟩ = some v := X8.cell 0; have f8 := X8.frozen 0; have Y8 := h0.grown G8 (fun e => by have := (hrow _ e.symm).1; omega); have y8 : w8.cell? ⟨b0, 0, none⟩ = some (.int .i64 (n : Int)) := Y8.cell 0)
      all_goals
        have hne : ∀ k, k < s + 2 → some k ≠ v.ownBlock := fun k hk e => by have := (hrow _ e.symm).1; omega
        have hr8 := O8.lt r8 rfl
        have G1 := h1.grown G8 (hne _ (by omega))
        have G2 := h2.grown G8 (hne _ (by omega))
        obtain ⟨V, hV⟩ : ∃ V, Value.slice (some ⟨r8, 0, none⟩) (pre.length + 1) c8 = V := ⟨_, rfl⟩
        have hVo : V.ownBlock = some r8 := by rw [← hV]; rfl
        rw [hV] at O8 ⊢
        have ob : ∀ k, k ≠ b3 → (w8.setCell ⟨b3, 0, none⟩ V).heap[k]? = w8.heap[k]? := fun k hk => Below.heap_setCell w8 _ _ k hk
        have X9 : Blk (w8.setCell ⟨b3, 0, none⟩ V) b3 72 #[V] := X8.set_ 0 V
        have O9 : (w8.setCell ⟨b3, 0, none⟩ V).ownsRow (s + 2) 3 1 V (pre ++ [(t, (0 : Int))]).length (((pre ++ [(t, (0 : Int))]).map (·.1)).map fun x => .int .i64 x) := by
          have := own_same O8 (B := w8.setCell ⟨b3, 0, none⟩ V) fun k hk => ob k (by rw [hVo] at hk; injection hk; omega)
          simpa using this
        have hc9 : ∀ x ∈ pre ++ [(t, (0 : Int))], x.2 = 0 := fun x hx => (List.mem_append.1 hx).elim (hc x) fun h => by rw [List.mem_singleton.1 h]
        have N1 := G1.same (ob b1 (by omega))
        have N2 := G2.same (ob b2 (by omega))
        have N0 := Y8.same (ob b0 (by omega))
        have H8 := hb.grown G8 hb.size (fun k e => by have := (hrow _ e).1; omega)
        have H9 : Below w.heap.size w (w8.setCell ⟨b3, 0, none⟩ V) := H8.setCell (p := ⟨b3, 0, none⟩) (by show _ ≤ b3; omega) V
        have hz8 := G8.size
        have hz9 : (w8.setCell ⟨b3, 0, none⟩ V).heap.size = w8.heap.size := by simp [World.setCell]
        have kp : ∀ k, k < W.heap.size → k ≠ b3 → some k ≠ v.ownBlock → (w8.setCell ⟨b3, 0, none⟩ V).heap[k]? = W.heap[k]? := fun k hk hk3 hkr => (ob k hk3).trans (G8.block k hk hkr)
        rename_i hlen
      · have hln : pre.length + 1 = n := by have := eq_of_beq hlen; omega
        exact ⟨⟨.inr ⟨rfl, V, X9, O9, hc9, by simpa using hln, N1, N2⟩, H9, by omega⟩, kp _ (by omega) (by omega) (hne _ (by omega)), kp _ (by omega) (by omega) (hne _ (by omega))⟩
      · have hln : pre.length + 1 ≠ n := fun e => by rw [← e] at hlen; simp at hlen
        refine ⟨some r8, ⟨⟨V, X9, O9, hVo.symm⟩, N0, N1, N2, hc9, by simp; omega, H9, by omega⟩, ?_, by omega, fun k hk hC hkr => kp k hk (fun e => hC (by simp [e])) (by rw [← hrv]; exact hkr)⟩
        rcases at8 with e | e
        · exact .inl (by rw [hrv, e])
        · exact .inr ⟨_, rfl, e⟩
    · have hC1 : (C != 0) = true := by simp [hC]
      have hC2 : (C == 0) = false := beq_eq_false_iff_ne.2 hC
      gi_wp2
      have M1 : Blk (W.setCell ⟨b1, 0, none⟩ (.slice none 0 0)) b1 72 #[.slice none 0 0] := h1.set_ 0 _
      have M2 : Blk (W.setCell ⟨b1, 0, none⟩ (.slice none 0 0)) b2 28 #[.int .i64 0] := h2.far (p := ⟨b1, 0, none⟩) (by show b2 ≠ b1; omega) _
      have ob : ∀ k, k ≠ b1 → k ≠ b2 → ((W.setCell ⟨b1, 0, none⟩ (.slice none 0 0)).setCell ⟨b2, 0, none⟩ (.int .i64 C)).heap[k]? = W.heap[k]? := fun k hk1 hk2 => (Below.heap_setCell _ _ _ k hk2).trans (Below.heap_setCell _ _ _ k hk1)
      exact ⟨⟨.inl ⟨rfl, pre, t, C, rfl, hc, hC, hl, M1.far (p := ⟨b2, 0, none⟩) (by show b1 ≠ b2; omega) _, M2.set_ 0 _⟩, (hb.setCell (p := ⟨b1, 0, none⟩) (by show _ ≤ b1; omega) _).setCell (p := ⟨b2, 0, none⟩) (by show _ ≤ b2; omega) _, by simpa [World.setCell] using hsz⟩, ob _ (by omega) (by omega), ob _ (by omega) (by omega)⟩
  case hdone =>
    intro r xs W hS hI hD
    obtain ⟨_, _, _, _, hc, hl, _⟩ := hI
    subst hS
    have := times_len 5000 _ _ _ _ hc
    omega
  case hstop =>
    rintro c pre W hS ⟨(⟨rfl, pre', z, C, rfl, hc, hC, hl, h1, h2⟩ | ⟨rfl, v, h3, ho, hc, hl, h1, h2⟩), hb, hsz⟩ hD
    · have hQ := reads_stop pre' n 5000 _ _ _ _ z C hS hc hC hl
      gi_wp2
      refine ⟨by simp, .inl ⟨_, _, rfl, run_takeDeferred hD, ?_⟩⟩
      have q1 : (W.putObj W0.heap.size (.deferred none)).cell? ⟨b1, 0, none⟩ = some (.slice none 0 0) := (h1.same (World.putObj_heap_other (by omega))).cell 0
      have q2 : (W.putObj W0.heap.size (.deferred none)).cell? ⟨b2, 0, none⟩ = some (.int .i64 C) := (h2.same (World.putObj_heap_other (by omega))).cell 0
      refine ⟨.tuple #[.slice none 0 0, .int .i64 C], by simp [results, Tryd.results40, go_sem, q1, q2], ?_, below_putObj hb (by omega) _⟩
      rw [hQ]
      exact ⟨none, 0, rfl, rfl, Nat.le_refl _, by omega, fun h => by simp at h⟩
    · have hQ := reads_of_times pre 5000 _ _ _ _ hS hc
      subst hl
      have c3 : W.cell? ⟨b3, 0, none⟩ = some v := h3.cell 0
      have c1 : W.cell? ⟨b1, 0, none⟩ = some (.slice none 0 0) := h1.cell 0
      have c2 : W.cell? ⟨b2, 0, none⟩ = some (.int .i64 0) := h2.cell 0
      have f1 := h1.frozen 0
      have f2 := h2.frozen 0
      have hrow := ho.lt
      obtain ⟨A7, c7, e7, R7⟩ := RI.of_own ho
      subst e7
      gi_wp2
      have M1 : Blk (W.setCell ⟨b1, 0, none⟩ (.slice A7 pre.length c7)) b1 72 #[.slice A7 pre.length c7] := h1.set_ 0 _
      have M2 : Blk (W.setCell ⟨b1, 0, none⟩ (.slice A7 pre.length c7)) b2 28 #[.int .i64 0] := h2.far (p := ⟨b1, 0, none⟩) (by show b2 ≠ b1; omega) _
      have N1 : Blk ((W.setCell ⟨b1, 0, none⟩ (.slice A7 pre.length c7)).setCell ⟨b2, 0, none⟩ (.int .i64 0)) b1 72 #[.slice A7 pre.length c7] := M1.far (p := ⟨b2, 0, none⟩) (by show b1 ≠ b2; omega) _
      have N2 : Blk ((W.setCell ⟨b1, 0, none⟩ (.slice A7 pre.length c7)).setCell ⟨b2, 0, none⟩ (.int .i64 0)) b2 28 #[.int .i64 0] := M2.set_ 0 _
      have ob : ∀ k, k ≠ b1 → k ≠ b2 → ((W.setCell ⟨b1, 0, none⟩ (.slice A7 pre.length c7)).setCell ⟨b2, 0, none⟩ (.int .i64 0)).heap[k]? = W.heap[k]? := fun k hk1 hk2 => (Below.heap_setCell _ _ _ k hk2).trans (Below.heap_setCell _ _ _ k hk1)
      have hD2 := (ob W0.heap.size (by omega) (by omega)).trans hD
      have R8 : RI (((W.setCell ⟨b1, 0, none⟩ (.slice A7 pre.length c7)).setCell ⟨b2, 0, none⟩ (.int .i64 0)).putObj W0.heap.size (.deferred none)) A7 pre.length c7 (pre.map (·.1)) := by
        obtain ⟨A8, c8, e8, R8⟩ := RI.of_own (own_same ho (B := ((W.setCell ⟨b1, 0, none⟩ (.slice A7 pre.length c7)).setCell ⟨b2, 0, none⟩ (.int .i64 0)).putObj W0.heap.size (.deferred none)) fun k hk => (World.putObj_heap_other (by have := (hrow k hk).1; omega)).trans (ob k (by have := (hrow k hk).1; omega) (by have := (hrow k hk).1; omega)))
        cases e8
        exact R8
      have q1 : (((W.setCell ⟨b1, 0, none⟩ (.slice A7 pre.length c7)).setCell ⟨b2, 0, none⟩ (.int .i64 0)).putObj W0.heap.size (.deferred none)).cell? ⟨b1, 0, none⟩ = some (.slice A7 pre.length c7) := (N1.same (World.putObj_heap_other (by omega))).cell 0
      have q2 : (((W.setCell ⟨b1, 0, none⟩ (.slice A7 pre.length c7)).setCell ⟨b2, 0, none⟩ (.int .i64 0)).putObj W0.heap.size (.deferred none)).cell? ⟨b2, 0, none⟩ = some (.int .i64 0) := (N2.same (World.putObj_heap_other (by omega))).cell 0
      refine ⟨by simp, .inl ⟨_, _, rfl, run_takeDeferred hD2, ?_⟩⟩
      refine ⟨.tuple #[.slice A7 pre.length c7, .int .i64 0], by simp [results, Tryd.results40, go_sem, q1, q2], ?_, below_putObj ((hb.setCell (p := ⟨b1, 0, none⟩) (by show _ ≤ b1; omega) _).setCell (p := ⟨b2, 0, none⟩) (by show _ ≤ b2; omega) _) (by omega) _⟩
      rw [hQ]
      show ∃ A c, _ = Ending.returned (.tuple #[.slice A (pre.map (·.1)).length c, .int .i64 0]) ∧ RI _ A (pre.map (·.1)).length c (pre.map (·.1))
      rw [List.length_map]
      exact ⟨_, _, rfl, R8⟩
end Go.Proofs.YtlgndfckmnninaaDoor
