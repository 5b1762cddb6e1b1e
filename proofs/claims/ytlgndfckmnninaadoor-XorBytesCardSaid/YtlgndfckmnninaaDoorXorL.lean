/- xor.Read: what it answers; its walk. Conditions: as stated. -/
import Derived.Test.YtlgndfckmnninaaDoorStampL
import Derived.Test.YtlgndfckmnninaaDoorXorJ
namespace Go.Proofs.YtlgndfckmnninaaDoor
open Go.RowKit Go.Shelf
set_option linter.unusedVariables false

/-- What a Read of n values says. -/
def readsX : Nat → List Bool → Int → Nat → Nat → Nat → Int × List Nat
  | 0, _, _, _, _, _ => (0, [])
  | n + 1, l, N, V, a, b => if (getX l N V a b).1 ≠ 0 then ((getX l N V a b).1, []) else
      (let q := readsX n (l.drop (getX l N V a b).2.2.2.2) (N + 1) (getX l N V a b).2.1 (getX l N V a b).2.2.1 (getX l N V a b).2.2.2.1
       if q.1 ≠ 0 then (q.1, []) else (0, (getX l N V a b).2.1 :: q.2))
/-- Some that have come, and what comes. -/
def afterX (acc : List Nat) (q : Int × List Nat) : Int × List Nat := if q.1 ≠ 0 then (q.1, []) else (0, acc ++ q.2)
theorem readsX_no {n : Nat} {l : List Bool} {N C : Int} {V a b : Nat} (h : (getX l N V a b).1 = C) (hC : C ≠ 0) (acc : List Nat) : afterX acc (readsX (n + 1) l N V a b) = (C, []) := by
  unfold readsX afterX
  rw [h, if_pos hC]
  simp [hC]
theorem readsX_yes {n : Nat} {l : List Bool} {N : Int} {V a b v A B c : Nat} (h : getX l N V a b = (0, v, A, B, c)) (acc : List Nat) : afterX acc (readsX (n + 1) l N V a b) = afterX (acc ++ [v]) (readsX n (l.drop c) (N + 1) v A B) := by
  unfold afterX
  rw [readsX, h]
  simp only [ne_eq, not_true_eq_false, if_false]
  by_cases hq : (readsX n (l.drop c) (N + 1) v A B).1 = 0
  · simp [hq]
  · simp [hq]
theorem readsX_code {n : Nat} {l : List Bool} {N : Int} {V a b : Nat} : (readsX n l N V a b).1 ≠ 0 → (readsX n l N V a b).2 = [] := by
  cases n with
  | zero => simp [readsX]
  | succ m =>
    unfold readsX
    split
    · exact fun _ => rfl
    · simp only
      split
      · exact fun _ => rfl
      · exact fun h => absurd rfl h
theorem afterX_nil (n : Nat) (l : List Bool) (N : Int) (V a b : Nat) : readsX n l N V a b = afterX [] (readsX n l N V a b) := by
  unfold afterX
  by_cases h : (readsX n l N V a b).1 ≠ 0
  · rw [if_pos h]; exact Prod.ext rfl (readsX_code h)
  · rw [if_neg h, List.nil_append]; exact Prod.ext (Decidable.not_not.1 h) rfl
theorem vals_reads : ∀ (k : Nat) (l : List Bool) (N : Int) (V a b : Nat), (∀ x ∈ valsX k l N V a b, x.2 = 0) → readsX k l N V a b = (0, (valsX k l N V a b).map (·.1))
  | 0, _, _, _, _, _, _ => rfl
  | k + 1, l, N, V, a, b, h => by
    obtain ⟨C, v, A, B, c, hG⟩ : ∃ C v A B c, getX l N V a b = (C, v, A, B, c) := ⟨_, _, _, _, _, rfl⟩
    by_cases hC : C = 0
    · subst hC
      rw [valsX_yes hG] at h
      rw [afterX_nil, readsX_yes hG, valsX_yes hG, vals_reads k _ _ _ _ _ fun x hx => h x (List.mem_cons_of_mem _ hx)]
      rfl
    · rw [valsX_no (by rw [hG]) hC] at h
      exact absurd (h _ (List.mem_singleton.2 rfl)) hC
theorem vals_stop : ∀ (pre : List (Nat × Int)) (k : Nat) (l : List Bool) (N : Int) (V a b z : Nat) (C : Int), (pre ++ [(z, C)]) <+: valsX k l N V a b → (∀ x ∈ pre, x.2 = 0) → C ≠ 0 → readsX k l N V a b = (C, [])
  | [], 0, l, N, V, a, b, z, C, h, _, _ => by simp [valsX] at h
  | x :: pre, 0, l, N, V, a, b, z, C, h, _, _ => by simp [valsX] at h
  | [], k + 1, l, N, V, a, b, z, C, h, h0, hC => by
    obtain ⟨C', v, A, B, c, hG⟩ : ∃ C v A B c, getX l N V a b = (C, v, A, B, c) := ⟨_, _, _, _, _, rfl⟩
    by_cases hC' : C' = 0
    · subst hC'
      rw [valsX_yes hG, List.nil_append, List.cons_prefix_cons] at h
      exact absurd (congrArg Prod.snd h.1) hC
    · rw [valsX_no (by rw [hG]) hC', List.nil_append, List.cons_prefix_cons] at h
      have e : C = C' := congrArg Prod.snd h.1
      subst e
      rw [afterX_nil, readsX_no (by rw [hG]) hC]
  | x :: pre, k + 1, l, N, V, a, b, z, C, h, h0, hC => by
    obtain ⟨C', v, A, B, c, hG⟩ : ∃ C v A B c, getX l N V a b = (C, v, A, B, c) := ⟨_, _, _, _, _, rfl⟩
    by_cases hC' : C' = 0
    · subst hC'
      rw [valsX_yes hG, List.cons_append, List.cons_prefix_cons] at h
      obtain ⟨rfl, h⟩ := h
      have ih := vals_stop pre k _ _ _ _ _ z C h (fun y hy => h0 y (List.mem_cons_of_mem _ hy)) hC
      rw [afterX_nil, readsX_yes hG, ih]
      simp [afterX, hC]
    · rw [valsX_no (by rw [hG]) hC', List.cons_append, List.cons_prefix_cons] at h
      obtain ⟨rfl, _⟩ := h
      exact absurd (h0 _ (List.mem_cons_self)) hC'

/-- What a Read answers: a slice that holds the values, and the code. -/
def AnsX (w w' : World) (q : Int × List Nat) (e : Ending) : Prop :=
  ∃ A c, e = .returned (.tuple #[.slice A q.2.length c, .int .i64 q.1]) ∧ RU w' A q.2.length c q.2
theorem ansX_code (w w' : World) (C : Int) : AnsX w w' (C, []) (.returned (.tuple #[.slice none 0 0, .int .i64 C])) :=
  ⟨none, 0, rfl, rfl, Nat.le_refl _, by omega, fun h => by simp at h⟩
theorem RU.of_own {w : World} {base n : Nat} {v : Value} {xs : List Nat} {t : TypeId} (h : w.ownsRow base t 1 v n (xs.map fun (x : Nat) => .int .u64 (x : Nat))) : ∃ A c, v = .slice A n c ∧ RU w A n c xs := by
  obtain ⟨h1, ⟨rfl, rfl⟩ | ⟨g, cap, cur, rfl, h2, h3, h4, h5, h6, h7⟩⟩ := h
  · refine ⟨none, 0, rfl, by simpa using h1, Nat.le_refl _, by omega, fun h => by omega⟩
  · have hl : xs.length = n := by simpa using h1
    refine ⟨_, cap, rfl, hl, h4, by simp [maxLen] at h5; omega, fun _ => ⟨g, 0, rfl, fun j x hj => ?_⟩⟩
    have hjn : j < n := by rw [← hl]; exact (List.getElem?_eq_some_iff.1 hj).1
    have e1 : (cur.toList.take (n * 1))[j]? = some (.int .u64 (x : Nat)) := by rw [h7, List.getElem?_map, hj]; rfl
    rw [List.getElem?_take_of_lt (by omega), Array.getElem?_toList] at e1
    rw [Nat.zero_add]
    simp [World.cell?, h3, e1]
theorem Tryd.infoU64 : (Tryd.prog.info? 38).map (fun i => (i.zero, i.size, i.bytes)) = some (some (.int .u64 0), 1, 8) := by kernel_rfl

/-- xor.values: a function value over two boxes: how many, and the reader's pointer. -/
theorem values_any (g : Nat) (m : Int) (w : World) : Calls Tryd.prog 76 #[.pointer (some ⟨g, 0, none⟩), .int .i64 m] w fun e w' => e = .returned (.func (.func 86) #[] #[.pointer (some ⟨w.heap.size + 1, 0, none⟩), .pointer (some ⟨w.heap.size, 0, none⟩)]) ∧ w' = (w.alloc (.cells #[.pointer (some ⟨g, 0, none⟩)] 59)).alloc (.cells #[.int .i64 m] 3) := by
  go_enter Tryd.func76, Tryd.ntmps76
  go_wp2_with fail
  go_ret
  exact ⟨rfl, rfl⟩
/-- Between two rounds of Read's loop: its boxes b1, b2 (what it answers), b3 (the row). -/
def XdI (s b1 b2 b3 : Nat) (w : World) (r : Option Nat) (pre : List (Nat × Int)) (W : World) : Prop :=
  (∃ v, Blk W b3 46 #[v] ∧ W.ownsRow (s + 2) 38 1 v pre.length ((pre.map (·.1)).map fun (x : Nat) => .int .u64 (x : Nat)) ∧ r = v.ownBlock) ∧
  Blk W b1 46 #[.slice none 0 0] ∧ Blk W b2 28 #[.int .i64 0] ∧ (∀ x ∈ pre, x.2 = 0) ∧ Below w.heap.size w W ∧ s ≤ W.heap.size
/-- A round of it has left. -/
def XdX (s b1 b2 : Nat) (w : World) (c : Code) (pre : List (Nat × Int)) (W : World) : Prop :=
  (c = .ret ∧ ∃ pre' z C, pre = pre' ++ [(z, C)] ∧ (∀ x ∈ pre', x.2 = 0) ∧ C ≠ 0 ∧ Blk W b1 46 #[.slice none 0 0] ∧ Blk W b2 28 #[.int .i64 C]) ∧
  Below w.heap.size w W ∧ s ≤ W.heap.size
section
variable {s b1 b2 b3 : Nat} {w A B : World} {r : Option Nat} {pre : List (Nat × Int)} {c : Code}
theorem XdI.same (h : XdI s b1 b2 b3 w r pre A) (hk : ∀ k, k = b1 ∨ k = b2 ∨ k = b3 ∨ r = some k → B.heap[k]? = A.heap[k]?) (hb : Below w.heap.size w B) (hs : s ≤ B.heap.size) : XdI s b1 b2 b3 w r pre B := by
  obtain ⟨⟨v, h3, ho, rfl⟩, h1, h2, hc, _, _⟩ := h
  exact ⟨⟨v, h3.same (hk _ (by simp)), own_same ho fun k e => hk k (by simp [e]), rfl⟩, h1.same (hk _ (by simp)), h2.same (hk _ (by simp)), hc, hb, hs⟩
theorem XdI.row (h : XdI s b1 b2 b3 w r pre A) : ∀ k, r = some k → s + 2 ≤ k ∧ k < A.heap.size := by
  obtain ⟨⟨v, _, ho, rfl⟩, _⟩ := h
  exact fun k hk => ho.lt k hk
theorem XdI.lts (h : XdI s b1 b2 b3 w r pre A) : b1 < A.heap.size ∧ b2 < A.heap.size ∧ b3 < A.heap.size := by
  obtain ⟨⟨v, h3, _, _⟩, h1, h2, _⟩ := h
  exact ⟨h1.lt, h2.lt, h3.lt⟩
theorem XdX.put (h : XdX s b1 b2 w c pre A) {l : Nat} (o : Obj) (hl : s ≤ l) (h1 : b1 < s) (h2 : b2 < s) (hw : w.heap.size ≤ s) : XdX s b1 b2 w c pre (A.putObj l o) := by
  have hk : ∀ k, k ≠ l → (A.putObj l o).heap[k]? = A.heap[k]? := fun k hk => World.putObj_heap_other hk
  obtain ⟨⟨rfl, p, z, C, e, hc, hC, r1, r2⟩, hb, hs⟩ := h
  exact ⟨⟨rfl, p, z, C, e, hc, hC, r1.same (hk _ (by omega)), r2.same (hk _ (by omega))⟩, below_putObj hb (by omega) o, by simpa using hs⟩
end

attribute [local go_sem] Oper.semAt_some
set_option maxRecDepth 100000 in
set_option maxHeartbeats 3200000 in
theorem xRead_any (w : World) (a0 : Option Addr) (len cap n : Nat) (bs : List Int) (hR : RB w a0 len cap bs) (hbs : ∀ x ∈ bs, Byte x) (hle : len ≤ 1000000) (hT : XorTab w) (hn : n ≤ 4096) :
    Calls Tryd.prog 49 #[.slice a0 len cap, .int .i64 (n : Nat)] w fun e w' => AnsX w w' (readsX n (unB bs) 0 0 64 0) e ∧ Below w.heap.size w w' := by
  refine (callsIn_wide (n := 3)).1 ?_
  refine callsIn_of_wp_marks Tryd.func49 rfl trivial ?_ rfl
  simp only [Tryd.ntmps49, List.size_toArray, List.length_cons, List.length_nil, Nat.reduceAdd, Nat.reduceSub, Array.replicate_succ, Array.replicate_zero, List.push_toArray, List.append_toArray, List.nil_append, List.cons_append]
  have hw0 := hT.pos
  have X1 := Blk.new w 46 #[.slice none 0 0]
  have X2 := Blk.new (w.alloc (.cells #[.slice none 0 0] 46)) 28 #[.int .i64 0]
  have X3 := Blk.new ((w.alloc (.cells #[.slice none 0 0] 46)).alloc (.cells #[.int .i64 0] 28)) 46 #[.slice none 0 0]
  simp only [World.size_alloc, Nat.add_assoc, Nat.reduceAdd] at X2 X3
  have A4 : Below w.heap.size w (((w.alloc (.cells #[.slice none 0 0] 46)).alloc (.cells #[.int .i64 0] 28)).alloc (.cells #[.slice none 0 0] 46)) := (((Below.refl _ w).alloc (Nat.le_refl _) _).alloc (by simp) _).alloc (by simp; omega) _
  have hs4 : (((w.alloc (.cells #[.slice none 0 0] 46)).alloc (.cells #[.int .i64 0] 28)).alloc (.cells #[.slice none 0 0] 46)).heap.size = w.heap.size + 3 := by simp
  have Y1 := (X1.alloc (.cells #[.int .i64 0] 28)).alloc (.cells #[.slice none 0 0] 46)
  have Y2 := X2.alloc (.cells #[.slice none 0 0] 46)
  have T4 := hT.below A4
  have R4 := hR.below A4
  clear X1 X2
  have e1 : ((n : Int) < 0) = False := by simp
  have e2 : decide ((n : Int) < 0) = false := by simp
  have e3 : decide ((n : Int) > 4096) = false := by simp; omega
  have e5 : decide ((4096 : Int) < n) = false := by simp; omega
  gi_wp2
  refine ⟨trivial, ?_⟩
  refine (callsIn_wide.2 (NewReader_any a0 len cap bs _ (w.heap.size + 3) R4 hle (by rw [hs4]; exact Nat.le_refl _))).mono ?_
  rintro e u5 ⟨g, R, rfl, hg, hRl, D5, B5⟩
  rw [hs4] at hg hRl
  have H5 := A4.trans (B5.mono A4.size)
  gi_wp2
  refine ⟨trivial, ?_⟩
  refine (callsIn_wide.2 (values_any g n _)).mono ?_
  rintro e u6 ⟨rfl, rfl⟩
  gi_wp2
  obtain ⟨b1, hb1⟩ : ∃ b, w.heap.size = b := ⟨_, rfl⟩
  obtain ⟨b2, hb2⟩ : ∃ b, w.heap.size + 1 = b := ⟨_, rfl⟩
  obtain ⟨b3, hb3⟩ : ∃ b, w.heap.size + 2 = b := ⟨_, rfl⟩
  have A6 : Below u5.heap.size u5 ((u5.alloc (.cells #[.pointer (some ⟨g, 0, none⟩)] 59)).alloc (.cells #[.int .i64 (n : Nat)] 3)) := ((Below.refl _ u5).alloc (Nat.le_refl _) _).alloc (by simp) _
  have Z1 := ((Y1.below B5).below A6)
  have Z2 := ((Y2.below B5).below A6)
  have Z3 := ((X3.below B5).below A6)
  have Bn6 : ((u5.alloc (.cells #[.pointer (some ⟨g, 0, none⟩)] 59)).alloc (.cells #[.int .i64 (n : Nat)] 3)).cell? ⟨u5.heap.size, 0, none⟩ = some (.pointer (some ⟨g, 0, none⟩)) := ((Blk.new u5 59 #[.pointer (some ⟨g, 0, none⟩)]).alloc _).cell 0
  have Nn6 : ((u5.alloc (.cells #[.pointer (some ⟨g, 0, none⟩)] 59)).alloc (.cells #[.int .i64 (n : Nat)] 3)).cell? ⟨u5.heap.size + 1, 0, none⟩ = some (.int .i64 (n : Nat)) := by
    have := (Blk.new (u5.alloc (.cells #[.pointer (some ⟨g, 0, none⟩)] 59)) 3 #[.int .i64 (n : Nat)]).cell 0
    rw [World.size_alloc] at this
    exact this
  have D6 := D5.below A6
  have T6 := (T4.below B5).below A6
  have H6 := H5.trans (A6.mono H5.size)
  have hgl := D5.lt
  have hs5 : w.heap.size + 3 ≤ u5.heap.size := by have := B5.size; omega
  have hs6 : ((u5.alloc (.cells #[.pointer (some ⟨g, 0, none⟩)] 59)).alloc (.cells #[.int .i64 (n : Nat)] 3)).heap.size = u5.heap.size + 2 := by simp
  rw [hb1] at Z1
  rw [hb2] at Z2
  rw [hb3] at Z3
  rw [show w.heap.size + 1 + 1 = b3 from by omega, hb2]
  obtain ⟨W0, hW0⟩ : ∃ W0, (u5.alloc (.cells #[.pointer (some ⟨g, 0, none⟩)] 59)).alloc (.cells #[.int .i64 (n : Nat)] 3) = W0 := ⟨_, rfl⟩
  obtain ⟨s, hs⟩ : ∃ s, W0.heap.size = s := ⟨_, rfl⟩
  rw [hW0] at Z1 Z2 Z3 Bn6 Nn6 D6 T6 H6 hs6 ⊢
  rw [hs] at hs6
  have FD := vals_feeds 2 (by omega) (w.heap.size + 3) g u5.heap.size (u5.heap.size + 1) n R bs (fun k => k = b1 ∨ k = b2 ∨ k = b3) W0 D6 T6 (by omega) hbs (fun k hk => by have := (hRl k hk).2; omega) hn Bn6 Nn6 (by omega) (fun k hk => by have := (hRl k hk).2; omega)
    (by omega) (by omega) (fun k hk => by have := (hRl k hk).1; omega) (by omega) (fun k hk => by omega)
  clear X3 Y1 Y2 T4 R4 A4 A6 B5 D5 H5 hs4 hW0
  refine range_by (F := Fence.wide) (n := 3) rfl (by omega) (gf := 86) (lb := #[.pointer (some ⟨u5.heap.size + 1, 0, none⟩), .pointer (some ⟨u5.heap.size, 0, none⟩)]) rfl trivial (enters_of Tryd.func86 (by kernel_rfl) rfl) FD (fun _ => rfl) (fun k hk => by omega) (by omega)
    (XdI s b1 b2 b3 w) (XdX s b1 b2 w) ?hB ?hM ?hL ?hLx ?hr ?h0
    (fun x => { tmps := #[.slice a0 len cap, .int .i64 (n : Nat), undef, undef, .pointer (some ⟨b1, 0, none⟩), .pointer (some ⟨b2, 0, none⟩), .pointer (some ⟨b3, 0, none⟩), .int .u64 (x.1 : Nat), .int .i64 x.2, .int .i64 (n : Nat), .bool false, .bool false, .int .i64 (n : Nat), .bool false, .bool false, .slice a0 len cap, .pointer (some ⟨g, 0, none⟩), .int .i64 (n : Nat), .func (.func 86) #[] #[.pointer (some ⟨u5.heap.size + 1, 0, none⟩), .pointer (some ⟨u5.heap.size, 0, none⟩)], .int .u64 (x.1 : Nat), .int .i64 x.2, undef, undef, undef, undef, undef, undef, undef, undef], defers := [] }) ?hassign ?hbody ?hdone ?hstop
  case hB =>
    intro r pre A B h hb
    exact h.same (fun k hk => hb.block k (by have := h.lts; have := h.row; rcases hk with rfl | rfl | rfl | e <;> first | omega | exact (this k e).2)) (h.2.2.2.2.1.trans (hb.mono h.2.2.2.2.1.size)) (by have := h.2.2.2.2.2; have := hb.size; omega)
  case hM =>
    intro r pre A B h hm
    have hmm := hm
    obtain ⟨x, ht, hc, hx⟩ := hm
    have hlt := h.lts
    have hrw := h.row
    have h7 := h.2.2.2.2
    refine h.same (fun k hk => ht.block k ?_ ?_ (by simp)) (below_moved h7.1 hmm (by omega) (by omega) (by omega)) (by have := h7.2; have := ht.size; omega)
    · rcases hk with rfl | rfl | rfl | e
      · exact hlt.1
      · exact hlt.2.1
      · exact hlt.2.2
      · exact (hrw k e).2
    · rcases hk with rfl | rfl | rfl | e <;> first | omega | skip
      rcases hx with rfl | ⟨_, hx⟩
      · have := (hrw k e).1; omega
      · rintro rfl; exact hx e.symm
  case hL =>
    intro r pre A l o h hl hlr
    refine h.same (fun k hk => World.putObj_heap_other ?_) (below_putObj h.2.2.2.2.1 (by omega) o) (by simpa using h.2.2.2.2.2)
    rcases hk with rfl | rfl | rfl | e <;> first | omega | skip
    rintro rfl; exact hlr e.symm
  case hLx =>
    intro c pre A l o h h1 h2
    exact h.put o (by omega) (by omega) (by omega) (by omega)
  case hr =>
    intro r pre A h k hk
    rw [hs]; exact h.row k hk
  case h0 =>
    exact ⟨⟨_, Z3, World.ownsRow_nil _ _ _ _, rfl⟩, Z1, Z2, (fun _ h => by cases h), H6, by omega⟩
  case hassign =>
    intro l x W K hK
    gi_wp2
    exact hK
  case hbody =>
    rintro l r pre ⟨t, C⟩ W hWs ⟨⟨v, h3, ho, hrv⟩, h1, h2, hc, hb, hsz⟩ hlt
    have c1 : W.cell? ⟨b1, 0, none⟩ = some (.slice none 0 0) := h1.cell 0
    have c2 : W.cell? ⟨b2, 0, none⟩ = some (.int .i64 0) := h2.cell 0
    have c3 : W.cell? ⟨b3, 0, none⟩ = some v := h3.cell 0
    have f1 := h1.frozen 0
    have f2 := h2.frozen 0
    dsimp only
    by_cases hC : C = 0
    · subst hC
      have hrow := ho.lt
      gi_wp2_with (gi_at_builtin; refine app_one_in (s + 2) rfl _ _ 46 38 (.int .u64 0) 8 rfl Tryd.underlying46 Tryd.infoU64 rfl v pre.length _ (.int .u64 (t : Nat)) rfl rfl rfl ho (by omega) (by omega) (by omega) ?_; intro r8 c8 w8 O8 G8 at8; have X8 := h3.grown G8 (fun e => by have := (hrow _ e.symm).1; omega); have q8 : w8.cell? ⟨b3, 0, none⟩ = some v := X8.cell 0; have f8 := X8.frozen 0)
      have hne : ∀ k, k < s + 2 → some k ≠ v.ownBlock := fun k hk e => by have := (hrow _ e.symm).1; omega
      have hr8 := O8.lt r8 rfl
      have G1 := h1.grown G8 (hne _ (by omega))
      have G2 := h2.grown G8 (hne _ (by omega))
      obtain ⟨V, hV⟩ : ∃ V, Value.slice (some ⟨r8, 0, none⟩) (pre.length + 1) c8 = V := ⟨_, rfl⟩
      have hVo : V.ownBlock = some r8 := by rw [← hV]; rfl
      rw [hV] at O8 ⊢
      have ob : ∀ k, k ≠ b3 → (w8.setCell ⟨b3, 0, none⟩ V).heap[k]? = w8.heap[k]? := fun k hk => Below.heap_setCell w8 _ _ k hk
      have X9 : Blk (w8.setCell ⟨b3, 0, none⟩ V) b3 46 #[V] := X8.set_ 0 V
      have O9 : (w8.setCell ⟨b3, 0, none⟩ V).ownsRow (s + 2) 38 1 V (pre ++ [(t, (0 : Int))]).length (((pre ++ [(t, (0 : Int))]).map (·.1)).map fun (x : Nat) => .int .u64 (x : Nat)) := by
        have := own_same O8 (B := w8.setCell ⟨b3, 0, none⟩ V) fun k hk => ob k (by rw [hVo] at hk; injection hk; omega)
        simpa using this
      have hc9 : ∀ x ∈ pre ++ [(t, (0 : Int))], x.2 = 0 := fun x hx => (List.mem_append.1 hx).elim (hc x) fun h => by rw [List.mem_singleton.1 h]
      have N1 := G1.same (ob b1 (by omega))
      have N2 := G2.same (ob b2 (by omega))
      have H8 := hb.grown G8 hb.size (fun k e => by have := (hrow _ e).1; omega)
      have H9 : Below w.heap.size w (w8.setCell ⟨b3, 0, none⟩ V) := H8.setCell (p := ⟨b3, 0, none⟩) (by show _ ≤ b3; omega) V
      have hz8 := G8.size
      have hz9 : (w8.setCell ⟨b3, 0, none⟩ V).heap.size = w8.heap.size := by simp [World.setCell]
      have kp : ∀ k, k < W.heap.size → k ≠ b3 → some k ≠ v.ownBlock → (w8.setCell ⟨b3, 0, none⟩ V).heap[k]? = W.heap[k]? := fun k hk hk3 hkr => (ob k hk3).trans (G8.block k hk hkr)
      refine ⟨some r8, ⟨⟨V, X9, O9, hVo.symm⟩, N1, N2, hc9, H9, by omega⟩, ?_, by omega, fun k hk hC hkr => kp k hk (fun e => hC (by simp [e])) (by rw [← hrv]; exact hkr)⟩
      rcases at8 with e | e
      · exact .inl (by rw [hrv, e])
      · exact .inr ⟨_, rfl, e⟩
    · have hC1 : (C != 0) = true := by simp [hC]
      have hC2 : (C == 0) = false := beq_eq_false_iff_ne.2 hC
      gi_wp2
      have M1 : Blk (W.setCell ⟨b1, 0, none⟩ (.slice none 0 0)) b1 46 #[.slice none 0 0] := h1.set_ 0 _
      have M2 : Blk (W.setCell ⟨b1, 0, none⟩ (.slice none 0 0)) b2 28 #[.int .i64 0] := h2.far (p := ⟨b1, 0, none⟩) (by show b2 ≠ b1; omega) _
      have ob : ∀ k, k ≠ b1 → k ≠ b2 → ((W.setCell ⟨b1, 0, none⟩ (.slice none 0 0)).setCell ⟨b2, 0, none⟩ (.int .i64 C)).heap[k]? = W.heap[k]? := fun k hk1 hk2 => (Below.heap_setCell _ _ _ k hk2).trans (Below.heap_setCell _ _ _ k hk1)
      exact ⟨⟨⟨rfl, pre, t, C, rfl, hc, hC, M1.far (p := ⟨b2, 0, none⟩) (by show b1 ≠ b2; omega) _, M2.set_ 0 _⟩, (hb.setCell (p := ⟨b1, 0, none⟩) (by show _ ≤ b1; omega) _).setCell (p := ⟨b2, 0, none⟩) (by show _ ≤ b2; omega) _, by simpa [World.setCell] using hsz⟩, ob _ (by omega) (by omega), ob _ (by omega) (by omega)⟩
  case hdone =>
    rintro r xs W hS ⟨⟨v, h3, ho, hrv⟩, h1, h2, hc, hb, hsz⟩ hD
    subst hS
    have hQ := vals_reads n _ _ _ _ _ hc
    obtain ⟨pre, hpre⟩ : ∃ pre, valsX n (unB bs) 0 0 64 0 = pre := ⟨_, rfl⟩
    rw [hpre] at ho hc hQ
    have c3 : W.cell? ⟨b3, 0, none⟩ = some v := h3.cell 0
    have c1 : W.cell? ⟨b1, 0, none⟩ = some (.slice none 0 0) := h1.cell 0
    have c2 : W.cell? ⟨b2, 0, none⟩ = some (.int .i64 0) := h2.cell 0
    have f1 := h1.frozen 0
    have f2 := h2.frozen 0
    have hrow := ho.lt
    obtain ⟨A7, c7, e7, R7⟩ := RU.of_own ho
    subst e7
    rw [hb1]
    gi_wp2
    have M1 : Blk (W.setCell ⟨b1, 0, none⟩ (.slice A7 pre.length c7)) b1 46 #[.slice A7 pre.length c7] := h1.set_ 0 _
    have M2 : Blk (W.setCell ⟨b1, 0, none⟩ (.slice A7 pre.length c7)) b2 28 #[.int .i64 0] := h2.far (p := ⟨b1, 0, none⟩) (by show b2 ≠ b1; omega) _
    have N1 : Blk ((W.setCell ⟨b1, 0, none⟩ (.slice A7 pre.length c7)).setCell ⟨b2, 0, none⟩ (.int .i64 0)) b1 46 #[.slice A7 pre.length c7] := M1.far (p := ⟨b2, 0, none⟩) (by show b1 ≠ b2; omega) _
    have N2 : Blk ((W.setCell ⟨b1, 0, none⟩ (.slice A7 pre.length c7)).setCell ⟨b2, 0, none⟩ (.int .i64 0)) b2 28 #[.int .i64 0] := M2.set_ 0 _
    have ob : ∀ k, k ≠ b1 → k ≠ b2 → ((W.setCell ⟨b1, 0, none⟩ (.slice A7 pre.length c7)).setCell ⟨b2, 0, none⟩ (.int .i64 0)).heap[k]? = W.heap[k]? := fun k hk1 hk2 => (Below.heap_setCell _ _ _ k hk2).trans (Below.heap_setCell _ _ _ k hk1)
    have hD2 := (ob W0.heap.size (by omega) (by omega)).trans hD
    have R8 : RU (((W.setCell ⟨b1, 0, none⟩ (.slice A7 pre.length c7)).setCell ⟨b2, 0, none⟩ (.int .i64 0)).putObj W0.heap.size (.deferred none)) A7 pre.length c7 (pre.map (·.1)) := by
      obtain ⟨A8, c8, e8, R8⟩ := RU.of_own (own_same ho (B := ((W.setCell ⟨b1, 0, none⟩ (.slice A7 pre.length c7)).setCell ⟨b2, 0, none⟩ (.int .i64 0)).putObj W0.heap.size (.deferred none)) fun k hk => (World.putObj_heap_other (by have := (hrow k hk).1; omega)).trans (ob k (by have := (hrow k hk).1; omega) (by have := (hrow k hk).1; omega)))
      cases e8
      exact R8
    have q1 : (((W.setCell ⟨b1, 0, none⟩ (.slice A7 pre.length c7)).setCell ⟨b2, 0, none⟩ (.int .i64 0)).putObj W0.heap.size (.deferred none)).cell? ⟨b1, 0, none⟩ = some (.slice A7 pre.length c7) := (N1.same (World.putObj_heap_other (by omega))).cell 0
    have q2 : (((W.setCell ⟨b1, 0, none⟩ (.slice A7 pre.length c7)).setCell ⟨b2, 0, none⟩ (.int .i64 0)).putObj W0.heap.size (.deferred none)).cell? ⟨b2, 0, none⟩ = some (.int .i64 0) := (N2.same (World.putObj_heap_other (by omega))).cell 0
    refine ⟨by simp, .inl ⟨_, _, rfl, run_takeDeferred hD2, ?_⟩⟩
    refine ⟨.tuple #[.slice A7 pre.length c7, .int .i64 0], by simp [results, Tryd.results49, go_sem, q1, q2], ?_, below_putObj ((hb.setCell (p := ⟨b1, 0, none⟩) (by show _ ≤ b1; omega) _).setCell (p := ⟨b2, 0, none⟩) (by show _ ≤ b2; omega) _) (by omega) _⟩
    rw [hQ]
    show ∃ A c, _ = Ending.returned (.tuple #[.slice A (pre.map (·.1)).length c, .int .i64 0]) ∧ RU _ A (pre.map (·.1)).length c (pre.map (·.1))
    rw [List.length_map]
    exact ⟨_, _, rfl, R8⟩
  case hstop =>
    rintro c pre W hS ⟨⟨rfl, pre', z, C, rfl, hc, hC, h1, h2⟩, hb, hsz⟩ hD
    have hQ := vals_stop pre' n _ _ _ _ _ z C hS hc hC
    rw [hb1]
    gi_wp2
    refine ⟨by simp, .inl ⟨_, _, rfl, run_takeDeferred hD, ?_⟩⟩
    have q1 : (W.putObj W0.heap.size (.deferred none)).cell? ⟨b1, 0, none⟩ = some (.slice none 0 0) := (h1.same (World.putObj_heap_other (by omega))).cell 0
    have q2 : (W.putObj W0.heap.size (.deferred none)).cell? ⟨b2, 0, none⟩ = some (.int .i64 C) := (h2.same (World.putObj_heap_other (by omega))).cell 0
    refine ⟨.tuple #[.slice none 0 0, .int .i64 C], by simp [results, Tryd.results49, go_sem, q1, q2], ?_, below_putObj hb (by omega) _⟩
    rw [hQ]
    exact ansX_code _ _ _
end Go.Proofs.YtlgndfckmnninaaDoor
