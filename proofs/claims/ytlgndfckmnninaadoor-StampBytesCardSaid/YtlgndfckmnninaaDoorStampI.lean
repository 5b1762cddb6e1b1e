/- A copy of a slice of integers. Conditions: as stated. -/
import Derived.Test.YtlgndfckmnninaaDoorStampF
namespace Go.Proofs.YtlgndfckmnninaaDoor
open Go.RowKit
set_option linter.unusedVariables false

/-- Integers as cells. -/
def ics (xs : List Int) : List Value := xs.map fun x => .int .i64 x
section
variable {P : Program} {ops : Array Oper} {rest : List Oper} {o : Oper} {a : Act} {Q : Exit → Act → World → Prop}
theorem app_rowI {w0 W : World} (base : Nat) (hgd : o.guard = none) (s x : Operand) (t e : TypeId)
    (ho : o.op = .call { callee := .builtin .append, args := #[s, x], argTypes := #[t, t] })
    (ht : P.underlying t = some (.slice e)) (hinfo : (P.info? e).map (fun i => (i.zero, i.size, i.bytes)) = some (some (.int .i64 0), 1, 8))
    (v : Value) (n : Nat) (xs ys : List Int) (A : Option Addr) (m c : Nat) (hs : a.eval s = v) (hx : a.eval x = .slice A m c)
    (HO : W.ownsRow base e 1 v n (ics xs)) (HR : RI W A m c ys) (HB : Below base w0 W) (hbase : base ≤ W.heap.size) (hl : n + m ≤ 1000000000)
    (h : ∀ v1 w1, w1.ownsRow base e 1 v1 (n + m) (ics (xs ++ ys)) → Below base w0 w1 → base ≤ w1.heap.size → wpList P ops Q rest (a.put o.dst v1) w1) :
    wpList P ops Q (o :: rest) a W := by
  obtain ⟨i0, hi, hzz⟩ := Option.map_eq_some_iff.1 hinfo
  simp only [Prod.mk.injEq] at hzz
  obtain ⟨hz0, hz1, hz2⟩ := hzz
  obtain ⟨r1, r2, r3, r4⟩ := HR
  have hrun : ∃ v1 w1, (Builtin.append_ #[t, t] o.type #[v, .slice A m c]).run P W = .ok v1 w1 ∧ w1.ownsRow base e 1 v1 (n + m) (ics (xs ++ ys)) ∧ W.grownBy w1 v.ownBlock := by
    rcases A with _ | ad
    · obtain rfl : m = 0 := by
        rcases Nat.eq_zero_or_pos m with h0 | h0
        · exact h0
        · obtain ⟨b, off, e, _⟩ := r4 h0
          cases e
      obtain rfl : ys = [] := List.eq_nil_of_length_eq_zero r1
      exact ⟨v, W, run_append_of_nil W base t o.type e i0 1 ht hi v n (ics xs) HO c, by simpa using HO, World.grownBy.refl W _⟩
    · have hcells : ∀ j u, (ics ys)[j]? = some u → W.cell? (ad.add j) = some u := by
        intro j u hu
        rw [ics, List.getElem?_map] at hu
        obtain ⟨x, hxj, rfl⟩ := Option.map_eq_some_iff.1 hu
        have hj := (List.getElem?_eq_some_iff.1 hxj).1
        obtain ⟨b, off, e, hc⟩ := r4 (by omega)
        cases e
        have ha : (⟨b, off, none⟩ : Addr).add j = ⟨b, off + j, none⟩ := by unfold Addr.add; split <;> simp_all
        rw [ha, hc j x hxj]
      obtain ⟨v', w', hr, h2, h3, _, _⟩ := run_append_own_at (P := P) W base t o.type e i0 (.int .i64 0) 1 8 ht hi hz0 hz1 hz2 rfl (by omega) v n (ics xs) HO ad m c (ics ys) (by rw [ics, List.length_map]; omega) hcells
        (by intro u hu; simp [ics] at hu; obtain ⟨x, _, rfl⟩ := hu; rfl) (by simp only [maxLen]; omega) (by omega) hbase
      exact ⟨v', w', hr, by rw [ics, List.map_append]; exact h2, h3⟩
  obtain ⟨v1, w1, hr, hown, hg⟩ := hrun
  have hB1 := HB.grown hg hbase (fun k hk => (HO.lt k hk).1)
  refine wpList_plain hgd fun K hK => ?_
  unfold Oper.wp execOp
  simp only [ho, resolve, invoke, builtin, Sem.run_bind, Sem.run_pure, Result.andThen_ok, List.map_toArray, List.map_cons, List.map_nil, hs, hx, hr]
  exact hK _ _ (h v1 w1 hown hB1 (by have := hg.size; omega))
end
theorem ints_any (A : Option Addr) (n c : Nat) (xs : List Int) (w : World) (h : RI w A n c xs) (hn : n ≤ 1000000) :
    Calls Tryd.prog 38 #[.slice A n c] w fun e w' => ∃ A' c', e = .returned (.slice A' n c') ∧ RI w' A' n c' xs ∧ Below w.heap.size w w' := by
  have hB : Below w.heap.size w (w.alloc (.cells #[] 3)) := (Below.refl _ _).alloc (Nat.le_refl _) _
  have hR := h.below hB
  have hO := World.ownsRow_made (base := w.heap.size) (e := 3) (size := 1) w #[] 0 (Nat.le_refl _) (by simp [maxLen]) (by simp)
  go_enter Tryd.func38, Tryd.ntmps38
  go_wp2_with (at_builtin; refine app_rowI w.heap.size rfl _ _ _ 3 rfl Tryd.underlying72 Tryd.infoInt _ 0 [] xs A n c rfl rfl hO hR hB (by simp) (by omega) ?_; intro v1 w1 hown1 hB1 hz1)
  rw [Nat.zero_add, List.nil_append] at hown1
  obtain ⟨A', c', rfl, R'⟩ := RI.of_own (xs := xs) hown1
  go_ret
  exact ⟨A', c', rfl, R', hB1⟩
end Go.Proofs.YtlgndfckmnninaaDoor
