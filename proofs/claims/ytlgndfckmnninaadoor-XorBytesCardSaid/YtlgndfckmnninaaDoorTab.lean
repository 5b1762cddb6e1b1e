/- The tables as the program's text lays them. Conditions: the rows' own. -/
import Derived.Test.YtlgndfckmnninaaDoorBitsC
import Derived.Test.YtlgndfckmnninaaDoorRows
import Derived.ChangeSame
import Derived.ChangeVars
import Derived.JoinedOf
import Derived.LaidMore
import Derived.OpenShut
import Derived.Shelf.Spec.TrailingZeros
namespace Go.Proofs.YtlgndfckmnninaaDoor
open Go.RowKit

theorem Tryd.clName : Tryd.prog.globalNamed "tidepole/stamp.classes" = some 0 := by kernel_rfl
theorem Tryd.dbName : Tryd.prog.globalNamed "math/bits.deBruijn64tab" = some 1 := by kernel_rfl
theorem Tryd.clType : (Tryd.prog.globals[0]?).map (·.type) = some 105 := by kernel_rfl
theorem Tryd.dbType : (Tryd.prog.globals[1]?).map (·.type) = some 142 := by kernel_rfl
theorem Tryd.clCells : Tryd.prog.cellsOf 105 = 15 := by kernel_rfl
theorem Tryd.clCells1 : Tryd.prog.cellsOf 104 = 3 := by kernel_rfl
theorem Tryd.dbCells : Tryd.prog.cellsOf 142 = 64 := by kernel_rfl
theorem Tryd.dbCells1 : Tryd.prog.cellsOf 5 = 1 := by kernel_rfl

theorem int_lit {H : Type} {enc : TypeId × Value → H} {P : Program} {w : World} {base : Nat} {sp : Nat → Bool} {held : Bool} {fuel : Nat} {t : TypeId} {k : IntKind} {c : Value} {y : DataW H × List MemPlace}
    (ht : P.underlying t = some (.int k)) (h : DataW.trod enc P w base sp held fuel t [c] = some y) : ∃ n, c = .int k n ∧ y.2 = [] ∧ y.1 = .lit (.int k n) := by
  cases fuel with
  | zero => simp [DataW.trod] at h
  | succ fuel =>
    cases c <;> simp [DataW.trod, ht] at h
    rename_i k' n
    obtain ⟨⟨rfl, _⟩, rfl⟩ := h
    exact ⟨n, rfl, rfl, rfl⟩

/-- A row of whole numbers that is told. -/
theorem row_ints {H : Type} {enc : TypeId × Value → H} {P : Program} {w : World} {base : Nat} {sp : Nat → Bool} {held : Bool} {fuel n : Nat} {t e : TypeId} {k : IntKind} {cs : List Value} {zs : List Int} {p : List MemPlace}
    (ht : P.underlying t = some (.array n e)) (he : P.underlying e = some (.int k)) (hc : P.cellsOf e = 1) (hct : P.cellsOf t = n)
    (h : DataW.trod enc P w base sp held fuel t cs = some (.agg (zs.map fun z => .lit (.int k z)), p)) : cs = zs.map (Value.int k) := by
  obtain ⟨xs, m, _, ex, hlen, hl, hel⟩ := DataW.trod_array ht h
  have e3 := DataW.agg.inj (Prod.mk.inj ex).1
  rw [hct] at hlen
  have hz : zs.length = n := by have := congrArg List.length e3; simpa [hl] using this
  apply List.ext_getElem (by simp [hlen, hz])
  intro i h1 h2
  have hi : i < n := by omega
  have k0 := hel i hi
  rw [hc, Nat.mul_one, List.drop_eq_getElem_cons h1, List.take_succ_cons, List.take_zero, List.getElem?_eq_getElem (by omega)] at k0
  obtain ⟨z, hz1, _, hz2⟩ := int_lit he k0
  have e4 := congrArg (fun l => l[i]?) e3
  simp only [List.getElem?_map, List.getElem?_eq_getElem (show i < zs.length by omega), List.getElem?_eq_getElem (show i < xs.length by omega), Option.map_some, hz2, Option.some.injEq, DataW.lit.injEq, Lit.int.injEq, true_and] at e4
  rw [List.getElem_map, hz1, e4]

/-- A struct of three whole numbers that is told. -/
theorem three_ints {H : Type} {enc : TypeId × Value → H} {P : Program} {w : World} {base : Nat} {sp : Nat → Bool} {held : Bool} {fuel : Nat} {t : TypeId} {f0 f1 f2 : Field} {k : IntKind} {cs : List Value} {x : DataW H × List MemPlace} {a b c : Int}
    (hs : P.underlying t = some (.struct #[f0, f1, f2])) (hC : P.cellsOf t = 3) (o0 : f0.offset = 0) (o1 : f1.offset = 1) (o2 : f2.offset = 2) (c0 : P.cellsOf f0.type = 1) (c1 : P.cellsOf f1.type = 1) (c2 : P.cellsOf f2.type = 1)
    (u0 : P.underlying f0.type = some (.int k)) (u1 : P.underlying f1.type = some (.int k)) (u2 : P.underlying f2.type = some (.int k))
    (h : DataW.trod enc P w base sp held fuel t cs = some x) (hx : x.1 = .agg [.lit (.int k a), .lit (.int k b), .lit (.int k c)]) : cs = [.int k a, .int k b, .int k c] := by
  obtain ⟨xs, m, _, ex, hlen, hl, hel⟩ := DataW.trod_struct hs h
  rw [hC] at hlen
  subst ex
  have e3 := DataW.agg.inj hx
  have k0 := hel 0 f0 rfl
  have k1 := hel 1 f1 rfl
  have k2 := hel 2 f2 rfl
  rw [o0, c0] at k0
  rw [o1, c1] at k1
  rw [o2, c2] at k2
  match cs, hlen with
  | [v0, v1, v2], _ =>
    match xs, hl with
    | [x0, x1, x2], _ =>
      simp only [List.map_cons, List.map_nil, List.cons.injEq, and_true] at e3
      obtain ⟨z0, rfl, _, y0⟩ := int_lit u0 k0
      obtain ⟨z1, rfl, _, y1⟩ := int_lit u1 k1
      obtain ⟨z2, rfl, _, y2⟩ := int_lit u2 k2
      rw [e3.1] at y0
      rw [e3.2.1] at y1
      rw [e3.2.2] at y2
      injection y0 with y0; injection y0 with _ y0
      injection y1 with y1; injection y1 with _ y1
      injection y2 with y2; injection y2 with _ y2
      rw [y0, y1, y2]

/-- The classes, number by number. -/
def clList : List Int := [0, 1, 0, 1, 1, 7, 2, 1, 12, 3, 1, 20, 4, 0, 48]
/-- The table of stamp's classes lies where the program's text lays it. -/
def StampTab (w : World) : Prop := ∀ j, j < 15 → w.cell? ⟨0, j, none⟩ = some (.int .i64 (clList.getD j 0))

set_option maxRecDepth 20000 in
theorem stampTab_of {W : World} (h : laidMetH Tryd.prog [("tidepole/stamp.classes", Rows.laid_tidepole_stamp_classes)] W) : StampTab W := by
  rw [MakeChecks.laidMetH_plain _ _ _ (by kernel_rfl)] at h
  obtain ⟨ps, ⟨g, t, cs, fuel, p, q, hg, ht, hv, hd, _, _⟩, _, _⟩ := h
  obtain rfl := Option.some.inj (Tryd.clName.symm.trans hg)
  obtain rfl := Option.some.inj (Tryd.clType.symm.trans ht)
  obtain ⟨xs, m, _, ex, hlen, hl, hel⟩ := DataW.trod_array Tryd.underlying105 hd
  rw [Tryd.clCells] at hlen
  have e3 := DataW.agg.inj (Prod.mk.inj ex).1
  obtain ⟨l⟩ := cs
  match l, hlen with
  | [a0, a1, a2, a3, a4, a5, a6, a7, a8, a9, a10, a11, a12, a13, a14], _ =>
    match xs, hl with
    | [x0, x1, x2, x3, x4], _ =>
      simp only [List.map_cons, List.map_nil, List.cons.injEq, and_true] at e3
      obtain ⟨g0, g1, g2, g3, g4⟩ := e3
      have h0 := hel 0 (by omega)
      rw [Tryd.clCells1] at h0
      have k0 := three_ints (k := .i64) Tryd.underlying104 Tryd.clCells1 rfl rfl rfl (by kernel_rfl) (by kernel_rfl) (by kernel_rfl) Tryd.underlying3 Tryd.underlying3 Tryd.underlying3 h0 g0.symm
      have h1 := hel 1 (by omega)
      rw [Tryd.clCells1] at h1
      have k1 := three_ints (k := .i64) Tryd.underlying104 Tryd.clCells1 rfl rfl rfl (by kernel_rfl) (by kernel_rfl) (by kernel_rfl) Tryd.underlying3 Tryd.underlying3 Tryd.underlying3 h1 g1.symm
      have h2 := hel 2 (by omega)
      rw [Tryd.clCells1] at h2
      have k2 := three_ints (k := .i64) Tryd.underlying104 Tryd.clCells1 rfl rfl rfl (by kernel_rfl) (by kernel_rfl) (by kernel_rfl) Tryd.underlying3 Tryd.underlying3 Tryd.underlying3 h2 g2.symm
      have h3 := hel 3 (by omega)
      rw [Tryd.clCells1] at h3
      have k3 := three_ints (k := .i64) Tryd.underlying104 Tryd.clCells1 rfl rfl rfl (by kernel_rfl) (by kernel_rfl) (by kernel_rfl) Tryd.underlying3 Tryd.underlying3 Tryd.underlying3 h3 g3.symm
      have h4 := hel 4 (by omega)
      rw [Tryd.clCells1] at h4
      have k4 := three_ints (k := .i64) Tryd.underlying104 Tryd.clCells1 rfl rfl rfl (by kernel_rfl) (by kernel_rfl) (by kernel_rfl) Tryd.underlying3 Tryd.underlying3 Tryd.underlying3 h4 g4.symm
      simp at k0 k1 k2 k3 k4
      intro j hj
      rw [World.var?_cell Tryd.clName hv j]
      obtain ⟨rfl, rfl, rfl⟩ := k0
      obtain ⟨rfl, rfl, rfl⟩ := k1
      obtain ⟨rfl, rfl, rfl⟩ := k2
      obtain ⟨rfl, rfl, rfl⟩ := k3
      obtain ⟨rfl, rfl, rfl⟩ := k4
      have hc : ∀ j : Fin 15, (#[Value.int .i64 0, .int .i64 1, .int .i64 0, .int .i64 1, .int .i64 1, .int .i64 7, .int .i64 2, .int .i64 1, .int .i64 12, .int .i64 3, .int .i64 1, .int .i64 20, .int .i64 4, .int .i64 0, .int .i64 48] : Array Value)[j.val]? = some (.int .i64 (clList.getD j.val 0)) := by
        intro j
        match j with
        | ⟨0, _⟩ | ⟨1, _⟩ | ⟨2, _⟩ | ⟨3, _⟩ | ⟨4, _⟩ | ⟨5, _⟩ | ⟨6, _⟩ | ⟨7, _⟩ | ⟨8, _⟩ | ⟨9, _⟩ | ⟨10, _⟩ | ⟨11, _⟩ | ⟨12, _⟩ | ⟨13, _⟩ | ⟨14, _⟩ => rfl
      exact hc ⟨j, hj⟩

/-- The library's table lies where its text lays it. -/
def XorTab (w : World) : Prop := TabAt 1 Lib.deBruijn64tab w

set_option maxRecDepth 20000 in
theorem xorTab_of {W : World} (h : laidMetH Tryd.prog [("math/bits.deBruijn64tab", Rows.laid_math_bits_deBruijn64tab)] W) : XorTab W := by
  rw [MakeChecks.laidMetH_plain _ _ _ (by kernel_rfl)] at h
  obtain ⟨ps, ⟨g, t, cs, fuel, p, q, hg, ht, hv, hd, _, _⟩, _, _⟩ := h
  obtain rfl := Option.some.inj (Tryd.dbName.symm.trans hg)
  obtain rfl := Option.some.inj (Tryd.dbType.symm.trans ht)
  have e := row_ints (k := .u8) (zs := Lib.deBruijn64tab.map (fun n : Nat => (n : Int))) Tryd.underlying142 Tryd.underlying5 Tryd.dbCells1 Tryd.dbCells hd
  intro j hj
  rw [World.var?_cell Tryd.dbName hv j]
  rw [show cs[j]? = cs.toList[j]? by simp, e]
  simp [hj]
theorem StampTab.below {w w' : World} (h : StampTab w) (hb : Below w.heap.size w w') : StampTab w' := fun j hj => cell_keep hb (h j hj)
theorem XorTab.below {w w' : World} (h : XorTab w) (hb : Below w.heap.size w w') : XorTab w' := fun j hj => cell_keep hb (h j hj)
end Go.Proofs.YtlgndfckmnninaaDoor
