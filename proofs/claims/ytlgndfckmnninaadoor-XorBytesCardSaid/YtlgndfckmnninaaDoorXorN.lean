/- Read of values at every number of values, in the program and in the reference; what was written is read back; a copy of a slice of values. Conditions: as stated. -/
import Derived.Test.YtlgndfckmnninaaDoorXorM
import Derived.Test.YtlgndfckmnninaaDoorBitsL
namespace Go.Proofs.YtlgndfckmnninaaDoor
open Go.RowKit
set_option linter.unusedVariables false

/-- What a Read of n values says, whatever n. -/
def readsXI (n : Int) (l : List Bool) : Int × List Nat := if n < 0 ∨ 4096 < n then (2, []) else readsX n.toNat l 0 0 64 0
theorem xRead_out (w : World) (a0 : Option Addr) (len cap : Nat) (n : Int) (hn : n < 0 ∨ 4096 < n) :
    Calls Tryd.prog 49 #[.slice a0 len cap, .int .i64 n] w fun e w' => AnsX w w' (2, []) e ∧ Below w.heap.size w w' := by
  have A1 : Below w.heap.size w ((w.alloc (.cells #[.slice none 0 0] 46)).alloc (.cells #[.int .i64 2] 28)) := ((Below.refl _ w).alloc (Nat.le_refl _) _).alloc (by simp) _
  rcases hn with hn | hn
  · have e1 : decide (n < 0) = true := by simpa using hn
    go_enter Tryd.func49, Tryd.ntmps49
    go_wp2_with fail
    refine bodyPost_ret (v := .tuple #[.slice none 0 0, .int .i64 2]) (by simp [results, Tryd.results49, go_sem]) rfl ?_
    exact ⟨ansX_code _ _ _, A1⟩
  · have e1 : decide (n < 0) = false := by simp; omega
    have e2 : decide (4096 < n) = true := by simpa using hn
    go_enter Tryd.func49, Tryd.ntmps49
    go_wp2_with fail
    refine bodyPost_ret (v := .tuple #[.slice none 0 0, .int .i64 2]) (by simp [results, Tryd.results49, go_sem]) rfl ?_
    exact ⟨ansX_code _ _ _, A1⟩
theorem xrRead_out (w : World) (a0 : Option Addr) (len cap : Nat) (n : Int) (hn : n < 0 ∨ 4096 < n) :
    Calls Tryd.prog 50 #[.slice a0 len cap, .int .i64 n] w fun e w' => AnsX w w' (2, []) e ∧ Below w.heap.size w w' := by
  rcases hn with hn | hn
  · have e1 : decide (n < 0) = true := by simpa using hn
    go_enter Tryd.func50, Tryd.ntmps50
    go_wp2_with fail
    go_ret2
    exact ⟨ansX_code _ _ _, Below.refl _ _⟩
  · have e1 : decide (n < 0) = false := by simp; omega
    have e2 : decide (4096 < n) = true := by simpa using hn
    go_enter Tryd.func50, Tryd.ntmps50
    go_wp2_with fail
    go_ret2
    exact ⟨ansX_code _ _ _, Below.refl _ _⟩
theorem xRead_int (w : World) (a0 : Option Addr) (len cap : Nat) (n : Int) (bs : List Int) (hR : RB w a0 len cap bs) (hbs : ∀ x ∈ bs, Byte x) (hle : len ≤ 1000000) (hT : XorTab w) :
    Calls Tryd.prog 49 #[.slice a0 len cap, .int .i64 n] w fun e w' => AnsX w w' (readsXI n (unB bs)) e ∧ Below w.heap.size w w' := by
  unfold readsXI
  by_cases hn : n < 0 ∨ 4096 < n
  · rw [if_pos hn]; exact xRead_out w a0 len cap n hn
  · rw [if_neg hn]
    obtain ⟨m, rfl⟩ : ∃ m : Nat, n = m := ⟨n.toNat, by omega⟩
    exact xRead_any w a0 len cap m bs hR hbs hle hT (by omega)
theorem xrRead_int (w : World) (a0 : Option Addr) (len cap : Nat) (n : Int) (bs : List Int) (hR : RB w a0 len cap bs) (hbs : ∀ x ∈ bs, Byte x) (hle : len ≤ 1000000) :
    Calls Tryd.prog 50 #[.slice a0 len cap, .int .i64 n] w fun e w' => AnsX w w' (readsXI n (unB bs)) e ∧ Below w.heap.size w w' := by
  unfold readsXI
  by_cases hn : n < 0 ∨ 4096 < n
  · rw [if_pos hn]; exact xrRead_out w a0 len cap n hn
  · rw [if_neg hn]
    obtain ⟨m, rfl⟩ : ∃ m : Nat, n = m := ⟨n.toNat, by omega⟩
    exact xrRead_any w a0 len cap m bs hR hbs hle (by omega)

theorem putsX_len : ∀ (ts : List Nat) (N : Int) (V a b : Nat), (a = 64 ∧ b = 0 ∨ a + b ≤ 63) → V < 18446744073709551616 → (∀ x ∈ ts, x < 18446744073709551616) → (putsX N V a b ts).length ≤ 78 * ts.length
  | [], _, _, _, _, _, _, _ => by simp [putsX]
  | t :: ts, N, V, a, b, hab, hV, hts => by
    have hv := hts t (List.mem_cons_self)
    have h1 := encX_le N V a b t hab hv hV
    have h2 := putsX_len ts (N + 1) t _ _ (winX_ok N V a b t hab hv hV) hv fun x hx => hts x (List.mem_cons_of_mem _ hx)
    rw [putsX, List.length_append, List.length_cons]
    omega
theorem readsX_puts : ∀ (ts : List Nat) (N : Int) (V a b : Nat) (m : List Bool), (a = 64 ∧ b = 0 ∨ a + b ≤ 63) → V < 18446744073709551616 → (∀ x ∈ ts, x < 18446744073709551616) → readsX ts.length (putsX N V a b ts ++ m) N V a b = (0, ts)
  | [], _, _, _, _, _, _, _, _ => rfl
  | t :: ts, N, V, a, b, m, hab, hV, hts => by
    have hv := hts t (List.mem_cons_self)
    have hG := getX_back N V a b t (putsX (N + 1) t (winX N V a b t).1 (winX N V a b t).2 ts ++ m) hab hv hV
    have ih := readsX_puts ts (N + 1) t _ _ m (winX_ok N V a b t hab hv hV) hv fun x hx => hts x (List.mem_cons_of_mem _ hx)
    rw [putsX, List.append_assoc, List.length_cons, afterX_nil, readsX_yes hG, List.drop_left, ih]
    rfl
theorem back_values (ts : List Nat) (h : ts.length ≤ 4096) (hts : ∀ x ∈ ts, x < 18446744073709551616) : readsXI ts.length (unB (pack (putsX 0 0 64 0 ts))) = (0, ts) ∧ (pack (putsX 0 0 64 0 ts)).length ≤ 1000000 := by
  obtain ⟨p, hp, hp8⟩ := unB_pack (putsX 0 0 64 0 ts)
  have h1 := putsX_len ts 0 0 64 0 (.inl ⟨rfl, rfl⟩) (by omega) hts
  have h2 := congrArg List.length hp
  rw [length_unB, List.length_append, List.length_replicate] at h2
  refine ⟨?_, by omega⟩
  rw [readsXI, if_neg (by omega), hp, Int.toNat_natCast]
  exact readsX_puts ts 0 0 64 0 _ (.inl ⟨rfl, rfl⟩) (by omega) hts

theorem u64_of_wf {x : Int} (h : (Lit.int .u64 x).wf = true) : 0 ≤ x ∧ x < 18446744073709551616 := by
  simp [Lit.wf, IntKind.min, IntKind.max, IntKind.signed, IntKind.bits] at h
  omega
/-- Values as cells. -/
def ucs (xs : List Nat) : List Value := xs.map fun (x : Nat) => .int .u64 (x : Nat)
theorem app_rowU {P : Program} {ops : Array Oper} {rest : List Oper} {o : Oper} {a : Act} {Q : Exit → Act → World → Prop} {w0 W : World} (base : Nat) (hgd : o.guard = none) (s x : Operand) (t e : TypeId)
    (ho : o.op = .call { callee := .builtin .append, args := #[s, x], argTypes := #[t, t] })
    (ht : P.underlying t = some (.slice e)) (hinfo : (P.info? e).map (fun i => (i.zero, i.size, i.bytes)) = some (some (.int .u64 0), 1, 8))
    (v : Value) (n : Nat) (xs ys : List Nat) (A : Option Addr) (m c : Nat) (hs : a.eval s = v) (hx : a.eval x = .slice A m c)
    (HO : W.ownsRow base e 1 v n (ucs xs)) (HR : RU W A m c ys) (HB : Below base w0 W) (hbase : base ≤ W.heap.size) (hl : n + m ≤ 1000000000)
    (h : ∀ v1 w1, w1.ownsRow base e 1 v1 (n + m) (ucs (xs ++ ys)) → Below base w0 w1 → base ≤ w1.heap.size → wpList P ops Q rest (a.put o.dst v1) w1) :
    wpList P ops Q (o :: rest) a W := by
  obtain ⟨i0, hi, hzz⟩ := Option.map_eq_some_iff.1 hinfo
  simp only [Prod.mk.injEq] at hzz
  obtain ⟨hz0, hz1, hz2⟩ := hzz
  obtain ⟨r1, r2, r3, r4⟩ := HR
  have hrun : ∃ v1 w1, (Builtin.append_ #[t, t] o.type #[v, .slice A m c]).run P W = .ok v1 w1 ∧ w1.ownsRow base e 1 v1 (n + m) (ucs (xs ++ ys)) ∧ W.grownBy w1 v.ownBlock := by
    rcases A with _ | ad
    · obtain rfl : m = 0 := by
        rcases Nat.eq_zero_or_pos m with h0 | h0
        · exact h0
        · obtain ⟨b, off, e, _⟩ := r4 h0
          cases e
      obtain rfl : ys = [] := List.eq_nil_of_length_eq_zero r1
      exact ⟨v, W, run_append_of_nil W base t o.type e i0 1 ht hi v n (ucs xs) HO c, by simpa using HO, World.grownBy.refl W _⟩
    · have hcells : ∀ j u, (ucs ys)[j]? = some u → W.cell? (ad.add j) = some u := by
        intro j u hu
        rw [ucs, List.getElem?_map] at hu
        obtain ⟨x, hxj, rfl⟩ := Option.map_eq_some_iff.1 hu
        have hj := (List.getElem?_eq_some_iff.1 hxj).1
        obtain ⟨b, off, e, hc⟩ := r4 (by omega)
        cases e
        have ha : (⟨b, off, none⟩ : Addr).add j = ⟨b, off + j, none⟩ := by unfold Addr.add; split <;> simp_all
        rw [ha, hc j x hxj]
      obtain ⟨v', w', hr, h2, h3, _, _⟩ := run_append_own_at (P := P) W base t o.type e i0 (.int .u64 0) 1 8 ht hi hz0 hz1 hz2 rfl (by omega) v n (ucs xs) HO ad m c (ucs ys) (by rw [ucs, List.length_map]; omega) hcells
        (by intro u hu; simp [ucs] at hu; obtain ⟨x, _, rfl⟩ := hu; rfl) (by simp only [maxLen]; omega) (by omega) hbase
      exact ⟨v', w', hr, by rw [ucs, List.map_append]; exact h2, h3⟩
  obtain ⟨v1, w1, hr, hown, hg⟩ := hrun
  have hB1 := HB.grown hg hbase (fun k hk => (HO.lt k hk).1)
  refine wpList_plain hgd fun K hK => ?_
  unfold Oper.wp execOp
  simp only [ho, resolve, invoke, builtin, Sem.run_bind, Sem.run_pure, Result.andThen_ok, List.map_toArray, List.map_cons, List.map_nil, hs, hx, hr]
  exact hK _ _ (h v1 w1 hown hB1 (by have := hg.size; omega))
end Go.Proofs.YtlgndfckmnninaaDoor
