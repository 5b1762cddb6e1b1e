/- Rising times: they are written, and read back; the walk that makes them. Conditions: as stated. -/
import Derived.Test.YtlgndfckmnninaaDoorStampM
import Derived.Test.YtlgndfckmnninaaDoorStampK
import Derived.Test.YtlgndfckmnninaaDoorBitsL
namespace Go.Proofs.YtlgndfckmnninaaDoor
open Go.RowKit
set_option linter.unusedVariables false

theorem puts_rising : ∀ (ts : List Int) (N L D : Int), 0 ≤ N → N + ts.length ≤ 4097 → 0 ≤ L → L ≤ 35184372088832 → 0 ≤ D → D ≤ 35184372088832 → ts.Pairwise (· < ·) → (∀ x ∈ ts, 0 ≤ x ∧ x ≤ 35184372088832 ∧ (N = 0 ∨ L < x)) → ∃ Lb, putsS N L D ts = some Lb
  | [], _, _, _, _, _, _, _, _, _, _, _ => ⟨[], rfl⟩
  | t :: ts, N, L, D, h0, h1, hL0, hL1, hD0, hD1, hp, hx => by
    obtain ⟨t0, t1, t2⟩ := hx t (List.mem_cons_self)
    rw [List.length_cons] at h1
    have hr : rightS N L D = true := rightS_mk ⟨h0, by omega, hL0, hL1, hD0, hD1⟩
    have hn : nextS N L t = true := nextS_mk ⟨t0, t1, t2⟩
    rw [List.pairwise_cons] at hp
    have hd : 0 ≤ difS N L t ∧ difS N L t ≤ 35184372088832 := by unfold difS; split <;> omega
    obtain ⟨Lb, h⟩ := puts_rising ts (N + 1) t (difS N L t) (by omega) (by push_cast at h1; omega) t0 t1 hd.1 hd.2 hp.2 fun x hxx => ⟨(hx x (List.mem_cons_of_mem _ hxx)).1, (hx x (List.mem_cons_of_mem _ hxx)).2.1, .inr (hp.1 x hxx)⟩
    exact ⟨_, by rw [putsS, hn, hr, h]; rfl⟩
theorem reads_puts : ∀ (ts : List Int) (N L D : Int) (Lb m : List Bool), putsS N L D ts = some Lb → readsS ts.length (Lb ++ m) N L D = (0, ts)
  | [], _, _, _, _, _, _ => rfl
  | t :: ts, N, L, D, Lb, m, h => by
    rw [putsS] at h
    cases hn : nextS N L t with
    | false => simp [hn] at h
    | true =>
      cases hr : rightS N L D with
      | false => simp [hr] at h
      | true =>
        rw [hn, hr] at h
        cases hq : putsS (N + 1) t (difS N L t) ts with
        | none => rw [hq] at h; simp at h
        | some L2 =>
          rw [hq] at h
          obtain rfl : encS N L D t ++ L2 = Lb := by simpa using h
          have hG := getS_back N L D t (L2 ++ m) hr hn
          rw [List.append_assoc, List.length_cons, after_nil, readsS_yes hG, List.drop_left, reads_puts ts _ _ _ L2 m hq]
          rfl
theorem puts_len : ∀ (ts : List Int) (N L D : Int) (Lb : List Bool), putsS N L D ts = some Lb → Lb.length ≤ 52 * ts.length
  | [], _, _, _, _, h => by obtain rfl := Option.some.inj h; simp
  | t :: ts, N, L, D, Lb, h => by
    rw [putsS] at h
    cases hn : nextS N L t with
    | false => simp [hn] at h
    | true =>
      cases hr : rightS N L D with
      | false => simp [hr] at h
      | true =>
        rw [hn, hr] at h
        cases hq : putsS (N + 1) t (difS N L t) ts with
        | none => rw [hq] at h; simp at h
        | some L2 =>
          rw [hq] at h
          obtain rfl : encS N L D t ++ L2 = Lb := by simpa using h
          have := puts_len ts _ _ _ L2 hq
          have := encS_le N L D t hr hn
          rw [List.length_append, List.length_cons]
          omega
theorem back_rising (ts : List Int) (h : ts.length ≤ 4096) (hp : ts.Pairwise (· < ·)) (hx : ∀ x ∈ ts, 0 ≤ x ∧ x ≤ 35184372088832) : ∃ Lb, putsS 0 0 0 ts = some Lb ∧ readsI ts.length (unB (pack Lb)) = (0, ts) ∧ (pack Lb).length ≤ 1000000 := by
  obtain ⟨Lb, hL⟩ := puts_rising ts 0 0 0 (by omega) (by omega) (by omega) (by omega) (by omega) (by omega) hp fun x h => ⟨(hx x h).1, (hx x h).2, .inl rfl⟩
  obtain ⟨p, hp, hp8⟩ := unB_pack Lb
  refine ⟨Lb, hL, ?_, ?_⟩
  · rw [readsI, if_neg (by omega), hp, Int.toNat_natCast]
    exact reads_puts ts 0 0 0 Lb _ hL
  · have h1 := puts_len ts 0 0 0 Lb hL
    have h2 := congrArg List.length hp
    rw [length_unB, List.length_append, List.length_replicate] at h2
    omega

set_option maxHeartbeats 1600000 in
theorem rising_any (w : World) (x : Int) (A : Option Addr) (len cap : Nat) (ss : List Int) (hR : RI w A len cap ss) :
    Calls Tryd.prog 44 #[.int .i64 x, .slice A len cap] w fun e w' => ∃ A' n c ts, e = .returned (.slice A' n c) ∧ RI w' A' n c ts ∧ 1 ≤ n ∧ n ≤ 61 ∧ ts.Pairwise (· < ·) ∧ (∀ x ∈ ts, 0 ≤ x ∧ x ≤ 35184372088832) ∧ Below w.heap.size w w' := by
  obtain ⟨hl0, hlc, hcap, hcell⟩ := hR
  have HCELL := Lib.hid hcell
  have HL0 := Lib.hid hl0
  clear hcell hl0
  go_enter Tryd.func44, Tryd.ntmps44
  go_wp2_with fail
  refine (among_some x 17592186044416 _ (by omega) (by omega)).mono ?_
  rintro e u ⟨⟨t0, rfl, ht0, ht1⟩, rfl⟩
  have O0 : (u.alloc (.cells #[.int .i64 t0] 3)).ownsRow u.heap.size 3 1 (.slice (some ⟨u.heap.size, 0, none⟩) 1 1) 1 (([t0] : List Int).map fun x => .int .i64 x) :=
    ⟨by simp, .inr ⟨u.heap.size, 1, #[.int .i64 t0], rfl, Nat.le_refl _, World.alloc_heap_new u _, Nat.le_refl _, by simp [maxLen], rfl, by simp⟩⟩
  have B0 : Below u.heap.size u (u.alloc (.cells #[.int .i64 t0] 3)) := (Below.refl _ _).alloc (Nat.le_refl _) _
  go_wp2_with fail
  generalize hw1 : u.alloc (.cells #[.int .i64 t0] 3) = w1 at *
  go_loopw [5, 6, 7] (fun tv lv iv wr => ∃ (i : Nat) (t : Int) (acc : List Int), tv = .int .i64 t ∧ iv = .int .i64 i ∧ i ≤ len ∧ i ≤ 60 ∧ wr.ownsRow u.heap.size 3 1 lv (i + 1) (acc.map fun x => .int .i64 x) ∧ Hid (acc.Pairwise (· < ·) ∧ (∀ x ∈ acc, 0 ≤ x ∧ x ≤ t)) ∧ 0 ≤ t ∧ t ≤ 17592186044415 + i * 175921860445 ∧ Below u.heap.size u wr) (fun _ _ iv _ => 60 - (intOf iv).toNat)
  case atStart => exact ⟨0, t0, [t0], rfl, rfl, Nat.zero_le _, by omega, O0, ⟨by simp, by simp; omega⟩, ht0, by simp; omega, B0⟩
  case round =>
    obtain ⟨i, t, acc, rfl, rfl, hi, hi6, hO, HP, h0, h1, hB⟩ := hrel
    obtain ⟨A6, c6, rfl, _, _⟩ := own_slice hO
    rcases Nat.lt_or_ge i len with hlt | hge
    · rcases Nat.lt_or_ge i 60 with h6 | h6
      · obtain ⟨s, hs⟩ : ∃ s, ss[i]? = some s := ⟨_, List.getElem?_eq_getElem (by rw [HL0.out]; exact hlt)⟩
        obtain ⟨bk, off, rfl, hc⟩ := HCELL.out (by omega)
        have hz := cell_keep hB (hc i s hs)
        clear hc hs
        have e6 : decide ((i : Int) < 60) = true := by simp; omega
        go_wp2_with fail
        refine (among_some s 175921860444 _ (by omega) (by omega)).mono ?_
        rintro e u2 ⟨⟨a, rfl, ha0, ha1⟩, rfl⟩
        obtain ⟨t2, ht2⟩ : ∃ t2, t + (1 + a) = t2 := ⟨_, rfl⟩
        have hb0 : 0 ≤ t2 := by omega
        have hb1 : t2 ≤ 17592186044415 + ((i + 1 : Nat) : Int) * 175921860445 := by push_cast; omega
        have hP2 : (acc ++ [t2]).Pairwise (· < ·) ∧ (∀ x ∈ acc ++ [t2], 0 ≤ x ∧ x ≤ t2) := by
          refine ⟨List.pairwise_append.2 ⟨HP.out.1, by simp, fun x hx y hy => ?_⟩, fun x hx => ?_⟩
          · have := (HP.out.2 x hx).2
            rw [List.mem_singleton.1 hy]; omega
          · rcases List.mem_append.1 hx with hx | hx
            · have := HP.out.2 x hx; omega
            · rw [List.mem_singleton.1 hx]; omega
        have HP2 : Hid _ := hP2
        have v1 : wrap64 (1 + a) = 1 + a := by unfold wrap64; omega
        have v2 : wrap64 (t + (1 + a)) = t2 := by rw [ht2]; unfold wrap64; omega
        have hiz : u.heap.size ≤ u2.heap.size := hB.size
        clear hP2 h1 h0 ht2 ha0 ha1
        go_wp2_with (at_builtin; refine app_one_at u.heap.size rfl _ _ 72 3 (.int .i64 0) 8 rfl Tryd.underlying72 Tryd.infoInt rfl (.slice A6 (i + 1) c6) (i + 1) (acc.map fun x => .int .i64 x) (.int .i64 t2) (by rfl) (by first | rfl | (simp [go_sem]; done) | (go_simp; done)) rfl hO hiz (by omega) (by omega) ?_; intro r8 c8 w8 O8 G8 at8)
        have H8 := hB.grown G8 hB.size (fun k e => by have := (hO.lt k e).1; omega)
        clear v1 v2
        go_wp2_with fail
        go_roundw
        case rel => exact ⟨i + 1, t2, acc ++ [t2], rfl, by go_num, hlt, h6, by simpa using O8, HP2, hb0, hb1, H8⟩
        case measure => simp [intOf]; omega
      · obtain rfl : i = 60 := by omega
        obtain ⟨A7, c7, e7, R7⟩ := RI.of_own hO
        cases e7
        go_wp2_with fail
        go_ret
        exact ⟨_, _, _, acc, rfl, R7, by omega, by omega, HP.out.1, fun x hx => by have := HP.out.2 x hx; omega, hB⟩
    · obtain rfl : i = len := by omega
      obtain ⟨A7, c7, e7, R7⟩ := RI.of_own hO
      cases e7
      go_wp2_with fail
      go_ret
      exact ⟨_, _, _, acc, rfl, R7, by omega, by omega, HP.out.1, fun x hx => by have := HP.out.2 x hx; omega, hB⟩
end Go.Proofs.YtlgndfckmnninaaDoor
