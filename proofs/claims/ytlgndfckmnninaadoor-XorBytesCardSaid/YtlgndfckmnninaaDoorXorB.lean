/- xor.Bytes: what it writes; its walk. Conditions: as stated. -/
import Derived.Test.YtlgndfckmnninaaDoorXorK
import Derived.Test.YtlgndfckmnninaaDoorStampB
namespace Go.Proofs.YtlgndfckmnninaaDoor
open Go.RowKit
set_option linter.unusedVariables false

/-- The slice value '.slice A n c' reads as the 64-bit numbers xs. -/
def RU (w : World) (A : Option Addr) (n c : Nat) (xs : List Nat) : Prop :=
  xs.length = n ∧ n ≤ c ∧ c ≤ 9223372036854775807 ∧ (0 < n → ∃ b off, A = some ⟨b, off, none⟩ ∧ ∀ (j : Nat) (x : Nat), xs[j]? = some x → w.cell? ⟨b, off + j, none⟩ = some (.int .u64 (x : Nat)))
theorem RU.below {w w' : World} {A : Option Addr} {n c : Nat} {xs : List Nat} (h : RU w A n c xs) (hb : Below w.heap.size w w') : RU w' A n c xs :=
  ⟨h.1, h.2.1, h.2.2.1, fun hn => by
    obtain ⟨b, off, e, hc⟩ := h.2.2.2 hn
    exact ⟨b, off, e, fun j x hj => cell_keep hb (hc j x hj)⟩⟩
/-- The bits of values put one behind the other. -/
def putsX : Int → Nat → Nat → Nat → List Nat → List Bool
  | _, _, _, _, [] => []
  | N, V, a, b, v :: vs => encX N V a b v ++ putsX (N + 1) v (winX N V a b v).1 (winX N V a b v).2 vs

set_option maxHeartbeats 1600000 in
theorem xBytes_any (w : World) (A : Option Addr) (len cap : Nat) (ts : List Nat) (hR : RU w A len cap ts) (hts : ∀ x ∈ ts, x < 18446744073709551616) (hT : XorTab w) (hlen : len ≤ 4096) :
    Calls Tryd.prog 47 #[.slice A len cap] w fun e w' => AnsB w w' (some (putsX 0 0 64 0 ts)) e ∧ Below w.heap.size w w' := by
  obtain ⟨hl0, hlc, hcap, hcell⟩ := hR
  have HCELL := Lib.hid hcell
  have HL0 := Lib.hid hl0
  have HTS := Lib.hid hts
  clear hcell hl0 hts
  go_enter Tryd.func47, Tryd.ntmps47
  go_wp2_with fail
  refine (NewWriter_any w w.heap.size (Nat.le_refl _)).mono ?_
  rintro e u0 ⟨g, rfl, hg, W0, hB0⟩
  go_wp2_with fail
  refine (begin_any _).mono ?_
  rintro e u1 ⟨rfl, hB1⟩
  have A1 : Below u1.heap.size u1 (u1.alloc (.cells #[.int .i64 0, .int .u64 0, .int .i64 64, .int .i64 0] 48)) := (Below.refl _ u1).alloc (Nat.le_refl _) _
  have X2 := Blk.new u1 48 #[.int .i64 0, .int .u64 0, .int .i64 64, .int .i64 0]
  have W2 := (W0.below hB1).below A1
  have H1 := below_more hB0 hB1
  have H2 := H1.trans (A1.mono H1.size)
  have hgl := (W0.below hB1).lt
  have hz1 := H1.size
  go_wp2_with fail
  obtain ⟨x, hx⟩ : ∃ x, u1.heap.size = x := ⟨_, rfl⟩
  rw [hx] at X2 hgl hz1 ⊢
  generalize u1.alloc (.cells #[.int .i64 0, .int .u64 0, .int .i64 64, .int .i64 0] 48) = u2 at *
  clear hB0 hB1 W0 A1 hx H1
  go_loopw [17] (fun iv wr => ∃ (i V a b : Nat) (B : Option Nat) (Lb : List Bool), iv = .int .i64 i ∧ i ≤ len ∧ Wr wr w.heap.size g B Lb ∧ Blk wr x 48 #[.int .i64 (i : Nat), .int .u64 (V : Nat), .int .i64 (a : Nat), .int .i64 (b : Nat)] ∧ Below w.heap.size w wr ∧ Hid (∀ k, B = some k → x + 1 ≤ k) ∧ Hid (putsX 0 0 64 0 ts = Lb ++ putsX i V a b (ts.drop i)) ∧ Hid ((a = 64 ∧ b = 0 ∨ a + b ≤ 63) ∧ V < 18446744073709551616) ∧ Lb.length ≤ 78 * i) (fun iv _ => len - (intOf iv).toNat)
  case atStart => exact ⟨0, 0, 64, 0, none, [], rfl, Nat.zero_le _, W2, X2, H2, (fun _ h => by cases h), rfl, ⟨.inl ⟨rfl, rfl⟩, by omega⟩, by simp⟩
  case round =>
    obtain ⟨i, V, a, b, B, Lb, rfl, hi, hW, hX, hH, HBN, HP, HW, hLb⟩ := hrel
    clear W2 X2 H2
    have hrow := hW.row
    have hxl := hX.lt
    obtain ⟨c0, c1, c2, c3⟩ := hX.cells4
    rcases Nat.lt_or_ge i len with hlt | hge
    · obtain ⟨t, ht⟩ : ∃ t, ts[i]? = some t := ⟨_, List.getElem?_eq_getElem (by rw [HL0.out]; exact hlt)⟩
      obtain ⟨bk, off, rfl, hc⟩ := HCELL.out (by omega)
      have hz := cell_keep hH (hc i t ht)
      have hdr : ts.drop i = t :: ts.drop (i + 1) := by
        rw [List.drop_eq_getElem_cons (by rw [HL0.out]; exact hlt)]
        have := (List.getElem?_eq_some_iff.1 ht).2
        rw [this]
      have hv : t < 18446744073709551616 := HTS.out t (List.mem_of_getElem? ht)
      obtain ⟨i2, hi2⟩ : ∃ i2 : Int, ((i + 1 : Nat) : Int) = i2 := ⟨_, rfl⟩
      have HI2 := Lib.hid hi2
      obtain ⟨M, hM⟩ : ∃ M, Lb ++ encX i V a b t = M := ⟨_, rfl⟩
      obtain ⟨a2, ha2⟩ : ∃ a2, (winX i V a b t).1 = a2 := ⟨_, rfl⟩
      obtain ⟨b2, hb2⟩ : ∃ b2, (winX i V a b t).2 = b2 := ⟨_, rfl⟩
      have hwo := winX_ok i V a b t HW.out.1 hv HW.out.2
      rw [ha2, hb2] at hwo
      have HW2 : Hid ((a2 = 64 ∧ b2 = 0 ∨ a2 + b2 ≤ 63) ∧ t < 18446744073709551616) := ⟨hwo, hv⟩
      have hle := encX_le i V a b t HW.out.1 hv HW.out.2
      have hMl : M.length ≤ 78 * (i + 1) := by rw [← hM, List.length_append]; omega
      have hr : rightX i a b = true := rightX_mk ⟨by omega, by omega, by have := HW.out.1; omega⟩
      have hP2 : putsX 0 0 64 0 ts = M ++ putsX i2 t a2 b2 (ts.drop (i + 1)) := by
        rw [HP.out, hdr, putsX, ha2, hb2, ← List.append_assoc, hM, ← hi2]; push_cast; rfl
      have PUT := fun W h1 h2 h3 => xPut_to W w.heap.size g B Lb M i V a b t i2 t a2 b2 V a b h1 h2 (by omega) h3 hr HW.out.2 hv (by rw [← hi2]; push_cast; rfl) rfl (by rw [ha2]) (by rw [hb2]) hM rfl rfl rfl
      have HPUT := Lib.hid PUT
      have HP2 := Lib.hid hP2
      clear PUT hP2 hM ha2 hb2 hwo hle hr hi2 HP hdr hc ht hv HW
      go_wp2_with fail
      refine (HPUT.out _ hW (hT.below hH) hH.size).mono ?_
      rintro e u5 ⟨rfl, B5, W5, hB5, T5⟩
      have X5 := hX.touch T5 (by omega) (fun e => by have := HBN.out _ e.symm; omega)
      have H5 := hH.trans (T5.below hH.size (by omega) (fun k hk => (hrow k hk).1))
      have nb : ∀ k, B5 = some k → x + 1 ≤ k := fun k hk => by
        rcases hB5 with rfl | ⟨b, rfl, hb⟩
        · exact HBN.out k hk
        · have : b = k := by injection hk
          omega
      have HBN5 := Lib.hid nb
      have A5 : Below u5.heap.size u5 (u5.alloc (.cells #[.int .i64 i2, .int .u64 (t : Nat), .int .i64 (a2 : Nat), .int .i64 (b2 : Nat)] 48)) := (Below.refl _ u5).alloc (Nat.le_refl _) _
      have Y6 := Blk.new u5 48 #[.int .i64 i2, .int .u64 (t : Nat), .int .i64 (a2 : Nat), .int .i64 (b2 : Nat)]
      have X6 := X5.below A5
      have W6 := W5.below A5
      have H6 := H5.trans (A5.mono H5.size)
      have hz5 := T5.size
      clear c0 c1 c2 c3 nb hB5 T5 X5 W5 H5 HPUT hW hX hH
      obtain ⟨c0, c1, c2, c3⟩ := X6.cells4
      obtain ⟨f0, f1, f2, f3⟩ := X6.free4
      obtain ⟨y0, y1, y2, y3⟩ := Y6.cells4
      go_wp2_with fail
      have X7 := X6.set4 (.int .i64 i2) (.int .u64 (t : Nat)) (.int .i64 (a2 : Nat)) (.int .i64 (b2 : Nat))
      have W7 := W6.set4 (r := x) (by omega) (fun e => by have := HBN5.out _ e; omega) (.int .i64 i2) (.int .u64 (t : Nat)) (.int .i64 (a2 : Nat)) (.int .i64 (b2 : Nat))
      have H7 := below_set4 H6 (g := x) (by omega) (.int .i64 i2) (.int .u64 (t : Nat)) (.int .i64 (a2 : Nat)) (.int .i64 (b2 : Nat))
      go_roundw
      case rel => exact ⟨i + 1, t, a2, b2, B5, M, by go_num, hlt, W7, by rw [HI2.out]; exact X7, H7, HBN5, by rw [HI2.out]; exact HP2, HW2, hMl⟩
      case measure => simp [intOf]; omega
    · obtain rfl : i = len := by omega
      have hP2 : putsX 0 0 64 0 ts = Lb := by rw [HP.out, List.drop_of_length_le (by rw [HL0.out]; exact Nat.le_refl _)]; simp [putsX]
      have HP2 := Lib.hid hP2
      clear hP2 HP
      go_wp2_with fail
      refine (WBytes_any wr w.heap.size g B Lb hW (by omega)).mono ?_
      rintro e v ⟨vv, rfl, O, BO⟩
      obtain ⟨A2, c2, rfl, R2⟩ := RB.of_own O
      have H2 := below_more hH BO
      go_wp2_with fail
      go_ret2
      exact ⟨by rw [HP2.out]; exact ⟨A2, c2, rfl, R2⟩, H2⟩
end Go.Proofs.YtlgndfckmnninaaDoor
