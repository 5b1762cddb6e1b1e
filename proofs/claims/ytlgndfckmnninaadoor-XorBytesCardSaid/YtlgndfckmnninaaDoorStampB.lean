/- stamp.Bytes: what it writes; its walk. Conditions: as stated. -/
import Derived.Test.YtlgndfckmnninaaDoorStampK
namespace Go.Proofs.YtlgndfckmnninaaDoor
open Go.RowKit
set_option linter.unusedVariables false

/-- The slice value '.slice A n c' reads as the integers xs. -/
def RI (w : World) (A : Option Addr) (n c : Nat) (xs : List Int) : Prop :=
  xs.length = n ∧ n ≤ c ∧ c ≤ 9223372036854775807 ∧ (0 < n → ∃ b off, A = some ⟨b, off, none⟩ ∧ ∀ j x, xs[j]? = some x → w.cell? ⟨b, off + j, none⟩ = some (.int .i64 x))
theorem RI.below {w w' : World} {A : Option Addr} {n c : Nat} {xs : List Int} (h : RI w A n c xs) (hb : Below w.heap.size w w') : RI w' A n c xs :=
  ⟨h.1, h.2.1, h.2.2.1, fun hn => by
    obtain ⟨b, off, e, hc⟩ := h.2.2.2 hn
    exact ⟨b, off, e, fun j x hj => cell_keep hb (hc j x hj)⟩⟩
/-- The bits of times put one behind the other, if each can be put. -/
def putsS : Int → Int → Int → List Int → Option (List Bool)
  | _, _, _, [] => some []
  | N, L, D, t :: ts => if nextS N L t && rightS N L D then (putsS (N + 1) t (difS N L t) ts).map (encS N L D t ++ ·) else none
theorem putsS_yes {N L D t : Int} {ts : List Int} (h1 : nextS N L t = true) (h2 : rightS N L D = true) (Lb : List Bool) :
    (putsS N L D (t :: ts)).map (Lb ++ ·) = (putsS (N + 1) t (difS N L t) ts).map ((Lb ++ encS N L D t) ++ ·) := by
  simp only [putsS, h1, h2, Bool.and_self, if_true, Option.map_map]
  congr 1
  funext z
  simp
theorem putsS_no {N L D t : Int} {ts : List Int} (h : nextS N L t = false ∨ rightS N L D = false) : putsS N L D (t :: ts) = none := by
  rcases h with h | h <;> simp [putsS, h]
/-- What stamp.Bytes answers. -/
def AnsB (w w' : World) (o : Option (List Bool)) (e : Ending) : Prop := match o with
  | some Lb => ∃ A c, e = .returned (.tuple #[.slice A (pack Lb).length c, .int .i64 0]) ∧ RB w' A (pack Lb).length c (pack Lb)
  | none => e = .returned (.tuple #[.slice none 0 0, .int .i64 60])

set_option maxHeartbeats 1600000 in
theorem sBytes_any (w : World) (A : Option Addr) (len cap : Nat) (ts : List Int) (hR : RI w A len cap ts) (hT : StampTab w) (hlen : len ≤ 4096) :
    Calls Tryd.prog 37 #[.slice A len cap] w fun e w' => AnsB w w' (putsS 0 0 0 ts) e ∧ Below w.heap.size w w' := by
  obtain ⟨hl0, hlc, hcap, hcell⟩ := hR
  have HCELL := Lib.hid hcell
  have HL0 := Lib.hid hl0
  clear hcell hl0
  go_enter Tryd.func37, Tryd.ntmps37
  go_wp2_with fail
  refine (NewWriter_any w w.heap.size (Nat.le_refl _)).mono ?_
  rintro e u1 ⟨g, rfl, hg, W1, hB1⟩
  have A1 : Below u1.heap.size u1 (u1.alloc (.cells #[.int .i64 0, .int .i64 0, .int .i64 0] 27)) := (Below.refl _ u1).alloc (Nat.le_refl _) _
  have X2 := Blk.new u1 27 #[.int .i64 0, .int .i64 0, .int .i64 0]
  have W2 := W1.below A1
  have H2 := hB1.trans (A1.mono hB1.size)
  have hgl := W1.lt
  have hz1 := hB1.size
  go_wp2_with fail
  obtain ⟨x, hx⟩ : ∃ x, u1.heap.size = x := ⟨_, rfl⟩
  rw [hx] at X2 hgl hz1 ⊢
  generalize u1.alloc (.cells #[.int .i64 0, .int .i64 0, .int .i64 0] 27) = u2 at *
  clear hB1 W1 A1 hx
  go_loopw [16] (fun iv wr => ∃ (i : Nat) (L D : Int) (B : Option Nat) (Lb : List Bool), iv = .int .i64 i ∧ i ≤ len ∧ Wr wr w.heap.size g B Lb ∧ Blk wr x 27 #[.int .i64 i, .int .i64 L, .int .i64 D] ∧ Below w.heap.size w wr ∧ Hid (∀ k, B = some k → x + 1 ≤ k) ∧ Hid (putsS 0 0 0 ts = (putsS i L D (ts.drop i)).map (Lb ++ ·)) ∧ Lb.length ≤ 52 * i) (fun iv _ => len - (intOf iv).toNat)
  case atStart => exact ⟨0, 0, 0, none, [], rfl, Nat.zero_le _, W2, X2, H2, (fun _ h => by cases h), by show _ = _; simp, by simp⟩
  case round =>
    obtain ⟨i, L, D, B, Lb, rfl, hi, hW, hX, hH, HBN, HP, hLb⟩ := hrel
    clear W2 X2 H2
    have hrow := hW.row
    have hxl := hX.lt
    obtain ⟨c0, c1, c2⟩ := hX.cells3
    rcases Nat.lt_or_ge i len with hlt | hge
    · obtain ⟨t, ht⟩ : ∃ t, ts[i]? = some t := ⟨_, List.getElem?_eq_getElem (by rw [HL0.out]; exact hlt)⟩
      obtain ⟨bk, off, rfl, hc⟩ := HCELL.out (by omega)
      have hz := cell_keep hH (hc i t ht)
      have hdr : ts.drop i = t :: ts.drop (i + 1) := by
        rw [List.drop_eq_getElem_cons (by rw [HL0.out]; exact hlt)]
        have := (List.getElem?_eq_some_iff.1 ht).2
        rw [this]
      have HDR := Lib.hid hdr
      clear hc ht hdr
      obtain ⟨i2, hi2⟩ : ∃ i2 : Int, ((i + 1 : Nat) : Int) = i2 := ⟨_, rfl⟩
      have HI2 := Lib.hid hi2
      have hcs : (nextS i L t = true ∧ rightS i L D = true) ∨ (nextS i L t = false ∨ rightS i L D = false) := by
        cases nextS (i : Int) L t <;> cases rightS (i : Int) L D <;> simp
      rcases hcs with ⟨hn, hr⟩ | hno
      · obtain ⟨M, hM⟩ : ∃ M, Lb ++ encS i L D t = M := ⟨_, rfl⟩
        obtain ⟨d, hd⟩ : ∃ d, difS i L t = d := ⟨_, rfl⟩
        have hle := encS_le i L D t hr hn
        have hMl : M.length ≤ 52 * (i + 1) := by rw [← hM, List.length_append]; omega
        have hP2 : putsS 0 0 0 ts = (putsS i2 t d (ts.drop (i + 1))).map (M ++ ·) := by
          rw [HP.out, HDR.out, putsS_yes hn hr, hd, hM, ← hi2]; rfl
        have PUT := fun W h1 h2 h3 => sPut_to W w.heap.size g B Lb M i L D t i2 d h1 h2 (by omega) h3 hn hr (by rw [← hi2]; push_cast; rfl) hd hM
        have HPUT := Lib.hid PUT
        have HP2 := Lib.hid hP2
        clear PUT hP2 hM hd hle hn hr hi2 HP HDR
        go_wp2_with fail
        refine (HPUT.out _ hW (hT.below hH) hH.size).mono ?_
        rintro e u5 ⟨rfl, B5, W5, hB5, T5⟩
        have X5 := hX.touch T5 (by omega) (fun e => by have := HBN.out _ e.symm; omega)
        have H5 := hH.trans (T5.below hH.size (by omega) (fun k hk => (hrow k hk).1))
        have nb : ∀ k, B5 = some k → x + 1 ≤ k := fun k hk => by
          rcases hB5 with rfl | ⟨b, rfl, hb⟩
          · exact HBN.out k hk
          · have : b = k := by injection hk
            omega
        have HBN5 := Lib.hid nb
        have A5 : Below u5.heap.size u5 (u5.alloc (.cells #[.int .i64 i2, .int .i64 t, .int .i64 d] 27)) := (Below.refl _ u5).alloc (Nat.le_refl _) _
        have Y6 := Blk.new u5 27 #[.int .i64 i2, .int .i64 t, .int .i64 d]
        have X6 := X5.below A5
        have W6 := W5.below A5
        have H6 := H5.trans (A5.mono H5.size)
        have hz5 := T5.size
        clear c0 c1 c2 nb hB5 T5 X5 W5 H5 HPUT hW hX hH
        obtain ⟨c0, c1, c2⟩ := X6.cells3
        obtain ⟨f0, f1, f2⟩ := X6.free3
        obtain ⟨y0, y1, y2⟩ := Y6.cells3
        go_wp2_with fail
        have X7 := X6.put3 (.int .i64 i2) (.int .i64 t) (.int .i64 d)
        have W7 := W6.put3 (r := x) (by omega) (fun e => by have := HBN5.out _ e; omega) (.int .i64 i2) (.int .i64 t) (.int .i64 d)
        have H7 := below_put3 H6 (g := x) (by omega) (.int .i64 i2) (.int .i64 t) (.int .i64 d)
        go_roundw
        case rel => exact ⟨i + 1, t, d, B5, M, by go_num, hlt, W7, by rw [HI2.out]; exact X7, H7, HBN5, by rw [HI2.out]; exact HP2, hMl⟩
        case measure => simp [intOf]; omega
      · have hnone : putsS 0 0 0 ts = none := by rw [HP.out, HDR.out, putsS_no hno]; rfl
        have HN := Lib.hid hnone
        have PUT := fun W => sPut_no W g i L D t hno
        have HPUT := Lib.hid PUT
        clear hno hnone PUT hi2 HP HDR
        go_wp2_with fail
        refine (HPUT.out _).mono ?_
        rintro e u5 ⟨rfl, hB5⟩
        have H5 := below_more hH hB5
        have A5 : Below u5.heap.size u5 (u5.alloc (.cells #[.int .i64 0, .int .i64 0, .int .i64 0] 27)) := (Below.refl _ u5).alloc (Nat.le_refl _) _
        have H6 := H5.trans (A5.mono H5.size)
        go_wp2_with fail
        go_ret2
        exact ⟨by rw [HN.out]; exact rfl, H6⟩
    · obtain rfl : i = len := by omega
      have hP2 : putsS 0 0 0 ts = some Lb := by rw [HP.out, List.drop_of_length_le (by rw [HL0.out]; exact Nat.le_refl _)]; simp [putsS]
      have HP2 := Lib.hid hP2
      clear hP2 HP
      go_wp2_with fail
      refine (WBytes_any wr w.heap.size g B Lb hW (by omega)).mono ?_
      rintro e v ⟨vv, rfl, O, BO⟩
      obtain ⟨A2, c2, rfl, R2⟩ := RB.of_own O
      have H2 := below_more hH BO
      go_wp2_with fail
      go_ret2
      exact ⟨by rw [HP2.out]; exact ⟨A2, c2, rfl, R2⟩, H2⟩
end Go.Proofs.YtlgndfckmnninaaDoor
