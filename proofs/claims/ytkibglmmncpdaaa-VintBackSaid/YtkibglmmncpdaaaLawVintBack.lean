/- The Go function tidepole/tidepolelaw01.VintBack returns true for every input, and each argument reads afterwards as it read before. Conditions: none beyond the given row's own. (The frame was written by the kit's proof-skeleton.mjs.) -/
import Derived.Test.YtkibglmmncpdaaaRows
import Derived.Test.YtkibglmmncpdaaaVintP
import Derived.Deep.QuietTactic
import Derived.BigQuiet
import Derived.Deep.RegionHeld3
import Derived.WalkKit
import Derived.ProofKit
import Derived.OpenShut
import Derived.ShutString
import Derived.ChangeOld
import Derived.Below
namespace Go.Proofs.Ytkibglmmncpdaaa.vintBack
open Go.ChangeShapes Go.WideShapes Go.ChangeAt Go.RowKit
open Go.ChangeMaps (open_string shut_string)
set_option linter.unusedVariables false

theorem own : ownKnob Try.prog.godebug = none := by kernel_rfl
theorem laidOut : laidOutB Try.prog = true := by kernel_rfl

/-- WHAT THE WALK IS TOLD OF A SLICE OF INTEGERS THAT CAME IN: it is nil; or it leads to a row of 'cap' cells, the numbers 'zs' (the first 'len' are its elements, the rest its spare room), each fitting its kind. -/
def IsRow (k : IntKind) (w : World) (a : Option Addr) (len cap : Nat) (zs : List Int) : Prop :=
  (a = none ∧ len = 0 ∧ cap = 0 ∧ zs = []) ∨
  ∃ x, a = some x ∧ len ≤ cap ∧ cap ≤ maxLen ∧ zs.length = cap ∧ (∀ i, i < zs.length → w.cell? (x.add i) = some (.int k (zs.getD i 0))) ∧ ∀ n ∈ zs, (Lit.int k n).wf = true

/-! ### STEP 1: THE WALK: the Go text returns true, AND WRITES NOTHING THAT WAS THERE: 'Below w.heap.size w w'' (Derived/Below.lean: '.refl', '.alloc', '.drew', '.setCell' at a new block, '.trans'). Open each 'IsRow' by 'rcases' AHEAD of 'go_enter'; part every test ahead of the walk. -/
set_option maxHeartbeats 1600000 in
theorem walk (a0 : Option Addr) (len0 cap0 : Nat) (z0 : List Int) (a1 : Int) (a2 : Int) (a3 : Option Addr) (len3 cap3 : Nat) (z3 : List Int) (w : World) (w0 : IsRow .u8 w a0 len0 cap0 z0) (w1 : (Lit.int .u64 a1).wf = true) (w2 : (Lit.int .i64 a2).wf = true) (w3 : IsRow .u8 w a3 len3 cap3 z3) :
    Calls Try.prog 6 #[.slice a0 len0 cap0, .int .u64 a1, .int .i64 a2, .slice a3 len3 cap3] w fun e w' => e = .returned (.bool true) ∧ Below w.heap.size w w' := by
  obtain ⟨hR0, hb0⟩ := rb_of w0
  obtain ⟨hX0, hx0⟩ := rb_of w3
  generalize z0.take len0 = xs at hR0 hb0
  generalize z3.take len3 = us at hX0 hx0
  have hR := hR0.head (k := min len0 200) (by omega)
  have hX := hX0.head (k := min len3 200) (by omega)
  have hb : ∀ x ∈ xs.take (min len0 200), Byte x := fun x hx => hb0 x (List.mem_of_mem_take hx)
  have hxb : ∀ x ∈ us.take (min len3 200), Byte x := fun x hx => hx0 x (List.mem_of_mem_take hx)
  have hm : min len0 200 ≤ 200 := by omega
  have hl : min len3 200 ≤ 200 := by omega
  generalize xs.take (min len0 200) = ys at hR hb
  generalize us.take (min len3 200) = zs at hX hxb
  generalize hM : min len0 200 = M at hR hm
  generalize hL : min len3 200 = L at hX hl
  have HM := Lib.hid hM
  have HL := Lib.hid hL
  obtain ⟨N, rfl⟩ : ∃ N : Nat, a1 = N := Int.eq_ofNat_of_zero_le (by simp [Lit.wf, IntKind.min, IntKind.max, IntKind.signed, IntKind.bits] at w1; omega)
  have hN : N < 18446744073709551616 := by simp [Lit.wf, IntKind.min, IntKind.max, IntKind.signed, IntKind.bits] at w1; omega
  have hk : -9223372036854775808 ≤ a2 ∧ a2 ≤ 9223372036854775807 := by simp [Lit.wf, IntKind.min, IntKind.max, IntKind.signed, IntKind.bits] at w2; omega
  obtain ⟨hk1, hk2⟩ := hk
  have hyl : ys.length = M := hR.1
  have hzl : zs.length = L := hX.1
  -- what is read back
  have r1 : rres M ((ys ++ enc N).drop M) = (N, M + (enc N).length, 0) := by
    have q : rdv 0 0 (enc N) = (N, (enc N).length, 0) := by simpa using rdv_enc0 N [] hN
    rw [List.drop_left' hyl]; exact rres_of q
  have r2 : rres M ((ys ++ enc (zig a2)).drop M) = (zig a2, M + (enc (zig a2)).length, 0) := by
    have q : rdv 0 0 (enc (zig a2)) = (zig a2, (enc (zig a2)).length, 0) := by simpa using rdv_enc0 (zig a2) [] (zig_lt a2 hk1 hk2)
    rw [List.drop_left' hyl]; exact rres_of q
  have r3 : rres M ((ys ++ enc L ++ zs).drop M) = (L, M + (enc L).length, 0) := by
    rw [List.append_assoc, List.drop_left' hyl]; exact rres_of (rdv_enc0 L zs (by omega))
  have d3 : ((ys ++ enc L ++ zs).drop (M + (enc L).length)).take L = zs := by
    rw [List.drop_left' (by rw [List.length_append, hyl]), List.take_of_length_le (by omega)]
  have l1 := enc_le10 N hN
  have l2 := enc_le10 (zig a2) (zig_lt a2 hk1 hk2)
  have l3 := enc_le10 L (by omega)
  have b1 : ∀ x ∈ ys ++ enc N, Byte x := fun x hx => by
    rcases List.mem_append.1 hx with h | h
    · exact hb x h
    · exact enc_byte _ x h
  have b2 : ∀ x ∈ ys ++ enc (zig a2), Byte x := fun x hx => by
    rcases List.mem_append.1 hx with h | h
    · exact hb x h
    · exact enc_byte _ x h
  have b3 : ∀ x ∈ ys ++ enc L ++ zs, Byte x := fun x hx => by
    rcases List.mem_append.1 hx with h | h
    · rcases List.mem_append.1 h with h | h
      · exact hb x h
      · exact enc_byte _ x h
    · exact hxb x h
  have Rd := fun A c W h1 h2 h3 => read_any A (M + (enc N).length) c (ys ++ enc N) M W h1 h2 h3 b1
  have Ri := fun A c W h1 h2 h3 => readInt_any A (M + (enc (zig a2)).length) c (ys ++ enc (zig a2)) M W h1 h2 h3 b2 (by rw [r2]; exact zig_lt a2 hk1 hk2)
  have Rb := fun A c W h1 h2 h3 => ReadBytes_any A (M + (enc L).length + L) c (ys ++ enc L ++ zs) M L (M + (enc L).length) W h1 h2 h3 b3 r3 (by omega) (by omega)
  rw [r1] at Rd
  rw [r2] at Ri
  rw [d3] at Rb
  simp only [unzig_zig] at Ri
  have Sz := fun W => Size_any N W hN
  have RD := Lib.hid Rd
  have RI := Lib.hid Ri
  have RB' := Lib.hid Rb
  have SZ := Lib.hid Sz
  clear Rd Ri Rb Sz r1 r2 r3 d3 b1 b2 b3 hM hL w0 w1 w2 w3 hb0 hx0 hyl hzl hb hxb
  go_enter Try.func6, Try.ntmps6
  go_wp2_with fail
  refine (works_any _).mono ?_
  rintro e w1 ⟨rfl, hB1⟩
  have hr1 := hR.below hB1
  have hr0 := hR0.below hB1
  have hx1 := hX.below hB1
  have hx0 := hX0.below hB1
  go_wp2_with fail
  refine (short_any a0 len0 cap0 xs _ hr0).mono ?_
  rw [HM.out]
  rintro e w2 ⟨rfl, rfl⟩
  go_wp2_with fail
  refine (short_any a3 len3 cap3 us _ hx0).mono ?_
  rw [HL.out]
  rintro e w2 ⟨rfl, rfl⟩
  go_wp2_with fail
  refine (Put_any a0 M cap0 ys N _ hr1 (by omega) hN).mono ?_
  rintro e w2 ⟨v2, rfl, hO2, hB2⟩
  obtain ⟨A2, c2, rfl, hp2⟩ := RB.of_own hO2
  have hb2 := below_more hB1 hB2
  have hr2 := hr1.below hB2
  have hx2 := hx1.below hB2
  go_wp2_with fail
  refine (PutInt_any a0 M cap0 ys a2 _ hr2 (by omega) hk1 hk2).mono ?_
  rintro e w3 ⟨v3, rfl, hO3, hB3⟩
  obtain ⟨A3, c3, rfl, hq3⟩ := RB.of_own hO3
  have hb3 := below_more hb2 hB3
  have hr3 := hr2.below hB3
  have hx3 := hx2.below hB3
  have hp3 := hp2.below hB3
  go_wp2_with fail
  refine (PutBytes_any a0 a3 M cap0 L cap3 ys zs _ hr3 hx3 (by omega) (by omega)).mono ?_
  rintro e w4 ⟨v4, rfl, hO4, hB4⟩
  obtain ⟨A4, c4, rfl, hs4⟩ := RB.of_own hO4
  have hb4 := below_more hb3 hB4
  have hp4 := hp3.below hB4
  have hq4 := hq3.below hB4
  have hx4 := hx3.below hB4
  go_wp2_with fail
  refine (RD.out A2 c2 _ hp4 (by omega) (by omega)).mono ?_
  rintro e w5 ⟨rfl, rfl⟩
  go_wp2_with fail
  refine (RI.out A3 c3 _ hq4 (by omega) (by omega)).mono ?_
  rintro e w5 ⟨rfl, rfl⟩
  go_wp2_with fail
  refine (RB'.out A4 c4 _ hs4 (by omega) (by omega)).mono ?_
  rintro e w5 ⟨v5, rfl, hO5, hB5⟩
  obtain ⟨A5, c5, rfl, hd5⟩ := RB.of_own hO5
  have hb5 := below_more hb4 hB5
  have hx5 := hx4.below hB5
  go_wp2_with fail
  refine (same_any A5 a3 L c5 L cap3 zs _ hd5 hx5).mono ?_
  rintro e w6 ⟨rfl, rfl⟩
  go_wp2_with fail
  refine (SZ.out _).mono ?_
  rintro e w6 ⟨rfl, rfl⟩
  go_wp2
  go_ret
  exact ⟨ret_bool (by rw [beq_iff_eq]; omega), hb5⟩

/-! ### THE ROW's STEP: WRITTEN OUT: LEAVE IT -/
set_option maxRecDepth 100000 in
theorem lifted (os : Os) (started : os.Started) (H : Type) (enc : TypeId × Value → H) :
    ReturnsInHanded {} Try.checked os 6 .any (Rows.vintBackSpec.pre6 enc Try.prog Try.f6 Rows.vintBackRow.domain false) (Rows.vintBackSpec.post enc Try.prog Try.f6 false true false false) := by
  refine returnsInHanded_of_change (C := Try.checked) own started (by kernel_rfl) Try.func6
    (ChangeSpec.witness6 (enc := enc) (C := Try.checked) false ⟨#[], #[.slice none 0 0, .int .u64 0, .int .i64 0, .slice none 0 0], []⟩ 8 (by kernel_rfl) (by kernel_rfl) (by kernel_rfl) (by kernel_rfl)) ?_
  intro W base args ds gs before hval0 hW hcnd _
  have hval : ∀ (j : Nat) t v, Try.f6.params[j]? = some t → args[j]? = some v → Value.okWide Try.prog W .any base t v := hval0
  have hW' := hW
  obtain ⟨p, q, hA0, hV, rfl, hfz, hnd⟩ := hW
  have hA : DataW.TrodAll enc Try.prog W 0 (fun _ => true) true Try.f6.params.toList args.toList ds p := hA0
  rw [Try.params6] at hA hval
  obtain ⟨v0, vs0, d0, ds0, p0, q0, hargs, rfl, rfl, h0, r0⟩ := trodAll_cons hA
  obtain ⟨v1, vs1, d1, ds1, p1, q1, rfl, rfl, rfl, h1, r1⟩ := trodAll_cons r0
  obtain ⟨v2, vs2, d2, ds2, p2, q2, rfl, rfl, rfl, h2, r2⟩ := trodAll_cons r1
  obtain ⟨v3, vs3, d3, ds3, p3, q3, rfl, rfl, rfl, h3, r3⟩ := trodAll_cons r2
  obtain ⟨rfl, rfl, rfl⟩ := trodAll_nil r3
  obtain rfl : args = #[v0, v1, v2, v3] := by cases args; simp_all
  obtain ⟨rfl, rfl⟩ := trodVars_none hV
  obtain ⟨a0, len0, cap0, rfl⟩ := okWide_slice Try.underlying22 (hval 0 22 v0 rfl rfl)
  have k0 := h0
  have lt0 : ∀ x ∈ p0, x.block < W.heap.size := by obtain ⟨m, hm⟩ := k0; exact DataW.trod_lt m _ _ _ hm
  obtain ⟨z0, w0⟩ : ∃ zs, IsRow .u8 W a0 len0 cap0 zs := by
    obtain ⟨fuel, hf⟩ := h0
    rcases open_ints Try.underlying22 Try.underlying5 (by kernel_rfl) hf with ⟨hcs, _⟩ | ⟨x, l, c, zs, hcs, _, hl, hm, hz, _, hcell, hwz⟩
    · simp [Value.cells] at hcs
      obtain ⟨rfl, rfl, rfl⟩ := hcs
      exact ⟨[], .inl ⟨rfl, rfl, rfl, rfl⟩⟩
    · simp [Value.cells] at hcs
      obtain ⟨rfl, rfl, rfl⟩ := hcs
      exact ⟨zs, .inr ⟨_, rfl, hl, hm, by simpa using hz, hcell, hwz⟩⟩
  obtain ⟨a1, rfl, rfl, rfl, w1⟩ := open_int Try.underlying23 (hval 1 23 v1 rfl rfl) h1
  obtain ⟨a2, rfl, rfl, rfl, w2⟩ := open_int Try.underlying3 (hval 2 3 v2 rfl rfl) h2
  obtain ⟨a3, len3, cap3, rfl⟩ := okWide_slice Try.underlying22 (hval 3 22 v3 rfl rfl)
  have k3 := h3
  have lt3 : ∀ x ∈ p3, x.block < W.heap.size := by obtain ⟨m, hm⟩ := k3; exact DataW.trod_lt m _ _ _ hm
  obtain ⟨z3, w3⟩ : ∃ zs, IsRow .u8 W a3 len3 cap3 zs := by
    obtain ⟨fuel, hf⟩ := h3
    rcases open_ints Try.underlying22 Try.underlying5 (by kernel_rfl) hf with ⟨hcs, _⟩ | ⟨x, l, c, zs, hcs, _, hl, hm, hz, _, hcell, hwz⟩
    · simp [Value.cells] at hcs
      obtain ⟨rfl, rfl, rfl⟩ := hcs
      exact ⟨[], .inl ⟨rfl, rfl, rfl, rfl⟩⟩
    · simp [Value.cells] at hcs
      obtain ⟨rfl, rfl, rfl⟩ := hcs
      exact ⟨zs, .inr ⟨_, rfl, hl, hm, by simpa using hz, hcell, hwz⟩⟩
  clear hA0 hval0
  refine (walk a0 len0 cap0 z0 a1 a2 a3 len3 cap3 z3 W w0 w1 w2 w3).mono fun e W' ⟨he, bel⟩ => ?_
  subst he
  exact ⟨_, rfl, _, _, _, [], _, [], hW', trodAll_mk1 (shut_bool Try.underlying4 _), (trodAll_cons_mk (Below.trod laidOut (by kernel_rfl) (of_decide_eq_true (by kernel_rfl)) k0 bel lt0) (trodAll_cons_mk (shut_int Try.underlying23 w1) (trodAll_cons_mk (shut_int Try.underlying3 w2) (trodAll_cons_mk (Below.trod laidOut (by kernel_rfl) (of_decide_eq_true (by kernel_rfl)) k3 bel lt3) trodAll_mk0)))), rfl, bel.frame _, fun h => by cases h⟩

theorem over : Rows.vintBackRow.holds Try.pinned (OpenSpec.ofChange Rows.vintBackSpec) :=
  OpenClaim.holds_of_wide 6 Try.f6 rfl rfl rfl rfl rfl rfl rfl ⟨rfl, rfl, rfl, rfl, rfl⟩ rfl rfl rfl rfl rfl (by kernel_rfl) Try.func6 (by kernel_rfl)
    (of_decide_eq_true (by kernel_rfl)) (by unfold Func.isWrapper; first | (rw [if_pos (by decide +kernel)]; kernel_rfl) | (rw [if_neg (by decide +kernel)]; exact ⟨rfl, rfl⟩))
    (fun os started H enc _ => lifted os started H enc)

/-- ████ THE STATEMENT ████ -/
theorem proved : Rows.VintBackSaid := over
#print axioms proved
end Go.Proofs.Ytkibglmmncpdaaa.vintBack
