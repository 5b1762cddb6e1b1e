/- Plain: a written beginning of some bytes' bits has, read again, just those bits. Conditions: as stated. -/
import Derived.Test.YtlgndfckmnninaaDoorBitsC
namespace Go.Proofs.YtlgndfckmnninaaDoor

theorem once_bits (bs : List Int) (p i : Nat) (lb : List Bool) (hp : p ≤ 8 * bs.length) (hi : i < p) (h : (unB bs).take p = lb) : ∃ b m m', (unB bs).drop i = b :: m ∧ (unB (pack lb)).drop i = b :: m' := by
  have hl := length_unB bs
  have h1 : i < (unB bs).length := by omega
  have hlb : lb.length = p := by rw [← h]; exact again_len bs p hp
  obtain ⟨k, hk, _⟩ := unB_pack lb
  have h2 : i < (unB (pack lb)).length := by rw [hk, List.length_append]; omega
  refine ⟨(unB bs)[i], _, (unB (pack lb)).drop (i + 1), List.drop_eq_getElem_cons h1, ?_⟩
  rw [List.drop_eq_getElem_cons h2]
  congr 1
  have e : (unB (pack lb))[i] = (lb ++ List.replicate k false)[i]'(by rw [List.length_append]; omega) := by
    simp only [hk]
  rw [e, List.getElem_append_left (by omega)]
  simp only [← h, List.getElem_take]
end Go.Proofs.YtlgndfckmnninaaDoor
