/- Regions that draw their order: several operations taken first at once, in an order of one's own; an operation that is the only one that may come up. Conditions: each lemma's own. -/
import Derived.Test.YtlgndfckmnninaaDoorProg
import Derived.Deep.RegionHeld3
import Derived.WalkKit
import Derived.KernelRfl
namespace Go.Proofs.YtlgndfckmnninaaDoor
open Go

section
variable {P : Program} {ops : Array Oper} {Q : Exit → Act → World → Prop} {S : World → Prop}

/-- Operations that yield, one behind the other, in every world that meets S. -/
def wpY (P : Program) (ops : Array Oper) (S : World → Prop) (R : Act → Prop) : List Oper → Act → Prop
  | [], a => R a
  | o :: l, a => ∃ v, YieldsIf P ops S o v a ∧ wpY P ops S R l (a.put o.dst v)

/-- Each of them may come up, and those that may come ahead of it don't touch it. -/
def pickB (ops : Array Oper) : List Nat → Array Bool → Bool
  | [], _ => true
  | k :: ks, listed => Region.free .any ops listed k && (Region.ready .any ops listed).contains k && pickB ops ks (listed.setIfInBounds k true)

def setAll : List Nat → Array Bool → Array Bool
  | [], listed => listed
  | k :: ks, listed => setAll ks (listed.setIfInBounds k true)

theorem wpAnyH_list (hs : Region.noSelect ops = true) (hQ : ∀ c (a : Act) (d : Option Tmp) (v : Value) w, Q (.panic c) (a.put d v) w → Q (.panic c) a w) {w : World} (hS : S w) : ∀ (ks : List Nat) (l : List Oper) (f : Nat) (listed : Array Bool) (a : Act),
    ks.map (fun k => ops[k]?) = l.map some → pickB ops ks listed = true → wpY P ops S (fun a' => wpAnyH P .any ops Q S f (setAll ks listed) a' w) l a → wpAnyH P .any ops Q S (f + ks.length) listed a w
  | [], [], _, _, _, _, _, h => h
  | [], _ :: _, _, _, _, he, _, _ => by simp at he
  | _ :: _, [], _, _, _, he, _, _ => by simp at he
  | k :: ks, o :: l, f, listed, a, he, hp, h => by
    simp only [List.map_cons, List.cons.injEq] at he
    simp only [pickB, Bool.and_eq_true] at hp
    obtain ⟨v, hy, h'⟩ := h
    exact wpAnyH_take he.1 hs hp.1.1 hp.1.2 (fun c a w => hQ c a _ _ w) hy hS (wpAnyH_list hs hQ hS ks l f _ _ he.2 hp.2 h')

/-- Those numbers of a list that is written out. -/
def picks (l : List Oper) : List Nat → List Oper
  | [] => []
  | k :: ks => (l.drop k).take 1 ++ picks l ks

theorem picks_map (l : List Oper) : ∀ ks : List Nat, ks.all (fun k => decide (k < l.length)) = true → ks.map (fun k => l.toArray[k]?) = (picks l ks).map some
  | [], _ => rfl
  | k :: ks, h => by
    simp only [List.all_cons, Bool.and_eq_true, decide_eq_true_eq] at h
    rw [List.map_cons, picks_map l ks h.2, picks, List.map_append]
    have e : (l.drop k).take 1 = [l[k]] := by rw [List.drop_eq_getElem_cons h.1]; rfl
    rw [e]
    simp [h.1]

/-- SEVERAL ARE TAKEN FIRST. -/
theorem wpAnyH_picks {l : List Oper} (ks : List Nat) (f : Nat) {fuel : Nat} {listed : Array Bool} {a : Act} {w : World} (hf : fuel = f + ks.length) (hs : Region.noSelect l.toArray = true) (hb : ks.all (fun k => decide (k < l.length)) = true) (hp : pickB l.toArray ks listed = true)
    (hQ : ∀ c (a : Act) (d : Option Tmp) (v : Value) w, Q (.panic c) (a.put d v) w → Q (.panic c) a w) (hS : S w)
    (h : wpY P l.toArray S (fun a' => wpAnyH P .any l.toArray Q S f (setAll ks listed) a' w) (picks l ks) a) : wpAnyH P .any l.toArray Q S fuel listed a w := by
  subst hf
  exact wpAnyH_list hs hQ hS ks _ f listed a (picks_map l ks hb) hp h

/-- ONE ALONE MAY COME UP. -/
theorem wpAnyH_one {l rest : List Oper} {o : Oper} (k f : Nat) {fuel : Nat} {listed : Array Bool} {a : Act} {w : World} (hf : fuel = f + 1) (ho : l.drop k = o :: rest) (hr : Region.ready .any l.toArray listed = [k])
    (h : ∀ K' : Act → World → Prop, Shut (∀ a w, S w → (S w → wpAnyH P .any l.toArray Q S f (listed.setIfInBounds k true) a w) → K' a w) → if Region.wanted o (yielded l.toArray a.tmps) = true then Oper.wp P o a w K' Q else K' (a.put o.dst undef) w) :
    wpAnyH P .any l.toArray Q S fuel listed a w := by
  subst hf
  have ho' : l.toArray[k]? = some o := by
    have : l[k]? = (l.drop k)[0]? := by simp
    rw [List.getElem?_toArray, this, ho]; rfl
  exact wpAnyH_ready hr (by simp) (AllReadyH.cons ho' h AllReadyH.nil)

/-- TWO MAY COME UP. -/
theorem wpAnyH_two {l rest rest' : List Oper} {o o' : Oper} (k k' f : Nat) {fuel : Nat} {listed : Array Bool} {a : Act} {w : World} (hf : fuel = f + 1) (ho : l.drop k = o :: rest) (ho' : l.drop k' = o' :: rest') (hr : Region.ready .any l.toArray listed = [k, k'])
    (h : ∀ K' : Act → World → Prop, Shut (∀ a w, S w → (S w → wpAnyH P .any l.toArray Q S f (listed.setIfInBounds k true) a w) → K' a w) → if Region.wanted o (yielded l.toArray a.tmps) = true then Oper.wp P o a w K' Q else K' (a.put o.dst undef) w)
    (h' : ∀ K' : Act → World → Prop, Shut (∀ a w, S w → (S w → wpAnyH P .any l.toArray Q S f (listed.setIfInBounds k' true) a w) → K' a w) → if Region.wanted o' (yielded l.toArray a.tmps) = true then Oper.wp P o' a w K' Q else K' (a.put o'.dst undef) w) :
    wpAnyH P .any l.toArray Q S fuel listed a w := by
  subst hf
  have e1 : l.toArray[k]? = some o := by
    have : l[k]? = (l.drop k)[0]? := by simp
    rw [List.getElem?_toArray, this, ho]; rfl
  have e2 : l.toArray[k']? = some o' := by
    have : l[k']? = (l.drop k')[0]? := by simp
    rw [List.getElem?_toArray, this, ho']; rfl
  exact wpAnyH_ready hr (by simp) (AllReadyH.cons e1 h (AllReadyH.cons e2 h' AllReadyH.nil))

theorem wpY_nil {R : Act → Prop} {a : Act} (h : R a) : wpY P ops S R [] a := h
theorem wpY_want {R : Act → Prop} {a : Act} {o : Oper} {l : List Oper} {v : Value} (hw : Region.wanted o (yielded ops a.tmps) = true) (h : ∀ w, S w → (execOp a.eval o).run P w = .ok (.value v) w) (hn : wpY P ops S R l (a.put o.dst v)) : wpY P ops S R (o :: l) a := ⟨v, .inl ⟨hw, h⟩, hn⟩
theorem wpY_skip {R : Act → Prop} {a : Act} {o : Oper} {l : List Oper} (hw : Region.wanted o (yielded ops a.tmps) = false) (hn : wpY P ops S R l (a.put o.dst undef)) : wpY P ops S R (o :: l) a := ⟨undef, .inr ⟨hw, rfl⟩, hn⟩
end
end Go.Proofs.YtlgndfckmnninaaDoor
