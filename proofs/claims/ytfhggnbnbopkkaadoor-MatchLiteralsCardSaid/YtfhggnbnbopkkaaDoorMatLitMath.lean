/- Of literals it is the first place at which one of them stands whole: plain. -/
import Derived.Test.YtfhggnbnbopkkaaDoorMatMath
import Derived.Test.YtfhggnbnbopkkaaDoorNfaLitMath
namespace Go.Proofs.YtfhggnbnbopkkaaDoor.PM

def litT (s : List UInt8) : T := joined 3 (s.map fun c => one c.toNat)
/-- a word stands at the end -/
def tailIs (s l : List UInt8) : Prop := s.length ≤ l.length ∧ l.drop (l.length - s.length) = s
instance (s l : List UInt8) : Decidable (tailIs s l) := inferInstanceAs (Decidable (_ ∧ _))
theorem fromOf_lit {s : List UInt8} (h1 : 1 ≤ s.length) (h2 : s.length ≤ 64) (l : List UInt8) (h : tailIs s l) : fromOf (litT s) l = some (l.length - s.length) := by
  refine fromOf_some.2 ⟨by have := h.1; omega, ?_, fun q hq => ?_⟩
  · unfold litT; rw [fits_lit h2, decide_eq_true_eq]; exact h.2
  · unfold litT
    rw [fits_lit h2, decide_eq_false_iff_not]
    intro e
    have := congrArg List.length e
    rw [List.length_drop] at this
    omega
theorem fromOf_nolit {s : List UInt8} (h1 : 1 ≤ s.length) (h2 : s.length ≤ 64) (l : List UInt8) (h : ¬ tailIs s l) : fromOf (litT s) l = none := by
  refine fromOf_none.2 fun p hp => ?_
  unfold litT
  rw [fits_lit h2, decide_eq_false_iff_not]
  intro e
  have h3 := congrArg List.length e
  rw [List.length_drop] at h3
  exact h ⟨by omega, by rw [show l.length - s.length = p by omega]; exact e⟩
/-- words that are looked for -/
def Words (ws : List (List UInt8)) : Prop := ∀ s ∈ ws, 1 ≤ s.length ∧ s.length ≤ 64
theorem hit_lit {ws : List (List UInt8)} (hw : Words ws) {l : List UInt8} {i : Nat} {s : List UInt8} (hi : ws[i]? = some s) (he : tailIs s l) (hb : ∀ (j : Nat) s', j < i → ws[j]? = some s' → ¬ tailIs s' l) : hitOf (ws.map litT) l = some (i, l.length - s.length) := by
  have hs := hw s (List.mem_of_getElem? hi)
  refine hitOf_some.2 ⟨litT s, by rw [List.getElem?_map, hi]; rfl, fromOf_lit hs.1 hs.2 l he, fun b t' hbi hbt => ?_⟩
  rw [List.getElem?_map] at hbt
  cases hb' : ws[b]? with
  | none => rw [hb'] at hbt; cases hbt
  | some s' =>
    rw [hb'] at hbt; cases hbt
    have hs' := hw s' (List.mem_of_getElem? hb')
    exact fromOf_nolit hs'.1 hs'.2 l (hb b s' hbi hb')
theorem hit_nolit {ws : List (List UInt8)} (hw : Words ws) {l : List UInt8} (hb : ∀ (j : Nat) s', ws[j]? = some s' → ¬ tailIs s' l) : hitOf (ws.map litT) l = none := by
  rw [hitOf_none]
  intro t ht
  obtain ⟨s, hs, rfl⟩ := List.mem_map.1 ht
  obtain ⟨j, hj, e⟩ := List.mem_iff_getElem.1 hs
  have hw' := hw s hs
  exact fromOf_nolit hw'.1 hw'.2 l (hb j s ((List.getElem?_eq_getElem hj).trans (by rw [e])))
theorem tree_litT {s : List UInt8} (h : s.length ≤ 64) : tree 1 s = .ok (litT s) := tree_short h
theorem emptyT_lit {s : List UInt8} (h1 : 1 ≤ s.length) (hE : ∀ op set kids, emptyT (.mk op set kids) = (if op = 1 ∨ op = 5 ∨ op = 7 then true else if op = 6 then (match kids with | [] => false | k :: _ => emptyT k) else if op = 3 then kids.all emptyT else if op = 4 then kids.any emptyT else false)) : emptyT (litT s) = false := by
  have h1' : ∀ c : UInt8, emptyT (one c.toNat) = false := fun c => by
    show emptyT (.mk 2 _ []) = false
    rw [hE]; rfl
  unfold litT
  match s, h1 with
  | [c], _ => exact h1' c
  | c :: d :: r, _ =>
    show emptyT (.mk 3 noSet (one c.toNat :: one d.toNat :: r.map fun c => one c.toNat)) = false
    rw [hE]
    simp only [show ¬ (3 = 1 ∨ 3 = 5 ∨ 3 = 7) by decide, if_false, show ¬ (3 = 6) by decide, if_true, List.all_cons, h1', Bool.false_and]
end Go.Proofs.YtfhggnbnbopkkaaDoor.PM
