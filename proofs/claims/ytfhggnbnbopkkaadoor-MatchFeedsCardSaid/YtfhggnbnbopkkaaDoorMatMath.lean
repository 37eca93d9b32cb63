/- The first match: plain. -/
import Derived.Test.YtfhggnbnbopkkaaDoorNfaJoinMath

namespace Go.Proofs.YtfhggnbnbopkkaaDoor.PM

/-- the first place from which a tree fits up to the end -/
def fromOf (t : T) (l : List UInt8) : Option Nat := (List.range l.length).find? fun p => fitsB t (l.drop p)
/-- of the first pattern -/
def hitOf : List T → List UInt8 → Option (Nat × Nat)
  | [], _ => none
  | t :: r, l => match fromOf t l with
    | some p => some (0, p)
    | none => (hitOf r l).map fun x => (x.1 + 1, x.2)
/-- the first end, from a place on -/
def firstOf (ts : List T) (s : List UInt8) : Nat → Nat → Option (Nat × Nat × Nat)
  | 0, _ => none
  | n + 1, k => match hitOf ts (s.take (k + 1)) with
    | some (a, p) => some (a, p, k + 1)
    | none => firstOf ts s n (k + 1)
/-- .. of a text -/
def first (ts : List T) (s : List UInt8) : Option (Nat × Nat × Nat) := firstOf ts s s.length 0
/-- what is kept -/
def keepN (m : Nat) (s : List UInt8) : List UInt8 := s.drop (s.length - m)
def keep (s : List UInt8) : List UInt8 := keepN 256 s
/-- what a matcher takes of a piece, what it finds, what it keeps -/
def feed (ts : List T) : List UInt8 → List UInt8 → Nat × Option (Nat × Nat × Nat) × List UInt8
  | kept, [] => (0, none, kept)
  | kept, c :: r => match hitOf ts (keep (kept ++ [c])) with
    | some (a, p) => (1, some (a, p, (keep (kept ++ [c])).length), [])
    | none => let x := feed ts (keep (kept ++ [c])) r; (x.1 + 1, x.2.1, x.2.2)

theorem find_range {p : Nat → Bool} {n : Nat} : (List.range n).find? p = none ↔ ∀ k, k < n → p k = false := by
  rw [List.find?_eq_none]; simp
theorem find_range_some {p : Nat → Bool} {n k : Nat} : (List.range n).find? p = some k ↔ k < n ∧ p k = true ∧ ∀ j, j < k → p j = false := by
  rw [List.find?_range_eq_some]
  constructor
  · rintro ⟨h1, h2, h3⟩
    exact ⟨List.mem_range.1 h2, h1, fun j hj => by simpa using h3 j hj⟩
  · rintro ⟨h1, h2, h3⟩
    exact ⟨h2, List.mem_range.2 h1, fun j hj => by simpa using h3 j hj⟩
theorem fromOf_none {t : T} {l : List UInt8} : fromOf t l = none ↔ ∀ p, p < l.length → fitsB t (l.drop p) = false := find_range
theorem fromOf_some {t : T} {l : List UInt8} {p : Nat} : fromOf t l = some p ↔ p < l.length ∧ fitsB t (l.drop p) = true ∧ ∀ q, q < p → fitsB t (l.drop q) = false := find_range_some
theorem hitOf_none : ∀ {ts : List T} {l : List UInt8}, hitOf ts l = none ↔ ∀ t ∈ ts, fromOf t l = none
  | [], l => ⟨fun _ t h => (by cases h), fun _ => rfl⟩
  | t :: r, l => by
    unfold hitOf
    cases h : fromOf t l with
    | some p => exact ⟨fun e => (by cases e), fun e => (by have := e t (by simp); rw [h] at this; cases this)⟩
    | none =>
      simp only [Option.map_eq_none_iff]
      rw [hitOf_none]
      constructor
      · intro e x hx
        rcases List.mem_cons.1 hx with rfl | hx
        · exact h
        · exact e x hx
      · intro e x hx
        exact e x (List.mem_cons_of_mem _ hx)
theorem hitOf_some : ∀ {ts : List T} {l : List UInt8} {a p : Nat}, hitOf ts l = some (a, p) ↔ ∃ t, ts[a]? = some t ∧ fromOf t l = some p ∧ ∀ b t', b < a → ts[b]? = some t' → fromOf t' l = none
  | [], l, a, p => ⟨fun e => (by cases e), fun ⟨t, h, _⟩ => (by simp at h)⟩
  | t :: r, l, a, p => by
    unfold hitOf
    cases h : fromOf t l with
    | some q =>
      simp only [Option.some.injEq, Prod.mk.injEq]
      constructor
      · rintro ⟨rfl, rfl⟩
        exact ⟨t, rfl, h, fun b t' hb => by omega⟩
      · rintro ⟨t', h1, h2, h3⟩
        cases a with
        | zero =>
          simp at h1
          subst h1
          rw [h] at h2
          exact ⟨rfl, Option.some.inj h2⟩
        | succ a =>
          have := h3 0 t (by omega) rfl
          rw [h] at this; cases this
    | none =>
      simp only [Option.map_eq_some_iff, Prod.exists, Prod.mk.injEq]
      constructor
      · rintro ⟨a', p', h1, rfl, rfl⟩
        obtain ⟨t', h2, h3, h4⟩ := hitOf_some.1 h1
        refine ⟨t', by simpa using h2, h3, fun b t'' hb hbt => ?_⟩
        cases b with
        | zero => simp at hbt; subst hbt; exact h
        | succ b => exact h4 b t'' (by omega) (by simpa using hbt)
      · rintro ⟨t', h1, h2, h3⟩
        cases a with
        | zero => simp at h1; subst h1; rw [h] at h2; cases h2
        | succ a =>
          exact ⟨a, p, hitOf_some.2 ⟨t', by simpa using h1, h2, fun b t'' hb hbt => h3 (b + 1) t'' (by omega) (by simpa using hbt)⟩, rfl, rfl⟩

/-- nothing is found in what stands behind a beginning where nothing is found in the whole -/
theorem hitOf_drop {ts : List T} {l : List UInt8} (h : hitOf ts l = none) (k : Nat) : hitOf ts (l.drop k) = none := by
  rw [hitOf_none] at h ⊢
  intro t ht
  rw [fromOf_none]
  intro p hp
  rw [List.length_drop] at hp
  rw [List.drop_drop]
  exact fromOf_none.1 (h t ht) _ (by omega)

theorem firstOf_none {ts : List T} {s : List UInt8} : ∀ {n k : Nat}, firstOf ts s n k = none ↔ ∀ j, k ≤ j → j < k + n → hitOf ts (s.take (j + 1)) = none
  | 0, k => ⟨fun _ j h1 h2 => by omega, fun _ => rfl⟩
  | n + 1, k => by
    unfold firstOf
    cases h : hitOf ts (s.take (k + 1)) with
    | some x => exact ⟨fun e => (by cases e), fun e => (by have := e k (Nat.le_refl _) (by omega); rw [h] at this; cases this)⟩
    | none =>
      simp only []
      rw [firstOf_none]
      constructor
      · intro e j h1 h2
        rcases Nat.eq_or_lt_of_le h1 with rfl | h3
        · exact h
        · exact e j h3 (by omega)
      · intro e j h1 h2
        exact e j (by omega) (by omega)
theorem firstOf_some {ts : List T} {s : List UInt8} : ∀ {n k a p e : Nat}, firstOf ts s n k = some (a, p, e) ↔ k < e ∧ e ≤ k + n ∧ hitOf ts (s.take e) = some (a, p) ∧ ∀ j, k ≤ j → j + 1 < e → hitOf ts (s.take (j + 1)) = none
  | 0, k, a, p, e => ⟨fun h => (by cases h), fun ⟨h1, h2, _⟩ => by omega⟩
  | n + 1, k, a, p, e => by
    unfold firstOf
    cases h : hitOf ts (s.take (k + 1)) with
    | some x =>
      obtain ⟨a', p'⟩ := x
      simp only [Option.some.injEq, Prod.mk.injEq]
      constructor
      · rintro ⟨rfl, rfl, rfl⟩
        exact ⟨by omega, by omega, h, fun j h1 h2 => by omega⟩
      · rintro ⟨h1, h2, h3, h4⟩
        rcases Nat.eq_or_lt_of_le (show k + 1 ≤ e from h1) with rfl | h5
        · rw [h] at h3
          obtain ⟨rfl, rfl⟩ := Prod.mk.inj (Option.some.inj h3)
          exact ⟨rfl, rfl, rfl⟩
        · have := h4 k (Nat.le_refl _) h5
          rw [h] at this; cases this
    | none =>
      simp only []
      rw [firstOf_some]
      constructor
      · rintro ⟨h1, h2, h3, h4⟩
        refine ⟨by omega, by omega, h3, fun j h5 h6 => ?_⟩
        rcases Nat.eq_or_lt_of_le h5 with rfl | h7
        · exact h
        · exact h4 j h7 h6
      · rintro ⟨h1, h2, h3, h4⟩
        refine ⟨?_, by omega, h3, fun j h5 h6 => h4 j (by omega) h6⟩
        rcases Nat.eq_or_lt_of_le (show k + 1 ≤ e from h1) with rfl | h5
        · rw [h] at h3; cases h3
        · exact h5
theorem first_none {ts : List T} {s : List UInt8} : first ts s = none ↔ ∀ j, j < s.length → hitOf ts (s.take (j + 1)) = none := by
  unfold first
  rw [firstOf_none]
  exact ⟨fun h j hj => h j (Nat.zero_le _) (by omega), fun h j _ hj => h j (by omega)⟩
theorem first_some {ts : List T} {s : List UInt8} {a p e : Nat} : first ts s = some (a, p, e) ↔ 0 < e ∧ e ≤ s.length ∧ hitOf ts (s.take e) = some (a, p) ∧ ∀ j, j + 1 < e → hitOf ts (s.take (j + 1)) = none := by
  unfold first
  rw [firstOf_some]
  constructor
  · rintro ⟨h1, h2, h3, h4⟩
    exact ⟨h1, by omega, h3, fun j hj => h4 j (Nat.zero_le _) hj⟩
  · rintro ⟨h1, h2, h3, h4⟩
    exact ⟨h1, by omega, h3, fun j _ hj => h4 j hj⟩

/-- nothing found so far in what is kept -/
def Bare (ts : List T) (l : List UInt8) : Prop := ∀ j, j < l.length → hitOf ts (l.take (j + 1)) = none
theorem Bare.nil (ts : List T) : Bare ts [] := fun j hj => by simp at hj
theorem Bare.snoc {ts : List T} {l : List UInt8} {c : UInt8} (h : Bare ts l) (hn : hitOf ts (l ++ [c]) = none) : Bare ts (l ++ [c]) := by
  intro j hj
  rw [List.length_append, List.length_singleton] at hj
  rcases Nat.eq_or_lt_of_le (show j ≤ l.length by omega) with rfl | h2
  · rw [List.take_of_length_le (by simp)]; exact hn
  · rw [List.take_append_of_le_length (by omega)]; exact h j h2
theorem Bare.drop {ts : List T} {l : List UInt8} (h : Bare ts l) (k : Nat) : Bare ts (l.drop k) := by
  intro j hj
  rw [List.length_drop] at hj
  have := hitOf_drop (h (j + k) (by omega)) k
  rw [List.drop_take, show j + k + 1 - k = j + 1 by omega] at this
  exact this
theorem keepN_len (m : Nat) (l : List UInt8) : (keepN m l).length ≤ m := by unfold keepN; rw [List.length_drop]; omega
theorem keepN_short {m : Nat} {l : List UInt8} (h : l.length ≤ m) : keepN m l = l := by unfold keepN; rw [show l.length - m = 0 by omega, List.drop_zero]
theorem keepN_append (m : Nat) (a b : List UInt8) : keepN m (keepN m a ++ b) = keepN m (a ++ b) := by
  have h : keepN m a ++ b = (a ++ b).drop (a.length - m) := (List.drop_append_of_le_length (by omega)).symm
  rw [h]
  unfold keepN
  rw [List.drop_drop, List.length_drop, List.length_append]
  exact congrArg (fun k => (a ++ b).drop k) (by omega)
theorem keep_len (l : List UInt8) : (keep l).length ≤ 256 := keepN_len 256 l
theorem keep_short {l : List UInt8} (h : l.length ≤ 256) : keep l = l := keepN_short h
theorem keep_append (a b : List UInt8) : keep (keep a ++ b) = keep (a ++ b) := keepN_append 256 a b
/-- what is found first in what is kept ends with it -/
theorem first_keptN {m : Nat} (hm : 0 < m) {ts : List T} {l : List UInt8} {c : UInt8} (h : Bare ts l) : first ts (keepN m (l ++ [c])) = (hitOf ts (keepN m (l ++ [c]))).map fun x => (x.1, x.2, (keepN m (l ++ [c])).length) := by
  have hb : ∀ j, j + 1 < (keepN m (l ++ [c])).length → hitOf ts ((keepN m (l ++ [c])).take (j + 1)) = none := by
    intro j hj
    unfold keepN at hj ⊢
    rw [List.length_drop] at hj
    generalize hk : (l ++ [c]).length - m = k at hj ⊢
    have hlen : (l ++ [c]).length = l.length + 1 := by simp
    have h3 := hitOf_drop (h (j + k) (by omega)) k
    rw [List.drop_take, show j + k + 1 - k = j + 1 by omega] at h3
    rw [List.drop_append_of_le_length (by omega), List.take_append_of_le_length (by rw [List.length_drop]; omega)]
    exact h3
  have hpos : 0 < (keepN m (l ++ [c])).length := by unfold keepN; rw [List.length_drop, List.length_append, List.length_singleton]; omega
  cases hh : hitOf ts (keepN m (l ++ [c])) with
  | some x =>
    obtain ⟨a, p⟩ := x
    exact first_some.2 ⟨hpos, Nat.le_refl _, by rw [List.take_length]; exact hh, hb⟩
  | none =>
    refine first_none.2 fun j hj => ?_
    rcases Nat.eq_or_lt_of_le (show j + 1 ≤ (keepN m (l ++ [c])).length from hj) with e | h2
    · rw [e, List.take_length]; exact hh
    · exact hb j h2
theorem first_kept {ts : List T} {l : List UInt8} {c : UInt8} (h : Bare ts l) : first ts (keep (l ++ [c])) = (hitOf ts (keep (l ++ [c]))).map fun x => (x.1, x.2, (keep (l ++ [c])).length) := first_keptN (m := 256) (Nat.succ_pos _) h
theorem Bare.kept {ts : List T} {l : List UInt8} {c : UInt8} (h : Bare ts l) (hn : hitOf ts (keep (l ++ [c])) = none) : Bare ts (keep (l ++ [c])) := by
  have := first_kept (c := c) h
  rw [hn] at this
  exact first_none.1 this
end Go.Proofs.YtfhggnbnbopkkaaDoor.PM

namespace Go.Proofs.YtfhggnbnbopkkaaDoor.PM

/-- what was found: the arm, from, to; how many bytes had come -/
abbrev Fd := Nat × Nat × Nat × Nat
/-- a byte more: found so far, kept, how many bytes came -/
def stepR (ts : List T) (r : List Fd × List UInt8 × Nat) (c : UInt8) : List Fd × List UInt8 × Nat :=
  match hitOf ts (keep (r.2.1 ++ [c])) with
  | some (a, p) => (r.1 ++ [(a, p, (keep (r.2.1 ++ [c])).length, r.2.2 + 1)], [], r.2.2 + 1)
  | none => (r.1, keep (r.2.1 ++ [c]), r.2.2 + 1)
def runR (ts : List T) (r : List Fd × List UInt8 × Nat) (s : List UInt8) : List Fd × List UInt8 × Nat := s.foldl (stepR ts) r
theorem runR_append (ts : List T) (r : List Fd × List UInt8 × Nat) (a b : List UInt8) : runR ts r (a ++ b) = runR ts (runR ts r a) b := List.foldl_append
theorem feed_le (ts : List T) : ∀ (s kept : List UInt8), (feed ts kept s).1 ≤ s.length ∧ ((feed ts kept s).2.1 = none → (feed ts kept s).1 = s.length) ∧ (s ≠ [] → 0 < (feed ts kept s).1)
  | [], kept => ⟨Nat.le_refl _, fun _ => rfl, fun h => absurd rfl h⟩
  | c :: s, kept => by
    unfold feed
    cases h : hitOf ts (keep (kept ++ [c])) with
    | some x => exact ⟨(by simp), fun h => (by cases h), fun _ => Nat.succ_pos _⟩
    | none =>
      obtain ⟨h1, h2, _⟩ := feed_le ts s (keep (kept ++ [c]))
      exact ⟨Nat.succ_le_succ h1, fun h => congrArg (· + 1) (h2 h), fun _ => Nat.succ_pos _⟩
theorem feed_run (ts : List T) : ∀ (s kept : List UInt8) (f : List Fd) (n : Nat), runR ts (f, kept, n) (s.take (feed ts kept s).1) =
    ((match (feed ts kept s).2.1 with | some (a, p, e) => f ++ [(a, p, e, n + (feed ts kept s).1)] | none => f), (feed ts kept s).2.2, n + (feed ts kept s).1)
  | [], kept, f, n => rfl
  | c :: s, kept, f, n => by
    unfold feed
    cases h : hitOf ts (keep (kept ++ [c])) with
    | some x =>
      show List.foldl (stepR ts) (f, kept, n) [c] = _
      simp only [List.foldl_cons, List.foldl_nil, stepR, h]
    | none =>
      have ih := feed_run ts s (keep (kept ++ [c])) f (n + 1)
      simp only [List.take_succ_cons]
      show List.foldl (stepR ts) (stepR ts (f, kept, n) c) (s.take (feed ts (keep (kept ++ [c])) s).1) = _
      have hs : stepR ts (f, kept, n) c = (f, keep (kept ++ [c]), n + 1) := by simp only [stepR, h]
      rw [hs]
      refine Eq.trans ih ?_
      have e : n + 1 + (feed ts (keep (kept ++ [c])) s).1 = n + ((feed ts (keep (kept ++ [c])) s).1 + 1) := by omega
      rw [e]
theorem feed_nil {ts : List T} : ∀ {s kept : List UInt8}, (feed ts kept s).2.1 ≠ none → (feed ts kept s).2.2 = []
  | [], _, h => absurd rfl h
  | c :: s, kept, h => by
    unfold feed at h ⊢
    cases e : hitOf ts (keep (kept ++ [c])) with
    | some x => rfl
    | none => rw [e] at h; exact feed_nil h
theorem feed_bare {ts : List T} : ∀ {s kept : List UInt8}, Bare ts kept → Bare ts (feed ts kept s).2.2
  | [], _, h => h
  | c :: s, kept, h => by
    unfold feed
    cases e : hitOf ts (keep (kept ++ [c])) with
    | some x => exact Bare.nil ts
    | none => exact feed_bare (h.kept e)
theorem feed_short {ts : List T} : ∀ {s kept : List UInt8}, kept.length ≤ 256 → (feed ts kept s).2.2.length ≤ 256
  | [], _, h => h
  | c :: s, kept, _ => by
    unfold feed
    cases e : hitOf ts (keep (kept ++ [c])) with
    | some x => simp
    | none => exact feed_short (keep_len _)
/-- what is found ends within what is kept -/
theorem hitOf_lt {ts : List T} {l : List UInt8} {a p : Nat} (h : hitOf ts l = some (a, p)) : a < ts.length ∧ p < l.length := by
  obtain ⟨t, h1, h2, _⟩ := hitOf_some.1 h
  exact ⟨(List.getElem?_eq_some_iff.1 h1).1, (fromOf_some.1 h2).1⟩
/-- the steps of a feed -/
theorem feed_snoc (ts : List T) : ∀ (s kept : List UInt8) (c : UInt8), (feed ts kept s).2.1 = none → feed ts kept (s ++ [c]) = (match hitOf ts (keep ((feed ts kept s).2.2 ++ [c])) with
    | some (a, p) => (s.length + 1, some (a, p, (keep ((feed ts kept s).2.2 ++ [c])).length), [])
    | none => (s.length + 1, none, keep ((feed ts kept s).2.2 ++ [c])))
  | [], kept, c, _ => by
    simp only [List.nil_append, feed]
    cases h : hitOf ts (keep (kept ++ [c])) with
    | some x => rfl
    | none => rfl
  | d :: s, kept, c, h => by
    cases e : hitOf ts (keep (kept ++ [d])) with
    | some x => unfold feed at h; rw [e] at h; cases h
    | none =>
      have h' : (feed ts (keep (kept ++ [d])) s).2.1 = none := by unfold feed at h; rw [e] at h; exact h
      have ih := feed_snoc ts s (keep (kept ++ [d])) c h'
      have e1 : feed ts kept (d :: s) = ((feed ts (keep (kept ++ [d])) s).1 + 1, (feed ts (keep (kept ++ [d])) s).2.1, (feed ts (keep (kept ++ [d])) s).2.2) := by
        rw [feed, e]
      have e2 : feed ts kept (d :: s ++ [c]) = ((feed ts (keep (kept ++ [d])) (s ++ [c])).1 + 1, (feed ts (keep (kept ++ [d])) (s ++ [c])).2.1, (feed ts (keep (kept ++ [d])) (s ++ [c])).2.2) := by
        show feed ts kept (d :: (s ++ [c])) = _
        rw [feed, e]
      rw [e2, ih]
      simp only [e1, List.length_cons]
      rcases hitOf ts (keep ((feed ts (keep (kept ++ [d])) s).2.2 ++ [c])) with _ | ⟨a, p⟩ <;> simp only []
/-- once found, nothing more is taken -/
theorem feed_stop (ts : List T) : ∀ (s kept b : List UInt8), (feed ts kept s).2.1 ≠ none → feed ts kept (s ++ b) = feed ts kept s
  | [], _, _, h => absurd rfl h
  | d :: s, kept, b, h => by
    show feed ts kept (d :: (s ++ b)) = _
    unfold feed
    cases e : hitOf ts (keep (kept ++ [d])) with
    | some x => rfl
    | none =>
      have h' : (feed ts (keep (kept ++ [d])) s).2.1 ≠ none := by unfold feed at h; rw [e] at h; exact h
      simp only [feed_stop ts s _ b h']
end Go.Proofs.YtfhggnbnbopkkaaDoor.PM
