/- Patterns and their trees, in plain words. -/
import Derived.Test.YtfhggnbnbopkkaaDoorPatMath
namespace Go.Proofs.YtfhggnbnbopkkaaDoor.PM

/-- a tree: what it is, a set's bytes, what stands under it -/
inductive T where
  | mk (op : Nat) (set : Nat → Bool) (kids : List T)

def T.op : T → Nat | .mk o _ _ => o
def T.set : T → Nat → Bool | .mk _ s _ => s
def T.kids : T → List T | .mk _ _ k => k

theorem T.ind {p : T → Prop} (h : ∀ op set kids, (∀ k ∈ kids, p k) → p (.mk op set kids)) : ∀ t, p t
  | .mk op set kids => h op set kids fun k _hk => T.ind h k
termination_by t => sizeOf t
decreasing_by
  have := List.sizeOf_lt_of_mem _hk
  simp; omega

def noSet : Nat → Bool := fun _ => false
def one (c : Nat) : T := .mk 2 (fun k => k == c) []
def every : T := .mk 2 (fun _ => true) []
def joined (op : Nat) : List T → T
  | [] => .mk 1 noSet []
  | [x] => x
  | x :: y :: l => .mk op noSet (x :: y :: l)
def over (op : Nat) (x : T) : T := .mk op noSet [x]

/-- a glob's parts -/
def globL : List UInt8 → Option (List T)
  | [] => some []
  | [c] => if c = 92 then none else some [if c = 42 then over 5 every else if c = 63 then every else one c.toNat]
  | c :: d :: r => if c = 92 then (globL r).map (one d.toNat :: ·)
    else (globL (d :: r)).map ((if c = 42 then over 5 every else if c = 63 then every else one c.toNat) :: ·)

/-- what was read and the place behind it, or the place that can't be -/
inductive R (α : Type) where
  | ok (x : α) (n : Nat)
  | bad (k : Nat)

def member (s : List UInt8) (a : Nat) : R Nat :=
  match s[a]? with
  | none => .bad a
  | some c =>
    if c.toNat = 92 then
      match s[a + 1]? with
      | none => .bad (a + 1)
      | some d => .ok d.toNat (a + 2)
    else if c.toNat = 91 ∨ c.toNat = 93 ∨ c.toNat = 94 ∨ c.toNat = 45 then .bad a else .ok c.toNat (a + 1)

def span (p : Nat → Bool) (lo hi : Nat) : Nat → Bool := fun k => p k || (decide (lo ≤ k) && decide (k ≤ hi))

def clsL : Nat → List UInt8 → Nat → Bool → (Nat → Bool) → R (Nat → Bool)
  | 0, _, a, _, _ => .bad a
  | f + 1, s, a, first, p =>
    if s[a]? = some 93 ∧ first = false then .ok p (a + 1) else
    match member s a with
    | .bad k => .bad k
    | .ok lo b =>
      if s[b]? = some 45 then
        match member s (b + 1) with
        | .bad k => .bad k
        | .ok hi c => if hi < lo then .bad (c - 1) else clsL f s c false (span p lo hi)
      else clsL f s b false (span p lo lo)

def cls (s : List UInt8) (a : Nat) : R T :=
  if s[a]? = some 94 then
    match clsL (s.length + 1) s (a + 1) true noSet with
    | .ok p n => .ok (.mk 2 (fun k => !p k) []) n
    | .bad k => .bad k
  else
    match clsL (s.length + 1) s a true noSet with
    | .ok p n => .ok (.mk 2 p []) n
    | .bad k => .bad k

mutual
def alts : Nat → List UInt8 → Nat → List T → R T
  | 0, _, a, _ => .bad a
  | f + 1, s, a, acc =>
    match row f s a [] with
    | .bad k => .bad k
    | .ok x n => if s[n]? = some 124 then alts f s (n + 1) (acc ++ [x]) else .ok (joined 4 (acc ++ [x])) n
def row : Nat → List UInt8 → Nat → List T → R T
  | 0, _, a, _ => .bad a
  | f + 1, s, a, acc =>
    if s[a]? = none ∨ s[a]? = some 124 ∨ s[a]? = some 41 then .ok (joined 3 acc) a else
    match atom f s a with
    | .bad k => .bad k
    | .ok x n =>
      if s[n]? = some 42 then row f s (n + 1) (acc ++ [over 5 x])
      else if s[n]? = some 43 then row f s (n + 1) (acc ++ [over 6 x])
      else if s[n]? = some 63 then row f s (n + 1) (acc ++ [over 7 x])
      else row f s n (acc ++ [x])
def atom : Nat → List UInt8 → Nat → R T
  | 0, _, a => .bad a
  | f + 1, s, a =>
    match s[a]? with
    | none => .bad a
    | some c =>
      if c.toNat = 40 then
        match alts f s (a + 1) [] with
        | .bad k => .bad k
        | .ok x n => if s[n]? = some 41 then .ok x (n + 1) else .bad n
      else if c.toNat = 91 then cls s (a + 1)
      else if c.toNat = 46 then .ok every (a + 1)
      else if c.toNat = 92 then
        match s[a + 1]? with
        | none => .bad (a + 1)
        | some d => .ok (one d.toNat) (a + 2)
      else if c.toNat = 42 ∨ c.toNat = 43 ∨ c.toNat = 63 ∨ c.toNat = 93 then .bad a
      else .ok (one c.toNat) (a + 1)
end

/-- what Tree tells -/
inductive TR where
  | ok (t : T)
  | arg
  | long
  | bad (k : Nat)

def tree (kind : Int) (s : List UInt8) : TR :=
  if kind < 1 ∨ 3 < kind then .arg
  else if 64 < s.length then .long
  else if kind = 1 then .ok (joined 3 (s.map fun c => one c.toNat))
  else if kind = 2 then
    match globL s with
    | none => .bad s.length
    | some l => .ok (joined 3 l)
  else
    match alts (3 * s.length + 3) s 0 [] with
    | .bad k => .bad k
    | .ok x n => if n < s.length then .bad n else .ok x

/-- may a tree be of no byte? -/
def emptyT : T → Bool
  | .mk op _ kids =>
    if op = 1 ∨ op = 5 ∨ op = 7 then true
    else if op = 6 then (match kids with | [] => false | k :: _ => emptyT k)
    else if op = 3 then kids.attach.all fun k => emptyT k.1
    else if op = 4 then kids.attach.any fun k => emptyT k.1
    else false
termination_by t => sizeOf t
decreasing_by
  all_goals (first
    | (have := List.sizeOf_lt_of_mem k.2; simp; omega)
    | (simp; omega))

theorem member_pos {s : List UInt8} {a x n : Nat} (h : member s a = .ok x n) : a < n ∧ n ≤ s.length ∧ x < 256 := by
  unfold member at h
  split at h
  · cases h
  · rename_i c hc
    have hl := (List.getElem?_eq_some_iff.1 hc).1
    split at h
    · split at h
      · cases h
      · rename_i d hd
        have hl2 := (List.getElem?_eq_some_iff.1 hd).1
        cases h
        exact ⟨by omega, by omega, d.toNat_lt⟩
    · split at h
      · cases h
      · cases h
        exact ⟨by omega, by omega, c.toNat_lt⟩

theorem member_bad {s : List UInt8} {a k : Nat} (h : member s a = .bad k) (ha : a ≤ s.length) : k ≤ s.length := by
  unfold member at h
  split at h
  · cases h; exact ha
  · rename_i c hc
    have hl := (List.getElem?_eq_some_iff.1 hc).1
    split at h
    · split at h
      · cases h; omega
      · cases h
    · split at h
      · cases h; omega
      · cases h

theorem clsL_pos : ∀ (f : Nat) (s : List UInt8) (a : Nat) (first : Bool) (p : Nat → Bool) {q : Nat → Bool} {n : Nat}, clsL f s a first p = .ok q n → a < n ∧ n ≤ s.length
  | 0, s, a, first, p, q, n, h => by simp [clsL] at h
  | f + 1, s, a, first, p, q, n, h => by
    simp only [clsL] at h
    split at h
    · rename_i h1
      have hl := (List.getElem?_eq_some_iff.1 h1.1).1
      cases h; omega
    · split at h
      · cases h
      · rename_i lo b hm
        have hm1 := member_pos hm
        split at h
        · split at h
          · cases h
          · rename_i hi c hm2
            have hm3 := member_pos hm2
            split at h
            · cases h
            · have := clsL_pos f s c false _ h; omega
        · have := clsL_pos f s b false _ h; omega

theorem clsL_bad : ∀ (f : Nat) (s : List UInt8) (a : Nat) (first : Bool) (p : Nat → Bool) {k : Nat}, clsL f s a first p = .bad k → a ≤ s.length → k ≤ s.length
  | 0, s, a, first, p, k, h, ha => by simp [clsL] at h; omega
  | f + 1, s, a, first, p, k, h, ha => by
    simp only [clsL] at h
    split at h
    · cases h
    · split at h
      · rename_i k' hm
        cases h; exact member_bad hm ha
      · rename_i lo b hm
        have hm1 := member_pos hm
        split at h
        · rename_i hb
          have hl := (List.getElem?_eq_some_iff.1 hb).1
          split at h
          · rename_i hm2; cases h; exact member_bad hm2 (by omega)
          · rename_i hi c hm2
            have hm3 := member_pos hm2
            split at h
            · cases h; omega
            · exact clsL_bad f s c false _ h (by omega)
        · exact clsL_bad f s b false _ h (by omega)

theorem cls_pos {s : List UInt8} {a : Nat} {t : T} {n : Nat} (h : cls s a = .ok t n) : a < n ∧ n ≤ s.length := by
  unfold cls at h
  split at h
  · split at h
    · rename_i hc; have := clsL_pos _ _ _ _ _ hc; cases h; omega
    · cases h
  · split at h
    · rename_i hc; have := clsL_pos _ _ _ _ _ hc; cases h; omega
    · cases h

theorem cls_bad {s : List UInt8} {a k : Nat} (h : cls s a = .bad k) (ha : a ≤ s.length) : k ≤ s.length := by
  unfold cls at h
  split at h
  · rename_i h1
    have hl := (List.getElem?_eq_some_iff.1 h1).1
    split at h
    · cases h
    · rename_i hc; cases h; exact clsL_bad _ _ _ _ _ hc (by omega)
  · split at h
    · cases h
    · rename_i hc; cases h; exact clsL_bad _ _ _ _ _ hc ha

/-- how far the readers go -/
theorem read_pos (s : List UInt8) : ∀ f : Nat,
    (∀ a acc t n, alts f s a acc = .ok t n → a ≤ s.length → a ≤ n ∧ n ≤ s.length ∧ s[n]? ≠ some 124) ∧
    (∀ a acc t n, row f s a acc = .ok t n → a ≤ s.length → a ≤ n ∧ n ≤ s.length ∧ (s[n]? = none ∨ s[n]? = some 124 ∨ s[n]? = some 41)) ∧
    (∀ a t n, atom f s a = .ok t n → a < n ∧ n ≤ s.length)
  | 0 => ⟨fun a acc t n h => by simp [alts] at h, fun a acc t n h => by simp [row] at h, fun a t n h => by simp [atom] at h⟩
  | f + 1 => by
    obtain ⟨h1, h2, h3⟩ := read_pos s f
    refine ⟨fun a acc t n h ha => ?_, fun a acc t n h ha => ?_, fun a t n h => ?_⟩
    · simp only [alts] at h
      split at h
      · cases h
      · rename_i x m hr
        have := h2 _ _ _ _ hr ha
        split at h
        · rename_i hb
          have hl := (List.getElem?_eq_some_iff.1 hb).1
          have := h1 _ _ _ _ h (by omega)
          exact ⟨by omega, this.2⟩
        · rename_i hb; cases h; exact ⟨this.1, this.2.1, hb⟩
    · simp only [row] at h
      split at h
      · rename_i hb; cases h; exact ⟨by omega, ha, hb⟩
      · split at h
        · cases h
        · rename_i x m hr
          have hm := h3 _ _ _ hr
          split at h
          · rename_i hb; have hl := (List.getElem?_eq_some_iff.1 hb).1
            have := h2 _ _ _ _ h (by omega); exact ⟨by omega, this.2⟩
          · split at h
            · rename_i hb; have hl := (List.getElem?_eq_some_iff.1 hb).1
              have := h2 _ _ _ _ h (by omega); exact ⟨by omega, this.2⟩
            · split at h
              · rename_i hb; have hl := (List.getElem?_eq_some_iff.1 hb).1
                have := h2 _ _ _ _ h (by omega); exact ⟨by omega, this.2⟩
              · have := h2 _ _ _ _ h (by omega); exact ⟨by omega, this.2⟩
    · simp only [atom] at h
      split at h
      · cases h
      · rename_i c hc
        have hl := (List.getElem?_eq_some_iff.1 hc).1
        split at h
        · split at h
          · cases h
          · rename_i x m hr
            have hm := h1 _ _ _ _ hr (by omega)
            split at h
            · rename_i hb; have hl := (List.getElem?_eq_some_iff.1 hb).1
              cases h; omega
            · cases h
        · split at h
          · have := cls_pos h; omega
          · split at h
            · cases h; omega
            · split at h
              · split at h
                · cases h
                · rename_i d hd; have hl := (List.getElem?_eq_some_iff.1 hd).1
                  cases h; omega
              · split at h
                · cases h
                · cases h; omega

/-- where the readers stop is in the text, or at its end, if there are rounds enough -/
theorem read_bad (s : List UInt8) : ∀ f : Nat,
    (∀ a acc k, alts f s a acc = .bad k → a ≤ s.length → k ≤ s.length) ∧
    (∀ a acc k, row f s a acc = .bad k → a ≤ s.length → k ≤ s.length) ∧
    (∀ a k, atom f s a = .bad k → a ≤ s.length → k ≤ s.length)
  | 0 => ⟨fun a acc k h => by simp [alts] at h; omega, fun a acc k h => by simp [row] at h; omega, fun a k h => by simp [atom] at h; omega⟩
  | f + 1 => by
    obtain ⟨h1, h2, h3⟩ := read_bad s f
    obtain ⟨p1, p2, p3⟩ := read_pos s f
    refine ⟨fun a acc k h ha => ?_, fun a acc k h ha => ?_, fun a k h ha => ?_⟩
    · simp only [alts] at h
      split at h
      · rename_i hr; cases h; exact h2 _ _ _ hr ha
      · rename_i x m hr
        split at h
        · rename_i hb
          have hl := (List.getElem?_eq_some_iff.1 hb).1
          exact h1 _ _ _ h (by omega)
        · cases h
    · simp only [row] at h
      split at h
      · cases h
      · split at h
        · rename_i hr; cases h; exact h3 _ _ hr ha
        · rename_i x m hr
          have hm := p3 _ _ _ hr
          split at h
          · rename_i hb; have hl := (List.getElem?_eq_some_iff.1 hb).1
            exact h2 _ _ _ h (by omega)
          · split at h
            · rename_i hb; have hl := (List.getElem?_eq_some_iff.1 hb).1
              exact h2 _ _ _ h (by omega)
            · split at h
              · rename_i hb; have hl := (List.getElem?_eq_some_iff.1 hb).1
                exact h2 _ _ _ h (by omega)
              · exact h2 _ _ _ h (by omega)
    · simp only [atom] at h
      split at h
      · cases h; exact ha
      · rename_i c hc
        have hl := (List.getElem?_eq_some_iff.1 hc).1
        split at h
        · split at h
          · rename_i hr; cases h; exact h1 _ _ _ hr (by omega)
          · rename_i x m hr
            have hm := p1 _ _ _ _ hr (by omega)
            split at h
            · cases h
            · cases h; omega
        · split at h
          · exact cls_bad h (by omega)
          · split at h
            · cases h
            · split at h
              · split at h
                · cases h; omega
                · cases h
              · split at h
                · cases h; omega
                · cases h

end Go.Proofs.YtfhggnbnbopkkaaDoor.PM
