/- What a tree fits, and the places of its sets, in plain words: a text is fitted just if the places can be gone through with it. -/
import Derived.Test.YtfhggnbnbopkkaaDoorPatTree
namespace Go.Proofs.YtfhggnbnbopkkaaDoor.PM

/-- again and again -/
inductive Star (A : List UInt8 → Prop) : List UInt8 → Prop
  | nil : Star A []
  | cons {u v} : A u → Star A v → Star A (u ++ v)

/-- what a tree fits -/
inductive L : T → List UInt8 → Prop
  | set {s ks c} : s c.toNat = true → L (.mk 2 s ks) [c]
  | catNil {s} : L (.mk 3 s []) []
  | catCons {s k ks u v} : L k u → L (.mk 3 s ks) v → L (.mk 3 s (k :: ks)) (u ++ v)
  | alt {s k ks u} : k ∈ ks → L k u → L (.mk 4 s ks) u
  | starNil {s ks} : L (.mk 5 s ks) []
  | starCons {s k ks u v} : L k u → L (.mk 5 s (k :: ks)) v → L (.mk 5 s (k :: ks)) (u ++ v)
  | plus {s s' k ks u v} : L k u → L (.mk 5 s' (k :: ks)) v → L (.mk 6 s (k :: ks)) (u ++ v)
  | optNil {s ks} : L (.mk 7 s ks) []
  | opt {s k ks u} : L k u → L (.mk 7 s (k :: ks)) u
  | other {op s ks} : op ≠ 2 → op ≠ 3 → op ≠ 4 → op ≠ 5 → op ≠ 6 → op ≠ 7 → L (.mk op s ks) []

/-- a net under way: how many places, which place has which byte, which may stand behind which -/
structure NS where
  k : Nat
  has : Nat → Nat → Bool
  fol : Nat → Nat → Bool
structure Part where
  first : Nat → Bool
  last : Nat → Bool
  empty : Bool

def none' : Nat → Bool := fun _ => false
def Part.zero (e : Bool) : Part := ⟨none', none', e⟩
def NS.link (n : NS) (a b : Nat → Bool) : NS := { n with fol := fun x y => n.fol x y || (a x && b y) }
def NS.leaf (n : NS) (set : Nat → Bool) : NS := { n with k := n.k + 1, has := fun c q => n.has c q || (q == n.k && set c) }
def Part.cat (a b : Part) : Part := ⟨fun x => a.first x || (a.empty && b.first x), fun x => (b.empty && a.last x) || b.last x, a.empty && b.empty⟩
def Part.alt (a b : Part) : Part := ⟨fun x => a.first x || b.first x, fun x => a.last x || b.last x, a.empty || b.empty⟩

mutual
def add : T → NS → NS × Part
  | .mk op set kids, n =>
    if op = 2 then (n.leaf set, ⟨fun q => q == n.k, fun q => q == n.k, false⟩)
    else if op = 3 then addCat kids n (Part.zero true)
    else if op = 4 then addAlt kids n (Part.zero false)
    else if op = 5 ∨ op = 6 ∨ op = 7 then addOne kids n op
    else (n, Part.zero true)
def addCat : List T → NS → Part → NS × Part
  | [], n, all => (n, all)
  | x :: r, n, all => addCat r ((add x n).1.link all.last (add x n).2.first) (all.cat (add x n).2)
def addAlt : List T → NS → Part → NS × Part
  | [], n, all => (n, all)
  | x :: r, n, all => addAlt r (add x n).1 (all.alt (add x n).2)
def addOne : List T → NS → Nat → NS × Part
  | [], n, _ => (n, Part.zero true)
  | x :: _, n, op => (if op = 7 then (add x n).1 else (add x n).1.link (add x n).2.last (add x n).2.first, { (add x n).2 with empty := (add x n).2.empty || decide (op ≠ 6) })
end

/-- at a place: the rest leads to the end -/
inductive Run (fol has : Nat → Nat → Bool) (last : Nat → Bool) : Nat → List UInt8 → Prop
  | stop {q} : last q = true → Run fol has last q []
  | go {q r c w} : fol q r = true → has c.toNat r = true → Run fol has last r w → Run fol has last q (c :: w)

def Acc (n : NS) (p : Part) (w : List UInt8) : Prop :=
  (w = [] ∧ p.empty = true) ∨ ∃ c v r, w = c :: v ∧ p.first r = true ∧ n.has c.toNat r = true ∧ Run n.fol n.has p.last r v

/-- nothing is said of places that are not there yet -/
structure NS.Ok (n : NS) : Prop where
  has : ∀ c q, n.has c q = true → q < n.k
  fol : ∀ a b, n.fol a b = true → a < n.k ∧ b < n.k

/-- one net goes on with another one -/
structure NS.Up (n m : NS) : Prop where
  k : n.k ≤ m.k
  has : ∀ c q, q < n.k → m.has c q = n.has c q
  fol : ∀ a b, a < n.k → m.fol a b = n.fol a b
  to : ∀ a b, n.k ≤ a → m.fol a b = true → n.k ≤ b

theorem NS.Up.refl {n : NS} (h : n.Ok) : n.Up n := ⟨Nat.le_refl _, fun _ _ _ => rfl, fun _ _ _ => rfl, fun a b ha hf => by have := h.fol a b hf; omega⟩
theorem NS.Up.trans {a b c : NS} (h : a.Up b) (k : b.Up c) : a.Up c :=
  ⟨Nat.le_trans h.k k.k, fun x q hq => (k.has x q (by have := h.k; omega)).trans (h.has x q hq), fun x y hx => (k.fol x y (by have := h.k; omega)).trans (h.fol x y hx), fun x y hx hf => by
    by_cases hb : x < b.k
    · rw [k.fol x y hb] at hf; exact h.to x y hx hf
    · have := k.to x y (by omega) hf; have := h.k; omega⟩

/-- a part of the net, from a place on, fits a language -/
structure Rep (n : NS) (lo : Nat) (p : Part) (A : List UInt8 → Prop) : Prop where
  first : ∀ q, p.first q = true → lo ≤ q ∧ q < n.k
  last : ∀ q, p.last q = true → lo ≤ q ∧ q < n.k
  acc : ∀ w, Acc n p w ↔ A w

theorem Run.same {f g h k : Nat → Nat → Bool} {l m : Nat → Bool} {lo hi : Nat} (hf : ∀ a b, lo ≤ a → a < hi → f a b = true → g a b = true ∧ lo ≤ b ∧ b < hi) (hh : ∀ c q, lo ≤ q → q < hi → h c q = true → k c q = true) (hl : ∀ q, lo ≤ q → q < hi → l q = true → m q = true)
    {q : Nat} {w : List UInt8} (r : Run f h l q w) (h1 : lo ≤ q) (h2 : q < hi) : Run g k m q w := by
  induction r with
  | stop he => exact .stop (hl _ h1 h2 he)
  | go e hc _ ih =>
    obtain ⟨a, b, c⟩ := hf _ _ h1 h2 e
    exact .go a (hh _ _ b c hc) (ih b c)

/-- what stands behind a part makes no difference to it -/
theorem Rep.up {n m : NS} {lo : Nat} {p : Part} {A : List UInt8 → Prop} (h : Rep n lo p A) (hok : n.Ok) (hu : n.Up m) (hlo : ∀ a b, lo ≤ a → n.fol a b = true → lo ≤ b) : Rep m lo p A := by
  refine ⟨fun q hq => ⟨(h.first q hq).1, by have := (h.first q hq).2; have := hu.k; omega⟩, fun q hq => ⟨(h.last q hq).1, by have := (h.last q hq).2; have := hu.k; omega⟩, fun w => ?_⟩
  rw [← h.acc w]
  constructor
  · rintro (h1 | ⟨c, v, r, rfl, hr, hc, hR⟩)
    · exact .inl h1
    · have hb := h.first r hr
      refine .inr ⟨c, v, r, rfl, hr, by rw [← hu.has _ _ hb.2]; exact hc, hR.same (lo := lo) (hi := n.k) (fun a b h1 h2 hf => ?_) (fun c q h1 h2 hh => by rw [← hu.has _ _ h2]; exact hh) (fun _ _ _ h => h) hb.1 hb.2⟩
      rw [hu.fol a b h2] at hf
      exact ⟨hf, hlo a b h1 hf, (hok.fol a b hf).2⟩
  · rintro (h1 | ⟨c, v, r, rfl, hr, hc, hR⟩)
    · exact .inl h1
    · have hb := h.first r hr
      refine .inr ⟨c, v, r, rfl, hr, by rw [hu.has _ _ hb.2]; exact hc, hR.same (lo := lo) (hi := n.k) (fun a b h1 h2 hf => ?_) (fun c q h1 h2 hh => by rw [hu.has _ _ h2]; exact hh) (fun _ _ _ h => h) hb.1 hb.2⟩
      exact ⟨by rw [hu.fol a b h2]; exact hf, hlo a b h1 hf, (hok.fol a b hf).2⟩

theorem link_ok {n : NS} (h : n.Ok) {a b : Nat → Bool} (ha : ∀ q, a q = true → q < n.k) (hb : ∀ q, b q = true → q < n.k) : (n.link a b).Ok :=
  ⟨h.has, fun x y hf => by
    simp only [NS.link, Bool.or_eq_true, Bool.and_eq_true] at hf
    rcases hf with hf | ⟨h1, h2⟩
    · exact h.fol x y hf
    · exact ⟨ha x h1, hb y h2⟩⟩

/-- one behind the other -/
theorem rep_cat {n m : NS} {lo : Nat} {p q : Part} {A B : List UInt8 → Prop} (hp : Rep n lo p A) (hn : n.Ok) (hlo : ∀ a b, lo ≤ a → n.fol a b = true → lo ≤ b) (hl : lo ≤ n.k) (hu : n.Up m) (hm : m.Ok) (hq : Rep m n.k q B) :
    Rep (m.link p.last q.first) lo (p.cat q) (fun w => ∃ u v, w = u ++ v ∧ A u ∧ B v) := by
  have hk := hu.k
  have hR2 : ∀ r w, n.k ≤ r → r < m.k → (Run (m.link p.last q.first).fol m.has (p.cat q).last r w ↔ Run m.fol m.has q.last r w) := by
    intro r w h1 h2
    constructor
    · intro hR
      refine hR.same (lo := n.k) (hi := m.k) (fun a b ha hb hf => ?_) (fun _ _ _ _ h => h) (fun x hx _ hl => ?_) h1 h2
      · simp only [NS.link, Bool.or_eq_true, Bool.and_eq_true] at hf
        rcases hf with hf | ⟨hf, _⟩
        · exact ⟨hf, hu.to a b ha hf, (hm.fol a b hf).2⟩
        · have := hp.last a hf; omega
      · simp only [Part.cat, Bool.or_eq_true, Bool.and_eq_true] at hl
        rcases hl with ⟨_, hl⟩ | hl
        · have := hp.last x hl; omega
        · exact hl
    · intro hR
      refine hR.same (lo := n.k) (hi := m.k) (fun a b ha hb hf => ⟨by simp [NS.link, hf], hu.to a b ha hf, (hm.fol a b hf).2⟩) (fun _ _ _ _ h => h) (fun x hx _ hl => by simp [Part.cat, hl]) h1 h2
  have hA2 : ∀ v, B v ↔ (v = [] ∧ q.empty = true) ∨ ∃ c v' r, v = c :: v' ∧ q.first r = true ∧ m.has c.toNat r = true ∧ Run (m.link p.last q.first).fol m.has (p.cat q).last r v' := by
    intro v
    rw [← hq.acc v]
    unfold Acc
    constructor
    · rintro (h | ⟨c, v', r, h1, h2, h3, h4⟩)
      · exact .inl h
      · exact .inr ⟨c, v', r, h1, h2, h3, (hR2 r v' (hq.first r h2).1 (hq.first r h2).2).2 h4⟩
    · rintro (h | ⟨c, v', r, h1, h2, h3, h4⟩)
      · exact .inl h
      · exact .inr ⟨c, v', r, h1, h2, h3, (hR2 r v' (hq.first r h2).1 (hq.first r h2).2).1 h4⟩
  have hTo : ∀ r w, Run (m.link p.last q.first).fol m.has (p.cat q).last r w → lo ≤ r → r < n.k → ∃ u v, w = u ++ v ∧ Run n.fol n.has p.last r u ∧ B v := by
    intro r w hR
    induction hR with
    | @stop r he =>
      intro h1 h2
      simp only [Part.cat, Bool.or_eq_true, Bool.and_eq_true] at he
      rcases he with ⟨h3, h4⟩ | h3
      · exact ⟨[], [], rfl, .stop h4, (hA2 []).2 (.inl ⟨rfl, h3⟩)⟩
      · have := hq.last r h3; omega
    | @go r s c w e hc hR ih =>
      intro h1 h2
      simp only [NS.link, Bool.or_eq_true, Bool.and_eq_true] at e
      rcases e with e | ⟨e1, e2⟩
      · rw [hu.fol r s h2] at e
        have hs := (hn.fol r s e).2
        obtain ⟨u, v, rfl, hu1, hv⟩ := ih (hlo r s h1 e) hs
        exact ⟨c :: u, v, rfl, .go e (by rw [← hu.has _ _ hs]; exact hc) hu1, hv⟩
      · exact ⟨[], c :: w, rfl, .stop e1, (hA2 _).2 (.inr ⟨c, w, s, rfl, e2, hc, hR⟩)⟩
  have hFrom : ∀ r u, Run n.fol n.has p.last r u → lo ≤ r → r < n.k → ∀ v, B v → Run (m.link p.last q.first).fol m.has (p.cat q).last r (u ++ v) := by
    intro r u hR
    induction hR with
    | @stop r he =>
      intro h1 h2 v hv
      rcases (hA2 v).1 hv with ⟨rfl, h3⟩ | ⟨c, v', s, rfl, h3, h4, h5⟩
      · exact .stop (by simp [Part.cat, h3, he])
      · exact .go (by simp [NS.link, he, h3]) h4 h5
    | @go r s c w e hc hR ih =>
      intro h1 h2 v hv
      have hs := (hn.fol r s e).2
      exact .go (by simp [NS.link, hu.fol r s h2, e]) (by rw [hu.has _ _ hs]; exact hc) (ih (hlo r s h1 e) hs v hv)
  refine ⟨fun x hx => ?_, fun x hx => ?_, fun w => ?_⟩
  · simp only [Part.cat, Bool.or_eq_true, Bool.and_eq_true] at hx
    rcases hx with hx | ⟨_, hx⟩
    · have := hp.first x hx; exact ⟨this.1, by show x < m.k; omega⟩
    · have := hq.first x hx; exact ⟨by omega, this.2⟩
  · simp only [Part.cat, Bool.or_eq_true, Bool.and_eq_true] at hx
    rcases hx with ⟨_, hx⟩ | hx
    · have := hp.last x hx; exact ⟨this.1, by show x < m.k; omega⟩
    · have := hq.last x hx; exact ⟨by omega, this.2⟩
  · constructor
    · rintro (⟨rfl, h1⟩ | ⟨c, v, r, rfl, h1, h2, h3⟩)
      · simp only [Part.cat, Bool.and_eq_true] at h1
        exact ⟨[], [], rfl, (hp.acc []).1 (.inl ⟨rfl, h1.1⟩), (hA2 []).2 (.inl ⟨rfl, h1.2⟩)⟩
      · simp only [Part.cat, Bool.or_eq_true, Bool.and_eq_true] at h1
        rcases h1 with h1 | ⟨h0, h1⟩
        · have hb := hp.first r h1
          obtain ⟨u, v', rfl, hu1, hv⟩ := hTo r v h3 hb.1 hb.2
          exact ⟨c :: u, v', rfl, (hp.acc _).1 (.inr ⟨c, u, r, rfl, h1, by rw [← hu.has _ _ hb.2]; exact h2, hu1⟩), hv⟩
        · exact ⟨[], c :: v, rfl, (hp.acc []).1 (.inl ⟨rfl, h0⟩), (hA2 _).2 (.inr ⟨c, v, r, rfl, h1, h2, h3⟩)⟩
    · rintro ⟨u, v, rfl, h1, h2⟩
      rcases (hp.acc u).2 h1 with ⟨rfl, h3⟩ | ⟨c, u', r, rfl, h3, h4, h5⟩
      · rcases (hA2 v).1 h2 with ⟨rfl, h6⟩ | ⟨c, v', s, rfl, h6, h7, h8⟩
        · exact .inl ⟨rfl, by simp [Part.cat, h3, h6]⟩
        · exact .inr ⟨c, v', s, rfl, by simp [Part.cat, h3, h6], h7, h8⟩
      · have hb := hp.first r h3
        exact .inr ⟨c, u' ++ v, r, rfl, by simp [Part.cat, h3], by show m.has c.toNat r = true; rw [hu.has _ _ hb.2]; exact h4, hFrom r u' h5 hb.1 hb.2 v h2⟩

/-- either -/
theorem rep_alt {n m : NS} {lo : Nat} {p q : Part} {A B : List UInt8 → Prop} (hp : Rep n lo p A) (hn : n.Ok) (hlo : ∀ a b, lo ≤ a → n.fol a b = true → lo ≤ b) (hl : lo ≤ n.k) (hu : n.Up m) (hm : m.Ok) (hq : Rep m n.k q B) :
    Rep m lo (p.alt q) (fun w => A w ∨ B w) := by
  have hk := hu.k
  have hp' := hp.up hn hu hlo
  have hR2 : ∀ r w, n.k ≤ r → r < m.k → (Run m.fol m.has (p.alt q).last r w ↔ Run m.fol m.has q.last r w) := by
    intro r w h1 h2
    constructor
    · intro hR
      refine hR.same (lo := n.k) (hi := m.k) (fun a b ha hb hf => ⟨hf, hu.to a b ha hf, (hm.fol a b hf).2⟩) (fun _ _ _ _ h => h) (fun x hx _ hl => ?_) h1 h2
      simp only [Part.alt, Bool.or_eq_true] at hl
      rcases hl with hl | hl
      · have := hp.last x hl; omega
      · exact hl
    · intro hR
      exact hR.same (lo := n.k) (hi := m.k) (fun a b ha hb hf => ⟨hf, hu.to a b ha hf, (hm.fol a b hf).2⟩) (fun _ _ _ _ h => h) (fun x hx _ hl => by simp [Part.alt, hl]) h1 h2
  have hR1 : ∀ r w, lo ≤ r → r < n.k → (Run m.fol m.has (p.alt q).last r w ↔ Run m.fol m.has p.last r w) := by
    intro r w h1 h2
    have hin : ∀ a b, lo ≤ a → a < n.k → m.fol a b = true → m.fol a b = true ∧ lo ≤ b ∧ b < n.k := fun a b ha hb hf => by
      have hf' := hf
      rw [hu.fol a b hb] at hf'
      exact ⟨hf, hlo a b ha hf', (hn.fol a b hf').2⟩
    constructor
    · intro hR
      refine hR.same (lo := lo) (hi := n.k) hin (fun _ _ _ _ h => h) (fun x hx hx2 hl => ?_) h1 h2
      simp only [Part.alt, Bool.or_eq_true] at hl
      rcases hl with hl | hl
      · exact hl
      · have := hq.last x hl; omega
    · intro hR
      exact hR.same (lo := lo) (hi := n.k) hin (fun _ _ _ _ h => h) (fun x hx _ hl => by simp [Part.alt, hl]) h1 h2
  refine ⟨fun x hx => ?_, fun x hx => ?_, fun w => ?_⟩
  · simp only [Part.alt, Bool.or_eq_true] at hx
    rcases hx with hx | hx
    · have := hp.first x hx; omega
    · have := hq.first x hx; omega
  · simp only [Part.alt, Bool.or_eq_true] at hx
    rcases hx with hx | hx
    · have := hp.last x hx; omega
    · have := hq.last x hx; omega
  · rw [← hp'.acc w, ← hq.acc w]
    constructor
    · rintro (⟨rfl, h1⟩ | ⟨c, v, r, rfl, h1, h2, h3⟩)
      · simp only [Part.alt, Bool.or_eq_true] at h1
        exact h1.imp (fun h => .inl ⟨rfl, h⟩) (fun h => .inl ⟨rfl, h⟩)
      · simp only [Part.alt, Bool.or_eq_true] at h1
        rcases h1 with h1 | h1
        · have hb := hp.first r h1
          exact .inl (.inr ⟨c, v, r, rfl, h1, h2, (hR1 r v hb.1 hb.2).1 h3⟩)
        · have hb := hq.first r h1
          exact .inr (.inr ⟨c, v, r, rfl, h1, h2, (hR2 r v hb.1 hb.2).1 h3⟩)
    · rintro ((⟨rfl, h1⟩ | ⟨c, v, r, rfl, h1, h2, h3⟩) | (⟨rfl, h1⟩ | ⟨c, v, r, rfl, h1, h2, h3⟩))
      · exact .inl ⟨rfl, by simp [Part.alt, h1]⟩
      · have hb := hp.first r h1
        exact .inr ⟨c, v, r, rfl, by simp [Part.alt, h1], h2, (hR1 r v hb.1 hb.2).2 h3⟩
      · exact .inl ⟨rfl, by simp [Part.alt, h1]⟩
      · have hb := hq.first r h1
        exact .inr ⟨c, v, r, rfl, by simp [Part.alt, h1], h2, (hR2 r v hb.1 hb.2).2 h3⟩

/-- again and again, once at least or not -/
theorem rep_again {m : NS} {lo : Nat} {p : Part} {A : List UInt8 → Prop} (hp : Rep m lo p A) (hm : m.Ok) (hlo : ∀ a b, lo ≤ a → m.fol a b = true → lo ≤ b) (e : Bool) :
    Rep (m.link p.last p.first) lo { p with empty := p.empty || e } (fun w => (w = [] ∧ e = true) ∨ ∃ u v, w = u ++ v ∧ A u ∧ Star A v) := by
  let AS : List UInt8 → Prop := fun v => v = [] ∨ ∃ c v' r, v = c :: v' ∧ p.first r = true ∧ m.has c.toNat r = true ∧ Run (m.link p.last p.first).fol m.has p.last r v'
  have hin : ∀ a b, lo ≤ a → a < m.k → m.fol a b = true → lo ≤ b ∧ b < m.k := fun a b ha _ hf => ⟨hlo a b ha hf, (hm.fol a b hf).2⟩
  have hFrom : ∀ r u, Run m.fol m.has p.last r u → ∀ v, AS v → Run (m.link p.last p.first).fol m.has p.last r (u ++ v) := by
    intro r u hR
    induction hR with
    | @stop r he =>
      intro v hv
      rcases hv with rfl | ⟨c, v', s, rfl, h1, h2, h3⟩
      · exact .stop he
      · exact .go (by simp [NS.link, he, h1]) h2 h3
    | @go r s c w e hc hR ih => intro v hv; exact .go (by simp [NS.link, e]) hc (ih v hv)
  have hAS : ∀ v, Star A v → AS v := by
    intro v hv
    induction hv with
    | nil => exact .inl rfl
    | @cons u v hu hv ih =>
      rcases (hp.acc u).2 hu with ⟨rfl, _⟩ | ⟨c, u', r, rfl, h1, h2, h3⟩
      · exact ih
      · exact .inr ⟨c, u' ++ v, r, rfl, h1, h2, hFrom r u' h3 v ih⟩
  have hTo : ∀ r w, Run (m.link p.last p.first).fol m.has p.last r w → lo ≤ r → r < m.k → ∃ u v, w = u ++ v ∧ Run m.fol m.has p.last r u ∧ Star A v := by
    intro r w hR
    induction hR with
    | @stop r he => intro h1 h2; exact ⟨[], [], rfl, .stop he, .nil⟩
    | @go r s c w e hc hR ih =>
      intro h1 h2
      simp only [NS.link, Bool.or_eq_true, Bool.and_eq_true] at e
      rcases e with e | ⟨e1, e2⟩
      · have hs := hin r s h1 h2 e
        obtain ⟨u, v, rfl, h3, h4⟩ := ih hs.1 hs.2
        exact ⟨c :: u, v, rfl, .go e hc h3, h4⟩
      · have hs := hp.first s e2
        obtain ⟨u, v, rfl, h3, h4⟩ := ih hs.1 hs.2
        exact ⟨[], c :: (u ++ v), rfl, .stop e1, by rw [← List.cons_append]; exact .cons ((hp.acc _).1 (.inr ⟨c, u, s, rfl, e2, hc, h3⟩)) h4⟩
  refine ⟨hp.first, hp.last, fun w => ?_⟩
  constructor
  · rintro (⟨rfl, h1⟩ | ⟨c, v, r, rfl, h1, h2, h3⟩)
    · simp only [Bool.or_eq_true] at h1
      rcases h1 with h1 | h1
      · exact .inr ⟨[], [], rfl, (hp.acc []).1 (.inl ⟨rfl, h1⟩), .nil⟩
      · exact .inl ⟨rfl, h1⟩
    · have hs := hp.first r h1
      obtain ⟨u, v', rfl, h4, h5⟩ := hTo r v h3 hs.1 hs.2
      exact .inr ⟨c :: u, v', rfl, (hp.acc _).1 (.inr ⟨c, u, r, rfl, h1, h2, h4⟩), h5⟩
  · rintro (⟨rfl, h1⟩ | ⟨u, v, rfl, h1, h2⟩)
    · exact .inl ⟨rfl, by simp [h1]⟩
    · rcases (hp.acc u).2 h1 with ⟨rfl, h3⟩ | ⟨c, u', r, rfl, h3, h4, h5⟩
      · rcases hAS v h2 with rfl | ⟨c, v', s, rfl, h6, h7, h8⟩
        · exact .inl ⟨rfl, by simp [h3]⟩
        · exact .inr ⟨c, v', s, rfl, h6, h7, h8⟩
      · exact .inr ⟨c, u' ++ v, r, rfl, h3, h4, hFrom r u' h5 v (hAS v h2)⟩

theorem L_star {s : Nat → Bool} {k : T} {ks : List T} {w : List UInt8} : L (.mk 5 s (k :: ks)) w ↔ Star (L k) w := by
  constructor
  · intro h
    generalize ht : T.mk 5 s (k :: ks) = t at h
    induction h with
    | starNil => exact .nil
    | starCons h1 _ _ ih => cases ht; exact .cons h1 (ih rfl)
    | set | catNil | catCons | alt | plus | optNil | opt => cases ht
    | other _ _ _ h => cases ht; exact absurd rfl h
  · intro h
    induction h with
    | nil => exact .starNil
    | cons h1 _ ih => exact .starCons h1 ih

/-- fitting, constructor by constructor -/
theorem L_set {s : Nat → Bool} {ks : List T} {w : List UInt8} : L (.mk 2 s ks) w ↔ ∃ c, w = [c] ∧ s c.toNat = true :=
  ⟨fun h => by cases h with | set h => exact ⟨_, rfl, h⟩ | other h => exact absurd rfl h, fun ⟨c, e, h⟩ => by subst e; exact .set h⟩
theorem L_catNil {s : Nat → Bool} {w : List UInt8} : L (.mk 3 s []) w ↔ w = [] :=
  ⟨fun h => by cases h with | catNil => rfl | other _ h => exact absurd rfl h, fun e => by subst e; exact .catNil⟩
theorem L_catCons {s : Nat → Bool} {k : T} {ks : List T} {w : List UInt8} : L (.mk 3 s (k :: ks)) w ↔ ∃ u v, w = u ++ v ∧ L k u ∧ L (.mk 3 s ks) v :=
  ⟨fun h => by cases h with | catCons h1 h2 => exact ⟨_, _, rfl, h1, h2⟩ | other _ h => exact absurd rfl h, fun ⟨u, v, e, h1, h2⟩ => by subst e; exact .catCons h1 h2⟩
theorem L_alt {s : Nat → Bool} {ks : List T} {w : List UInt8} : L (.mk 4 s ks) w ↔ ∃ k ∈ ks, L k w :=
  ⟨fun h => by cases h with | alt h1 h2 => exact ⟨_, h1, h2⟩ | other _ _ h => exact absurd rfl h, fun ⟨k, h1, h2⟩ => .alt h1 h2⟩
theorem L_plus {s s' : Nat → Bool} {k : T} {ks : List T} {w : List UInt8} : L (.mk 6 s (k :: ks)) w ↔ ∃ u v, w = u ++ v ∧ L k u ∧ Star (L k) v :=
  ⟨fun h => by cases h with | plus h1 h2 => exact ⟨_, _, rfl, h1, L_star.1 h2⟩ | other _ _ _ _ h => exact absurd rfl h, fun ⟨u, v, e, h1, h2⟩ => by subst e; exact .plus (s' := s') h1 (L_star.2 h2)⟩
theorem L_opt {s : Nat → Bool} {k : T} {ks : List T} {w : List UInt8} : L (.mk 7 s (k :: ks)) w ↔ w = [] ∨ L k w :=
  ⟨fun h => by cases h with | optNil => exact .inl rfl | opt h => exact .inr h | other _ _ _ _ _ h => exact absurd rfl h, fun h => h.elim (fun e => by subst e; exact .optNil) .opt⟩
theorem L_other {op : Nat} {s : Nat → Bool} {ks : List T} {w : List UInt8} (h2 : op ≠ 2) (h3 : op ≠ 3) (h4 : op ≠ 4) (h5 : op ≠ 5) (h6 : op ≠ 6) (h7 : op ≠ 7) : L (.mk op s ks) w ↔ w = [] :=
  ⟨fun h => by cases h <;> first | rfl | exact absurd rfl (by assumption), fun e => by subst e; exact .other h2 h3 h4 h5 h6 h7⟩

/-- ready for a net: what stands under something stands there -/
inductive T.WF : T → Prop
  | mk {op set kids} : (op = 5 ∨ op = 6 ∨ op = 7 → ∃ k, kids = [k]) → (∀ k ∈ kids, T.WF k) → T.WF (.mk op set kids)

/-- what 'add' does to a net -/
structure Added (t : T) (n : NS) (r : NS × Part) : Prop where
  ok : r.1.Ok
  up : n.Up r.1
  rep : Rep r.1 n.k r.2 (L t)

theorem Rep.congr {n : NS} {lo : Nat} {p : Part} {A B : List UInt8 → Prop} (h : Rep n lo p A) (e : ∀ w, A w ↔ B w) : Rep n lo p B := ⟨h.first, h.last, fun w => (h.acc w).trans (e w)⟩

theorem link_up {n m : NS} {a b : Nat → Bool} (_ : n.Up m) {lo : Nat} (_ : lo ≤ n.k) (_ : ∀ q, a q = true → lo ≤ q) (hb : ∀ q, b q = true → lo ≤ q) : ∀ x y, lo ≤ x → (∀ x y, lo ≤ x → m.fol x y = true → lo ≤ y) → (m.link a b).fol x y = true → lo ≤ y := by
  intro x y hx hf h1
  simp only [NS.link, Bool.or_eq_true, Bool.and_eq_true] at h1
  rcases h1 with h1 | ⟨_, h1⟩
  · exact hf x y hx h1
  · exact hb y h1

/-- .. one behind the other, from a part on that fits A -/
theorem addCat_ok (s : Nat → Bool) : ∀ (kids : List T) (_ : ∀ k ∈ kids, ∀ n : NS, n.Ok → Added k n (add k n)) (n0 n : NS) (all : Part) (A : List UInt8 → Prop), n.Ok → n0.Up n → Rep n n0.k all A →
    (addCat kids n all).1.Ok ∧ n0.Up (addCat kids n all).1 ∧ Rep (addCat kids n all).1 n0.k (addCat kids n all).2 (fun w => ∃ u v, w = u ++ v ∧ A u ∧ L (.mk 3 s kids) v)
  | [], _, n0, n, all, A, hn, hu, hr => by
    simp only [addCat]
    exact ⟨hn, hu, hr.congr fun w => ⟨fun h => ⟨w, [], by simp, h, .catNil⟩, fun ⟨u, v, e, h1, h2⟩ => by rw [L_catNil] at h2; subst h2; simpa [e] using h1⟩⟩
  | x :: r, hk, n0, n, all, A, hn, hu, hr => by
    have hx := hk x (by simp) n hn
    simp only [addCat]
    generalize add x n = y at hx ⊢
    obtain ⟨m, q⟩ := y
    obtain ⟨hm, hum, hq⟩ := hx
    simp only [] at hm hum hq ⊢
    have hc := rep_cat hr hn hu.to hu.k hum hm hq
    have hlast : ∀ z, all.last z = true → n0.k ≤ z ∧ z < n.k := hr.last
    have hfirst : ∀ z, q.first z = true → n.k ≤ z ∧ z < m.k := hq.first
    have hmk := hum.k
    have hnk := hu.k
    have hok : (m.link all.last q.first).Ok := link_ok hm (fun z hz => by have := hlast z hz; omega) (fun z hz => (hfirst z hz).2)
    have hup : n0.Up (m.link all.last q.first) := by
      have h1 := hu.trans hum
      refine ⟨h1.k, h1.has, fun a b ha => ?_, fun a b ha hf => ?_⟩
      · have : all.last a = false := by
          cases hz : all.last a with
          | false => rfl
          | true => have := hlast a hz; omega
        simp only [NS.link, this, Bool.false_and, Bool.or_false]
        exact h1.fol a b ha
      · simp only [NS.link, Bool.or_eq_true, Bool.and_eq_true] at hf
        rcases hf with hf | ⟨_, hf⟩
        · exact h1.to a b ha hf
        · have := hfirst b hf; omega
    obtain ⟨h1, h2, h3⟩ := addCat_ok s r (fun k hk' => hk k (by simp [hk'])) n0 _ _ _ hok hup hc
    refine ⟨h1, h2, h3.congr fun w => ?_⟩
    constructor
    · rintro ⟨u, v, rfl, ⟨a, b, rfl, ha, hb⟩, hv⟩
      exact ⟨a, b ++ v, by simp, ha, .catCons hb hv⟩
    · rintro ⟨u, v, rfl, ha, hv⟩
      rw [L_catCons] at hv
      obtain ⟨b, v', rfl, hb, hv'⟩ := hv
      exact ⟨u ++ b, v', by simp, ⟨u, b, rfl, ha, hb⟩, hv'⟩

theorem addAlt_ok (s : Nat → Bool) : ∀ (kids : List T) (_ : ∀ k ∈ kids, ∀ n : NS, n.Ok → Added k n (add k n)) (n0 n : NS) (all : Part) (A : List UInt8 → Prop), n.Ok → n0.Up n → Rep n n0.k all A →
    (addAlt kids n all).1.Ok ∧ n0.Up (addAlt kids n all).1 ∧ Rep (addAlt kids n all).1 n0.k (addAlt kids n all).2 (fun w => A w ∨ L (.mk 4 s kids) w)
  | [], _, n0, n, all, A, hn, hu, hr => by
    simp only [addAlt]
    exact ⟨hn, hu, hr.congr fun w => ⟨.inl, fun h => h.elim id fun h => by rw [L_alt] at h; obtain ⟨k, hk, _⟩ := h; cases hk⟩⟩
  | x :: r, hk, n0, n, all, A, hn, hu, hr => by
    have hx := hk x (by simp) n hn
    simp only [addAlt]
    generalize add x n = y at hx ⊢
    obtain ⟨m, q⟩ := y
    obtain ⟨hm, hum, hq⟩ := hx
    simp only [] at hm hum hq ⊢
    have hc := rep_alt hr hn hu.to hu.k hum hm hq
    obtain ⟨h1, h2, h3⟩ := addAlt_ok s r (fun k hk' => hk k (by simp [hk'])) n0 m _ _ hm (hu.trans hum) hc
    refine ⟨h1, h2, h3.congr fun w => ?_⟩
    rw [L_alt, L_alt]
    constructor
    · rintro ((h | h) | ⟨k, hk1, hk2⟩)
      · exact .inl h
      · exact .inr ⟨x, by simp, h⟩
      · exact .inr ⟨k, by simp [hk1], hk2⟩
    · rintro (h | ⟨k, hk1, hk2⟩)
      · exact .inl (.inl h)
      · rcases List.mem_cons.1 hk1 with rfl | hk1
        · exact .inl (.inr hk2)
        · exact .inr ⟨k, hk1, hk2⟩

theorem rep_zero (n : NS) (lo : Nat) (e : Bool) : Rep n lo (Part.zero e) (fun w => w = [] ∧ e = true) :=
  ⟨fun q h => (by cases h), fun q h => (by cases h), fun w => ⟨fun h => h.elim id fun ⟨_, _, _, _, h, _⟩ => (by cases h), .inl⟩⟩

/-- THE PLACES FIT WHAT THE TREE FITS -/
theorem add_ok (t : T) : t.WF → ∀ n : NS, n.Ok → Added t n (add t n) := by
  induction t using T.ind with
  | h op set kids ih =>
    intro hwf n hn
    obtain ⟨h5, hks⟩ : (op = 5 ∨ op = 6 ∨ op = 7 → ∃ k, kids = [k]) ∧ ∀ k ∈ kids, T.WF k := by cases hwf with | mk a b => exact ⟨a, b⟩
    have hk : ∀ k ∈ kids, ∀ n : NS, n.Ok → Added k n (add k n) := fun k hk n hn => ih k hk (hks k hk) n hn
    simp only [add]
    by_cases e2 : op = 2
    · subst e2
      rw [if_pos rfl]
      refine ⟨⟨fun c q h => ?_, fun a b h => ?_⟩, ⟨Nat.le_succ _, fun c q hq => ?_, fun _ _ _ => rfl, fun a b ha hf => ?_⟩, ⟨fun q hq => ?_, fun q hq => ?_, fun w => ?_⟩⟩
      · simp only [NS.leaf, Bool.or_eq_true, Bool.and_eq_true, beq_iff_eq] at h
        rcases h with h | ⟨h, _⟩
        · have := hn.has c q h; show q < n.k + 1; omega
        · show q < n.k + 1; omega
      · have := hn.fol a b h; exact ⟨by show a < n.k + 1; omega, by show b < n.k + 1; omega⟩
      · have : (q == n.k) = false := by simp; omega
        simp [NS.leaf, this]
      · have := hn.fol a b hf; omega
      · simp only [beq_iff_eq] at hq; subst hq; exact ⟨Nat.le_refl _, Nat.lt_succ_self _⟩
      · simp only [beq_iff_eq] at hq; subst hq; exact ⟨Nat.le_refl _, Nat.lt_succ_self _⟩
      · rw [L_set]
        have hself : ∀ c, (n.leaf set).has c n.k = set c := fun c => by
          have : n.has c n.k = false := by
            cases h : n.has c n.k with
            | false => rfl
            | true => have := hn.has c _ h; omega
          simp [NS.leaf, this]
        constructor
        · rintro (⟨_, h⟩ | ⟨c, v, r, rfl, h1, h2, h3⟩)
          · cases h
          · simp only [beq_iff_eq] at h1
            subst h1
            rw [hself] at h2
            cases h3 with
            | stop _ => exact ⟨c, rfl, h2⟩
            | go e _ _ => have := hn.fol _ _ e; omega
        · rintro ⟨c, rfl, h⟩
          exact .inr ⟨c, [], n.k, rfl, by simp, by rw [hself]; exact h, .stop (by simp)⟩
    · rw [if_neg e2]
      by_cases e3 : op = 3
      · subst e3
        rw [if_pos rfl]
        obtain ⟨h1, h2, h3⟩ := addCat_ok set kids hk n n (Part.zero true) _ hn (.refl hn) (rep_zero n n.k true)
        exact ⟨h1, h2, h3.congr fun w => ⟨fun ⟨u, v, e, ⟨hu, _⟩, hv⟩ => by subst hu; simpa [e] using hv, fun h => ⟨[], w, rfl, ⟨rfl, rfl⟩, h⟩⟩⟩
      · rw [if_neg e3]
        by_cases e4 : op = 4
        · subst e4
          rw [if_pos rfl]
          obtain ⟨h1, h2, h3⟩ := addAlt_ok set kids hk n n (Part.zero false) _ hn (.refl hn) (rep_zero n n.k false)
          exact ⟨h1, h2, h3.congr fun w => ⟨fun h => h.elim (fun ⟨_, h⟩ => by cases h) id, .inr⟩⟩
        · rw [if_neg e4]
          by_cases e5 : op = 5 ∨ op = 6 ∨ op = 7
          · rw [if_pos e5]
            obtain ⟨x, rfl⟩ := h5 e5
            have hx := hk x (by simp) n hn
            simp only [addOne]
            generalize add x n = y at hx ⊢
            obtain ⟨m, p⟩ := y
            obtain ⟨hm, hu, hr⟩ := hx
            simp only [] at hm hu hr ⊢
            have hnk := hu.k
            have hlok : (m.link p.last p.first).Ok := link_ok hm (fun z hz => (hr.last z hz).2) (fun z hz => (hr.first z hz).2)
            have hlup : n.Up (m.link p.last p.first) := by
              refine ⟨hu.k, hu.has, fun a b ha => ?_, fun a b ha hf => ?_⟩
              · have : p.last a = false := by
                  cases hz : p.last a with
                  | false => rfl
                  | true => have := hr.last a hz; omega
                simp only [NS.link, this, Bool.false_and, Bool.or_false]
                exact hu.fol a b ha
              · simp only [NS.link, Bool.or_eq_true, Bool.and_eq_true] at hf
                rcases hf with hf | ⟨_, hf⟩
                · exact hu.to a b ha hf
                · exact (hr.first b hf).1
            by_cases e7 : op = 7
            · subst e7
              rw [if_pos rfl]
              refine ⟨hm, hu, ⟨hr.first, hr.last, fun w => ?_⟩⟩
              rw [L_opt, ← hr.acc w]
              constructor
              · rintro (⟨rfl, _⟩ | h)
                · exact .inl rfl
                · exact .inr (.inr h)
              · rintro (rfl | (⟨rfl, _⟩ | h))
                · exact .inl ⟨rfl, by simp⟩
                · exact .inl ⟨rfl, by simp⟩
                · exact .inr h
            · rw [if_neg e7]
              refine ⟨hlok, hlup, (rep_again hr hm hu.to (decide (op ≠ 6))).congr fun w => ?_⟩
              by_cases e6 : op = 6
              · subst e6
                rw [L_plus (s' := set)]
                exact ⟨fun h => h.elim (fun ⟨_, h⟩ => by simp at h) id, .inr⟩
              · have : op = 5 := by omega
                subst this
                rw [L_star]
                constructor
                · rintro (⟨rfl, _⟩ | ⟨u, v, rfl, h1, h2⟩)
                  · exact .nil
                  · exact .cons h1 h2
                · intro h
                  cases h with
                  | nil => exact .inl ⟨rfl, by simp⟩
                  | cons h1 h2 => exact .inr ⟨_, _, rfl, h1, h2⟩
          · rw [if_neg e5]
            refine ⟨hn, .refl hn, (rep_zero n n.k true).congr fun w => ?_⟩
            rw [L_other e2 e3 e4 (fun h => e5 (.inl h)) (fun h => e5 (.inr (.inl h))) (fun h => e5 (.inr (.inr h)))]
            exact ⟨fun h => h.1, fun h => ⟨h, rfl⟩⟩

/-- the net of a tree -/
def netOf (t : T) : NS × Part := add t ⟨0, fun _ _ => false, fun _ _ => false⟩
theorem empty_ok : NS.Ok ⟨0, fun _ _ => false, fun _ _ => false⟩ := ⟨fun _ _ h => (by cases h), fun _ _ h => (by cases h)⟩
theorem net_fits {t : T} (h : t.WF) (w : List UInt8) : Acc (netOf t).1 (netOf t).2 w ↔ L t w := (add_ok t h _ empty_ok).rep.acc w

/-- the places that the last byte may have -/
def stepP (n : NS) (p : Part) (fresh : Bool) (at' : Nat → Bool) (c : UInt8) : Nat → Bool := fun q =>
  (((fresh && p.first q) || (List.range n.k).any fun r => at' r && n.fol r q) && n.has c.toNat q)
def ways (n : NS) (p : Part) : List UInt8 → Nat → Bool
  | [] => none'
  | c :: w => w.foldl (stepP n p false) (stepP n p true none' c)

end Go.Proofs.YtfhggnbnbopkkaaDoor.PM
