/- Going through a net byte by byte, in plain words: what fits so far, and what still can. -/
import Derived.Test.YtfhggnbnbopkkaaDoorNfaMath
import Derived.Test.YtfhggnbnbopkkaaDoorPatOk
namespace Go.Proofs.YtfhggnbnbopkkaaDoor.PM

theorem stepP_iff {n : NS} (hn : n.Ok) (p : Part) (fresh : Bool) (A : Nat → Bool) (c : UInt8) (q : Nat) :
    stepP n p fresh A c q = true ↔ ((fresh = true ∧ p.first q = true) ∨ ∃ r, A r = true ∧ n.fol r q = true) ∧ n.has c.toNat q = true := by
  simp only [stepP, Bool.and_eq_true, Bool.or_eq_true, List.any_eq_true, List.mem_range]
  constructor
  · rintro ⟨h | ⟨r, _, h1, h2⟩, h3⟩
    · exact ⟨.inl h, h3⟩
    · exact ⟨.inr ⟨r, h1, h2⟩, h3⟩
  · rintro ⟨h | ⟨r, h1, h2⟩, h3⟩
    · exact ⟨.inl h, h3⟩
    · exact ⟨.inr ⟨r, (hn.fol r q h2).1, h1, h2⟩, h3⟩

theorem ways_snoc (n : NS) (p : Part) (w : List UInt8) (c : UInt8) : ways n p (w ++ [c]) = stepP n p w.isEmpty (ways n p w) c := by
  cases w with
  | nil => rfl
  | cons d w => simp [ways, List.foldl_append]

theorem run_nil {f h : Nat → Nat → Bool} {l : Nat → Bool} {q : Nat} : Run f h l q [] ↔ l q = true := ⟨fun r => by cases r; assumption, .stop⟩
theorem run_cons {f h : Nat → Nat → Bool} {l : Nat → Bool} {q : Nat} {c : UInt8} {v : List UInt8} : Run f h l q (c :: v) ↔ ∃ r, f q r = true ∧ h c.toNat r = true ∧ Run f h l r v :=
  ⟨fun r => by cases r with | go a b d => exact ⟨_, a, b, d⟩, fun ⟨r, a, b, d⟩ => .go a b d⟩

/-- from where one stands the rest leads to the end -/
def Lead (n : NS) (p : Part) (w v : List UInt8) : Prop := ∃ q, ways n p w q = true ∧ Run n.fol n.has p.last q v

theorem lead_snoc {n : NS} (hn : n.Ok) (p : Part) (w : List UInt8) (hw : w ≠ []) (c : UInt8) (v : List UInt8) : Lead n p (w ++ [c]) v ↔ Lead n p w (c :: v) := by
  unfold Lead
  rw [ways_snoc]
  have he : w.isEmpty = false := by cases w <;> simp_all
  rw [he]
  constructor
  · rintro ⟨q, h1, h2⟩
    rw [stepP_iff hn] at h1
    obtain ⟨h | ⟨r, h3, h4⟩, h5⟩ := h1
    · simp at h
    · exact ⟨r, h3, run_cons.2 ⟨q, h4, h5, h2⟩⟩
  · rintro ⟨r, h1, h2⟩
    rw [run_cons] at h2
    obtain ⟨q, h3, h4, h5⟩ := h2
    exact ⟨q, (stepP_iff hn ..).2 ⟨.inr ⟨r, h1, h3⟩, h4⟩, h5⟩
theorem lead_one {n : NS} (hn : n.Ok) (p : Part) (c : UInt8) (v : List UInt8) : Lead n p [c] v ↔ ∃ r, p.first r = true ∧ n.has c.toNat r = true ∧ Run n.fol n.has p.last r v := by
  unfold Lead
  constructor
  · rintro ⟨q, h1, h2⟩
    have h1' : stepP n p true none' c q = true := h1
    rw [stepP_iff hn] at h1'
    obtain ⟨h | ⟨r, h3, h4⟩, h5⟩ := h1'
    · exact ⟨q, h.2, h5, h2⟩
    · cases h3
  · rintro ⟨q, h1, h2, h3⟩
    exact ⟨q, (stepP_iff hn ..).2 ⟨.inl ⟨rfl, h1⟩, h2⟩, h3⟩

theorem acc_lead {n : NS} (hn : n.Ok) (p : Part) : ∀ (m : Nat) (w v : List UInt8), w.length = m + 1 → (Acc n p (w ++ v) ↔ Lead n p w v)
  | 0, w, v, hw => by
    match w, hw with
    | [c], _ =>
      rw [lead_one hn]
      constructor
      · rintro (⟨h, _⟩ | ⟨d, x, r, h, h1, h2, h3⟩)
        · simp at h
        · simp only [List.cons_append, List.nil_append, List.cons.injEq] at h
          obtain ⟨rfl, rfl⟩ := h
          exact ⟨r, h1, h2, h3⟩
      · rintro ⟨r, h1, h2, h3⟩
        exact .inr ⟨c, v, r, rfl, h1, h2, h3⟩
  | m + 1, w, v, hw => by
    have hne : w ≠ [] := by intro e; subst e; simp at hw
    have hd := List.dropLast_concat_getLast hne
    obtain ⟨u, hu⟩ : ∃ u, w.dropLast = u := ⟨_, rfl⟩
    obtain ⟨c, hc⟩ : ∃ c, w.getLast hne = c := ⟨_, rfl⟩
    rw [hu, hc] at hd
    have hul : u.length = m + 1 := by rw [← hu, List.length_dropLast, hw]; rfl
    rw [← hd, List.append_assoc, lead_snoc hn p u (by intro e; subst e; simp at hul) c v]
    exact acc_lead hn p m u (c :: v) hul

/-- does the net fit what was stepped? -/
def doneB (n : NS) (p : Part) (w : List UInt8) : Bool := (w.isEmpty && p.empty) || (List.range n.k).any fun q => ways n p w q && p.last q
theorem doneB_iff {n : NS} (hn : n.Ok) {p : Part} (hl : ∀ q, p.last q = true → q < n.k) (w : List UInt8) : doneB n p w = true ↔ Acc n p w := by
  simp only [doneB, Bool.or_eq_true, Bool.and_eq_true, List.any_eq_true, List.mem_range]
  cases w with
  | nil =>
    constructor
    · rintro (⟨_, h⟩ | ⟨q, _, h, _⟩)
      · exact .inl ⟨rfl, h⟩
      · cases h
    · rintro (⟨_, h⟩ | ⟨c, v, r, h, _⟩)
      · exact .inl ⟨rfl, h⟩
      · cases h
  | cons c w =>
    have := acc_lead hn p w.length (c :: w) [] rfl
    rw [List.append_nil] at this
    rw [this]
    unfold Lead
    constructor
    · rintro (⟨h, _⟩ | ⟨q, _, h1, h2⟩)
      · simp at h
      · exact ⟨q, h1, run_nil.2 h2⟩
    · rintro ⟨q, h1, h2⟩
      rw [run_nil] at h2
      exact .inr ⟨q, hl q h2, h1, h2⟩

/-- may a place have a byte? -/
def someP (n : NS) (q : Nat) : Bool := (List.range 256).any fun c => n.has c q
theorem someP_iff (n : NS) (q : Nat) : someP n q = true ↔ ∃ c : UInt8, n.has c.toNat q = true := by
  simp only [someP, List.any_eq_true, List.mem_range]
  exact ⟨fun ⟨c, hc, h⟩ => ⟨UInt8.ofNat c, by rw [toNat_ofNat hc]; exact h⟩, fun ⟨c, h⟩ => ⟨c.toNat, c.toNat_lt, h⟩⟩

/-- the places from which the end is reached: sound, and closed -/
structure Alive (n : NS) (p : Part) (A : Nat → Bool) : Prop where
  sound : ∀ q, A q = true → someP n q = true ∧ ∃ v, Run n.fol n.has p.last q v
structure Closed (n : NS) (p : Part) (A : Nat → Bool) : Prop extends Alive n p A where
  base : ∀ q, p.last q = true → someP n q = true → A q = true
  step : ∀ q r, someP n q = true → n.fol q r = true → A r = true → A q = true

theorem Closed.iff {n : NS} {p : Part} {A : Nat → Bool} (h : Closed n p A) (q : Nat) : A q = true ↔ someP n q = true ∧ ∃ v, Run n.fol n.has p.last q v := by
  refine ⟨h.sound q, fun hh => ?_⟩
  obtain ⟨hs, v, hr⟩ := hh
  revert hs
  induction hr with
  | stop e => exact fun hs => h.base _ e hs
  | go e hc _ ih => exact fun hs => h.step _ _ hs e (ih ((someP_iff n _).2 ⟨_, hc⟩))

theorem Alive.start (n : NS) (p : Part) : Alive n p (fun q => p.last q && someP n q) :=
  ⟨fun q h => by rw [Bool.and_eq_true] at h; exact ⟨h.2, [], .stop h.1⟩⟩
theorem Alive.add {n : NS} {p : Part} {A : Nat → Bool} (h : Alive n p A) {i r : Nat} (hs : someP n i = true) (hf : n.fol i r = true) (hr : A r = true) : Alive n p (fun q => A q || q == i) :=
  ⟨fun q hq => by
    rw [Bool.or_eq_true] at hq
    rcases hq with hq | hq
    · exact h.sound q hq
    · obtain rfl : q = i := by simpa using hq
      obtain ⟨h1, v, h2⟩ := h.sound r hr
      obtain ⟨c, hc⟩ := (someP_iff n r).1 h1
      exact ⟨hs, c :: v, .go hf hc h2⟩⟩

/-- can nothing fit any more? -/
def deadB (n : NS) (p : Part) (A : Nat → Bool) (w : List UInt8) : Bool := !((w.isEmpty && (p.empty || (List.range n.k).any fun q => p.first q && A q)) || (List.range n.k).any fun q => ways n p w q && A q)
theorem ways_some {n : NS} (hn : n.Ok) {p : Part} {w : List UInt8} {q : Nat} (h : ways n p w q = true) : someP n q = true ∧ q < n.k := by
  cases w with
  | nil => cases h
  | cons c w =>
    obtain ⟨u, d, e⟩ : ∃ u d, c :: w = u ++ [d] := ⟨(c :: w).dropLast, (c :: w).getLast (by simp), (List.dropLast_concat_getLast (by simp)).symm⟩
    rw [e, ways_snoc, stepP_iff hn] at h
    exact ⟨(someP_iff n q).2 ⟨d, h.2⟩, hn.has _ _ h.2⟩
theorem deadB_iff {n : NS} (hn : n.Ok) {p : Part} (hf : ∀ q, p.first q = true → q < n.k) {A : Nat → Bool} (hA : Closed n p A) (w : List UInt8) : deadB n p A w = false ↔ ∃ v, Acc n p (w ++ v) := by
  simp only [deadB, Bool.not_eq_false', Bool.or_eq_true, Bool.and_eq_true, List.any_eq_true, List.mem_range]
  cases w with
  | nil =>
    constructor
    · rintro (⟨_, h | ⟨q, _, h1, h2⟩⟩ | ⟨q, _, h, _⟩)
      · exact ⟨[], .inl ⟨rfl, h⟩⟩
      · obtain ⟨h3, v, h4⟩ := hA.sound q h2
        obtain ⟨c, hc⟩ := (someP_iff n q).1 h3
        exact ⟨c :: v, .inr ⟨c, v, q, rfl, h1, hc, h4⟩⟩
      · cases h
    · rintro ⟨v, (⟨_, h⟩ | ⟨c, v', r, _, h1, h2, h3⟩)⟩
      · exact .inl ⟨rfl, .inl h⟩
      · exact .inl ⟨rfl, .inr ⟨r, hf r h1, h1, (hA.iff r).2 ⟨(someP_iff n r).2 ⟨c, h2⟩, v', h3⟩⟩⟩
  | cons c w =>
    constructor
    · rintro (⟨h, _⟩ | ⟨q, _, h1, h2⟩)
      · simp at h
      · obtain ⟨h3, v, h4⟩ := hA.sound q h2
        exact ⟨v, (acc_lead hn p w.length (c :: w) v rfl).2 ⟨q, h1, h4⟩⟩
    · rintro ⟨v, h⟩
      obtain ⟨q, h1, h2⟩ := (acc_lead hn p w.length (c :: w) v rfl).1 h
      have := ways_some hn h1
      exact .inr ⟨q, this.2, h1, (hA.iff q).2 ⟨this.1, v, h2⟩⟩

theorem T.OK.wf {m : Nat} {t : T} (h : T.OK m t) : T.WF t := by
  induction h with
  | mk h1 _ _ ih => exact .mk h1 ih

/-- how many places there are at most -/
theorem add_k : ∀ t : T, ∀ n : NS, (add t n).1.k ≤ n.k + leaves t := by
  intro t
  induction t using T.ind with
  | h op set kids ih =>
    intro n
    have hc : ∀ (l : List T), (∀ k ∈ l, ∀ n : NS, (add k n).1.k ≤ n.k + leaves k) → ∀ (n : NS) (p : Part), (addCat l n p).1.k ≤ n.k + leavesL l ∧ (addAlt l n p).1.k ≤ n.k + leavesL l := by
      intro l
      induction l with
      | nil => intro _ n p; simp [addCat, addAlt, leavesL]
      | cons x r ihl =>
        intro hx n p
        have h1 := hx x (by simp) n
        have h2 := ihl (fun k hk => hx k (by simp [hk]))
        simp only [addCat, addAlt, leavesL]
        have a := (h2 ((add x n).1.link p.last (add x n).2.first) (p.cat (add x n).2)).1
        have b := (h2 (add x n).1 (p.alt (add x n).2)).2
        have e : ((add x n).1.link p.last (add x n).2.first).k = (add x n).1.k := rfl
        omega
    simp only [add, leaves]
    split
    · simp [NS.leaf]
    · split
      · have := (hc kids ih n (Part.zero true)).1; omega
      · split
        · have := (hc kids ih n (Part.zero false)).2; omega
        · split
          · cases kids with
            | nil => simp [addOne]
            | cons x r =>
              have := ih x (by simp) n
              simp only [addOne, leavesL]
              have e : ((add x n).1.link (add x n).2.last (add x n).2.first).k = (add x n).1.k := rfl
              split <;> omega
          · simp

/-- does a tree fit a text? -/
def fitsB (t : T) (w : List UInt8) : Bool := doneB (netOf t).1 (netOf t).2 w
theorem net_ok {t : T} (h : t.WF) : Added t ⟨0, fun _ _ => false, fun _ _ => false⟩ (netOf t) := add_ok t h _ empty_ok
theorem fitsB_iff {t : T} (h : t.WF) (w : List UInt8) : fitsB t w = true ↔ L t w := by
  unfold fitsB
  rw [doneB_iff (net_ok h).ok (fun q hq => ((net_ok h).rep.last q hq).2)]
  exact net_fits h w
theorem fits_dead {t : T} (h : t.WF) {A : Nat → Bool} (hA : Closed (netOf t).1 (netOf t).2 A) (w : List UInt8) : deadB (netOf t).1 (netOf t).2 A w = false ↔ ∃ v, L t (w ++ v) := by
  rw [deadB_iff (net_ok h).ok (fun q hq => ((net_ok h).rep.first q hq).2) hA]
  exact exists_congr fun v => net_fits h (w ++ v)

/-- parts under one node -/
theorem L_joined3 : ∀ (l : List T) (w : List UInt8), L (joined 3 l) w ↔ L (.mk 3 noSet l) w
  | [], w => by
    rw [L_catNil]
    exact L_other (by omega) (by omega) (by omega) (by omega) (by omega) (by omega)
  | [x], w => by
    rw [L_catCons]
    constructor
    · exact fun h => ⟨w, [], by simp, h, .catNil⟩
    · rintro ⟨u, v, rfl, h1, h2⟩
      rw [L_catNil] at h2
      subst h2
      rw [List.append_nil]; exact h1
  | x :: y :: l, w => Iff.rfl

/-- a text's own literals -/
theorem L_one {c : UInt8} {w : List UInt8} : L (one c.toNat) w ↔ w = [c] := by
  unfold one
  rw [L_set]
  constructor
  · rintro ⟨d, rfl, h⟩
    have : d = c := u8_eq (by simpa using h)
    rw [this]
  · rintro rfl
    exact ⟨c, rfl, by simp⟩
theorem L_lits (s : List UInt8) : ∀ w, L (joined 3 (lits s)) w ↔ w = s := by
  have hc : ∀ (s : List UInt8) (w : List UInt8), L (.mk 3 noSet (lits s)) w ↔ w = s := by
    intro s
    induction s with
    | nil => intro w; exact L_catNil
    | cons c r ih =>
      intro w
      show L (.mk 3 noSet (one c.toNat :: lits r)) w ↔ _
      rw [L_catCons]
      constructor
      · rintro ⟨u, v, rfl, h1, h2⟩
        rw [L_one] at h1
        rw [ih] at h2
        subst h1; subst h2; rfl
      · rintro rfl
        exact ⟨[c], r, rfl, L_one.2 rfl, (ih r).2 rfl⟩
  intro w
  rw [L_joined3]; exact hc s w
theorem L_every (w : List UInt8) : L every w ↔ w.length = 1 := by
  unfold every
  rw [L_set]
  constructor
  · rintro ⟨c, rfl, _⟩; rfl
  · intro h
    match w, h with
    | [c], _ => exact ⟨c, rfl, rfl⟩
theorem L_any (w : List UInt8) : L (over 5 every) w := by
  unfold over
  rw [L_star]
  induction w with
  | nil => exact .nil
  | cons c r ih => exact Star.cons (u := [c]) ((L_every [c]).2 rfl) ih
end Go.Proofs.YtfhggnbnbopkkaaDoor.PM
