/- Where in a text a tree may end: plain. -/
import Derived.Test.YtfhggnbnbopkkaaDoorNfaJoinMath

namespace Go.Proofs.YtfhggnbnbopkkaaDoor.PM

/-- the part of a text between two places -/
def seg (l : List UInt8) (i j : Nat) : List UInt8 := (l.drop i).take (j - i)
theorem seg_self (l : List UInt8) (i : Nat) : seg l i i = [] := by simp [seg]
theorem seg_len {l : List UInt8} {i j : Nat} (h : j ≤ l.length) : (seg l i j).length = j - i := by simp [seg]; omega
theorem seg_join {l : List UInt8} {i k j : Nat} (h1 : i ≤ k) (h2 : k ≤ j) : seg l i k ++ seg l k j = seg l i j := by
  unfold seg
  have h3 : (l.drop i).take (j - i) = ((l.drop i).take (j - i)).take (k - i) ++ ((l.drop i).take (j - i)).drop (k - i) := (List.take_append_drop _ _).symm
  rw [h3, List.take_take, Nat.min_eq_left (by omega), List.drop_take, List.drop_drop, show i + (k - i) = k by omega, show j - i - (k - i) = j - k by omega]
theorem seg_split {l : List UInt8} {i j : Nat} {u v : List UInt8} (hi : i ≤ j) (hj : j ≤ l.length) (h : seg l i j = u ++ v) : i + u.length ≤ j ∧ u = seg l i (i + u.length) ∧ v = seg l (i + u.length) j := by
  have h1 := congrArg List.length h
  rw [seg_len hj, List.length_append] at h1
  have h2 : i + u.length ≤ j := by omega
  rw [← seg_join (k := i + u.length) (by omega) h2] at h
  have h3 := List.append_inj h (by rw [seg_len (by omega)]; omega)
  exact ⟨h2, h3.1.symm, h3.2.symm⟩
theorem seg_one {l : List UInt8} {i : Nat} (h : i < l.length) : seg l i (i + 1) = [l.getD i 0] := by
  unfold seg
  rw [show i + 1 - i = 1 by omega, List.drop_eq_getElem_cons h, List.take_succ_cons, List.take_zero]
  simp [List.getD, h]

/-- the places at which the tree may end that begins at one of some places -/
def EndsP (t : T) (l : List UInt8) (f g : Nat → Bool) : Prop := ∀ j, j ≤ l.length → (g j = true ↔ ∃ i, i ≤ j ∧ f i = true ∧ L t (seg l i j))

theorem EndsP.set {set : Nat → Bool} {ks : List T} {l : List UInt8} {f g : Nat → Bool} (h0 : g 0 = false) (h1 : ∀ j, j < l.length → g (j + 1) = (f j && set (l.getD j 0).toNat)) : EndsP (.mk 2 set ks) l f g := by
  intro j hj
  cases j with
  | zero =>
    rw [h0]
    refine ⟨fun h => (by cases h), ?_⟩
    rintro ⟨i, hi, _, h3⟩
    obtain rfl : i = 0 := by omega
    rw [seg_self, L_set] at h3
    obtain ⟨c, e, _⟩ := h3
    cases e
  | succ j =>
    rw [h1 j (by omega), Bool.and_eq_true]
    constructor
    · rintro ⟨h2, h3⟩
      exact ⟨j, by omega, h2, by rw [seg_one (by omega)]; exact L_set.2 ⟨_, rfl, h3⟩⟩
    · rintro ⟨i, hi, h2, h3⟩
      obtain ⟨c, e, h4⟩ := L_set.1 h3
      have h5 := congrArg List.length e
      rw [seg_len hj] at h5
      obtain rfl : i = j := by simp at h5; omega
      rw [seg_one (by omega)] at e
      cases e
      exact ⟨h2, h4⟩
theorem EndsP.nil (s : Nat → Bool) (l : List UInt8) (f : Nat → Bool) : EndsP (.mk 3 s []) l f f := by
  intro j hj
  constructor
  · intro h; exact ⟨j, Nat.le_refl _, h, by rw [seg_self]; exact L_catNil.2 rfl⟩
  · rintro ⟨i, hi, h1, h2⟩
    have h3 := congrArg List.length (L_catNil.1 h2)
    rw [seg_len hj] at h3
    obtain rfl : i = j := by simp at h3; omega
    exact h1
theorem EndsP.other {op : Nat} {s : Nat → Bool} {ks : List T} (l : List UInt8) (f : Nat → Bool) (h2 : op ≠ 2) (h3 : op ≠ 3) (h4 : op ≠ 4) (h5 : op ≠ 5) (h6 : op ≠ 6) (h7 : op ≠ 7) : EndsP (.mk op s ks) l f f := by
  intro j hj
  constructor
  · intro h; exact ⟨j, Nat.le_refl _, h, by rw [seg_self]; exact (L_other h2 h3 h4 h5 h6 h7).2 rfl⟩
  · rintro ⟨i, hi, h1, hl⟩
    have h8 := congrArg List.length ((L_other h2 h3 h4 h5 h6 h7).1 hl)
    rw [seg_len hj] at h8
    obtain rfl : i = j := by simp at h8; omega
    exact h1
theorem L_catSnoc {s : Nat → Bool} {k : T} : ∀ {ks : List T} {w : List UInt8}, L (.mk 3 s (ks ++ [k])) w ↔ ∃ u v, w = u ++ v ∧ L (.mk 3 s ks) u ∧ L k v
  | [], w => by
    rw [List.nil_append, L_catCons]
    constructor
    · rintro ⟨u, v, rfl, h1, h2⟩
      obtain rfl := L_catNil.1 h2
      exact ⟨[], u, by simp, L_catNil.2 rfl, h1⟩
    · rintro ⟨u, v, rfl, h1, h2⟩
      obtain rfl := L_catNil.1 h1
      exact ⟨v, [], by simp, h2, L_catNil.2 rfl⟩
  | x :: ks, w => by
    rw [List.cons_append, L_catCons]
    constructor
    · rintro ⟨u, v, rfl, h1, h2⟩
      obtain ⟨a, b, rfl, h3, h4⟩ := L_catSnoc.1 h2
      exact ⟨u ++ a, b, by simp, L_catCons.2 ⟨u, a, rfl, h1, h3⟩, h4⟩
    · rintro ⟨u, v, rfl, h1, h2⟩
      obtain ⟨a, b, rfl, h3, h4⟩ := L_catCons.1 h1
      exact ⟨a, b ++ v, by simp, h3, L_catSnoc.2 ⟨b, v, rfl, h4, h2⟩⟩
/-- one behind the other, in general -/
theorem EndsP.comp {a b c : T} {l : List UInt8} {f g h : Nat → Bool} (hc : ∀ w, L c w ↔ ∃ u v, w = u ++ v ∧ L a u ∧ L b v) (h1 : EndsP a l f g) (h2 : EndsP b l g h) : EndsP c l f h := by
  intro j hj
  rw [h2 j hj]
  constructor
  · rintro ⟨k, hk, h3, h4⟩
    obtain ⟨i, hi, h5, h6⟩ := (h1 k (by omega)).1 h3
    exact ⟨i, by omega, h5, (hc _).2 ⟨_, _, (seg_join hi hk).symm, h6, h4⟩⟩
  · rintro ⟨i, hi, h3, h4⟩
    obtain ⟨u, v, e, h5, h6⟩ := (hc _).1 h4
    obtain ⟨h7, h8, h9⟩ := seg_split hi hj e
    exact ⟨i + u.length, h7, (h1 _ (by omega)).2 ⟨i, by omega, h3, by rw [← h8]; exact h5⟩, by rw [← h9]; exact h6⟩
theorem EndsP.snoc {s : Nat → Bool} {ks : List T} {k : T} {l : List UInt8} {f g h : Nat → Bool} (h1 : EndsP (.mk 3 s ks) l f g) (h2 : EndsP k l g h) : EndsP (.mk 3 s (ks ++ [k])) l f h := EndsP.comp (fun _ => L_catSnoc) h1 h2
theorem EndsP.plus {s s' : Nat → Bool} {k : T} {l : List UInt8} {f g h : Nat → Bool} (h1 : EndsP k l f g) (h2 : EndsP (.mk 5 s [k]) l g h) : EndsP (.mk 6 s' [k]) l f h :=
  EndsP.comp (fun w => by rw [L_plus (s' := s)]; exact ⟨fun ⟨u, v, e, a, b⟩ => ⟨u, v, e, a, L_star.2 b⟩, fun ⟨u, v, e, a, b⟩ => ⟨u, v, e, a, L_star.1 b⟩⟩) h1 h2
theorem EndsP.none (s : Nat → Bool) (l : List UInt8) (f : Nat → Bool) : EndsP (.mk 4 s []) l f (fun _ => false) := by
  intro j hj
  refine ⟨fun h => (by cases h), ?_⟩
  rintro ⟨i, _, _, h⟩
  obtain ⟨k, hk, _⟩ := L_alt.1 h
  simp at hk
theorem EndsP.either {s : Nat → Bool} {ks : List T} {k : T} {l : List UInt8} {f g h : Nat → Bool} (h1 : EndsP (.mk 4 s ks) l f g) (h2 : EndsP k l f h) : EndsP (.mk 4 s (ks ++ [k])) l f (fun j => g j || h j) := by
  intro j hj
  rw [Bool.or_eq_true, h1 j hj, h2 j hj]
  constructor
  · rintro (⟨i, a, b, c⟩ | ⟨i, a, b, c⟩)
    · obtain ⟨x, hx, hl⟩ := L_alt.1 c
      exact ⟨i, a, b, L_alt.2 ⟨x, by simp [hx], hl⟩⟩
    · exact ⟨i, a, b, L_alt.2 ⟨k, by simp, c⟩⟩
  · rintro ⟨i, a, b, c⟩
    obtain ⟨x, hx, hl⟩ := L_alt.1 c
    rw [List.mem_append, List.mem_singleton] at hx
    rcases hx with hx | rfl
    · exact .inl ⟨i, a, b, L_alt.2 ⟨x, hx, hl⟩⟩
    · exact .inr ⟨i, a, b, hl⟩
theorem EndsP.opt {s : Nat → Bool} {k : T} {l : List UInt8} {f h : Nat → Bool} (h2 : EndsP k l f h) : EndsP (.mk 7 s [k]) l f (fun j => f j || h j) := by
  intro j hj
  rw [Bool.or_eq_true, h2 j hj]
  constructor
  · rintro (h | ⟨i, a, b, c⟩)
    · exact ⟨j, Nat.le_refl _, h, by rw [seg_self]; exact L_opt.2 (.inl rfl)⟩
    · exact ⟨i, a, b, L_opt.2 (.inr c)⟩
  · rintro ⟨i, a, b, c⟩
    rcases L_opt.1 c with h | h
    · have h3 := congrArg List.length h
      rw [seg_len hj] at h3
      obtain rfl : i = j := by simp at h3; omega
      exact .inl b
    · exact .inr ⟨i, a, b, h⟩

/-- again and again, under way -/
structure AgI (k : T) (l : List UInt8) (f g : Nat → Bool) : Prop where
  has : ∀ j, j ≤ l.length → f j = true → g j = true
  from' : ∀ j, j ≤ l.length → g j = true → ∃ i, i ≤ j ∧ f i = true ∧ L (.mk 5 noSet [k]) (seg l i j)
theorem AgI.start (k : T) (l : List UInt8) (f : Nat → Bool) : AgI k l f f := ⟨fun _ _ h => h, fun j _ h => ⟨j, Nat.le_refl _, h, by rw [seg_self]; exact .starNil⟩⟩
theorem star_snoc' {A : List UInt8 → Prop} {u v : List UInt8} (h : Star A u) (hv : A v) : Star A (u ++ v) := by
  induction h with
  | nil => have := Star.cons hv (Star.nil (A := A)); rwa [List.append_nil] at this
  | @cons a b ha _ ih => rw [List.append_assoc]; exact .cons ha ih
theorem AgI.step {k : T} {l : List UInt8} {f g h : Nat → Bool} (a : AgI k l f g) (e : EndsP k l g h) : AgI k l f (fun j => g j || h j) := by
  refine ⟨fun j hj hf => by rw [a.has j hj hf]; rfl, fun j hj hg => ?_⟩
  rw [Bool.or_eq_true] at hg
  rcases hg with hg | hg
  · exact a.from' j hj hg
  · obtain ⟨m, hm, h1, h2⟩ := (e j hj).1 hg
    obtain ⟨i, hi, h3, h4⟩ := a.from' m (by omega) h1
    refine ⟨i, by omega, h3, ?_⟩
    rw [← seg_join hi hm]
    exact L_star.2 (star_snoc' (L_star.1 h4) h2)
theorem AgI.stop {k : T} {l : List UInt8} {f g h : Nat → Bool} (a : AgI k l f g) (e : EndsP k l g h) (hs : ∀ j, j ≤ l.length → (g j || h j) = g j) : EndsP (.mk 5 noSet [k]) l f (fun j => g j || h j) := by
  have hcl : ∀ w, Star (L k) w → ∀ i j, i ≤ j → j ≤ l.length → w = seg l i j → g i = true → g j = true := by
    intro w hw
    induction hw with
    | nil =>
      intro i j hi hj e1 hg
      have h3 := congrArg List.length e1
      rw [seg_len hj] at h3
      obtain rfl : i = j := by simp at h3; omega
      exact hg
    | @cons u v hu _ ih =>
      intro i j hi hj e1 hg
      obtain ⟨h7, h8, h9⟩ := seg_split hi hj e1.symm
      refine ih _ j h7 hj h9 ?_
      rw [← hs _ (by omega), Bool.or_eq_true]
      exact .inr ((e _ (by omega)).2 ⟨i, by omega, hg, by rw [← h8]; exact hu⟩)
  intro j hj
  show (g j || h j) = true ↔ _
  rw [hs j hj]
  constructor
  · exact a.from' j hj
  · rintro ⟨i, hi, h1, h2⟩
    exact hcl _ (L_star.1 h2) i j hi hj rfl (a.has i (by omega) h1)

/-- the whole text -/
theorem EndsP.fits {kind : Int} {s l : List UInt8} {t : T} {f g : Nat → Bool} (ht : tree kind s = .ok t) (h : EndsP t l f g) (hf : ∀ i, f i = decide (i = 0)) : g l.length = fitsB t l := by
  rw [Bool.eq_iff_iff, h _ (Nat.le_refl _), fitsB_iff (T.OK.wf (tree_ok ht).1)]
  constructor
  · rintro ⟨i, _, h1, h2⟩
    rw [hf, decide_eq_true_eq] at h1
    subst h1
    rwa [seg, List.drop_zero, Nat.sub_zero, List.take_length] at h2
  · intro h1
    exact ⟨0, Nat.zero_le _, by rw [hf]; rfl, by rwa [seg, List.drop_zero, Nat.sub_zero, List.take_length]⟩
end Go.Proofs.YtfhggnbnbopkkaaDoor.PM

namespace Go.Proofs.YtfhggnbnbopkkaaDoor.PM

/-- no parts one behind the other where there are none -/
inductive T.Full : T → Prop
  | mk {op set kids} : (op = 3 → kids ≠ []) → (∀ k ∈ kids, T.Full k) → T.Full (.mk op set kids)
theorem leaf_full (p : Nat → Bool) : T.Full (.mk 2 p []) := .mk (fun h => by omega) (fun k hk => by cases hk)
theorem over_full {op : Nat} {x : T} (h : T.Full x) : T.Full (over op x) := .mk (fun _ e => by cases e) (fun k hk => by
  obtain rfl : k = x := by simpa using hk
  exact h)
theorem joined_full {op : Nat} : ∀ {l : List T}, (∀ t ∈ l, T.Full t) → T.Full (joined op l)
  | [], _ => .mk (fun h => by omega) (fun k hk => by cases hk)
  | [x], h => h x (by simp)
  | x :: y :: l, h => .mk (fun _ e => by cases e) h
theorem cls_full {s : List UInt8} {a n : Nat} {x : T} (h : cls s a = .ok x n) : T.Full x := by
  unfold cls at h
  split at h
  · split at h <;> cases h
    exact leaf_full _
  · split at h <;> cases h
    exact leaf_full _
theorem snoc_full {acc : List T} {x : T} (h1 : ∀ t ∈ acc, T.Full t) (h2 : T.Full x) : ∀ t ∈ acc ++ [x], T.Full t := fun t ht => by
  rw [List.mem_append, List.mem_singleton] at ht
  rcases ht with ht | rfl
  · exact h1 t ht
  · exact h2
theorem read_full (s : List UInt8) : ∀ f : Nat,
    (∀ a acc x n, alts f s a acc = .ok x n → (∀ t ∈ acc, T.Full t) → T.Full x) ∧
    (∀ a acc x n, row f s a acc = .ok x n → (∀ t ∈ acc, T.Full t) → T.Full x) ∧
    (∀ a x n, atom f s a = .ok x n → T.Full x)
  | 0 => ⟨fun a acc t n h => by simp [alts] at h, fun a acc t n h => by simp [row] at h, fun a t n h => by simp [atom] at h⟩
  | f + 1 => by
    obtain ⟨h1, h2, h3⟩ := read_full s f
    refine ⟨fun a acc x n e hacc => ?_, fun a acc x n e hacc => ?_, fun a x n e => ?_⟩
    · simp only [alts] at e
      cases hr : row f s a [] with
      | bad k => rw [hr] at e; cases e
      | ok y k =>
        rw [hr] at e
        have hy := h2 a [] y k hr (by simp)
        simp only [] at e
        split at e
        · exact h1 _ _ _ _ e (snoc_full hacc hy)
        · cases e
          exact joined_full (snoc_full hacc hy)
    · simp only [row] at e
      split at e
      · cases e
        exact joined_full hacc
      · cases hr : atom f s a with
        | bad k => rw [hr] at e; cases e
        | ok y k =>
          rw [hr] at e
          have hy := h3 a y k hr
          simp only [] at e
          split at e
          · exact h2 _ _ _ _ e (snoc_full hacc (over_full hy))
          · split at e
            · exact h2 _ _ _ _ e (snoc_full hacc (over_full hy))
            · split at e
              · exact h2 _ _ _ _ e (snoc_full hacc (over_full hy))
              · exact h2 _ _ _ _ e (snoc_full hacc hy)
    · simp only [atom] at e
      split at e
      · cases e
      · split at e
        · cases hr : alts f s (a + 1) [] with
          | bad k => rw [hr] at e; cases e
          | ok y k =>
            rw [hr] at e
            have hy := h1 (a + 1) [] y k hr (by simp)
            simp only [] at e
            split at e <;> cases e
            exact hy
        · split at e
          · exact cls_full e
          · split at e
            · cases e; exact leaf_full _
            · split at e
              · split at e <;> cases e
                exact leaf_full _
              · split at e
                · cases e
                · cases e; exact leaf_full _
theorem glob_sign_full (c : UInt8) : T.Full (if c = 42 then over 5 every else if c = 63 then every else one c.toNat) := by
  split
  · exact over_full (leaf_full _)
  · split
    · exact leaf_full _
    · exact leaf_full _
theorem globL_full : ∀ (s : List UInt8) {l : List T}, globL s = some l → (∀ t ∈ l, T.Full t)
  | [], l, h => by simp only [globL, Option.some.injEq] at h; subst h; simp
  | [c], l, h => by
    rw [globL] at h
    split at h
    · cases h
    · simp only [Option.some.injEq] at h
      subst h
      intro t ht
      rw [List.mem_singleton] at ht; subst ht; exact glob_sign_full c
  | c :: d :: r, l, h => by
    rw [globL] at h
    split at h
    · rw [Option.map_eq_some_iff] at h
      obtain ⟨k, hk, rfl⟩ := h
      intro t ht
      rcases List.mem_cons.1 ht with rfl | ht
      · exact leaf_full _
      · exact globL_full r hk t ht
    · rw [Option.map_eq_some_iff] at h
      obtain ⟨k, hk, rfl⟩ := h
      intro t ht
      rcases List.mem_cons.1 ht with rfl | ht
      · exact glob_sign_full c
      · exact globL_full (d :: r) hk t ht
theorem tree_full {kind : Int} {s : List UInt8} {t : T} (h : tree kind s = .ok t) : T.Full t := by
  unfold tree at h
  split at h
  · cases h
  · split at h
    · cases h
    · split at h
      · cases h
        exact joined_full (fun t ht => by
          rw [List.mem_map] at ht
          obtain ⟨c, _, rfl⟩ := ht
          exact leaf_full _)
      · split at h
        · split at h
          · cases h
          · rename_i l hg
            cases h
            exact joined_full (globL_full s hg)
        · split at h
          · cases h
          · rename_i x n hr
            split at h
            · cases h
            · cases h
              exact (read_full s _).1 0 [] t n hr (by simp)

/-- does a tree fit anything? -/
def SomeP (t : T) : Prop := ∃ w, L t w
theorem some_set {set : Nat → Bool} {ks : List T} : SomeP (.mk 2 set ks) ↔ ∃ c, c < 256 ∧ set c = true := by
  constructor
  · rintro ⟨w, h⟩
    obtain ⟨c, _, h⟩ := L_set.1 h
    exact ⟨c.toNat, c.toNat_lt, h⟩
  · rintro ⟨c, hc, h⟩
    exact ⟨[UInt8.ofNat c], L_set.2 ⟨_, rfl, by rw [UInt8.toNat_ofNat', Nat.mod_eq_of_lt hc]; exact h⟩⟩
theorem some_cat {s : Nat → Bool} : ∀ {ks : List T}, SomeP (.mk 3 s ks) ↔ ∀ k ∈ ks, SomeP k
  | [] => ⟨fun _ k hk => (by cases hk), fun _ => ⟨[], L_catNil.2 rfl⟩⟩
  | k :: ks => by
    constructor
    · rintro ⟨w, h⟩
      obtain ⟨u, v, _, h1, h2⟩ := L_catCons.1 h
      intro x hx
      rcases List.mem_cons.1 hx with rfl | hx
      · exact ⟨u, h1⟩
      · exact some_cat.1 ⟨v, h2⟩ x hx
    · intro h
      obtain ⟨u, h1⟩ := h k (by simp)
      obtain ⟨v, h2⟩ := some_cat.2 fun x hx => h x (List.mem_cons_of_mem _ hx)
      exact ⟨u ++ v, L_catCons.2 ⟨u, v, rfl, h1, h2⟩⟩
theorem some_alt {s : Nat → Bool} {ks : List T} : SomeP (.mk 4 s ks) ↔ ∃ k ∈ ks, SomeP k :=
  ⟨fun ⟨w, h⟩ => (L_alt.1 h).imp fun _ ⟨a, b⟩ => ⟨a, w, b⟩, fun ⟨k, a, w, b⟩ => ⟨w, L_alt.2 ⟨k, a, b⟩⟩⟩
theorem some_plus {s : Nat → Bool} {k : T} : SomeP (.mk 6 s [k]) ↔ SomeP k :=
  ⟨fun ⟨_, h⟩ => let ⟨u, _, _, a, _⟩ := (L_plus (s' := noSet)).1 h; ⟨u, a⟩, fun ⟨w, h⟩ => ⟨w, (L_plus (s' := noSet)).2 ⟨w, [], by simp, h, .nil⟩⟩⟩
theorem some_star {s : Nat → Bool} {ks : List T} : SomeP (.mk 5 s ks) := ⟨[], .starNil⟩
theorem some_opt {s : Nat → Bool} {ks : List T} : SomeP (.mk 7 s ks) := ⟨[], .optNil⟩
theorem some_other {op : Nat} {s : Nat → Bool} {ks : List T} (h2 : op ≠ 2) (h3 : op ≠ 3) (h4 : op ≠ 4) (h5 : op ≠ 5) (h6 : op ≠ 6) (h7 : op ≠ 7) : SomeP (.mk op s ks) := ⟨[], (L_other h2 h3 h4 h5 h6 h7).2 rfl⟩

/-- may the tree that begins at one of some places end at the text's end, or go on behind it? -/
def PartP (t : T) (l : List UInt8) (f : Nat → Bool) : Prop := ∃ i, i ≤ l.length ∧ f i = true ∧ ∃ v, L t (l.drop i ++ v)

theorem part_set {set : Nat → Bool} {ks : List T} {l : List UInt8} {f : Nat → Bool} :
    PartP (.mk 2 set ks) l f ↔ (f l.length = true ∧ SomeP (.mk 2 set ks)) ∨ (0 < l.length ∧ f (l.length - 1) = true ∧ set (l.getD (l.length - 1) 0).toNat = true) := by
  constructor
  · rintro ⟨i, hi, h1, v, h2⟩
    obtain ⟨c, e, hc⟩ := L_set.1 h2
    have h3 := congrArg List.length e
    simp at h3
    rcases Nat.lt_or_ge i l.length with h4 | h4
    · refine .inr ⟨by omega, by rwa [show l.length - 1 = i by omega], ?_⟩
      have hv : v = [] := List.length_eq_zero_iff.1 (by omega)
      subst hv
      rw [List.append_nil] at e
      have : seg l i (i + 1) = [c] := by unfold seg; rw [e]; simp
      rw [seg_one h4] at this
      injection this with h5 _
      rw [show l.length - 1 = i by omega, h5]; exact hc
    · obtain rfl : i = l.length := by omega
      exact .inl ⟨h1, v, by rwa [List.drop_length, List.nil_append] at h2⟩
  · rintro (⟨h1, v, h2⟩ | ⟨h0, h1, h2⟩)
    · exact ⟨l.length, Nat.le_refl _, h1, v, by rwa [List.drop_length, List.nil_append]⟩
    · refine ⟨l.length - 1, by omega, h1, [], L_set.2 ⟨_, ?_, h2⟩⟩
      have := seg_one (l := l) (i := l.length - 1) (by omega)
      rw [← this, List.append_nil]
      unfold seg
      rw [List.take_of_length_le (by simp; omega)]
theorem part_alt {s : Nat → Bool} {ks : List T} {l : List UInt8} {f : Nat → Bool} : PartP (.mk 4 s ks) l f ↔ ∃ k ∈ ks, PartP k l f := by
  constructor
  · rintro ⟨i, hi, h1, v, h2⟩
    obtain ⟨k, hk, h3⟩ := L_alt.1 h2
    exact ⟨k, hk, i, hi, h1, v, h3⟩
  · rintro ⟨k, hk, i, hi, h1, v, h3⟩
    exact ⟨i, hi, h1, v, L_alt.2 ⟨k, hk, h3⟩⟩
theorem part_opt {s : Nat → Bool} {k : T} {l : List UInt8} {f : Nat → Bool} : PartP (.mk 7 s [k]) l f ↔ f l.length = true ∨ PartP k l f := by
  constructor
  · rintro ⟨i, hi, h1, v, h2⟩
    rcases L_opt.1 h2 with h3 | h3
    · have h4 := congrArg List.length h3
      simp at h4
      obtain rfl : i = l.length := by omega
      exact .inl h1
    · exact .inr ⟨i, hi, h1, v, h3⟩
  · rintro (h1 | ⟨i, hi, h1, v, h2⟩)
    · exact ⟨l.length, Nat.le_refl _, h1, [], L_opt.2 (.inl (by simp))⟩
    · exact ⟨i, hi, h1, v, L_opt.2 (.inr h2)⟩
theorem part_other {op : Nat} {s : Nat → Bool} {ks : List T} {l : List UInt8} {f : Nat → Bool} (h2 : op ≠ 2) (h3 : op ≠ 3) (h4 : op ≠ 4) (h5 : op ≠ 5) (h6 : op ≠ 6) (h7 : op ≠ 7) : PartP (.mk op s ks) l f ↔ f l.length = true := by
  constructor
  · rintro ⟨i, hi, h1, v, hl⟩
    have h8 := congrArg List.length ((L_other h2 h3 h4 h5 h6 h7).1 hl)
    simp at h8
    obtain rfl : i = l.length := by omega
    exact h1
  · intro h1
    exact ⟨l.length, Nat.le_refl _, h1, [], (L_other h2 h3 h4 h5 h6 h7).2 (by simp)⟩

/-- a text's rest that falls in two: the first one ends within the text, or goes on behind it -/
theorem drop_split {l : List UInt8} {i : Nat} {u v w : List UInt8} (hi : i ≤ l.length) (h : l.drop i ++ w = u ++ v) :
    (i + u.length ≤ l.length ∧ u = seg l i (i + u.length) ∧ l.drop (i + u.length) ++ w = v) ∨ (∃ a, u = l.drop i ++ a) := by
  rcases Nat.lt_or_ge l.length (i + u.length) with h1 | h1
  · refine .inr ?_
    obtain ⟨a, h2⟩ := List.append_eq_append_iff.1 h |>.resolve_right (by
      rintro ⟨c, h2, h3⟩
      have := congrArg List.length h2
      simp at this
      omega)
    exact ⟨a, h2.1⟩
  · refine .inl ⟨h1, ?_, ?_⟩
    · have h2 := congrArg (List.take u.length) h
      rw [List.take_left, List.take_append_of_le_length (by simp; omega)] at h2
      unfold seg
      rw [show i + u.length - i = u.length by omega, h2]
    · have h2 := congrArg (List.drop u.length) h
      rw [List.drop_left, List.drop_append_of_le_length (by simp; omega), List.drop_drop] at h2
      exact h2

theorem part_star {s : Nat → Bool} {k : T} {l : List UInt8} {f g : Nat → Bool} (he : EndsP (.mk 5 noSet [k]) l f g) : PartP (.mk 5 s [k]) l f ↔ g l.length = true ∨ PartP k l g := by
  constructor
  · rintro ⟨i, hi, h1, v, h2⟩
    have h3 := L_star.1 h2
    generalize hw : l.drop i ++ v = w at h3
    have hg : g i = true := (he i hi).2 ⟨i, Nat.le_refl _, h1, by rw [seg_self]; exact .starNil⟩
    clear h1 h2
    induction h3 generalizing i with
    | nil =>
      have h4 := congrArg List.length hw
      simp at h4
      obtain rfl : i = l.length := by omega
      exact .inl hg
    | @cons a b ha hb ih =>
      rcases drop_split hi hw with ⟨h1, h2, h3⟩ | ⟨c, h2⟩
      · refine ih _ h1 h3 ?_
        obtain ⟨m, hm, h4, h5⟩ := (he i hi).1 hg
        refine (he _ h1).2 ⟨m, by omega, h4, ?_⟩
        rw [← seg_join hm (by omega : i ≤ i + a.length), ← h2]
        exact L_star.2 (star_snoc' (L_star.1 h5) ha)
      · exact .inr ⟨i, hi, hg, c, by rw [← h2]; exact ha⟩
  · rintro (h | ⟨i, hi, h1, v, h2⟩)
    · obtain ⟨m, hm, h4, h5⟩ := (he _ (Nat.le_refl _)).1 h
      refine ⟨m, hm, h4, [], ?_⟩
      have : seg l m l.length = l.drop m ++ [] := by unfold seg; rw [List.append_nil, List.take_of_length_le (by simp)]
      rw [← this]
      exact L_star.2 (L_star.1 h5)
    · obtain ⟨m, hm, h4, h5⟩ := (he i hi).1 h1
      refine ⟨m, by omega, h4, v, L_star.2 ?_⟩
      have : l.drop m ++ v = seg l m i ++ (l.drop i ++ v) := by
        rw [← List.append_assoc]
        congr 1
        have h6 := seg_join (l := l) hm hi
        unfold seg at h6 ⊢
        rw [List.take_of_length_le (l := l.drop i) (by simp), List.take_of_length_le (i := l.length - m) (by simp)] at h6
        exact h6.symm
      rw [this]
      exact star_snoc' (L_star.1 h5) h2
theorem drop_seg {l : List UInt8} {m i : Nat} (hm : m ≤ i) (hi : i ≤ l.length) (v : List UInt8) : l.drop m ++ v = seg l m i ++ (l.drop i ++ v) := by
  rw [← List.append_assoc]
  congr 1
  have h6 := seg_join (l := l) hm hi
  unfold seg at h6 ⊢
  rw [List.take_of_length_le (l := l.drop i) (by simp), List.take_of_length_le (i := l.length - m) (by simp)] at h6
  exact h6.symm
theorem part_plus {s : Nat → Bool} {k : T} {l : List UInt8} {f g : Nat → Bool} (he : EndsP (.mk 5 noSet [k]) l f g) : PartP (.mk 6 s [k]) l f ↔ PartP k l g := by
  constructor
  · rintro ⟨i, hi, h1, v, h2⟩
    obtain ⟨a, b, hw, ha, hb⟩ := (L_plus (s' := noSet)).1 h2
    have hg : g i = true := (he i hi).2 ⟨i, Nat.le_refl _, h1, by rw [seg_self]; exact .starNil⟩
    clear h1 h2
    induction hb generalizing i a with
    | nil =>
      rw [List.append_nil] at hw
      exact ⟨i, hi, hg, v, by rw [hw]; exact ha⟩
    | @cons x y hx hy ih =>
      rcases drop_split hi hw with ⟨h1, h2, h3⟩ | ⟨c, h2⟩
      · refine ih _ h1 x h3 hx ?_
        obtain ⟨m, hm, h4, h5⟩ := (he i hi).1 hg
        refine (he _ h1).2 ⟨m, by omega, h4, ?_⟩
        rw [← seg_join hm (by omega : i ≤ i + a.length), ← h2]
        exact L_star.2 (star_snoc' (L_star.1 h5) ha)
      · exact ⟨i, hi, hg, c, by rw [← h2]; exact ha⟩
  · rintro ⟨i, hi, h1, v, h2⟩
    obtain ⟨m, hm, h4, h5⟩ := (he i hi).1 h1
    refine ⟨m, by omega, h4, v, ?_⟩
    rw [drop_seg hm hi]
    have h6 := L_star.1 h5
    generalize seg l m i = w at h6
    have : Star (L k) (w ++ (l.drop i ++ v)) := star_snoc' h6 h2
    cases h6 with
    | nil => exact (L_plus (s' := noSet)).2 ⟨_, [], by simp, h2, .nil⟩
    | cons ha hb => rw [List.append_assoc]; exact (L_plus (s' := noSet)).2 ⟨_, _, rfl, ha, star_snoc' hb h2⟩
/-- one kid after the other -/
theorem part_cat {s s' : Nat → Bool} {k : T} {ks : List T} {l : List UInt8} {f g : Nat → Bool} (he : EndsP k l f g) :
    (PartP (.mk 3 s (k :: ks)) l f ↔ (PartP k l f ∧ SomeP (.mk 3 s' ks)) ∨ (PartP (.mk 3 s ks) l g)) := by
  constructor
  · rintro ⟨i, hi, h1, v, h2⟩
    obtain ⟨a, b, hw, ha, hb⟩ := L_catCons.1 h2
    rcases drop_split hi hw with ⟨h3, h4, h5⟩ | ⟨c, h4⟩
    · exact .inr ⟨_, h3, (he _ h3).2 ⟨i, by omega, h1, by rw [← h4]; exact ha⟩, v, by rw [h5]; exact hb⟩
    · exact .inl ⟨⟨i, hi, h1, c, by rw [← h4]; exact ha⟩, some_cat.2 (some_cat.1 ⟨b, hb⟩)⟩
  · rintro (⟨⟨i, hi, h1, v, h2⟩, hs⟩ | ⟨i, hi, h1, v, h2⟩)
    · obtain ⟨b, hb⟩ : SomeP (.mk 3 s ks) := some_cat.2 (some_cat.1 hs)
      exact ⟨i, hi, h1, v ++ b, L_catCons.2 ⟨_, b, by simp, h2, hb⟩⟩
    · obtain ⟨m, hm, h4, h5⟩ := (he i hi).1 h1
      exact ⟨m, by omega, h4, v, L_catCons.2 ⟨_, _, drop_seg hm hi v, h5, h2⟩⟩
/-- the last one alone -/
theorem part_last {s : Nat → Bool} {k : T} {l : List UInt8} {f : Nat → Bool} : PartP (.mk 3 s [k]) l f ↔ PartP k l f := by
  constructor
  · rintro ⟨i, hi, h1, v, h2⟩
    obtain ⟨a, b, hw, ha, hb⟩ := L_catCons.1 h2
    rw [L_catNil.1 hb, List.append_nil] at hw
    exact ⟨i, hi, h1, v, by rw [hw]; exact ha⟩
  · rintro ⟨i, hi, h1, v, h2⟩
    exact ⟨i, hi, h1, v, L_catCons.2 ⟨_, [], by simp, h2, L_catNil.2 rfl⟩⟩
theorem part_dead {kind : Int} {s l : List UInt8} {t : T} {A : Nat → Bool} (ht : tree kind s = .ok t) (hA : Closed (netOf t).1 (netOf t).2 A) {f : Nat → Bool} (hf : ∀ i, f i = decide (i = 0)) : deadB (netOf t).1 (netOf t).2 A l = false ↔ PartP t l f := by
  rw [fits_dead (T.OK.wf (tree_ok ht).1) hA]
  constructor
  · rintro ⟨v, h⟩
    exact ⟨0, Nat.zero_le _, by rw [hf]; rfl, v, by rwa [List.drop_zero]⟩
  · rintro ⟨i, hi, h1, v, h2⟩
    rw [hf, decide_eq_true_eq] at h1
    subst h1
    exact ⟨v, by rwa [List.drop_zero] at h2⟩
end Go.Proofs.YtfhggnbnbopkkaaDoor.PM
