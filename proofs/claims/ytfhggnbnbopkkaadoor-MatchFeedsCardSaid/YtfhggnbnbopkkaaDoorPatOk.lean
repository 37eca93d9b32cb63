/- What a pattern's tree is like: no node has many kids, what stands under a sign stands there alone, there are few sets. -/
import Derived.Test.YtfhggnbnbopkkaaDoorPatEmb
namespace Go.Proofs.YtfhggnbnbopkkaaDoor.PM

/-- no node has more kids than that, and what stands under something stands there -/
inductive T.OK (m : Nat) : T → Prop
  | mk {op set kids} : (op = 5 ∨ op = 6 ∨ op = 7 → ∃ k, kids = [k]) → kids.length ≤ m → (∀ k ∈ kids, T.OK m k) → T.OK m (.mk op set kids)

mutual
/-- how many sets a tree has -/
def leaves : T → Nat
  | .mk op _ kids => (if op = 2 then 1 else 0) + leavesL kids
def leavesL : List T → Nat
  | [] => 0
  | k :: r => leaves k + leavesL r
end

theorem leavesL_append : ∀ a b : List T, leavesL (a ++ b) = leavesL a + leavesL b
  | [], b => by simp [leavesL]
  | k :: r, b => by simp only [List.cons_append, leavesL, leavesL_append r b]; omega

theorem leaf_ok (m : Nat) (p : Nat → Bool) : T.OK m (.mk 2 p []) := .mk (fun h => by omega) (Nat.zero_le _) (fun k hk => by cases hk)
theorem leaf_leaves (p : Nat → Bool) : leaves (.mk 2 p []) = 1 := by simp [leaves, leavesL]
theorem over_ok {m op : Nat} {x : T} (hm : 1 ≤ m) (h : T.OK m x) : T.OK m (over op x) := .mk (fun _ => ⟨x, rfl⟩) hm (fun k hk => by
  obtain rfl : k = x := by simpa using hk
  exact h)
theorem over_leaves {op : Nat} (h : op ≠ 2) (x : T) : leaves (over op x) = leaves x := by simp [over, leaves, leavesL, h]
theorem joined_ok {m op : Nat} (ho : op = 3 ∨ op = 4) : ∀ {l : List T}, l.length ≤ m → (∀ t ∈ l, T.OK m t) → T.OK m (joined op l)
  | [], _, _ => .mk (fun h => by omega) (Nat.zero_le _) (fun k hk => by cases hk)
  | [x], _, h => h x (by simp)
  | x :: y :: l, hl, h => .mk (fun h => by omega) hl h
theorem joined_leaves {op : Nat} (ho : op = 3 ∨ op = 4) : ∀ l : List T, leaves (joined op l) = leavesL l
  | [] => by simp [joined, leaves, leavesL]
  | [x] => by simp [joined, leavesL]
  | x :: y :: l => by
    have : op ≠ 2 := by omega
    simp [joined, leaves, this]

theorem cls_ok {s : List UInt8} {a n : Nat} {x : T} (m : Nat) (h : cls s a = .ok x n) : T.OK m x ∧ leaves x = 1 := by
  unfold cls at h
  split at h
  · split at h <;> cases h
    exact ⟨leaf_ok _ _, leaf_leaves _⟩
  · split at h <;> cases h
    exact ⟨leaf_ok _ _, leaf_leaves _⟩

theorem read_ok (s : List UInt8) (m : Nat) (hm : s.length + 2 ≤ m) : ∀ f : Nat,
    (∀ a acc x n, alts f s a acc = .ok x n → a ≤ s.length → (∀ t ∈ acc, T.OK m t) → acc.length + (s.length - a) + 1 ≤ m → T.OK m x ∧ leaves x ≤ leavesL acc + (n - a)) ∧
    (∀ a acc x n, row f s a acc = .ok x n → a ≤ s.length → (∀ t ∈ acc, T.OK m t) → acc.length + (s.length - a) ≤ m → T.OK m x ∧ leaves x ≤ leavesL acc + (n - a)) ∧
    (∀ a x n, atom f s a = .ok x n → a ≤ s.length → T.OK m x ∧ leaves x ≤ n - a)
  | 0 => ⟨fun a acc t n h => by simp [alts] at h, fun a acc t n h => by simp [row] at h, fun a t n h => by simp [atom] at h⟩
  | f + 1 => by
    obtain ⟨h1, h2, h3⟩ := read_ok s m hm f
    obtain ⟨p1, p2, p3⟩ := read_pos s f
    have snoc : ∀ (acc : List T) (x : T), (∀ t ∈ acc, T.OK m t) → T.OK m x → ∀ t ∈ acc ++ [x], T.OK m t := fun acc x h1 h2 t ht => by
      rw [List.mem_append, List.mem_singleton] at ht
      rcases ht with ht | rfl
      · exact h1 t ht
      · exact h2
    have one_le : leavesL [] = 0 := rfl
    refine ⟨fun a acc x n e ha hacc hl => ?_, fun a acc x n e ha hacc hl => ?_, fun a x n e ha => ?_⟩
    · simp only [alts] at e
      cases hr : row f s a [] with
      | bad k => rw [hr] at e; cases e
      | ok y k =>
        rw [hr] at e
        have hp := p2 _ _ _ _ hr ha
        have hy := h2 a [] y k hr ha (by simp) (by simp; omega)
        rw [one_le] at hy
        simp only [] at e
        split at e
        · rename_i hb
          have hlt := (List.getElem?_eq_some_iff.1 hb).1
          have hp2 := p1 _ _ _ _ e (by omega)
          have := h1 (k + 1) _ x n e (by omega) (snoc acc y hacc hy.1) (by simp; omega)
          refine ⟨this.1, ?_⟩
          rw [leavesL_append] at this
          simp only [leavesL] at this
          omega
        · cases e
          refine ⟨joined_ok (.inr rfl) (by simp; omega) (snoc acc y hacc hy.1), ?_⟩
          rw [joined_leaves (.inr rfl), leavesL_append]
          simp only [leavesL]
          omega
    · simp only [row] at e
      split at e
      · cases e
        exact ⟨joined_ok (.inl rfl) (by omega) hacc, by rw [joined_leaves (.inl rfl)]; omega⟩
      · cases hr : atom f s a with
        | bad k => rw [hr] at e; cases e
        | ok y k =>
          rw [hr] at e
          have hp := p3 _ _ _ hr
          have hy := h3 a y k hr ha
          simp only [] at e
          have go : ∀ (z : T) (b : Nat), T.OK m z → leaves z = leaves y → k ≤ b → b ≤ s.length → row f s b (acc ++ [z]) = .ok x n → T.OK m x ∧ leaves x ≤ leavesL acc + (n - a) := fun z b hz hzl hkb hbl er => by
            have hp2 := p2 _ _ _ _ er hbl
            have := h2 b _ x n er hbl (snoc acc z hacc hz) (by simp; omega)
            refine ⟨this.1, ?_⟩
            rw [leavesL_append] at this
            simp only [leavesL] at this
            omega
          split at e
          · rename_i hb; have hlt := (List.getElem?_eq_some_iff.1 hb).1
            exact go _ _ (over_ok (by omega) hy.1) (over_leaves (by omega) y) (by omega) (by omega) e
          · split at e
            · rename_i hb; have hlt := (List.getElem?_eq_some_iff.1 hb).1
              exact go _ _ (over_ok (by omega) hy.1) (over_leaves (by omega) y) (by omega) (by omega) e
            · split at e
              · rename_i hb; have hlt := (List.getElem?_eq_some_iff.1 hb).1
                exact go _ _ (over_ok (by omega) hy.1) (over_leaves (by omega) y) (by omega) (by omega) e
              · exact go _ _ hy.1 rfl (by omega) (by omega) e
    · simp only [atom] at e
      split at e
      · cases e
      · rename_i c hc
        have hlt := (List.getElem?_eq_some_iff.1 hc).1
        split at e
        · cases hr : alts f s (a + 1) [] with
          | bad k => rw [hr] at e; cases e
          | ok y k =>
            rw [hr] at e
            have hp := p1 _ _ _ _ hr (by omega)
            have hy := h1 (a + 1) [] y k hr (by omega) (by simp) (by simp; omega)
            rw [one_le] at hy
            simp only [] at e
            split at e <;> cases e
            exact ⟨hy.1, by omega⟩
        · split at e
          · have := cls_ok m e
            have hp := cls_pos e
            exact ⟨this.1, by omega⟩
          · split at e
            · cases e; exact ⟨leaf_ok _ _, by rw [show every = .mk 2 (fun _ => true) [] from rfl, leaf_leaves]; omega⟩
            · split at e
              · split at e <;> cases e
                rename_i d hd
                exact ⟨leaf_ok _ _, by rw [one, leaf_leaves]; omega⟩
              · split at e
                · cases e
                · cases e; exact ⟨leaf_ok _ _, by rw [one, leaf_leaves]; omega⟩

theorem lits_ok (m : Nat) : ∀ (s : List UInt8), (∀ t ∈ lits s, T.OK m t) ∧ leavesL (lits s) = s.length
  | [] => ⟨by simp [lits], rfl⟩
  | c :: r => by
    obtain ⟨h1, h2⟩ := lits_ok m r
    simp only [lits, List.map_cons, List.mem_cons, leavesL, List.length_cons, one, leaf_leaves] at h1 h2 ⊢
    refine ⟨fun t ht => ?_, by omega⟩
    rcases ht with rfl | ht
    · exact leaf_ok _ _
    · exact h1 t ht

theorem glob_sign_ok (m : Nat) (hm : 1 ≤ m) (c : UInt8) : T.OK m (if c = 42 then over 5 every else if c = 63 then every else one c.toNat) ∧ leaves (if c = 42 then over 5 every else if c = 63 then every else one c.toNat) = 1 := by
  split
  · exact ⟨over_ok hm (leaf_ok _ _), by rw [over_leaves (by omega)]; exact leaf_leaves _⟩
  · split
    · exact ⟨leaf_ok _ _, leaf_leaves _⟩
    · exact ⟨leaf_ok _ _, leaf_leaves _⟩

theorem globL_ok (m : Nat) (hm : 1 ≤ m) : ∀ (s : List UInt8) {l : List T}, globL s = some l → (∀ t ∈ l, T.OK m t) ∧ leavesL l ≤ s.length ∧ l.length ≤ s.length
  | [], l, h => by simp only [globL, Option.some.injEq] at h; subst h; exact ⟨by simp, Nat.le_refl _, Nat.le_refl _⟩
  | [c], l, h => by
    rw [globL] at h
    split at h
    · cases h
    · simp only [Option.some.injEq] at h
      subst h
      have := glob_sign_ok m hm c
      refine ⟨fun t ht => ?_, ?_, by simp⟩
      · rw [List.mem_singleton] at ht; subst ht; exact this.1
      · simp only [leavesL, this.2, List.length_singleton]; omega
  | c :: d :: r, l, h => by
    rw [globL] at h
    split at h
    · rw [Option.map_eq_some_iff] at h
      obtain ⟨k, hk, rfl⟩ := h
      obtain ⟨h1, h2, h3⟩ := globL_ok m hm r hk
      refine ⟨fun t ht => ?_, ?_, by simp; omega⟩
      · rcases List.mem_cons.1 ht with rfl | ht
        · exact leaf_ok _ _
        · exact h1 t ht
      · simp only [leavesL, one, leaf_leaves, List.length_cons]; omega
    · rw [Option.map_eq_some_iff] at h
      obtain ⟨k, hk, rfl⟩ := h
      obtain ⟨h1, h2, h3⟩ := globL_ok m hm (d :: r) hk
      have := glob_sign_ok m hm c
      refine ⟨fun t ht => ?_, ?_, by simp at h3 ⊢; omega⟩
      · rcases List.mem_cons.1 ht with rfl | ht
        · exact this.1
        · exact h1 t ht
      · simp only [leavesL, this.2, List.length_cons] at h2 ⊢; omega

theorem tree_ok {kind : Int} {s : List UInt8} {t : T} (h : tree kind s = .ok t) : T.OK 100 t ∧ leaves t ≤ 64 := by
  unfold tree at h
  split at h
  · cases h
  · split at h
    · cases h
    · rename_i hl
      have hl : s.length ≤ 64 := by omega
      split at h
      · cases h
        have := lits_ok 100 s
        exact ⟨joined_ok (.inl rfl) (by simp; omega) this.1, by rw [joined_leaves (.inl rfl)]; have := this.2; unfold lits at this; omega⟩
      · split at h
        · split at h
          · cases h
          · rename_i l hg
            cases h
            obtain ⟨h1, h2, h3⟩ := globL_ok 100 (by omega) s hg
            exact ⟨joined_ok (.inl rfl) (by omega) h1, by rw [joined_leaves (.inl rfl)]; omega⟩
        · split at h
          · cases h
          · rename_i x n hr
            split at h
            · cases h
            · cases h
              obtain ⟨h1, h2⟩ := (read_ok s 100 (by omega) _).1 0 [] t n hr (by omega) (by simp) (by simp; omega)
              have hp := (read_pos s _).1 _ _ _ _ hr (by omega)
              rw [show leavesL [] = 0 from rfl] at h2
              exact ⟨h1, by omega⟩

end Go.Proofs.YtfhggnbnbopkkaaDoor.PM
