/- Reading inside a longer text: what was read to its end is read there, too; groups, and signs ahead of each byte. -/
import Derived.Test.YtfhggnbnbopkkaaDoorPatTree
namespace Go.Proofs.YtfhggnbnbopkkaaDoor.PM

/-- a text stands in another one at place p, and behind it comes the end or a closing bracket -/
structure Emb (s t : List UInt8) (p : Nat) : Prop where
  at' : ∀ i c, s[i]? = some c → t[p + i]? = some c
  behind : t[p + s.length]? = none ∨ t[p + s.length]? = some 41
  len : s.length ≤ t.length

theorem Emb.iff {s t : List UInt8} {p i : Nat} {c : UInt8} (h : Emb s t p) (hi : i ≤ s.length) (hc : c ≠ 41) : t[p + i]? = some c ↔ s[i]? = some c := by
  constructor
  · intro e
    cases hs : s[i]? with
    | some d => rw [h.at' i d hs] at e; exact e
    | none =>
      have hl : s.length ≤ i := List.getElem?_eq_none_iff.1 hs
      obtain rfl : i = s.length := by omega
      rcases h.behind with e2 | e2 <;> rw [e2] at e
      · cases e
      · cases e; exact absurd rfl hc
  · exact h.at' i c

theorem member_emb {s t : List UInt8} {p a x n : Nat} (h : Emb s t p) (hm : member s a = .ok x n) : member t (p + a) = .ok x (p + n) := by
  unfold member at hm ⊢
  split at hm
  · cases hm
  · rename_i c hc
    rw [h.at' a c hc]
    simp only []
    by_cases h1 : c.toNat = 92
    · rw [if_pos h1] at hm ⊢
      split at hm
      · cases hm
      · rename_i d hd
        rw [show p + a + 1 = p + (a + 1) by omega, h.at' _ d hd]
        cases hm
        rfl
    · rw [if_neg h1] at hm ⊢
      split at hm
      · cases hm
      · rename_i h2; rw [if_neg h2]; cases hm; rfl

theorem member_none {s : List UInt8} {a : Nat} (h : s[a]? = none) : member s a = .bad a := by unfold member; rw [h]

theorem clsL_emb {s t : List UInt8} {p : Nat} (h : Emb s t p) : ∀ (f g : Nat) (a : Nat) (first : Bool) (q : Nat → Bool) {r : Nat → Bool} {n : Nat}, f ≤ g → clsL f s a first q = .ok r n → clsL g t (p + a) first q = .ok r (p + n)
  | 0, _, a, first, q, r, n, _, hc => by simp [clsL] at hc
  | f + 1, 0, a, first, q, r, n, hfg, _ => by omega
  | f + 1, g + 1, a, first, q, r, n, hfg, hc => by
    simp only [clsL] at hc ⊢
    cases hs : s[a]? with
    | none =>
      rw [hs, if_neg (by simp), member_none hs] at hc; cases hc
    | some c =>
      have ht := h.at' a c hs
      rw [hs] at hc; rw [ht]
      by_cases h1 : some c = some 93 ∧ first = false
      · rw [if_pos h1] at hc ⊢; cases hc; rfl
      · rw [if_neg h1] at hc ⊢
        cases hm : member s a with
        | bad k => rw [hm] at hc; cases hc
        | ok lo b =>
          have hb := (member_pos hm).2.1
          rw [hm] at hc
          rw [member_emb h hm]
          simp only [] at hc ⊢
          by_cases h2 : s[b]? = some 45
          · rw [if_pos h2] at hc; rw [if_pos (h.at' b _ h2)]
            cases hm2 : member s (b + 1) with
            | bad k => rw [hm2] at hc; cases hc
            | ok hi c2 =>
              rw [hm2] at hc
              rw [show p + b + 1 = p + (b + 1) by omega, member_emb h hm2]
              simp only [] at hc ⊢
              by_cases h3 : hi < lo
              · rw [if_pos h3] at hc; cases hc
              · rw [if_neg h3] at hc ⊢
                exact clsL_emb h f g c2 false _ (by omega) hc
          · rw [if_neg h2] at hc
            rw [if_neg (fun e => h2 ((h.iff hb (by decide)).1 e))]
            exact clsL_emb h f g b false _ (by omega) hc

theorem cls_emb {s t : List UInt8} {p a n : Nat} {x : T} (h : Emb s t p) (ha : a ≤ s.length) (hc : cls s a = .ok x n) : cls t (p + a) = .ok x (p + n) := by
  have hl := h.len
  unfold cls at hc ⊢
  by_cases h1 : s[a]? = some 94
  · rw [if_pos h1] at hc; rw [if_pos (h.at' a _ h1)]
    cases hr : clsL (s.length + 1) s (a + 1) true noSet with
    | bad k => rw [hr] at hc; cases hc
    | ok q m =>
      rw [hr] at hc
      rw [show p + a + 1 = p + (a + 1) by omega, clsL_emb h _ (t.length + 1) _ _ _ (by omega) hr]
      cases hc; rfl
  · rw [if_neg h1] at hc; rw [if_neg (fun e => h1 ((h.iff ha (by decide)).1 e))]
    cases hr : clsL (s.length + 1) s a true noSet with
    | bad k => rw [hr] at hc; cases hc
    | ok q m =>
      rw [hr] at hc
      rw [clsL_emb h _ (t.length + 1) _ _ _ (by omega) hr]
      cases hc; rfl

/-- what was read is read in the longer text, too -/
theorem read_emb {s t : List UInt8} {p : Nat} (h : Emb s t p) : ∀ f : Nat,
    (∀ g a acc x n, f ≤ g → a ≤ s.length → alts f s a acc = .ok x n → alts g t (p + a) acc = .ok x (p + n)) ∧
    (∀ g a acc x n, f ≤ g → a ≤ s.length → row f s a acc = .ok x n → row g t (p + a) acc = .ok x (p + n)) ∧
    (∀ g a x n, f ≤ g → a ≤ s.length → atom f s a = .ok x n → atom g t (p + a) = .ok x (p + n))
  | 0 => ⟨fun _ _ _ _ _ _ _ e => by simp [alts] at e, fun _ _ _ _ _ _ _ e => by simp [row] at e, fun _ _ _ _ _ _ e => by simp [atom] at e⟩
  | f + 1 => by
    obtain ⟨h1, h2, h3⟩ := read_emb h f
    obtain ⟨p1, p2, p3⟩ := read_pos s f
    refine ⟨fun g a acc x n hg ha e => ?_, fun g a acc x n hg ha e => ?_, fun g a x n hg ha e => ?_⟩
    all_goals (obtain ⟨g, rfl⟩ : ∃ g', g = g' + 1 := ⟨g - 1, by omega⟩)
    · simp only [alts] at e ⊢
      cases hr : row f s a [] with
      | bad k => rw [hr] at e; cases e
      | ok y m =>
        rw [hr] at e
        have hm := (p2 _ _ _ _ hr ha).2.1
        rw [h2 g a [] y m (by omega) ha hr]
        simp only [] at e ⊢
        by_cases hb : s[m]? = some 124
        · rw [if_pos hb] at e; rw [if_pos (h.at' m _ hb), show p + m + 1 = p + (m + 1) by omega]
          have := (List.getElem?_eq_some_iff.1 hb).1
          exact h1 g (m + 1) _ _ _ (by omega) (by omega) e
        · rw [if_neg hb] at e; rw [if_neg (fun e => hb ((h.iff hm (by decide)).1 e))]
          cases e; rfl
    · simp only [row] at e ⊢
      by_cases hb : s[a]? = none ∨ s[a]? = some 124 ∨ s[a]? = some 41
      · rw [if_pos hb] at e
        have hb' : t[p + a]? = none ∨ t[p + a]? = some 124 ∨ t[p + a]? = some 41 := by
          rcases hb with hb | hb | hb
          · have hl : s.length ≤ a := List.getElem?_eq_none_iff.1 hb
            obtain rfl : a = s.length := by omega
            rcases h.behind with e2 | e2
            · exact .inl e2
            · exact .inr (.inr e2)
          · exact .inr (.inl (h.at' a _ hb))
          · exact .inr (.inr (h.at' a _ hb))
        rw [if_pos hb']; cases e; rfl
      · rw [if_neg hb] at e
        cases hs : s[a]? with
        | none => exact absurd (.inl hs) hb
        | some c =>
          have ht := h.at' a c hs
          rw [hs] at hb
          rw [ht, if_neg hb]
          cases hr : atom f s a with
          | bad k => rw [hr] at e; cases e
          | ok y m =>
            rw [hr] at e
            have hm := (p3 _ _ _ hr).2
            rw [h3 g a y m (by omega) ha hr]
            simp only [] at e ⊢
            have hnext : ∀ c : UInt8, s[m]? = some c → m + 1 ≤ s.length := fun c hc => (List.getElem?_eq_some_iff.1 hc).1
            by_cases e1 : s[m]? = some 42
            · rw [if_pos e1] at e; rw [if_pos (h.at' m _ e1), show p + m + 1 = p + (m + 1) by omega]
              exact h2 g (m + 1) _ _ _ (by omega) (hnext _ e1) e
            · rw [if_neg e1] at e; rw [if_neg (fun e => e1 ((h.iff hm (by decide)).1 e))]
              by_cases e2 : s[m]? = some 43
              · rw [if_pos e2] at e; rw [if_pos (h.at' m _ e2), show p + m + 1 = p + (m + 1) by omega]
                exact h2 g (m + 1) _ _ _ (by omega) (hnext _ e2) e
              · rw [if_neg e2] at e; rw [if_neg (fun e => e2 ((h.iff hm (by decide)).1 e))]
                by_cases e3 : s[m]? = some 63
                · rw [if_pos e3] at e; rw [if_pos (h.at' m _ e3), show p + m + 1 = p + (m + 1) by omega]
                  exact h2 g (m + 1) _ _ _ (by omega) (hnext _ e3) e
                · rw [if_neg e3] at e; rw [if_neg (fun e => e3 ((h.iff hm (by decide)).1 e))]
                  exact h2 g m _ _ _ (by omega) hm e
    · simp only [atom] at e ⊢
      cases hs : s[a]? with
      | none => rw [hs] at e; cases e
      | some c =>
        have hlt := (List.getElem?_eq_some_iff.1 hs).1
        rw [hs] at e
        rw [h.at' a c hs]
        simp only [] at e ⊢
        by_cases c1 : c.toNat = 40
        · rw [if_pos c1] at e ⊢
          cases hr : alts f s (a + 1) [] with
          | bad k => rw [hr] at e; cases e
          | ok y m =>
            rw [hr] at e
            rw [show p + a + 1 = p + (a + 1) by omega, h1 g (a + 1) [] y m (by omega) (by omega) hr]
            simp only [] at e ⊢
            by_cases hb : s[m]? = some 41
            · rw [if_pos hb] at e; rw [if_pos (h.at' m _ hb)]; cases e; rfl
            · rw [if_neg hb] at e; cases e
        · rw [if_neg c1] at e ⊢
          by_cases c2 : c.toNat = 91
          · rw [if_pos c2] at e ⊢
            rw [show p + a + 1 = p + (a + 1) by omega]
            exact cls_emb h (by omega) e
          · rw [if_neg c2] at e ⊢
            by_cases c3 : c.toNat = 46
            · rw [if_pos c3] at e ⊢; cases e; rfl
            · rw [if_neg c3] at e ⊢
              by_cases c4 : c.toNat = 92
              · rw [if_pos c4] at e ⊢
                cases hd : s[a + 1]? with
                | none => rw [hd] at e; cases e
                | some d =>
                  rw [hd] at e
                  rw [show p + a + 1 = p + (a + 1) by omega, h.at' _ d hd]
                  cases e; rfl
              · rw [if_neg c4] at e ⊢
                split at e
                · cases e
                · rename_i c5; rw [if_neg c5]; cases e; rfl

/-- a regular text: how it is read -/
theorem tree_re {s : List UInt8} {x : T} (h : tree 3 s = .ok x) : s.length ≤ 64 ∧ alts (3 * s.length + 3) s 0 [] = .ok x s.length := by
  unfold tree at h
  rw [if_neg (by omega)] at h
  split at h
  · cases h
  · rw [if_neg (by omega), if_neg (by omega)] at h
    split at h
    · cases h
    · rename_i y n hr
      have hp := (read_pos s _).1 _ _ _ _ hr (by omega)
      split at h
      · cases h
      · cases h
        obtain rfl : n = s.length := by omega
        exact ⟨by omega, hr⟩
theorem tree_of {s : List UInt8} {x : T} (hl : s.length ≤ 64) (h : alts (3 * s.length + 3) s 0 [] = .ok x s.length) : tree 3 s = .ok x := by
  unfold tree
  rw [if_neg (by omega), if_neg (by omega), if_neg (by omega), if_neg (by omega), h]
  simp

/-- a group -/
theorem atom_group {a t : List UInt8} {x : T} {p f g : Nat} (h : Emb a t (p + 1)) (hp : t[p]? = some 40) (hb : t[p + 1 + a.length]? = some 41) (hr : alts f a 0 [] = .ok x a.length) (hfg : f ≤ g) : atom (g + 1) t p = .ok x (p + 1 + a.length + 1) := by
  simp only [atom, hp]
  have := (read_emb h f).1 g 0 [] x a.length hfg (by omega) hr
  rw [Nat.add_zero] at this
  rw [if_pos (by decide), this]
  simp only []
  rw [if_pos hb]

theorem row_end {t : List UInt8} {a g : Nat} (acc : List T) (h : t[a]? = none ∨ t[a]? = some 124 ∨ t[a]? = some 41) : row (g + 1) t a acc = .ok (joined 3 acc) a := by
  simp only [row]; rw [if_pos h]
theorem row_group {a t : List UInt8} {x : T} {p f g : Nat} (acc : List T) (h : Emb a t (p + 1)) (hp : t[p]? = some 40) (hb : t[p + 1 + a.length]? = some 41) (hr : alts f a 0 [] = .ok x a.length) (hfg : f ≤ g) :
    row (g + 2) t p acc = if t[p + a.length + 2]? = some 42 then row (g + 1) t (p + a.length + 3) (acc ++ [over 5 x])
      else if t[p + a.length + 2]? = some 43 then row (g + 1) t (p + a.length + 3) (acc ++ [over 6 x])
      else if t[p + a.length + 2]? = some 63 then row (g + 1) t (p + a.length + 3) (acc ++ [over 7 x])
      else row (g + 1) t (p + a.length + 2) (acc ++ [x]) := by
  rw [row, hp, if_neg (by simp), atom_group h hp hb hr hfg]
  rw [show p + 1 + a.length + 1 = p + a.length + 2 by omega]

/-- brackets around a text leave its tree as it is -/
theorem group_plain {a : List UInt8} {x : T} (h : tree 3 a = .ok x) (hl : a.length + 2 ≤ 64) : tree 3 (40 :: (a ++ [41])) = .ok x := by
  obtain ⟨_, hr⟩ := tree_re h
  have hlen : (40 :: (a ++ [41]) : List UInt8).length = a.length + 2 := by simp
  refine tree_of (by omega) ?_
  rw [hlen, show 3 * (a.length + 2) + 3 = (3 * a.length + 6) + 3 by omega]
  have hE : Emb a (40 :: (a ++ [41])) (0 + 1) := ⟨fun i c hi => by rw [Nat.zero_add, Nat.add_comm, List.getElem?_cons_succ, List.getElem?_append_left (List.getElem?_eq_some_iff.1 hi).1]; exact hi, .inr (by rw [Nat.zero_add, Nat.add_comm, List.getElem?_cons_succ]; simp), by simp; omega⟩
  have hb : (40 :: (a ++ [41]) : List UInt8)[0 + 1 + a.length]? = some 41 := by rw [Nat.zero_add, Nat.add_comm, List.getElem?_cons_succ]; simp
  have hn : (40 :: (a ++ [41]) : List UInt8)[0 + a.length + 2]? = none := List.getElem?_eq_none_iff.2 (by simp)
  rw [alts, row_group (g := 3 * a.length + 6) [] hE rfl hb hr (by omega), hn, if_neg (by simp), if_neg (by simp), if_neg (by simp), row_end _ (.inl hn)]
  simp only []
  rw [hn, if_neg (by simp)]
  simp [joined]

/-- .. and what stands behind them is put on top -/
theorem group_sign {a : List UInt8} {x : T} (h : tree 3 a = .ok x) (hl : a.length + 3 ≤ 64) (c : UInt8) (op : Nat) (hc : c = 42 ∧ op = 5 ∨ c = 43 ∧ op = 6 ∨ c = 63 ∧ op = 7) : tree 3 (40 :: (a ++ [41, c])) = .ok (over op x) := by
  obtain ⟨_, hr⟩ := tree_re h
  have hlen : (40 :: (a ++ [41, c]) : List UInt8).length = a.length + 3 := by simp
  refine tree_of (by omega) ?_
  rw [hlen, show 3 * (a.length + 3) + 3 = (3 * a.length + 9) + 3 by omega]
  have hE : Emb a (40 :: (a ++ [41, c])) (0 + 1) := ⟨fun i c hi => by rw [Nat.zero_add, Nat.add_comm, List.getElem?_cons_succ, List.getElem?_append_left (List.getElem?_eq_some_iff.1 hi).1]; exact hi, .inr (by rw [Nat.zero_add, Nat.add_comm, List.getElem?_cons_succ]; simp), by simp; omega⟩
  have hb : (40 :: (a ++ [41, c]) : List UInt8)[0 + 1 + a.length]? = some 41 := by rw [Nat.zero_add, Nat.add_comm, List.getElem?_cons_succ]; simp
  have hs : (40 :: (a ++ [41, c]) : List UInt8)[0 + a.length + 2]? = some c := by rw [show 0 + a.length + 2 = (a.length + 1) + 1 by omega, List.getElem?_cons_succ, List.getElem?_append_right (by omega)]; simp
  have hn : (40 :: (a ++ [41, c]) : List UInt8)[0 + a.length + 3]? = none := List.getElem?_eq_none_iff.2 (by simp)
  rw [alts, row_group (g := 3 * a.length + 9) [] hE rfl hb hr (by omega), hs]
  rcases hc with ⟨rfl, rfl⟩ | ⟨rfl, rfl⟩ | ⟨rfl, rfl⟩
  · rw [if_pos rfl, row_end _ (.inl hn)]
    simp only []
    rw [hn, if_neg (by simp)]
    simp [joined]
  · rw [if_neg (by decide), if_pos rfl, row_end _ (.inl hn)]
    simp only []
    rw [hn, if_neg (by simp)]
    simp [joined]
  · rw [if_neg (by decide), if_neg (by decide), if_pos rfl, row_end _ (.inl hn)]
    simp only []
    rw [hn, if_neg (by simp)]
    simp [joined]

/-- two groups, one behind the other, or a bar between them -/
theorem group_cat {a b : List UInt8} {x y : T} (h : tree 3 a = .ok x) (h2 : tree 3 b = .ok y) (hl : a.length + b.length + 4 ≤ 64) : tree 3 (40 :: (a ++ 41 :: 40 :: (b ++ [41]))) = .ok (.mk 3 noSet [x, y]) := by
  obtain ⟨_, hr⟩ := tree_re h
  obtain ⟨_, hr2⟩ := tree_re h2
  have hlen : (40 :: (a ++ 41 :: 40 :: (b ++ [41])) : List UInt8).length = a.length + b.length + 4 := by simp; omega
  obtain ⟨t, ht⟩ : ∃ t, (40 :: (a ++ 41 :: 40 :: (b ++ [41])) : List UInt8) = t := ⟨_, rfl⟩
  have hat : ∀ i c, a[i]? = some c → t[0 + 1 + i]? = some c := fun i c hi => by
    subst ht; rw [Nat.zero_add, Nat.add_comm, List.getElem?_cons_succ, List.getElem?_append_left (List.getElem?_eq_some_iff.1 hi).1]; exact hi
  have h41 : t[0 + 1 + a.length]? = some 41 := by subst ht; rw [Nat.zero_add, Nat.add_comm, List.getElem?_cons_succ, List.getElem?_append_right (by omega)]; simp
  have h40 : t[0 + a.length + 2]? = some 40 := by subst ht; rw [show 0 + a.length + 2 = (a.length + 1) + 1 by omega, List.getElem?_cons_succ, List.getElem?_append_right (by omega)]; simp
  have hbt : ∀ i c, b[i]? = some c → t[0 + a.length + 2 + 1 + i]? = some c := fun i c hi => by
    subst ht; rw [show 0 + a.length + 2 + 1 + i = (a.length + (i + 2)) + 1 by omega, List.getElem?_cons_succ, List.getElem?_append_right (by omega), show a.length + (i + 2) - a.length = i + 2 by omega, List.getElem?_cons_succ, List.getElem?_cons_succ, List.getElem?_append_left (List.getElem?_eq_some_iff.1 hi).1]; exact hi
  have hb41 : t[0 + a.length + 2 + 1 + b.length]? = some 41 := by
    subst ht; rw [show 0 + a.length + 2 + 1 + b.length = (a.length + (b.length + 2)) + 1 by omega, List.getElem?_cons_succ, List.getElem?_append_right (by omega), show a.length + (b.length + 2) - a.length = b.length + 2 by omega, List.getElem?_cons_succ, List.getElem?_cons_succ]; simp
  have h0 : t[0]? = some 40 := by subst ht; rfl
  rw [ht] at hlen ⊢
  have hn : t[0 + a.length + 2 + b.length + 2]? = none := List.getElem?_eq_none_iff.2 (by omega)
  clear ht
  refine tree_of (by omega) ?_
  rw [hlen, show 3 * (a.length + b.length + 4) + 3 = (3 * a.length + 3 * b.length + 12) + 3 by omega]
  have hE : Emb a t (0 + 1) := ⟨hat, .inr h41, by omega⟩
  have hE2 : Emb b t (0 + a.length + 2 + 1) := ⟨hbt, .inr hb41, by omega⟩
  rw [alts, row_group (g := 3 * a.length + 3 * b.length + 12) [] hE h0 h41 hr (by omega), h40, if_neg (by decide), if_neg (by decide), if_neg (by decide)]
  rw [show 3 * a.length + 3 * b.length + 12 + 1 = (3 * a.length + 3 * b.length + 11) + 2 by omega, row_group (g := 3 * a.length + 3 * b.length + 11) _ hE2 h40 hb41 hr2 (by omega), hn, if_neg (by simp), if_neg (by simp), if_neg (by simp), row_end _ (.inl hn)]
  simp only []
  rw [hn, if_neg (by simp)]
  simp [joined]; omega

theorem group_alt {a b : List UInt8} {x y : T} (h : tree 3 a = .ok x) (h2 : tree 3 b = .ok y) (hl : a.length + b.length + 5 ≤ 64) : tree 3 (40 :: (a ++ 41 :: 124 :: 40 :: (b ++ [41]))) = .ok (.mk 4 noSet [x, y]) := by
  obtain ⟨_, hr⟩ := tree_re h
  obtain ⟨_, hr2⟩ := tree_re h2
  have hlen : (40 :: (a ++ 41 :: 124 :: 40 :: (b ++ [41])) : List UInt8).length = a.length + b.length + 5 := by simp; omega
  obtain ⟨t, ht⟩ : ∃ t, (40 :: (a ++ 41 :: 124 :: 40 :: (b ++ [41])) : List UInt8) = t := ⟨_, rfl⟩
  have hat : ∀ i c, a[i]? = some c → t[0 + 1 + i]? = some c := fun i c hi => by
    subst ht; rw [Nat.zero_add, Nat.add_comm, List.getElem?_cons_succ, List.getElem?_append_left (List.getElem?_eq_some_iff.1 hi).1]; exact hi
  have h41 : t[0 + 1 + a.length]? = some 41 := by subst ht; rw [Nat.zero_add, Nat.add_comm, List.getElem?_cons_succ, List.getElem?_append_right (by omega)]; simp
  have h124 : t[0 + a.length + 2]? = some 124 := by subst ht; rw [show 0 + a.length + 2 = (a.length + 1) + 1 by omega, List.getElem?_cons_succ, List.getElem?_append_right (by omega)]; simp
  have h40 : t[0 + a.length + 2 + 1]? = some 40 := by subst ht; rw [show 0 + a.length + 2 + 1 = (a.length + 2) + 1 by omega, List.getElem?_cons_succ, List.getElem?_append_right (by omega)]; simp
  have hbt : ∀ i c, b[i]? = some c → t[0 + a.length + 2 + 1 + 1 + i]? = some c := fun i c hi => by
    subst ht; rw [show 0 + a.length + 2 + 1 + 1 + i = (a.length + (i + 3)) + 1 by omega, List.getElem?_cons_succ, List.getElem?_append_right (by omega), show a.length + (i + 3) - a.length = i + 3 by omega, List.getElem?_cons_succ, List.getElem?_cons_succ, List.getElem?_cons_succ, List.getElem?_append_left (List.getElem?_eq_some_iff.1 hi).1]; exact hi
  have hb41 : t[0 + a.length + 2 + 1 + 1 + b.length]? = some 41 := by
    subst ht; rw [show 0 + a.length + 2 + 1 + 1 + b.length = (a.length + (b.length + 3)) + 1 by omega, List.getElem?_cons_succ, List.getElem?_append_right (by omega), show a.length + (b.length + 3) - a.length = b.length + 3 by omega, List.getElem?_cons_succ, List.getElem?_cons_succ, List.getElem?_cons_succ]; simp
  have h0 : t[0]? = some 40 := by subst ht; rfl
  rw [ht] at hlen ⊢
  have hn : t[0 + a.length + 2 + 1 + b.length + 2]? = none := List.getElem?_eq_none_iff.2 (by omega)
  clear ht
  refine tree_of (by omega) ?_
  rw [hlen, show 3 * (a.length + b.length + 5) + 3 = (3 * a.length + 3 * b.length + 15) + 3 by omega]
  have hE : Emb a t (0 + 1) := ⟨hat, .inr h41, by omega⟩
  have hE2 : Emb b t (0 + a.length + 2 + 1 + 1) := ⟨hbt, .inr hb41, by omega⟩
  rw [alts, row_group (g := 3 * a.length + 3 * b.length + 15) [] hE h0 h41 hr (by omega), h124, if_neg (by decide), if_neg (by decide), if_neg (by decide), row_end _ (.inr (.inl h124))]
  simp only []
  rw [h124, if_pos rfl, show 3 * a.length + 3 * b.length + 15 + 2 = (3 * a.length + 3 * b.length + 14) + 3 by omega, alts]
  rw [row_group (g := 3 * a.length + 3 * b.length + 14) [] hE2 h40 hb41 hr2 (by omega), hn, if_neg (by simp), if_neg (by simp), if_neg (by simp), row_end _ (.inl hn)]
  simp only []
  rw [hn, if_neg (by simp)]
  simp [joined]; omega

/-- a sign ahead of each byte -/
def esc (s : List UInt8) : List UInt8 := s.flatMap fun c => [92, c]
theorem esc_len (s : List UInt8) : (esc s).length = 2 * s.length := by
  induction s with
  | nil => rfl
  | cons c r ih => simp only [esc, List.flatMap_cons, List.length_append, List.length_cons, List.length_nil] at ih ⊢; omega
theorem esc_snoc (s : List UInt8) (c : UInt8) : esc (s ++ [c]) = esc s ++ [92, c] := by simp [esc]
theorem esc_even : ∀ (s : List UInt8) (i : Nat), i < s.length → (esc s)[2 * i]? = some 92
  | [], i, h => by simp at h
  | c :: r, 0, _ => rfl
  | c :: r, i + 1, h => by
    rw [show 2 * (i + 1) = 2 * i + 1 + 1 by omega]; simp only [esc, List.flatMap_cons, List.cons_append, List.nil_append, List.getElem?_cons_succ]
    exact esc_even r i (by simpa using h)
theorem esc_odd : ∀ (s : List UInt8) (i : Nat), (esc s)[2 * i + 1]? = s[i]?
  | [], i => by simp [esc]
  | c :: r, 0 => rfl
  | c :: r, i + 1 => by
    rw [show 2 * (i + 1) + 1 = (2 * i + 1) + 1 + 1 by omega]; simp only [esc, List.flatMap_cons, List.cons_append, List.nil_append, List.getElem?_cons_succ]
    exact esc_odd r i

def lits (s : List UInt8) : List T := s.map fun c => one c.toNat

theorem globL_esc : ∀ s : List UInt8, globL (esc s) = some (lits s)
  | [] => by simp [esc, globL, lits]
  | c :: r => by
    have := globL_esc r
    simp only [esc, List.flatMap_cons, List.cons_append, List.nil_append] at this ⊢
    rw [globL, if_pos rfl, this]; rfl
theorem globL_bare : ∀ s : List UInt8, (∀ c ∈ s, c ≠ 42 ∧ c ≠ 63 ∧ c ≠ 92) → globL s = some (lits s)
  | [], _ => by simp [globL, lits]
  | [c], h => by
    obtain ⟨h1, h2, h3⟩ := h c (by simp)
    rw [globL, if_neg h3, if_neg h1, if_neg h2]; rfl
  | c :: d :: r, h => by
    obtain ⟨h1, h2, h3⟩ := h c (by simp)
    rw [globL, if_neg h3, if_neg h1, if_neg h2, globL_bare (d :: r) (fun x hx => h x (by simp at hx ⊢; exact .inr hx))]; rfl

theorem row_esc (s : List UInt8) : ∀ (d i g : Nat) (acc : List T), s.length - i = d → i ≤ s.length → 2 * d + 2 ≤ g → row g (esc s) (2 * i) acc = .ok (joined 3 (acc ++ lits (s.drop i))) (2 * s.length)
  | 0, i, g, acc, hd, hi, hg => by
    obtain rfl : i = s.length := by omega
    obtain ⟨g, rfl⟩ : ∃ g', g = g' + 1 := ⟨g - 1, by omega⟩
    rw [row_end _ (.inl (List.getElem?_eq_none_iff.2 (by rw [esc_len]; omega)))]
    simp [lits]
  | d + 1, i, g, acc, hd, hi, hg => by
    obtain ⟨g, rfl⟩ : ∃ g', g = g' + 2 := ⟨g - 2, by omega⟩
    have hlt : i < s.length := by omega
    have h1 := esc_even s i hlt
    have h2 : (esc s)[2 * i + 1]? = some s[i] := by rw [esc_odd]; exact List.getElem?_eq_getElem hlt
    have ha : atom (g + 1) (esc s) (2 * i) = .ok (one s[i].toNat) (2 * i + 2) := by
      simp only [atom, h1]
      rw [if_neg (by decide), if_neg (by decide), if_neg (by decide), if_pos (by decide), h2]
    have h3 : (esc s)[2 * i + 2]? ≠ some 42 ∧ (esc s)[2 * i + 2]? ≠ some 43 ∧ (esc s)[2 * i + 2]? ≠ some 63 := by
      rw [show 2 * i + 2 = 2 * (i + 1) by omega]
      by_cases hlt2 : i + 1 < s.length
      · rw [esc_even s (i + 1) hlt2]; decide
      · rw [List.getElem?_eq_none_iff.2 (by rw [esc_len]; omega)]; simp
    rw [row, h1, if_neg (by decide), ha]
    simp only []
    rw [if_neg h3.1, if_neg h3.2.1, if_neg h3.2.2, show 2 * i + 2 = 2 * (i + 1) by omega, row_esc s d (i + 1) (g + 1) _ (by omega) (by omega) (by omega)]
    rw [List.append_assoc, List.drop_eq_getElem_cons hlt]
    rfl

/-- a sign ahead of each byte: the text itself -/
theorem tree_lit {s : List UInt8} (h : s.length ≤ 64) : tree 1 s = .ok (joined 3 (lits s)) := by
  unfold tree; rw [if_neg (by omega), if_neg (by omega), if_pos rfl]; rfl
theorem tree_esc_glob {s : List UInt8} (h : s.length ≤ 32) : tree 2 (esc s) = .ok (joined 3 (lits s)) := by
  unfold tree; rw [if_neg (by omega), if_neg (by rw [esc_len]; omega), if_neg (by omega), if_pos rfl, globL_esc]
theorem tree_esc_re {s : List UInt8} (h : s.length ≤ 32) : tree 3 (esc s) = .ok (joined 3 (lits s)) := by
  refine tree_of (by rw [esc_len]; omega) ?_
  rw [esc_len, show 3 * (2 * s.length) + 3 = (6 * s.length + 2) + 1 by omega, alts]
  have := row_esc s s.length 0 (6 * s.length + 2) [] (by omega) (by omega) (by omega)
  rw [Nat.mul_zero] at this
  rw [this]
  simp only []
  rw [if_neg (by rw [List.getElem?_eq_none_iff.2 (by rw [esc_len]; omega)]; simp)]
  simp [joined]
theorem tree_bare {s : List UInt8} (h : s.length ≤ 64) (hb : ∀ c ∈ s, c ≠ 42 ∧ c ≠ 63 ∧ c ≠ 92) : tree 2 s = .ok (joined 3 (lits s)) := by
  unfold tree; rw [if_neg (by omega), if_neg (by omega), if_neg (by omega), if_pos rfl, globL_bare s hb]

end Go.Proofs.YtfhggnbnbopkkaaDoor.PM
