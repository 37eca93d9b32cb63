/- Several matchers side by side. -/
import Derived.Test.YtfhggnbnbopkkaaDoorMatCopy
import Derived.Test.YtfhggnbnbopkkaaDoorMatPieces
namespace Go.Proofs.YtfhggnbnbopkkaaDoor
open Go.RowKit PM

set_option maxRecDepth 100000
/-- a matcher, and what it has kept -/
structure MS where
  x : Mx
  arms : List Arm
  K : List UInt8
  R : List Rw
  bv : Value
def MS.Own (m : MS) (k : Nat) : Prop := OwnM m.x m.R m.bv k
structure Fam (w W : World) (L : List MS) : Prop where
  up : Below w.heap.size w W
  ma : ∀ (i : Nat) m, L[i]? = some m → MaIs W m.x m.arms m.K m.K m.R m.bv ∧ m.K.length ≤ 256 ∧ ∀ k, m.Own k → w.heap.size ≤ k
  ap : ∀ (i j : Nat) m m' k, L[i]? = some m → L[j]? = some m' → i ≠ j → m.Own k → ¬ m'.Own k
theorem Fam.on {w W W' : World} {L : List MS} (h : Fam w W L) (hb : Below W.heap.size W W') : Fam w W' L :=
  ⟨below_then h.up hb (Nat.le_refl _), fun i m hm => ⟨(h.ma i m hm).1.on hb, (h.ma i m hm).2⟩, h.ap⟩
theorem Fam.add {w W W' : World} {L : List MS} {m : MS} (h : Fam w W L) (hb : Below W.heap.size W W') (hm : MaIs W' m.x m.arms m.K m.K m.R m.bv) (hKl : m.K.length ≤ 256) (hg : ∀ k, m.Own k → W.heap.size ≤ k) : Fam w W' (L ++ [m]) := by
  have h2 := h.on hb
  have hcase : ∀ (i : Nat) q, (L ++ [m])[i]? = some q → L[i]? = some q ∨ (i = L.length ∧ q = m) := fun i q hq => by
    by_cases hi : i < L.length
    · rw [List.getElem?_append_left hi] at hq; exact .inl hq
    · rw [List.getElem?_append_right (by omega)] at hq
      obtain ⟨hl, he⟩ := List.getElem?_eq_some_iff.1 hq
      simp at hl he
      exact .inr ⟨by omega, he.symm⟩
  have hold : ∀ (i : Nat) q k, L[i]? = some q → q.Own k → k < W.heap.size := fun i q k hq hk => (h.ma i q hq).1.lt hk
  refine ⟨h2.up, fun i q hq => ?_, fun i j q q' k hq hq' hij hk hk' => ?_⟩
  · rcases hcase i q hq with hq1 | ⟨_, rfl⟩
    · exact h2.ma i q hq1
    · exact ⟨hm, hKl, fun k hk => Nat.le_trans h.up.size (hg k hk)⟩
  · rcases hcase i q hq with hq1 | ⟨e1, rfl⟩
    · rcases hcase j q' hq' with hq2 | ⟨_, rfl⟩
      · exact h.ap i j q q' k hq1 hq2 hij hk hk'
      · have := hold i q k hq1 hk
        have := hg k hk'
        omega
    · rcases hcase j q' hq' with hq2 | ⟨e2, rfl⟩
      · have := hold j q' k hq2 hk'
        have := hg k hk
        omega
      · omega
theorem Fam.turn {w W W' : World} {L : List MS} {i : Nat} {m m' : MS} (h : Fam w W L) (hi : L[i]? = some m) (ht : TurnsP m.Own W W') (hm : MaIs W' m'.x m'.arms m'.K m'.K m'.R m'.bv) (hKl : m'.K.length ≤ 256) (hf : ∀ k, m'.Own k → k < W.heap.size → m.Own k) : Fam w W' (L.set i m') := by
  have hB := h.up.size
  obtain ⟨hm0, _, hg0⟩ := h.ma i m hi
  have hil := (List.getElem?_eq_some_iff.1 hi).1
  have hcase : ∀ (j : Nat) q, (L.set i m')[j]? = some q → (j = i ∧ q = m') ∨ (j ≠ i ∧ L[j]? = some q) := fun j q hq => by
    by_cases e : j = i
    · subst e
      rw [List.getElem?_set_self hil] at hq
      cases hq; exact .inl ⟨rfl, rfl⟩
    · rw [List.getElem?_set_ne (Ne.symm e)] at hq
      exact .inr ⟨e, hq⟩
  have hap : ∀ (j : Nat) q k, j ≠ i → L[j]? = some q → q.Own k → ¬ m'.Own k := fun j q k hj hq hk hk' => by
    have hl := (h.ma j q hq).1.lt hk
    exact h.ap j i q m k hq hi hj hk (hf k hk' hl)
  refine ⟨below_turned h.up hB ht hg0, fun j q hq => ?_, fun j j' q q' k hq hq' hjj hk hk' => ?_⟩
  · rcases hcase j q hq with ⟨_, rfl⟩ | ⟨hj, hq1⟩
    · refine ⟨hm, hKl, fun k hk => ?_⟩
      by_cases hkl : k < W.heap.size
      · exact hg0 k (hf k hk hkl)
      · omega
    · obtain ⟨h1, h2, h3⟩ := h.ma j q hq1
      exact ⟨h1.other hm0 ht fun k hk => h.ap j i q m k hq1 hi hj hk, h2, h3⟩
  · rcases hcase j q hq with ⟨e1, rfl⟩ | ⟨hj, hq1⟩
    · rcases hcase j' q' hq' with ⟨e2, rfl⟩ | ⟨hj', hq2⟩
      · omega
      · exact hap j' q' k hj' hq2 hk' hk
    · rcases hcase j' q' hq' with ⟨_, rfl⟩ | ⟨hj', hq2⟩
      · exact hap j q k hj hq1 hk hk'
      · exact h.ap j j' q q' k hq1 hq2 hjj hk hk'
/-- a text is taken whole -/
theorem fam_all {w W : World} {L : List MS} {i : Nat} {m : MS} (h : Fam w W L) (hi : L[i]? = some m) (s : ByteArray) (hs : s.size ≤ 100000) :
    Calls Tryd.prog 24 #[.pointer (some ⟨m.x.mb, 0, none⟩), .slice (some ⟨W.heap.size, 0, none⟩) 1 1] (W.alloc (.cells #[.string s] 9)) fun e w' => ∃ v F K' n R' bv', e = .returned (.tuple #[v, .bool true]) ∧ Fam w w' (L.set i ⟨m.x, m.arms, K', R', bv'⟩) ∧
      runR (trees m.arms) ([], m.K, 0) s.data.toList = (F, K', n) ∧ w'.ownsRow W.heap.size TFd 4 v F.length (fdsC F) ∧ F.length ≤ 1000000 ∧ ∀ base v' F', W.ownsRow base TFd 4 v' F'.length (fdsC F') → w'.ownsRow base TFd 4 v' F'.length (fdsC F') := by
  have hb := below_new W (.cells #[.string s] 9)
  have hn := heap_alloc_new W (.cells #[.string s] 9)
  have h2 := h.on hb
  obtain ⟨hm, hK, hg⟩ := h2.ma i m hi
  have hA := all_any m.x m.arms m.K m.R m.bv (some ⟨W.heap.size, 0, none⟩) 1 [s] _ hm hK (fun w' ht => ⟨fun k s' hk => by
    rcases k with _ | k
    · cases hk
      have hbk := (ht.block W.heap.size (lt_of_block hn) (hm.not hn (by unfold OwnTy; decide))).trans hn
      exact ⟨_, rfl, by rw [Addr.add_lit, Nat.zero_add, cell_of_row _ _ _ _ _ _ hbk]; rfl⟩
    · cases hk⟩) (by show 1 ≤ 9223372036854775806; decide) (by rw [strs_bytes]; exact hs)
  refine hA.mono ?_
  rintro e w' ⟨v, F, K', n, R', bv', rfl, hI⟩
  have hrun := hI.run
  rw [strs_bytes] at hrun
  refine ⟨v, F, K', n, R', bv', rfl, h2.turn hi hI.tp hI.ma hI.len hI.fr, hrun, hI.own.mono (by rw [World.size_alloc]; omega), ?_, fun base v' F' hv => own_keep hv fun g hg => ?_⟩
  · have h1 := run_many (trees m.arms) s.data.toList ([], m.K, 0)
    rw [hrun] at h1
    have : s.data.toList.length = s.size := rfl
    simp at h1
    omega
  · obtain ⟨cs, hc⟩ := own_typed hv hg
    have hc2 := (hb.block g (lt_of_block hc)).trans hc
    exact (hI.tp.block g (lt_of_block hc2) (hm.not hc2 fd_ty)).trans (hb.block g (lt_of_block hc))
end Go.Proofs.YtfhggnbnbopkkaaDoor
