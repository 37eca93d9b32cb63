/- Trees in memory. -/
import Derived.Test.YtfhggnbnbopkkaaDoorPatTree
import Derived.Test.YtfhggnbnbopkkaaDoorBytes
import Derived.Deep.QuietTactic
import Derived.BigQuiet
import Derived.StillTailTactics
import Derived.Laws.Rows
import Derived.Laws.BitsAllLaws
import Derived.Deep.AppendLies
namespace Go.Proofs.YtfhggnbnbopkkaaDoor
open Go.RowKit

abbrev TN : TypeId := 66
abbrev TNs : TypeId := 64
abbrev TB : TypeId := 63
abbrev TSp : TypeId := 68

theorem below_new (w : World) (o : Obj) : Below w.heap.size w (w.alloc o) := (Below.refl _ _).alloc (Nat.le_refl _) _
theorem below_then {B : Nat} {w a b : World} (h : Below B w a) (hg : Below a.heap.size a b) (hB : B ≤ w.heap.size) : Below B w b := h.trans (hg.mono (Nat.le_trans hB h.size))
theorem grown_below {w w' : World} (hb : Below w.heap.size w w') (r : Option Nat) : w.grownBy w' r := ⟨hb.os, hb.tape, hb.output, hb.size, fun k hk _ => hb.block k hk⟩

namespace PM
/-- a number whose bits are given -/
def bitsOf (p : Nat → Bool) : Nat → Nat
  | 0 => 0
  | n + 1 => bitsOf p n + if p n then 2 ^ n else 0
/-- a set's word -/
def word (p : Nat → Bool) (i : Nat) : Nat := bitsOf (fun k => p (64 * i + k)) 64

theorem bitsOf_lt (p : Nat → Bool) : ∀ n, bitsOf p n < 2 ^ n
  | 0 => by simp [bitsOf]
  | n + 1 => by
    have := bitsOf_lt p n
    simp only [bitsOf, Nat.pow_succ]
    split <;> omega
theorem bitsOf_test (p : Nat → Bool) : ∀ n k, (bitsOf p n).testBit k = (decide (k < n) && p k)
  | 0, k => by simp [bitsOf]
  | n + 1, k => by
    have hlt := bitsOf_lt p n
    simp only [bitsOf]
    by_cases hp : p n = true
    · rw [if_pos hp, Nat.add_comm]
      rcases Nat.lt_trichotomy k n with h | h | h
      · rw [Nat.testBit_two_pow_add_gt h, bitsOf_test p n k]
        simp [h, Nat.lt_succ_of_lt h]
      · subst h
        rw [Nat.testBit_two_pow_add_eq, bitsOf_test p k k]
        simp [hp]
      · have : 2 ^ n + bitsOf p n < 2 ^ k := Nat.lt_of_lt_of_le (by rw [Nat.pow_succ]; omega) (Nat.pow_le_pow_right (by omega) (show n + 1 ≤ k from h))
        rw [Nat.testBit_lt_two_pow this]
        have : ¬ k < n + 1 := by omega
        simp [this]
    · have hp' : p n = false := by simpa using hp
      rw [if_neg hp, Nat.add_zero, bitsOf_test p n k]
      rcases Nat.lt_trichotomy k n with h | h | h
      · simp [h, Nat.lt_succ_of_lt h]
      · subst h; simp [hp']
      · have h1 : ¬ k < n + 1 := by omega
        have h2 : ¬ k < n := by omega
        simp [h1, h2]
theorem word_lt (p : Nat → Bool) (i : Nat) : word p i < 18446744073709551616 := bitsOf_lt _ 64
theorem word_test (p : Nat → Bool) (i k : Nat) : (word p i).testBit k = (decide (k < 64) && p (64 * i + k)) := bitsOf_test _ 64 k
theorem word_eq {p : Nat → Bool} {i n : Nat} (h : ∀ k, n.testBit k = (decide (k < 64) && p (64 * i + k))) : n = word p i :=
  Nat.eq_of_testBit_eq fun k => by rw [h, word_test]
theorem word_congr {p q : Nat → Bool} {i : Nat} (h : ∀ k, k < 64 → p (64 * i + k) = q (64 * i + k)) : word p i = word q i :=
  word_eq fun k => by rw [word_test]; by_cases hk : k < 64 <;> simp [hk, h]
end PM
open PM

/-- a node's cells, its kids' slice given -/
def nodeC (t : T) (K : Value) : List Value := [.int .i64 t.op, .int .u64 (word t.set 0), .int .u64 (word t.set 1), .int .u64 (word t.set 2), .int .u64 (word t.set 3), K]
def nodeV (t : T) (K : Value) : Value := .agg (nodeC t K).toArray

/-- this slice is the kids' of a tree; its rows lie in blocks that p says -/
inductive IsT (w : World) (p : Nat → Prop) : Value → T → Prop
  | mk (op : Nat) (set : Nat → Bool) (kids : List T) (A : Option Addr) (c : Nat) (ks : Nat → Value)
    (hA : kids ≠ [] → ∃ g o, A = some ⟨g, o, none⟩ ∧ p g ∧ g < w.heap.size ∧ ∀ i t j v, kids[i]? = some t → (nodeC t (ks i))[j]? = some v → w.cell? ⟨g, o + i * 6 + j, none⟩ = some v)
    (hk : ∀ i t, kids[i]? = some t → IsT w p (ks i) t) (hc : kids.length ≤ c) : IsT w p (.slice A kids.length c) (.mk op set kids)

theorem IsT.keep {w w' : World} {p q : Nat → Prop} {K : Value} {t : T} (h : IsT w p K t) (hs : w.heap.size ≤ w'.heap.size) (hb : ∀ b, p b → b < w.heap.size → w'.heap[b]? = w.heap[b]?) (hp : ∀ b, p b → b < w.heap.size → q b) : IsT w' q K t := by
  induction h with
  | mk op set kids A c ks hA hk hc ih =>
    refine .mk op set kids A c ks (fun hne => ?_) (fun i t ht => ih i t ht) hc
    obtain ⟨g, o, h1, h2, h3, h4⟩ := hA hne
    exact ⟨g, o, h1, hp g h2 h3, by omega, fun i t j v ht hv => (World.cell?_of_block (a := ⟨g, _, none⟩) (hb g h2 h3)).trans (h4 i t j v ht hv)⟩

theorem IsT.on {w w' : World} {p : Nat → Prop} {K : Value} {t : T} (h : IsT w p K t) (hb : Below w.heap.size w w') : IsT w' p K t := h.keep hb.size (fun b _ hl => hb.block b hl) (fun _ h _ => h)
theorem IsT.grown {w w' : World} {p : Nat → Prop} {K : Value} {t : T} {r : Option Nat} (h : IsT w p K t) (hg : w.grownBy w' r) (hr : ∀ b, p b → some b ≠ r) : IsT w' p K t := h.keep hg.size (fun b hp hl => hg.block b hl (hr b hp)) (fun _ h _ => h)
theorem IsT.imp {w : World} {p q : Nat → Prop} {K : Value} {t : T} (h : IsT w p K t) (hp : ∀ b, p b → b < w.heap.size → q b) : IsT w q K t := h.keep (Nat.le_refl _) (fun _ _ _ => rfl) hp
theorem IsT.nil {w : World} {p : Nat → Prop} (op : Nat) (set : Nat → Bool) : IsT w p (.slice none 0 0) (.mk op set []) := .mk op set [] none 0 (fun _ => undef) (fun h => absurd rfl h) (fun i t h => by simp at h) (Nat.le_refl _)
theorem IsT.cap {w : World} {p : Nat → Prop} {A : Option Addr} {n c : Nat} {t : T} (h : IsT w p (.slice A n c) t) : t.kids.length ≤ c := by
  cases h with | mk op set kids A c ks hA hk hc => exact hc

theorem nodeC_len (t : T) (K : Value) : (nodeC t K).length = 6 := rfl

/-- the cells of a row of nodes -/
def rowC (ps : List (T × Value)) : List Value := ps.flatMap fun q => nodeC q.1 q.2
theorem rowC_len (ps : List (T × Value)) : (rowC ps).length = ps.length * 6 := by
  induction ps with
  | nil => rfl
  | cons q r ih => simp only [rowC, List.flatMap_cons, List.length_append, nodeC_len, List.length_cons] at ih ⊢; omega
theorem rowC_get : ∀ (ps : List (T × Value)) (i : Nat) (q : T × Value) (j : Nat) (v : Value), ps[i]? = some q → (nodeC q.1 q.2)[j]? = some v → (rowC ps)[i * 6 + j]? = some v
  | [], i, q, j, v, h, _ => by simp at h
  | p :: r, 0, q, j, v, h, hv => by
    simp only [List.getElem?_cons_zero, Option.some.injEq] at h
    subst h
    have hj : j < (nodeC p.1 p.2).length := (List.getElem?_eq_some_iff.1 hv).1
    simp only [rowC, List.flatMap_cons, Nat.zero_mul, Nat.zero_add]
    rw [List.getElem?_append_left hj]; exact hv
  | p :: r, i + 1, q, j, v, h, hv => by
    have := rowC_get r i q j v (by simpa using h) hv
    simp only [rowC, List.flatMap_cons] at this ⊢
    rw [List.getElem?_append_right (by rw [nodeC_len]; omega), nodeC_len, show (i + 1) * 6 + j - 6 = i * 6 + j by omega]; exact this
theorem rowC_snoc (ps : List (T × Value)) (q : T × Value) : rowC (ps ++ [q]) = rowC ps ++ nodeC q.1 q.2 := by simp [rowC]

/-- a slice of nodes of the call's own, from block B on -/
structure Kids (w : World) (B : Nat) (v : Value) (ps : List (T × Value)) : Prop where
  own : w.ownsRow B TN 6 v ps.length (rowC ps)
  each : ∀ q ∈ ps, IsT w (fun b => B ≤ b ∧ v.ownBlock ≠ some b) q.2 q.1

theorem Kids.nil (w : World) (B : Nat) : Kids w B (.slice none 0 0) [] := ⟨World.ownsRow_nil _ _ _ _, fun q h => by simp at h⟩

theorem Kids.grown {w w' : World} {B : Nat} {v : Value} {ps : List (T × Value)} {g : Option Nat} (h : Kids w B v ps) (hg : w.grownBy w' g) (hgB : ∀ k, g = some k → k < B) : Kids w' B v ps := by
  refine ⟨h.own.kept hg ?_, fun q hq => (h.each q hq).grown hg fun b hb e => ?_⟩
  · cases hv : v.ownBlock with
    | none => exact .inl rfl
    | some k =>
      refine .inr fun e => ?_
      have := (h.own.lt k hv).1
      have := hgB k e.symm
      omega
  · have := hgB b e.symm; have := hb.1; omega
theorem Kids.on {w w' : World} {B : Nat} {v : Value} {ps : List (T × Value)} (h : Kids w B v ps) (hb : Below w.heap.size w w') : Kids w' B v ps := h.grown (grown_below hb none) (fun k e => by cases e)

/-- .. as a node's kids -/
theorem Kids.node {w : World} {B : Nat} {v : Value} {ps : List (T × Value)} (h : Kids w B v ps) (op : Nat) (set : Nat → Bool) : IsT w (fun b => B ≤ b) v (.mk op set (ps.map (·.1))) := by
  have hks : ∀ i t, (ps.map (·.1))[i]? = some t → ∃ q : T × Value, ps[i]? = some q ∧ q.1 = t := fun i t ht => by
    rw [List.getElem?_map] at ht
    cases hq : ps[i]? with
    | none => rw [hq] at ht; simp at ht
    | some q => rw [hq] at ht; simp at ht; exact ⟨q, by first | exact hq | rfl, ht⟩
  have hk : ∀ i t, (ps.map (·.1))[i]? = some t → IsT w (fun b => B ≤ b) (((ps[i]?).map fun q : T × Value => q.2).getD undef) t := fun i t ht => by
    obtain ⟨q, hq, rfl⟩ := hks i t ht
    rw [hq]
    exact (h.each q (List.mem_of_getElem? hq)).imp fun b hb _ => hb.1
  rcases h.own.2 with ⟨rfl, h0⟩ | ⟨g, cap, cur, rfl, hB, hg, hn, _, hsz, htk⟩
  · obtain rfl : ps = [] := List.length_eq_zero_iff.1 h0
    exact IsT.nil op set
  · have := IsT.mk (w := w) (p := fun b => B ≤ b) op set (ps.map (·.1)) (some ⟨g, 0, none⟩) cap _ (fun _ => ⟨g, 0, rfl, hB, (Array.getElem?_eq_some_iff.1 hg).1, fun i t j v ht hv => ?_⟩) hk (by rw [List.length_map]; exact hn)
    · rwa [List.length_map] at this
    · obtain ⟨q, hq, rfl⟩ := hks i t ht
      rw [hq] at hv
      have := rowC_get ps i q j v hq hv
      rw [cell_of_row w g _ cur _ (0, 0) hg]
      rw [← htk, List.getElem?_take] at this
      split at this
      · simpa using this
      · cases this

theorem info_node : (Tryd.prog.info? TN).map (fun i => (i.zero, i.size, i.bytes)) = some (some (.agg #[.int .i64 0, .int .u64 0, .int .u64 0, .int .u64 0, .int .u64 0, .slice none 0 0]), 6, 64) := by kernel_rfl

theorem nodeC_one (t : T) (K : Value) (hK : K.oneCell' = true) : ∀ u ∈ nodeC t K, u.oneCell' = true := by
  intro u hu
  simp only [nodeC, List.mem_cons, List.not_mem_nil, or_false] at hu
  rcases hu with rfl | rfl | rfl | rfl | rfl | rfl <;> first | rfl | exact hK

theorem IsT.slice {w : World} {p : Nat → Prop} {K : Value} {t : T} (h : IsT w p K t) : ∃ A c, K = .slice A t.kids.length c := by
  cases h with | mk op set kids A c => exact ⟨A, c, rfl⟩
theorem IsT.one {w : World} {p : Nat → Prop} {K : Value} {t : T} (h : IsT w p K t) : K.oneCell' = true := by
  obtain ⟨A, c, rfl⟩ := h.slice; rfl

/-- a node is appended to a slice of the call's own -/
theorem wpList_append_node {w : World} {ops : Array Oper} {rest : List Oper} {o : Oper} {a : Act} {Q : Exit → Act → World → Prop} (hgd : o.guard = none) (s x : Operand)
    (ho : o.op = .call { callee := .builtin .append, args := #[s, x], argTypes := #[TNs, TNs] }) (B : Nat) (v : Value) (ps : List (T × Value)) (hs : a.eval s = v) (hk : Kids w B v ps)
    (t : T) (K : Value) (ad : Nat) (had : w.heap.size = ad) (hx : a.eval x = .slice (some ⟨ad, 0, none⟩) 1 1) (hK : IsT w (fun b => B ≤ b ∧ v.ownBlock ≠ some b) K t) (hlen : ps.length ≤ 1000000) (hB : B ≤ w.heap.size)
    (h : ∀ v' w', Kids w' B v' (ps ++ [(t, K)]) → Below B w w' → w.heap.size ≤ w'.heap.size → wpList Tryd.prog ops Q rest (a.put o.dst v') w') : wpList Tryd.prog ops Q (o :: rest) a (w.alloc (.cells (nodeC t K).toArray TN)) := by
  obtain ⟨i0, hi, hz0, hz1, hz2⟩ := info_parts info_node
  subst had
  refine wpList_append_lies _ hgd s x TNs ho B TN i0 _ 6 64 Tryd.underlying64 hi hz0 hz1 hz2 rfl (by decide) v ps.length (rowC ps) hs (hk.own.alloc _) ⟨w.heap.size, 0, none⟩ 1 1 (nodeC t K) hx rfl
    (World.news_of_block (heap_alloc_new w _)) (nodeC_one t K hK.one) (by decide) (by unfold maxLen; omega) (by omega) (by simp; omega) (w.heap.size + 1) (by simp) ?_
  intro g cap w1 hown hgr hat hlt
  have hgr0 : w.grownBy w1 v.ownBlock := ⟨hgr.os, hgr.tape, hgr.output, by have := hgr.size; simp at this; omega, fun k hk2 hne => (hgr.block k (by simp; omega) hne).trans (heap_alloc_old w _ hk2)⟩
  have hwB : ∀ k, v.ownBlock = some k → B ≤ k ∧ k < w.heap.size := hk.own.lt
  have hne : ∀ b, b < w.heap.size → v.ownBlock ≠ some b → (Value.slice (some ⟨g, 0, none⟩) (ps.length + 1) cap).ownBlock ≠ some b := fun b hb hvb e => by
    simp only [Value.ownBlock, Option.some.injEq] at e
    subst e
    rcases hat with h1 | h1
    · exact hvb h1
    · omega
  refine h _ w1 ⟨?_, fun q hq => ?_⟩ (((Below.refl B w).trans ?_)) hgr0.size
  · rw [rowC_snoc, List.length_append, List.length_singleton]; exact hown
  · rw [List.mem_append, List.mem_singleton] at hq
    have hq' : IsT w (fun b => B ≤ b ∧ v.ownBlock ≠ some b) q.2 q.1 := by
      rcases hq with hq | rfl
      · exact hk.each q hq
      · exact hK
    exact hq'.keep hgr0.size (fun b hb hl => hgr0.block b hl (fun e => hb.2 e.symm)) (fun b hb hl => ⟨hb.1, hne b hl hb.2⟩)
  · exact ⟨hgr0.os, hgr0.tape, hgr0.output, hgr0.size, fun k hkB => hgr0.block k (by omega) (fun e => by have := hwB k e.symm; omega)⟩

end Go.Proofs.YtfhggnbnbopkkaaDoor
