/- A pattern's text, in plain words. -/
import Derived.Test.YtlfhjmdbkifciaaPatQuoted
namespace Go.Proofs.Ytlfhjmdbkifciaa.PM

def globW : List UInt8 := [103, 108, 111, 98, 32]
def reW : List UInt8 := [114, 101, 32]

/-- where a text leaves a word -/
def off : List UInt8 → List UInt8 → Nat → Option Nat
  | [], _, _ => none
  | _ :: _, [], k => some k
  | c :: w, d :: t, k => if d = c then off w t (k + 1) else some k

inductive Pre where
  | at (kind : Nat) (from' : Nat)
  | bad (k : Nat)

/-- one word tried -/
def preOne (w s : List UInt8) (i : Nat) (old : Pre) : Pre :=
  match old with
  | .bad k => .bad k
  | .at a b => if s.head? = w.head? then (match off w s 0 with | some k => .bad k | none => .at (i + 2) w.length) else .at a b
def pre (s : List UInt8) : Pre := preOne reW s 1 (preOne globW s 0 (.at 1 0))

/-- what Parse tells -/
inductive PR where
  | ok (kind : Nat) (text : List UInt8)
  | bad (err at' : Nat)

def parseAt (kind a : Nat) (s : List UInt8) : PR :=
  match scan (-1) s a with
  | .wrong k => .bad 6 k
  | .long k => .bad 3 k
  | .ok out pl =>
    if pl.getLastD 0 + 1 < s.length then .bad 6 (pl.getLastD 0 + 1)
    else match tree kind out with
      | .ok _ => .ok kind out
      | .arg => .bad 2 (pl.getD 0 0)
      | .long => .bad 3 (pl.getD 64 0)
      | .bad k => .bad 6 (pl.getD k 0)
def parse (s : List UInt8) : PR :=
  match pre s with
  | .bad k => .bad 6 k
  | .at kind a => parseAt kind a s

theorem scanL_not_long : ∀ (f : Nat) (l : List UInt8) (a : Nat) (out : List UInt8) (pl : List Nat) (k : Nat), scanL (-1) f l a out pl ≠ .long k
  | 0, l, a, out, pl, k, h => by simp [scanL] at h
  | f + 1, l, a, out, pl, k, h => by
    simp only [scanL] at h
    split at h
    · omega
    · split at h
      · cases h
      · split at h
        · exact scanL_not_long f _ _ _ _ _ h
        · cases h
theorem scan_not_long (s : List UInt8) (a k : Nat) : scan (-1) s a ≠ .long k := by
  unfold scan; split
  · exact scanL_not_long _ _ _ _ _ _
  · simp

theorem pre_at {s : List UInt8} {k a : Nat} (h : pre s = .at k a) : (k = 1 ∧ a = 0) ∨ (k = 2 ∧ a = 5 ∧ 5 ≤ s.length) ∨ (k = 3 ∧ a = 3 ∧ 3 ≤ s.length) := by
  unfold pre preOne at h
  have hoff : ∀ (w s : List UInt8) (k : Nat), off w s k = none → w.length ≤ s.length := by
    intro w
    induction w with
    | nil => intro s k _; simp
    | cons c w ih =>
      intro s k h
      cases s with
      | nil => simp [off] at h
      | cons d t =>
        simp only [off] at h
        split at h
        · have := ih t _ h; simp; omega
        · cases h
  split at h
  · cases h
  · rename_i a' b' he
    split at h
    · split at h
      · cases h
      · rename_i ho; cases h; exact .inr (.inr ⟨rfl, rfl, hoff _ _ _ ho⟩)
    · cases h
      simp only [] at he
      split at he
      · split at he
        · cases he
        · rename_i ho; cases he; exact .inr (.inl ⟨rfl, rfl, hoff _ _ _ ho⟩)
      · cases he; exact .inl ⟨rfl, rfl⟩

theorem tree_bad_le {kind : Int} {s : List UInt8} {k : Nat} (h : tree kind s = .bad k) : k ≤ s.length := by
  unfold tree at h
  split at h
  · cases h
  · split at h
    · cases h
    · split at h
      · cases h
      · split at h
        · split at h
          · cases h; exact Nat.le_refl _
          · cases h
        · split at h
          · rename_i hb; cases h; exact (read_bad s _).1 _ _ _ hb (Nat.zero_le _)
          · split at h
            · cases h; omega
            · cases h
theorem tree_long {kind : Int} {s : List UInt8} (h : tree kind s = .long) : 64 < s.length := by
  unfold tree at h
  split at h
  · cases h
  · split at h
    · assumption
    · split at h
      · cases h
      · split at h
        · split at h <;> cases h
        · split at h
          · cases h
          · split at h <;> cases h
end Go.Proofs.Ytlfhjmdbkifciaa.PM
