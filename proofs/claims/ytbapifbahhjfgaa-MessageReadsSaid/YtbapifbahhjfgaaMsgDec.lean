/- What message.Decode computes, in plain words; its places in memory. -/
import Derived.Test.YtbapifbahhjfgaaMsgEncode
import Derived.Laws.BitsAllLaws
namespace Go.Proofs.Ytbapifbahhjfgaa
open Go.RowKit

def p63 : Nat := 9223372036854775808

def numsR (l : List UInt8) : Nat → WM.St → (Nat → Int) × WM.St
  | 0, st => (fun _ => 0, st)
  | k + 1, st => (fun i => if i = k then (((WM.num l 8 (numsR l k st).2).1 % p63 : Nat) : Int) else (numsR l k st).1 i, (WM.num l 8 (numsR l k st).2).2)

def entsR (l : List UInt8) : Nat → WM.St → List (Int × ByteArray) × WM.St
  | 0, st => ([], st)
  | k + 1, st => ((entsR l k st).1 ++ [((((WM.num l 8 (entsR l k st).2).1 % p63 : Nat) : Int), bs (WM.textR l 3500 (WM.num l 8 (entsR l k st).2).2).1)], (WM.textR l 3500 (WM.num l 8 (entsR l k st).2).2).2)

theorem entsR_len (l : List UInt8) (st : WM.St) : ∀ k, (entsR l k st).1.length = k
  | 0 => rfl
  | k + 1 => by simp only [entsR, List.length_append, entsR_len l st k, List.length_singleton]

def st1 (l : List UInt8) : WM.St := (WM.num l 1 (.ok 0)).2
def st2 (l : List UInt8) : WM.St := (numsR l 15 (st1 l)).2
def st3 (l : List UInt8) : WM.St := (WM.bool l (st2 l)).2
def st4 (l : List UInt8) : WM.St := (WM.num l 1 (st3 l)).2
def st5 (l : List UInt8) : WM.St := (WM.num l 4 (st4 l)).2
def st6 (l : List UInt8) : WM.St := (WM.num l 1 (st5 l)).2
def st7 (l : List UInt8) : WM.St := (WM.textR l 3500 (st6 l)).2
def st8 (l : List UInt8) : WM.St := (WM.num l 1 (st7 l)).2
def cnt (l : List UInt8) : Nat := (WM.num l 1 (st7 l)).1

def zeroMsg : Msg := { kind := 0, n := fun _ => 0, good := false, op := 0, err := 0, leader := 0, data := ⟨#[]⟩, ents := [] }
/-- the message as it is read, right or not -/
def rawMsg (l : List UInt8) : Msg :=
  { kind := (WM.num l 1 (.ok 0)).1, n := (numsR l 15 (st1 l)).1, good := (WM.bool l (st2 l)).1, op := (WM.num l 1 (st3 l)).1, err := ((WM.num l 4 (st4 l)).1 : Nat), leader := ((WM.num l 1 (st5 l)).1 : Nat),
    data := bs (WM.textR l 3500 (st6 l)).1, ents := (entsR l (min (cnt l) 4) (st8 l)).1 }
def rawEnd (l : List UInt8) : WM.St := (entsR l (min (cnt l) 4) (st8 l)).2

/-- the message, what is wrong, where -/
def decode (s : ByteArray) : Msg × Nat × Nat :=
  if (endOf s (rawEnd s.data.toList)).1 ≠ 0 then (zeroMsg, endOf s (rawEnd s.data.toList))
  else if (rawMsg s.data.toList).check ≠ 0 ∨ (rawMsg s.data.toList).form ≠ s.data.toList then (zeroMsg, 7, 0)
  else (rawMsg s.data.toList, 0, 0)

/-- what Decode holds while it reads -/
def DS (w : World) (g gr : Nat) (s : ByteArray) (wr : World) (m : Msg) (A : Value) (st : WM.St) : Prop :=
  MB wr g m A ∧ wr.heap[g + 1]? = some (.cells #[.int .i64 0, .int .i64 0] TSp (0, 0)) ∧ RS TR wr gr s st ∧ Below w.heap.size w wr

theorem DS.read {w wr w' : World} {g gr : Nat} {s : ByteArray} {m : Msg} {A : Value} {st st' : WM.St} (h : DS w g gr s wr m A st) (hgr : g + 2 ≤ gr) (hwg : w.heap.size = g)
    (hr : RS TR w' gr s st') (hg : wr.grownBy w' (some gr)) : DS w g gr s w' m A st' :=
  ⟨h.1.grown hg (fun e => by cases e; omega), (hg.block (g + 1) (lt_of_block h.2.1) (fun e => by cases e; omega)).trans h.2.1, hr, h.2.2.2.grown hg h.2.2.2.size (fun k e => by cases e; omega)⟩
theorem DS.below {w wr w' : World} {g gr : Nat} {s : ByteArray} {m : Msg} {A : Value} {st : WM.St} (h : DS w g gr s wr m A st) (hwg : w.heap.size = g) (hb : Below wr.heap.size wr w') : DS w g gr s w' m A st :=
  ⟨h.1.below hb, (hb.block (g + 1) (lt_of_block h.2.1)).trans h.2.1, h.2.2.1.below hb, below_then h.2.2.2 hb (Nat.le_refl _)⟩
theorem DS.drew {w wr : World} {g gr : Nat} {s : ByteArray} {m : Msg} {A : Value} {st : WM.St} (h : DS w g gr s wr m A st) : DS w g gr s wr.drew m A st :=
  ⟨h.1, h.2.1, h.2.2.1.below ((Below.refl _ _).drew), h.2.2.2.drew⟩

theorem MB.set {w : World} {g : Nat} {m m' : Msg} {A A' : Value} (h : MB w g m A) (i : Nat) (v : Value) (hc : (m.cells A).set i v = m'.cells A') : MB (w.setCell ⟨g, i, none⟩ v) g m' A' := by
  have := heap_setCell_same w g i _ _ v h
  unfold MB
  rw [this]
  simp [List.setIfInBounds_toArray, hc]
theorem DS.set {w wr : World} {g gr : Nat} {s : ByteArray} {m m' : Msg} {A A' : Value} {st : WM.St} (h : DS w g gr s wr m A st) (hgr : g + 2 ≤ gr) (hwg : w.heap.size = g) (i : Nat) (v : Value) (hc : (m.cells A).set i v = m'.cells A') :
    DS w g gr s (wr.setCell ⟨g, i, none⟩ v) m' A' st := by
  have hg : wr.grownBy (wr.setCell ⟨g, i, none⟩ v) (some g) := ⟨rfl, rfl, rfl, by simp, fun k _ hk => Below.heap_setCell _ _ _ _ (fun e => hk (by rw [e]))⟩
  exact ⟨h.1.set i v hc, (hg.block (g + 1) (lt_of_block h.2.1) (fun e => by cases e)).trans h.2.1, h.2.2.1.grown hg (fun e => by cases e; omega), h.2.2.2.setCell (p := ⟨g, i, none⟩) (by show w.heap.size ≤ g; omega) v⟩
theorem DS.frozen {w wr : World} {g gr : Nat} {s : ByteArray} {m : Msg} {A : Value} {st : WM.St} (h : DS w g gr s wr m A st) (i : Nat) : wr.frozen? ⟨g, i, none⟩ = false := frozen_of_row wr g i _ TM h.1

theorem set_num (m : Msg) (A : Value) (k : Nat) (x : Int) (hk : k < 15) : (m.cells A).set (offs.getD k 0) (.int .i64 x) = Msg.cells { m with n := fun i => if i = k then x else m.n i } A := by
  have : k = 0 ∨ k = 1 ∨ k = 2 ∨ k = 3 ∨ k = 4 ∨ k = 5 ∨ k = 6 ∨ k = 7 ∨ k = 8 ∨ k = 9 ∨ k = 10 ∨ k = 11 ∨ k = 12 ∨ k = 13 ∨ k = 14 := by omega
  rcases this with rfl | rfl | rfl | rfl | rfl | rfl | rfl | rfl | rfl | rfl | rfl | rfl | rfl | rfl | rfl <;> rfl

theorem and63 (x : Nat) (hx : x < 18446744073709551616) : bits BinOp.and IntKind.u64 (x : Int) 9223372036854775807 = ((x % p63 : Nat) : Int) := by
  have h := u64_and_nat x 9223372036854775807 hx (by omega)
  have h2 : x &&& 9223372036854775807 = x % 9223372036854775808 := Nat.and_two_pow_sub_one_eq_mod x 63
  rw [h2] at h
  exact h
theorem mod63 (x : Nat) : x % p63 < 9223372036854775808 := Nat.mod_lt _ (by decide)

end Go.Proofs.Ytbapifbahhjfgaa
