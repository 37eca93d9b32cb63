/- A net in memory: one block. -/
import Derived.Test.YtpiflikblpfgoaaDoorNfaWays
import Derived.Test.YtpiflikblpfgoaaDoorNfaBits
import Derived.Test.YtpiflikblpfgoaaDoorPatRe
import Derived.Shelf.Spec.TrailingZeros
namespace Go.Proofs.YtpiflikblpfgoaaDoor
open Go.RowKit PM

abbrev TNet : TypeId := 56
abbrev TPt : TypeId := 58
abbrev TRn : TypeId := 67

/-- what cell i of a net holds -/
def netC (n : NS) (p : Part) (A : Nat → Bool) (o : Bool) (i : Nat) : Value :=
  if i < 256 then .int .u64 (B64 fun q => n.has i q) else if i < 320 then .int .u64 (B64 fun q => n.fol (i - 256) q)
  else if i = 320 then .int .u64 (B64 p.first) else if i = 321 then .int .u64 (B64 p.last) else if i = 322 then .bool p.empty
  else if i = 323 then .int .u64 (B64 A) else if i = 324 then .bool o else .int .i64 n.k

/-- a net: its places, its part, the places alive, whether it is open -/
def NB (w : World) (b : Nat) (n : NS) (p : Part) (A : Nat → Bool) (o : Bool) : Prop :=
  ∃ cs, w.heap[b]? = some (.cells cs TNet (0, 0)) ∧ cs.size = 326 ∧ ∀ i, i < 326 → cs[i]? = some (netC n p A o i)

theorem NB.lt {w : World} {b : Nat} {n : NS} {p : Part} {A : Nat → Bool} {o : Bool} (h : NB w b n p A o) : b < w.heap.size := let ⟨_, h1, _⟩ := h; lt_of_block h1
theorem NB.cell {w : World} {b : Nat} {n : NS} {p : Part} {A : Nat → Bool} {o : Bool} (h : NB w b n p A o) (i : Nat) (hi : i < 326) : w.cell? ⟨b, i, none⟩ = some (netC n p A o i) := by
  obtain ⟨cs, h1, _, h3⟩ := h
  rw [cell_of_row w b i cs _ _ h1]; exact h3 i hi
theorem NB.frozen {w : World} {b : Nat} {n : NS} {p : Part} {A : Nat → Bool} {o : Bool} (h : NB w b n p A o) (i : Nat) : w.frozen? ⟨b, i, none⟩ = false := by
  obtain ⟨cs, h1, _, _⟩ := h
  exact frozen_of_row w b i _ _ h1
theorem NB.on {w w' : World} {b : Nat} {n : NS} {p : Part} {A : Nat → Bool} {o : Bool} (h : NB w b n p A o) (hb : Below w.heap.size w w') : NB w' b n p A o := by
  have := h.lt
  obtain ⟨cs, h1, r⟩ := h
  exact ⟨cs, (hb.block b this).trans h1, r⟩
theorem NB.grown {w w' : World} {b : Nat} {n : NS} {p : Part} {A : Nat → Bool} {o : Bool} (h : NB w b n p A o) {r : Option Nat} (hg : w.grownBy w' r) (hr : r ≠ some b) : NB w' b n p A o := by
  have := h.lt
  obtain ⟨cs, h1, x⟩ := h
  exact ⟨cs, (hg.block b this (fun e => hr e.symm)).trans h1, x⟩
theorem NB.congr {w : World} {b : Nat} {n m : NS} {p : Part} {A : Nat → Bool} {o : Bool} (h : NB w b n p A o) (hk : n.k = m.k) (hh : ∀ c q, c < 256 → q < 64 → n.has c q = m.has c q) (hf : ∀ x y, x < 64 → y < 64 → n.fol x y = m.fol x y) : NB w b m p A o := by
  obtain ⟨cs, h1, h2, h3⟩ := h
  refine ⟨cs, h1, h2, fun i hi => ?_⟩
  rw [h3 i hi]
  unfold netC
  split
  · rename_i h; rw [B64_congr fun q hq => hh i q h hq]
  · split
    · rename_i h h'; rw [B64_congr fun q hq => hf (i - 256) q (by omega) hq]
    · rw [hk]
/-- one cell turned -/
theorem NB.set {w : World} {b : Nat} {n m : NS} {p q : Part} {A A' : Nat → Bool} {o o' : Bool} (h : NB w b n p A o) (i : Nat) (v : Value) (hi : netC m q A' o' i = v) (hj : ∀ j, j < 326 → j ≠ i → netC m q A' o' j = netC n p A o j) : NB (w.setCell ⟨b, i, none⟩ v) b m q A' o' := by
  obtain ⟨cs, h1, h2, h3⟩ := h
  refine ⟨cs.setIfInBounds i v, heap_setCell_same w b i _ _ v h1, by simpa using h2, fun j hj2 => ?_⟩
  rw [Array.getElem?_setIfInBounds]
  by_cases e : i = j
  · subst e
    rw [if_pos rfl, if_pos (by omega), hi]
  · rw [if_neg e, h3 j hj2, hj j hj2 (fun e2 => e e2.symm)]

theorem netC_has {n : NS} {p : Part} {A : Nat → Bool} {o : Bool} {i : Nat} (h : i < 256) : netC n p A o i = .int .u64 (B64 fun q => n.has i q) := by rw [netC, if_pos h]
theorem netC_fol {n : NS} {p : Part} {A : Nat → Bool} {o : Bool} {i : Nat} (h : i < 64) : netC n p A o (256 + i) = .int .u64 (B64 fun q => n.fol i q) := by
  rw [netC, if_neg (by omega), if_pos (by omega), show 256 + i - 256 = i by omega]

section
variable {w : World} {b : Nat} {n : NS} {p : Part} {A : Nat → Bool} {o : Bool}
theorem NB.c_has (h : NB w b n p A o) {i : Nat} (hi : i < 256) : w.cell? ⟨b, i, none⟩ = some (.int .u64 (B64 fun q => n.has i q)) := by rw [h.cell i (by omega), netC_has hi]
theorem NB.c_fol (h : NB w b n p A o) {i : Nat} (hi : i < 64) : w.cell? ⟨b, 256 + i, none⟩ = some (.int .u64 (B64 fun q => n.fol i q)) := by rw [h.cell _ (by omega), netC_fol hi]
theorem NB.c_first (h : NB w b n p A o) : w.cell? ⟨b, 320, none⟩ = some (.int .u64 (B64 p.first)) := h.cell 320 (by omega)
theorem NB.c_last (h : NB w b n p A o) : w.cell? ⟨b, 321, none⟩ = some (.int .u64 (B64 p.last)) := h.cell 321 (by omega)
theorem NB.c_empty (h : NB w b n p A o) : w.cell? ⟨b, 322, none⟩ = some (.bool p.empty) := h.cell 322 (by omega)
theorem NB.c_alive (h : NB w b n p A o) : w.cell? ⟨b, 323, none⟩ = some (.int .u64 (B64 A)) := h.cell 323 (by omega)
theorem NB.c_open (h : NB w b n p A o) : w.cell? ⟨b, 324, none⟩ = some (.bool o) := h.cell 324 (by omega)
theorem NB.c_k (h : NB w b n p A o) : w.cell? ⟨b, 325, none⟩ = some (.int .i64 n.k) := h.cell 325 (by omega)
theorem NB.set_fol (h : NB w b n p A o) {i : Nat} (hi : i < 64) (f : Nat → Bool) : NB (w.setCell ⟨b, 256 + i, none⟩ (.int .u64 (B64 f))) b { n with fol := fun x q => if x = i then f q else n.fol x q } p A o := by
  refine h.set _ _ ?_ fun j hj hne => ?_
  · rw [netC_fol hi]; simp
  · unfold netC
    split
    · rfl
    · split
      · have e : ¬ j - 256 = i := by omega
        simp only [if_neg e]
      · rfl
theorem NB.set_has (h : NB w b n p A o) {i : Nat} (hi : i < 256) (f : Nat → Bool) : NB (w.setCell ⟨b, i, none⟩ (.int .u64 (B64 f))) b { n with has := fun x q => if x = i then f q else n.has x q } p A o := by
  refine h.set _ _ ?_ fun j hj hne => ?_
  · rw [netC_has hi]; simp
  · unfold netC
    split
    · simp only [if_neg hne]
    · rfl
theorem NB.set_k (h : NB w b n p A o) (k : Nat) : NB (w.setCell ⟨b, 325, none⟩ (.int .i64 k)) b { n with k := k } p A o := by
  refine h.set _ _ rfl fun j hj hne => ?_
  unfold netC
  split; rfl
  split; rfl
  split; rfl
  split; rfl
  split; rfl
  split; rfl
  split; rfl
  omega
theorem NB.set_first (h : NB w b n p A o) (f : Nat → Bool) : NB (w.setCell ⟨b, 320, none⟩ (.int .u64 (B64 f))) b n { p with first := f } A o := by
  refine h.set _ _ rfl fun j hj hne => ?_
  unfold netC
  split; rfl
  split; rfl
  simp only [if_neg hne]
theorem NB.set_last (h : NB w b n p A o) (f : Nat → Bool) : NB (w.setCell ⟨b, 321, none⟩ (.int .u64 (B64 f))) b n { p with last := f } A o := by
  refine h.set _ _ rfl fun j hj hne => ?_
  unfold netC
  split; rfl
  split; rfl
  split; rfl
  simp only [if_neg hne]
theorem NB.set_empty (h : NB w b n p A o) (e : Bool) : NB (w.setCell ⟨b, 322, none⟩ (.bool e)) b n { p with empty := e } A o := by
  refine h.set _ _ rfl fun j hj hne => ?_
  unfold netC
  split; rfl
  split; rfl
  split; rfl
  split; rfl
  simp only [if_neg hne]
theorem NB.set_alive (h : NB w b n p A o) (f : Nat → Bool) : NB (w.setCell ⟨b, 323, none⟩ (.int .u64 (B64 f))) b n p f o := by
  refine h.set _ _ rfl fun j hj hne => ?_
  unfold netC
  split; rfl
  split; rfl
  split; rfl
  split; rfl
  split; rfl
  simp only [if_neg hne]
theorem NB.set_open (h : NB w b n p A o) (e : Bool) : NB (w.setCell ⟨b, 324, none⟩ (.bool e)) b n p A e := by
  refine h.set _ _ rfl fun j hj hne => ?_
  unfold netC
  split; rfl
  split; rfl
  split; rfl
  split; rfl
  split; rfl
  split; rfl
  simp only [if_neg hne]
end
theorem setB (w : World) (g i : Nat) (v : Value) : w.grownBy (w.setCell ⟨g, i, none⟩ v) (some g) := ⟨rfl, rfl, rfl, by simp, fun k _ hk => Below.heap_setCell _ _ _ _ (fun e => hk (by rw [e]))⟩

/-- the library's table lies where it lay -/
def Tab (w : World) : Prop := TabAt 0 Lib.deBruijn64tab w
theorem Tab.cell {w : World} (h : Tab w) {j : Nat} (hj : j < 64) : w.cell? ⟨0, j, none⟩ = some (.int .u8 (Lib.deBruijn64tab.getD j 0)) := h j hj
theorem Tab.lt {w : World} (h : Tab w) : 0 < w.heap.size := World.block_lt_of_cell? w _ (h.cell (j := 0) (by omega))
theorem Tab.grown {w w' : World} (h : Tab w) {r : Option Nat} (hg : w.grownBy w' r) (hr : r ≠ some 0) : Tab w' := fun j hj => (World.cell?_of_block (a := ⟨0, j, none⟩) (hg.block 0 h.lt (fun e => hr e.symm))).trans (h j hj)
theorem Tab.on {w w' : World} (h : Tab w) (hb : Below w.heap.size w w') : Tab w' := h.grown (grown_below hb none) (fun e => by cases e)

set_option maxRecDepth 100000 in
theorem tz_core (x k idx : Nat) (w : World) (hx0 : ((x : Int) == 0) = false)
    (key : IntKind.u64.wrap (bits BinOp.and IntKind.u64 (x : Int) (IntKind.u64.wrap (-(x : Int))) * 285870213051353865) / 288230376151711744 = (idx : Int))
    (hi : idx < 64) (hk : k < 64) (hcell : w.cell? ⟨0, idx, none⟩ = some (.int .u8 k)) :
    Calls Tryd.prog 33 #[.int .u64 x] w fun e w' => e = .returned (.int .i64 k) ∧ w' = w := by
  go_enter Tryd.func33, Tryd.ntmps33
  go_wp2_with (simp only [key])
  go_ret
  exact ⟨rfl, rfl⟩

/-- the lowest bit of a set that is not empty -/
theorem tz_any (x : Nat) (hx : x < 18446744073709551616) (h0 : x ≠ 0) (w : World) (hT : Tab w) :
    Calls Tryd.prog 33 #[.int .u64 x] w fun e w' => e = .returned (.int .i64 (Lib.ctz 64 x)) ∧ w' = w := by
  obtain ⟨hlow, hk⟩ := Lib.lowest_bit 64 x h0 hx
  obtain ⟨hi, htab⟩ := Lib.deBruijn64_at _ hk
  have hcell := hT _ hi
  rw [htab] at hcell
  exact tz_core x _ _ w (by simp; omega) (tz64_key x _ hx h0 hlow) hi hk hcell
end Go.Proofs.YtpiflikblpfgoaaDoor
