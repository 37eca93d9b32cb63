/- message.Check: which messages may be. -/
import Derived.Test.YtbapifbahhjfgaaMsgBase
namespace Go.Proofs.Ytbapifbahhjfgaa
open Go.RowKit

def numBad (k : Nat) (x : Int) : Bool := decide (x < 0) || decide (1125899906842624 < x) || (decide (k < 2) && decide (16 ≤ x))
def Msg.headBad (m : Msg) : Bool := decide (m.kind < 1) || decide (14 < m.kind) || decide (m.err < 0) || decide (999 < m.err) || decide (m.leader < 0) || decide (3 < m.leader)
def entsCheck : List (Int × ByteArray) → Nat → Nat
  | [], _ => 0
  | x :: l, all => if (decide (x.1 < 0) || decide (1125899906842624 < x.1)) = true then 2 else if 3500 < all + x.2.size then 3 else entsCheck l (all + x.2.size)
def Msg.numsBad (m : Msg) : Bool := (List.range 15).any fun k => numBad k (m.n k)
def Msg.check (m : Msg) : Nat := if m.headBad = true then 2 else if m.numsBad = true then 2 else if (decide (4 < m.ents.length) || decide (3500 < m.data.size)) = true then 3 else entsCheck m.ents m.data.size

theorem numsBad_of {m : Msg} {k : Nat} (hk : k < 15) (h : numBad k (m.n k) = true) : m.numsBad = true := by
  unfold Msg.numsBad
  rw [List.any_eq_true]
  exact ⟨k, List.mem_range.2 hk, h⟩
theorem numsBad_no {m : Msg} (h : ∀ k, k < 15 → numBad k (m.n k) = false) : m.numsBad = false := by
  unfold Msg.numsBad
  rw [List.any_eq_false]
  intro k hk
  rw [h k (List.mem_range.1 hk)]; simp

/-- the entries that lie in a slice -/
def EArg (w : World) (B : Nat) (A : Option Addr) (l : List (Int × ByteArray)) : Prop := ∀ k (hk : k < l.length), ∃ ad : Addr, A = some ad ∧ ad.block < B ∧
  w.cell? (ad.add (k * 2)) = some (.int .i64 l[k].1) ∧ w.cell? ⟨(ad.add (k * 2)).block, (ad.add (k * 2)).off + 1, none⟩ = some (.string l[k].2)
theorem EArg.below {w w' : World} {B B' : Nat} {A : Option Addr} {l : List (Int × ByteArray)} (h : EArg w B A l) (hb : Below B' w w') (hB : B ≤ B') : EArg w' B A l := fun k hk => by
  obtain ⟨ad, e, hl, h1, h2⟩ := h k hk
  exact ⟨ad, e, hl, (hb.cell (by show (ad.add (k * 2)).block < B'; rw [block_add]; omega)).trans h1, (hb.cell (by show (ad.add (k * 2)).block < B'; rw [block_add]; omega)).trans h2⟩
theorem EArg.wide {w : World} {B B' : Nat} {A : Option Addr} {l : List (Int × ByteArray)} (h : EArg w B A l) (hB : B ≤ B') : EArg w B' A l := fun k hk => by
  obtain ⟨ad, e, hl, h1, h2⟩ := h k hk
  exact ⟨ad, e, by omega, h1, h2⟩
theorem EArg.on {w w' : World} {A : Option Addr} {l : List (Int × ByteArray)} (h : EArg w w.heap.size A l) (hb : Below w.heap.size w w') : EArg w' w'.heap.size A l := (h.below hb (Nat.le_refl _)).wide hb.size

/-- a message's block -/
def MB (w : World) (g : Nat) (m : Msg) (A : Value) : Prop := w.heap[g]? = some (.cells (m.cells A).toArray TM (0, 0))
theorem MB.cell {w : World} {g : Nat} {m : Msg} {A : Value} (h : MB w g m A) (i : Nat) (v : Value) (hi : (m.cells A)[i]? = some v) : w.cell? ⟨g, i, none⟩ = some v := by
  rw [cell_of_row w g i _ _ _ h]
  simpa using hi
theorem MB.below {w w' : World} {g : Nat} {m : Msg} {A : Value} (h : MB w g m A) (hb : Below w.heap.size w w') : MB w' g m A := (hb.block g (lt_of_block h)).trans h
theorem MB.drew {w : World} {g : Nat} {m : Msg} {A : Value} (h : MB w g m A) : MB w.drew g m A := h

theorem num_cell {w : World} {g : Nat} {m : Msg} {A : Value} (h : MB w g m A) (k : Nat) (hk : k < 15) : w.cell? ⟨g, offs.getD k 0, none⟩ = some (.int .i64 (m.n k)) := by
  have : k = 0 ∨ k = 1 ∨ k = 2 ∨ k = 3 ∨ k = 4 ∨ k = 5 ∨ k = 6 ∨ k = 7 ∨ k = 8 ∨ k = 9 ∨ k = 10 ∨ k = 11 ∨ k = 12 ∨ k = 13 ∨ k = 14 := by omega
  rcases this with rfl | rfl | rfl | rfl | rfl | rfl | rfl | rfl | rfl | rfl | rfl | rfl | rfl | rfl | rfl <;> exact h.cell _ _ rfl

theorem ptr_at (g k : Nat) (hk : k < 15) (w : World) : (Instr.index 55 (.agg (ptrs g)) (.int .i64 k)).run Try.prog w = .ok (.pointer (some ⟨g, offs.getD k 0, none⟩)) w := by
  have : k = 0 ∨ k = 1 ∨ k = 2 ∨ k = 3 ∨ k = 4 ∨ k = 5 ∨ k = 6 ∨ k = 7 ∨ k = 8 ∨ k = 9 ∨ k = 10 ∨ k = 11 ∨ k = 12 ∨ k = 13 ∨ k = 14 := by omega
  rcases this with rfl | rfl | rfl | rfl | rfl | rfl | rfl | rfl | rfl | rfl | rfl | rfl | rfl | rfl | rfl <;> rfl

/-- a message, as an argument -/
def Msg.val (m : Msg) (A : Value) : Value := .agg (m.cells A).toArray

set_option maxRecDepth 100000 in
set_option maxHeartbeats 8000000 in
theorem check_any (m : Msg) (A : Option Addr) (c : Nat) (w : World) (ha : EArg w w.heap.size A m.ents) (hn : m.ents.length ≤ 9223372036854775807) (hk : m.kind < 256) :
    Calls Try.prog 15 #[m.val (.slice A m.ents.length c)] w fun e w' => e = .returned (.int .i64 (m.check : Nat)) ∧ Below w.heap.size w w' := by
  have hm0 := heap_alloc_new w (.cells (m.cells (.slice A m.ents.length c)).toArray TM)
  have hM : MB (w.alloc (.cells (m.cells (.slice A m.ents.length c)).toArray TM)) w.heap.size m (.slice A m.ents.length c) := hm0
  have hB0 := below_new w (.cells (m.cells (.slice A m.ents.length c)).toArray TM)
  have c0 := hM.cell 0 _ rfl
  have c20 := hM.cell 20 _ rfl
  have c21 := hM.cell 21 _ rfl
  have HM := Lib.hid hM; have HB0 := Lib.hid hB0
  clear hM hm0 hB0
  simp only [Msg.val, Msg.cells] at c0 c20 c21 HM HB0 ⊢
  by_cases hh : m.headBad = true
  · have hx : m.check = 2 := by unfold Msg.check; rw [if_pos hh]
    have HX := Lib.hid hx
    have HH := Lib.hid hh
    clear hx hh ha
    go_enter Try.func15, Try.ntmps15
    go_wp2_with fail
    all_goals first
      | (go_ret; exact ⟨by rw [HX.out]; rfl, HB0.out⟩)
      | (exfalso; have hh := HH.out; simp [Msg.headBad] at hh; omega)
  have hx : m.check = (if m.numsBad = true then 2 else if (decide (4 < m.ents.length) || decide (3500 < m.data.size)) = true then 3 else entsCheck m.ents m.data.size) := by unfold Msg.check; rw [if_neg hh]
  have HX := Lib.hid hx
  simp [Msg.headBad] at hh
  obtain ⟨⟨⟨⟨⟨h1, h2⟩, h3⟩, h4⟩, h5⟩, h6⟩ := hh
  have d1 : decide ((m.kind : Int) < 1) = false := by simp; omega
  have d2 : decide (14 < (m.kind : Int)) = false := by simp; omega
  have d3 : decide (m.err < 0) = false := by simp; omega
  have d4 : decide (999 < m.err) = false := by simp; omega
  have d5 : decide (m.leader < 0) = false := by simp; omega
  have d6 : decide (3 < m.leader) = false := by simp; omega
  clear hx
  go_enter Try.func15, Try.ntmps15
  go_wp2_with fail
  refine (numbers_any _ _).mono ?_
  rintro e w1 ⟨rfl, hb1⟩
  have HM1 := Lib.hid (MB.below HM.out hb1)
  have HB1 := Lib.hid (below_then HB0.out hb1 (Nat.le_refl _))
  have HA1 := Lib.hid ((ha.on HB0.out).on hb1)
  clear hb1 HM HB0 ha c0 c20 c21 h1 h2 h3 h4 h5 h6 d1 d2 d3 d4 d5 d6
  generalize w.heap.size = g at HM1 ⊢
  obtain ⟨pa, hpa⟩ : ∃ pa, ptrs g = pa := ⟨_, rfl⟩
  have HPA := Lib.hid hpa
  rw [hpa]
  clear hpa
  go_wp2_with fail
  go_loop [37] (fun i => ∃ k : Nat, k ≤ 15 ∧ i = .int .i64 k ∧ Hid (∀ j, j < k → numBad j (m.n j) = false)) (fun i => 15 - (intOf i).toNat)
  case atStart => exact ⟨0, by omega, rfl, Lib.hid (fun j h => absurd h (Nat.not_lt_zero _))⟩
  case round =>
    obtain ⟨k, hk15, rfl, HO⟩ := hrel
    by_cases hlt : k < 15
    · have hidx := ptr_at g k hlt
      rw [HPA.out] at hidx
      have hcell := num_cell HM1.out k hlt
      have hlt2 : (k : Int) < 15 := by omega
      have hstep : numBad k (m.n k) = false → ∀ j, j < k + 1 → numBad j (m.n j) = false := fun h j hj => by
        by_cases e : j = k
        · rw [e]; exact h
        · exact HO.out j (by omega)
      have hbad : numBad k (m.n k) = true → m.check = 2 := fun h => by rw [HX.out, if_pos (numsBad_of hlt h)]
      generalize offs.getD k 0 = o at *
      generalize m.n k = x at *
      have HST := Lib.hid hstep; have HBD := Lib.hid hbad
      clear hstep hbad HO
      by_cases hx : numBad k x = true
      · have hc2 := Lib.hid (HBD.out hx)
        have HXX := Lib.hid hx
        clear hx HST HBD
        go_wp2_with fail
        all_goals first
          | (go_ret; exact ⟨by rw [hc2.out]; rfl, HB1.out⟩)
          | (exfalso; have hx := HXX.out; simp [numBad] at hx; omega)
      · have hx1 : numBad k x = false := by simpa using hx
        have HXX := Lib.hid hx1
        clear hx hx1 HBD
        go_wp2_with fail
        all_goals first
          | (exfalso; have hx := HXX.out; simp [numBad] at hx; omega)
          | exact ⟨⟨k + 1, by omega, by go_num, Lib.hid (HST.out HXX.out)⟩, by simp [intOf]; omega⟩
    · have hnb := numsBad_no (m := m) (fun j hj => HO.out j (by omega))
      have hx := HX.out
      rw [if_neg (by rw [hnb]; simp)] at hx
      have HX2 := Lib.hid hx
      clear hx hnb HX HO
      have hge : ¬ ((k : Int) < 15) := by omega
      have c9 := HM1.out.cell 9 _ rfl
      have c12 := HM1.out.cell 12 _ rfl
      clear hlt
      by_cases hl : 4 < m.ents.length
      · have hd : decide (4 < (m.ents.length : Int)) = true := by simp; omega
        go_wp2_with fail
        go_ret
        exact ⟨by rw [HX2.out, if_pos (by simp; omega)]; rfl, HB1.out⟩
      have hd : decide (4 < (m.ents.length : Int)) = false := by simp; omega
      by_cases hl2 : 3500 < m.data.size
      · have hd2 : decide (3500 < (m.data.size : Int)) = true := by simp; omega
        go_wp2_with fail
        go_ret
        exact ⟨by rw [HX2.out, if_pos (by simp; omega)]; rfl, HB1.out⟩
      have hd2 : decide (3500 < (m.data.size : Int)) = false := by simp; omega
      have hx := HX2.out
      rw [if_neg (by simp; omega)] at hx
      have HX3 := Lib.hid hx
      clear hx HX2
      go_wp2_with fail
      obtain ⟨w0, hw0⟩ : ∃ w0, w1 = w0 := ⟨_, rfl⟩
      have HA0 : Hid (EArg w0 w0.heap.size A m.ents) := Lib.hid (by rw [← hw0]; exact HA1.out)
      have HB0 : Hid (Below w.heap.size w w0) := Lib.hid (by rw [← hw0]; exact HB1.out)
      have HBr : Hid (Below w0.heap.size w0 w1) := Lib.hid (by rw [hw0]; exact Below.refl _ _)
      clear hw0 HA1 HB1 HM1 c9 c12 hk15 hge
      go_loopw [5, 78] (fun a i wr => ∃ k t : Nat, k ≤ m.ents.length ∧ i = .int .i64 k ∧ a = .int .i64 t ∧ t ≤ 3500 ∧ Hid (m.check = entsCheck (m.ents.drop k) t) ∧ Hid (Below w0.heap.size w0 wr)) (fun _ i _ => m.ents.length - (intOf i).toNat)
      case atStart => exact ⟨0, m.data.size, by omega, rfl, rfl, by omega, HX3, HBr⟩
      case round =>
        obtain ⟨k, t, hkl, rfl, rfl, ht, HC, HBq⟩ := hrel
        by_cases hlt : k < m.ents.length
        · obtain ⟨ad, rfl, hadb, h1, h2⟩ := (HA0.out.below HBq.out (Nat.le_refl _)) k hlt
          have hlt2 : (k : Int) < m.ents.length := by omega
          have hc := HC.out
          rw [List.drop_eq_getElem_cons hlt] at hc
          simp only [entsCheck] at hc
          have HC2 := Lib.hid hc
          clear hc HC HX3
          generalize m.ents[k] = en at *
          obtain ⟨et, ed⟩ := en
          simp only [] at HC2 h1 h2
          have hw := HBq.out.size
          by_cases hb1 : (decide (et < 0) || decide (1125899906842624 < et)) = true
          · have hc := HC2.out
            rw [if_pos hb1] at hc
            have HC3 := Lib.hid hc; have HBB := Lib.hid hb1
            clear hc HC2 hb1
            go_wp2_with fail
            all_goals first
              | (go_ret; exact ⟨by rw [HC3.out]; rfl, below_then (below_then HB0.out HBq.out (Nat.le_refl _)) (below_new wr _) (Nat.le_refl _)⟩)
              | (exfalso; have hx := HBB.out; simp at hx; omega)
          · have hc := HC2.out
            rw [if_neg hb1] at hc
            have HC3 := Lib.hid hc
            simp at hb1
            clear hc HC2
            obtain ⟨q1, q2⟩ := hb1
            have d1 : decide (et < 0) = false := by simp; omega
            have d2 : decide (1125899906842624 < et) = false := by simp; omega
            by_cases hb2 : 3500 < t + ed.size
            · have hc := HC3.out
              rw [if_pos hb2] at hc
              have HC4 := Lib.hid hc
              have d3 : decide (3500 - (t : Int) < ed.size) = true := by simp; omega
              clear hc HC3
              go_wp2_with fail
              go_ret
              exact ⟨by rw [HC4.out]; rfl, below_then (below_then HB0.out HBq.out (Nat.le_refl _)) (below_new wr _) (Nat.le_refl _)⟩
            · have hc := HC3.out
              rw [if_neg hb2] at hc
              have HC4 := Lib.hid hc
              have d3 : decide (3500 - (t : Int) < ed.size) = false := by simp; omega
              have hsum : (t : Int) + ed.size ≤ 3500 := by omega
              clear hc HC3
              go_wp2_with fail
              exact ⟨⟨k + 1, t + ed.size, by omega, by go_num, by go_num, by omega, HC4, Lib.hid (below_then HBq.out (below_new wr _) (Nat.le_refl _))⟩, by simp [intOf]; omega⟩
        · have hge : ¬ ((k : Int) < m.ents.length) := by omega
          have hc := HC.out
          rw [List.drop_of_length_le (by omega)] at hc
          have HC2 := Lib.hid hc
          clear hc HC HX3
          go_wp2_with fail
          go_ret
          exact ⟨by rw [HC2.out]; rfl, below_then HB0.out HBq.out (Nat.le_refl _)⟩

end Go.Proofs.Ytbapifbahhjfgaa
