/- The law MessageCodes, walked. -/
import Derived.Test.YtbapifbahhjfgaaMsgRefForm
import Derived.Test.YtbapifbahhjfgaaMsgHeavy
import Derived.Test.YtbapifbahhjfgaaMsgRefCheck
import Derived.Test.YtbapifbahhjfgaaMsgWorks
namespace Go.Proofs.Ytbapifbahhjfgaa
open Go.RowKit

theorem eCells_len (l : List (Int × ByteArray)) : (eCells l).length = l.length * 2 := by
  induction l with
  | nil => rfl
  | cons e l ih => simp only [eCells, List.flatMap_cons, List.length_append, List.length_cons, List.length_nil] at ih ⊢; omega
theorem eCells_one (l : List (Int × ByteArray)) : ∀ u ∈ eCells l, u.oneCell' = true := by
  intro u hu
  simp only [eCells, List.mem_flatMap, List.mem_cons, List.not_mem_nil, or_false] at hu
  obtain ⟨e, _, rfl | rfl⟩ := hu <;> rfl

/-- the load of a row, guarded or not -/
theorem load_row {P : Program} {ops : Array Oper} {rest : List Oper} {o : Oper} {a : Act} {w : World} {Q : Exit → Act → World → Prop} (hw : Region.wanted o (yielded ops a.tmps) = true) (ty : TypeId) (x : Operand) (ho : o.op = .load ty x)
    (g : Nat) (hx : a.eval x = .pointer (some ⟨g, 0, none⟩)) (t : TypeId) (cs : Array Value) (fr : Nat × Nat) (d : TypeDesc) (hg : w.heap[g]? = some (.cells cs t fr))
    (hu : P.underlying ty = some d) (hd : (match d with | .struct _ | .array _ _ => true | _ => false) = true) (hi : (P.info? ty).map (·.size) = some cs.size)
    (h : wpList P ops Q rest (a.put o.dst (.agg cs)) w) : wpList P ops Q (o :: rest) a w :=
  wpList_step fun K hK => by
    rw [if_pos hw]
    exact wp_load_row ty x ho g hx t cs fr d hg hu hd hi (hK _ _ h)

/-- entries that are there, cell by cell -/
theorem EArg.cells {w : World} {B : Nat} {ad : Addr} {l : List (Int × ByteArray)} (h : EArg w B (some ad) l) : ∀ j u, (eCells l)[j]? = some u → w.cell? (ad.add j) = some u := by
  intro j u hj
  have hlt : j < l.length * 2 := by rw [← eCells_len]; exact (List.getElem?_eq_some_iff.1 hj).1
  obtain ⟨ad', e, _, h1, h2⟩ := h (j / 2) (by omega)
  cases e
  obtain ⟨c1, c2⟩ := eCells_at l (j / 2) (by omega)
  rcases Nat.mod_two_eq_zero_or_one j with hm | hm
  · have hj2 : j = j / 2 * 2 := by omega
    rw [← hj2] at c1 h1
    rw [c1] at hj; cases hj; exact h1
  · have hj2 : j = j / 2 * 2 + 1 := by omega
    have h3 : ad.add j = ⟨(ad.add (j / 2 * 2)).block, (ad.add (j / 2 * 2)).off + 1, none⟩ := by
      conv => lhs; rw [hj2, ← Addr.add_add]
      rfl
    rw [← hj2] at c2
    rw [c2] at hj; cases hj; rw [h3]; exact h2

set_option maxRecDepth 100000 in
theorem clone_any (l : List (Int × ByteArray)) (A : Option Addr) (c : Nat) (w : World) (ha : EArg w w.heap.size A l) (hn : l.length ≤ 1024) :
    Calls Try.prog 17 #[.slice A l.length c] w fun e w' => ∃ A' c', e = .returned (.slice A' l.length c') ∧ EArg w' w'.heap.size A' l ∧ (∀ ad, A' = some ad → w.heap.size ≤ ad.block) ∧ Below w.heap.size w w' := by
  have HA := Lib.hid ha
  obtain ⟨i0, hi, hz0, hz1, hz2⟩ := info_parts info_entry
  have q24 : ∀ (w : World) (a : Option Addr) (n c n' c' : Nat), (binOp .eql 23 (.slice a n c) (.slice none n' c')).run Try.prog w = .ok (.bool a.isNone) w := fun w a n c n' c' => Lib.run_eql_slice_nil w _ _ a n c n' c' Try.underlying23
  cases A with
  | none =>
    obtain rfl : l = [] := by
      cases l with
      | nil => rfl
      | cons e l => obtain ⟨ad, h, _⟩ := ha 0 (by simp); cases h
    clear ha
    go_enter Try.func17, Try.ntmps17
    go_wp2_with fail
    go_ret
    exact ⟨none, 0, rfl, fun k hk => absurd hk (Nat.not_lt_zero _), fun ad h => (by cases h), Below.refl _ _⟩
  | some ad =>
    clear ha
    go_enter Try.func17, Try.ntmps17
    go_wp2_with (at_builtin; refine wpList_append_own _ rfl _ _ 23 rfl w.heap.size TE i0 (.agg #[.int .i64 0, .string ByteArray.empty]) 2 24 Try.underlying23 hi hz0 hz1 hz2 rfl (by decide) _ _ _ rfl (World.ownsRow_made w #[] 0 (Nat.le_refl _) (Nat.zero_le _) rfl) ad l.length c (eCells l) rfl (eCells_len l) ?qc2 (eCells_one l) ?qc4 ?qc5 ?qc6 ?_)
    case qc2 => exact fun j u hj => Lib.cell?_alloc_some _ (HA.out.cells j u hj)
    case qc4 => unfold maxLen; omega
    case qc5 => omega
    case qc6 => simp
    intro v' w1 hown hgrow _
    have hown' : w1.ownsRow w.heap.size TE 2 v' l.length (eCells l) := by
      first | exact hown | simpa using hown
    obtain ⟨A', c', rfl, he, hlo⟩ := own_entries rfl hown'
    have hb : Below w.heap.size w w1 := ⟨hgrow.os, hgrow.tape, hgrow.output, by have := hgrow.size; simp at this; omega, fun k hk => (hgrow.block k (by simp; omega) (by simp [Value.ownBlock]; omega)).trans (heap_alloc_old w _ hk)⟩
    have HE := Lib.hid he; have HB := Lib.hid hb; have HLO := Lib.hid hlo
    clear he hb hown hgrow hlo
    go_wp2_with fail
    go_ret
    exact ⟨A', c', rfl, HE.out, HLO.out, HB.out⟩

theorem code_is (m : Msg) : ∃ (t : ByteArray), m.out = .tuple #[.string t, .int .i64 (m.check : Nat)] ∧ (m.check = 0 → t = bs m.form) ∧ (m.check ≠ 0 → t = ⟨#[]⟩) := by
  unfold Msg.out
  by_cases h : m.check = 0
  · rw [if_pos h]; exact ⟨_, by rw [h]; rfl, fun _ => rfl, fun e => absurd h e⟩
  · rw [if_neg h]; exact ⟨_, rfl, fun e => absurd e h, fun _ => rfl⟩

/-- a message that lies in memory, with its entries -/
def CK (W : World) (g : Nat) (m : Msg) (A : Option Addr) (c : Nat) : Prop := MB W g m (.slice A m.ents.length c) ∧ EArg W W.heap.size A m.ents
theorem CK.on {w w' : World} {g : Nat} {m : Msg} {A : Option Addr} {c : Nat} (h : CK w g m A c) (hb : Below w.heap.size w w') : CK w' g m A c := ⟨h.1.below hb, h.2.on hb⟩

/-- a second block of a message -/
def twice (w : World) (V : Array Value) : World := (w.alloc (.cells (zeroMsg.cells A0).toArray TM)).setRow w.heap.size V
theorem twice_facts {w : World} {g : Nat} {m : Msg} {A : Option Addr} {c : Nat} (h : CK w g m A c) : CK (twice w (m.cells (.slice A m.ents.length c)).toArray) g m A c ∧ CK (twice w (m.cells (.slice A m.ents.length c)).toArray) w.heap.size m A c ∧ Below w.heap.size w (twice w (m.cells (.slice A m.ents.length c)).toArray) := by
  have hb : Below w.heap.size w (twice w (m.cells (.slice A m.ents.length c)).toArray) := (below_new w _).trans (below_setRow _ _ _ (Nat.le_refl _))
  exact ⟨h.on hb, ⟨setRow_heap _ _ _ _ _ _ (heap_alloc_new w _), (h.on hb).2⟩, hb⟩

theorem EArg.moved {w w' : World} {B : Nat} {A : Option Addr} {l : List (Int × ByteArray)} {g : Nat} (h : EArg w B A l) (hg : w.grownBy w' (some g)) (hne : ∀ ad, A = some ad → ad.block ≠ g) : EArg w' B A l := fun k hk => by
  obtain ⟨ad, e, hl, h1, h2⟩ := h k hk
  have hb : (ad.add (k * 2)).block = ad.block := block_add _ _
  exact ⟨ad, e, hl, hg.cell h1 (by rw [hb]; simpa using hne ad e), hg.cell h2 (by show some (ad.add (k * 2)).block ≠ _; rw [hb]; simpa using hne ad e)⟩

theorem CK.cell9 {w : World} {g : Nat} {m : Msg} {A : Option Addr} {c : Nat} (h : CK w g m A c) : w.cell? ⟨g, 9, none⟩ = some (.slice A m.ents.length c) := h.1.cell 9 _ rfl
theorem MB.frozen9 {w : World} {g : Nat} {m : Msg} {A : Value} (h : MB w g m A) : w.frozen? ⟨g, 9, none⟩ = false := frozen_of_row w g 9 _ TM h

theorem Msg.Eqv.refl' (a : Msg) : a.Eqv a := ⟨fun _ _ => rfl, rfl, rfl, rfl, rfl, rfl, rfl, rfl⟩

set_option maxRecDepth 100000 in
set_option maxHeartbeats 8000000 in
theorem messageCodes_walk (m : Msg) (A : Option Addr) (c : Nat) (w : World) (ha : EArg w w.heap.size A m.ents) (hn : m.ents.length ≤ 9223372036854775807) (hk : m.kind < 256) (ho : m.op < 256) :
    Calls Try.prog 7 #[m.val (.slice A m.ents.length c)] w fun e w' => e = .returned (.bool true) ∧ Below w.heap.size w w' := by
  have hM : CK (w.alloc (.cells (m.cells (.slice A m.ents.length c)).toArray TM)) w.heap.size m A c := ⟨heap_alloc_new w _, ha.on (below_new w _)⟩
  have HM := Lib.hid hM; have HB := Lib.hid (below_new w (.cells (m.cells (.slice A m.ents.length c)).toArray TM))
  clear hM ha
  simp only [Msg.val]
  go_enter Try.func7, Try.ntmps7
  go_wp2_with fail
  change Calls _ _ _ (w.alloc (.cells (m.cells (.slice A m.ents.length c)).toArray TM)) _
  generalize w.alloc (.cells (m.cells (.slice A m.ents.length c)).toArray TM) = W0 at *
  generalize Value.agg (m.cells (.slice A m.ents.length c)).toArray = V1
  obtain ⟨g, hg⟩ : ∃ g, w.heap.size = g := ⟨_, rfl⟩
  have HG := Lib.hid hg
  rw [hg] at HM ⊢
  clear hg
  refine (works_any W0).mono ?_
  rintro e w1 ⟨rfl, hb1⟩
  have HM1 := Lib.hid (HM.out.on hb1); have HB1 := Lib.hid (below_then HB.out hb1 (Nat.le_refl _))
  clear hb1 HM HB
  go_wp2_with (refine load_row (by rfl) TM (.tmp 1) rfl g rfl TM _ (0, 0) _ HM1.out.1 Try.underlying28 rfl (by kernel_rfl) ?_)
  refine (heavy_any m A c w1 HM1.out.2 hn).mono ?_
  rintro e w2 ⟨hh, hb2⟩
  have HM2 := Lib.hid (HM1.out.on hb2); have HB2 := Lib.hid (below_then HB1.out hb2 (Nat.le_refl _))
  clear hb2 HM1 HB1
  generalize Value.agg (m.cells (.slice A m.ents.length c)).toArray = V2
  rcases hh with rfl | ⟨rfl, hsz, hlen⟩
  · go_wp2_with fail
    go_ret
    exact ⟨rfl, HB2.out⟩
  have HSZ := Lib.hid hsz; have HLEN := Lib.hid hlen
  clear hsz hlen
  obtain ⟨t1, t2, t3⟩ := twice_facts HM2.out
  have hz0 : (w2.alloc (.cells (zeroMsg.cells A0).toArray TM)).heap[w2.heap.size]? = some (.cells (zeroMsg.cells A0).toArray TM (0, 0)) := heap_alloc_new w2 _
  have HZ0 := Lib.hid hz0
  have HM3 := Lib.hid t1; have HI3 := Lib.hid t2; have HB3 := Lib.hid (below_then HB2.out t3 (Nat.le_refl _))
  have hg3 : g < w2.heap.size := lt_of_block HM2.out.1
  have HG3 := Lib.hid hg3
  have HB3w := Lib.hid t3
  have HW3 := Lib.hid t3.size
  have HW3' : Hid (w2.heap.size < (twice w2 (m.cells (.slice A m.ents.length c)).toArray).heap.size) := Lib.hid (lt_of_block t2.1)
  have c9 := HM3.out.cell9
  have d9 := HI3.out.cell9
  clear t1 t2 t3 hz0 hg3
  go_wp2_with (first | (refine load_row (by rfl) TM (.tmp 1) rfl g rfl TM _ (0, 0) _ HM2.out.1 Try.underlying28 rfl (by kernel_rfl) ?_) | (refine wpList_store_row rfl TM (.tmp 3) (.tmp 11) rfl w2.heap.size (m.cells (.slice A m.ents.length c)).toArray rfl rfl TM (zeroMsg.cells A0).toArray HZ0.out (by kernel_rfl) rfl (cells_one m _ _ _) ?_; change wpList _ _ _ _ _ (twice w2 (m.cells (.slice A m.ents.length c)).toArray); generalize twice w2 (m.cells (.slice A m.ents.length c)).toArray = W3 at HM3 HI3 HB3 HB3w HW3 HW3' c9 d9 ⊢))
  clear c9 d9 HZ0
  generalize Value.agg (m.cells (.slice A m.ents.length c)).toArray = V3
  refine (clone_any m.ents A c W3 HM3.out.2 HLEN.out).mono ?_
  rintro e w4 ⟨A', c', rfl, he, hlo, hb4⟩
  have hm4 := HM3.out.on hb4
  have hi4 := HI3.out.on hb4
  have hgs : w4.grownBy (w4.setCell ⟨w2.heap.size, 9, none⟩ (.slice A' m.ents.length c')) (some w2.heap.size) := ⟨rfl, rfl, rfl, by simp, fun k _ hk => Below.heap_setCell _ _ _ _ (fun e => hk (by rw [e]))⟩
  have hbs : Below w2.heap.size w4 (w4.setCell ⟨w2.heap.size, 9, none⟩ (.slice A' m.ents.length c')) := ⟨rfl, rfl, rfl, by simp, fun k hk => hgs.block k (by have := lt_of_block hi4.1; omega) (fun e => by simp at e; omega)⟩
  have h5 : MB (w4.setCell ⟨w2.heap.size, 9, none⟩ (.slice A' m.ents.length c')) w2.heap.size m (.slice A' m.ents.length c') := hi4.1.set 9 _ rfl
  have h6 : MB (w4.setCell ⟨w2.heap.size, 9, none⟩ (.slice A' m.ents.length c')) g m (.slice A m.ents.length c) := hm4.1.grown hgs (fun e => by have := HG3.out; simp at e; omega)
  have h7 : EArg (w4.setCell ⟨w2.heap.size, 9, none⟩ (.slice A' m.ents.length c')) (w4.setCell ⟨w2.heap.size, 9, none⟩ (.slice A' m.ents.length c')).heap.size A m.ents := (HM2.out.2.below ((HB3w.out.trans (hb4.mono HW3.out)).trans hbs) (Nat.le_refl _)).wide (by have := hbs.size; have := hb4.size; have := HW3.out; omega)
  have h8 : EArg (w4.setCell ⟨w2.heap.size, 9, none⟩ (.slice A' m.ents.length c')) (w4.setCell ⟨w2.heap.size, 9, none⟩ (.slice A' m.ents.length c')).heap.size A' m.ents := (he.moved hgs (fun ad e1 e2 => by have := hlo ad e1; have := HW3'.out; omega)).wide (by simp)
  have HM5 := Lib.hid (show CK (w4.setCell ⟨w2.heap.size, 9, none⟩ (.slice A' m.ents.length c')) g m A c from ⟨h6, h7⟩)
  have HI5 := Lib.hid (show CK (w4.setCell ⟨w2.heap.size, 9, none⟩ (.slice A' m.ents.length c')) w2.heap.size m A' c' from ⟨h5, h8⟩)
  have HB5 := Lib.hid ((below_then HB3.out hb4 (Nat.le_refl _)).trans (hbs.mono HB2.out.size))
  have hf := hi4.1.frozen9
  have hc9 := hi4.cell9
  clear hm4 hi4 hgs hbs h5 h6 h7 h8 he hlo hb4 HM3 HI3 HB3 HB3w HW3 HW3'
  obtain ⟨t, hout, ht0, ht1⟩ := code_is m
  have HOUT := Lib.hid hout; have HT0 := Lib.hid ht0; have HT1 := Lib.hid ht1
  clear hout ht0 ht1
  go_wp2_with (refine load_row (by rfl) TM (.tmp 1) rfl g rfl TM _ (0, 0) _ HM5.out.1 Try.underlying28 rfl (by kernel_rfl) ?_)
  clear hf hc9
  generalize w4.setCell ⟨w2.heap.size, 9, none⟩ (.slice A' m.ents.length c') = W5 at *
  refine (refCheck_any m A c W5 HM5.out.2 hn hk HSZ.out).mono ?_
  rintro e w6 ⟨rfl, hb6⟩
  have HM6 := Lib.hid (HM5.out.on hb6); have HI6 := Lib.hid (HI5.out.on hb6); have HB6 := Lib.hid (below_then HB5.out hb6 (Nat.le_refl _))
  clear hb6 HM5 HI5 HB5
  generalize Value.agg (m.cells (.slice A m.ents.length c)).toArray = V4
  go_wp2_with (refine load_row (by rfl) TM (.tmp 3) rfl w2.heap.size rfl TM _ (0, 0) _ HI6.out.1 Try.underlying28 rfl (by kernel_rfl) ?_)
  refine (encode_any m A' c' w6 HI6.out.2 hn hk ho).mono ?_
  rintro e w7 ⟨rfl, hb7⟩
  rw [HOUT.out]
  have HM7 := Lib.hid (HM6.out.on hb7); have HI7 := Lib.hid (HI6.out.on hb7); have HB7 := Lib.hid (below_then HB6.out hb7 (Nat.le_refl _))
  clear hb7 HM6 HI6 HB6
  generalize Value.agg (m.cells (.slice A' m.ents.length c')).toArray = V5
  go_wp2_with (refine load_row (by rfl) TM (.tmp 3) rfl w2.heap.size rfl TM _ (0, 0) _ HI7.out.1 Try.underlying28 rfl (by kernel_rfl) ?_)
  refine (check_any m A' c' w7 HI7.out.2 hn hk).mono ?_
  rintro e w8 ⟨rfl, hb8⟩
  have HM8 := Lib.hid (HM7.out.on hb8); have HI8 := Lib.hid (HI7.out.on hb8); have HB8 := Lib.hid (below_then HB7.out hb8 (Nat.le_refl _))
  clear hb8 HM7 HI7 HB7
  generalize Value.agg (m.cells (.slice A' m.ents.length c')).toArray = V6
  go_wp2_with (first | (refine load_row (by rfl) TM (.tmp 3) rfl w2.heap.size rfl TM _ (0, 0) _ HI8.out.1 Try.underlying28 rfl (by kernel_rfl) ?_) | (refine load_row (by rfl) TM (.tmp 1) rfl g rfl TM _ (0, 0) _ HM8.out.1 Try.underlying28 rfl (by kernel_rfl) ?_))
  refine (same_any m m A' A c' c w8 HI8.out.2 HM8.out.2 hn hn).mono ?_
  rintro e w9 ⟨hsame, hb9⟩
  obtain rfl : e = .returned (.bool true) := hsame.elim And.left (fun h => absurd (Msg.Eqv.refl' m) h.2)
  have HM9 := Lib.hid (HM8.out.on hb9); have HB9 := Lib.hid (below_then HB8.out hb9 (Nat.le_refl _))
  clear hsame hb9 HM8 HI8 HB8
  generalize Value.agg (m.cells (.slice A m.ents.length c)).toArray = V7
  generalize Value.agg (m.cells (.slice A' m.ents.length c')).toArray = V8
  by_cases hc : m.check = 0
  · have HC := Lib.hid hc
    have hcc : ((m.check : Int) != 0) = false := by rw [hc]; rfl
    have ht := HT0.out hc
    subst ht
    clear hc HOUT HT0 HT1
    go_wp2_with (refine load_row (by rfl) TM (.tmp 1) rfl g rfl TM _ (0, 0) _ HM9.out.1 Try.underlying28 rfl (by kernel_rfl) ?_)
    refine (refForm_any m A c w9 HM9.out.2 HC.out ho).mono ?_
    rintro e w10 ⟨rfl, hb10⟩
    have HB10 := Lib.hid (below_then HB9.out hb10 (Nat.le_refl _))
    clear hb10
    generalize Value.agg (m.cells (.slice A m.ents.length c)).toArray = V9
    go_wp2_with fail
    go_ret
    exact ⟨by simp, HB10.out⟩
  · have hcc : ((m.check : Int) != 0) = true := by rw [bne_iff_ne]; omega
    have ht := HT1.out hc
    subst ht
    clear hc HOUT HT0 HT1
    go_wp2_with fail
    go_ret
    exact ⟨by simp, HB9.out⟩
end Go.Proofs.Ytbapifbahhjfgaa
