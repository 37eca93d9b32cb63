/- A region that draws its order, whose operations read cells that it does not store, and store into different cells of one block: one walk, each operation by itself. -/
import Derived.Test.YtbapifbahhjfgaaRowKit
import Derived.Orders
import Derived.Still
import Derived.Laws.Tables
import Derived.Laws.Rows
namespace Go.Proofs.Ytbapifbahhjfgaa
open Go.RowKit

set_option maxRecDepth 100000
section
variable {P : Program} {ops : Array Oper} {Q : Exit → Act → World → Prop}
theorem getD_set (l : Array Bool) (i j : Nat) (b : Bool) (h : i < l.size) : (l.setIfInBounds i true).getD j b = if j = i then true else l.getD j b := by
  simp only [Array.getD_eq_getD_getElem?, Array.getElem?_setIfInBounds]
  by_cases e : i = j
  · subst e; simp [h]
  · rw [if_neg e, if_neg (fun h => e h.symm)]
/-- the index order is one that is allowed, so what is not yet listed has a first -/
def allAfter (ops : Array Oper) : Bool := (List.range ops.size).all fun i => ((ops[i]?).map (·.after.all fun e => !Region.binds .any e || decide (e.on < i))).getD true
theorem ready_nil (hB : allAfter ops = true) (listed : Array Bool) (hsz : listed.size = ops.size) (h : Region.ready .any ops listed = []) : ∀ i, i < ops.size → listed.getD i false = true := by
  intro i
  induction i using Nat.strongRecOn with
  | _ i ih =>
    intro hi
    cases hl : listed.getD i false with
    | true => rfl
    | false =>
      exfalso
      have hmem : i ∈ Region.ready .any ops listed := by
        unfold Region.ready
        refine List.mem_filter.2 ⟨List.mem_range.2 hi, ?_⟩
        have hg : listed.getD i true = false := by
          have h1 : i < listed.size := by omega
          simp only [Array.getD_eq_getD_getElem?, Array.getElem?_eq_getElem h1, Option.getD_some] at hl ⊢
          exact hl
        have ho : ops[i]? = some ops[i] := Array.getElem?_eq_getElem hi
        rw [hg, ho]
        simp only [Bool.not_false, Option.map_some, Option.getD_some, Bool.true_and, Array.all_eq_true']
        intro e he
        have hb := List.all_eq_true.1 hB i (List.mem_range.2 hi)
        rw [ho] at hb
        simp only [Option.map_some, Option.getD_some, Array.all_eq_true'] at hb
        have hb2 := hb e he
        cases hbd : Region.binds .any e with
        | false => rfl
        | true =>
          rw [hbd] at hb2
          have hlt : e.on < i := by simpa using hb2
          simp [ih e.on hlt (by omega)]
      rw [h] at hmem
      cases hmem
/-- what is ready is not listed, and what it waits for is -/
theorem ready_spec {listed : Array Bool} {i : Nat} (h : i ∈ Region.ready .any ops listed) : i < ops.size ∧ listed.getD i false = false ∧ ∀ o, ops[i]? = some o → ∀ e ∈ o.after, Region.binds .any e = true → listed.getD e.on false = true := by
  unfold Region.ready at h
  obtain ⟨h1, h2⟩ := List.mem_filter.1 h
  simp only [Bool.and_eq_true, Bool.not_eq_true'] at h2
  refine ⟨List.mem_range.1 h1, ?_, fun o ho e he hb => ?_⟩
  · have := h2.1
    simp only [Array.getD_eq_getD_getElem?] at this ⊢
    cases hx : listed[i]? with
    | none => rfl
    | some b => rw [hx] at this; simpa using this
  · have h3 := h2.2
    rw [ho] at h3
    simp only [Option.map_some, Option.getD_some, Array.all_eq_true'] at h3
    have := h3 e he
    rw [hb] at this
    simpa using this

def dstOf (ops : Array Oper) (i : Nat) : Option Tmp := (ops[i]?).bind (·.dst)
variable (ops) (a0 : Act) (w1 : World) (gm : Nat) (cs0 : Array Value) (val : Nat → Value) (cell : Nat → Option Nat)
/-- where the operations that are listed were carried out -/
structure Tab (listed : Array Bool) (a : Act) (cs : Array Value) : Prop where
  sz : listed.size = ops.size
  df : a.defers = a0.defers
  ts : a.tmps.size = a0.tmps.size
  old : ∀ d, (∀ i, dstOf ops i = some d → listed.getD i false = false) → a.tmps[d]? = a0.tmps[d]?
  new : ∀ i d, dstOf ops i = some d → listed.getD i false = true → a.tmps[d]? = some (val i)
  cz : cs.size = cs0.size
  cold : ∀ k, (∀ i, cell i = some k → listed.getD i false = false) → cs[k]? = cs0[k]?
  cnew : ∀ i k, cell i = some k → listed.getD i false = true → cs[k]? = some (val i)
/-- no two write one slot, no two one cell -/
structure Apart : Prop where
  dst : ∀ i j d, dstOf ops i = some d → dstOf ops j = some d → i = j
  cel : ∀ i j k, cell i = some k → cell j = some k → i = j
  din : ∀ i d, dstOf ops i = some d → d < a0.tmps.size
  cin : ∀ i k, cell i = some k → i < ops.size ∧ k < cs0.size ∧ dstOf ops i = none
variable {ops a0 w1 gm cs0 val cell}
def stepC (val : Nat → Value) (cell : Nat → Option Nat) (i : Nat) (cs : Array Value) : Array Value := match cell i with
  | some k => cs.setIfInBounds k (val i)
  | none => cs
theorem put_tmps (a : Act) (d : Tmp) (v : Value) : (a.put (some d) v).tmps = a.tmps.setIfInBounds d v := rfl
theorem Tab.step (hA : Apart ops a0 cs0 cell) {listed : Array Bool} {a : Act} {cs : Array Value} (h : Tab ops a0 cs0 val cell listed a cs) {i : Nat} (hi : i < ops.size) :
    Tab ops a0 cs0 val cell (listed.setIfInBounds i true) (a.put (dstOf ops i) (val i)) (stepC val cell i cs) := by
  have hil : i < listed.size := by rw [h.sz]; exact hi
  have hg := fun j => getD_set listed i j false hil
  have hdf : (a.put (dstOf ops i) (val i)).defers = a0.defers := by
    cases dstOf ops i with
    | none => exact h.df
    | some d => exact h.df
  have hts : (a.put (dstOf ops i) (val i)).tmps.size = a0.tmps.size := by
    cases dstOf ops i with
    | none => exact h.ts
    | some d => rw [put_tmps, Array.size_setIfInBounds]; exact h.ts
  refine ⟨by rw [Array.size_setIfInBounds]; exact h.sz, hdf, hts, fun d hd => ?_, fun j d hj hl => ?_, ?_, fun k hk => ?_, fun j k hj hl => ?_⟩
  · have hold : a.tmps[d]? = a0.tmps[d]? := h.old d (fun j hj => by
      have := hd j hj
      rw [hg j] at this
      split at this
      · cases this
      · exact this)
    cases hdi : dstOf ops i with
    | none => exact hold
    | some d' =>
      rw [put_tmps]
      have hne : d' ≠ d := fun e => by
        have := hd i (by rw [hdi, e])
        rw [hg i, if_pos rfl] at this
        cases this
      rw [Array.getElem?_setIfInBounds, if_neg hne]; exact hold
  · rw [hg j] at hl
    by_cases e : j = i
    · subst e
      rw [hj, put_tmps, Array.getElem?_setIfInBounds, if_pos rfl, if_pos (by rw [h.ts]; exact hA.din _ _ hj)]
    · rw [if_neg e] at hl
      have hnew := h.new j d hj hl
      cases hdi : dstOf ops i with
      | none => exact hnew
      | some d' =>
        rw [put_tmps]
        have hne : d' ≠ d := fun e2 => e (hA.dst j i d hj (by rw [hdi, e2]))
        rw [Array.getElem?_setIfInBounds, if_neg hne]; exact hnew
  · unfold stepC
    split
    · rw [Array.size_setIfInBounds]; exact h.cz
    · exact h.cz
  · have hold : cs[k]? = cs0[k]? := h.cold k (fun j hj => by
      have := hk j hj
      rw [hg j] at this
      split at this
      · cases this
      · exact this)
    unfold stepC
    split
    · rename_i k' hk'
      have hne : k' ≠ k := fun e => by
        have := hk i (by rw [hk', e])
        rw [hg i, if_pos rfl] at this
        cases this
      rw [Array.getElem?_setIfInBounds, if_neg hne]; exact hold
    · exact hold
  · rw [hg j] at hl
    by_cases e : j = i
    · subst e
      unfold stepC
      rw [hj]
      simp only
      rw [Array.getElem?_setIfInBounds, if_pos rfl, if_pos (by rw [h.cz]; exact (hA.cin _ _ hj).2.1)]
    · rw [if_neg e] at hl
      have hnew := h.cnew j k hj hl
      unfold stepC
      split
      · rename_i k' hk'
        have hne : k' ≠ k := fun e2 => e (hA.cel j i k hj (by rw [hk', e2]))
        rw [Array.getElem?_setIfInBounds, if_neg hne]; exact hnew
      · exact hnew
/-- one frame, one row -/
theorem Tab.one {listed listed' : Array Bool} {a a' : Act} {cs cs' : Array Value} (h : Tab ops a0 cs0 val cell listed a cs) (h' : Tab ops a0 cs0 val cell listed' a' cs')
    (hl : ∀ i, listed.getD i false = listed'.getD i false) : a = a' ∧ cs = cs' := by
  have ht : a.tmps = a'.tmps := Array.ext_getElem? (fun d => by
    by_cases hx : ∃ i, dstOf ops i = some d ∧ listed.getD i false = true
    · obtain ⟨i, h1, h2⟩ := hx
      rw [h.new i d h1 h2, h'.new i d h1 (by rw [← hl]; exact h2)]
    · have hn : ∀ i, dstOf ops i = some d → listed.getD i false = false := fun i hi => by
        cases hb : listed.getD i false with
        | false => rfl
        | true => exact absurd ⟨i, hi, hb⟩ hx
      rw [h.old d hn, h'.old d (fun i hi => by rw [← hl]; exact hn i hi)])
  have hc : cs = cs' := Array.ext_getElem? (fun k => by
    by_cases hx : ∃ i, cell i = some k ∧ listed.getD i false = true
    · obtain ⟨i, h1, h2⟩ := hx
      rw [h.cnew i k h1 h2, h'.cnew i k h1 (by rw [← hl]; exact h2)]
    · have hn : ∀ i, cell i = some k → listed.getD i false = false := fun i hi => by
        cases hb : listed.getD i false with
        | false => rfl
        | true => exact absurd ⟨i, hi, hb⟩ hx
      rw [h.cold k hn, h'.cold k (fun i hi => by rw [← hl]; exact hn i hi)])
  refine ⟨?_, hc⟩
  cases a; cases a'
  simp only at ht
  have hd := h.df.trans h'.df.symm
  simp only at hd
  rw [ht, hd]
def foldA (ops : Array Oper) (val : Nat → Value) : Nat → Act → Act
  | 0, a => a
  | n + 1, a => (foldA ops val n a).put (dstOf ops n) (val n)
def foldC (val : Nat → Value) (cell : Nat → Option Nat) : Nat → Array Value → Array Value
  | 0, cs => cs
  | n + 1, cs => stepC val cell n (foldC val cell n cs)
def foldL : Nat → Array Bool → Array Bool
  | 0, l => l
  | n + 1, l => (foldL n l).setIfInBounds n true
theorem foldL_get : ∀ (n : Nat) (l : Array Bool), n ≤ l.size → ∀ j, (foldL n l).size = l.size ∧ (foldL n l).getD j false = if j < n then true else l.getD j false
  | 0, l, _, j => ⟨rfl, by simp [foldL]⟩
  | n + 1, l, h, j => by
    obtain ⟨h1, h2⟩ := foldL_get n l (by omega) j
    refine ⟨by simp only [foldL, Array.size_setIfInBounds]; exact h1, ?_⟩
    simp only [foldL]
    rw [getD_set _ _ _ _ (by rw [h1]; omega), h2]
    by_cases e : j = n
    · rw [if_pos e, if_pos (by omega)]
    · rw [if_neg e]
      by_cases e2 : j < n
      · rw [if_pos e2, if_pos (by omega)]
      · rw [if_neg e2, if_neg (by omega)]
theorem Tab.fold (hA : Apart ops a0 cs0 cell) {l : Array Bool} (h : Tab ops a0 cs0 val cell l a0 cs0) : ∀ n, n ≤ ops.size → Tab ops a0 cs0 val cell (foldL n l) (foldA ops val n a0) (foldC val cell n cs0)
  | 0, _ => h
  | n + 1, hn => (Tab.fold hA h n (by omega)).step hA (by omega)
theorem Tab.start (_hA : Apart ops a0 cs0 cell) : Tab ops a0 cs0 val cell (Array.replicate ops.size false) a0 cs0 := by
  have hf : ∀ i, (Array.replicate ops.size false).getD i false = false := fun i => by
    simp only [Array.getD_eq_getD_getElem?, Array.getElem?_replicate]
    split <;> rfl
  exact ⟨by simp, rfl, rfl, fun d _ => rfl, fun i d _ hl => (by rw [hf] at hl; cases hl), rfl, fun k _ => rfl, fun i k _ hl => (by rw [hf] at hl; cases hl)⟩
theorem setRow_setCell {w : World} {g k : Nat} {old cs : Array Value} {T : TypeId} (hg : w.heap[g]? = some (.cells old T (0, 0))) (v : Value) : (w.setRow g cs).setCell ⟨g, k, none⟩ v = w.setRow g (cs.setIfInBounds k v) := by
  have h1 := setRow_heap w g old cs T (0, 0) hg
  have h2 := setRow_heap w g old (cs.setIfInBounds k v) T (0, 0) hg
  have h3 := heap_setCell_same (w.setRow g cs) g k cs T v h1
  have hh : ((w.setRow g cs).setCell ⟨g, k, none⟩ v).heap = (w.setRow g (cs.setIfInBounds k v)).heap := by
    refine Array.ext_getElem? (fun j => ?_)
    by_cases e : j = g
    · subst e; rw [h3, h2]
    · rw [heap_setCell_other (w.setRow g cs) ⟨g, k, none⟩ j v e, setRow_other _ _ _ _ e, setRow_other _ _ _ _ e]
  have e1 : (w.setRow g cs).setCell ⟨g, k, none⟩ v = { (w.setRow g cs) with heap := ((w.setRow g cs).setCell ⟨g, k, none⟩ v).heap } := rfl
  have e2 : w.setRow g (cs.setIfInBounds k v) = { (w.setRow g cs) with heap := (w.setRow g (cs.setIfInBounds k v)).heap } := rfl
  rw [e1, e2, hh]
/-- what one operation must do: hand back its value, or store it -/
def Does (P : Program) (a : Act) (w : World) (gm : Nat) (v : Value) (c : Option Nat) (o : Oper) : Prop := match c with
  | none => (execOp a.eval o).run P w = .ok (.value v) w
  | some k => (execOp a.eval o).run P w = .ok .skip (w.setCell ⟨gm, k, none⟩ v)
theorem wpAny_tab {T : TypeId} (hA : Apart ops a0 cs0 cell) (hB : allAfter ops = true) (hgd : ∀ (i : Nat) o, ops[i]? = some o → o.guard = none) (hg : w1.heap[gm]? = some (.cells cs0 T (0, 0)))
    (hdo : ∀ (i : Nat) o listed a cs, ops[i]? = some o → Tab ops a0 cs0 val cell listed a cs → (∀ e ∈ o.after, Region.binds .any e = true → listed.getD e.on false = true) → Does P a (w1.setRow gm cs) gm (val i) (cell i) o)
    (hQ : Q .normal (foldA ops val ops.size a0) (w1.setRow gm (foldC val cell ops.size cs0))) :
    ∀ (fuel : Nat) (listed : Array Bool) (a : Act) (cs : Array Value), Tab ops a0 cs0 val cell listed a cs → (fuel = 0 → ∀ i, i < ops.size → listed.getD i false = true) → (∀ m, fuel = m + 1 → ((List.range ops.size).filter fun i => !listed.getD i false).length ≤ fuel) →
      wpAny P .any ops Q fuel listed a (w1.setRow gm cs) := by
  have hend : ∀ (listed : Array Bool) (a : Act) (cs : Array Value), Tab ops a0 cs0 val cell listed a cs → (∀ i, i < ops.size → listed.getD i false = true) → Q .normal a (w1.setRow gm cs) := fun listed a cs ht hl => by
    have hf := Tab.fold hA (Tab.start (val := val) hA) ops.size (Nat.le_refl _)
    obtain ⟨e1, e2⟩ := ht.one hf (fun i => by
      rw [(foldL_get ops.size _ (by simp) i).2]
      by_cases hi : i < ops.size
      · rw [if_pos hi, hl i hi]
      · rw [if_neg hi]
        have h1 : listed.getD i false = false := by
          rw [Array.getD_eq_getD_getElem?, Array.getElem?_eq_none (by rw [ht.sz]; omega)]; rfl
        rw [h1, Array.getD_eq_getD_getElem?, Array.getElem?_replicate, if_neg hi]; rfl)
    rw [e1, e2]; exact hQ
  intro fuel
  induction fuel with
  | zero =>
    intro listed a cs ht h0 _
    refine ⟨?_, hend _ _ _ ht (h0 rfl)⟩
    cases hr : Region.ready .any ops listed with
    | nil => rfl
    | cons x xs =>
      have hx := ready_spec (ops := ops) (listed := listed) (i := x) (by rw [hr]; simp)
      have := h0 rfl x hx.1
      rw [hx.2.1] at this; cases this
  | succ fuel ih =>
    intro listed a cs ht _ hm
    refine ⟨fun hr => hend _ _ _ ht (ready_nil hB listed ht.sz hr), fun i hi => ?_⟩
    obtain ⟨hlt, hnl, hdep⟩ := ready_spec hi
    have ho : ops[i]? = some ops[i] := Array.getElem?_eq_getElem hlt
    have hil : i < listed.size := by rw [ht.sz]; exact hlt
    have hcount : ((List.range ops.size).filter fun j => !(listed.setIfInBounds i true).getD j false).length + 1 ≤ ((List.range ops.size).filter fun j => !listed.getD j false).length := by
      have hsub : ∀ (l : List Nat), l.Nodup → i ∈ l → (l.filter fun j => !(listed.setIfInBounds i true).getD j false).length + 1 ≤ (l.filter fun j => !listed.getD j false).length := by
        intro l
        induction l with
        | nil => intro _ h; cases h
        | cons x xs ihx =>
          intro hn hmem
          have hmono : ∀ (l : List Nat), (l.filter fun j => !(listed.setIfInBounds i true).getD j false).length ≤ (l.filter fun j => !listed.getD j false).length := fun l => by
            induction l with
            | nil => simp
            | cons y ys ihy =>
              simp only [List.filter_cons]
              rw [getD_set _ _ _ _ hil]
              by_cases e : y = i
              · rw [if_pos e]
                simp only [Bool.not_true, Bool.false_eq_true, if_false]
                split
                · simp only [List.length_cons]; omega
                · exact ihy
              · rw [if_neg e]
                split
                · simp only [List.length_cons]; omega
                · exact ihy
          simp only [List.filter_cons]
          rw [getD_set _ _ _ _ hil]
          by_cases e : x = i
          · subst e
            rw [if_pos rfl, hnl]
            simp only [Bool.not_true, Bool.false_eq_true, if_false, Bool.not_false, if_true, List.length_cons]
            have := hmono xs
            omega
          · rw [if_neg e]
            have h2 := ihx (List.nodup_cons.1 hn).2 (by simpa [Ne.symm e] using hmem)
            split
            · simp only [List.length_cons]; omega
            · exact h2
      exact hsub _ List.nodup_range (List.mem_range.2 hlt)
    have hstep := ht.step hA hlt
    have hnext := ih _ _ _ hstep (fun h0 => by
      intro j hj
      have h1 := hm fuel rfl
      rw [h0] at h1
      cases hb : (listed.setIfInBounds i true).getD j false with
      | true => rfl
      | false =>
        exfalso
        have hlen : ((List.range ops.size).filter fun j => !(listed.setIfInBounds i true).getD j false).length = 0 := by omega
        have hmem : j ∈ (List.range ops.size).filter fun j => !(listed.setIfInBounds i true).getD j false := List.mem_filter.2 ⟨List.mem_range.2 hj, by rw [hb]; rfl⟩
        rw [List.eq_nil_of_length_eq_zero hlen] at hmem
        cases hmem) (fun m _ => by have := hm fuel rfl; omega)
    have hd := hdo i _ listed a cs ho ht (hdep _ ho)
    unfold wpOp
    rw [ho]
    simp only
    have hw : Region.wanted ops[i] (yielded ops a.tmps) = true := by unfold Region.wanted; rw [hgd i _ ho]
    rw [if_pos hw]
    refine .inl ?_
    have hdst : dstOf ops i = ops[i].dst := by unfold dstOf; rw [ho]; rfl
    unfold Does at hd
    unfold Oper.wp
    cases hc : cell i with
    | none =>
      rw [hc] at hd
      simp only at hd
      rw [hd, Oper.upon_value, ← hdst]
      have hsc : stepC val cell i cs = cs := by unfold stepC; rw [hc]
      rw [hsc] at hnext
      exact hnext
    | some k =>
      rw [hc] at hd
      simp only at hd
      rw [hd, Oper.upon_skip, ← hdst, (hA.cin i k hc).2.2, setRow_setCell hg]
      rw [(hA.cin i k hc).2.2] at hnext
      have hsc : stepC val cell i cs = cs.setIfInBounds k (val i) := by unfold stepC; rw [hc]
      rw [hsc] at hnext
      exact hnext
/-- the law -/
theorem wp_region_tab {id : Nat} {w : World} {T : TypeId} (hm : P.follows .mixedOrders = true) (hA : Apart ops a0 cs0 cell) (hB : allAfter ops = true) (hgd : ∀ (i : Nat) o, ops[i]? = some o → o.guard = none) (hg : w.heap[gm]? = some (.cells cs0 T (0, 0)))
    (hdo : ∀ (i : Nat) o listed a cs, ops[i]? = some o → Tab ops a0 cs0 val cell listed a cs → (∀ e ∈ o.after, Region.binds .any e = true → listed.getD e.on false = true) → Does P a ((w.drew).setRow gm cs) gm (val i) (cell i) o)
    (hQ : Q .normal (foldA ops val ops.size a0) ((w.drew).setRow gm (foldC val cell ops.size cs0))) : (Code.region id ops true).wp P Q a0 w := by
  refine wp_region_any hm ?_
  have hw : w.drew = (w.drew).setRow gm cs0 := (setRow_self w.drew gm cs0 T (0, 0) hg).symm
  change wpAny P .any ops Q ops.size (Array.replicate ops.size false) a0 w.drew
  rw [hw]
  refine wpAny_tab (w1 := w.drew) hA hB hgd hg hdo hQ ops.size _ _ _ (Tab.start hA) (fun h0 i hi => by omega) (fun m _ => ?_)
  exact Nat.le_trans (List.length_filter_le _ _) (by simp)
def apartB (ops : Array Oper) (cl : Array (Option Nat)) (n m : Nat) : Bool :=
  ((List.range ops.size).all fun i => (List.range ops.size).all fun j => i == j || (dstOf ops i).isNone || dstOf ops i != dstOf ops j) &&
  ((List.range cl.size).all fun i => (List.range cl.size).all fun j => i == j || (cl.getD i none).isNone || cl.getD i none != cl.getD j none) &&
  ((List.range ops.size).all fun i => (dstOf ops i).all fun d => decide (d < n)) &&
  ((List.range cl.size).all fun i => (cl.getD i none).all fun k => decide (i < ops.size) && decide (k < m) && (dstOf ops i).isNone)
theorem dst_lt {ops : Array Oper} {i : Nat} {d : Tmp} (h : dstOf ops i = some d) : i < ops.size := by
  unfold dstOf at h
  cases ho : ops[i]? with
  | none => rw [ho] at h; cases h
  | some o => exact (Array.getElem?_eq_some_iff.1 ho).1
theorem cl_lt {cl : Array (Option Nat)} {i k : Nat} (h : cl.getD i none = some k) : i < cl.size := by
  rcases Nat.lt_or_ge i cl.size with h1 | h1
  · exact h1
  · rw [Array.getD_eq_getD_getElem?, Array.getElem?_eq_none h1] at h; cases h
theorem apart_of {ops : Array Oper} {a0 : Act} {cs0 : Array Value} (cl : Array (Option Nat)) (n m : Nat) (hn : a0.tmps.size = n) (hm : cs0.size = m) (h : apartB ops cl n m = true) : Apart ops a0 cs0 (fun i => cl.getD i none) := by
  unfold apartB at h
  simp only [Bool.and_eq_true] at h
  obtain ⟨⟨⟨h1, h2⟩, h3⟩, h4⟩ := h
  refine ⟨fun i j d hi hj => ?_, fun i j k hi hj => ?_, fun i d hi => ?_, fun i k hi => ?_⟩
  · have h5 := List.all_eq_true.1 (List.all_eq_true.1 h1 i (List.mem_range.2 (dst_lt hi))) j (List.mem_range.2 (dst_lt hj))
    rw [hi, hj] at h5
    simpa using h5
  · have hi' : cl.getD i none = some k := hi
    have hj' : cl.getD j none = some k := hj
    have h5 := List.all_eq_true.1 (List.all_eq_true.1 h2 i (List.mem_range.2 (cl_lt hi'))) j (List.mem_range.2 (cl_lt hj'))
    rw [hi', hj'] at h5
    simpa using h5
  · have h5 := List.all_eq_true.1 h3 i (List.mem_range.2 (dst_lt hi))
    rw [hi] at h5
    rw [hn]; simpa using h5
  · have hi' : cl.getD i none = some k := hi
    have h5 := List.all_eq_true.1 h4 i (List.mem_range.2 (cl_lt hi'))
    rw [hi'] at h5
    simp only [Option.all_some, Bool.and_eq_true, decide_eq_true_eq, Option.isNone_iff_eq_none] at h5
    exact ⟨h5.1.1, by rw [hm]; exact h5.1.2, h5.2⟩
theorem guards_of {ops : Array Oper} (h : ops.all (fun o => o.guard.isNone) = true) : ∀ (i : Nat) o, ops[i]? = some o → o.guard = none := fun i o ho => by
  obtain ⟨hi, e⟩ := Array.getElem?_eq_some_iff.1 ho
  have := Array.all_eq_true.1 h i hi
  rw [e] at this
  simpa using this
/-- a slot that no operation writes -/
theorem Tab.kept {ops : Array Oper} {a0 : Act} {cs0 : Array Value} {val : Nat → Value} {cell : Nat → Option Nat} {listed : Array Bool} {a : Act} {cs : Array Value} (h : Tab ops a0 cs0 val cell listed a cs) {d : Tmp} (hd : ((List.range ops.size).all fun i => dstOf ops i != some d) = true) : a.tmps[d]? = a0.tmps[d]? :=
  h.old d (fun i hi => by
    have := List.all_eq_true.1 hd i (List.mem_range.2 (dst_lt hi))
    rw [hi] at this
    simp at this)
theorem eval_of {a : Act} {t : Tmp} {v : Value} (h : a.tmps[t]? = some v) : a.eval (.tmp t) = v := by
  unfold Act.eval
  simp [h]
end
end Go.Proofs.Ytbapifbahhjfgaa
