/- match.Matcher.Copy; a matcher that is none. -/
import Derived.Test.YtfhggnbnbopkkaaDoorMatAll
namespace Go.Proofs.YtfhggnbnbopkkaaDoor
open Go.RowKit PM

set_option maxRecDepth 100000
/-- slices.Clone of a row of bytes -/
theorem clone_any (v : Value) (n : Nat) (l : List UInt8) (w : World) (base : Nat) (h : w.ownsRow base TU8 1 v n (bytesC l)) (hn : n ≤ 100000) :
    Calls Tryd.prog 39 #[v] w fun e w' => ∃ v', e = .returned v' ∧ w'.ownsRow w.heap.size TU8 1 v' n (bytesC l) ∧ Below w.heap.size w w' := by
  obtain ⟨i0, hi, hz0, hz1, hz2⟩ := info_parts info_by
  have q24 : ∀ (w : World) (a : Option Addr) (n c n' c' : Nat), (binOp .eql 76 (.slice a n c) (.slice none n' c')).run Tryd.prog w = .ok (.bool a.isNone) w := fun w a n c n' c' => Lib.run_eql_slice_nil w _ _ a n c n' c' Tryd.underlying76
  rcases own_slice h with ⟨rfl, h0⟩ | ⟨g, cap, cs, rfl, h1, _, h3, hg⟩
  · have hl : l = [] := List.eq_nil_of_length_eq_zero (by have := h.1; rw [bytesC_len] at this; omega)
    have HW : Hid (w.ownsRow w.heap.size TU8 1 (.slice none 0 0) n (bytesC l) ∧ Below w.heap.size w w) := Lib.hid ⟨⟨by rw [hl, h0]; rfl, .inl ⟨rfl, h0⟩⟩, rfl, rfl, rfl, Nat.le_refl _, fun _ _ => rfl⟩
    clear h h0 hl
    go_enter Tryd.func39, Tryd.ntmps39
    go_wp2_with fail
    go_ret
    exact ⟨_, rfl, HW.out⟩
  · have hl : l.length = n := by have := h.1; rw [bytesC_len] at this; omega
    have HC := Lib.hid (h.cells (g := g) rfl)
    have HL := Lib.hid hl
    have hone : ∀ u ∈ bytesC l, u.oneCell' = true := fun u hu => by obtain ⟨x, _, rfl⟩ := List.mem_map.1 hu; rfl
    have hbl := bytesC_len l
    rw [hl] at hbl
    clear h hg h3 hl
    go_enter Tryd.func39, Tryd.ntmps39
    go_wp2_with (at_builtin; refine wpList_append_own _ rfl _ _ 76 rfl w.heap.size TU8 i0 (.int .u8 0) 1 1 Tryd.underlying76 hi hz0 hz1 hz2 rfl (by decide) _ _ _ rfl (World.ownsRow_made w #[] 0 (Nat.le_refl _) (Nat.zero_le _) rfl) ⟨g, 0, none⟩ n cap (bytesC l) rfl (by rw [hbl, Nat.mul_one]) ?qc2 hone ?qc4 ?qc5 ?qc6 ?_)
    case qc2 => exact fun j u hj => Lib.cell?_alloc_some _ (HC.out j u hj)
    case qc4 => unfold maxLen; omega
    case qc5 => omega
    case qc6 => simp
    intro v' w1 hown hgrow _
    have hown' : w1.ownsRow w.heap.size TU8 1 v' n (bytesC l) := by
      first | exact hown | simpa using hown
    have hb : Below w.heap.size w w1 := ⟨hgrow.os, hgrow.tape, hgrow.output, by have := hgrow.size; simp at this; omega, fun k hk => (hgrow.block k (by simp; omega) (by simp [Value.ownBlock]; omega)).trans (heap_alloc_old w _ hk)⟩
    have HF := Lib.hid (And.intro hown' hb)
    clear hown hown' hgrow hb
    go_wp2_with fail
    go_ret
    exact ⟨_, rfl, HF.out⟩
theorem feed_nil (s : ByteArray) (w : World) : Calls Tryd.prog 21 #[.pointer none, .string s] w fun e w' => e = .returned (.tuple #[.int .i64 (0 : Nat), .agg (hitC 0 0 0), .bool false]) ∧ Below w.heap.size w w' := by
  have hz := zHit_run
  have HB := Lib.hid (And.intro (below_new w (.cells (hitC 0 0 0) THit)) (heap_alloc_new w (.cells (hitC 0 0 0) THit)))
  go_enter Tryd.func21, Tryd.ntmps21
  go_upto_region 1 with (fail)
  change Code.wp _ _ _ _ (w.alloc (.cells (hitC 0 0 0) THit))
  generalize w.alloc (.cells (hitC 0 0 0) THit) = W0 at *
  obtain ⟨k0, k1, k2, kf⟩ := box_cells HB.out.2
  go_wp2_with fail
  exact bodyPost_ret (results_feed rfl rfl rfl (box_set HB.out.2 0 0 0)) rfl ⟨rfl, HB.out.1.trans (box_below _ _ _ _ _)⟩
theorem buffer_nil (w : World) : Calls Tryd.prog 23 #[.pointer none] w fun e w' => e = .returned (.string ⟨#[]⟩) ∧ w' = w := by
  go_enter Tryd.func23, Tryd.ntmps23
  go_wp2_with fail
  go_ret
  exact ⟨rfl, rfl⟩
theorem mcopy_nil (w : World) : Calls Tryd.prog 28 #[.pointer none] w fun e w' => e = .returned (.pointer none) ∧ w' = w := by
  go_enter Tryd.func28, Tryd.ntmps28
  go_wp2_with fail
  go_ret
  exact ⟨rfl, rfl⟩
/-- a row under way: so many tracks copied -/
structure CpR (w1 wr : World) (a : Arm) (cur : List UInt8) (l l' : List Tr) (k : Nat) (rv : Value) : Prop where
  up : Below w1.heap.size w1 wr
  own : wr.ownsRow w1.heap.size TTr 2 rv k (trsC l')
  len : l'.length = k
  is : ∀ (j : Nat) y y', l[j]? = some y → l'[j]? = some y' → y'.p = y.p ∧ RunAt wr y'.r a.b a.t (txt cur y)
  ge : ∀ y ∈ l', w1.heap.size ≤ y.r ∧ y.r < wr.heap.size
  nd : (l'.map (·.r)).Nodup
theorem CpR.start (w : World) (a : Arm) (cur : List UInt8) (l : List Tr) : CpR w w a cur l [] 0 (.slice none 0 0) :=
  ⟨⟨rfl, rfl, rfl, Nat.le_refl _, fun _ _ => rfl⟩, ⟨rfl, .inl ⟨rfl, rfl⟩⟩, rfl, fun j y y' _ h => by simp at h, fun y h => (by cases h), List.Pairwise.nil⟩
theorem CpR.on {w1 wr w' : World} {a : Arm} {cur : List UInt8} {l l' : List Tr} {k : Nat} {rv : Value} (h : CpR w1 wr a cur l l' k rv) (hb : Below wr.heap.size wr w') : CpR w1 w' a cur l l' k rv :=
  ⟨below_then h.up hb (Nat.le_refl _), own_keep h.own fun g hg => hb.block g (h.own.lt g hg).2, h.len, fun j y y' h1 h2 => by
    obtain ⟨h3, h4⟩ := h.is j y y' h1 h2
    exact ⟨h3, run_other h4 (hb.block _ (RB.lt h4))⟩, fun y hy => ⟨(h.ge y hy).1, Nat.lt_of_lt_of_le (h.ge y hy).2 hb.size⟩, h.nd⟩
/-- a track more is copied -/
theorem CpR.next {w1 wr w2 w3 : World} {a : Arm} {cur : List UInt8} {l l' : List Tr} {k g cap : Nat} {rv : Value} {y : Tr} (h : CpR w1 wr a cur l l' k rv) (hy : l[k]? = some y) {r : Nat} (hr1 : wr.heap.size ≤ r) (hr2 : RunAt w2 r a.b a.t (txt cur y)) (hb2 : Below wr.heap.size wr w2) (o : Obj)
    (hown : w3.ownsRow w1.heap.size TTr 2 (.slice (some ⟨g, 0, none⟩) (k + 1) cap) (k + 1) (trsC l' ++ [.pointer (some ⟨r, 0, none⟩), .int .i64 y.p])) (hgrow : (w2.alloc o).grownBy w3 rv.ownBlock) : CpR w1 w3 a cur l (l' ++ [⟨y.p, r⟩]) (k + 1) (.slice (some ⟨g, 0, none⟩) (k + 1) cap) := by
  have h2 := h.on hb2
  have hkeep : ∀ {b : Nat} {cs : Array Value} {ty : TypeId}, w2.heap[b]? = some (.cells cs ty (0, 0)) → ty ≠ TTr → w3.heap[b]? = w2.heap[b]? := fun {b cs ty} hk hne => by
    have hl := lt_of_block hk
    exact (hgrow.block b (by rw [World.size_alloc]; omega) (fun e => by
      obtain ⟨cs', h1⟩ := own_typed h2.own e.symm
      exact ty_ne hk h1 hne rfl)).trans (heap_alloc_old w2 o hl)
  have hs := hgrow.size
  rw [World.size_alloc] at hs
  have hrl := RB.lt hr2
  have hup := h2.up.size
  refine ⟨⟨hgrow.os.trans h2.up.os, hgrow.tape.trans h2.up.tape, hgrow.output.trans h2.up.output, by omega, fun b hb => ?_⟩, ?_, by simp [h.len], fun j x x' hx hx' => ?_, fun x hx => ?_, ?_⟩
  · exact ((hgrow.block b (by rw [World.size_alloc]; omega) (fun e => by have := (h2.own.lt b e.symm).1; omega)).trans (heap_alloc_old w2 o (by omega))).trans (h2.up.block b hb)
  · rw [trsC_append]; exact hown
  · by_cases hj : j < k
    · rw [List.getElem?_append_left (by rw [h.len]; exact hj)] at hx'
      obtain ⟨h3, h4⟩ := h2.is j x x' hx hx'
      exact ⟨h3, run_other h4 (hkeep (ty := TRn) h4 (by decide))⟩
    · rw [List.getElem?_append_right (by rw [h.len]; omega)] at hx'
      obtain ⟨hl, he⟩ := List.getElem?_eq_some_iff.1 hx'
      simp at hl he
      obtain rfl : j = k := by rw [h.len] at hl; omega
      rw [hy] at hx; cases hx
      subst he
      exact ⟨rfl, run_other hr2 (hkeep (ty := TRn) hr2 (by decide))⟩
  · rcases List.mem_append.1 hx with hx | hx
    · have := h2.ge x hx
      exact ⟨this.1, by omega⟩
    · rw [List.mem_singleton.1 hx]
      have := h.up.size
      exact ⟨by show w1.heap.size ≤ r; omega, by show r < w3.heap.size; omega⟩
  · rw [List.map_append, List.nodup_append]
    refine ⟨h.nd, by simp, fun b hb b' hb' e => ?_⟩
    simp only [List.map_cons, List.map_nil, List.mem_singleton] at hb'
    obtain ⟨x, hx, rfl⟩ := List.mem_map.1 hb
    have := (h.ge x hx).2
    omega
/-- the row is whole -/
theorem CpR.done {w1 wr : World} {a : Arm} {cur : List UInt8} {q : Rw} {l' : List Tr} {rv : Value} (h : CpR w1 wr a cur q.l l' q.l.length rv) (hA : ArmAt w1 a cur false q) (h0 : 0 < w1.heap.size) : ArmAt wr a cur false ⟨rv, l'⟩ ∧ ∀ k, Rw.has ⟨rv, l'⟩ k → w1.heap.size ≤ k := by
  have hp : l'.map (fun y => y.p) = q.l.map fun y => y.p := by
    refine List.ext_getElem? fun j => ?_
    rw [List.getElem?_map, List.getElem?_map]
    by_cases hj : j < q.l.length
    · obtain ⟨y, hy⟩ : ∃ y, q.l[j]? = some y := ⟨_, List.getElem?_eq_getElem hj⟩
      obtain ⟨y', hy'⟩ : ∃ y', l'[j]? = some y' := ⟨_, List.getElem?_eq_getElem (by rw [h.len]; exact hj)⟩
      rw [hy, hy']
      exact congrArg some (h.is j y y' hy hy').1
    · rw [List.getElem?_eq_none (by rw [h.len]; omega), List.getElem?_eq_none (by omega)]
  have hr : ∀ y' ∈ l', RunAt wr y'.r a.b a.t (txt cur y') := fun y' hy' => by
    obtain ⟨j, hj, e⟩ := List.mem_iff_getElem.1 hy'
    have h1 : l'[j]? = some y' := (List.getElem?_eq_getElem hj).trans (by rw [e])
    obtain ⟨y, hy⟩ : ∃ y, q.l[j]? = some y := ⟨_, List.getElem?_eq_getElem (by rw [← h.len]; exact hj)⟩
    obtain ⟨h2, h3⟩ := h.is j y y' hy h1
    have : txt cur y' = txt cur y := by unfold txt; rw [h2]
    rw [this]; exact h3
  refine ⟨⟨?_, fun y hy => ⟨fun _ => hr y hy, _, hr y hy⟩, ?_, h.nd⟩, fun k hk => ?_⟩
  · show wr.ownsRow 1 TTr 2 rv l'.length (trsC l')
    rw [h.len]; exact h.own.mono h0
  · have := hA.trk
    unfold Trk at this ⊢
    exact hp.trans this
  · rcases hk with hk | hk
    · exact (h.own.lt k hk).1
    · obtain ⟨y, hy, rfl⟩ := List.mem_map.1 hk
      exact (h.ge y hy).1
/-- a matcher under way: so many rows copied -/
structure CpM (w wr : World) (x : Mx) (arms : List Arm) (buf cur : List UInt8) (i Y : Nat) (tv bv' : Value) (Q : List Rw) : Prop where
  up : Below w.heap.size w wr
  ge : w.heap.size ≤ Y
  blk : wr.heap[Y]? = some (.cells #[.slice (some ⟨x.N, 0, none⟩) arms.length x.cN, tv, bv'] TMa (0, 0))
  buf : wr.ownsRow w.heap.size TU8 1 bv' buf.length (bytesC buf)
  own : wr.ownsRow w.heap.size TTs 1 tv i (Q.map (·.v))
  len : Q.length = i
  at' : ∀ (j : Nat) a q, arms[j]? = some a → Q[j]? = some q → ArmAt wr a cur false q
  apart : ∀ (j j' : Nat) q q' k, Q[j]? = some q → Q[j']? = some q' → j ≠ j' → q.has k → ¬ q'.has k
  low : ∀ q ∈ Q, ∀ k, q.has k → w.heap.size ≤ k
theorem CpM.lt {w wr : World} {x : Mx} {arms : List Arm} {buf cur : List UInt8} {i Y : Nat} {tv bv' : Value} {Q : List Rw} (h : CpM w wr x arms buf cur i Y tv bv' Q) (hi : i ≤ arms.length) : ∀ (j : Nat) q, Q[j]? = some q → ∀ k, q.has k → ∃ cs ty, wr.heap[k]? = some (.cells cs ty (0, 0)) ∧ (ty = TTr ∨ ty = TRn) := fun j q hq k hk => by
  have hj := (List.getElem?_eq_some_iff.1 hq).1
  rw [h.len] at hj
  exact (h.at' j _ q (List.getElem?_eq_getElem (by omega)) hq).typed hk
theorem CpM.on {w wr w' : World} {x : Mx} {arms : List Arm} {buf cur : List UInt8} {i Y : Nat} {tv bv' : Value} {Q : List Rw} (h : CpM w wr x arms buf cur i Y tv bv' Q) (hi : i ≤ arms.length) (hb : Below wr.heap.size wr w') : CpM w w' x arms buf cur i Y tv bv' Q :=
  ⟨below_then h.up hb (Nat.le_refl _), h.ge, (hb.block _ (lt_of_block h.blk)).trans h.blk, own_keep h.buf fun g hg => hb.block g (h.buf.lt g hg).2, own_keep h.own fun g hg => hb.block g (h.own.lt g hg).2, h.len, fun j a q ha hq => (h.at' j a q ha hq).keep fun k hk => by
    obtain ⟨cs, ty, h1, _⟩ := h.lt hi j q hq k hk
    exact hb.block k (lt_of_block h1), h.apart, h.low⟩
/-- a row more is copied -/
theorem CpM.next {w wr w2 w3 : World} {x : Mx} {arms : List Arm} {buf cur : List UInt8} {i Y g cap : Nat} {tv bv' rv : Value} {Q : List Rw} {a : Arm} {l' : List Tr} (h : CpM w wr x arms buf cur i Y tv bv' Q) (hi : i < arms.length) (hai : arms[i]? = some a) (hb2 : Below wr.heap.size wr w2) (hA : ArmAt w2 a cur false ⟨rv, l'⟩) (hge : ∀ k, Rw.has ⟨rv, l'⟩ k → wr.heap.size ≤ k) (o : Obj)
    (hown : w3.ownsRow w.heap.size TTs 1 (.slice (some ⟨g, 0, none⟩) (i + 1) cap) (i + 1) (Q.map (·.v) ++ [rv])) (hgrow : (w2.alloc o).grownBy w3 tv.ownBlock) :
    CpM w (w3.setCell ⟨Y, 1, none⟩ (.slice (some ⟨g, 0, none⟩) (i + 1) cap)) x arms buf cur (i + 1) Y (.slice (some ⟨g, 0, none⟩) (i + 1) cap) bv' (Q ++ [⟨rv, l'⟩]) := by
  have h2 := h.on (Nat.le_of_lt hi) hb2
  have hk3 : ∀ {b : Nat} {cs : Array Value} {ty : TypeId}, w2.heap[b]? = some (.cells cs ty (0, 0)) → ty ≠ TTs → w3.heap[b]? = w2.heap[b]? := fun {b cs ty} hk hne => by
    have hl := lt_of_block hk
    exact (hgrow.block b (by rw [World.size_alloc]; omega) (fun e => by
      obtain ⟨cs', h1⟩ := own_typed h2.own e.symm
      exact ty_ne hk h1 hne rfl)).trans (heap_alloc_old w2 o hl)
  have hY3 := (hk3 h2.blk (by decide)).trans h2.blk
  have hk4 : ∀ {b : Nat} {cs : Array Value} {ty : TypeId}, w2.heap[b]? = some (.cells cs ty (0, 0)) → ty ≠ TTs → ty ≠ TMa → (w3.setCell ⟨Y, 1, none⟩ (.slice (some ⟨g, 0, none⟩) (i + 1) cap)).heap[b]? = w2.heap[b]? := fun {b cs ty} hk h3 h4 => (heap_setCell_other w3 ⟨Y, 1, none⟩ b _ (ty_ne hk h2.blk h4)).trans (hk3 hk h3)
  obtain ⟨csg, hg3⟩ := own_typed hown (k := g) rfl
  have hgY : g ≠ Y := ty_ne hg3 hY3 (by decide)
  have hs := hgrow.size
  rw [World.size_alloc] at hs
  have hup := h2.up.size
  refine ⟨⟨hgrow.os.trans h2.up.os, hgrow.tape.trans h2.up.tape, hgrow.output.trans h2.up.output, by simp only [World.size_setCell]; omega, fun b hb => ?_⟩, h.ge, ?_, ?_, ?_, by simp [h.len], fun j b q hb hq => ?_, fun j j' q q' k hq hq' hjj hk hk' => ?_, fun q hq k hk => ?_⟩
  · exact ((heap_setCell_other w3 ⟨Y, 1, none⟩ b _ (by show b ≠ Y; have := h.ge; omega)).trans ((hgrow.block b (by rw [World.size_alloc]; omega) (fun e => by have := (h2.own.lt b e.symm).1; omega)).trans (heap_alloc_old w2 o (by omega)))).trans (h2.up.block b hb)
  · exact heap_setCell_same w3 Y 1 _ _ (.slice (some ⟨g, 0, none⟩) (i + 1) cap) hY3
  · exact own_keep h2.buf fun b hb => by
      obtain ⟨cs, h3⟩ := own_typed h2.buf hb
      exact hk4 h3 (by decide) (by decide)
  · rw [List.map_append]
    exact own_keep hown fun b hb => by
      cases hb
      exact heap_setCell_other w3 ⟨Y, 1, none⟩ g _ hgY
  · have hty : ∀ {q : Rw}, ArmAt w2 b cur false q → ArmAt (w3.setCell ⟨Y, 1, none⟩ (.slice (some ⟨g, 0, none⟩) (i + 1) cap)) b cur false q := fun {q} hq => hq.keep fun k hk => by
      obtain ⟨cs, ty, h3, h4⟩ := hq.typed hk
      exact hk4 h3 (by rcases h4 with rfl | rfl <;> decide) (by rcases h4 with rfl | rfl <;> decide)
    by_cases hj : j < i
    · rw [List.getElem?_append_left (by rw [h.len]; exact hj)] at hq
      exact hty (h2.at' j b q hb hq)
    · rw [List.getElem?_append_right (by rw [h.len]; omega)] at hq
      obtain ⟨hl, he⟩ := List.getElem?_eq_some_iff.1 hq
      simp at hl he
      obtain rfl : j = i := by rw [h.len] at hl; omega
      rw [hai] at hb; cases hb
      subst he
      exact hty hA
  · have hold : ∀ (j : Nat) q k, j < i → Q[j]? = some q → q.has k → k < wr.heap.size := fun j q k _ hq hk => by
      obtain ⟨cs, ty, h3, _⟩ := h.lt (Nat.le_of_lt hi) j q hq k hk
      exact lt_of_block h3
    have hcase : ∀ (j : Nat) q, (Q ++ [(⟨rv, l'⟩ : Rw)])[j]? = some q → (j < i ∧ Q[j]? = some q) ∨ (j = i ∧ q = ⟨rv, l'⟩) := fun j q hq => by
      by_cases hj : j < i
      · rw [List.getElem?_append_left (by rw [h.len]; exact hj)] at hq
        exact .inl ⟨hj, hq⟩
      · rw [List.getElem?_append_right (by rw [h.len]; omega)] at hq
        obtain ⟨hl, he⟩ := List.getElem?_eq_some_iff.1 hq
        simp at hl he
        exact .inr ⟨by rw [h.len] at hl; omega, he.symm⟩
    rcases hcase j q hq with ⟨h3, h4⟩ | ⟨rfl, rfl⟩
    · rcases hcase j' q' hq' with ⟨h5, h6⟩ | ⟨rfl, rfl⟩
      · exact h.apart j j' q q' k h4 h6 hjj hk hk'
      · have e1 := hold j q k h3 h4 hk
        have e2 := hge k hk'
        omega
    · rcases hcase j' q' hq' with ⟨h5, h6⟩ | ⟨rfl, rfl⟩
      · have e1 := hold j' q' k h5 h6 hk'
        have e2 := hge k hk
        omega
      · exact hjj rfl
  · rcases List.mem_append.1 hq with hq | hq
    · exact h.low q hq k hk
    · rw [List.mem_singleton.1 hq] at hk
      have := hge k hk
      have := h.up.size
      omega
def CopyIs (arms : List Arm) (buf cur : List UInt8) (w : World) (e : Ending) (w' : World) : Prop :=
  ∃ y R' bv', e = .returned (.pointer (some ⟨y.mb, 0, none⟩)) ∧ MaIs w' y arms buf cur R' bv' ∧ Below w.heap.size w w' ∧ ∀ k, OwnM y R' bv' k → w.heap.size ≤ k
theorem CpM.done {w wr : World} {x : Mx} {arms : List Arm} {buf cur : List UInt8} {R : List Rw} {bv : Value} {Y : Nat} {tv bv' : Value} {Q : List Rw} (hm : MaIs w x arms buf cur R bv) (h : CpM w wr x arms buf cur arms.length Y tv bv' Q) (h1 : 0 < arms.length) : CopyIs arms buf cur w (.returned (.pointer (some ⟨Y, 0, none⟩))) wr := by
  have h0 := hm.nets.tab.lt
  rcases own_slice h.own with ⟨_, hn⟩ | ⟨g, cap, cs, hv, h2, h3, h4, hg⟩
  · omega
  · subst hv
    have hmx := hm.on h.up
    refine ⟨⟨Y, x.N, x.cN, g, cap⟩, Q, bv', rfl, ⟨h.blk, h.buf.mono (by omega), ⟨hmx.nets.row, hmx.nets.net, hmx.nets.tab⟩, ?_, ⟨h.len, h.at', h.apart⟩, hm.few⟩, h.up, fun k hk => ?_⟩
    · show wr.ownsRow 1 TTs 1 (.slice (some ⟨g, 0, none⟩) Q.length cap) Q.length (Q.map (·.v))
      rw [h.len]; exact h.own.mono (by omega)
    · rcases hk with rfl | hk | hk | ⟨q, hq, hk⟩
      · exact h.ge
      · exact (h.buf.lt k hk).1
      · rw [hk]; exact (h.own.lt g rfl).1
      · exact h.low q hq k hk
set_option maxHeartbeats 8000000 in
theorem mcopy_any (x : Mx) (arms : List Arm) (buf cur : List UInt8) (R : List Rw) (bv : Value) (w : World) (hm : MaIs w x arms buf cur R bv) (h1 : 0 < arms.length) (hb : buf.length ≤ 100000) (hc : cur.length ≤ 100000) :
    Calls Tryd.prog 28 #[.pointer (some ⟨x.mb, 0, none⟩)] w (CopyIs arms buf cur w) := by
  obtain ⟨k0, k1, k2, _⟩ := hm.cells
  have HM := Lib.hid hm
  have h8 := hm.few
  have hlt := lt_of_block hm.blk
  clear hm
  have HCL : Hid (∀ W, Below w.heap.size w W → Calls Tryd.prog 39 #[bv] W fun e w' => ∃ A c, e = .returned (.slice A buf.length c) ∧ w'.ownsRow w.heap.size TU8 1 (.slice A buf.length c) buf.length (bytesC buf) ∧ Below w.heap.size w w') := Lib.hid fun W hW => (clone_any bv buf.length buf W 1 (own_keep HM.out.buf fun g hg => hW.block g (HM.out.buf.lt g hg).2) hb).mono fun e w' ⟨v', h1, h2, h3⟩ => by
    rcases own_slice h2 with ⟨hv, h0⟩ | ⟨g, cap, cs, hv, _⟩
    · have e2 : v' = .slice none buf.length 0 := by rw [hv, h0]
      subst e2
      exact ⟨none, 0, h1, h2.mono hW.size, hW.trans (h3.mono hW.size)⟩
    · subst hv
      exact ⟨_, cap, h1, h2.mono hW.size, hW.trans (h3.mono hW.size)⟩
  obtain ⟨bl, hbl⟩ : ∃ bl, buf.length = bl := ⟨_, rfl⟩
  rw [hbl] at HCL
  have HBL := Lib.hid hbl
  clear hbl
  have HS : Hid (∀ W, Below w.heap.size w W → W.cell? ⟨x.mb, 0, none⟩ = some (.slice (some ⟨x.N, 0, none⟩) arms.length x.cN) ∧ W.cell? ⟨x.mb, 2, none⟩ = some bv) := Lib.hid fun W hW => ⟨(hW.cell hlt).trans k0, (hW.cell hlt).trans k2⟩
  go_enter Tryd.func28, Tryd.ntmps28
  go_upto_region 3 with (fail)
  go_region_held3 (fun w' => w'.cell? ⟨x.mb, 0, none⟩ = some (.slice (some ⟨x.N, 0, none⟩) arms.length x.cN) ∧ w'.cell? ⟨x.mb, 2, none⟩ = some bv)
    (first | exact ⟨k0, k2⟩ | exact HS.out _ ⟨rfl, rfl, rfl, Nat.le_refl _, fun _ _ => rfl⟩ | exact HS.out _ hb2 | exact HS.out _ (hb2.trans ((below_new _ _).mono hb2.size)))
    (first | (go_at_call 39; refine (HCL.out w.drew ⟨rfl, rfl, rfl, Nat.le_refl _, fun _ _ => rfl⟩).mono ?_; rintro e w2 ⟨A2, c2, rfl, hown, hb2⟩))
  have hbn := below_new w2 (.cells #[.slice (some ⟨x.N, 0, none⟩) arms.length x.cN, .slice none 0 0, .slice A2 bl c2] TMa)
  have HI : Hid (CpM w (w2.alloc (.cells #[.slice (some ⟨x.N, 0, none⟩) arms.length x.cN, .slice none 0 0, .slice A2 bl c2] TMa)) x arms buf cur 0 w2.heap.size (.slice none 0 0) (.slice A2 bl c2) []) := Lib.hid ⟨hb2.trans (hbn.mono hb2.size), hb2.size, heap_alloc_new w2 _, by
    rw [HBL.out]
    exact own_keep hown fun g hg => hbn.block g (hown.lt g hg).2, ⟨rfl, .inl ⟨rfl, rfl⟩⟩, rfl, fun j a q _ h => (by simp at h), fun j j' q q' k h => (by simp at h), fun q hq => (by cases hq)⟩
  clear hown hbn HCL HS k0 k2
  go_upto_region 4 with (fail)
  change Code.wp _ _ _ _ (w2.alloc (.cells #[.slice (some ⟨x.N, 0, none⟩) arms.length x.cN, .slice none 0 0, .slice A2 bl c2] TMa))
  generalize w2.alloc (.cells #[.slice (some ⟨x.N, 0, none⟩) arms.length x.cN, .slice none 0 0, .slice A2 bl c2] TMa) = W3 at *
  clear hb2
  generalize w2.heap.size = Y at *
  have k1' : W3.cell? ⟨x.mb, 1, none⟩ = some (.slice (some ⟨x.O, 0, none⟩) arms.length x.cO) := (HI.out.up.cell hlt).trans k1
  go_upto_region 5 with (fail)
  go_loopg [27] (arms.length + 1) (fun k v27 wr => ∃ (i : Nat) (tv : Value) (Q : List Rw), v27 = .int .i64 i ∧ i ≤ arms.length ∧ arms.length + 1 - i ≤ k ∧ Hid (CpM w wr x arms buf cur i Y tv (.slice A2 bl c2) Q))
  case atStart => exact ⟨0, _, [], rfl, by omega, by omega, HI⟩
  case round =>
    clear HI k1'
    obtain ⟨i, tv, Q, rfl, hi, hik, HX⟩ := hrel
    have hi0 : (0 : Int) ≤ i := by omega
    by_cases hil : i < arms.length
    · have hil1 : (i : Int) < arms.length := by omega
      obtain ⟨a, hai⟩ : ∃ a, arms[i]? = some a := ⟨_, List.getElem?_eq_getElem hil⟩
      have HMR := Lib.hid (HM.out.on HX.out.up)
      obtain ⟨q, hqi⟩ : ∃ q, R[i]? = some q := ⟨_, List.getElem?_eq_getElem (by rw [HM.out.trks.len]; exact hil)⟩
      have HAT := Lib.hid (HMR.out.trks.at' i a q hai hqi)
      have q0 := rows_cell HMR.out.rows hqi
      obtain ⟨A3, cp3, hqv, hqg⟩ : ∃ A cap, q.v = .slice A q.l.length cap ∧ (0 < q.l.length → ∃ g, A = some ⟨g, 0, none⟩) := by
        rcases own_slice HAT.out.own with ⟨h2, h3⟩ | ⟨g, cap, _, h2, _⟩
        · exact ⟨none, 0, by rw [h2, h3], fun e => by omega⟩
        · exact ⟨_, cap, h2, fun _ => ⟨g, rfl⟩⟩
      obtain ⟨L, hL⟩ : ∃ L, q.l.length = L := ⟨_, rfl⟩
      have hLb : L ≤ 100001 := by
        have : q.l.length ≤ cur.length + 1 := HAT.out.trk.short
        omega
      rw [hqv, hL] at q0
      have HQ := Lib.hid (And.intro hqv (And.intro hqg (And.intro hL hai)))
      clear hqv hqg hL hai hqi
      obtain ⟨g0, hg0⟩ : ∃ g0, g0 = gk := ⟨_, rfl⟩
      subst hg0
      go_upto_region 9 with (fail)
      clear q0
      obtain ⟨wo, hwo⟩ : ∃ wo, wo = wr := ⟨_, rfl⟩
      have HWO := Lib.hid hwo
      clear hwo
      go_loopg [33, 6] (L + 1) (fun k v33 v6 wq => ∃ (m : Nat) (l' : List Tr), v33 = .int .i64 m ∧ m ≤ L ∧ L + 1 - m ≤ k ∧ Hid (CpR wo wq a cur q.l l' m v6))
      case atStart => exact ⟨0, [], rfl, by omega, by omega, Lib.hid (by rw [HWO.out]; exact CpR.start wr a cur q.l)⟩
      case round =>
        obtain ⟨m, l', rfl, hm, hmk, HE⟩ := hrel
        have hm0 : (0 : Int) ≤ m := by omega
        by_cases hml : m < L
        · have hml1 : (m : Int) < L := by omega
          obtain ⟨y, hy⟩ : ∃ y, q.l[m]? = some y := ⟨_, List.getElem?_eq_getElem (by rw [HQ.out.2.2.1]; exact hml)⟩
          obtain ⟨g2, hA2⟩ := HQ.out.2.1 (by rw [HQ.out.2.2.1]; omega)
          subst hA2
          have hrow := own_keep (w' := wr) HAT.out.own fun g hg => by
            have := HE.out.up.block g (by rw [HWO.out]; exact (HAT.out.own.lt g hg).2)
            rw [HWO.out] at this
            exact this
          rw [HQ.out.1] at hrow
          obtain ⟨e0, e1⟩ := trsC_at q.l m y hy
          have hk2 : m * 2 + 1 < q.l.length * 2 := by rw [HQ.out.2.2.1]; omega
          have t0 : wr.cell? ⟨g2, m * 2, none⟩ = some (.pointer (some ⟨y.r, 0, none⟩)) := (hrow.cellAt (m * 2) (by omega)).trans e0
          have t1 : wr.cell? ⟨g2, m * 2 + 1, none⟩ = some (.int .i64 y.p) := (hrow.cellAt (m * 2 + 1) hk2).trans e1
          have HRUN : Hid (RunAt wr y.r a.b a.t (txt cur y)) := Lib.hid (by
            obtain ⟨h2, s, h3⟩ := HAT.out.runs y (List.mem_of_getElem? hy)
            have hp : 0 ≤ y.p := by
              rcases HAT.out.trk.place (List.mem_of_getElem? hy) with ⟨_, h⟩ | ⟨p, h4, _⟩
              · cases h
              · omega
            refine run_other (h2 hp) ?_
            have := HE.out.up.block y.r (by rw [HWO.out]; exact RB.lt h3)
            rw [HWO.out] at this
            exact this)
          have HY := Lib.hid hy
          clear hrow e0 e1 hk2 hy
          go_upto_region 11 with (fail)
          clear t0 t1
          have HE1 := Lib.hid (And.intro (HE.out.on (below_new wr (.cells #[.pointer (some ⟨y.r, 0, none⟩), .int .i64 y.p] TTr))) (And.intro (heap_alloc_new wr (.cells #[.pointer (some ⟨y.r, 0, none⟩), .int .i64 y.p] TTr)) (run_other HRUN.out ((below_new wr (.cells #[.pointer (some ⟨y.r, 0, none⟩), .int .i64 y.p] TTr)).block y.r (RB.lt HRUN.out)))))
          have HNB : Hid (some wr.heap.size ≠ u6.ownBlock) := Lib.hid fun e => by have := (HE.out.own.lt _ e.symm).2; omega
          change Code.wp _ _ _ _ (wr.alloc (.cells #[.pointer (some ⟨y.r, 0, none⟩), .int .i64 y.p] TTr))
          generalize wr.alloc (.cells #[.pointer (some ⟨y.r, 0, none⟩), .int .i64 y.p] TTr) = W1 at *
          obtain ⟨bx, hbx⟩ : ∃ bx, wr.heap.size = bx := ⟨_, rfl⟩
          rw [hbx] at HE1 HNB ⊢
          clear hbx HRUN HE
          have b0 : W1.cell? ⟨bx, 0, none⟩ = some (.pointer (some ⟨y.r, 0, none⟩)) := by rw [cell_of_row _ _ _ _ _ _ HE1.out.2.1]; rfl
          have b1 : W1.cell? ⟨bx, 1, none⟩ = some (.int .i64 y.p) := by rw [cell_of_row _ _ _ _ _ _ HE1.out.2.1]; rfl
          have HBL1 := Lib.hid (lt_of_block HE1.out.2.1)
          have HS : Hid (∀ W, Below W1.heap.size W1 W → W.cell? ⟨bx, 0, none⟩ = some (.pointer (some ⟨y.r, 0, none⟩)) ∧ W.cell? ⟨bx, 1, none⟩ = some (.int .i64 y.p)) := Lib.hid fun W hW => ⟨(hW.cell HBL1.out).trans b0, (hW.cell HBL1.out).trans b1⟩
          have HSA : Hid (∀ W w3, Below W1.heap.size W1 W → W.grownBy w3 u6.ownBlock → w3.cell? ⟨bx, 0, none⟩ = some (.pointer (some ⟨y.r, 0, none⟩)) ∧ w3.cell? ⟨bx, 1, none⟩ = some (.int .i64 y.p)) := Lib.hid fun W w3 hW hg => by
            obtain ⟨h1, h2⟩ := HS.out W hW
            exact ⟨hg.cell h1 HNB.out, hg.cell h2 HNB.out⟩
          have HOW : Hid (∀ W, Below W1.heap.size W1 W → W.ownsRow wo.heap.size TTr 2 u6 m (trsC l')) := Lib.hid fun W hW => own_keep HE1.out.1.own fun g hg => hW.block g (HE1.out.1.own.lt g hg).2
          have HCP : Hid (∀ W, Below W1.heap.size W1 W → Calls Tryd.prog 40 #[.pointer (some ⟨y.r, 0, none⟩)] W fun e w' => ∃ r, e = .returned (.pointer (some ⟨r, 0, none⟩)) ∧ W1.heap.size ≤ r ∧ RunAt w' r a.b a.t (txt cur y) ∧ Below W1.heap.size W1 w') := Lib.hid fun W hW => (copy_any y.r a.b _ _ W (run_other HE1.out.2.2 (hW.block y.r (RB.lt HE1.out.2.2)))).mono fun e w' ⟨h1, h2, h3⟩ => ⟨_, h1, hW.size, h2, hW.trans (h3.mono hW.size)⟩
          have HWB : Hid (∀ W, Below W1.heap.size W1 W → wo.heap.size ≤ W.heap.size) := Lib.hid fun W hW => Nat.le_trans HE1.out.1.up.size hW.size
          obtain ⟨i0, hin, hz0, hz1, hz2⟩ := info_parts info_tr
          go_region_held3 (fun w' => w'.cell? ⟨bx, 0, none⟩ = some (.pointer (some ⟨y.r, 0, none⟩)) ∧ w'.cell? ⟨bx, 1, none⟩ = some (.int .i64 y.p))
            (first | exact ⟨b0, b1⟩ | exact ⟨z1, z2⟩ | exact ⟨y1, y2⟩ | exact ⟨k1', k2'⟩)
            (first | (go_at_call 40; refine (HCP.out W1.drew ⟨rfl, rfl, rfl, Nat.le_refl _, fun _ _ => rfl⟩).mono ?_; rintro e w2 ⟨r, rfl, hr1, hr2, hb2⟩; obtain ⟨k1', k2'⟩ := HS.out w2 hb2; obtain ⟨y1, y2⟩ := HS.out _ (hb2.alloc hb2.size (.cells #[.pointer (some ⟨r, 0, none⟩), .int .i64 y.p] TTr))) | (refine step_append_lies _ rfl (.tmp 37) (.tmp 44) TTs rfl wo.heap.size TTr i0 _ 2 16 Tryd.underlying80 hin hz0 hz1 hz2 rfl (by decide) u6 m (trsC l') rfl (HOW.out _ (hb2.alloc hb2.size _)) ⟨w2.heap.size, 0, none⟩ 1 1 [.pointer (some ⟨r, 0, none⟩), .int .i64 y.p] rfl rfl (World.news_of_block (heap_alloc_new w2 _)) (by simp [Value.oneCell']) (by decide) (by unfold maxLen; omega) (by omega) (HWB.out _ (hb2.alloc hb2.size _)) _ rfl ?_; intro g cap w3 hown hgrow hat hlt3; obtain ⟨z1, z2⟩ := HSA.out _ w3 (hb2.alloc hb2.size _) hgrow))
          all_goals (
            have HN := Lib.hid (HE1.out.1.next HY.out hr1 hr2 hb2 _ hown hgrow)
            clear hin hz0 hz1 hz2 HS HSA HOW HCP HWB hr1 hr2 hb2 hown hgrow hat hlt3 b0 b1 z1 z2 HBL1 HNB HE1
            go_wp2_with fail
            go_roundg (gk - 1)
            case measure => omega
            case rel => exact ⟨m + 1, _, by go_num, by omega, by omega, HN⟩)
        · obtain rfl : m = L := by omega
          obtain ⟨A6, n6, c6, hu6⟩ : ∃ A n c, u6 = .slice A n c := by
            rcases own_slice HE.out.own with ⟨h, _⟩ | ⟨g, cap, _, h, _⟩
            · exact ⟨_, _, _, h⟩
            · exact ⟨_, _, _, h⟩
          subst hu6
          have HAD := Lib.hid ((show CpR wo wr a cur q.l l' q.l.length (.slice A6 n6 c6) by rw [HQ.out.2.2.1]; exact HE.out).done (by rw [HWO.out]; exact HAT.out) (by rw [HWO.out]; exact HMR.out.nets.tab.lt))
          have hupo := HE.out.up
          have HXo := HX.out
          rw [← HWO.out] at HXo
          have HX1 := Lib.hid (And.intro (HXo.on (by omega) hupo) (And.intro HXo hupo))
          clear hupo HXo HE
          have y0 : wr.cell? ⟨Y, 1, none⟩ = some tv := by rw [cell_of_row _ _ _ _ _ _ HX1.out.1.blk]; rfl
          have hn3 := heap_alloc_new wr (.cells #[.slice A6 n6 c6] TTs)
          have HOW := Lib.hid (own_keep (w' := wr.alloc (.cells #[.slice A6 n6 c6] TTs)) HX1.out.1.own fun g hg => heap_alloc_old wr _ (HX1.out.1.own.lt g hg).2)
          have HBS : Hid (w.heap.size ≤ (wr.alloc (.cells #[.slice A6 n6 c6] TTs)).heap.size) := Lib.hid (by rw [World.size_alloc]; have := HX1.out.1.up.size; omega)
          have HYN : Hid (∀ v3, (wr.alloc (.cells #[.slice A6 n6 c6] TTs)).grownBy v3 tv.ownBlock → v3.cell? ⟨Y, 1, none⟩ = some tv ∧ ∀ j, v3.frozen? ⟨Y, j, none⟩ = false) := Lib.hid fun v3 hg => by
            have hne : some Y ≠ tv.ownBlock := fun e => by
              obtain ⟨cs, h2⟩ := own_typed HX1.out.1.own e.symm
              exact ty_ne h2 HX1.out.1.blk (by decide) rfl
            have hl := lt_of_block HX1.out.1.blk
            have h2 := (hg.block Y (by rw [World.size_alloc]; omega) hne).trans ((heap_alloc_old wr (.cells #[.slice A6 n6 c6] TTs) hl).trans HX1.out.1.blk)
            exact ⟨by rw [cell_of_row _ _ _ _ _ _ h2]; rfl, fun j => frozen_of_row _ _ _ _ _ h2⟩
          obtain ⟨i0, hin, hz0, hz1, hz2⟩ := info_parts info_row
          go_wp2_with (at_builtin; go_loud (refine wpList_append_lies _ rfl _ _ 74 rfl w.heap.size TTs i0 (.slice none 0 0) 1 24 Tryd.underlying74 hin hz0 hz1 hz2 rfl (by decide) tv i _ rfl HOW.out ⟨wr.heap.size, 0, none⟩ 1 1 [.slice A6 n6 c6] rfl rfl (World.news_of_block hn3) (by simp [Value.oneCell']) (by decide) (by unfold maxLen; omega) (by omega) HBS.out _ rfl ?_; intro g cap w3 hown hgrow hat hlt3; obtain ⟨hm3, hf3⟩ := HYN.out w3 hgrow))
          have HN := Lib.hid (HX1.out.2.1.next (by omega) HQ.out.2.2.2 HX1.out.2.2 HAD.out.1 HAD.out.2 _ hown hgrow)
          clear hm3 hf3 hown hgrow hat hlt3 HYN HOW HBS hn3 y0 hin hz0 hz1 hz2 HX1 HAD
          go_roundg (g0 - 1)
          case measure => omega
          case rel => exact ⟨i + 1, _, _, by go_num, by omega, by omega, HN⟩
    · obtain rfl : i = arms.length := by omega
      have HF := Lib.hid (HX.out.done HM.out h1)
      clear HX
      go_wp2_with fail
      go_ret
      exact HF.out
end Go.Proofs.YtfhggnbnbopkkaaDoor
