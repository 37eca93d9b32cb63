/- A matcher's window: its oldest byte goes. -/
import Derived.Test.YtfhggnbnbopkkaaDoorMatFirst
import Derived.Laws.CopyOwn

namespace Go.Proofs.YtfhggnbnbopkkaaDoor
open Go.RowKit PM

set_option maxRecDepth 100000
theorem alive_cons (t : T) (A : Nat → Bool) (d : UInt8) (rest : List UInt8) : alive t A (d :: rest) = (if deadB (netOf t).1 (netOf t).2 A (d :: rest) = true then [] else [0]) ++ (alive t A rest).map (· + 1) := by
  unfold alive
  rw [List.length_cons, List.range_succ_eq_map, List.filter_cons, List.drop_zero, List.filter_map]
  have h : (fun p => !deadB (netOf t).1 (netOf t).2 A (List.drop p (d :: rest))) ∘ Nat.succ = fun p => !deadB (netOf t).1 (netOf t).2 A (rest.drop p) := by
    funext p
    rfl
  rw [h]
  cases deadB (netOf t).1 (netOf t).2 A (d :: rest) <;> rfl
/-- a track's place goes down by one -/
def decT (y : Tr) : Tr := ⟨y.p - 1, y.r⟩
def decL (l : List Tr) (k : Nat) : List Tr := (l.take k).map decT ++ l.drop k
theorem decL_zero (l : List Tr) : decL l 0 = l := by simp [decL]
theorem decL_all (l : List Tr) : decL l l.length = l.map decT := by simp [decL]
theorem decL_len (l : List Tr) (k : Nat) : (decL l k).length = l.length := by simp [decL]; omega
theorem decL_at (l : List Tr) (k j : Nat) : (decL l k)[j]? = (l[j]?).map fun y => if j < k then decT y else y := by
  unfold decL
  by_cases hj : j < k
  · simp only [hj, if_true]
    by_cases hl : j < l.length
    · rw [List.getElem?_append_left (by simp; omega), List.getElem?_map, List.getElem?_take_of_lt hj]
    · rw [List.getElem?_eq_none (by simp; omega), List.getElem?_eq_none (by omega)]; rfl
  · simp only [hj, if_false]
    by_cases hl : k ≤ l.length
    · rw [List.getElem?_append_right (by simp; omega), List.getElem?_drop]
      simp only [List.length_map, List.length_take]
      rw [show k + (j - min k l.length) = j by omega]
      cases l[j]? <;> rfl
    · rw [List.getElem?_eq_none (by simp; omega), List.getElem?_eq_none (by omega)]; rfl
theorem trsC_getp (l : List Tr) (j : Nat) : (trsC l)[j]? = (l[j / 2]?).bind fun x => (trC x)[j % 2]? := by
  induction l generalizing j with
  | nil => simp [trsC]
  | cons y r ih =>
    by_cases hj : j < 2
    · rw [show trsC (y :: r) = trC y ++ trsC r from rfl, List.getElem?_append_left (by simpa [trC] using hj), Nat.mod_eq_of_lt hj, show j / 2 = 0 by omega]; rfl
    · rw [show trsC (y :: r) = trC y ++ trsC r from rfl, List.getElem?_append_right (by simp [trC]; omega), show j - (trC y).length = j - 2 by simp [trC], ih, show j / 2 = (j - 2) / 2 + 1 by omega, show j % 2 = (j - 2) % 2 by omega]; rfl
theorem trsC_dec {l : List Tr} {k : Nat} {y : Tr} (hy : l[k]? = some y) : (trsC (decL l k)).set (k * 2 + 1) (.int .i64 (y.p - 1)) = trsC (decL l (k + 1)) := by
  refine List.ext_getElem? fun j => ?_
  have hk := (List.getElem?_eq_some_iff.1 hy).1
  rw [List.getElem?_set, trsC_getp, trsC_getp, decL_at, decL_at]
  by_cases e : k * 2 + 1 = j
  · rw [if_pos e, if_pos (by rw [trsC_len, decL_len]; omega), show j / 2 = k by omega, hy, show j % 2 = 1 by omega]
    simp [decT, trC]
  · rw [if_neg e]
    by_cases hjk : j / 2 = k
    · rw [hjk, hy, show j % 2 = 0 by omega]
      simp [decT, trC]
    · by_cases h1 : j / 2 < k
      · simp [h1, show j / 2 < k + 1 by omega]
      · simp [h1, show ¬ j / 2 < k + 1 by omega]
/-- an own row's cells turned -/
theorem own_again {w w' : World} {e : TypeId} {size g n cap : Nat} {xs xs' : List Value} {cs cs' : Array Value} (h : w.ownsRow 1 e size (.slice (some ⟨g, 0, none⟩) n cap) n xs) (hg : w.heap[g]? = some (.cells cs e (0, 0))) (hg' : w'.heap[g]? = some (.cells cs' e (0, 0))) (hs : cs'.size = cs.size) (hx : cs'.toList.take (n * size) = xs') (hl : xs'.length = n * size) : w'.ownsRow 1 e size (.slice (some ⟨g, 0, none⟩) n cap) n xs' := by
  refine ⟨hl, ?_⟩
  rcases h.2 with ⟨hv, _⟩ | ⟨g', cap', cs0, hv, h1, h2, h3, h4, h5, _⟩
  · cases hv
  · cases hv
    rw [hg] at h2
    injection h2 with h2; injection h2 with h2 _ _
    subst h2
    exact .inr ⟨g, cap, cs', rfl, h1, hg', h3, h4, by rw [hs]; exact h5, hx⟩
/-- a matcher's buffer is turned -/
theorem MaN.rebuf {w w' : World} {x : Mx} {arms : List Arm} {buf buf' cur : List UInt8} {neg : Nat → Bool} {R : List Rw} {bv bv' : Value} (h : MaN w x arms buf cur neg R bv) (ht : TurnsP (fun k => k = x.mb ∨ bv.ownBlock = some k) w w') (hb : w'.heap[x.mb]? = some (.cells (mV x arms.length bv') TMa (0, 0))) (ho : w'.ownsRow 1 TU8 1 bv' buf'.length (bytesC buf')) : MaN w' x arms buf' cur neg R bv' := by
  have hno : ∀ {k : Nat} {cs : Array Value} {ty : TypeId}, w.heap[k]? = some (.cells cs ty (0, 0)) → ty ≠ TMa → ty ≠ TU8 → w'.heap[k]? = w.heap[k]? := fun {k cs ty} hk h1 h2 => ht.block k (lt_of_block hk) (by
    rintro (e | e)
    · exact ty_ne hk h.blk h1 e
    · obtain ⟨cs', h3⟩ := own_typed h.buf e
      exact ty_ne hk h3 h2 rfl)
  refine ⟨hb, ho, h.nets.keep (fun k cs ty hk hty => hno hk (by rcases hty with rfl | rfl <;> decide) (by rcases hty with rfl | rfl <;> decide)) (ht.block 0 h.nets.tab.lt (fun e => h.zero (by
    rcases e with e | e
    · exact .inl e
    · exact .inr (.inl e)))), own_keep h.rows fun g hg => ?_, h.trks.keep fun k hk => ?_, h.few⟩
  · obtain ⟨cs, h1⟩ := own_typed h.rows hg
    exact hno h1 (by decide) (by decide)
  · obtain ⟨cs, ty, h1, h2⟩ := h.trks.typed hk
    exact hno h1 (by rcases h2 with rfl | rfl <;> decide) (by rcases h2 with rfl | rfl <;> decide)
theorem setRow_turns {w : World} {g : Nat} {cs : Array Value} : TurnsP (fun k => k = g) w (w.setRow g cs) := ⟨rfl, rfl, rfl, by simp [World.setRow], fun k _ hk => setRow_other w g k cs hk⟩
/-- the oldest byte goes, the new one comes -/
theorem buf_shift {w : World} {g cap n : Nat} {d c : UInt8} {rest : List UInt8} {cs : Array Value} (h : w.ownsRow 1 TU8 1 (.slice (some ⟨g, 0, none⟩) n cap) n (bytesC (d :: rest))) (hn : n = rest.length + 1) (hg : w.heap[g]? = some (.cells cs TU8 (0, 0))) :
    ((w.setRow g (cs.toList.take 0 ++ (bytesC rest ++ cs.toList.drop (0 + (bytesC rest).length))).toArray).setCell ⟨g, rest.length, none⟩ (.int .u8 c.toNat)).ownsRow 1 TU8 1 (.slice (some ⟨g, 0, none⟩) n cap) n (bytesC (rest ++ [c])) := by
  obtain ⟨cs0, h1, _, h3, h4, h5⟩ := own_blk h
  rw [hg] at h1
  injection h1 with h1; injection h1 with h1 _ _
  subst h1
  have hs := setRow_heap w g _ ((cs.toList.take 0 ++ (bytesC rest ++ cs.toList.drop (0 + (bytesC rest).length))).toArray) TU8 (0, 0) hg
  have hs2 := heap_setCell_same _ g rest.length _ _ (.int .u8 c.toNat) hs
  refine own_again h hg hs2 ?_ ?_ ?_
  · simp [bytesC_len]; omega
  · rw [Array.toList_setIfInBounds, List.toList_toArray, List.take_zero, List.nil_append]
    refine List.ext_getElem? fun j => ?_
    by_cases hj : j < n * 1
    · rw [List.getElem?_take_of_lt hj, List.getElem?_set]
      by_cases e : rest.length = j
      · rw [if_pos e, if_pos (by simp [bytesC_len]; omega), ← e]
        simp [bytesC]
      · rw [if_neg e, List.getElem?_append_left (by rw [bytesC_len]; omega)]
        simp only [bytesC, List.getElem?_map]
        rw [List.getElem?_append_left (by omega)]
    · rw [List.getElem?_eq_none (by rw [List.length_take]; omega), List.getElem?_eq_none (by rw [bytesC_len]; simp; omega)]
  · rw [bytesC_len]; simp; omega
/-- the tracks' places go down, row by row -/
structure DecS (w wr : World) (R : List Rw) (i k : Nat) : Prop where
  tp : TurnsP (fun b => ∃ q ∈ R, q.v.ownBlock = some b) w wr
  rows : ∀ (j : Nat) q, R[j]? = some q → wr.ownsRow 1 TTr 2 q.v q.l.length (trsC (decL q.l (if j < i then q.l.length else if j = i then k else 0)))
theorem DecS.start {w : World} {x : Mx} {arms : List Arm} {buf cur : List UInt8} {neg : Nat → Bool} {R : List Rw} {bv : Value} (h : MaN w x arms buf cur neg R bv) : DecS w w R 0 0 :=
  ⟨TurnsP.refl _ _, fun j q hq => by
    have e : (if j < 0 then q.l.length else if j = 0 then 0 else 0) = 0 := by rw [if_neg (Nat.not_lt_zero _)]; split <;> rfl
    rw [e, decL_zero]
    obtain ⟨a, ha⟩ : ∃ a, arms[j]? = some a := ⟨_, List.getElem?_eq_getElem (by rw [← h.trks.len]; exact (List.getElem?_eq_some_iff.1 hq).1)⟩
    exact (h.trks.at' j a q ha hq).own⟩
theorem DecS.next {w wr : World} {R : List Rw} {i : Nat} {q : Rw} (h : DecS w wr R i q.l.length) (hq : R[i]? = some q) : DecS w wr R (i + 1) 0 :=
  ⟨h.tp, fun j q' hq' => by
    have := h.rows j q' hq'
    by_cases h1 : j < i
    · rw [if_pos h1] at this; rw [if_pos (by omega)]; exact this
    · by_cases h2 : j = i
      · subst h2; rw [hq] at hq'; cases hq'
        rw [if_neg h1, if_pos rfl] at this; rw [if_pos (by omega)]; exact this
      · rw [if_neg h1, if_neg h2] at this; rw [if_neg (by omega)]
        split <;> exact this⟩
theorem DecS.dec {w wr : World} {x : Mx} {arms : List Arm} {buf cur : List UInt8} {neg : Nat → Bool} {R : List Rw} {bv : Value} (hm : MaN w x arms buf cur neg R bv) {i k g cap : Nat} {q : Rw} {y : Tr} (h : DecS w wr R i k) (hq : R[i]? = some q) (hv : q.v = .slice (some ⟨g, 0, none⟩) q.l.length cap) (hy : q.l[k]? = some y) :
    wr.cell? ⟨g, k * 2 + 1, none⟩ = some (.int .i64 y.p) ∧ wr.frozen? ⟨g, k * 2 + 1, none⟩ = false ∧ DecS w (wr.setCell ⟨g, k * 2 + 1, none⟩ (.int .i64 (y.p - 1))) R i (k + 1) := by
  have hr := h.rows i q hq
  rw [if_neg (Nat.lt_irrefl _), if_pos rfl, hv] at hr
  have hkl := (List.getElem?_eq_some_iff.1 hy).1
  have hc := hr.cellAt (k * 2 + 1) (by omega)
  have hyd : (decL q.l k)[k]? = some y := by rw [decL_at, hy]; simp
  rw [(trsC_at _ _ _ hyd).2] at hc
  refine ⟨hc, hr.frozenAt _, h.tp.trans ((TurnsP.of_set wr g (k * 2 + 1) _).mono fun b hb => ⟨q, List.mem_of_getElem? hq, by rw [hv, hb]; rfl⟩), fun j q' hq' => ?_⟩
  by_cases hji : j = i
  · subst hji; rw [hq] at hq'; cases hq'
    rw [if_neg (Nat.lt_irrefl _), if_pos rfl, hv, ← trsC_dec hy]
    exact (hr.stored (k * 2 + 1) _).1
  · have h0 := h.rows j q' hq'
    have e : (if j < i then q'.l.length else if j = i then k + 1 else 0) = (if j < i then q'.l.length else if j = i then k else 0) := by
      rw [if_neg hji, if_neg hji]
    rw [e]
    refine own_keep h0 fun b hb => heap_setCell_other wr ⟨g, k * 2 + 1, none⟩ b _ (fun e => ?_)
    exact hm.trks.apart i j q q' b hq hq' (Ne.symm hji) (.inl (by rw [hv, e]; rfl)) (.inl hb)
def decR (q : Rw) : Rw := ⟨q.v, q.l.map decT⟩
theorem decR_has {q : Rw} {k : Nat} (h : (decR q).has k) : q.has k := by
  rcases h with h | h
  · exact .inl h
  · refine .inr ?_
    have e : (decR q).l.map (·.r) = q.l.map (·.r) := by
      show (q.l.map decT).map (·.r) = _
      rw [List.map_map]; rfl
    rw [e] at h; exact h
theorem decR_own {x : Mx} {R : List Rw} {bv : Value} {k : Nat} (h : OwnM x (R.map decR) bv k) : OwnM x R bv k := by
  rcases h with h | h | h | ⟨q', hq', h⟩
  · exact .inl h
  · exact .inr (.inl h)
  · exact .inr (.inr (.inl h))
  · obtain ⟨q, hq, rfl⟩ := List.mem_map.1 hq'
    exact .inr (.inr (.inr ⟨q, hq, decR_has h⟩))
/-- which arms have a track from ahead of what is kept -/
def negOf (arms : List Arm) (cur : List UInt8) (j : Nat) : Bool := match arms[j]? with
  | some a => !deadB (netOf a.t).1 (netOf a.t).2 a.A cur
  | none => false
theorem DecS.done {w wr : World} {x : Mx} {arms : List Arm} {buf : List UInt8} {d : UInt8} {rest : List UInt8} {R : List Rw} {bv : Value} (hm : MaIs w x arms buf (d :: rest) R bv) (h : DecS w wr R R.length 0) : MaN wr x arms buf rest (negOf arms (d :: rest)) (R.map decR) bv := by
  have hty : ∀ b, (∃ q ∈ R, q.v.ownBlock = some b) → ∃ cs, w.heap[b]? = some (.cells cs TTr (0, 0)) := fun b ⟨q, hq, hb⟩ => by
    obtain ⟨j, hj, e⟩ := List.mem_iff_getElem.1 hq
    have hq' : R[j]? = some q := (List.getElem?_eq_getElem hj).trans (by rw [e])
    obtain ⟨a, ha⟩ : ∃ a, arms[j]? = some a := ⟨_, List.getElem?_eq_getElem (by rw [← hm.trks.len]; exact hj)⟩
    exact own_typed (hm.trks.at' j a q ha hq').own hb
  have hkeep : ∀ {k : Nat} {cs : Array Value} {ty : TypeId}, w.heap[k]? = some (.cells cs ty (0, 0)) → ty ≠ TTr → wr.heap[k]? = w.heap[k]? := fun {k cs ty} hk hne => h.tp.block k (lt_of_block hk) (fun e => by
    obtain ⟨cs', h1⟩ := hty k e
    exact ty_ne hk h1 hne rfl)
  refine ⟨(hkeep hm.blk (by decide)).trans hm.blk, own_keep hm.buf fun g hg => ?_, hm.nets.keep (fun k cs ty hk hty => hkeep hk (by rcases hty with rfl | rfl <;> decide)) (h.tp.block 0 hm.nets.tab.lt (fun ⟨q, hq, hb⟩ => hm.zero (.inr (.inr (.inr ⟨q, hq, .inl hb⟩))))), ?_, ⟨by rw [List.length_map]; exact hm.trks.len, fun i a q' ha hq' => ?_, fun i j q1 q2 k h1 h2 hij hk1 hk2 => ?_⟩, hm.few⟩
  · obtain ⟨cs, h1⟩ := own_typed hm.buf hg
    exact hkeep h1 (by decide)
  · have : Rows wr x R := own_keep hm.rows fun g hg => by
      obtain ⟨cs, h1⟩ := own_typed hm.rows hg
      exact hkeep h1 (by decide)
    unfold Rows at this ⊢
    rw [List.length_map, List.map_map]
    exact this
  · rw [List.getElem?_map] at hq'
    cases hq : R[i]? with
    | none => rw [hq] at hq'; cases hq'
    | some q =>
      rw [hq] at hq'; cases hq'
      have hA := hm.trks.at' i a q ha hq
      have ho := h.rows i q hq
      rw [if_pos (List.getElem?_eq_some_iff.1 hq).1, decL_all] at ho
      have hneg : negOf arms (d :: rest) i = !deadB (netOf a.t).1 (netOf a.t).2 a.A (d :: rest) := by unfold negOf; rw [ha]
      refine ⟨?_, fun y' hy' => ?_, ?_, ?_⟩
      · show wr.ownsRow 1 TTr 2 q.v (q.l.map decT).length (trsC (q.l.map decT))
        rw [List.length_map]; exact ho
      · obtain ⟨y, hy, rfl⟩ := List.mem_map.1 hy'
        obtain ⟨h1, s, h2⟩ := hA.runs y hy
        have he := hkeep (ty := TRn) h2 (by decide)
        refine ⟨fun hp => ?_, s, run_other h2 he⟩
        have hp' : 0 ≤ y.p - 1 := hp
        have htx : txt rest (decT y) = txt (d :: rest) y := by
          unfold txt decT
          show rest.drop (y.p - 1).toNat = (d :: rest).drop y.p.toNat
          rw [show y.p.toNat = (y.p - 1).toNat + 1 by omega]
          rfl
        rw [htx]
        exact run_other (h1 (by omega)) he
      · have ht := hA.trk
        unfold Trk at ht ⊢
        simp only [Bool.false_eq_true, if_false, List.nil_append] at ht
        show (q.l.map decT).map (fun y : Tr => y.p) = _
        have e : (q.l.map decT).map (fun y : Tr => y.p) = (q.l.map fun y : Tr => y.p).map (· - 1) := by rw [List.map_map, List.map_map]; rfl
        rw [e, ht, alive_cons, hneg]
        cases deadB (netOf a.t).1 (netOf a.t).2 a.A (d :: rest) <;> simp [List.map_map, Function.comp_def]
      · have e : (decR q).l.map (·.r) = q.l.map (·.r) := by
          show (q.l.map decT).map (·.r) = _
          rw [List.map_map]; rfl
        rw [e]; exact hA.nd
  · rw [List.getElem?_map] at h1 h2
    cases e1 : R[i]? with
    | none => rw [e1] at h1; cases h1
    | some p1 =>
      cases e2 : R[j]? with
      | none => rw [e2] at h2; cases h2
      | some p2 =>
        rw [e1] at h1; rw [e2] at h2
        cases h1; cases h2
        exact hm.trks.apart i j p1 p2 k e1 e2 hij (decR_has hk1) (decR_has hk2)
end Go.Proofs.YtfhggnbnbopkkaaDoor

namespace Go.Proofs.YtfhggnbnbopkkaaDoor
open Go.RowKit PM

set_option maxRecDepth 100000
/-- what Feed tells -/
def feedV (x : Nat × Option (Nat × Nat × Nat) × List UInt8) : Ending := match x.2.1 with
  | some (a, p, e) => .returned (.tuple #[.int .i64 x.1, .agg (hitC a p e), .bool true])
  | none => .returned (.tuple #[.int .i64 x.1, .agg (hitC 0 0 0), .bool false])
def FeedIs (x : Mx) (arms : List Arm) (cur : List UInt8) (R : List Rw) (bv : Value) (s : List UInt8) (w : World) (e : Ending) (w' : World) : Prop :=
  e = feedV (feed (trees arms) cur s) ∧ TurnsP (OwnM x R bv) w w' ∧ ∃ R' bv', MaIs w' x arms (feed (trees arms) cur s).2.2 (feed (trees arms) cur s).2.2 R' bv' ∧ ∀ k, OwnM x R' bv' k → k < w.heap.size → OwnM x R bv k
theorem results_feed {tmps : Array Value} {W : World} {g a p e : Nat} {n : Nat} {b : Bool} (h4 : tmps.getD 4 undef = .int .i64 n) (h5 : tmps.getD 5 undef = .pointer (some ⟨g, 0, none⟩)) (h6 : tmps.getD 6 undef = .bool b) (hg : W.heap[g]? = some (.cells (hitC a p e) THit (0, 0))) :
    (results Tryd.f21 tmps).run Tryd.prog W = .ok (.tuple #[.int .i64 n, .agg (hitC a p e), .bool b]) W := by
  have hr : Tryd.f21.results = #[.tmp 4, .cell 5 THit, .tmp 6] := rfl
  have h4' : tmps[4]?.getD undef = .int .i64 n := by simpa using h4
  have h5' : tmps[5]?.getD undef = .pointer (some ⟨g, 0, none⟩) := by simpa using h5
  have h6' : tmps[6]?.getD undef = .bool b := by simpa using h6
  simp only [results, hr]
  simp [h4', h5', h6', asAddr, run_loadVar_row W g THit THit (hitC a p e) (0, 0) _ hg Tryd.underlying26 rfl (by kernel_rfl)]
/-- ahead of a byte: nothing found so far -/
structure FeedS (w wr : World) (x : Mx) (arms : List Arm) (cur : List UInt8) (R0 : List Rw) (bv0 : Value) (s : List UInt8) (i : Nat) (kk : List UInt8) (R : List Rw) (bv : Value) : Prop where
  ma : MaIs wr x arms kk kk R bv
  tp : TurnsP (OwnM x R0 bv0) w wr
  fr : ∀ k, OwnM x R bv k → k < w.heap.size → OwnM x R0 bv0 k
  box : wr.heap[w.heap.size]? = some (.cells (hitC 0 0 0) THit (0, 0))
  fd : feed (trees arms) cur (s.take i) = (i, none, kk)
  len : kk.length ≤ 256
/-- behind the buffer's turn -/
structure FeedC (w wr : World) (x : Mx) (arms : List Arm) (R0 : List Rw) (bv0 : Value) (kk : List UInt8) (c : UInt8) (cu : List UInt8) (neg : Nat → Bool) (R : List Rw) (bv : Value) : Prop where
  ma : MaN wr x arms (cu ++ [c]) cu neg R bv
  tp : TurnsP (OwnM x R0 bv0) w wr
  fr : ∀ k, OwnM x R bv k → k < w.heap.size → OwnM x R0 bv0 k
  box : wr.heap[w.heap.size]? = some (.cells (hitC 0 0 0) THit (0, 0))
  kp : cu ++ [c] = keep (kk ++ [c])
  cut : ∀ j, Cut ((cu.length : Int) + 1) cu.length cu.length (neg j)
  len : cu.length ≤ 255
theorem hit_ty : ¬ OwnTy THit := by unfold OwnTy; decide
/-- a turn of what is owned keeps the rest -/
theorem FeedS.turn {w wr w' : World} {x : Mx} {arms : List Arm} {cur : List UInt8} {R0 : List Rw} {bv0 : Value} {s : List UInt8} {i : Nat} {kk : List UInt8} {R : List Rw} {bv : Value} (h : FeedS w wr x arms cur R0 bv0 s i kk R bv) {P : Nat → Prop} (ht : TurnsP P wr w') (hp : ∀ k, P k → OwnM x R bv k) :
    TurnsP (OwnM x R0 bv0) w w' ∧ w'.heap[w.heap.size]? = some (.cells (hitC 0 0 0) THit (0, 0)) :=
  ⟨h.tp.also ht fun k hk hl => h.fr k (hp k hk) hl, (ht.block _ (lt_of_block h.box) (fun e => h.ma.not h.box hit_ty (hp _ e))).trans h.box⟩
theorem FeedS.shift {w wr w4 w5 : World} {x : Mx} {arms : List Arm} {cur : List UInt8} {R0 : List Rw} {bv0 : Value} {s : List UInt8} {i : Nat} {d c : UInt8} {rest : List UInt8} {R : List Rw} {bv : Value} (h : FeedS w wr x arms cur R0 bv0 s i (d :: rest) R bv) (hl : rest.length = 255)
    (h4 : MaIs w4 x arms (rest ++ [c]) (d :: rest) R bv) (t4 : TurnsP (fun k => bv.ownBlock = some k) wr w4) (h5 : DecS w4 w5 R R.length 0) : FeedC w w5 x arms R0 bv0 (d :: rest) c rest (negOf arms (d :: rest)) (R.map decR) bv := by
  have t5 : TurnsP (OwnM x R bv) wr w5 := (t4.mono fun k hk => .inr (.inl hk)).also h5.tp fun k ⟨q, hq, hb⟩ _ => .inr (.inr (.inr ⟨q, hq, .inl hb⟩))
  obtain ⟨h6, h7⟩ := h.turn t5 fun _ hk => hk
  refine ⟨h5.done h4, h6, fun k hk hlt => h.fr k (decR_own hk) hlt, h7, ?_, fun j => ⟨fun p hp hh => ?_, fun _ => ?_⟩, by omega⟩
  · unfold keep keepN
    rw [List.length_append, List.length_cons, hl]
    rfl
  · omega
  · omega
theorem FeedS.grow {w wr w4 : World} {x : Mx} {arms : List Arm} {cur : List UInt8} {R0 : List Rw} {bv0 : Value} {s : List UInt8} {i : Nat} {c : UInt8} {kk : List UInt8} {R : List Rw} {bv bv' : Value} (h : FeedS w wr x arms cur R0 bv0 s i kk R bv) (hl : kk.length ≤ 255)
    (h4 : MaIs w4 x arms (kk ++ [c]) kk R bv') (t4 : TurnsP (fun k => k = x.mb ∨ bv.ownBlock = some k) wr w4) (hv : ∀ k, bv'.ownBlock = some k → bv.ownBlock = some k ∨ wr.heap.size ≤ k) : FeedC w w4 x arms R0 bv0 kk c kk (fun _ => false) R bv' := by
  have t5 : TurnsP (OwnM x R bv) wr w4 := t4.mono fun k hk => by
    rcases hk with hk | hk
    · exact .inl hk
    · exact .inr (.inl hk)
  obtain ⟨h6, h7⟩ := h.turn t5 fun _ hk => hk
  refine ⟨h4, h6, fun k hk hlt => ?_, h7, (keep_short (by simp; omega)).symm, fun j => ⟨fun p hp hh => by omega, fun e => by cases e⟩, hl⟩
  rcases hk with hk | hk | hk
  · exact h.fr k (.inl hk) hlt
  · rcases hv k hk with hv | hv
    · exact h.fr k (.inr (.inl hv)) hlt
    · have := h.tp.size; omega
  · exact h.fr k (.inr (.inr hk)) hlt
/-- the rows are cleared -/
theorem clear_rows {w : World} {x : Mx} {R : List Rw} (hr : Rows w x R) (hn : 0 < R.length) :
    ∃ w', (∀ ty, (Builtin.clear_ #[74] ty #[.slice (some ⟨x.O, 0, none⟩) R.length x.cO]).run Tryd.prog w = .ok (.tuple #[]) w') ∧ TurnsP (fun k => k = x.O) w w' ∧ Rows w' x (List.replicate R.length nilRow) := by
  obtain ⟨cs, hg, h1, h2, h3, _⟩ := own_blk hr
  obtain ⟨i0, hi, hz0, hz1, hz2⟩ := info_parts info_row
  have hzs : (Builtin.zeroCells (Value.slice none 0 0).cells R.length).toList = List.replicate R.length (.slice none 0 0) := by
    refine List.ext_getElem? fun j => ?_
    rw [List.getElem?_replicate]
    by_cases hj : j < R.length
    · rw [if_pos hj]
      simp [Builtin.zeroCells, Value.cells, hj, Nat.mod_one]
    · rw [if_neg hj]
      simp [Builtin.zeroCells, Value.cells]; omega
  have hst := run_storeCells_cells (P := Tryd.prog) x.O 0 (List.replicate R.length (.slice none 0 0)) 0 w (fun j hj => by
    rw [List.length_replicate] at hj
    rw [Nat.add_zero, Nat.zero_add, cell_of_row _ _ _ _ _ _ hg, Array.getElem?_eq_getElem (by omega)]; rfl) (fun j _ => frozen_of_row _ _ _ _ _ hg) (fun v hv => by rw [(List.mem_replicate.1 hv).2]; rfl)
  rw [Nat.add_zero] at hst
  have hkeep : ∀ (vs : List Value) (o : Nat) (w : World) (cur : Array Value), w.heap[x.O]? = some (.cells cur TTs (0, 0)) → o + vs.length ≤ cur.size → ∃ cur', (w.setCells x.O o vs).heap[x.O]? = some (.cells cur' TTs (0, 0)) ∧ cur'.size = cur.size ∧ TurnsP (fun k => k = x.O) w (w.setCells x.O o vs) ∧ (∀ q, q < o → cur'[q]? = cur[q]?) ∧ ∀ q v, vs[q]? = some v → cur'[o + q]? = some v := by
    intro vs
    induction vs with
    | nil => intro o w cur h _; exact ⟨cur, h, rfl, TurnsP.refl _ _, fun _ _ => rfl, fun q v h => by simp at h⟩
    | cons v r ih =>
      intro o w cur h hs
      rw [List.length_cons] at hs
      obtain ⟨cur', a1, a2, a3, a4, a5⟩ := ih (o + 1) (w.setCell ⟨x.O, o, none⟩ v) _ (heap_setCell_same w x.O o cur TTs v h) (by rw [Array.size_setIfInBounds]; omega)
      refine ⟨cur', a1, by rw [a2, Array.size_setIfInBounds], (TurnsP.of_set w x.O o v).trans a3, fun q hq => ?_, fun q u hu => ?_⟩
      · rw [a4 q (by omega), Array.getElem?_setIfInBounds, if_neg (by omega)]
      · rcases q with _ | q
        · cases hu
          rw [a4 (o + 0) (by omega), Array.getElem?_setIfInBounds, if_pos (by omega), if_pos (by omega)]
        · have := a5 q u (by simpa using hu)
          rw [show o + (q + 1) = o + 1 + q by omega]; exact this
  obtain ⟨cur', a1, a2, a3, _, a5⟩ := hkeep (List.replicate R.length (.slice none 0 0)) 0 w cs hg (by rw [List.length_replicate]; omega)
  refine ⟨_, fun ty => ?_, a3, ?_⟩
  · have hzv : ∀ w, (zeroValue TTs).run Tryd.prog w = .ok (.slice none 0 0) w := fun w => by
      simp only [zeroValue, Sem.run_bind, run_typeInfo _ hi, Result.andThen_ok, hz0]
      rfl
    obtain ⟨m, hm⟩ : ∃ m, R.length = m + 1 := ⟨R.length - 1, by omega⟩
    rw [hm] at hst hzs ⊢
    simp [Builtin.clear_, run_underlying Tryd.underlying74, hzv, hzs, hst]
  · unfold Rows
    rw [List.length_replicate, List.map_replicate]
    refine own_again hr hg a1 a2 ?_ (by simp)
    refine List.ext_getElem? fun j => ?_
    rw [List.getElem?_replicate]
    by_cases hj : j < R.length
    · rw [if_pos hj, List.getElem?_take_of_lt (by omega), Array.getElem?_toList]
      have := a5 j (.slice none 0 0) (by rw [List.getElem?_replicate, if_pos hj])
      rw [Nat.zero_add] at this
      exact this
    · rw [if_neg hj, List.getElem?_eq_none (by rw [List.length_take]; omega)]
/-- a byte that is stepped -/
theorem FeedC.step {w wr : World} {x : Mx} {arms : List Arm} {R0 : List Rw} {bv0 : Value} {kk : List UInt8} {c : UInt8} {cu : List UInt8} {neg : Nat → Bool} {R : List Rw} {bv : Value} (h : FeedC w wr x arms R0 bv0 kk c cu neg R bv) :
    Calls Tryd.prog 29 #[.pointer (some ⟨x.mb, 0, none⟩), .int .u8 c.toNat, .int .i64 cu.length, .int .i64 ((cu.length : Int) + 1)] wr fun e w' => TurnsP (OwnM x R0 bv0) w w' ∧ w'.heap[w.heap.size]? = some (.cells (hitC 0 0 0) THit (0, 0)) ∧
      ∃ R', ((∃ a p : Nat, hitOf (trees arms) (keep (kk ++ [c])) = some (a, p) ∧ e = .returned (.tuple #[.int .i64 a, .int .i64 p, .bool true]) ∧ w'.heap[x.mb]? = some (.cells (mV x arms.length bv) TMa (0, 0)) ∧ Nets w' x arms ∧ Rows w' x R' ∧ R'.length = arms.length) ∨
       (hitOf (trees arms) (keep (kk ++ [c])) = none ∧ e = .returned (.tuple #[.int .i64 0, .int .i64 0, .bool false]) ∧ MaIs w' x arms (keep (kk ++ [c])) (keep (kk ++ [c])) R' bv ∧ ∀ k, OwnM x R' bv k → k < w.heap.size → OwnM x R0 bv0 k)) := by
  have hs := step_row x arms R cu c neg ((cu.length : Int) + 1) bv wr h.ma.blk h.ma.nets h.ma.rows h.ma.trks h.cut (by have := h.len; omega) (by have := h.len; omega) h.ma.few
  refine hs.mono ?_
  rintro e w' ⟨R', hr, hrl, ht, hf, hlt, hc⟩
  rw [h.kp] at hc
  refine ⟨h.tp.also ht fun k hk hl => h.fr k (step_own hk) hl, (ht.block _ (lt_of_block h.box) (fun e => h.ma.not h.box hit_ty (step_own e))).trans h.box, R', ?_⟩
  rcases hc with ⟨a, p, h1, rfl⟩ | ⟨h1, rfl, ha⟩
  · exact .inl ⟨a, p, h1, rfl, (ht.block x.mb (lt_of_block h.ma.blk) (own_not h.ma.trks h.ma.rows h.ma.blk (by decide))).trans h.ma.blk, h.ma.nets.turns h.ma.trks h.ma.rows ht, hr, hrl⟩
  · refine .inr ⟨h1, rfl, ?_, fun k hk hl => ?_⟩
    · have := h.ma.stepped hr ha ht
      rw [h.kp] at this; exact this
    · rcases hk with hk | hk | hk | hk
      · exact h.fr k (.inl hk) hl
      · exact h.fr k (.inr (.inl hk)) hl
      · exact h.fr k (.inr (.inr (.inl hk))) hl
      · exact h.fr k (.inr (.inr (.inr (hf k hk (Nat.lt_of_lt_of_le hl h.tp.size))))) hl
/-- a slice's form -/
theorem own_slice {w : World} {base : Nat} {e : TypeId} {size n : Nat} {v : Value} {xs : List Value} (h : w.ownsRow base e size v n xs) : (v = .slice none 0 0 ∧ n = 0) ∨ ∃ g cap cs, v = .slice (some ⟨g, 0, none⟩) n cap ∧ n ≤ cap ∧ cap ≤ maxLen ∧ cs.size = cap * size ∧ w.heap[g]? = some (.cells cs e (0, 0)) := by
  rcases h.2 with ⟨hv, hn⟩ | ⟨g, cap, cs, hv, _, hg, h3, h4, h5, _⟩
  · exact .inl ⟨by first | exact hv | exact hn, by first | exact hn | exact hv⟩
  · exact .inr ⟨g, cap, cs, hv, h3, h4, h5, hg⟩
end Go.Proofs.YtfhggnbnbopkkaaDoor

namespace Go.Proofs.YtfhggnbnbopkkaaDoor
open Go.RowKit PM

set_option maxRecDepth 100000
/-- the box of the result is turned -/
theorem MaN.boxed {W : World} {x : Mx} {arms : List Arm} {buf cur : List UInt8} {neg : Nat → Bool} {R : List Rw} {bv : Value} {B a0 p0 e0 : Nat} (h : MaN W x arms buf cur neg R bv) (hb : W.heap[B]? = some (.cells (hitC a0 p0 e0) THit (0, 0))) (a p e : Nat) : MaN (boxW W B a p e) x arms buf cur neg R bv := by
  have hk : ∀ k, k ≠ B → (boxW W B a p e).heap[k]? = W.heap[k]? := fun k hk => by
    unfold boxW
    rw [heap_setCell_other _ ⟨B, 2, none⟩ k _ hk, heap_setCell_other _ ⟨B, 1, none⟩ k _ hk, heap_setCell_other _ ⟨B, 0, none⟩ k _ hk]
  refine h.keep (fun k hk' => hk k (fun e => h.not hb hit_ty (e ▸ hk'))) (fun k cs ty h1 hty => hk k (ty_ne h1 hb (by rcases hty with rfl | rfl <;> decide))) (hk 0 (fun e => ?_))
  have h1 := h.nets.tab.cell (j := 0) (by decide)
  rw [← e] at hb
  rw [cell_of_row _ _ _ _ _ _ hb] at h1
  cases h1
theorem box_turns {P : Nat → Prop} {w W : World} {B : Nat} (a p e : Nat) (h : TurnsP P w W) (hB : w.heap.size = B) : TurnsP P w (boxW W B a p e) := by
  subst hB
  have hb := box_below w.heap.size W a p e
  exact ⟨hb.os.trans h.os, hb.tape.trans h.tape, hb.output.trans h.output, Nat.le_trans h.size hb.size, fun k hk hn => (hb.block k hk).trans (h.block k hk hn)⟩
/-- the full buffer is turned -/
theorem full_buf {wr : World} {x : Mx} {arms : List Arm} {d c : UInt8} {rest : List UInt8} {R : List Rw} {g n cap k : Nat} {cs : Array Value} (h : MaIs wr x arms (d :: rest) (d :: rest) R (.slice (some ⟨g, 0, none⟩) n cap)) (hn : n = k + 1) (hr : rest.length = k) (hg : wr.heap[g]? = some (.cells cs TU8 (0, 0))) {W4 : World}
    (hW : W4 = ((wr.drew.setRow g (cs.toList.take 0 ++ (bytesC rest ++ cs.toList.drop (0 + (bytesC rest).length))).toArray).drew.setCell ⟨g, k, none⟩ (.int .u8 c.toNat))) :
    MaIs W4 x arms (rest ++ [c]) (d :: rest) R (.slice (some ⟨g, 0, none⟩) n cap) ∧ TurnsP (fun j => (Value.slice (some ⟨g, 0, none⟩) n cap).ownBlock = some j) wr W4 := by
  subst hW hr
  have ht : TurnsP (fun j => (Value.slice (some ⟨g, 0, none⟩) n cap).ownBlock = some j) wr ((wr.drew.setRow g (cs.toList.take 0 ++ (bytesC rest ++ cs.toList.drop (0 + (bytesC rest).length))).toArray).drew.setCell ⟨g, rest.length, none⟩ (.int .u8 c.toNat)) :=
    (((TurnsP.of_below (below_drew _ wr 1)).trans (setRow_turns.mono fun j hj => by rw [hj]; rfl)).trans (TurnsP.of_below (below_drew _ _ 1))).trans ((TurnsP.of_set _ g rest.length _).mono fun j hj => by rw [hj]; rfl)
  have hmg : x.mb ≠ g := ty_ne h.blk hg (by decide)
  have hbuf := h.buf
  have hnl : n = (d :: rest).length := by
    rcases hbuf.2 with ⟨hv, _⟩ | ⟨_, _, _, hv, _⟩
    · cases hv
    · cases hv; rfl
  have hs := buf_shift (w := wr.drew) (c := c) (by rw [← hnl] at hbuf; exact hbuf) hn hg
  refine ⟨h.rebuf (ht.mono fun j hj => .inr hj) ?_ ?_, ht⟩
  · exact (ht.block x.mb (lt_of_block h.blk) (fun e => hmg (by cases e; rfl))).trans h.blk
  · have e : (rest ++ [c]).length = n := by rw [hn]; simp
    rw [e]; exact hs
/-- a byte is appended -/
theorem grow_buf {wr w3 : World} {x : Mx} {arms : List Arm} {c : UInt8} {kk : List UInt8} {R : List Rw} {bv : Value} {n g cap : Nat} (h : MaIs wr x arms kk kk R bv) (hn : n = kk.length) (o : Obj) (hown : w3.ownsRow 1 TU8 1 (.slice (some ⟨g, 0, none⟩) (n + 1) cap) (n + 1) (bytesC kk ++ [.int .u8 c.toNat])) (hgrow : (wr.drew.alloc o).grownBy w3 bv.ownBlock) (hat : bv.ownBlock = some g ∨ g = (wr.drew.alloc o).heap.size) :
    MaIs (w3.setCell ⟨x.mb, 2, none⟩ (.slice (some ⟨g, 0, none⟩) (n + 1) cap)) x arms (kk ++ [c]) kk R (.slice (some ⟨g, 0, none⟩) (n + 1) cap) ∧ TurnsP (fun k => k = x.mb ∨ bv.ownBlock = some k) wr (w3.setCell ⟨x.mb, 2, none⟩ (.slice (some ⟨g, 0, none⟩) (n + 1) cap)) ∧
      ∀ k, (Value.slice (some ⟨g, 0, none⟩) (n + 1) cap).ownBlock = some k → bv.ownBlock = some k ∨ wr.heap.size ≤ k := by
  have hb0 : Below wr.heap.size wr (wr.drew.alloc o) := (below_drew _ wr 1).trans (below_new wr.drew o)
  have t3 : TurnsP (fun k => bv.ownBlock = some k) wr w3 := (TurnsP.of_below hb0).trans (TurnsP.of_grown hgrow)
  have ht : TurnsP (fun k => k = x.mb ∨ bv.ownBlock = some k) wr (w3.setCell ⟨x.mb, 2, none⟩ (.slice (some ⟨g, 0, none⟩) (n + 1) cap)) := (t3.mono fun k hk => .inr hk).trans ((TurnsP.of_set w3 x.mb 2 _).mono fun k hk => .inl hk)
  have hmb : bv.ownBlock ≠ some x.mb := fun e => by
    obtain ⟨cs, h1⟩ := own_typed h.buf e
    exact ty_ne h1 h.blk (by decide) rfl
  have hmb3 := (t3.block x.mb (lt_of_block h.blk) hmb).trans h.blk
  obtain ⟨cs3, hg3, _⟩ := own_blk hown
  have hgm : g ≠ x.mb := ty_ne hg3 hmb3 (by decide)
  refine ⟨h.rebuf ht ?_ ?_, ht, fun k hk => ?_⟩
  · exact heap_setCell_same w3 x.mb 2 _ _ _ hmb3
  · have e : (kk ++ [c]).length = n + 1 := by rw [hn]; simp
    have e2 : bytesC (kk ++ [c]) = bytesC kk ++ [.int .u8 c.toNat] := by simp [bytesC]
    rw [e, e2]
    exact own_keep hown fun j hj => by
      cases hj
      exact heap_setCell_other w3 ⟨x.mb, 2, none⟩ g _ hgm
  · cases hk
    rcases hat with e | e
    · exact .inl e
    · refine .inr ?_
      rw [e]; exact hb0.size
/-- the row of rows while the places go down -/
theorem DecS.cell {w wr : World} {x : Mx} {arms : List Arm} {buf cur : List UInt8} {neg : Nat → Bool} {R : List Rw} {bv : Value} (hm : MaN w x arms buf cur neg R bv) {i k : Nat} {q : Rw} (h : DecS w wr R i k) (hq : R[i]? = some q) :
    wr.cell? ⟨x.O, i, none⟩ = some q.v ∧ ∃ A cap, q.v = .slice A q.l.length cap ∧ (0 < q.l.length → ∃ g, A = some ⟨g, 0, none⟩) := by
  obtain ⟨cs, h1, _⟩ := own_blk hm.rows
  refine ⟨?_, ?_⟩
  · have hk : wr.heap[x.O]? = w.heap[x.O]? := h.tp.block x.O (lt_of_block h1) (fun ⟨q', hq', hb⟩ => by
      obtain ⟨j, hj, e⟩ := List.mem_iff_getElem.1 hq'
      obtain ⟨a, ha⟩ : ∃ a, arms[j]? = some a := ⟨_, List.getElem?_eq_getElem (by rw [← hm.trks.len]; exact hj)⟩
      obtain ⟨cs', h2⟩ := own_typed (hm.trks.at' j a q' ha ((List.getElem?_eq_getElem hj).trans (by rw [e]))).own hb
      exact ty_ne h1 h2 (by decide) rfl)
    have := rows_cell hm.rows hq
    exact (World.cell?_of_block (a := ⟨x.O, i, none⟩) hk).trans this
  · rcases own_slice (h.rows i q hq) with ⟨h2, h3⟩ | ⟨g, cap, _, h2, _⟩
    · exact ⟨none, 0, by rw [h2, h3], fun e => by omega⟩
    · exact ⟨_, cap, h2, fun _ => ⟨g, rfl⟩⟩
/-- found: the matcher stands at its beginning again -/
theorem hit_done {w w2 w4 : World} {x : Mx} {arms : List Arm} {R0 R3 : List Rw} {bv0 bv : Value} (h2 : w2.heap[x.mb]? = some (.cells (mV x arms.length bv) TMa (0, 0))) (hn : Nets w2 x arms) (hr : Rows w2 x R3) (hl : R3.length = arms.length) (h8 : arms.length ≤ 8) (tp : TurnsP (OwnM x R0 bv0) w w2)
    (ht : TurnsP (fun k => k = x.O) (w2.setCell ⟨x.mb, 2, none⟩ (.slice none 0 0)) w4) (hr4 : Rows w4 x (List.replicate R3.length nilRow)) :
    MaIs w4 x arms [] [] (List.replicate R3.length nilRow) (.slice none 0 0) ∧ TurnsP (OwnM x R0 bv0) w w4 ∧ ∀ k, OwnM x (List.replicate R3.length nilRow) (.slice none 0 0) k → OwnM x R0 bv0 k := by
  obtain ⟨cs, hO, _⟩ := own_blk hr
  have hmO : x.mb ≠ x.O := ty_ne h2 hO (by decide)
  have t24 : TurnsP (fun k => k = x.mb ∨ k = x.O) w2 w4 := ((TurnsP.of_set w2 x.mb 2 _).mono fun k hk => .inl hk).trans (ht.mono fun k hk => .inr hk)
  have hblk : w4.heap[x.mb]? = some (.cells (mV x arms.length (.slice none 0 0)) TMa (0, 0)) := (ht.block x.mb (by simp only [World.size_setCell]; exact lt_of_block h2) hmO).trans (heap_setCell_same w2 x.mb 2 _ _ (.slice none 0 0) h2)
  have hnets : Nets w4 x arms := hn.keep (fun k cs ty hk hty => t24.block k (lt_of_block hk) (by
    rintro (e | e)
    · exact ty_ne hk h2 (by rcases hty with rfl | rfl <;> decide) e
    · exact ty_ne hk hO (by rcases hty with rfl | rfl <;> decide) e)) (t24.block 0 hn.tab.lt (by
    rintro (e | e)
    · have h1 := hn.tab.cell (j := 0) (by decide)
      have h3 := h2
      rw [← e] at h3
      rw [cell_of_row _ _ _ _ _ _ h3] at h1; cases h1
    · obtain ⟨_, _, h3, _⟩ := own_blk hr
      omega))
  refine ⟨⟨hblk, ⟨rfl, .inl ⟨rfl, rfl⟩⟩, hnets, hr4, ?_, h8⟩, tp.trans (t24.mono fun k hk => ?_), fun k hk => ?_⟩
  · rw [hl]; exact arms_none w4 arms
  · rcases hk with hk | hk
    · exact .inl hk
    · exact .inr (.inr (.inl hk))
  · rcases hk with hk | hk | hk | ⟨q, hq, hk⟩
    · exact .inl hk
    · cases hk
    · exact .inr (.inr (.inl hk))
    · rw [(List.mem_replicate.1 hq).2] at hk
      rcases hk with hk | hk
      · cases hk
      · cases hk
end Go.Proofs.YtfhggnbnbopkkaaDoor
