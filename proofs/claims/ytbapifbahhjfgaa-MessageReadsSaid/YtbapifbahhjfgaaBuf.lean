/- A buffer of bytes that the call itself has made ('[]byte(s)', then 'append(b, s...)'): what it holds, whether the append finds room or moves. -/
import Derived.Test.YtbapifbahhjfgaaBytes
import Derived.Lib.AppendStr
namespace Go.Proofs.Ytbapifbahhjfgaa
open Go.RowKit

def byteV (c : UInt8) : Value := .int .u8 c.toNat
def byteVs (l : List UInt8) : List Value := l.map byteV
theorem byteVs_len (l : List UInt8) : (byteVs l).length = l.length := by simp [byteVs]
theorem byteVs_append (l m : List UInt8) : byteVs (l ++ m) = byteVs l ++ byteVs m := by simp [byteVs]
theorem byteVs_one (l : List UInt8) : ∀ u ∈ byteVs l, u.oneCell' = true := by
  intro u hu
  obtain ⟨c, _, rfl⟩ := List.mem_map.1 hu
  rfl

/-- v is a buffer of the call's own (from block base on) that holds the bytes l -/
def OBuf (w : World) (base : Nat) (v : Value) (l : List UInt8) : Prop :=
  ∃ (g cap : Nat) (cs : Array Value) (fr : Nat × Nat), v = .slice (some ⟨g, 0, none⟩) l.length cap ∧ base ≤ g ∧ w.heap[g]? = some (.cells cs 5 fr) ∧ (fr.2 ≤ fr.1 ∨ cs.size ≤ fr.1) ∧ l.length ≤ cap ∧ cs.size = cap ∧ cs.toList.take l.length = byteVs l

section
variable {w w' : World} {base : Nat} {v : Value} {l : List UInt8}

theorem OBuf.drew (h : OBuf w base v l) : OBuf w.drew base v l := h
theorem OBuf.lt (h : OBuf w base v l) : ∀ g, v.ownBlock = some g → base ≤ g ∧ g < w.heap.size := by
  obtain ⟨g, cap, cs, fr, rfl, hb, hh, _⟩ := h
  intro k hk
  have : g = k := by simpa [Value.ownBlock] using hk
  subst this
  exact ⟨hb, lt_of_block hh⟩
theorem OBuf.grown {row : Option Nat} (h : OBuf w base v l) (hg : w.grownBy w' row) (hne : v.ownBlock ≠ row ∨ row = none) : OBuf w' base v l := by
  obtain ⟨g, cap, cs, fr, rfl, hb, hh, r⟩ := h
  refine ⟨g, cap, cs, fr, rfl, hb, ?_, r⟩
  rw [hg.block g (lt_of_block hh) (by
    rcases hne with hne | rfl
    · simpa [Value.ownBlock] using hne
    · simp)]
  exact hh
theorem OBuf.below (h : OBuf w base v l) (hb : Below w.heap.size w w') : OBuf w' base v l := by
  obtain ⟨g, cap, cs, fr, rfl, hbb, hh, r⟩ := h
  exact ⟨g, cap, cs, fr, rfl, hbb, (hb.block g (lt_of_block hh)).trans hh, r⟩
theorem OBuf.alloc (h : OBuf w base v l) (o : Obj) : OBuf (w.alloc o) base v l := h.below ((Below.refl _ _).alloc (Nat.le_refl _) _)

/-- '[]byte(s)' -/
theorem OBuf.new (w : World) (s : ByteArray) (hb : base ≤ w.heap.size) : OBuf (Lib.bytesWorld w 5 s) base (.slice (some ⟨w.heap.size, 0, none⟩) s.size (grownCap w s.size 0 5)) s.data.toList := by
  have hge := grownCap_ge w s.size 0 5
  refine ⟨w.heap.size, _, _, _, rfl, hb, Lib.bytesWorld_at_new w _ s, Or.inr (by simp), hge, ?_, ?_⟩
  · simp only [Lib.bytesCells, Array.size_append, Array.size_map, Array.size_replicate]
    show s.size + _ = _
    omega
  · simp only [Lib.bytesCells, Array.toList_append, Array.toList_map]
    rw [List.take_append_of_le_length (by simp), List.take_of_length_le (by simp)]
    rfl

/-- 'string(b)' -/
theorem OBuf.str {P : Program} (h : OBuf w base v l) (src dst e : TypeId) (hs : P.underlying src = some (.slice e)) (he : P.underlying e = some (.int .u8)) (hd : P.underlying dst = some .string) :
    (convert src dst v).run P w = .ok (.string ⟨l.toArray⟩) w := by
  obtain ⟨g, cap, cs, fr, rfl, hb, hh, hfr, hlc, hcs, ht⟩ := h
  have hB : BRow w g l := ⟨cs, fr, hh, hfr, by omega, fun i hi => by
    have : (cs.toList.take l.length)[i]? = (byteVs l)[i]? := by rw [ht]
    rw [List.getElem?_take, if_pos hi] at this
    simp only [byteVs, List.getElem?_map, List.getElem?_eq_getElem hi, Option.map_some, byteV] at this
    rw [← Array.getElem?_toList, this]
    simp [List.getD, hi]⟩
  exact hB.str src dst e hs he hd
end

theorem run_storeCells_fr {P : Program} (g o : Nat) (t : TypeId) (fr : Nat × Nat) : ∀ (vs : List Value) (i : Nat) (cur : Array Value) (w : World), w.heap[g]? = some (.cells cur t fr) → (fr.2 ≤ fr.1 ∨ cur.size ≤ fr.1) → o + i + vs.length ≤ cur.size → (∀ v ∈ vs, v.oneCell' = true) →
    (storeCells ⟨g, o, none⟩ vs i).run P w = .ok () (w.setRow g (cur.toList.take (o + i) ++ vs ++ cur.toList.drop (o + i + vs.length)).toArray)
  | [], i, cur, w, hg, _, _, _ => by
    simp only [storeCells, List.append_nil, List.length_nil, Nat.add_zero, List.take_append_drop, Array.toArray_toList]
    rw [setRow_self w g cur t fr hg]
    rfl
  | v :: rest, i, cur, w, hg, hfr, hl, h1 => by
    have hi : o + i < cur.size := by simp at hl; omega
    have hadd : (⟨g, o, none⟩ : Addr).add i = ⟨g, o + i, none⟩ := by unfold Addr.add; split <;> simp_all
    have hcell : w.cell? ⟨g, o + i, none⟩ = some cur[o + i] := by simp [World.cell?, hg, hi]
    have hfro : w.frozen? ⟨g, o + i, none⟩ = false := by
      simp only [World.frozen?, hg]
      rw [Bool.and_eq_false_iff, decide_eq_false_iff_not, decide_eq_false_iff_not]
      omega
    have hst : (store ((⟨g, o, none⟩ : Addr).add i) v).run P w = .ok () (w.setRow g (cur.setIfInBounds (o + i) v)) := by
      rw [hadd, run_store P w _ v _ (h1 v (by simp)), hcell]
      simp [hfro, setCell_eq_setRow w g (o + i) cur t fr v hg]
    have ih := run_storeCells_fr (P := P) g o t fr rest (i + 1) (cur.setIfInBounds (o + i) v) (w.setRow g (cur.setIfInBounds (o + i) v)) (setRow_heap w g cur _ t _ hg) (by simpa using hfr) (by simp at hl ⊢; omega) (fun x hx => h1 x (by simp [hx]))
    simp only [storeCells, Sem.run_bind, hst, Result.andThen_ok, ih, setRow_setRow]
    congr 3
    have e := list_seg_step cur.toList (o + i) v rest (by simp at hl ⊢; omega)
    simpa [Array.toList_setIfInBounds, Nat.add_assoc] using e

theorem strCells_eq (s : ByteArray) : Lib.strCells s = byteVs s.data.toList := rfl

/-- 'append(b, s...)' -/
theorem run_append_obuf {P : Program} (w : World) (base : Nat) (t u ty : TypeId) (i : TypeInfo) (ht : P.underlying t = some (.slice 5)) (hu : P.underlying u = some .string) (hi : P.info? 5 = some i) (hz : i.zero = some (.int .u8 0))
    (hsize : i.size = 1) (hby : i.bytes = 1) (v : Value) (l : List UInt8) (hown : OBuf w base v l) (s : ByteArray) (hbytes : l.length + s.size ≤ 140737488355328) (hbase : base ≤ w.heap.size) :
    ∃ v' w', (Builtin.append_ #[t, u] ty #[v, .string s]).run P w = .ok v' w' ∧ OBuf w' base v' (l ++ s.data.toList) ∧ w.grownBy w' v.ownBlock := by
  obtain ⟨g, cap, cs, fr, rfl, hb, hh, hfr, hlc, hcs, htk⟩ := hown
  have hsl : s.data.toList.length = s.size := rfl
  by_cases hroom : l.length + s.size ≤ cap
  · have hf := Lib.run_firstCells_string (P := P) w 1 s
    have hst := run_storeCells_fr (P := P) g l.length 5 fr (Lib.strCells s) 0 cs w hh hfr (by rw [Lib.strCells_length]; omega) (Lib.strCells_oneCell s)
    simp only [Nat.add_zero, Lib.strCells_length] at hst
    have hr : (Builtin.append_ #[t, u] ty #[.slice (some ⟨g, 0, none⟩) l.length cap, .string s]).run P w =
        .ok (.slice (some ⟨g, 0, none⟩) (l.length + s.size) cap) (w.setRow g (cs.toList.take l.length ++ Lib.strCells s ++ cs.toList.drop (l.length + s.size)).toArray) := by
      simp [Builtin.append_, run_underlying ht, run_underlying hu, sizeOf, typeInfo, hi, hsize, Builtin.lenOf, hroom, hf, Addr.add_lit, hst]
    refine ⟨_, _, hr, ⟨g, cap, _, fr, by rw [List.length_append, hsl], hb, setRow_heap w g cs _ _ _ hh, ?_, ?_, ?_, ?_⟩,
      ⟨rfl, rfl, rfl, by simp, fun k _ hk => setRow_other w g k _ (fun e => hk (by simp [Value.ownBlock, e]))⟩⟩
    · rcases hfr with h | h
      · exact Or.inl h
      · right
        simp only [List.size_toArray, List.length_append, List.length_take, List.length_drop, Array.length_toList, Lib.strCells_length]
        omega
    · rw [List.length_append, hsl]; exact hroom
    · simp only [List.size_toArray, List.length_append, List.length_take, List.length_drop, Array.length_toList, Lib.strCells_length]
      omega
    · rw [byteVs_append, ← htk, strCells_eq]
      rw [show (l ++ s.data.toList).length = (cs.toList.take l.length ++ byteVs s.data.toList).length from by
        simp only [List.length_append, byteVs_len, List.length_take, Array.length_toList]; omega]
      exact List.take_left
  · have holds : ∀ j u, (byteVs l)[j]? = some u → w.cell? ((⟨g, 0, none⟩ : Addr).add j) = some u := by
      intro j u hu
      have hadd : (⟨g, 0, none⟩ : Addr).add j = ⟨g, j, none⟩ := by unfold Addr.add; split <;> simp_all
      rw [hadd, cell_of_row w g j cs _ fr hh]
      rw [← htk, List.getElem?_take] at hu
      split at hu
      · simpa using hu
      · cases hu
    have hr := Lib.run_append_grow_string (P := P) w t u ty 5 i (.int .u8 0) ht hu hi hz ⟨g, 0, none⟩ l.length cap (byteVs l) (by rw [hsize, byteVs_len]; omega) holds s (by omega) (by omega) (by rw [hby]; exact growslice_fits (by omega) (by omega))
    have hge := grownCap_ge w (l.length + s.size) cap 5
    refine ⟨_, _, hr, ⟨w.heap.size, _, _, (0, 0), by rw [List.length_append, hsl], hbase, heap_alloc_new w.drew _, Or.inl (Nat.le_refl _), ?_, ?_, ?_⟩, ⟨rfl, rfl, rfl, by simp, fun k hk _ => Below.heap_alloc w.drew _ k hk⟩⟩
    · rw [List.length_append, hsl]; exact hge
    · have hz1 : (Value.int IntKind.u8 0).cells.size = 1 := rfl
      simp only [Array.size_append, List.size_toArray, size_zeroCells, hz1, byteVs_len, Lib.strCells_length]
      omega
    · simp only [Array.toList_append, List.append_assoc]
      rw [byteVs_append, strCells_eq, ← List.append_assoc]
      rw [show (l ++ s.data.toList).length = (byteVs l ++ byteVs s.data.toList).length from by simp [byteVs_len]]
      exact List.take_left

/-- .. as the walk takes it -/
theorem wpList_append_obuf {P : Program} {w : World} {ops : Array Oper} {rest : List Oper} {o : Oper} {a : Act} {Q : Exit → Act → World → Prop} (hgd : o.guard = none) (sl x : Operand) (t u : TypeId)
    (ho : o.op = .call { callee := .builtin .append, args := #[sl, x], argTypes := #[t, u] })
    (base : Nat) (i : TypeInfo) (ht : P.underlying t = some (.slice 5)) (hu : P.underlying u = some .string) (hi : P.info? 5 = some i) (hz : i.zero = some (.int .u8 0))
    (hsize : i.size = 1) (hby : i.bytes = 1)
    (v : Value) (l : List UInt8) (hs : a.eval sl = v) (hown : OBuf w base v l) (s : ByteArray) (hx : a.eval x = .string s)
    (hbytes : l.length + s.size ≤ 140737488355328) (hbase : base ≤ w.heap.size)
    (h : ∀ v' w', OBuf w' base v' (l ++ s.data.toList) → w.grownBy w' v.ownBlock → wpList P ops Q rest (a.put o.dst v') w') : wpList P ops Q (o :: rest) a w := by
  refine wpList_plain hgd fun K hK => ?_
  obtain ⟨v', w', hr, h2, h3⟩ := run_append_obuf (P := P) w base t u o.type i ht hu hi hz hsize hby v l hown s hbytes hbase
  unfold Oper.wp execOp
  simp only [ho, resolve, invoke, builtin, Sem.run_bind, Sem.run_pure, Result.andThen_ok, List.map_toArray, List.map_cons, List.map_nil, hs, hx, hr]
  exact hK _ _ (h v' w' h2 h3)

end Go.Proofs.Ytbapifbahhjfgaa
