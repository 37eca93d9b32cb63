/- A matcher: all that stands, and what it owns. -/
import Derived.Test.YtfhggnbnbopkkaaDoorMatRound
import Derived.Test.YtfhggnbnbopkkaaDoorPatEmpty
import Derived.Test.YtfhggnbnbopkkaaDoorPatOr

namespace Go.Proofs.YtfhggnbnbopkkaaDoor
open Go.RowKit PM

set_option maxRecDepth 100000
abbrev TU8 : TypeId := 5
def bytesC (l : List UInt8) : List Value := l.map fun c => .int .u8 c.toNat
theorem bytesC_len (l : List UInt8) : (bytesC l).length = l.length := List.length_map _
/-- the blocks that a matcher owns -/
def OwnM (x : Mx) (R : List Rw) (bv : Value) (k : Nat) : Prop := k = x.mb ∨ bv.ownBlock = some k ∨ Own x R k
/-- a matcher: its arms, what its buffer holds, what its tracks have taken -/
structure MaN (w : World) (x : Mx) (arms : List Arm) (buf cur : List UInt8) (neg : Nat → Bool) (R : List Rw) (bv : Value) : Prop where
  blk : w.heap[x.mb]? = some (.cells (mV x arms.length bv) TMa (0, 0))
  buf : w.ownsRow 1 TU8 1 bv buf.length (bytesC buf)
  nets : Nets w x arms
  rows : Rows w x R
  trks : ArmsAt w arms (fun j => (cur, neg j)) R
  few : arms.length ≤ 8
abbrev MaIs (w : World) (x : Mx) (arms : List Arm) (buf cur : List UInt8) (R : List Rw) (bv : Value) : Prop := MaN w x arms buf cur (fun _ => false) R bv
theorem own_typed {w : World} {base : Nat} {e : TypeId} {size n : Nat} {v : Value} {xs : List Value} (h : w.ownsRow base e size v n xs) {k : Nat} (hk : v.ownBlock = some k) : ∃ cs, w.heap[k]? = some (.cells cs e (0, 0)) := by
  rcases h.2 with ⟨hv, _⟩ | ⟨g, cap, cs, hv, _, h2, _⟩
  · rw [hv] at hk; cases hk
  · rw [hv] at hk; cases hk; exact ⟨cs, h2⟩
variable {neg neg' : Nat → Bool} {w w' : World} {x y : Mx} {arms arms' : List Arm} {buf cur buf' cur' : List UInt8} {R R' : List Rw} {bv bv' : Value}
/-- the kinds of blocks that a matcher owns -/
def OwnTy (ty : TypeId) : Prop := ty = TMa ∨ ty = TU8 ∨ ty = TTs ∨ ty = TTr ∨ ty = TRn
theorem MaN.typed (h : MaN w x arms buf cur neg R bv) {k : Nat} (hk : OwnM x R bv k) : ∃ cs ty, w.heap[k]? = some (.cells cs ty (0, 0)) ∧ OwnTy ty := by
  rcases hk with rfl | hk | rfl | hk
  · exact ⟨_, _, h.blk, .inl rfl⟩
  · obtain ⟨cs, h1⟩ := own_typed h.buf hk
    exact ⟨_, _, h1, .inr (.inl rfl)⟩
  · obtain ⟨cs, h1, _⟩ := own_blk h.rows
    exact ⟨_, _, h1, .inr (.inr (.inl rfl))⟩
  · obtain ⟨cs, ty, h1, h2⟩ := h.trks.typed hk
    exact ⟨_, _, h1, .inr (.inr (.inr h2))⟩
theorem MaN.not (h : MaN w x arms buf cur neg R bv) {k : Nat} {cs : Array Value} {ty : TypeId} (hk : w.heap[k]? = some (.cells cs ty (0, 0))) (hty : ¬ OwnTy ty) : ¬ OwnM x R bv k := fun e => by
  obtain ⟨cs', ty', h1, h2⟩ := h.typed e
  rw [hk] at h1
  injection h1 with h1; injection h1 with _ h1 _
  subst h1
  exact hty h2
theorem MaN.lt (h : MaN w x arms buf cur neg R bv) {k : Nat} (hk : OwnM x R bv k) : k < w.heap.size := by
  obtain ⟨cs, ty, h1, _⟩ := h.typed hk
  exact lt_of_block h1
theorem MaN.zero (h : MaN w x arms buf cur neg R bv) : ¬ OwnM x R bv 0 := by
  rintro (e | hk | hk)
  · have h1 := h.nets.tab.cell (j := 0) (by decide)
    have h2 := h.blk
    rw [← e] at h2
    rw [cell_of_row _ _ _ _ _ _ h2] at h1
    cases h1
  · have := (h.buf.lt 0 hk).1; omega
  · exact own_zero h.trks h.rows h.nets.tab hk
theorem MaN.keep (h : MaN w x arms buf cur neg R bv) (hk : ∀ k, OwnM x R bv k → w'.heap[k]? = w.heap[k]?) (hn : ∀ (k : Nat) (cs : Array Value) (ty : TypeId), w.heap[k]? = some (.cells cs ty (0, 0)) → ty = TNp ∨ ty = 89 → w'.heap[k]? = w.heap[k]?) (h0 : w'.heap[0]? = w.heap[0]?) : MaN w' x arms buf cur neg R bv :=
  ⟨(hk _ (.inl rfl)).trans h.blk, own_keep h.buf fun g hg => hk g (.inr (.inl hg)), h.nets.keep hn h0, own_keep h.rows fun g hg => hk g (.inr (.inr (.inl (by cases hg; rfl)))), h.trks.keep fun k hk' => hk k (.inr (.inr (.inr hk'))), h.few⟩
theorem MaN.on (h : MaN w x arms buf cur neg R bv) (hb : Below w.heap.size w w') : MaN w' x arms buf cur neg R bv :=
  h.keep (fun k hk => hb.block k (h.lt hk)) (fun k _ _ hk _ => hb.block k (lt_of_block hk)) (hb.block 0 h.nets.tab.lt)
/-- another matcher is turned -/
theorem MaN.other (h : MaN w x arms buf cur neg R bv) (hy : MaN w y arms' buf' cur' neg' R' bv') (ht : TurnsP (OwnM y R' bv') w w') (hd : ∀ k, OwnM x R bv k → ¬ OwnM y R' bv' k) : MaN w' x arms buf cur neg R bv :=
  h.keep (fun k hk => ht.block k (h.lt hk) (hd k hk)) (fun k cs ty hk hty => ht.block k (lt_of_block hk) (hy.not hk (by unfold OwnTy; rcases hty with rfl | rfl <;> decide))) (ht.block 0 h.nets.tab.lt hy.zero)
/-- a net, a table, too -/
theorem NetIs.turned {b : Nat} {t : T} {A : Nat → Bool} (h : NetIs w b t A) (hy : MaN w y arms' buf' cur' neg' R' bv') (ht : TurnsP (OwnM y R' bv') w w') : NetIs w' b t A := by
  obtain ⟨cs, h1, _⟩ := h.net
  exact net_other h (ht.block b (lt_of_block h1) (hy.not h1 (by unfold OwnTy; decide)))
theorem tab_turned (h : Tab w) (hy : MaN w y arms' buf' cur' neg' R' bv') (ht : TurnsP (OwnM y R' bv') w w') : Tab w' := tab_other h (ht.block 0 h.lt hy.zero)
/-- the trees of a matcher -/
abbrev trees (arms : List Arm) : List T := arms.map (·.t)
/-- a matcher's buffer as the walk loads it -/
theorem MaN.cells (h : MaN w x arms buf cur neg R bv) : w.cell? ⟨x.mb, 0, none⟩ = some (.slice (some ⟨x.N, 0, none⟩) arms.length x.cN) ∧ w.cell? ⟨x.mb, 1, none⟩ = some (.slice (some ⟨x.O, 0, none⟩) arms.length x.cO) ∧ w.cell? ⟨x.mb, 2, none⟩ = some bv ∧ ∀ i, w.frozen? ⟨x.mb, i, none⟩ = false :=
  ⟨by rw [cell_of_row _ _ _ _ _ _ h.blk]; rfl, by rw [cell_of_row _ _ _ _ _ _ h.blk]; rfl, by rw [cell_of_row _ _ _ _ _ _ h.blk]; rfl, fun i => frozen_of_row _ _ _ _ _ h.blk⟩
/-- two matchers hold nothing together -/
def Apart (x : Mx) (R : List Rw) (bv : Value) (y : Mx) (R' : List Rw) (bv' : Value) : Prop := ∀ k, OwnM x R bv k → ¬ OwnM y R' bv' k
end Go.Proofs.YtfhggnbnbopkkaaDoor

namespace Go.Proofs.YtfhggnbnbopkkaaDoor
open Go.RowKit PM

namespace PM
def emptyP (kind : Int) (s : List UInt8) : Bool := match tree kind s with | .ok t => emptyT t | _ => false
end PM

set_option maxRecDepth 100000 in
set_option maxHeartbeats 8000000 in
theorem pempty_any (kind : Int) (s : ByteArray) (w : World) (hs : s.size ≤ 9223372036854775807) :
    Calls Tryd.prog 32 #[.agg #[.int .i64 kind, .string s]] w fun e w' => e = .returned (.bool (emptyP kind s.data.toList)) ∧ Below w.heap.size w w' := by
  have H0 := Lib.hid (below_new w (.cells #[.int .i64 kind, .string s] TPat))
  go_enter Tryd.func32, Tryd.ntmps32
  go_wp2_with fail
  generalize w.alloc (.cells #[.int .i64 kind, .string s] TPat) = w1 at *
  refine (tree_or kind s w1 hs).mono ?_
  rintro e w2 (⟨t, A, c, ht, rfl, hK, hb⟩ | ⟨x, k, hx, hno, rfl, hb⟩)
  · have HP : Hid (emptyP kind s.data.toList = emptyT t) := Lib.hid (by unfold emptyP; rw [ht])
    have HOK := Lib.hid (tree_ok ht).1
    have H2 := Lib.hid (below_then H0.out hb (Nat.le_refl _))
    clear ht hb H0
    go_upto_region 2 with (fail)
    obtain ⟨hA, hAB⟩ := TrAt.made hK
    have HA := Lib.hid hA; have H3 := Lib.hid (below_then H2.out hAB (Nat.le_refl _))
    clear hA hAB hK H2
    generalize (w2.alloc (.cells #[.int .i64 t.op, .int .u64 (word t.set 0), .int .u64 (word t.set 1), .int .u64 (word t.set 2), .int .u64 (word t.set 3), .slice A t.kids.length c] TN)).alloc (.cells #[.int .i64 0, .int .i64 0] TSp) = w3 at *
    generalize w2.heap.size = B at *
    obtain ⟨r0, r1⟩ := HA.out.err
    obtain ⟨k0, k1, k2, k3, k4, k5⟩ := HA.out.cells
    go_wp2_with fail
    have hC := empty_any 100 (by omega) t HOK.out _ _ w3 HA.out.tree
    simp only [nodeV, nodeC] at hC
    refine hC.mono ?_
    rintro e w4 ⟨rfl, hb⟩
    have H4 := Lib.hid (below_then H3.out hb (Nat.le_refl _))
    clear hb hC k0 k1 k2 k3 k4 k5 r0 r1
    go_wp2_with fail
    go_ret
    exact ⟨by rw [HP.out]; rfl, H4.out⟩
  · have HP : Hid (emptyP kind s.data.toList = false) := Lib.hid (by
      unfold emptyP
      split
      · rename_i t h; exact absurd h (hno t)
      · rfl)
    have H2 := Lib.hid (below_then H0.out hb (Nat.le_refl _))
    have HX := Lib.hid hx
    clear hb hx H0 hno
    go_upto_region 2 with (fail)
    have hs := spot_made w2 (.cells #[.int .i64 0, .int .u64 0, .int .u64 0, .int .u64 0, .int .u64 0, .slice none 0 0] TN) #[.int .i64 x, .int .i64 k]
    have hAB := two_below w2 (.cells #[.int .i64 0, .int .u64 0, .int .u64 0, .int .u64 0, .int .u64 0, .slice none 0 0] TN) (.cells #[.int .i64 x, .int .i64 k] TSp)
    have H3 := Lib.hid (below_then H2.out hAB (Nat.le_refl _))
    generalize (w2.alloc (.cells #[.int .i64 0, .int .u64 0, .int .u64 0, .int .u64 0, .int .u64 0, .slice none 0 0] TN)).alloc (.cells #[.int .i64 x, .int .i64 k] TSp) = w3 at *
    have r1 := spot_cell hs
    have x0 : ((x : Int) == 0) = false := by rw [beq_eq_false_iff_ne]; have := HX.out; omega
    clear hs hAB H2
    go_wp2_with fail
    go_ret
    exact ⟨by rw [HP.out]; rfl, H3.out⟩

end Go.Proofs.YtfhggnbnbopkkaaDoor

namespace Go.Proofs.YtfhggnbnbopkkaaDoor
open Go.RowKit PM

set_option maxRecDepth 100000
/-- a pattern -/
structure Pat where
  kind : Int
  text : ByteArray
def patC (p : Pat) : Array Value := #[.int .i64 p.kind, .string p.text]
/-- patterns lie at an address -/
structure PIn (w : World) (A : Option Addr) (ps : List Pat) : Prop where
  at' : ∀ (k : Nat) p, ps[k]? = some p → ∃ ad, A = some ad ∧ w.cell? (ad.add (k * 2)) = some (.int .i64 p.kind) ∧ w.cell? ⟨(ad.add (k * 2)).block, (ad.add (k * 2)).off + 1, none⟩ = some (.string p.text)
  sz : ∀ p ∈ ps, p.text.size ≤ 9223372036854775807
theorem PIn.on {w w' : World} {A : Option Addr} {ps : List Pat} (h : PIn w A ps) (hb : Below w.heap.size w w') : PIn w' A ps :=
  ⟨fun k p hk => by
    obtain ⟨ad, e, h1, h2⟩ := h.at' k p hk
    exact ⟨ad, e, (hb.cell (World.block_lt_of_cell? w _ h1)).trans h1, (hb.cell (World.block_lt_of_cell? w _ h2)).trans h2⟩, h.sz⟩
/-- patterns in a row that was made -/
theorem PIn.row {w : World} {g : Nat} {cs : Array Value} {ty : TypeId} {ps : List Pat} (hg : w.heap[g]? = some (.cells cs ty (0, 0))) (hc : ∀ (k : Nat) p, ps[k]? = some p → cs[k * 2]? = some (.int .i64 p.kind) ∧ cs[k * 2 + 1]? = some (.string p.text)) (hs : ∀ p ∈ ps, p.text.size ≤ 9223372036854775807) : PIn w (some ⟨g, 0, none⟩) ps :=
  ⟨fun k p hk => by
    obtain ⟨h1, h2⟩ := hc k p hk
    refine ⟨_, rfl, ?_, ?_⟩
    · rw [Addr.add_lit, Nat.zero_add, cell_of_row _ _ _ _ _ _ hg]; exact h1
    · rw [Addr.add_lit, Nat.zero_add, cell_of_row _ _ _ _ _ _ hg]; exact h2, hs⟩
/-- fewer of them -/
theorem PIn.take {w : World} {A : Option Addr} {ps : List Pat} (h : PIn w A ps) (n : Nat) : PIn w A (ps.take n) :=
  ⟨fun k p hk => h.at' k p (by
    rw [List.getElem?_take] at hk
    split at hk
    · exact hk
    · cases hk), fun p hp => h.sz p (List.mem_of_mem_take hp)⟩
/-- what blocks are turned lie above -/
theorem below_turned {B : Nat} {w0 w w' : World} {P : Nat → Prop} (h : Below B w0 w) (hB : B ≤ w.heap.size) (t : TurnsP P w w') (hp : ∀ k, P k → B ≤ k) : Below B w0 w' :=
  ⟨t.os.trans h.os, t.tape.trans h.tape, t.output.trans h.output, Nat.le_trans h.size t.size, fun k hk => (t.block k (by omega) (fun e => by have := hp k e; omega)).trans (h.block k hk)⟩
/-- a pattern that a matcher takes, and its tree -/
def fine (p : Pat) (t : T) : Prop := tree p.kind p.text.data.toList = .ok t ∧ emptyT t = false
/-- may a list of patterns be looked for? -/
def May (ps : List Pat) : Prop := (1 ≤ ps.length ∧ ps.length ≤ 8) ∧ ∀ p ∈ ps, ∃ t, fine p t
def Trees (ps : List Pat) (ts : List T) : Prop := ts.length = ps.length ∧ ∀ (k : Nat) p t, ps[k]? = some p → ts[k]? = some t → fine p t
theorem Trees.one {ps : List Pat} {a b : List T} (h : Trees ps a) (k : Trees ps b) : a = b := by
  refine List.ext_getElem? fun i => ?_
  by_cases hi : i < ps.length
  · obtain ⟨p, hp⟩ : ∃ p, ps[i]? = some p := ⟨_, List.getElem?_eq_getElem hi⟩
    obtain ⟨s, hs⟩ : ∃ s, a[i]? = some s := ⟨_, List.getElem?_eq_getElem (by rw [h.1]; exact hi)⟩
    obtain ⟨t, ht⟩ : ∃ t, b[i]? = some t := ⟨_, List.getElem?_eq_getElem (by rw [k.1]; exact hi)⟩
    have h1 := (h.2 i p s hp hs).1
    have h2 := (k.2 i p t hp ht).1
    rw [h1] at h2
    cases h2
    rw [hs, ht]
  · rw [List.getElem?_eq_none (by rw [h.1]; omega), List.getElem?_eq_none (by rw [k.1]; omega)]
theorem OfS.is {w w' : World} {b : Nat} {t : T} {A : Nat → Bool} {kind : Int} {s : List UInt8} (h : OfS w b (netOf t).1 (netOf t).2 A (openB (netOf t).1 (netOf t).2 A) w') (hc : Closed (netOf t).1 (netOf t).2 A) (ht : tree kind s = .ok t) : NetIs w' b t A :=
  ⟨h.net, hc, (tree_ok ht).1, (tree_ok ht).2⟩
/-- Of, both ways -/
theorem of_or (kind : Int) (s : ByteArray) (w : World) (hs : s.size ≤ 9223372036854775807) (hT : Tab w) :
    Calls Tryd.prog 26 #[.agg #[.int .i64 kind, .string s]] w fun e w' => (∃ t b A, tree kind s.data.toList = .ok t ∧ e = .returned (.tuple #[.pointer (some ⟨b, 0, none⟩), .int .i64 0]) ∧ NetIs w' b t A ∧ w.heap.size ≤ b ∧ Below w.heap.size w w') ∨
      ((∀ t, tree kind s.data.toList ≠ .ok t) ∧ e = .returned (.tuple #[.pointer none, .int .i64 2]) ∧ Below w.heap.size w w') :=
  (of_any kind s w hs hT).mono fun e w' h => by
    rcases h with ⟨t, b, A, ht, he, ho, hc⟩ | ⟨hno, he, hb⟩
    · exact .inl ⟨t, b, A, ht, he, ho.is hc ht, ho.ge, ho.up⟩
    · exact .inr ⟨hno, he, hb⟩
theorem emptyP_of {kind : Int} {s : List UInt8} {t : T} (h : tree kind s = .ok t) : emptyP kind s = emptyT t := by unfold emptyP; rw [h]
end Go.Proofs.YtfhggnbnbopkkaaDoor
