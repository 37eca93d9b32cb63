/- add: a node's places: a set. -/
import Derived.Test.YtfhggnbnbopkkaaDoorNfaLink

namespace Go.Proofs.YtfhggnbnbopkkaaDoor
open Go.RowKit PM

/-- a part, as a value -/
def partC (p : Part) : List Value := [.int .u64 (B64 p.first), .int .u64 (B64 p.last), .bool p.empty]
def partV (p : Part) : Value := .agg (partC p).toArray

/-- what add holds: its node, its result, the net -/
structure AS (w : World) (b : Nat) (C : Array Value) (n : NS) (p : Part) (A : Nat → Bool) (o : Bool) (wr : World) : Prop where
  box : wr.heap[w.heap.size]? = some (.cells C TN (0, 0))
  res : wr.heap[w.heap.size + 1]? = some (.cells #[.int .u64 0, .int .u64 0, .bool false] TPt (0, 0))
  net : NB wr b n p A o
  up : w.grownBy wr (some b)
theorem AS.start {w : World} {b : Nat} (C : Array Value) {n : NS} {p : Part} {A : Nat → Bool} {o : Bool} (h : NB w b n p A o) : AS w b C n p A o ((w.alloc (.cells C TN)).alloc (.cells #[.int .u64 0, .int .u64 0, .bool false] TPt)) := by
  have b1 := below_new w (.cells C TN)
  have b2 := below_new (w.alloc (.cells C TN)) (.cells #[.int .u64 0, .int .u64 0, .bool false] TPt)
  have h1 := heap_alloc_new w (.cells C TN)
  have h2 := heap_alloc_new (w.alloc (.cells C TN)) (.cells #[.int .u64 0, .int .u64 0, .bool false] TPt)
  simp only [World.size_alloc] at b2 h2
  have bb := b1.trans (b2.mono (by omega))
  exact ⟨(b2.block _ (by omega)).trans h1, h2, h.on bb, grown_below bb _⟩
theorem AS.go {w : World} {b : Nat} {C : Array Value} {n m : NS} {p q : Part} {A A' : Nat → Bool} {o o' : Bool} {wr w' : World} (h : AS w b C n p A o wr) (hb : b < w.heap.size) (hn : NB w' b m q A' o') (hg : wr.grownBy w' (some b)) : AS w b C m q A' o' w' :=
  ⟨(hg.block _ (lt_of_block h.box) (by simp; omega)).trans h.box, (hg.block _ (lt_of_block h.res) (by simp; omega)).trans h.res, hn, grown_trans h.up hg⟩
theorem AS.on {w : World} {b : Nat} {C : Array Value} {n : NS} {p : Part} {A : Nat → Bool} {o : Bool} {wr w' : World} (h : AS w b C n p A o wr) (hb : Below wr.heap.size wr w') : AS w b C n p A o w' :=
  ⟨(hb.block _ (lt_of_block h.box)).trans h.box, (hb.block _ (lt_of_block h.res)).trans h.res, h.net.on hb, grown_trans h.up (grown_below hb _)⟩

/-- three cells of a row -/
def set3 (w : World) (g : Nat) (x y z : Value) : World := ((w.setCell ⟨g, 0, none⟩ x).setCell ⟨g, 1, none⟩ y).setCell ⟨g, 2, none⟩ z
theorem set3_at {w : World} {g : Nat} {a b c : Value} {t : TypeId} (h : w.heap[g]? = some (.cells #[a, b, c] t (0, 0))) (x y z : Value) : (set3 w g x y z).heap[g]? = some (.cells #[x, y, z] t (0, 0)) :=
  heap_setCell_same _ g 2 _ _ z (heap_setCell_same _ g 1 _ _ y (heap_setCell_same _ g 0 _ _ x h))
theorem set3_grown (w : World) (g : Nat) (x y z : Value) : w.grownBy (set3 w g x y z) (some g) := grown_trans (grown_trans (setB _ _ _ _) (setB _ _ _ _)) (setB _ _ _ _)
theorem grown_new {w wr w' : World} {b B : Nat} (h : w.grownBy wr (some b)) (hB : w.heap.size ≤ B) (hg : wr.grownBy w' (some B)) : w.grownBy w' (some b) :=
  ⟨hg.os.trans h.os, hg.tape.trans h.tape, hg.output.trans h.output, Nat.le_trans h.size hg.size, fun k hk hne => (hg.block k (by have := h.size; omega) (fun e => by have := Option.some.inj e; omega)).trans (h.block k hk hne)⟩
theorem AS.done {w : World} {b : Nat} {C : Array Value} {n : NS} {p : Part} {A : Nat → Bool} {o : Bool} {wr : World} (h : AS w b C n p A o wr) (hb : b < w.heap.size) (x y z : Value) :
    (set3 wr (w.heap.size + 1) x y z).heap[w.heap.size + 1]? = some (.cells #[x, y, z] TPt (0, 0)) ∧ NB (set3 wr (w.heap.size + 1) x y z) b n p A o ∧ w.grownBy (set3 wr (w.heap.size + 1) x y z) (some b) :=
  ⟨set3_at h.res x y z, h.net.grown (set3_grown _ _ _ _ _) (by simp; omega), grown_new h.up (by omega) (set3_grown _ _ _ _ _)⟩

/-- what a node's places are found to be -/
def AddIs (b : Nat) (r : NS × Part) (p : Part) (A : Nat → Bool) (o : Bool) (w : World) (e : Ending) (w' : World) : Prop := e = .returned (partV r.2) ∧ NB w' b r.1 p A o ∧ w.grownBy w' (some b)

theorem AS.start' {w w1 : World} {b : Nat} (C : Array Value) {n : NS} {p : Part} {A : Nat → Bool} {o : Bool} (h : NB w1 b n p A o) (hs : w1.heap.size = w.heap.size) (hg : w.grownBy w1 (some b)) : AS w b C n p A o ((w1.alloc (.cells C TN)).alloc (.cells #[.int .u64 0, .int .u64 0, .bool false] TPt)) := by
  have := AS.start C h
  exact ⟨hs ▸ this.box, hs ▸ this.res, this.net, grown_trans hg this.up⟩

/-- a byte's bit in a set's word -/
theorem test_bit (p : Nat → Bool) (c : Nat) : (bits .and .u64 ((word p (c / 64) : Int) / (2 : Int) ^ (c % 64)) 1 == 1) = p c := by
  have h1 := word_lt p (c / 64)
  have e : ((word p (c / 64) : Int) / (2 : Int) ^ (c % 64)) = ((word p (c / 64) / 2 ^ (c % 64) : Nat) : Int) := by simp
  have h2 : word p (c / 64) / 2 ^ (c % 64) ≤ word p (c / 64) := Nat.div_le_self _ _
  have h3 := word_test p (c / 64) (c % 64)
  rw [Nat.testBit_eq_decide_div_mod_eq, show decide (c % 64 < 64) = true from decide_eq_true (by omega), Bool.true_and, show 64 * (c / 64) + c % 64 = c by omega] at h3
  rw [e, show (1 : Int) = ((1 : Nat) : Int) from rfl, bits_and_u64_nat _ 1 (by omega) (by omega), Nat.and_one_is_mod, ← h3]
  rw [Bool.eq_iff_iff]; simp; omega

/-- .. the bytes below one done -/
def PM.NS.leafTo (n : NS) (set : Nat → Bool) (c : Nat) : NS := { n with k := n.k + 1, has := fun x q => n.has x q || (q == n.k && (set x && decide (x < c))) }

theorem leafTo_not {n : NS} {set : Nat → Bool} {c x q : Nat} (h : set c = false) : (n.leafTo set c).has x q = (n.leafTo set (c + 1)).has x q := by
  simp only [PM.NS.leafTo]
  by_cases e : x = c
  · subst e; simp [h]
  · have : decide (x < c) = decide (x < c + 1) := by simp; omega
    rw [this]
/-- the place gets the byte -/
theorem leafTo_step {w : World} {b : Nat} {n : NS} {set : Nat → Bool} {p : Part} {A : Nat → Bool} {o : Bool} {c : Nat} (h : NB w b (n.leafTo set c) p A o) (hc : c < 256) (hs : set c = true) :
    NB (w.setCell ⟨b, c, none⟩ (.int .u64 (B64 fun q => (n.leafTo set c).has c q || q == n.k))) b (n.leafTo set (c + 1)) p A o := by
  refine (h.set_has hc _).congr rfl (fun x q hx hq => ?_) (fun _ _ _ _ => rfl)
  simp only [PM.NS.leafTo]
  by_cases e : x = c
  · subst e
    rw [if_pos rfl]
    simp [hs]
  · have : decide (x < c) = decide (x < c + 1) := by simp; omega
    rw [if_neg e, this]

set_option maxRecDepth 100000 in
set_option maxHeartbeats 4000000 in
theorem add_set (set : Nat → Bool) (kids : List T) (K : Value) (b : Nat) (n : NS) (p : Part) (A : Nat → Bool) (o : Bool) (w : World) (h : NB w b n p A o) (hk : n.k < 64) (_hb : b ≠ 0) :
    Calls Tryd.prog 35 #[.pointer (some ⟨b, 0, none⟩), nodeV (.mk 2 set kids) K] w (AddIs b (add (.mk 2 set kids) n) p A o w) := by
  have hlt := h.lt
  simp only [nodeV, nodeC, T.op, T.set]
  generalize hx0 : word set 0 = x0 at *
  generalize hx1 : word set 1 = x1 at *
  generalize hx2 : word set 2 = x2 at *
  generalize hx3 : word set 3 = x3 at *
  have HS := Lib.hid (AS.start' (w := w) (w1 := w.setCell ⟨b, 325, none⟩ (.int .i64 ((n.k : Int) + 1))) #[.int .i64 (2 : Nat), .int .u64 x0, .int .u64 x1, .int .u64 x2, .int .u64 x3, K] (n := n.leafTo set 0) (p := p) (A := A) (o := o)
    ((h.set_k (n.k + 1)).congr rfl (fun c q _ _ => by simp [NS.leafTo]) (fun _ _ _ _ => rfl)) (by simp) (setB _ _ _ _))
  have hc0 := h.c_k
  have hf0 := h.frozen 325
  clear h
  have hk2 : (n.k : Int) < 64 := by omega
  have hk3 : (0 : Int) ≤ n.k := by omega
  have hbit : IntKind.u64.wrap ((2 : Int) ^ n.k) = ((B64 fun q => q == n.k : Nat) : Int) := by rw [u64wrap_pow _ hk, B64_one hk]
  go_enter Tryd.func35, Tryd.ntmps35
  go_wp2_with fail
  change Code.wp _ _ _ _ _
  have HK := Lib.hid hk; have HLT := Lib.hid hlt
  have hbl := B64_lt fun q => q == n.k
  generalize hbi : (B64 fun q => q == n.k) = bi at *
  generalize ((w.setCell ⟨b, 325, none⟩ (.int .i64 ((n.k : Int) + 1))).alloc (.cells #[.int .i64 (2 : Nat), .int .u64 x0, .int .u64 x1, .int .u64 x2, .int .u64 x3, K] TN)).alloc (.cells #[.int .u64 0, .int .u64 0, .bool false] TPt) = W0 at *
  clear hc0 hf0 hk hlt hk2 hk3 hbit
  go_loopg [32] (257 : Nat) (fun k v wr => ∃ c : Nat, v = .int .i64 c ∧ c ≤ 256 ∧ 257 - c ≤ k ∧ Hid (AS w b #[.int .i64 (2 : Nat), .int .u64 x0, .int .u64 x1, .int .u64 x2, .int .u64 x3, K] (n.leafTo set c) p A o wr))
  case atStart => exact ⟨0, rfl, by omega, by omega, HS⟩
  case round =>
    clear HS
    obtain ⟨c, rfl, hc, hck, HS⟩ := hrel
    have hnet := HS.out.net
    have hbox := HS.out.box
    have hres := HS.out.res
    by_cases hlt : c < 256
    · have hl1 : (c : Int) < 256 := by omega
      have hl2 : (0 : Int) ≤ c := by omega
      have hs : wr.cell? ⟨w.heap.size, 1 + c / 64, none⟩ = some (.int .u64 (word set (c / 64))) := by
        rw [cell_of_row _ _ (1 + c / 64) _ _ _ hbox]
        have : c / 64 = 0 ∨ c / 64 = 1 ∨ c / 64 = 2 ∨ c / 64 = 3 := by omega
        rcases this with e | e | e | e <;> rw [e] <;> first | (rw [hx0]; rfl) | (rw [hx1]; rfl) | (rw [hx2]; rfl) | (rw [hx3]; rfl)
      have hwl := word_lt set (c / 64)
      have htb := test_bit set c
      have hca := HS.out.net.c_has hlt
      have hcf := HS.out.net.frozen c
      have hyl := B64_lt fun q => (n.leafTo set c).has c q
      have hor := B64_or (fun q => (n.leafTo set c).has c q) (fun q => q == n.k)
      rw [hbi] at hor
      generalize hy : (B64 fun q => (n.leafTo set c).has c q) = y at *
      have horv : bits .or .u64 (y : Int) (bi : Int) = ((B64 fun q => (n.leafTo set c).has c q || q == n.k : Nat) : Int) := by rw [bits_or_u64_nat _ _ hyl hbl, hor]
      generalize hwd : word set (c / 64) = wd at *
      clear hbox hres hnet
      cases hset : set c with
      | false =>
        rw [hset] at htb
        go_wp2_with fail
        go_roundg (gk - 1)
        case measure => omega
        case rel => exact ⟨c + 1, by go_num, by omega, by omega, Lib.hid (HS.out.go HLT.out (HS.out.net.congr rfl (fun _ _ _ _ => leafTo_not hset) (fun _ _ _ _ => rfl)) (grown_below (Below.refl _ _) _))⟩
      | true =>
        rw [hset] at htb
        have HST := Lib.hid hset
        go_wp2_with fail
        go_region_with (fail)
        all_goals go_wp2_with fail
        go_roundg (gk - 1)
        case measure => omega
        case rel =>
          refine ⟨c + 1, by go_num, by omega, by omega, Lib.hid (HS.out.go HLT.out ?_ ?_)⟩
          · exact leafTo_step HS.out.net hlt hset
          · exact grown_trans (setB _ _ _ _) (grown_below (below_drew _ _ 1) _)
    · obtain rfl : c = 256 := by omega
      clear hbox hres hnet hlt
      have hres := HS.out.res
      have r0 := cell_of_row _ _ 0 _ _ _ hres; have r1 := cell_of_row _ _ 1 _ _ _ hres; have r2 := cell_of_row _ _ 2 _ _ _ hres
      have q0 := frozen_of_row _ _ 0 _ _ hres; have q1 := frozen_of_row _ _ 1 _ _ hres; have q2 := frozen_of_row _ _ 2 _ _ hres
      simp only [show (#[Value.int .u64 0, .int .u64 0, .bool false] : Array Value)[0]? = some (.int .u64 0) from rfl, show (#[Value.int .u64 0, .int .u64 0, .bool false] : Array Value)[1]? = some (.int .u64 0) from rfl, show (#[Value.int .u64 0, .int .u64 0, .bool false] : Array Value)[2]? = some (.bool false) from rfl] at r0 r1 r2
      clear hres
      go_wp2_with fail
      obtain ⟨e1, e2, e3⟩ := HS.out.done HLT.out (.int .u64 bi) (.int .u64 bi) (.bool false)
      refine bodyPost_ret (results_cell_row rfl _ _ (w.heap.size + 1) TPt _ (0, 0) _ rfl e1 Tryd.underlying91 rfl (by kernel_rfl)) rfl ⟨?_, e2.congr rfl (fun x q hx _ => ?_) (fun _ _ _ _ => rfl), e3⟩
      · rw [← hbi]; rfl
      · simp [PM.NS.leafTo, add, NS.leaf, hx]
end Go.Proofs.YtfhggnbnbopkkaaDoor

namespace Go.Proofs.YtfhggnbnbopkkaaDoor
open Go.RowKit PM

theorem cell_below {w w' : World} {a : Addr} {v : Value} (h : w.cell? a = some v) (hb : Below w.heap.size w w') : w'.cell? a = some v :=
  (hb.cell (World.block_lt_of_cell? w _ h)).trans h

theorem IsT.parts {w : World} {p : Nat → Prop} {K : Value} {t : T} (h : IsT w p K t) : ∃ A c, ∃ ks : Nat → Value, K = .slice A t.kids.length c ∧ ∀ i k, t.kids[i]? = some k →
    (∃ g o, A = some ⟨g, o, none⟩ ∧ p g ∧ g < w.heap.size ∧ ∀ j v, (nodeC k (ks i))[j]? = some v → w.cell? ⟨g, o + i * 6 + j, none⟩ = some v) ∧ IsT w p (ks i) k := by
  cases h with
  | mk op set kids A c ks hA hk =>
    refine ⟨A, c, ks, rfl, fun i k hi => ?_⟩
    obtain ⟨g, o, h1, h2, h3, h4⟩ := hA (fun e => by simp only [T.kids] at hi; rw [e] at hi; simp at hi)
    exact ⟨⟨g, o, h1, h2, h3, fun j v hv => h4 i k j v hi hv⟩, hk i k hi⟩

/-- a tree's places are found -/
def AddOk (t : T) : Prop := ∀ (b : Nat) (n : NS) (p : Part) (A : Nat → Bool) (o : Bool) (K : Value) (w : World), NB w b n p A o → IsT w (fun x => x ≠ b) K t → n.k + leaves t ≤ 64 → b ≠ 0 → Tab w →
  Calls Tryd.prog 35 #[.pointer (some ⟨b, 0, none⟩), nodeV t K] w (AddIs b (add t n) p A o w)

/-- what add holds at a row of kids -/
structure KS (w : World) (b : Nat) (C : Array Value) (n : NS) (q p : Part) (A : Nat → Bool) (o : Bool) (wr : World) : Prop extends AS w b C n p A o wr where
  all : wr.heap[w.heap.size + 2]? = some (.cells (partC q).toArray TPt (0, 0))
theorem KS.start {w : World} {b : Nat} (C : Array Value) {n : NS} {p : Part} {A : Nat → Bool} {o : Bool} (h : NB w b n p A o) (q : Part) : KS w b C n q p A o (((w.alloc (.cells C TN)).alloc (.cells #[.int .u64 0, .int .u64 0, .bool false] TPt)).alloc (.cells (partC q).toArray TPt)) := by
  have h1 := AS.start C h
  have h2 := heap_alloc_new ((w.alloc (.cells C TN)).alloc (.cells #[.int .u64 0, .int .u64 0, .bool false] TPt)) (.cells (partC q).toArray TPt)
  simp only [World.size_alloc] at h2
  exact ⟨h1.on (below_new _ _), h2⟩
theorem KS.on {w : World} {b : Nat} {C : Array Value} {n : NS} {q p : Part} {A : Nat → Bool} {o : Bool} {wr w' : World} (h : KS w b C n q p A o wr) (hb : Below wr.heap.size wr w') : KS w b C n q p A o w' :=
  ⟨h.toAS.on hb, (hb.block _ (lt_of_block h.all)).trans h.all⟩
theorem KS.go {w : World} {b : Nat} {C : Array Value} {n m : NS} {q p : Part} {A : Nat → Bool} {o : Bool} {wr w' : World} (h : KS w b C n q p A o wr) (hb : b < w.heap.size) (hn : NB w' b m p A o) (hg : wr.grownBy w' (some b)) : KS w b C m q p A o w' :=
  ⟨h.toAS.go hb hn hg, (hg.block _ (lt_of_block h.all) (by simp; omega)).trans h.all⟩
theorem KS.put {w : World} {b : Nat} {C : Array Value} {n : NS} {q q' p : Part} {A : Nat → Bool} {o : Bool} {wr w' : World} (h : KS w b C n q p A o wr) (hb : b < w.heap.size) (ha : w'.heap[w.heap.size + 2]? = some (.cells (partC q').toArray TPt (0, 0))) (hg : wr.grownBy w' (some (w.heap.size + 2))) : KS w b C n q' p A o w' :=
  ⟨⟨(hg.block _ (lt_of_block h.box) (by simp)).trans h.box, (hg.block _ (lt_of_block h.res) (by simp)).trans h.res, h.net.grown hg (by simp; omega), grown_new h.up (by omega) hg⟩, ha⟩

/-- only block E was turned, and it holds this -/
structure OnlyE (w w' : World) (E : Nat) (cs : Array Value) : Prop where
  at' : w'.heap[E]? = some (.cells cs TPt (0, 0))
  up : w.grownBy w' (some E)
theorem OnlyE.start {w : World} {E : Nat} {cs : Array Value} (h : w.heap[E]? = some (.cells cs TPt (0, 0))) : OnlyE w w E cs := ⟨h, grown_below (Below.refl _ _) _⟩
theorem OnlyE.set {w w' : World} {E : Nat} {cs : Array Value} (i : Nat) (v : Value) (h : OnlyE w w' E cs) : OnlyE w (w'.setCell ⟨E, i, none⟩ v) E (cs.setIfInBounds i v) :=
  ⟨heap_setCell_same _ E i _ _ v h.at', grown_trans h.up (setB _ _ _ _)⟩
theorem KS.put' {w : World} {b : Nat} {C : Array Value} {n : NS} {q q' p : Part} {A : Nat → Bool} {o : Bool} {wr w' : World} (h : KS w b C n q p A o wr) (hb : b < w.heap.size) {E : Nat} (hE : w.heap.size + 2 = E) {cs : Array Value} (ho : OnlyE wr w' E cs) (hcs : cs = (partC q').toArray) : KS w b C n q' p A o w' := by
  subst hE; subst hcs
  exact h.put hb ho.at' ho.up

theorem kids_drop {α : Type} {l : List α} {i : Nat} {x : α} (h : l[i]? = some x) : l.drop i = x :: l.drop (i + 1) := by
  obtain ⟨hi, rfl⟩ := List.getElem?_eq_some_iff.1 h
  exact List.drop_eq_getElem_cons hi

theorem partC_zero (e : Bool) : partC (Part.zero e) = [.int .u64 0, .int .u64 0, .bool e] := by
  show [Value.int .u64 (B64 none'), .int .u64 (B64 none'), .bool e] = _
  rw [show B64 none' = 0 from B64_none]; rfl
theorem KS.start' {w : World} {b : Nat} (C : Array Value) {n : NS} {p : Part} {A : Nat → Bool} {o : Bool} (h : NB w b n p A o) (e : Bool) : KS w b C n (Part.zero e) p A o (((w.alloc (.cells C TN)).alloc (.cells #[.int .u64 0, .int .u64 0, .bool false] TPt)).alloc (.cells #[.int .u64 0, .int .u64 0, .bool e] TPt)) := by
  have := KS.start C h (Part.zero e)
  rw [partC_zero] at this; exact this

set_option maxRecDepth 100000 in
set_option maxHeartbeats 4000000 in
theorem add_cat (m : Nat) (hm : m ≤ 1000000) (set : Nat → Bool) (kids : List T) (hkl : kids.length ≤ m) (hI : ∀ k ∈ kids, AddOk k) : AddOk (.mk 3 set kids) := by
  intro b n p A o K w h hT hl hb hTab
  have hlt := h.lt
  have HI := Lib.hid hI
  obtain ⟨Ad, ca, ka, rfl, hA⟩ := hT.parts
  simp only [T.kids] at hA
  have HA := Lib.hid hA
  have HTB := Lib.hid hTab
  clear hA hT hI hTab
  simp only [nodeV, nodeC, T.op, T.set, T.kids]
  generalize word set 0 = x0 at *
  generalize word set 1 = x1 at *
  generalize word set 2 = x2 at *
  generalize word set 3 = x3 at *
  obtain ⟨N, hN⟩ : ∃ N, kids.length = N := ⟨_, rfl⟩
  rw [hN] at hkl ⊢
  have HN := Lib.hid hN
  clear hN
  have HS := Lib.hid (KS.start' #[.int .i64 (3 : Nat), .int .u64 x0, .int .u64 x1, .int .u64 x2, .int .u64 x3, .slice Ad N ca] h true)
  have hleaves : n.k + leavesL kids ≤ 64 := by simpa [leaves] using hl
  have HL := Lib.hid hleaves
  have HLT := Lib.hid hlt; have HB := Lib.hid hb
  clear h hl hleaves hb
  go_enter Tryd.func35, Tryd.ntmps35
  go_wp2_with fail
  change Code.wp _ _ _ _ _
  generalize hW0 : ((w.alloc (.cells #[.int .i64 (3 : Nat), .int .u64 x0, .int .u64 x1, .int .u64 x2, .int .u64 x3, .slice Ad N ca] TN)).alloc (.cells #[.int .u64 0, .int .u64 0, .bool false] TPt)).alloc (.cells #[.int .u64 0, .int .u64 0, .bool true] TPt) = W0 at *
  clear hW0
  generalize hCC : (#[.int .i64 (3 : Nat), .int .u64 x0, .int .u64 x1, .int .u64 x2, .int .u64 x3, .slice Ad N ca] : Array Value) = CC at HS
  have HCC := Lib.hid hCC
  clear hCC
  go_loopg [66] (N + 1) (fun k v wr => ∃ (i : Nat) (m' : NS) (q : Part), v = .int .i64 i ∧ i ≤ N ∧ N + 1 - i ≤ k ∧ Hid (addCat (kids.drop i) m' q = addCat kids n (Part.zero true) ∧ m'.k + leavesL (kids.drop i) ≤ 64 ∧ KS w b CC m' q p A o wr))
  case atStart => exact ⟨0, n, _, rfl, by omega, by omega, Lib.hid ⟨rfl, HL.out, HS.out⟩⟩
  case round =>
    clear HS
    obtain ⟨i, m', q, rfl, hi, hik, HS⟩ := hrel
    by_cases hlt : i < N
    · have hlt2 : (i : Int) < N := by omega
      obtain ⟨kd, hkd⟩ : ∃ kd, kids[i]? = some kd := ⟨_, List.getElem?_eq_getElem (by rw [HN.out]; exact hlt)⟩
      obtain ⟨⟨ga, oa, rfl, pa, la, hca⟩, hta⟩ := HA.out i kd hkd
      have up := HS.out.2.2.up
      have xa : ∀ j v, (nodeC kd (ka i))[j]? = some v → wr.cell? ⟨ga, oa + i * 6 + j, none⟩ = some v := fun j v hv => (World.cell?_of_block (a := ⟨ga, _, none⟩) (up.block _ la (by simp; omega))).trans (hca j v hv)
      have y0 := xa 0 _ rfl; have y1 := xa 1 _ rfl; have y2 := xa 2 _ rfl; have y3 := xa 3 _ rfl; have y4 := xa 4 _ rfl; have y5 := xa 5 _ rfl
      have HKD := Lib.hid hkd
      have HTA := Lib.hid (hta.grown up (fun x hx e => hx (Option.some.inj e)))
      have HTr := Lib.hid (HTB.out.grown up (fun e => HB.out (Option.some.inj e)))
      clear xa hca up hta hkd pa la
      simp only [Nat.add_zero] at y0
      have HC := Lib.hid (fun W (hW : Below wr.heap.size wr W) => HI.out kd (List.mem_of_getElem? HKD.out) b m' p A o (ka i) W (HS.out.2.2.net.on hW) (HTA.out.on hW) (by have := HS.out.2.1; rw [kids_drop HKD.out] at this; simp only [leavesL] at this; omega) HB.out (HTr.out.on hW))
      simp only [nodeV, nodeC] at HC
      generalize word kd.set 0 = u0 at *
      generalize word kd.set 1 = u1 at *
      generalize word kd.set 2 = u2 at *
      generalize word kd.set 3 = u3 at *
      generalize kd.op = uo at *
      obtain ⟨Ak, ck, hke⟩ := HTA.out.slice
      rw [hke] at HTA HC y5
      clear hke
      generalize kd.kids.length = lk at *
      go_wp2_with fail
      generalize hW1 : wr.alloc (.cells #[.int .i64 uo, .int .u64 u0, .int .u64 u1, .int .u64 u2, .int .u64 u3, .slice Ak lk ck] TN) = W1 at *
      have hb1 : Below wr.heap.size wr W1 := by rw [← hW1]; exact below_new _ _
      refine (HC.out W1 hb1).mono ?_
      rintro e w2 ⟨rfl, hn2, hg2⟩
      have HS2 : Hid (KS w b CC _ q p A o w2) := Lib.hid ((HS.out.2.2.on hb1).go HLT.out hn2 hg2)
      have HT2 : Hid (Tab w2) := Lib.hid ((HTr.out.on hb1).grown hg2 (fun e => HB.out (Option.some.inj e)))
      clear hn2 hg2 hb1 hW1 y0 y1 y2 y3 y4 y5 HC
      generalize hr : add kd m' = r at *
      have HR := Lib.hid hr
      clear hr
      obtain ⟨m2, q2⟩ := r
      simp only [partV, partC, List.toArray]
      have l7 : w.heap.size + 1 + 1 < w2.heap.size := lt_of_block HS2.out.all
      have z1 : w2.cell? ⟨w.heap.size + 1 + 1, 1, none⟩ = some (.int .u64 (B64 q.last)) := by rw [cell_of_row _ _ 1 _ _ _ HS2.out.all]; rfl
      have hq1 := B64_lt q2.first
      have hq2 := B64_lt q2.last
      have hq3 := B64_lt q.first
      have hq4 := B64_lt q.last
      go_wp2_with fail
      generalize hW3 : w2.alloc (.cells #[.int .u64 (B64 q2.first), .int .u64 (B64 q2.last), .bool q2.empty] TPt) = W3 at *
      have hb3 : Below w2.heap.size w2 W3 := by rw [← hW3]; exact below_new _ _
      have hD : W3.heap[w2.heap.size]? = some (.cells #[.int .u64 (B64 q2.first), .int .u64 (B64 q2.last), .bool q2.empty] TPt (0, 0)) := by rw [← hW3]; exact heap_alloc_new w2 _
      refine (link_any b m2 p A o q.last q2.first W3 (HS2.out.net.on hb3) HB.out (HT2.out.on hb3)).mono ?_
      rintro e w4 ⟨rfl, hn4, hg4⟩
      have HS4 : Hid (KS w b CC (m2.link q.last q2.first) q p A o w4) := Lib.hid ((HS2.out.on hb3).go HLT.out hn4 hg4)
      replace hD := (hg4.block _ (lt_of_block hD) (by have := HS2.out.net.lt; simp; omega)).trans hD
      have d0 := cell_of_row _ _ 0 _ _ _ hD; have d1 := cell_of_row _ _ 1 _ _ _ hD; have d2 := cell_of_row _ _ 2 _ _ _ hD
      simp only [List.getElem?_toArray, List.getElem?_cons_zero, List.getElem?_cons_succ] at d0 d1 d2
      have hall := HS4.out.all
      have a0 := cell_of_row _ _ 0 _ _ _ hall; have a1 := cell_of_row _ _ 1 _ _ _ hall; have a2 := cell_of_row _ _ 2 _ _ _ hall
      simp only [partC, List.getElem?_toArray, List.getElem?_cons_zero, List.getElem?_cons_succ] at a0 a1 a2
      have f0 := frozen_of_row _ _ 0 _ _ hall; have f1 := frozen_of_row _ _ 1 _ _ hall; have f2 := frozen_of_row _ _ 2 _ _ hall
      have hne : w2.heap.size ≠ w.heap.size + 1 + 1 := by omega
      have hne2 : w.heap.size + 1 + 1 ≠ w2.heap.size := by omega
      clear hn4 hg4 hb3 hW3 hD l7 z1
      generalize hDD : w2.heap.size = D at *
      clear hDD
      have HQ3 := Lib.hid hall
      clear hall
      have o1 : bits .or .u64 (B64 q.first : Int) (B64 q2.first : Int) = ((B64 fun x => q.first x || q2.first x : Nat) : Int) := by rw [bits_or_u64_nat _ _ hq3 hq1, B64_or]
      have o2 : bits .or .u64 (B64 q.last : Int) (B64 q2.last : Int) = ((B64 fun x => q.last x || q2.last x : Nat) : Int) := by rw [bits_or_u64_nat _ _ hq4 hq2, B64_or]
      have o3 : bits .or .u64 (0 : Int) (B64 q2.last : Int) = (B64 q2.last : Int) := by rw [show (0 : Int) = ((0 : Nat) : Int) from rfl, bits_or_u64_nat _ _ (by omega) hq2]; simp
      generalize hEE : w.heap.size + 2 = E at a0 a1 a2 f0 f1 f2 HQ3
      have hne3 : D ≠ E := by omega
      have hne4 : E ≠ D := by omega
      clear hne hne2
      try rw [show w.heap.size + 1 + 1 = E from hEE]
      have HEE := Lib.hid hEE
      clear hEE
      have hfin : addCat (kids.drop (i + 1)) (m2.link q.last q2.first) (q.cat q2) = addCat kids n (Part.zero true) := by
        have := HS.out.1
        rw [kids_drop HKD.out] at this
        simp only [addCat, HR.out] at this
        exact this
      have hle : (m2.link q.last q2.first).k + leavesL (kids.drop (i + 1)) ≤ 64 := by
        have h1 := HS.out.2.1
        have h2 := add_k kd m'
        rw [HR.out] at h2
        rw [kids_drop HKD.out] at h1
        simp only [leavesL] at h1
        simp only [NS.link] at h2 ⊢
        omega
      have HF := Lib.hid hfin; have HLE := Lib.hid hle
      clear hfin hle HR
      cases hqe : q.empty <;> cases hpe : q2.empty
      all_goals
        rw [hqe] at a2
        rw [hpe] at d2
        have HQE := Lib.hid hqe; have HPE := Lib.hid hpe
        clear hqe hpe
        go_wp2_with fail
        have hEQ := HEE.out
        clear HEE
        subst hEQ
        go_roundg (gk - 1)
        case measure => omega
        case rel =>
          refine ⟨i + 1, _, q.cat q2, by go_num, by omega, by omega, Lib.hid ⟨HF.out, HLE.out, ?_⟩⟩
          refine HS4.out.put' HLT.out rfl (by repeat (first | exact OnlyE.start HQ3.out | apply OnlyE.set)) ?_
          simp [partC, Part.cat, HQE.out, HPE.out]
    · obtain rfl : i = N := by omega
      have a0 := cell_of_row _ _ 0 _ _ _ HS.out.2.2.all; have a1 := cell_of_row _ _ 1 _ _ _ HS.out.2.2.all; have a2 := cell_of_row _ _ 2 _ _ _ HS.out.2.2.all
      have r0 := cell_of_row _ _ 0 _ _ _ HS.out.2.2.res; have r1 := cell_of_row _ _ 1 _ _ _ HS.out.2.2.res; have r2 := cell_of_row _ _ 2 _ _ _ HS.out.2.2.res
      have f0 := frozen_of_row _ _ 0 _ _ HS.out.2.2.res; have f1 := frozen_of_row _ _ 1 _ _ HS.out.2.2.res; have f2 := frozen_of_row _ _ 2 _ _ HS.out.2.2.res
      simp only [partC, List.getElem?_toArray, List.getElem?_cons_zero, List.getElem?_cons_succ] at a0 a1 a2 r0 r1 r2
      have hfin : (m', q) = addCat kids n (Part.zero true) := by rw [← HS.out.1, List.drop_eq_nil_of_le (by rw [HN.out]; omega)]; rfl
      have HF := Lib.hid hfin
      clear hfin
      go_wp2_with fail
      obtain ⟨e1, e2, e3⟩ := HS.out.2.2.toAS.done HLT.out (.int .u64 (B64 q.first)) (.int .u64 (B64 q.last)) (.bool q.empty)
      refine bodyPost_ret (results_cell_row rfl _ _ (w.heap.size + 1) TPt _ (0, 0) _ rfl e1 Tryd.underlying91 rfl (by kernel_rfl)) rfl ⟨?_, ?_, e3⟩
      · simp only [add, if_pos, show ((3 : Nat) = 2) = False from by simp, if_false]
        rw [← HF.out]; rfl
      · simp only [add, show ((3 : Nat) = 2) = False from by simp, if_false, if_pos]
        rw [← HF.out]; exact e2
end Go.Proofs.YtfhggnbnbopkkaaDoor

namespace Go.Proofs.YtfhggnbnbopkkaaDoor
open Go.RowKit PM

set_option maxRecDepth 100000 in
set_option maxHeartbeats 4000000 in
theorem add_alt (m : Nat) (hm : m ≤ 1000000) (set : Nat → Bool) (kids : List T) (hkl : kids.length ≤ m) (hI : ∀ k ∈ kids, AddOk k) : AddOk (.mk 4 set kids) := by
  intro b n p A o K w h hT hl hb hTab
  have hlt := h.lt
  have HI := Lib.hid hI
  obtain ⟨Ad, ca, ka, rfl, hA⟩ := hT.parts
  simp only [T.kids] at hA
  have HA := Lib.hid hA
  have HTB := Lib.hid hTab
  clear hA hT hI hTab
  simp only [nodeV, nodeC, T.op, T.set, T.kids]
  generalize word set 0 = x0 at *
  generalize word set 1 = x1 at *
  generalize word set 2 = x2 at *
  generalize word set 3 = x3 at *
  obtain ⟨N, hN⟩ : ∃ N, kids.length = N := ⟨_, rfl⟩
  rw [hN] at hkl ⊢
  have HN := Lib.hid hN
  clear hN
  have HS := Lib.hid (KS.start' #[.int .i64 (4 : Nat), .int .u64 x0, .int .u64 x1, .int .u64 x2, .int .u64 x3, .slice Ad N ca] h false)
  have hleaves : n.k + leavesL kids ≤ 64 := by simpa [leaves] using hl
  have HL := Lib.hid hleaves
  have HLT := Lib.hid hlt; have HB := Lib.hid hb
  clear h hl hleaves hb
  go_enter Tryd.func35, Tryd.ntmps35
  go_wp2_with fail
  change Code.wp _ _ _ _ _
  generalize hW0 : ((w.alloc (.cells #[.int .i64 (4 : Nat), .int .u64 x0, .int .u64 x1, .int .u64 x2, .int .u64 x3, .slice Ad N ca] TN)).alloc (.cells #[.int .u64 0, .int .u64 0, .bool false] TPt)).alloc (.cells #[.int .u64 0, .int .u64 0, .bool false] TPt) = W0 at *
  clear hW0
  generalize hCC : (#[.int .i64 (4 : Nat), .int .u64 x0, .int .u64 x1, .int .u64 x2, .int .u64 x3, .slice Ad N ca] : Array Value) = CC at HS
  have HCC := Lib.hid hCC
  clear hCC
  go_loopg [111] (N + 1) (fun k v wr => ∃ (i : Nat) (m' : NS) (q : Part), v = .int .i64 i ∧ i ≤ N ∧ N + 1 - i ≤ k ∧ Hid (addAlt (kids.drop i) m' q = addAlt kids n (Part.zero false) ∧ m'.k + leavesL (kids.drop i) ≤ 64 ∧ KS w b CC m' q p A o wr))
  case atStart => exact ⟨0, n, _, rfl, by omega, by omega, Lib.hid ⟨rfl, HL.out, HS.out⟩⟩
  case round =>
    clear HS
    obtain ⟨i, m', q, rfl, hi, hik, HS⟩ := hrel
    by_cases hlt : i < N
    · have hlt2 : (i : Int) < N := by omega
      obtain ⟨kd, hkd⟩ : ∃ kd, kids[i]? = some kd := ⟨_, List.getElem?_eq_getElem (by rw [HN.out]; exact hlt)⟩
      obtain ⟨⟨ga, oa, rfl, pa, la, hca⟩, hta⟩ := HA.out i kd hkd
      have up := HS.out.2.2.up
      have xa : ∀ j v, (nodeC kd (ka i))[j]? = some v → wr.cell? ⟨ga, oa + i * 6 + j, none⟩ = some v := fun j v hv => (World.cell?_of_block (a := ⟨ga, _, none⟩) (up.block _ la (by simp; omega))).trans (hca j v hv)
      have y0 := xa 0 _ rfl; have y1 := xa 1 _ rfl; have y2 := xa 2 _ rfl; have y3 := xa 3 _ rfl; have y4 := xa 4 _ rfl; have y5 := xa 5 _ rfl
      have HKD := Lib.hid hkd
      have HTA := Lib.hid (hta.grown up (fun x hx e => hx (Option.some.inj e)))
      have HTr := Lib.hid (HTB.out.grown up (fun e => HB.out (Option.some.inj e)))
      clear xa hca up hta hkd pa la
      simp only [Nat.add_zero] at y0
      have HC := Lib.hid (fun W (hW : Below wr.heap.size wr W) => HI.out kd (List.mem_of_getElem? HKD.out) b m' p A o (ka i) W (HS.out.2.2.net.on hW) (HTA.out.on hW) (by have := HS.out.2.1; rw [kids_drop HKD.out] at this; simp only [leavesL] at this; omega) HB.out (HTr.out.on hW))
      simp only [nodeV, nodeC] at HC
      generalize word kd.set 0 = u0 at *
      generalize word kd.set 1 = u1 at *
      generalize word kd.set 2 = u2 at *
      generalize word kd.set 3 = u3 at *
      generalize kd.op = uo at *
      obtain ⟨Ak, ck, hke⟩ := HTA.out.slice
      rw [hke] at HTA HC y5
      clear hke
      generalize kd.kids.length = lk at *
      go_wp2_with fail
      generalize hW1 : wr.alloc (.cells #[.int .i64 uo, .int .u64 u0, .int .u64 u1, .int .u64 u2, .int .u64 u3, .slice Ak lk ck] TN) = W1 at *
      have hb1 : Below wr.heap.size wr W1 := by rw [← hW1]; exact below_new _ _
      refine (HC.out W1 hb1).mono ?_
      rintro e w2 ⟨rfl, hn2, hg2⟩
      have HS2 : Hid (KS w b CC _ q p A o w2) := Lib.hid ((HS.out.2.2.on hb1).go HLT.out hn2 hg2)
      have HT2 : Hid (Tab w2) := Lib.hid ((HTr.out.on hb1).grown hg2 (fun e => HB.out (Option.some.inj e)))
      clear hn2 hg2 hb1 hW1 y0 y1 y2 y3 y4 y5 HC
      generalize hr : add kd m' = r at *
      have HR := Lib.hid hr
      clear hr
      obtain ⟨m2, q2⟩ := r
      simp only [partV, partC, List.toArray]
      have l7 : w.heap.size + 1 + 1 < w2.heap.size := lt_of_block HS2.out.all
      have hall := HS2.out.all
      have a0 := cell_of_row _ _ 0 _ _ _ hall; have a1 := cell_of_row _ _ 1 _ _ _ hall; have a2 := cell_of_row _ _ 2 _ _ _ hall
      simp only [partC, List.getElem?_toArray, List.getElem?_cons_zero, List.getElem?_cons_succ] at a0 a1 a2
      have f0 := frozen_of_row _ _ 0 _ _ hall; have f1 := frozen_of_row _ _ 1 _ _ hall; have f2 := frozen_of_row _ _ 2 _ _ hall
      have hq1 := B64_lt q2.first
      have hq2 := B64_lt q2.last
      have hq3 := B64_lt q.first
      have hq4 := B64_lt q.last
      clear hall
      have o1 : bits .or .u64 (B64 q.first : Int) (B64 q2.first : Int) = ((B64 fun x => q.first x || q2.first x : Nat) : Int) := by rw [bits_or_u64_nat _ _ hq3 hq1, B64_or]
      have o2 : bits .or .u64 (B64 q.last : Int) (B64 q2.last : Int) = ((B64 fun x => q.last x || q2.last x : Nat) : Int) := by rw [bits_or_u64_nat _ _ hq4 hq2, B64_or]
      have hfin : addAlt (kids.drop (i + 1)) m2 (q.alt q2) = addAlt kids n (Part.zero false) := by
        have := HS.out.1
        rw [kids_drop HKD.out] at this
        simp only [addAlt, HR.out] at this
        exact this
      have hle : m2.k + leavesL (kids.drop (i + 1)) ≤ 64 := by
        have h1 := HS.out.2.1
        have h2 := add_k kd m'
        rw [HR.out] at h2
        rw [kids_drop HKD.out] at h1
        simp only [leavesL] at h1
        simp only [] at h2
        omega
      have HF := Lib.hid hfin; have HLE := Lib.hid hle
      clear hfin hle HR
      cases hqe : q.empty
      all_goals
        rw [hqe] at a2
        have HQE := Lib.hid hqe
        clear hqe
        go_wp2_with fail
        go_roundg (gk - 1)
        case measure => omega
        case rel =>
          refine ⟨i + 1, _, q.alt q2, by go_num, by omega, by omega, Lib.hid ⟨HF.out, HLE.out, ?_⟩⟩
          refine KS.on (HS2.out.put' HLT.out rfl (by repeat (first | exact OnlyE.start HS2.out.all | apply OnlyE.set)) ?_) (below_new _ _)
          simp [partC, Part.alt, HQE.out]
    · obtain rfl : i = N := by omega
      have a0 := cell_of_row _ _ 0 _ _ _ HS.out.2.2.all; have a1 := cell_of_row _ _ 1 _ _ _ HS.out.2.2.all; have a2 := cell_of_row _ _ 2 _ _ _ HS.out.2.2.all
      have r0 := cell_of_row _ _ 0 _ _ _ HS.out.2.2.res; have r1 := cell_of_row _ _ 1 _ _ _ HS.out.2.2.res; have r2 := cell_of_row _ _ 2 _ _ _ HS.out.2.2.res
      have f0 := frozen_of_row _ _ 0 _ _ HS.out.2.2.res; have f1 := frozen_of_row _ _ 1 _ _ HS.out.2.2.res; have f2 := frozen_of_row _ _ 2 _ _ HS.out.2.2.res
      simp only [partC, List.getElem?_toArray, List.getElem?_cons_zero, List.getElem?_cons_succ] at a0 a1 a2 r0 r1 r2
      have hfin : (m', q) = addAlt kids n (Part.zero false) := by rw [← HS.out.1, List.drop_eq_nil_of_le (by rw [HN.out]; omega)]; rfl
      have HF := Lib.hid hfin
      clear hfin
      go_wp2_with fail
      obtain ⟨e1, e2, e3⟩ := HS.out.2.2.toAS.done HLT.out (.int .u64 (B64 q.first)) (.int .u64 (B64 q.last)) (.bool q.empty)
      refine bodyPost_ret (results_cell_row rfl _ _ (w.heap.size + 1) TPt _ (0, 0) _ rfl e1 Tryd.underlying91 rfl (by kernel_rfl)) rfl ⟨?_, ?_, e3⟩
      · simp only [add, if_pos, show ((4 : Nat) = 2) = False from by simp, show ((4 : Nat) = 3) = False from by simp, if_false]
        rw [← HF.out]; rfl
      · simp only [add, show ((4 : Nat) = 2) = False from by simp, show ((4 : Nat) = 3) = False from by simp, if_false, if_pos]
        rw [← HF.out]; exact e2
end Go.Proofs.YtfhggnbnbopkkaaDoor

namespace Go.Proofs.YtfhggnbnbopkkaaDoor
open Go.RowKit PM

theorem add_sign5 {set : Nat → Bool} {x : T} {n m : NS} {q : Part} (h : add x n = (m, q)) : add (.mk 5 set [x]) n = (m.link q.last q.first, ⟨q.first, q.last, true⟩) := by
  have : add (.mk 5 set [x]) n = addOne [x] n 5 := by simp only [add]; rfl
  rw [this, addOne, h]; simp
theorem add_sign6 {set : Nat → Bool} {x : T} {n m : NS} {q : Part} (h : add x n = (m, q)) : add (.mk 6 set [x]) n = (m.link q.last q.first, ⟨q.first, q.last, q.empty⟩) := by
  have : add (.mk 6 set [x]) n = addOne [x] n 6 := by simp only [add]; rfl
  rw [this, addOne, h]; simp
theorem add_sign7 {set : Nat → Bool} {x : T} {n m : NS} {q : Part} (h : add x n = (m, q)) : add (.mk 7 set [x]) n = (m, ⟨q.first, q.last, true⟩) := by
  have : add (.mk 7 set [x]) n = addOne [x] n 7 := by simp only [add]; rfl
  rw [this, addOne, h]; simp
theorem addIs_mk {b : Nat} {r r' : NS × Part} {p : Part} {A : Nat → Bool} {o : Bool} {w w' : World} {v : Value} (hr : r = r') (hv : v = partV r'.2) (hn : NB w' b r'.1 p A o) (hg : w.grownBy w' (some b)) : AddIs b r p A o w (.returned v) w' := by
  subst hr; subst hv; exact ⟨rfl, hn, hg⟩
theorem AS.other {w : World} {b : Nat} {C : Array Value} {n : NS} {p : Part} {A : Nat → Bool} {o : Bool} {wr : World} (h : AS w b C n p A o wr) (hb : b < w.heap.size) {D : Nat} (hD : w.heap.size + 1 < D) (i : Nat) (v : Value) : AS w b C n p A o (wr.setCell ⟨D, i, none⟩ v) :=
  ⟨((setB wr D i v).block _ (lt_of_block h.box) (by simp; omega)).trans h.box, ((setB wr D i v).block _ (lt_of_block h.res) (by simp; omega)).trans h.res, h.net.grown (setB wr D i v) (by simp; omega), grown_new h.up (by omega) (setB wr D i v)⟩

set_option maxRecDepth 100000 in
set_option maxHeartbeats 4000000 in
theorem add_one (op : Nat) (hop : op = 5 ∨ op = 6 ∨ op = 7) (set : Nat → Bool) (kd : T) (hI : AddOk kd) : AddOk (.mk op set [kd]) := by
  intro b n p A o K w h hT hl hb hTab
  have hlt := h.lt
  have HI := Lib.hid hI
  obtain ⟨Ad, ca, ka, rfl, hA⟩ := hT.parts
  simp only [T.kids] at hA
  obtain ⟨⟨ga, oa, rfl, pa, la, hca⟩, hta⟩ := hA 0 kd rfl
  have HTB := Lib.hid hTab
  have y0 := hca 0 _ rfl; have y1 := hca 1 _ rfl; have y2 := hca 2 _ rfl; have y3 := hca 3 _ rfl; have y4 := hca 4 _ rfl; have y5 := hca 5 _ rfl
  clear hA hT hI hTab hca
  simp only [Nat.zero_mul, Nat.add_zero] at y0 y1 y2 y3 y4 y5
  have hleaves : n.k + leaves kd ≤ 64 := by
    have : op ≠ 2 := by omega
    simpa [leaves, leavesL, this] using hl
  have HB := Lib.hid hb
  have HH := Lib.hid h
  have HC := Lib.hid (fun W (hW : Below w.heap.size w W) => HI.out b n p A o (ka 0) W (h.on hW) (hta.on hW) hleaves hb (HTB.out.on hW))
  obtain ⟨Ak, ck, hke⟩ := hta.slice
  rw [hke] at HC y5
  have HLE := Lib.hid hleaves
  have HLT := Lib.hid hlt
  clear h hl hleaves hb hke hta
  simp only [nodeV, nodeC] at HC
  simp only [nodeV, nodeC, T.op, T.set, T.kids, List.length_cons, List.length_nil]
  generalize word set 0 = x0 at *
  generalize word set 1 = x1 at *
  generalize word set 2 = x2 at *
  generalize word set 3 = x3 at *
  generalize word kd.set 0 = u0 at *
  generalize word kd.set 1 = u1 at *
  generalize word kd.set 2 = u2 at *
  generalize word kd.set 3 = u3 at *
  generalize kd.op = uo at *
  generalize kd.kids.length = lk at *
  rcases hop with rfl | rfl | rfl
  · go_enter Tryd.func35, Tryd.ntmps35
    go_wp2_with fail
    have HS := AS.start #[.int .i64 (5 : Nat), .int .u64 x0, .int .u64 x1, .int .u64 x2, .int .u64 x3, .slice (some ⟨ga, oa, none⟩) 1 ca] HH.out
    have hbw : Below w.heap.size w ((w.alloc (.cells #[.int .i64 (5 : Nat), .int .u64 x0, .int .u64 x1, .int .u64 x2, .int .u64 x3, .slice (some ⟨ga, oa, none⟩) 1 ca] TN)).alloc (.cells #[.int .u64 0, .int .u64 0, .bool false] TPt)) := ((Below.refl _ _).alloc (Nat.le_refl _) _).alloc (by simp) _
    generalize (w.alloc (.cells #[.int .i64 (5 : Nat), .int .u64 x0, .int .u64 x1, .int .u64 x2, .int .u64 x3, .slice (some ⟨ga, oa, none⟩) 1 ca] TN)).alloc (.cells #[.int .u64 0, .int .u64 0, .bool false] TPt) = W1 at *
    refine (HC.out W1 hbw).mono ?_
    rintro e w2 ⟨rfl, hn2, hg2⟩
    have HS2 := Lib.hid (HS.go hlt hn2 hg2)
    have HT2 : Hid (Tab w2) := Lib.hid ((HTB.out.on hbw).grown hg2 (fun e => HB.out (Option.some.inj e)))
    clear hn2 hg2 hbw HS HC y0 y1 y2 y3 y4 y5 HH
    generalize hCC : (#[.int .i64 (5 : Nat), .int .u64 x0, .int .u64 x1, .int .u64 x2, .int .u64 x3, .slice (some ⟨ga, oa, none⟩) 1 ca] : Array Value) = CC at *
    have HCC := Lib.hid hCC
    clear hCC
    generalize hr : add kd n = r at *
    have HR := Lib.hid hr
    clear hr
    obtain ⟨m2, q2⟩ := r
    simp only [partV, partC, List.toArray]
    have b0 : w2.cell? ⟨w.heap.size, 0, none⟩ = some (.int .i64 (5 : Nat)) := by rw [cell_of_row _ _ 0 _ _ _ HS2.out.box, ← HCC.out]; rfl
    have l1 : w.heap.size + 1 < w2.heap.size := lt_of_block HS2.out.res
    have l0 : w.heap.size < w2.heap.size := by omega
    cases hpe : q2.empty
    all_goals
      have HPE := Lib.hid hpe
      clear hpe
      go_wp2_with fail
      generalize hW3 : w2.alloc (.cells #[.int .u64 (B64 q2.first), .int .u64 (B64 q2.last), .bool _] TPt) = W3 at *
      have hb3 : Below w2.heap.size w2 W3 := by rw [← hW3]; exact below_new _ _
      have hD : ∃ e, q2.empty = e ∧ W3.heap[w2.heap.size]? = some (.cells #[.int .u64 (B64 q2.first), .int .u64 (B64 q2.last), .bool e] TPt (0, 0)) := ⟨_, HPE.out, by rw [← hW3]; exact heap_alloc_new w2 _⟩
      refine (link_any b m2 p A o q2.last q2.first W3 (HS2.out.net.on hb3) HB.out (HT2.out.on hb3)).mono ?_
      rintro e w4 ⟨rfl, hn4, hg4⟩
      have HS4 : Hid (AS w b CC (m2.link q2.last q2.first) p A o w4) := Lib.hid ((HS2.out.on hb3).go hlt hn4 hg4)
      obtain ⟨e, he, hD⟩ := hD
      replace hD := (hg4.block _ (lt_of_block hD) (by have := HS2.out.net.lt; simp; omega)).trans hD
      rw [HPE.out] at he
      subst he
      clear hn4 hg4 hb3 hW3 b0
      have b0 : w4.cell? ⟨w.heap.size, 0, none⟩ = some (.int .i64 (5 : Nat)) := by rw [cell_of_row _ _ 0 _ _ _ HS4.out.box, ← HCC.out]; rfl
      have r0 := cell_of_row _ _ 0 _ _ _ HS4.out.res; have r1 := cell_of_row _ _ 1 _ _ _ HS4.out.res; have r2 := cell_of_row _ _ 2 _ _ _ HS4.out.res
      have f0 := frozen_of_row _ _ 0 _ _ HS4.out.res; have f1 := frozen_of_row _ _ 1 _ _ HS4.out.res; have f2 := frozen_of_row _ _ 2 _ _ HS4.out.res
      have d0 := cell_of_row _ _ 0 _ _ _ hD; have d1 := cell_of_row _ _ 1 _ _ _ hD; have d2 := cell_of_row _ _ 2 _ _ _ hD
      have g2 := frozen_of_row _ _ 2 _ _ hD
      simp only [List.getElem?_toArray, List.getElem?_cons_zero, List.getElem?_cons_succ] at r0 r1 r2 d0 d1 d2
      generalize hDD : w2.heap.size = D at *
      have n1 : D ≠ w.heap.size + 1 := by omega
      have n2 : w.heap.size + 1 ≠ D := by omega
      have n3 : D ≠ w.heap.size := by omega
      have n4 : w.heap.size ≠ D := by omega
      clear hD
      go_wp2_with fail
      obtain ⟨e1, e2, e3⟩ := (HS4.out.other hlt (D := D) (by omega) 2 (.bool true)).done hlt (.int .u64 (B64 q2.first)) (.int .u64 (B64 q2.last)) (.bool true)
      refine bodyPost_ret (results_cell_row rfl _ _ (w.heap.size + 1) TPt _ (0, 0) _ rfl e1 Tryd.underlying91 rfl (by kernel_rfl)) rfl (addIs_mk (r' := (m2.link q2.last q2.first, ⟨q2.first, q2.last, true⟩)) ?_ rfl e2 e3)
      exact add_sign5 HR.out
  · go_enter Tryd.func35, Tryd.ntmps35
    go_wp2_with fail
    have HS := AS.start #[.int .i64 (6 : Nat), .int .u64 x0, .int .u64 x1, .int .u64 x2, .int .u64 x3, .slice (some ⟨ga, oa, none⟩) 1 ca] HH.out
    have hbw : Below w.heap.size w ((w.alloc (.cells #[.int .i64 (6 : Nat), .int .u64 x0, .int .u64 x1, .int .u64 x2, .int .u64 x3, .slice (some ⟨ga, oa, none⟩) 1 ca] TN)).alloc (.cells #[.int .u64 0, .int .u64 0, .bool false] TPt)) := ((Below.refl _ _).alloc (Nat.le_refl _) _).alloc (by simp) _
    generalize (w.alloc (.cells #[.int .i64 (6 : Nat), .int .u64 x0, .int .u64 x1, .int .u64 x2, .int .u64 x3, .slice (some ⟨ga, oa, none⟩) 1 ca] TN)).alloc (.cells #[.int .u64 0, .int .u64 0, .bool false] TPt) = W1 at *
    refine (HC.out W1 hbw).mono ?_
    rintro e w2 ⟨rfl, hn2, hg2⟩
    have HS2 := Lib.hid (HS.go hlt hn2 hg2)
    have HT2 : Hid (Tab w2) := Lib.hid ((HTB.out.on hbw).grown hg2 (fun e => HB.out (Option.some.inj e)))
    clear hn2 hg2 hbw HS HC y0 y1 y2 y3 y4 y5 HH
    generalize hCC : (#[.int .i64 (6 : Nat), .int .u64 x0, .int .u64 x1, .int .u64 x2, .int .u64 x3, .slice (some ⟨ga, oa, none⟩) 1 ca] : Array Value) = CC at *
    have HCC := Lib.hid hCC
    clear hCC
    generalize hr : add kd n = r at *
    have HR := Lib.hid hr
    clear hr
    obtain ⟨m2, q2⟩ := r
    simp only [partV, partC, List.toArray]
    have b0 : w2.cell? ⟨w.heap.size, 0, none⟩ = some (.int .i64 (6 : Nat)) := by rw [cell_of_row _ _ 0 _ _ _ HS2.out.box, ← HCC.out]; rfl
    have l1 : w.heap.size + 1 < w2.heap.size := lt_of_block HS2.out.res
    have l0 : w.heap.size < w2.heap.size := by omega
    cases hpe : q2.empty
    · have HPE := Lib.hid hpe
      clear hpe
      go_wp2_with fail
      generalize hW3 : w2.alloc (.cells #[.int .u64 (B64 q2.first), .int .u64 (B64 q2.last), .bool _] TPt) = W3 at *
      have hb3 : Below w2.heap.size w2 W3 := by rw [← hW3]; exact below_new _ _
      have hD : ∃ e, q2.empty = e ∧ W3.heap[w2.heap.size]? = some (.cells #[.int .u64 (B64 q2.first), .int .u64 (B64 q2.last), .bool e] TPt (0, 0)) := ⟨_, HPE.out, by rw [← hW3]; exact heap_alloc_new w2 _⟩
      refine (link_any b m2 p A o q2.last q2.first W3 (HS2.out.net.on hb3) HB.out (HT2.out.on hb3)).mono ?_
      rintro e w4 ⟨rfl, hn4, hg4⟩
      have HS4 : Hid (AS w b CC (m2.link q2.last q2.first) p A o w4) := Lib.hid ((HS2.out.on hb3).go hlt hn4 hg4)
      obtain ⟨e, he, hD⟩ := hD
      replace hD := (hg4.block _ (lt_of_block hD) (by have := HS2.out.net.lt; simp; omega)).trans hD
      rw [HPE.out] at he
      subst he
      clear hn4 hg4 hb3 hW3 b0
      have b0 : w4.cell? ⟨w.heap.size, 0, none⟩ = some (.int .i64 (6 : Nat)) := by rw [cell_of_row _ _ 0 _ _ _ HS4.out.box, ← HCC.out]; rfl
      have r0 := cell_of_row _ _ 0 _ _ _ HS4.out.res; have r1 := cell_of_row _ _ 1 _ _ _ HS4.out.res; have r2 := cell_of_row _ _ 2 _ _ _ HS4.out.res
      have f0 := frozen_of_row _ _ 0 _ _ HS4.out.res; have f1 := frozen_of_row _ _ 1 _ _ HS4.out.res; have f2 := frozen_of_row _ _ 2 _ _ HS4.out.res
      have d0 := cell_of_row _ _ 0 _ _ _ hD; have d1 := cell_of_row _ _ 1 _ _ _ hD; have d2 := cell_of_row _ _ 2 _ _ _ hD
      have g2 := frozen_of_row _ _ 2 _ _ hD
      simp only [List.getElem?_toArray, List.getElem?_cons_zero, List.getElem?_cons_succ] at r0 r1 r2 d0 d1 d2
      generalize hDD : w2.heap.size = D at *
      have n1 : D ≠ w.heap.size + 1 := by omega
      have n2 : w.heap.size + 1 ≠ D := by omega
      have n3 : D ≠ w.heap.size := by omega
      have n4 : w.heap.size ≠ D := by omega
      clear hD
      go_wp2_with fail
      obtain ⟨e1, e2, e3⟩ := (HS4.out.other hlt (D := D) (by omega) 2 (.bool false)).done hlt (.int .u64 (B64 q2.first)) (.int .u64 (B64 q2.last)) (.bool false)
      refine bodyPost_ret (results_cell_row rfl _ _ (w.heap.size + 1) TPt _ (0, 0) _ rfl e1 Tryd.underlying91 rfl (by kernel_rfl)) rfl (addIs_mk (r' := (m2.link q2.last q2.first, ⟨q2.first, q2.last, false⟩)) ?_ rfl e2 e3)
      rw [add_sign6 HR.out, HPE.out]
    · have HPE := Lib.hid hpe
      clear hpe
      go_wp2_with fail
      generalize hW3 : w2.alloc (.cells #[.int .u64 (B64 q2.first), .int .u64 (B64 q2.last), .bool _] TPt) = W3 at *
      have hb3 : Below w2.heap.size w2 W3 := by rw [← hW3]; exact below_new _ _
      have hD : ∃ e, q2.empty = e ∧ W3.heap[w2.heap.size]? = some (.cells #[.int .u64 (B64 q2.first), .int .u64 (B64 q2.last), .bool e] TPt (0, 0)) := ⟨_, HPE.out, by rw [← hW3]; exact heap_alloc_new w2 _⟩
      refine (link_any b m2 p A o q2.last q2.first W3 (HS2.out.net.on hb3) HB.out (HT2.out.on hb3)).mono ?_
      rintro e w4 ⟨rfl, hn4, hg4⟩
      have HS4 : Hid (AS w b CC (m2.link q2.last q2.first) p A o w4) := Lib.hid ((HS2.out.on hb3).go hlt hn4 hg4)
      obtain ⟨e, he, hD⟩ := hD
      replace hD := (hg4.block _ (lt_of_block hD) (by have := HS2.out.net.lt; simp; omega)).trans hD
      rw [HPE.out] at he
      subst he
      clear hn4 hg4 hb3 hW3 b0
      have b0 : w4.cell? ⟨w.heap.size, 0, none⟩ = some (.int .i64 (6 : Nat)) := by rw [cell_of_row _ _ 0 _ _ _ HS4.out.box, ← HCC.out]; rfl
      have r0 := cell_of_row _ _ 0 _ _ _ HS4.out.res; have r1 := cell_of_row _ _ 1 _ _ _ HS4.out.res; have r2 := cell_of_row _ _ 2 _ _ _ HS4.out.res
      have f0 := frozen_of_row _ _ 0 _ _ HS4.out.res; have f1 := frozen_of_row _ _ 1 _ _ HS4.out.res; have f2 := frozen_of_row _ _ 2 _ _ HS4.out.res
      have d0 := cell_of_row _ _ 0 _ _ _ hD; have d1 := cell_of_row _ _ 1 _ _ _ hD; have d2 := cell_of_row _ _ 2 _ _ _ hD
      have g2 := frozen_of_row _ _ 2 _ _ hD
      simp only [List.getElem?_toArray, List.getElem?_cons_zero, List.getElem?_cons_succ] at r0 r1 r2 d0 d1 d2
      generalize hDD : w2.heap.size = D at *
      have n1 : D ≠ w.heap.size + 1 := by omega
      have n2 : w.heap.size + 1 ≠ D := by omega
      have n3 : D ≠ w.heap.size := by omega
      have n4 : w.heap.size ≠ D := by omega
      clear hD
      go_wp2_with fail
      obtain ⟨e1, e2, e3⟩ := (HS4.out.other hlt (D := D) (by omega) 2 (.bool true)).done hlt (.int .u64 (B64 q2.first)) (.int .u64 (B64 q2.last)) (.bool true)
      refine bodyPost_ret (results_cell_row rfl _ _ (w.heap.size + 1) TPt _ (0, 0) _ rfl e1 Tryd.underlying91 rfl (by kernel_rfl)) rfl (addIs_mk (r' := (m2.link q2.last q2.first, ⟨q2.first, q2.last, true⟩)) ?_ rfl e2 e3)
      rw [add_sign6 HR.out, HPE.out]
  · go_enter Tryd.func35, Tryd.ntmps35
    go_wp2_with fail
    have HS := AS.start #[.int .i64 (7 : Nat), .int .u64 x0, .int .u64 x1, .int .u64 x2, .int .u64 x3, .slice (some ⟨ga, oa, none⟩) 1 ca] HH.out
    have hbw : Below w.heap.size w ((w.alloc (.cells #[.int .i64 (7 : Nat), .int .u64 x0, .int .u64 x1, .int .u64 x2, .int .u64 x3, .slice (some ⟨ga, oa, none⟩) 1 ca] TN)).alloc (.cells #[.int .u64 0, .int .u64 0, .bool false] TPt)) := ((Below.refl _ _).alloc (Nat.le_refl _) _).alloc (by simp) _
    generalize (w.alloc (.cells #[.int .i64 (7 : Nat), .int .u64 x0, .int .u64 x1, .int .u64 x2, .int .u64 x3, .slice (some ⟨ga, oa, none⟩) 1 ca] TN)).alloc (.cells #[.int .u64 0, .int .u64 0, .bool false] TPt) = W1 at *
    refine (HC.out W1 hbw).mono ?_
    rintro e w2 ⟨rfl, hn2, hg2⟩
    have HS2 := Lib.hid (HS.go hlt hn2 hg2)
    have HT2 : Hid (Tab w2) := Lib.hid ((HTB.out.on hbw).grown hg2 (fun e => HB.out (Option.some.inj e)))
    clear hn2 hg2 hbw HS HC y0 y1 y2 y3 y4 y5 HH
    generalize hCC : (#[.int .i64 (7 : Nat), .int .u64 x0, .int .u64 x1, .int .u64 x2, .int .u64 x3, .slice (some ⟨ga, oa, none⟩) 1 ca] : Array Value) = CC at *
    have HCC := Lib.hid hCC
    clear hCC
    generalize hr : add kd n = r at *
    have HR := Lib.hid hr
    clear hr
    obtain ⟨m2, q2⟩ := r
    simp only [partV, partC, List.toArray]
    have b0 : w2.cell? ⟨w.heap.size, 0, none⟩ = some (.int .i64 (7 : Nat)) := by rw [cell_of_row _ _ 0 _ _ _ HS2.out.box, ← HCC.out]; rfl
    have l1 : w.heap.size + 1 < w2.heap.size := lt_of_block HS2.out.res
    have l0 : w.heap.size < w2.heap.size := by omega
    cases hpe : q2.empty
    all_goals
      have HPE := Lib.hid hpe
      clear hpe
      have r0 := cell_of_row _ _ 0 _ _ _ HS2.out.res; have r1 := cell_of_row _ _ 1 _ _ _ HS2.out.res; have r2 := cell_of_row _ _ 2 _ _ _ HS2.out.res
      have f0 := frozen_of_row _ _ 0 _ _ HS2.out.res; have f1 := frozen_of_row _ _ 1 _ _ HS2.out.res; have f2 := frozen_of_row _ _ 2 _ _ HS2.out.res
      simp only [List.getElem?_toArray, List.getElem?_cons_zero, List.getElem?_cons_succ] at r0 r1 r2
      go_wp2_with fail
      obtain ⟨e1, e2, e3⟩ := HS2.out.done hlt (.int .u64 (B64 q2.first)) (.int .u64 (B64 q2.last)) (.bool true)
      refine bodyPost_ret (results_cell_row rfl _ _ (w.heap.size + 1) TPt _ (0, 0) _ rfl ((below_new _ _).block _ (lt_of_block e1) |>.trans e1) Tryd.underlying91 rfl (by kernel_rfl)) rfl (addIs_mk (r' := (m2, ⟨q2.first, q2.last, true⟩)) ?_ rfl (e2.on (below_new _ _)) (grown_trans e3 (grown_below (below_new _ _) _)))
      exact add_sign7 HR.out

end Go.Proofs.YtfhggnbnbopkkaaDoor

namespace Go.Proofs.YtfhggnbnbopkkaaDoor
open Go.RowKit PM

set_option maxRecDepth 100000 in
set_option maxHeartbeats 4000000 in
theorem add_other (op : Nat) (h2 : op ≠ 2) (h3 : op ≠ 3) (h4 : op ≠ 4) (h5 : op ≠ 5) (h6 : op ≠ 6) (h7 : op ≠ 7)(set : Nat → Bool) (kids : List T) : AddOk (.mk op set kids) := by
  intro b n p A o K w h hT hl hb hTab
  have hlt := h.lt
  obtain ⟨Ad, c, rfl⟩ := hT.slice
  have c2 : ((op : Int) == 2) = false := by rw [beq_eq_false_iff_ne]; omega
  have c3 : ((op : Int) == 3) = false := by rw [beq_eq_false_iff_ne]; omega
  have c4 : ((op : Int) == 4) = false := by rw [beq_eq_false_iff_ne]; omega
  have c5 : ((op : Int) == 5) = false := by rw [beq_eq_false_iff_ne]; omega
  have c6 : ((op : Int) == 6) = false := by rw [beq_eq_false_iff_ne]; omega
  have c7 : ((op : Int) == 7) = false := by rw [beq_eq_false_iff_ne]; omega
  have HA : add (.mk op set kids) n = (n, Part.zero true) := by simp [add, h2, h3, h4, h5, h6, h7]
  have HHA := Lib.hid HA
  clear hT hl hb hTab HA h2 h3 h4 h5 h6 h7
  simp only [nodeV, nodeC, T.op, T.set, T.kids]
  generalize word set 0 = x0 at *
  generalize word set 1 = x1 at *
  generalize word set 2 = x2 at *
  generalize word set 3 = x3 at *
  generalize kids.length = N at *
  have HS := Lib.hid h
  clear h
  go_enter Tryd.func35, Tryd.ntmps35
  go_wp2_with fail
  have b1 := below_new w (.cells #[.int .i64 op, .int .u64 x0, .int .u64 x1, .int .u64 x2, .int .u64 x3, .slice Ad N c] TN)
  have b2 := below_new (w.alloc (.cells #[.int .i64 op, .int .u64 x0, .int .u64 x1, .int .u64 x2, .int .u64 x3, .slice Ad N c] TN)) (.cells #[.int .u64 0, .int .u64 0, .bool true] TPt)
  have e1 := heap_alloc_new (w.alloc (.cells #[.int .i64 op, .int .u64 x0, .int .u64 x1, .int .u64 x2, .int .u64 x3, .slice Ad N c] TN)) (.cells #[.int .u64 0, .int .u64 0, .bool true] TPt)
  simp only [World.size_alloc] at b2 e1
  have bb := b1.trans (b2.mono (by omega))
  refine bodyPost_ret (results_cell_row rfl _ _ (w.heap.size + 1) TPt _ (0, 0) _ rfl e1 Tryd.underlying91 rfl (by kernel_rfl)) rfl (addIs_mk (r' := (n, Part.zero true)) HHA.out ?_ (HS.out.on bb) (grown_below bb _))
  show _ = Value.agg (partC (Part.zero true)).toArray
  rw [partC_zero]

/-- add: a tree's places -/
theorem add_any (m : Nat) (hm : m ≤ 1000000) (t : T) : T.OK m t → AddOk t := by
  induction t using T.ind with
  | h op set kids ih =>
    intro hok
    obtain ⟨h5, hkl, hks⟩ : (op = 5 ∨ op = 6 ∨ op = 7 → ∃ k, kids = [k]) ∧ kids.length ≤ m ∧ ∀ k ∈ kids, T.OK m k := by cases hok with | mk a b c => exact ⟨a, b, c⟩
    have hI : ∀ k ∈ kids, AddOk k := fun k hk => ih k hk (hks k hk)
    by_cases h2 : op = 2
    · subst h2
      intro b n p A o K w h _ hl hb _
      exact add_set set kids K b n p A o w h (by simp only [leaves, if_pos] at hl; omega) hb
    by_cases h3 : op = 3
    · subst h3; exact add_cat m hm set kids hkl hI
    by_cases h4 : op = 4
    · subst h4; exact add_alt m hm set kids hkl hI
    by_cases h56 : op = 5 ∨ op = 6 ∨ op = 7
    · obtain ⟨k, rfl⟩ := h5 h56
      exact add_one op h56 set k (hI k (by simp))
    · exact add_other op h2 h3 h4 (by omega) (by omega) (by omega) set kids
end Go.Proofs.YtfhggnbnbopkkaaDoor
