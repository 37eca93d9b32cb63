/- add: a node's places: a set. -/
import Derived.Test.YtpiflikblpfgoaaDoorNfaLink
namespace Go.Proofs.YtpiflikblpfgoaaDoor
open Go.RowKit PM

/-- a part, as a value -/
def partC (p : Part) : List Value := [.int .u64 (B64 p.first), .int .u64 (B64 p.last), .bool p.empty]
def partV (p : Part) : Value := .agg (partC p).toArray

/-- what add holds: its node, its result, the net -/
structure AS (w : World) (b : Nat) (C : Array Value) (n : NS) (p : Part) (A : Nat → Bool) (o : Bool) (wr : World) : Prop where
  box : wr.heap[w.heap.size]? = some (.cells C TN (0, 0))
  res : wr.heap[w.heap.size + 1]? = some (.cells #[.int .u64 0, .int .u64 0, .bool false] TPt (0, 0))
  net : NB wr b n p A o
  up : w.grownBy wr (some b)
theorem AS.start {w : World} {b : Nat} (C : Array Value) {n : NS} {p : Part} {A : Nat → Bool} {o : Bool} (h : NB w b n p A o) : AS w b C n p A o ((w.alloc (.cells C TN)).alloc (.cells #[.int .u64 0, .int .u64 0, .bool false] TPt)) := by
  have b1 := below_new w (.cells C TN)
  have b2 := below_new (w.alloc (.cells C TN)) (.cells #[.int .u64 0, .int .u64 0, .bool false] TPt)
  have h1 := heap_alloc_new w (.cells C TN)
  have h2 := heap_alloc_new (w.alloc (.cells C TN)) (.cells #[.int .u64 0, .int .u64 0, .bool false] TPt)
  simp only [World.size_alloc] at b2 h2
  have bb := b1.trans (b2.mono (by omega))
  exact ⟨(b2.block _ (by omega)).trans h1, h2, h.on bb, grown_below bb _⟩
theorem AS.go {w : World} {b : Nat} {C : Array Value} {n m : NS} {p q : Part} {A A' : Nat → Bool} {o o' : Bool} {wr w' : World} (h : AS w b C n p A o wr) (hb : b < w.heap.size) (hn : NB w' b m q A' o') (hg : wr.grownBy w' (some b)) : AS w b C m q A' o' w' :=
  ⟨(hg.block _ (lt_of_block h.box) (by simp; omega)).trans h.box, (hg.block _ (lt_of_block h.res) (by simp; omega)).trans h.res, hn, grown_trans h.up hg⟩
theorem AS.on {w : World} {b : Nat} {C : Array Value} {n : NS} {p : Part} {A : Nat → Bool} {o : Bool} {wr w' : World} (h : AS w b C n p A o wr) (hb : Below wr.heap.size wr w') : AS w b C n p A o w' :=
  ⟨(hb.block _ (lt_of_block h.box)).trans h.box, (hb.block _ (lt_of_block h.res)).trans h.res, h.net.on hb, grown_trans h.up (grown_below hb _)⟩

/-- three cells of a row -/
def set3 (w : World) (g : Nat) (x y z : Value) : World := ((w.setCell ⟨g, 0, none⟩ x).setCell ⟨g, 1, none⟩ y).setCell ⟨g, 2, none⟩ z
theorem set3_at {w : World} {g : Nat} {a b c : Value} {t : TypeId} (h : w.heap[g]? = some (.cells #[a, b, c] t (0, 0))) (x y z : Value) : (set3 w g x y z).heap[g]? = some (.cells #[x, y, z] t (0, 0)) :=
  heap_setCell_same _ g 2 _ _ z (heap_setCell_same _ g 1 _ _ y (heap_setCell_same _ g 0 _ _ x h))
theorem set3_grown (w : World) (g : Nat) (x y z : Value) : w.grownBy (set3 w g x y z) (some g) := grown_trans (grown_trans (setB _ _ _ _) (setB _ _ _ _)) (setB _ _ _ _)
theorem grown_new {w wr w' : World} {b B : Nat} (h : w.grownBy wr (some b)) (hB : w.heap.size ≤ B) (hg : wr.grownBy w' (some B)) : w.grownBy w' (some b) :=
  ⟨hg.os.trans h.os, hg.tape.trans h.tape, hg.output.trans h.output, Nat.le_trans h.size hg.size, fun k hk hne => (hg.block k (by have := h.size; omega) (fun e => by have := Option.some.inj e; omega)).trans (h.block k hk hne)⟩
theorem AS.done {w : World} {b : Nat} {C : Array Value} {n : NS} {p : Part} {A : Nat → Bool} {o : Bool} {wr : World} (h : AS w b C n p A o wr) (hb : b < w.heap.size) (x y z : Value) :
    (set3 wr (w.heap.size + 1) x y z).heap[w.heap.size + 1]? = some (.cells #[x, y, z] TPt (0, 0)) ∧ NB (set3 wr (w.heap.size + 1) x y z) b n p A o ∧ w.grownBy (set3 wr (w.heap.size + 1) x y z) (some b) :=
  ⟨set3_at h.res x y z, h.net.grown (set3_grown _ _ _ _ _) (by simp; omega), grown_new h.up (by omega) (set3_grown _ _ _ _ _)⟩

/-- what a node's places are found to be -/
def AddIs (b : Nat) (r : NS × Part) (p : Part) (A : Nat → Bool) (o : Bool) (w : World) (e : Ending) (w' : World) : Prop := e = .returned (partV r.2) ∧ NB w' b r.1 p A o ∧ w.grownBy w' (some b)

theorem AS.start' {w w1 : World} {b : Nat} (C : Array Value) {n : NS} {p : Part} {A : Nat → Bool} {o : Bool} (h : NB w1 b n p A o) (hs : w1.heap.size = w.heap.size) (hg : w.grownBy w1 (some b)) : AS w b C n p A o ((w1.alloc (.cells C TN)).alloc (.cells #[.int .u64 0, .int .u64 0, .bool false] TPt)) := by
  have := AS.start C h
  exact ⟨hs ▸ this.box, hs ▸ this.res, this.net, grown_trans hg this.up⟩

/-- a byte's bit in a set's word -/
theorem test_bit (p : Nat → Bool) (c : Nat) : (bits .and .u64 ((word p (c / 64) : Int) / (2 : Int) ^ (c % 64)) 1 == 1) = p c := by
  have h1 := word_lt p (c / 64)
  have e : ((word p (c / 64) : Int) / (2 : Int) ^ (c % 64)) = ((word p (c / 64) / 2 ^ (c % 64) : Nat) : Int) := by simp
  have h2 : word p (c / 64) / 2 ^ (c % 64) ≤ word p (c / 64) := Nat.div_le_self _ _
  have h3 := word_test p (c / 64) (c % 64)
  rw [Nat.testBit_eq_decide_div_mod_eq, show decide (c % 64 < 64) = true from decide_eq_true (by omega), Bool.true_and, show 64 * (c / 64) + c % 64 = c by omega] at h3
  rw [e, show (1 : Int) = ((1 : Nat) : Int) from rfl, bits_and_u64_nat _ 1 (by omega) (by omega), Nat.and_one_is_mod, ← h3]
  rw [Bool.eq_iff_iff]; simp; omega

/-- .. the bytes below one done -/
def PM.NS.leafTo (n : NS) (set : Nat → Bool) (c : Nat) : NS := { n with k := n.k + 1, has := fun x q => n.has x q || (q == n.k && (set x && decide (x < c))) }

theorem leafTo_not {n : NS} {set : Nat → Bool} {c x q : Nat} (h : set c = false) : (n.leafTo set c).has x q = (n.leafTo set (c + 1)).has x q := by
  simp only [PM.NS.leafTo]
  by_cases e : x = c
  · subst e; simp [h]
  · have : decide (x < c) = decide (x < c + 1) := by simp; omega
    rw [this]
/-- the place gets the byte -/
theorem leafTo_step {w : World} {b : Nat} {n : NS} {set : Nat → Bool} {p : Part} {A : Nat → Bool} {o : Bool} {c : Nat} (h : NB w b (n.leafTo set c) p A o) (hc : c < 256) (hs : set c = true) :
    NB (w.setCell ⟨b, c, none⟩ (.int .u64 (B64 fun q => (n.leafTo set c).has c q || q == n.k))) b (n.leafTo set (c + 1)) p A o := by
  refine (h.set_has hc _).congr rfl (fun x q hx hq => ?_) (fun _ _ _ _ => rfl)
  simp only [PM.NS.leafTo]
  by_cases e : x = c
  · subst e
    rw [if_pos rfl]
    simp [hs]
  · have : decide (x < c) = decide (x < c + 1) := by simp; omega
    rw [if_neg e, this]

set_option maxRecDepth 100000 in
set_option maxHeartbeats 4000000 in
theorem add_set (set : Nat → Bool) (kids : List T) (K : Value) (b : Nat) (n : NS) (p : Part) (A : Nat → Bool) (o : Bool) (w : World) (h : NB w b n p A o) (hk : n.k < 64) (_hb : b ≠ 0) :
    Calls Tryd.prog 25 #[.pointer (some ⟨b, 0, none⟩), nodeV (.mk 2 set kids) K] w (AddIs b (add (.mk 2 set kids) n) p A o w) := by
  have hlt := h.lt
  simp only [nodeV, nodeC, T.op, T.set]
  generalize hx0 : word set 0 = x0 at *
  generalize hx1 : word set 1 = x1 at *
  generalize hx2 : word set 2 = x2 at *
  generalize hx3 : word set 3 = x3 at *
  have HS := Lib.hid (AS.start' (w := w) (w1 := w.setCell ⟨b, 325, none⟩ (.int .i64 ((n.k : Int) + 1))) #[.int .i64 (2 : Nat), .int .u64 x0, .int .u64 x1, .int .u64 x2, .int .u64 x3, K] (n := n.leafTo set 0) (p := p) (A := A) (o := o)
    ((h.set_k (n.k + 1)).congr rfl (fun c q _ _ => by simp [NS.leafTo]) (fun _ _ _ _ => rfl)) (by simp) (setB _ _ _ _))
  have hc0 := h.c_k
  have hf0 := h.frozen 325
  clear h
  have hk2 : (n.k : Int) < 64 := by omega
  have hk3 : (0 : Int) ≤ n.k := by omega
  have hbit : IntKind.u64.wrap ((2 : Int) ^ n.k) = ((B64 fun q => q == n.k : Nat) : Int) := by rw [u64wrap_pow _ hk, B64_one hk]
  go_enter Tryd.func25, Tryd.ntmps25
  go_wp2_with fail
  change Code.wp _ _ _ _ _
  have HK := Lib.hid hk; have HLT := Lib.hid hlt
  have hbl := B64_lt fun q => q == n.k
  generalize hbi : (B64 fun q => q == n.k) = bi at *
  generalize ((w.setCell ⟨b, 325, none⟩ (.int .i64 ((n.k : Int) + 1))).alloc (.cells #[.int .i64 (2 : Nat), .int .u64 x0, .int .u64 x1, .int .u64 x2, .int .u64 x3, K] TN)).alloc (.cells #[.int .u64 0, .int .u64 0, .bool false] TPt) = W0 at *
  clear hc0 hf0 hk hlt hk2 hk3 hbit
  go_loopg [32] (257 : Nat) (fun k v wr => ∃ c : Nat, v = .int .i64 c ∧ c ≤ 256 ∧ 257 - c ≤ k ∧ Hid (AS w b #[.int .i64 (2 : Nat), .int .u64 x0, .int .u64 x1, .int .u64 x2, .int .u64 x3, K] (n.leafTo set c) p A o wr))
  case atStart => exact ⟨0, rfl, by omega, by omega, HS⟩
  case round =>
    clear HS
    obtain ⟨c, rfl, hc, hck, HS⟩ := hrel
    have hnet := HS.out.net
    have hbox := HS.out.box
    have hres := HS.out.res
    by_cases hlt : c < 256
    · have hl1 : (c : Int) < 256 := by omega
      have hl2 : (0 : Int) ≤ c := by omega
      have hs : wr.cell? ⟨w.heap.size, 1 + c / 64, none⟩ = some (.int .u64 (word set (c / 64))) := by
        rw [cell_of_row _ _ (1 + c / 64) _ _ _ hbox]
        have : c / 64 = 0 ∨ c / 64 = 1 ∨ c / 64 = 2 ∨ c / 64 = 3 := by omega
        rcases this with e | e | e | e <;> rw [e] <;> first | (rw [hx0]; rfl) | (rw [hx1]; rfl) | (rw [hx2]; rfl) | (rw [hx3]; rfl)
      have hwl := word_lt set (c / 64)
      have htb := test_bit set c
      have hca := HS.out.net.c_has hlt
      have hcf := HS.out.net.frozen c
      have hyl := B64_lt fun q => (n.leafTo set c).has c q
      have hor := B64_or (fun q => (n.leafTo set c).has c q) (fun q => q == n.k)
      rw [hbi] at hor
      generalize hy : (B64 fun q => (n.leafTo set c).has c q) = y at *
      have horv : bits .or .u64 (y : Int) (bi : Int) = ((B64 fun q => (n.leafTo set c).has c q || q == n.k : Nat) : Int) := by rw [bits_or_u64_nat _ _ hyl hbl, hor]
      generalize hwd : word set (c / 64) = wd at *
      clear hbox hres hnet
      cases hset : set c with
      | false =>
        rw [hset] at htb
        go_wp2_with fail
        go_roundg (gk - 1)
        case measure => omega
        case rel => exact ⟨c + 1, by go_num, by omega, by omega, Lib.hid (HS.out.go HLT.out (HS.out.net.congr rfl (fun _ _ _ _ => leafTo_not hset) (fun _ _ _ _ => rfl)) (grown_below (Below.refl _ _) _))⟩
      | true =>
        rw [hset] at htb
        have HST := Lib.hid hset
        go_wp2_with fail
        go_region_with (fail)
        all_goals go_wp2_with fail
        go_roundg (gk - 1)
        case measure => omega
        case rel =>
          refine ⟨c + 1, by go_num, by omega, by omega, Lib.hid (HS.out.go HLT.out ?_ ?_)⟩
          · exact leafTo_step HS.out.net hlt hset
          · exact grown_trans (setB _ _ _ _) (grown_below (below_drew _ _ 1) _)
    · obtain rfl : c = 256 := by omega
      clear hbox hres hnet hlt
      have hres := HS.out.res
      have r0 := cell_of_row _ _ 0 _ _ _ hres; have r1 := cell_of_row _ _ 1 _ _ _ hres; have r2 := cell_of_row _ _ 2 _ _ _ hres
      have q0 := frozen_of_row _ _ 0 _ _ hres; have q1 := frozen_of_row _ _ 1 _ _ hres; have q2 := frozen_of_row _ _ 2 _ _ hres
      simp only [show (#[Value.int .u64 0, .int .u64 0, .bool false] : Array Value)[0]? = some (.int .u64 0) from rfl, show (#[Value.int .u64 0, .int .u64 0, .bool false] : Array Value)[1]? = some (.int .u64 0) from rfl, show (#[Value.int .u64 0, .int .u64 0, .bool false] : Array Value)[2]? = some (.bool false) from rfl] at r0 r1 r2
      clear hres
      go_wp2_with fail
      obtain ⟨e1, e2, e3⟩ := HS.out.done HLT.out (.int .u64 bi) (.int .u64 bi) (.bool false)
      refine bodyPost_ret (results_cell_row rfl _ _ (w.heap.size + 1) TPt _ (0, 0) _ rfl e1 Tryd.underlying58 rfl (by kernel_rfl)) rfl ⟨?_, e2.congr rfl (fun x q hx _ => ?_) (fun _ _ _ _ => rfl), e3⟩
      · rw [← hbi]; rfl
      · simp [PM.NS.leafTo, add, NS.leaf, hx]
end Go.Proofs.YtpiflikblpfgoaaDoor
