/- The document's Has: is a byte in a set? -/
import Derived.Test.YtfhggnbnbopkkaaDoorNfaOf
import Derived.Test.YtfhggnbnbopkkaaDoorPatEmpty
import Derived.Test.YtfhggnbnbopkkaaDoorBoolRow
import Derived.Test.YtfhggnbnbopkkaaDoorNfaEndsMath
import Derived.Deep.RegionHeld3
import Derived.BigRegion

namespace Go.Proofs.YtfhggnbnbopkkaaDoor
open Go.RowKit PM

def setV (set : Nat → Bool) : Value := .agg #[.int .u64 (word set 0), .int .u64 (word set 1), .int .u64 (word set 2), .int .u64 (word set 3)]

set_option maxRecDepth 100000 in
set_option maxHeartbeats 4000000 in
theorem has_any (set : Nat → Bool) (c : UInt8) (w : World) :
    Calls Tryd.prog 64 #[setV set, .int .u8 c.toNat] w fun e w' => e = .returned (.bool (set c.toNat)) ∧ Below w.heap.size w w' := by
  have hc : c.toNat < 256 := c.toNat_lt
  generalize c.toNat = c at *
  have hb := test_bit set c
  have hB := Lib.hid (below_new w (.cells #[.int .u64 (word set 0), .int .u64 (word set 1), .int .u64 (word set 2), .int .u64 (word set 3)] TB))
  have l0 := word_lt set 0; have l1 := word_lt set 1; have l2 := word_lt set 2; have l3 := word_lt set 3
  unfold setV
  have hq : c / 64 = 0 ∨ c / 64 = 1 ∨ c / 64 = 2 ∨ c / 64 = 3 := by omega
  generalize set c = r at *
  rcases hq with h | h | h | h
  all_goals
    rw [h] at hb
    generalize word set 0 = x0 at *
    generalize word set 1 = x1 at *
    generalize word set 2 = x2 at *
    generalize word set 3 = x3 at *
    obtain ⟨m, hm⟩ : ∃ m, c % 64 = m := ⟨_, rfl⟩
    have hm1 : ((c : Int) % 64) = m := by omega
    have hq1 : ((c : Int) / 64) = ((c / 64 : Nat) : Int) := by simp
    rw [h] at hq1
    have hm2 : m < 64 := by omega
    rw [hm] at hb
    have HM := Lib.hid hm; have HB := Lib.hid hb
    clear hm hb h
    go_enter Tryd.func64, Tryd.ntmps64
    go_wp2_with fail
    go_ret
    exact ⟨by rw [HB.out]; rfl, hB.out⟩

/-- both: the places of two lists -/
def BothS (w : World) (b n : Nat) (f g : Nat → Bool) (i : Nat) (wr : World) : Prop := Below b w wr ∧ BF wr b n fun j => if j < i then (f j || g j) else false
theorem BothS.put {w wr : World} {b n : Nat} {f g : Nat → Bool} {i : Nat} (h : BothS w b n f g i wr) (hb : b ≤ w.heap.size) : BothS w b n f g (i + 1) (wr.setCell ⟨b, i, none⟩ (.bool (f i || g i))) := by
  refine ⟨below_set h.1 (setB wr b i _) hb (Nat.le_refl _), (h.2.set i (f i || g i)).congr fun j _ => ?_⟩
  by_cases h1 : j = i
  · subst h1; rw [if_pos rfl, if_pos (by omega)]
  · rw [if_neg h1]
    by_cases h2 : j < i
    · rw [if_pos h2, if_pos (by omega)]
    · rw [if_neg h2, if_neg (by omega)]

set_option maxRecDepth 100000 in
set_option maxHeartbeats 4000000 in
theorem both_any (a c n ca cc : Nat) (f g : Nat → Bool) (w : World) (ha : BF w a n f) (hc : BF w c n g) (hn : n ≤ 2000000) :
    Calls Tryd.prog 65 #[.slice (some ⟨a, 0, none⟩) n ca, .slice (some ⟨c, 0, none⟩) n cc] w fun e w' => e = .returned (.slice (some ⟨w.heap.size, 0, none⟩) n n) ∧ BF w' w.heap.size n (fun j => f j || g j) ∧ Below w.heap.size w w' := by
  have hmk : ∀ W, (Instr.makeSlice 73 (.int .i64 (n : Int)) (.int .i64 (n : Int))).run Tryd.prog W = .ok (.slice (some ⟨W.heap.size, 0, none⟩) n n) (W.alloc (.cells (boolC n fun _ => false) TBo)) := fun W => make_bools n _ rfl (by omega) W
  have HA := Lib.hid ha; have HC := Lib.hid hc
  have HS : Hid (BothS w w.heap.size n f g 0 (w.alloc (.cells (boolC n fun _ => false) TBo))) := Lib.hid ⟨below_new _ _, (BF.new w n _).congr fun j _ => by rw [if_neg (by omega)]⟩
  have HL := Lib.hid (And.intro ha.lt hc.lt)
  clear ha hc
  go_enter Tryd.func65, Tryd.ntmps65
  go_wp2_with fail
  change Code.wp _ _ _ _ _
  clear hmk
  generalize w.alloc (.cells (boolC n fun _ => false) TBo) = W0 at *
  obtain ⟨b, hb⟩ : ∃ b, w.heap.size = b := ⟨_, rfl⟩
  rw [hb] at HS HL ⊢
  have HBE := Lib.hid hb
  clear hb
  go_loopg [6] (n + 1) (fun k v wr => ∃ i : Nat, v = .int .i64 i ∧ i ≤ n ∧ n - i < k ∧ Hid (BothS w b n f g i wr))
  case atStart => exact ⟨0, rfl, by omega, by omega, HS⟩
  case round =>
    clear HS
    obtain ⟨i, rfl, hi, hik, HS⟩ := hrel
    have hup : Below w.heap.size w wr := by rw [HBE.out]; exact HS.out.1
    have HUP := Lib.hid hup
    by_cases hlt : i < n
    · have h1 : (i : Int) < n := by omega
      have h2 : (0 : Int) ≤ i := by omega
      have c1 := (HA.out.on hup).cell hlt
      have c2 := (HC.out.on hup).cell hlt
      have c3 := HS.out.2.cell hlt
      have f3 := HS.out.2.frozen i
      have HP := Lib.hid (HS.out.put (by rw [HBE.out]; exact Nat.le_refl _))
      clear hup HS
      generalize g i = gi at *
      cases hf : f i with
      | true =>
        rw [hf] at c1 HP
        clear hf
        go_wp2_with fail
        go_roundg (gk - 1)
        case measure => omega
        case rel => exact ⟨i + 1, by go_num, by omega, by omega, HP⟩
      | false =>
        rw [hf] at c1 HP
        clear hf
        go_wp2_with fail
        go_roundg (gk - 1)
        case measure => omega
        case rel => exact ⟨i + 1, by go_num, by omega, by omega, HP⟩
    · obtain rfl : i = n := by omega
      have HR := Lib.hid (HS.out.2.congr (g := fun j => f j || g j) fun j hj => by rw [if_pos hj])
      clear hup HS
      go_wp2_with fail
      go_ret
      exact ⟨by rw [HBE.out]; rfl, by rw [HBE.out]; exact HR.out, HUP.out⟩

end Go.Proofs.YtfhggnbnbopkkaaDoor

namespace Go.Proofs.YtfhggnbnbopkkaaDoor
open Go.RowKit PM

theorem EmS.six {w wr : World} {a0 a1 a2 a3 a4 a5 : Value} (h : EmS w wr #[a0, a1, a2, a3, a4, a5]) : wr.cell? ⟨w.heap.size, 0, none⟩ = some a0 ∧ wr.cell? ⟨w.heap.size, 1, none⟩ = some a1 ∧ wr.cell? ⟨w.heap.size, 2, none⟩ = some a2 ∧
    wr.cell? ⟨w.heap.size, 3, none⟩ = some a3 ∧ wr.cell? ⟨w.heap.size, 4, none⟩ = some a4 ∧ wr.cell? ⟨w.heap.size, 5, none⟩ = some a5 := by
  refine ⟨?_, ?_, ?_, ?_, ?_, ?_⟩ <;> (rw [cell_of_row _ _ _ _ _ _ h.a]; rfl)

/-- what a tree's ends are found to be -/
def EndsIs (s : ByteArray) (t : T) (f : Nat → Bool) (w : World) (e : Ending) (w' : World) : Prop :=
  ∃ b' c' g, e = .returned (.slice (some ⟨b', 0, none⟩) (s.size + 1) c') ∧ BF w' b' (s.size + 1) g ∧ EndsP t s.data.toList f g ∧ Below w.heap.size w w'
def EndsOk (s : ByteArray) (t : T) : Prop := ∀ (p : Nat → Prop) (K : Value) (w : World) (b c : Nat) (f : Nat → Bool), IsT w p K t → BF w b (s.size + 1) f →
  Calls Tryd.prog 48 #[nodeV t K, .string s, .slice (some ⟨b, 0, none⟩) (s.size + 1) c] w (EndsIs s t f w)

theorem cnt_lt (g h : Nat → Bool) : ∀ n, cntTo (fun j => g j || h j) n ≤ cntTo g n ∧ ((List.range n).any (fun j => (g j || h j) != g j) = true → cntTo (fun j => g j || h j) n < cntTo g n)
  | 0 => ⟨Nat.le_refl _, fun e => by simp at e⟩
  | n + 1 => by
    obtain ⟨h1, h2⟩ := cnt_lt g h n
    have e1 : (if (g n || h n) = true then 0 else 1) ≤ if g n = true then 0 else 1 := by
      by_cases hg : g n = true <;> by_cases hh : h n = true <;> simp [hg, hh]
    constructor
    · simp only [cntTo]; omega
    · intro e
      rw [List.range_succ, List.any_append, Bool.or_eq_true] at e
      simp only [cntTo]
      rcases e with e | e
      · have := h2 e
        omega
      · simp only [List.any_cons, List.any_nil, Bool.or_false] at e
        have e2 : (if (g n || h n) = true then 0 else 1) < if g n = true then 0 else 1 := by
          by_cases hg : g n = true
          · rw [hg] at e; simp at e
          · by_cases hh : h n = true
            · simp [hg, hh]
            · simp only [Bool.not_eq_true] at hg hh; rw [hg, hh] at e; simp at e
        omega

/-- does the next round turn anything, among the first places? -/
def moreTo (g h : Nat → Bool) (i : Nat) : Bool := (List.range i).any fun j => (g j || h j) != g j
theorem moreTo_succ (g h : Nat → Bool) (i : Nat) : moreTo g h (i + 1) = (moreTo g h i || ((g i || h i) != g i)) := by simp [moreTo, List.range_succ]
theorem moreTo_no {g h : Nat → Bool} {n : Nat} (e : moreTo g h n = false) {j : Nat} (hj : j < n) : (g j || h j) = g j := by
  unfold moreTo at e
  rw [List.any_eq_false] at e
  have := e j (List.mem_range.2 hj)
  simpa using this

set_option maxRecDepth 100000 in
set_option maxHeartbeats 8000000 in
theorem again_any (s : ByteArray) (hs : s.size ≤ 1000000) (t : T) (hE : EndsOk s t) (p : Nat → Prop) (K : Value) (w : World) (b c : Nat) (f : Nat → Bool) (hK : IsT w p K t) (hf : BF w b (s.size + 1) f) :
    Calls Tryd.prog 66 #[nodeV t K, .string s, .slice (some ⟨b, 0, none⟩) (s.size + 1) c] w (EndsIs s (.mk 5 noSet [t]) f w) := by
  have hC : ∀ W b c g, Below w.heap.size w W → BF W b (s.size + 1) g → Calls Tryd.prog 48 #[nodeV t K, .string s, .slice (some ⟨b, 0, none⟩) (s.size + 1) c] W (EndsIs s t g W) := fun W b c g hW hg => hE p K W b c g (hK.on hW) hg
  obtain ⟨A, ca, rfl⟩ := hK.slice
  simp only [nodeV, nodeC] at hC
  simp only [nodeV, nodeC]
  generalize word t.set 0 = x0 at *
  generalize word t.set 1 = x1 at *
  generalize word t.set 2 = x2 at *
  generalize word t.set 3 = x3 at *
  generalize t.op = op at *
  generalize t.kids.length = m at *
  obtain ⟨n, hn⟩ : ∃ n, n = s.size + 1 := ⟨_, rfl⟩
  unfold EndsIs at hC ⊢
  rw [← hn] at hC hf ⊢
  have HN := Lib.hid hn
  have hn1 : n ≤ 1000001 := by omega
  have HC := Lib.hid hC
  have HS := Lib.hid (EmS.start w #[.int .i64 op, .int .u64 x0, .int .u64 x1, .int .u64 x2, .int .u64 x3, .slice A m ca])
  have HF := Lib.hid (hf.on (below_new w (.cells #[.int .i64 op, .int .u64 x0, .int .u64 x1, .int .u64 x2, .int .u64 x3, .slice A m ca] TN)))
  clear hC hE hK hf hn hs
  go_enter Tryd.func66, Tryd.ntmps66
  go_upto_region 1 with (fail)
  change Code.wp _ _ _ _ _
  generalize w.alloc (.cells #[.int .i64 op, .int .u64 x0, .int .u64 x1, .int .u64 x2, .int .u64 x3, .slice A m ca] TN) = W0 at *
  go_loopg [2, 7, 8, 9] (n + 1) (fun k v2 v7 v8 v9 wr => ∃ (bf cf : Nat) (g : Nat → Bool), v2 = .slice (some ⟨bf, 0, none⟩) n cf ∧ cntTo g n < k ∧ Hid (BF wr bf n g) ∧ Hid (AgI t s.data.toList f g) ∧ Hid (EmS w wr #[.int .i64 op, .int .u64 x0, .int .u64 x1, .int .u64 x2, .int .u64 x3, .slice A m ca]))
  case atStart => exact ⟨b, c, f, rfl, by have := cntTo_le f n; omega, HF, Lib.hid (AgI.start t _ f), HS⟩
  case round =>
    clear HS HF
    obtain ⟨bf, cf, g, rfl, hk, HF, HG, HS⟩ := hrel
    obtain ⟨a0, a1, a2, a3, a4, a5⟩ := HS.out.six
    generalize gk = g0 at *
    generalize wr = wo at *
    go_wp2_with fail
    refine (HC.out wo bf cf g HS.out.up HF.out).mono ?_
    rintro e w2 ⟨be, ce, h, rfl, hbe, hes, hb⟩
    have HS2 := Lib.hid (HS.out.on hb); have HF2 := Lib.hid (HF.out.on hb); have HES := Lib.hid hes; have HBE := Lib.hid hbe
    clear hb hbe hes a0 a1 a2 a3 a4 a5 HS HF
    go_wp2_with fail
    refine (both_any bf be n cf ce g h w2 HF2.out HBE.out (by omega)).mono ?_
    rintro e w3 ⟨rfl, hbb, hb⟩
    have HS3 := Lib.hid (HS2.out.on hb); have HF3 := Lib.hid (HF2.out.on hb); have HBB := Lib.hid hbb
    clear hb hbb HS2 HF2
    generalize w2.heap.size = bo at *
    go_wp2_with fail
    change Code.wp _ _ _ _ _
    go_loopg [8, 9] (n + 1) (fun k v8 v9 wr => ∃ i : Nat, v9 = .int .i64 i ∧ i ≤ n ∧ n - i < k ∧ v8 = .bool (moreTo g h i) ∧ Hid (Below w3.heap.size w3 wr))
    case atStart => exact ⟨0, rfl, by omega, by omega, rfl, Lib.hid (Below.refl _ _)⟩
    case round =>
      obtain ⟨i, rfl, hi, hik, rfl, HB⟩ := hrel
      have HM := Lib.hid (moreTo_succ g h i)
      by_cases hlt : i < n
      · have h1 : (i : Int) < n := by omega
        have h2 : (0 : Int) ≤ i := by omega
        have c1 := (HBB.out.on HB.out).cell hlt
        have c2 := (HF3.out.on HB.out).cell hlt
        cases hmo : moreTo g h i with
        | true =>
          rw [hmo] at HM
          clear hmo
          go_wp2_with fail
          go_quiet (fail)
          go_wp2_with fail
          go_roundg (gk - 1)
          case measure => omega
          case rel => exact ⟨i + 1, by go_num, by omega, by omega, by rw [HM.out]; rfl, Lib.hid (below_then HB.out (below_drew _ _ _) (Nat.le_refl _))⟩
        | false =>
          rw [hmo] at HM
          clear hmo
          generalize (g i || h i) = x at *
          generalize g i = y at *
          go_wp2_with fail
          go_quiet (fail)
          go_wp2_with fail
          go_roundg (gk - 1)
          case measure => omega
          case rel => exact ⟨i + 1, by go_num, by omega, by omega, by rw [HM.out]; cases x <;> cases y <;> rfl, Lib.hid (below_then HB.out (below_drew _ _ _) (Nat.le_refl _))⟩
      · obtain rfl : i = n := by omega
        have HS4 := Lib.hid (HS3.out.on HB.out); have HBB4 := Lib.hid (HBB.out.on HB.out)
        have HCN := Lib.hid (cnt_lt g h i).2
        cases hmo : moreTo g h i with
        | true =>
          have HMO := Lib.hid hmo
          clear hmo HM
          have hdec := HCN.out HMO.out
          go_wp2_with fail
          go_roundg (g0 - 1)
          case measure => omega
          case rel => exact ⟨bo, i, _, rfl, by omega, HBB4, Lib.hid (HG.out.step HES.out), HS4⟩
        | false =>
          have HMO := Lib.hid hmo
          clear hmo HM
          go_wp2_with fail
          go_ret
          exact ⟨bo, i, _, rfl, HBB4.out, HG.out.stop HES.out (fun j hj => moreTo_no HMO.out (by have := HN.out; have e : s.data.toList.length = s.size := rfl; omega)), HS4.out.up⟩
end Go.Proofs.YtfhggnbnbopkkaaDoor

namespace Go.Proofs.YtfhggnbnbopkkaaDoor
open Go.RowKit PM

/-- a set's ends under way -/
def setTo (set : Nat → Bool) (l : List UInt8) (f : Nat → Bool) (i j : Nat) : Bool := match j with | 0 => false | j + 1 => decide (j < i) && (f j && set (l.getD j 0).toNat)
theorem setTo_put (set : Nat → Bool) (l : List UInt8) (f : Nat → Bool) (i : Nat) : ∀ j, (if j = i + 1 then (f i && set (l.getD i 0).toNat) else setTo set l f i j) = setTo set l f (i + 1) j
  | 0 => by rw [if_neg (by omega)]; rfl
  | j + 1 => by
    by_cases h : j = i
    · subst h; simp [setTo]
    · rw [if_neg (by omega)]
      have : decide (j < i) = decide (j < i + 1) := by simp; omega
      show (decide (j < i) && _) = (decide (j < i + 1) && _)
      rw [this]
theorem setTo_zero (set : Nat → Bool) (l : List UInt8) (f : Nat → Bool) : ∀ k, false = setTo set l f 0 k
  | 0 => rfl
  | k + 1 => by show false = (decide (k < 0) && (f k && set (l.getD k 0).toNat)); simp
theorem getD_at (s : ByteArray) (i : Nat) (h : i < s.size) : s.data.toList.getD i 0 = s[i] := by
  have h2 : i < s.data.toList.length := h
  rw [List.getD_eq_getElem?_getD, List.getElem?_eq_getElem h2]
  rfl

/-- what Ends holds: its box, its new list -/
structure EnS (w : World) (n : Nat) (C : Array Value) (g : Nat → Bool) (wr : World) : Prop where
  box : wr.heap[w.heap.size]? = some (.cells C TN (0, 0))
  out : BF wr (w.heap.size + 1) n g
  up : Below w.heap.size w wr
theorem EnS.start (w : World) (n : Nat) (C : Array Value) : EnS w n C (fun _ => false) ((w.alloc (.cells C TN)).alloc (.cells (boolC n fun _ => false) TBo)) := by
  have h1 := heap_alloc_new w (.cells C TN)
  have b1 := below_new w (.cells C TN)
  have b2 := below_new (w.alloc (.cells C TN)) (.cells (boolC n fun _ => false) TBo)
  have h2 := BF.new (w.alloc (.cells C TN)) n (fun _ => false)
  rw [World.size_alloc] at h2
  exact ⟨(b2.block _ (by simp)).trans h1, h2, below_then b1 b2 (Nat.le_refl _)⟩
theorem EnS.on {w wr w' : World} {n : Nat} {C : Array Value} {g : Nat → Bool} (h : EnS w n C g wr) (hb : Below wr.heap.size wr w') : EnS w n C g w' := ⟨(hb.block _ (lt_of_block h.box)).trans h.box, h.out.on hb, below_then h.up hb (Nat.le_refl _)⟩
theorem EnS.em {w wr : World} {n : Nat} {C : Array Value} {g : Nat → Bool} (h : EnS w n C g wr) : EmS w wr C := ⟨h.box, h.up⟩
theorem EnS.put {w wr : World} {n : Nat} {C : Array Value} {g : Nat → Bool} (h : EnS w n C g wr) (i : Nat) (v : Bool) : EnS w n C (fun k => if k = i then v else g k) (wr.setCell ⟨w.heap.size + 1, i, none⟩ (.bool v)) :=
  ⟨(Below.heap_setCell wr _ _ _ (by simp)).trans h.box, h.out.set i v, below_set h.up (setB wr (w.heap.size + 1) i _) (Nat.le_refl _) (by omega)⟩
theorem EnS.congr {w wr : World} {n : Nat} {C : Array Value} {g h' : Nat → Bool} (h : EnS w n C g wr) (e : ∀ k, k < n → g k = h' k) : EnS w n C h' wr := ⟨h.box, h.out.congr e, h.up⟩

theorem PM.EndsP.star {k : T} {l : List UInt8} {f g : Nat → Bool} (h : EndsP (.mk 5 noSet [k]) l f g) (s : Nat → Bool) : EndsP (.mk 5 s [k]) l f g := fun j hj => (h j hj).trans (by simp only [L_star])
theorem take_snocT {l : List T} {i : Nat} {k : T} (h : l[i]? = some k) : l.take (i + 1) = l.take i ++ [k] := by
  obtain ⟨h1, h2⟩ := List.getElem?_eq_some_iff.1 h
  rw [List.take_succ_eq_append_getElem h1, h2]

set_option maxRecDepth 100000 in
set_option maxHeartbeats 16000000 in
theorem ends_any (s : ByteArray) (hs : s.size ≤ 1000000) (m : Nat) (hm : m ≤ 1000000) (t : T) : T.OK m t → EndsOk s t := by
  induction t using T.ind with
  | h op set kids ih =>
    intro hok p K w b c f ha hf
    obtain ⟨h567, hkl, hks⟩ : (op = 5 ∨ op = 6 ∨ op = 7 → ∃ k, kids = [k]) ∧ kids.length ≤ m ∧ ∀ k ∈ kids, T.OK m k := by cases hok with | mk a b c => exact ⟨a, b, c⟩
    have hI : ∀ k ∈ kids, EndsOk s k := fun k hk => ih k hk (hks k hk)
    have HI := Lib.hid hI
    obtain ⟨A, ca, ka, rfl, hA⟩ := ha.parts
    simp only [T.kids] at hA
    have HA := Lib.hid hA
    clear ih hI hA ha hks hok
    simp only [nodeV, nodeC, T.op, T.set, T.kids]
    have HHas := Lib.hid (has_any set)
    unfold setV at HHas
    generalize hx0 : word set 0 = x0 at *
    generalize hx1 : word set 1 = x1 at *
    generalize hx2 : word set 2 = x2 at *
    generalize hx3 : word set 3 = x3 at *
    clear hx0 hx1 hx2 hx3
    obtain ⟨q, hq⟩ : ∃ q, kids.length = q := ⟨_, rfl⟩
    rw [hq] at hkl ⊢
    have HQ := Lib.hid hq
    clear hq
    obtain ⟨n, hn⟩ : ∃ n, n = s.size + 1 := ⟨_, rfl⟩
    have HN := Lib.hid hn
    have hn1 : n ≤ 1000001 := by omega
    have hmk : ∀ W, (Instr.makeSlice 73 (.int .i64 ((s.size : Int) + 1)) (.int .i64 ((s.size : Int) + 1))).run Tryd.prog W = .ok (.slice (some ⟨W.heap.size, 0, none⟩) n n) (W.alloc (.cells (boolC n fun _ => false) TBo)) := fun W => make_bools n _ (by omega) (by omega) W
    unfold EndsIs
    rw [← hn] at hf ⊢
    clear hn
    have HS := Lib.hid (EnS.start w n #[.int .i64 op, .int .u64 x0, .int .u64 x1, .int .u64 x2, .int .u64 x3, .slice A q ca])
    have HFW := Lib.hid hf
    clear hf
    by_cases h2 : op = 2
    · subst h2
      clear HA HI h567
      go_enter Tryd.func48, Tryd.ntmps48
      go_upto_region 2 with (fail)
      clear hmk
      change Code.wp _ _ _ _ _
      generalize (w.alloc (.cells #[.int .i64 (2 : Nat), .int .u64 x0, .int .u64 x1, .int .u64 x2, .int .u64 x3, .slice A q ca] TN)).alloc (.cells (boolC n fun _ => false) TBo) = W0 at *
      obtain ⟨a0, a1, a2, a3, a4, a5⟩ := HS.out.em.six
      go_wp2_with fail
      change Code.wp _ _ _ _ _
      go_loopg [8] (n + 1) (fun k v wr => ∃ i : Nat, v = .int .i64 i ∧ i ≤ s.size ∧ n - i ≤ k ∧ Hid (EnS w n #[.int .i64 (2 : Nat), .int .u64 x0, .int .u64 x1, .int .u64 x2, .int .u64 x3, .slice A q ca] (setTo set s.data.toList f i) wr))
      case atStart => exact ⟨0, rfl, by omega, by omega, Lib.hid (HS.out.congr (fun k _ => setTo_zero set s.data.toList f k))⟩
      case round =>
        clear HS a0 a1 a2 a3 a4 a5
        obtain ⟨i, rfl, hi, hik, HS⟩ := hrel
        by_cases hlt : i < s.size
        · have h1 : (i : Int) < s.size := by omega
          have h2 : (0 : Int) ≤ i := by omega
          have hin : i < n := by have := HN.out; omega
          have hin1 : i + 1 < n := by have := HN.out; omega
          have hin2 : (i : Int) + 1 < n := by omega
          have hin3 : (i : Int) < n := by omega
          have hin4 : (0 : Int) ≤ (i : Int) + 1 := by omega
          have hwr : IntKind.i64.wrap ((i : Int) + 1) = (i : Int) + 1 := IntWalk.i64_in _ (by omega)
          obtain ⟨a0, a1, a2, a3, a4, a5⟩ := HS.out.em.six
          have c1 := (HFW.out.on HS.out.up).cell hin
          have c2 := HS.out.out.cell hin1
          have f2 := HS.out.out.frozen (i + 1)
          have HP := Lib.hid ((HS.out.put (i + 1) (f i && set (s.data.toList.getD i 0).toNat)).congr fun k _ => setTo_put set s.data.toList f i k)
          have HBL := Lib.hid (HFW.out.lt)
          rw [getD_at s i hlt] at HP
          cases hfi : f i with
          | false =>
            rw [hfi] at c1 HP
            clear hfi
            go_wp2_with fail
            go_region
            have HPD := Lib.hid (HP.out.on (w' := (wr.setCell ⟨w.heap.size + 1, i + 1, none⟩ (.bool false)).drew) ⟨rfl, rfl, rfl, Nat.le_refl _, fun _ _ => rfl⟩)
            go_wp2_with fail
            go_roundg (gk - 1)
            case measure => omega
            case rel => exact ⟨i + 1, by go_num, by omega, by omega, HPD⟩
          | true =>
            rw [hfi] at c1
            have HFI := Lib.hid hfi
            clear hfi HP
            go_wp2_with fail
            have n1 : (⟨w.heap.size + 1, i + 1, none⟩ : Addr) ≠ ⟨b, i, none⟩ := by have := HBL.out; intro e; injection e; omega
            have n2 : ∀ j, (⟨w.heap.size + 1, i + 1, none⟩ : Addr) ≠ ⟨w.heap.size, j, none⟩ := by intro j e; injection e; omega
            have HC : Hid (∀ w2 x, Below wr.heap.size wr w2 → (w2.setCell ⟨w.heap.size + 1, i + 1, none⟩ x).cell? ⟨b, i, none⟩ = some (.bool true) ∧ (w2.setCell ⟨w.heap.size + 1, i + 1, none⟩ x).cell? ⟨w.heap.size, 1, none⟩ = some (.int .u64 x0) ∧ (w2.setCell ⟨w.heap.size + 1, i + 1, none⟩ x).cell? ⟨w.heap.size, 2, none⟩ = some (.int .u64 x1) ∧ (w2.setCell ⟨w.heap.size + 1, i + 1, none⟩ x).cell? ⟨w.heap.size, 3, none⟩ = some (.int .u64 x2) ∧ (w2.setCell ⟨w.heap.size + 1, i + 1, none⟩ x).cell? ⟨w.heap.size, 4, none⟩ = some (.int .u64 x3)) := Lib.hid fun w2 x hb2 => by
              rw [World.cell?_setCell_other _ _ _ _ n1, World.cell?_setCell_other _ _ _ _ (n2 1), World.cell?_setCell_other _ _ _ _ (n2 2), World.cell?_setCell_other _ _ _ _ (n2 3), World.cell?_setCell_other _ _ _ _ (n2 4)]
              exact ⟨cell_below c1 hb2, cell_below a1 hb2, cell_below a2 hb2, cell_below a3 hb2, cell_below a4 hb2⟩
            go_region_held3 (fun w' => w'.cell? ⟨b, i, none⟩ = some (.bool true) ∧ w'.cell? ⟨w.heap.size, 1, none⟩ = some (.int .u64 x0) ∧ w'.cell? ⟨w.heap.size, 2, none⟩ = some (.int .u64 x1) ∧ w'.cell? ⟨w.heap.size, 3, none⟩ = some (.int .u64 x2) ∧ w'.cell? ⟨w.heap.size, 4, none⟩ = some (.int .u64 x3))
              (first | exact ⟨c1, a1, a2, a3, a4⟩ | exact ⟨cell_below c1 hb2, cell_below a1 hb2, cell_below a2 hb2, cell_below a3 hb2, cell_below a4 hb2⟩ | exact HC.out _ _ hb2)
              (first | (go_at_call 64; refine (HHas.out _ wr.drew).mono ?_; rintro e w2 ⟨rfl, hb⟩; have hb2 : Below wr.heap.size wr w2 := ⟨hb.os, hb.tape, hb.output, hb.size, fun k hk => hb.block k hk⟩; have HS2 := Lib.hid (HS.out.on hb2); have d2 := HS2.out.out.cell hin1; have e2 := HS2.out.out.frozen (i + 1); clear hb))
            have HPS := Lib.hid ((HS2.out.put (i + 1) (set s[i].toNat)).congr (h' := setTo set s.data.toList f (i + 1)) fun k _ => by
              rw [← setTo_put set s.data.toList f i k, HFI.out, getD_at s i hlt, Bool.true_and])
            clear d2 e2
            go_wp2_with fail
            go_roundg (gk - 1)
            case measure => omega
            case rel => exact ⟨i + 1, by go_num, by omega, by omega, HPS⟩
        · obtain rfl : i = s.size := by omega
          have hsn : n = s.size + 1 := HN.out
          have HR := Lib.hid (And.intro HS.out.out HS.out.up)
          clear HS
          go_wp2_with fail
          go_ret
          exact ⟨_, _, _, rfl, HR.out.1, EndsP.set rfl (fun j hj => by show (decide (j < s.size) && _) = _; rw [decide_eq_true (show j < s.size from hj), Bool.true_and]), HR.out.2⟩
    have n2 : ((op : Int) == 2) = false := bool_eqs op 2 h2
    by_cases h3 : op = 3
    · subst h3
      clear h567 HHas n2
      go_enter Tryd.func48, Tryd.ntmps48
      go_upto_region 2 with (fail)
      clear hmk
      change Code.wp _ _ _ _ _
      generalize (w.alloc (.cells #[.int .i64 (3 : Nat), .int .u64 x0, .int .u64 x1, .int .u64 x2, .int .u64 x3, .slice A q ca] TN)).alloc (.cells (boolC n fun _ => false) TBo) = W0 at *
      obtain ⟨a0, a1, a2, a3, a4, a5⟩ := HS.out.em.six
      go_wp2_with fail
      change Code.wp _ _ _ _ _
      have HFS := Lib.hid (HFW.out.on HS.out.up); have HE := Lib.hid HS.out.em
      clear HS a0 a1 a2 a3 a4 a5
      go_loopg [9, 7] (q + 1) (fun k v9 v7 wr => ∃ (i bo co : Nat) (g : Nat → Bool), v9 = .int .i64 i ∧ v7 = .slice (some ⟨bo, 0, none⟩) n co ∧ i ≤ q ∧ q - i < k ∧ Hid (EmS w wr #[.int .i64 (3 : Nat), .int .u64 x0, .int .u64 x1, .int .u64 x2, .int .u64 x3, .slice A q ca]) ∧ Hid (BF wr bo n g) ∧ Hid (EndsP (.mk 3 set (kids.take i)) s.data.toList f g))
      case atStart => exact ⟨0, b, c, f, rfl, rfl, by omega, by omega, HE, HFS, Lib.hid (EndsP.nil _ _ _)⟩
      case round =>
        clear HE HFS
        obtain ⟨i, bo, co, g, rfl, rfl, hi, hik, HS, HG, HP⟩ := hrel
        by_cases hlt : i < q
        · have h1 : (i : Int) < q := by omega
          have h2 : (0 : Int) ≤ i := by omega
          obtain ⟨kd, hkd⟩ : ∃ kd, kids[i]? = some kd := ⟨_, List.getElem?_eq_getElem (by rw [HQ.out]; exact hlt)⟩
          obtain ⟨⟨ga, oa, rfl, pa, la, hca⟩, hta⟩ := HA.out i kd hkd
          have hC : ∀ W b c g, Below w.heap.size w W → BF W b (s.size + 1) g → Calls Tryd.prog 48 #[nodeV kd (ka i), .string s, .slice (some ⟨b, 0, none⟩) (s.size + 1) c] W (EndsIs s kd g W) := fun W b c g hW hg => HI.out kd (List.mem_of_getElem? hkd) _ _ W b c g (hta.on hW) hg
          unfold EndsIs at hC
          rw [← HN.out] at hC
          simp only [nodeV, nodeC] at hC
          have HT := Lib.hid (take_snocT hkd)
          obtain ⟨y0, y1, y2, y3, y4, y5⟩ := kid_cells HS.out.up la hca
          obtain ⟨K0, hK0⟩ : ∃ K0, ka i = K0 := ⟨_, rfl⟩
          obtain ⟨Ak, ck, hks⟩ := hta.slice
          rw [hks] at y5 hC
          have HC := Lib.hid hC
          obtain ⟨a0, a1, a2, a3, a4, a5⟩ := HS.out.six
          clear hC hca hta hkd hK0 hks
          go_wp2_with fail
          refine (HC.out _ bo co g HS.out.up HG.out).mono ?_
          rintro e w2 ⟨bp, cp, gp, rfl, hg, hp, hb⟩
          have HS2 := Lib.hid (HS.out.on hb); have HG2 := Lib.hid hg; have HP2 := Lib.hid hp
          clear hb hg hp HS HC y0 y1 y2 y3 y4 y5 a0 a1 a2 a3 a4 a5
          go_wp2_with fail
          go_roundg (gk - 1)
          case measure => omega
          case rel => exact ⟨i + 1, bp, cp, gp, by go_num, rfl, by omega, by omega, HS2, HG2, Lib.hid (by rw [HT.out]; exact HP.out.snoc HP2.out)⟩
        · obtain rfl : i = q := by omega
          have HR := Lib.hid (And.intro HG.out HS.out.up)
          have HP2 := HP.out
          rw [← HQ.out, List.take_length] at HP2
          have HP3 := Lib.hid HP2
          obtain ⟨a0, a1, a2, a3, a4, a5⟩ := HS.out.six
          clear HP2 HP HG HS
          go_wp2_with fail
          go_ret
          exact ⟨bo, co, g, rfl, HR.out.1, HP3.out, HR.out.2⟩
    have n3 : ((op : Int) == 3) = false := bool_eqs op 3 h3
    by_cases h4 : op = 4
    · subst h4
      clear h567 HHas n2 n3
      go_enter Tryd.func48, Tryd.ntmps48
      go_upto_region 2 with (fail)
      clear hmk
      change Code.wp _ _ _ _ _
      generalize (w.alloc (.cells #[.int .i64 (4 : Nat), .int .u64 x0, .int .u64 x1, .int .u64 x2, .int .u64 x3, .slice A q ca] TN)).alloc (.cells (boolC n fun _ => false) TBo) = W0 at *
      obtain ⟨a0, a1, a2, a3, a4, a5⟩ := HS.out.em.six
      go_wp2_with fail
      change Code.wp _ _ _ _ _
      have HFS := Lib.hid (HFW.out.on HS.out.up); have HE := Lib.hid HS.out.em; have HO := Lib.hid HS.out.out
      clear HS a0 a1 a2 a3 a4 a5
      go_loopg [10, 7] (q + 1) (fun k v9 v7 wr => ∃ (i bo co : Nat) (g : Nat → Bool), v9 = .int .i64 i ∧ v7 = .slice (some ⟨bo, 0, none⟩) n co ∧ i ≤ q ∧ q - i < k ∧ Hid (EmS w wr #[.int .i64 (4 : Nat), .int .u64 x0, .int .u64 x1, .int .u64 x2, .int .u64 x3, .slice A q ca]) ∧ Hid (BF wr bo n g) ∧ Hid (EndsP (.mk 4 set (kids.take i)) s.data.toList f g))
      case atStart => exact ⟨0, w.heap.size + 1, n, _, rfl, rfl, by omega, by omega, HE, HO, Lib.hid (EndsP.none _ _ _)⟩
      case round =>
        clear HE HO HFS
        obtain ⟨i, bo, co, g, rfl, rfl, hi, hik, HS, HG, HP⟩ := hrel
        by_cases hlt : i < q
        · have h1 : (i : Int) < q := by omega
          have h2 : (0 : Int) ≤ i := by omega
          obtain ⟨kd, hkd⟩ : ∃ kd, kids[i]? = some kd := ⟨_, List.getElem?_eq_getElem (by rw [HQ.out]; exact hlt)⟩
          obtain ⟨⟨ga, oa, rfl, pa, la, hca⟩, hta⟩ := HA.out i kd hkd
          have hC : ∀ W b c g, Below w.heap.size w W → BF W b (s.size + 1) g → Calls Tryd.prog 48 #[nodeV kd (ka i), .string s, .slice (some ⟨b, 0, none⟩) (s.size + 1) c] W (EndsIs s kd g W) := fun W b c g hW hg => HI.out kd (List.mem_of_getElem? hkd) _ _ W b c g (hta.on hW) hg
          unfold EndsIs at hC
          rw [← HN.out] at hC
          simp only [nodeV, nodeC] at hC
          have HT := Lib.hid (take_snocT hkd)
          obtain ⟨y0, y1, y2, y3, y4, y5⟩ := kid_cells HS.out.up la hca
          obtain ⟨K0, hK0⟩ : ∃ K0, ka i = K0 := ⟨_, rfl⟩
          obtain ⟨Ak, ck, hks⟩ := hta.slice
          rw [hks] at y5 hC
          have HC := Lib.hid hC
          obtain ⟨a0, a1, a2, a3, a4, a5⟩ := HS.out.six
          clear hC hca hta hkd hK0 hks
          have HF := Lib.hid (HFW.out.on HS.out.up)
          go_wp2_with fail
          refine (HC.out _ b c f HS.out.up HF.out).mono ?_
          rintro e w2 ⟨bp, cp, gp, rfl, hg, hp, hb⟩
          have HS2 := Lib.hid (HS.out.on hb); have HG2 := Lib.hid hg; have HP2 := Lib.hid hp
          have HGO := Lib.hid (HG.out.on hb)
          clear hb hg hp HS HC y0 y1 y2 y3 y4 y5 a0 a1 a2 a3 a4 a5 HG HF
          go_wp2_with fail
          refine (both_any bo bp n co cp g gp w2 HGO.out HG2.out (by omega)).mono ?_
          rintro e w3 ⟨rfl, hg, hb⟩
          have HS3 := Lib.hid (HS2.out.on hb); have HG3 := Lib.hid hg
          clear hb hg HS2 HG2 HGO
          go_wp2_with fail
          go_roundg (gk - 1)
          case measure => omega
          case rel => exact ⟨i + 1, _, n, _, by go_num, rfl, by omega, by omega, HS3, HG3, Lib.hid (by rw [HT.out]; exact HP.out.either HP2.out)⟩
        · obtain rfl : i = q := by omega
          have HR := Lib.hid (And.intro HG.out HS.out.up)
          have HP2 := HP.out
          rw [← HQ.out, List.take_length] at HP2
          have HP3 := Lib.hid HP2
          obtain ⟨a0, a1, a2, a3, a4, a5⟩ := HS.out.six
          clear HP2 HP HG HS
          go_wp2_with fail
          go_ret
          exact ⟨bo, co, g, rfl, HR.out.1, HP3.out, HR.out.2⟩
    have n4 : ((op : Int) == 4) = false := bool_eqs op 4 h4
    by_cases h7 : op = 7
    · subst h7
      obtain ⟨kd, rfl⟩ := h567 (by omega)
      obtain rfl : q = 1 := HQ.out.symm
      obtain ⟨⟨ga, oa, rfl, pa, la, hca⟩, hta⟩ := HA.out 0 kd rfl
      have hC : ∀ W b c g, Below w.heap.size w W → BF W b (s.size + 1) g → Calls Tryd.prog 48 #[nodeV kd (ka 0), .string s, .slice (some ⟨b, 0, none⟩) (s.size + 1) c] W (EndsIs s kd g W) := fun W b c g hW hg => HI.out kd (by simp) _ _ W b c g (hta.on hW) hg
      have hD : ∀ W b c g, Below w.heap.size w W → BF W b (s.size + 1) g → Calls Tryd.prog 66 #[nodeV kd (ka 0), .string s, .slice (some ⟨b, 0, none⟩) (s.size + 1) c] W (EndsIs s (.mk 5 noSet [kd]) g W) := fun W b c g hW hg => again_any s hs kd (HI.out kd (by simp)) _ _ W b c g (hta.on hW) hg
      unfold EndsIs at hC hD
      rw [← HN.out] at hC hD
      simp only [nodeV, nodeC] at hC hD
      have HCA := Lib.hid hca
      obtain ⟨K0, hK0⟩ : ∃ K0, ka 0 = K0 := ⟨_, rfl⟩
      obtain ⟨Ak, ck, hks⟩ := hta.slice
      rw [hks] at hC hD
      have HC := Lib.hid hC; have HD := Lib.hid hD; have HLA := Lib.hid la; have HKS := Lib.hid hks
      clear hC hD hca hta hK0 hks HA HI h567 HHas la n2 n3 n4
      go_enter Tryd.func48, Tryd.ntmps48
      go_upto_region 2 with (fail)
      clear hmk
      change Code.wp _ _ _ _ _
      generalize (w.alloc (.cells #[.int .i64 (7 : Nat), .int .u64 x0, .int .u64 x1, .int .u64 x2, .int .u64 x3, .slice (some ⟨ga, oa, none⟩) 1 ca] TN)).alloc (.cells (boolC n fun _ => false) TBo) = W0 at *
      obtain ⟨a0, a1, a2, a3, a4, a5⟩ := HS.out.em.six
      obtain ⟨y0, y1, y2, y3, y4, y5⟩ := kid0_cells HS.out.up HLA.out HCA.out
      rw [HKS.out] at y5
      have HF := Lib.hid (HFW.out.on HS.out.up)
      go_wp2_with fail
      refine (HC.out _ b c f HS.out.up HF.out).mono ?_
      rintro e w2 ⟨bp, cp, gp, rfl, hg, hp, hb⟩
      have HS2 := Lib.hid (HS.out.on hb); have HG2 := Lib.hid hg; have HP2 := Lib.hid hp; have HF2 := Lib.hid (HF.out.on hb)
      clear hb hg hp HS HC y0 y1 y2 y3 y4 y5 a0 a1 a2 a3 a4 a5 HF
      go_wp2_with fail
      refine (both_any b bp n c cp f gp w2 HF2.out HG2.out (by omega)).mono ?_
      rintro e w3 ⟨rfl, hg, hb⟩
      have HU := Lib.hid (HS2.out.on hb).up; have HG3 := Lib.hid hg
      clear hb hg HS2 HG2 HF2
      go_wp2_with fail
      go_ret
      exact ⟨_, _, _, rfl, HG3.out, HP2.out.opt, HU.out⟩
    have n7 : ((op : Int) == 7) = false := bool_eqs op 7 h7
    by_cases h5 : op = 5
    · subst h5
      obtain ⟨kd, rfl⟩ := h567 (by omega)
      obtain rfl : q = 1 := HQ.out.symm
      obtain ⟨⟨ga, oa, rfl, pa, la, hca⟩, hta⟩ := HA.out 0 kd rfl
      have hC : ∀ W b c g, Below w.heap.size w W → BF W b (s.size + 1) g → Calls Tryd.prog 48 #[nodeV kd (ka 0), .string s, .slice (some ⟨b, 0, none⟩) (s.size + 1) c] W (EndsIs s kd g W) := fun W b c g hW hg => HI.out kd (by simp) _ _ W b c g (hta.on hW) hg
      have hD : ∀ W b c g, Below w.heap.size w W → BF W b (s.size + 1) g → Calls Tryd.prog 66 #[nodeV kd (ka 0), .string s, .slice (some ⟨b, 0, none⟩) (s.size + 1) c] W (EndsIs s (.mk 5 noSet [kd]) g W) := fun W b c g hW hg => again_any s hs kd (HI.out kd (by simp)) _ _ W b c g (hta.on hW) hg
      unfold EndsIs at hC hD
      rw [← HN.out] at hC hD
      simp only [nodeV, nodeC] at hC hD
      have HCA := Lib.hid hca
      obtain ⟨K0, hK0⟩ : ∃ K0, ka 0 = K0 := ⟨_, rfl⟩
      obtain ⟨Ak, ck, hks⟩ := hta.slice
      rw [hks] at hC hD
      have HC := Lib.hid hC; have HD := Lib.hid hD; have HLA := Lib.hid la; have HKS := Lib.hid hks
      clear hC hD hca hta hK0 hks HA HI h567 HHas la n2 n3 n4 n7
      go_enter Tryd.func48, Tryd.ntmps48
      go_upto_region 2 with (fail)
      clear hmk
      change Code.wp _ _ _ _ _
      generalize (w.alloc (.cells #[.int .i64 (5 : Nat), .int .u64 x0, .int .u64 x1, .int .u64 x2, .int .u64 x3, .slice (some ⟨ga, oa, none⟩) 1 ca] TN)).alloc (.cells (boolC n fun _ => false) TBo) = W0 at *
      obtain ⟨a0, a1, a2, a3, a4, a5⟩ := HS.out.em.six
      obtain ⟨y0, y1, y2, y3, y4, y5⟩ := kid0_cells HS.out.up HLA.out HCA.out
      rw [HKS.out] at y5
      have HF := Lib.hid (HFW.out.on HS.out.up)
      go_wp2_with fail
      refine (HD.out _ b c f HS.out.up HF.out).mono ?_
      rintro e w2 ⟨bp, cp, gp, rfl, hg, hp, hb⟩
      have HU := Lib.hid (HS.out.on hb).up; have HG2 := Lib.hid hg; have HP2 := Lib.hid hp
      clear hb hg hp HS HC HD y0 y1 y2 y3 y4 y5 a0 a1 a2 a3 a4 a5 HF
      go_wp2_with fail
      go_ret
      exact ⟨_, _, _, rfl, HG2.out, HP2.out.star set, HU.out⟩
    have n5 : ((op : Int) == 5) = false := bool_eqs op 5 h5
    by_cases h6 : op = 6
    · subst h6
      obtain ⟨kd, rfl⟩ := h567 (by omega)
      obtain rfl : q = 1 := HQ.out.symm
      obtain ⟨⟨ga, oa, rfl, pa, la, hca⟩, hta⟩ := HA.out 0 kd rfl
      have hC : ∀ W b c g, Below w.heap.size w W → BF W b (s.size + 1) g → Calls Tryd.prog 48 #[nodeV kd (ka 0), .string s, .slice (some ⟨b, 0, none⟩) (s.size + 1) c] W (EndsIs s kd g W) := fun W b c g hW hg => HI.out kd (by simp) _ _ W b c g (hta.on hW) hg
      have hD : ∀ W b c g, Below w.heap.size w W → BF W b (s.size + 1) g → Calls Tryd.prog 66 #[nodeV kd (ka 0), .string s, .slice (some ⟨b, 0, none⟩) (s.size + 1) c] W (EndsIs s (.mk 5 noSet [kd]) g W) := fun W b c g hW hg => again_any s hs kd (HI.out kd (by simp)) _ _ W b c g (hta.on hW) hg
      unfold EndsIs at hC hD
      rw [← HN.out] at hC hD
      simp only [nodeV, nodeC] at hC hD
      have HCA := Lib.hid hca
      obtain ⟨K0, hK0⟩ : ∃ K0, ka 0 = K0 := ⟨_, rfl⟩
      obtain ⟨Ak, ck, hks⟩ := hta.slice
      rw [hks] at hC hD
      have HC := Lib.hid hC; have HD := Lib.hid hD; have HLA := Lib.hid la; have HKS := Lib.hid hks
      clear hC hD hca hta hK0 hks HA HI h567 HHas la n2 n3 n4 n7 n5
      go_enter Tryd.func48, Tryd.ntmps48
      go_upto_region 2 with (fail)
      clear hmk
      change Code.wp _ _ _ _ _
      generalize (w.alloc (.cells #[.int .i64 (6 : Nat), .int .u64 x0, .int .u64 x1, .int .u64 x2, .int .u64 x3, .slice (some ⟨ga, oa, none⟩) 1 ca] TN)).alloc (.cells (boolC n fun _ => false) TBo) = W0 at *
      obtain ⟨a0, a1, a2, a3, a4, a5⟩ := HS.out.em.six
      obtain ⟨y0, y1, y2, y3, y4, y5⟩ := kid0_cells HS.out.up HLA.out HCA.out
      rw [HKS.out] at y5
      have HF := Lib.hid (HFW.out.on HS.out.up)
      have hsl := HKS.out
      generalize word kd.set 0 = u0 at *
      generalize word kd.set 1 = u1 at *
      generalize word kd.set 2 = u2 at *
      generalize word kd.set 3 = u3 at *
      generalize hop : kd.op = uo at *
      generalize hkl' : kd.kids.length = ul at *
      have HOP := Lib.hid hop; have HKL := Lib.hid hkl'
      clear hop hkl' hsl HKS HCA
      have HUD : Hid (Below w.heap.size w W0.drew) := Lib.hid (below_then HS.out.up ⟨rfl, rfl, rfl, Nat.le_refl _, fun _ _ => rfl⟩ (Nat.le_refl _))
      have HFD : Hid (BF W0.drew b n f) := Lib.hid (HFW.out.on HUD.out)
      go_wp2_with fail
      go_region_held3 (fun w' => w'.cell? ⟨w.heap.size, 5, none⟩ = some (.slice (some ⟨ga, oa, none⟩) 1 ca) ∧ w'.cell? ⟨ga, oa, none⟩ = some (.int .i64 uo) ∧ w'.cell? ⟨ga, oa + 1, none⟩ = some (.int .u64 u0) ∧ w'.cell? ⟨ga, oa + 2, none⟩ = some (.int .u64 u1) ∧ w'.cell? ⟨ga, oa + 3, none⟩ = some (.int .u64 u2) ∧ w'.cell? ⟨ga, oa + 4, none⟩ = some (.int .u64 u3) ∧ w'.cell? ⟨ga, oa + 5, none⟩ = some (.slice Ak ul ck))
        (first | exact ⟨a5, y0, y1, y2, y3, y4, y5⟩ | exact ⟨cell_below a5 hb2, cell_below y0 hb2, cell_below y1 hb2, cell_below y2 hb2, cell_below y3 hb2, cell_below y4 hb2, cell_below y5 hb2⟩ | exact ⟨cell_below a5 hb3, cell_below y0 hb3, cell_below y1 hb3, cell_below y2 hb3, cell_below y3 hb3, cell_below y4 hb3, cell_below y5 hb3⟩)
        (first
        | (go_at_call 48; refine (HC.out W0.drew b c f HUD.out HFD.out).mono ?_; rintro e w2 ⟨bp, cp, gp, rfl, hg, hp, hb⟩; have hb2 : Below W0.heap.size W0 w2 := ⟨hb.os, hb.tape, hb.output, hb.size, fun k hk => hb.block k hk⟩; have HU2 := Lib.hid (below_then HUD.out hb (Nat.le_refl _)); have HG2 := Lib.hid hg; have HP2 := Lib.hid hp; clear hb hg hp)
        | (go_at_call 66; refine (HD.out w2 bp cp gp HU2.out HG2.out).mono ?_; rintro e w3 ⟨bq, cq, gq, rfl, hg, hp, hb⟩; have hb3 : Below W0.heap.size W0 w3 := below_then hb2 hb (Nat.le_refl _); have HU3 := Lib.hid (below_then HU2.out hb (Nat.le_refl _)); have HG3 := Lib.hid hg; have HP3 := Lib.hid hp; clear hb hg hp))
      all_goals (go_wp2_with fail; go_ret; exact ⟨_, _, _, rfl, HG3.out, HP2.out.plus HP3.out, HU3.out⟩)
    have n6 : ((op : Int) == 6) = false := bool_eqs op 6 h6
    clear HA HI h567 HHas
    go_enter Tryd.func48, Tryd.ntmps48
    go_upto_region 2 with (fail)
    clear hmk
    change Code.wp _ _ _ _ _
    generalize (w.alloc (.cells #[.int .i64 op, .int .u64 x0, .int .u64 x1, .int .u64 x2, .int .u64 x3, .slice A q ca] TN)).alloc (.cells (boolC n fun _ => false) TBo) = W0 at *
    obtain ⟨a0, a1, a2, a3, a4, a5⟩ := HS.out.em.six
    go_wp2_with fail
    have HF := Lib.hid (HFW.out.on HS.out.up)
    go_ret
    exact ⟨_, _, _, rfl, HF.out, EndsP.other _ _ h2 h3 h4 h5 h6 h7, HS.out.up⟩
end Go.Proofs.YtfhggnbnbopkkaaDoor

namespace Go.Proofs.YtfhggnbnbopkkaaDoor
open Go.RowKit PM

end Go.Proofs.YtfhggnbnbopkkaaDoor