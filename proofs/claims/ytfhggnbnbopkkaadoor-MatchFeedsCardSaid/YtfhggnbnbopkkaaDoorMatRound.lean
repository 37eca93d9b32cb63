/- An arm's tracks take a byte: what stands while slices.DeleteFunc goes through them. -/
import Derived.Test.YtfhggnbnbopkkaaDoorMatClos
import Derived.Test.YtfhggnbnbopkkaaDoorMatMath
import Derived.Deep.AppendLies
import Derived.Deep.RegionHeld3

namespace Go.Proofs.YtfhggnbnbopkkaaDoor
open Go.RowKit PM

set_option maxRecDepth 100000
def cutB (M Ti : Int) (x : Tr) : Bool := decide (0 < M ∧ M ≤ Ti - x.p)
def txt (cur : List UInt8) (x : Tr) : List UInt8 := cur.drop x.p.toNat
/-- is a track given up? -/
def dB (t : T) (A : Nat → Bool) (cur : List UInt8) (c : UInt8) (M Ti : Int) (l : List Tr) (k : Nat) : Bool := match l[k]? with
  | some x => cutB M Ti x || deadB (netOf t).1 (netOf t).2 A (txt cur x ++ [c])
  | none => true
/-- the first of the first so many that fits -/
def hitK (t : T) (cur : List UInt8) (c : UInt8) (M Ti : Int) (l : List Tr) : Nat → Option Int
  | 0 => none
  | k + 1 => match hitK t cur c M Ti l k with
    | some p => some p
    | none => match l[k]? with
      | some x => if cutB M Ti x = false ∧ fitsB t (txt cur x ++ [c]) = true then some x.p else none
      | none => none
/-- what does not change while an arm is gone through -/
structure ArmS (x : Bx) (g b : Nat) (l : List Tr) : Prop where
  nd : ∀ (m m' : Nat) y y', l[m]? = some y → l[m']? = some y' → m ≠ m' → y.r ≠ y'.r
  ps : ∀ (m : Nat) y, l[m]? = some y → -1000000000000 ≤ y.p ∧ y.p ≤ 1000000000000
  g1 : g ≠ x.M ∧ g ≠ x.T ∧ g ≠ x.C ∧ g ≠ x.A ∧ g ≠ x.I ∧ g ≠ x.F
  g2 : g ≠ b ∧ g ≠ 0
  g3 : ∀ (m : Nat) y, l[m]? = some y → g ≠ y.r
  z1 : x.A ≠ 0 ∧ x.F ≠ 0
  z2 : ∀ (m : Nat) y, l[m]? = some y → y.r ≠ 0
structure JI (own : List Nat) (w0 : World) (x : Bx) (b : Nat) (t : T) (A : Nat → Bool) (cur : List UInt8) (c : UInt8) (M Ti i : Int) (l : List Tr) (k : Nat) (w : World) : Prop where
  bx : BxIs w x M Ti c (match hitK t cur c M Ti l k with | some _ => i | none => -1) i (match hitK t cur c M Ti l k with | some p => p | none => 0)
  net : NetIs w b t A
  tab : Tab w
  done : ∀ (m : Nat) y, m < k → l[m]? = some y → cutB M Ti y = false → RunAt w y.r b t (txt cur y ++ [c])
  todo : ∀ (m : Nat) y, k ≤ m → l[m]? = some y → (cutB M Ti y = false → RunAt w y.r b t (txt cur y)) ∧ ∃ s, RunAt w y.r b t s
  turns : Turns own w0 w
theorem run_other {w w' : World} {r b : Nat} {t : T} {s : List UInt8} (hr : RunAt w r b t s) (h : w'.heap[r]? = w.heap[r]?) : RunAt w' r b t s := by
  unfold RunAt RB at hr ⊢
  exact h.trans hr
theorem net_other {w w' : World} {b : Nat} {t : T} {A : Nat → Bool} (hn : NetIs w b t A) (h : w'.heap[b]? = w.heap[b]?) : NetIs w' b t A := by
  obtain ⟨cs2, h1, h2⟩ := hn.net
  exact ⟨⟨cs2, h.trans h1, h2⟩, hn.closed, hn.tree, hn.few⟩
theorem tab_other {w w' : World} (ht : Tab w) (h : w'.heap[0]? = w.heap[0]?) : Tab w' := fun j hj => (World.cell?_of_block (a := ⟨0, j, none⟩) h).trans (ht j hj)
theorem JI.turn {own : List Nat} {w0 w w' : World} {x : Bx} {g b : Nat} {t : T} {A : Nat → Bool} {cur : List UInt8} {c : UInt8} {M Ti i : Int} {l : List Tr} {k : Nat} (S : ArmS x g b l) (hg : g ∈ own) (J : JI own w0 x b t A cur c M Ti i l k w) (ho : Only g w w') : JI own w0 x b t A cur c M Ti i l k w' := by
  have hb := J.bx
  have hk : ∀ (k : Nat) (cs : Array Value) (ty : TypeId), w.heap[k]? = some (.cells cs ty (0, 0)) → k ≠ g → w'.heap[k]? = some (.cells cs ty (0, 0)) := fun k cs ty h hne => (ho.block k (lt_of_block h) hne).trans h
  obtain ⟨n1, n2, n3, n4, n5, n6⟩ := S.g1
  refine ⟨⟨hk _ _ _ hb.m (Ne.symm n1), hk _ _ _ hb.t (Ne.symm n2), hk _ _ _ hb.c (Ne.symm n3), hk _ _ _ hb.a (Ne.symm n4), hk _ _ _ hb.i (Ne.symm n5), hk _ _ _ hb.f (Ne.symm n6), hb.d1, hb.d2, hb.d3, hb.d4⟩,
    net_other J.net (ho.block b J.net.net.lt (Ne.symm S.g2.1)), tab_other J.tab (ho.block 0 J.tab.lt (Ne.symm S.g2.2)), fun m y hm hy hc => ?_, fun m y hm hy => ?_, J.turns.trans ⟨ho.os, ho.tape, ho.output, ho.size, fun k hk hn => ho.block k hk (fun e => hn (by rw [e]; exact hg))⟩⟩
  · have h := J.done m y hm hy hc
    exact run_other h (ho.block _ (RB.lt h) (Ne.symm (S.g3 m y hy)))
  · obtain ⟨h1, s, h2⟩ := J.todo m y hm hy
    have he := ho.block _ (RB.lt h2) (Ne.symm (S.g3 m y hy))
    exact ⟨fun hc => run_other (h1 hc) he, s, run_other h2 he⟩
/-- a run's block is no box -/
theorem run_box {w : World} {r b : Nat} {t : T} {s : List UInt8} {B : Nat} {X : Array Value} (hr : RunAt w r b t s) (hb : w.heap[B]? = some (.cells X TI (0, 0))) : r ≠ B := fun e => by
  unfold RunAt RB at hr
  rw [e, hb] at hr
  injection hr with hr; injection hr with _ hr _
  exact absurd hr (by decide)
theorem JI.call {own : List Nat} {w0 w : World} {x : Bx} {g b : Nat} {t : T} {A : Nat → Bool} {cur : List UInt8} {c : UInt8} {M Ti i : Int} {l : List Tr} {k : Nat} {y : Tr} (S : ArmS x g b l) (hown : y.r ∈ own ∧ x.A ∈ own ∧ x.F ∈ own) (hTi : -1000000000000 ≤ Ti ∧ Ti ≤ 1000000000000) (hi : 0 ≤ i)
    (hy : l[k]? = some y) (J : JI own w0 x b t A cur c M Ti i l k w) :
    Calls Tryd.prog 43 (#[trV y] ++ x.cap) w fun e w' => e = .returned (.bool (dB t A cur c M Ti l k)) ∧ JI own w0 x b t A cur c M Ti i l (k + 1) w' ∧ (∀ (B : Nat) (cs : Array Value) (fr : Nat × Nat), w.heap[B]? = some (.cells cs TTr fr) → w'.heap[B]? = some (.cells cs TTr fr)) ∧ w.heap.size ≤ w'.heap.size := by
  obtain ⟨htd, s0, hs0⟩ := J.todo k y (Nat.le_refl _) hy
  have hp := S.ps k y hy
  have hkeepT : ∀ (w' : World), Turns [y.r, x.A, x.F] w w' → ∀ (B : Nat) (cs : Array Value) (fr : Nat × Nat), w.heap[B]? = some (.cells cs TTr fr) → w'.heap[B]? = some (.cells cs TTr fr) := fun w' ht B cs fr hB => (ht.block B (lt_of_block hB) (fun hm => by
    simp only [List.mem_cons, List.not_mem_nil, or_false] at hm
    rcases hm with e | e | e
    · unfold RunAt RB at hs0
      rw [← e, hB] at hs0
      injection hs0 with hs0; injection hs0 with _ hs0 _; exact absurd hs0 (by decide)
    · have h1 := J.bx.a; rw [← e, hB] at h1; injection h1 with h1; injection h1 with _ h1 _; exact absurd h1 (by decide)
    · have h1 := J.bx.f; rw [← e, hB] at h1; injection h1 with h1; injection h1 with _ h1 _; exact absurd h1 (by decide))).trans hB
  have hturn : ∀ (w' : World), Turns [y.r, x.A, x.F] w w' → Turns own w w' := fun w' ht => ⟨ht.os, ht.tape, ht.output, ht.size, fun k hk hn => ht.block k hk (fun hm => hn (by
    simp only [List.mem_cons, List.not_mem_nil, or_false] at hm
    rcases hm with e | e | e
    · rw [e]; exact hown.1
    · rw [e]; exact hown.2.1
    · rw [e]; exact hown.2.2))⟩
  have hothers : ∀ (w' : World), Turns [y.r, x.A, x.F] w w' → ∀ (m : Nat) z s, l[m]? = some z → m ≠ k → RunAt w z.r b t s → RunAt w' z.r b t s := fun w' ht m z s hz hne h => run_other h (ht.block _ (RB.lt h) (fun hm => by
    simp only [List.mem_cons, List.not_mem_nil, or_false] at hm
    rcases hm with e | e | e
    · exact S.nd m k z y hz hy hne e
    · exact run_box h J.bx.a e
    · exact run_box h J.bx.f e))
  have hnet : ∀ (w' : World), Turns [y.r, x.A, x.F] w w' → NetIs w' b t A := fun w' ht => net_other J.net (ht.block b J.net.net.lt (fun hm => by
    simp only [List.mem_cons, List.not_mem_nil, or_false] at hm
    obtain ⟨cs2, h1, _⟩ := J.net.net
    rcases hm with e | e | e
    · exact run_net hs0 J.net (by rw [e])
    · have h2 := J.bx.a; rw [← e, h1] at h2; injection h2 with h2; injection h2 with _ h2 _; exact absurd h2 (by decide)
    · have h2 := J.bx.f; rw [← e, h1] at h2; injection h2 with h2; injection h2 with _ h2 _; exact absurd h2 (by decide)))
  have htab : ∀ (w' : World), Turns [y.r, x.A, x.F] w w' → Tab w' := fun w' ht => tab_other J.tab (ht.block 0 J.tab.lt (fun hm => by
    simp only [List.mem_cons, List.not_mem_nil, or_false] at hm
    rcases hm with e | e | e
    · exact S.z2 k y hy e.symm
    · exact S.z1.1 e.symm
    · exact S.z1.2 e.symm))
  have hcutiff : cutB M Ti y = true ↔ (0 < M ∧ M ≤ Ti - y.p) := by unfold cutB; exact decide_eq_true_iff
  have htodo : ∀ (w' : World), Turns [y.r, x.A, x.F] w w' → ∀ (m : Nat) z, k + 1 ≤ m → l[m]? = some z → (cutB M Ti z = false → RunAt w' z.r b t (txt cur z)) ∧ ∃ s, RunAt w' z.r b t s := fun w' ht m z hm hz => by
    obtain ⟨h1, s, h2⟩ := J.todo m z (by omega) hz
    exact ⟨fun hc => hothers w' ht m z _ hz (by omega) (h1 hc), s, hothers w' ht m z s hz (by omega) h2⟩
  cases hc : cutB M Ti y with
  | true =>
    have hdB : dB t A cur c M Ti l k = true := by unfold dB; rw [hy]; simp [hc]
    have hh : hitK t cur c M Ti l (k + 1) = hitK t cur c M Ti l k := by
      simp only [hitK, hy]
      cases hitK t cur c M Ti l k with
      | some p => rfl
      | none => simp [hc]
    refine (clos_any x b t A s0 c y M Ti _ i _ w J.bx hs0 J.net J.tab hp hTi).mono ?_
    rintro e w' ⟨ht, (⟨_, rfl, _, hbx⟩ | ⟨hno, _⟩)⟩
    · refine ⟨by rw [hdB], ⟨by rw [hh]; exact hbx, hnet w' ht, htab w' ht, fun m z hm hz hcz => ?_, htodo w' ht, J.turns.trans (hturn w' ht)⟩, hkeepT w' ht, ht.size⟩
      by_cases e : m = k
      · subst e; rw [hy] at hz; cases hz; rw [hc] at hcz; cases hcz
      · exact hothers w' ht m z _ hz e (J.done m z (by omega) hz hcz)
    · exact absurd (hcutiff.1 hc) hno
  | false =>
    have hdB : dB t A cur c M Ti l k = deadB (netOf t).1 (netOf t).2 A (txt cur y ++ [c]) := by unfold dB; rw [hy]; simp [hc]
    refine (clos_any x b t A (txt cur y) c y M Ti _ i _ w J.bx (htd hc) J.net J.tab hp hTi).mono ?_
    rintro e w' ⟨ht, (⟨hyes, _⟩ | ⟨_, rfl, hr, hbx⟩)⟩
    · have := hcutiff.2 hyes; rw [hc] at this; cases this
    · refine ⟨by rw [hdB], ⟨?_, hnet w' ht, htab w' ht, fun m z hm hz hcz => ?_, htodo w' ht, J.turns.trans (hturn w' ht)⟩, hkeepT w' ht, ht.size⟩
      · simp only [hitK, hy]
        cases hk : hitK t cur c M Ti l k with
        | some p =>
          rw [hk] at hbx
          simp only at hbx ⊢
          rw [if_neg (by omega), if_neg (by omega)] at hbx
          exact hbx
        | none =>
          rw [hk] at hbx
          simp only at hbx ⊢
          by_cases hf : fitsB t (txt cur y ++ [c]) = true
          · rw [if_pos ⟨by omega, hf⟩, if_pos ⟨by omega, hf⟩] at hbx
            simp only [hc, hf, and_self, if_true]
            exact hbx
          · rw [if_neg (fun h => hf h.2), if_neg (fun h => hf h.2)] at hbx
            rw [if_neg (fun h => hf h.2)]
            exact hbx
      · by_cases e : m = k
        · subst e; rw [hy] at hz; cases hz; exact hr
        · exact hothers w' ht m z _ hz e (J.done m z (by omega) hz hcz)
end Go.Proofs.YtfhggnbnbopkkaaDoor

namespace Go.Proofs.YtfhggnbnbopkkaaDoor
open Go.RowKit PM

set_option maxRecDepth 100000
theorem step_enter (args : Array Value) (w : World) : (callFunc 43 args).run Tryd.prog w = .ok (.enter 43 args) w := by
  simp [go_sem]
theorem arm_delete {own : List Nat} {w0 w : World} {x : Bx} {g b n cp : Nat} {t : T} {A : Nat → Bool} {cur : List UInt8} {c : UInt8} {M Ti i : Int} {l : List Tr} {cu : Array Value} (S : ArmS x g b l) (hg : g ∈ own) (hown : ∀ (k : Nat) y, l[k]? = some y → y.r ∈ own) (hA : x.A ∈ own ∧ x.F ∈ own) (hTi : -1000000000000 ≤ Ti ∧ Ti ≤ 1000000000000) (hi : 0 ≤ i)
    (h0 : JI own w0 x b t A cur c M Ti i l 0 w) (hr : RowT w g l n cu) (hn : n ≤ 10000000) (hc : n ≤ cp) :
    Calls Tryd.prog 42 #[.slice (some ⟨g, 0, none⟩) n cp, .func (.func 43) #[] x.cap] w (DelIs g n cp l (dB t A cur c M Ti l) (JI own w0 x b t A cur c M Ti i l) cu.size w) :=
  delete_any _ x.cap g n cp l cu _ _ ⟨step_enter, fun k y _ hy J _ => JI.call S ⟨hown k y hy, hA.1, hA.2⟩ hTi hi hy J, fun _ _ _ J ho => J.turn S hg ho⟩ w hr h0 hn hc

/-- the places from which something may still be fitted -/
def alive (t : T) (A : Nat → Bool) (cur : List UInt8) : List Nat := (List.range cur.length).filter fun p => !deadB (netOf t).1 (netOf t).2 A (cur.drop p)
/-- what a track is given up for -/
def dT (t : T) (A : Nat → Bool) (cur : List UInt8) (c : UInt8) (M Ti : Int) (y : Tr) : Bool := cutB M Ti y || deadB (netOf t).1 (netOf t).2 A (txt cur y ++ [c])
theorem kp_filter {d : Nat → Bool} {d' : Tr → Bool} {l : List Tr} (h : ∀ (k : Nat) y, l[k]? = some y → d k = d' y) : ∀ k, k ≤ l.length → kp d l k = (l.take k).filter fun y => !d' y
  | 0, _ => by simp [kp]
  | k + 1, hk => by
    have ih := kp_filter h k (by omega)
    obtain ⟨y, hy⟩ : ∃ y, l[k]? = some y := ⟨_, List.getElem?_eq_getElem (by omega)⟩
    rw [List.take_add_one, hy, List.filter_append, ← ih]
    simp only [kp, hy, h k y hy]
    cases hd : d' y <;> simp [hd]
theorem kept_is (t : T) (A : Nat → Bool) (cur : List UInt8) (c : UInt8) (M Ti : Int) (l : List Tr) : kp (dB t A cur c M Ti l) l l.length = l.filter fun y => !dT t A cur c M Ti y := by
  rw [kp_filter (d' := dT t A cur c M Ti) (fun k y hy => by unfold dB dT; rw [hy]) l.length (Nat.le_refl _), List.take_of_length_le (Nat.le_refl _)]
theorem hit_find (t : T) (cur : List UInt8) (c : UInt8) (M Ti : Int) (l : List Tr) : ∀ k, k ≤ l.length → hitK t cur c M Ti l k = ((l.take k).find? fun y => !cutB M Ti y && fitsB t (txt cur y ++ [c])).map fun y => y.p
  | 0, _ => by simp [hitK]
  | k + 1, hk => by
    have ih := hit_find t cur c M Ti l k (by omega)
    obtain ⟨y, hy⟩ : ∃ y, l[k]? = some y := ⟨_, List.getElem?_eq_getElem (by omega)⟩
    rw [List.take_add_one, hy, List.find?_append]
    simp only [hitK, hy]
    rw [ih]
    cases hf : (l.take k).find? fun y => !cutB M Ti y && fitsB t (txt cur y ++ [c]) with
    | some z => simp
    | none =>
      simp only [Option.map_none, Option.toList_some, Option.none_or]
      cases hc : cutB M Ti y <;> cases hft : fitsB t (txt cur y ++ [c]) <;> simp [hc, hft]
theorem find_filter {L : List Nat} {f q : Nat → Bool} (h : ∀ p, p ∈ L → f p = true → q p = true) : (L.filter q).find? f = L.find? f := by
  induction L with
  | nil => rfl
  | cons x L ih =>
    have ih' := ih (fun p hp => h p (List.mem_cons_of_mem _ hp))
    by_cases hq : q x = true
    · rw [List.filter_cons_of_pos hq, List.find?_cons, List.find?_cons, ih']
    · rw [List.filter_cons_of_neg hq, ih', List.find?_cons]
      cases hf : f x with
      | true => exact absurd (h x (by simp) hf) hq
      | false => rfl
theorem find_congr {L : List Nat} {f g : Nat → Bool} (h : ∀ p, p ∈ L → f p = g p) : L.find? f = L.find? g := by
  induction L with
  | nil => rfl
  | cons x L ih =>
    rw [List.find?_cons, List.find?_cons, h x (by simp), ih (fun p hp => h p (List.mem_cons_of_mem _ hp))]
theorem dead_more {w : World} {b : Nat} {t : T} {A : Nat → Bool} (hn : NetIs w b t A) {s : List UInt8} (c : UInt8) (h : deadB (netOf t).1 (netOf t).2 A (s ++ [c]) = false) : deadB (netOf t).1 (netOf t).2 A s = false := by
  cases hd : deadB (netOf t).1 (netOf t).2 A s with
  | false => rfl
  | true =>
    obtain ⟨v, hv⟩ := (fits_dead hn.tree.wf hn.closed (s ++ [c])).1 h
    have h1 := hn.dead_fits hd ([c] ++ v)
    rw [← List.append_assoc, (fitsB_iff hn.tree.wf _).2 hv] at h1
    cases h1
theorem fits_alive {w : World} {b : Nat} {t : T} {A : Nat → Bool} (hn : NetIs w b t A) {s : List UInt8} (c : UInt8) (h : fitsB t (s ++ [c]) = true) : deadB (netOf t).1 (netOf t).2 A s = false := by
  cases hd : deadB (netOf t).1 (netOf t).2 A s with
  | false => rfl
  | true => have h1 := hn.dead_fits hd [c]; rw [h] at h1; cases h1
theorem drop_more {cur : List UInt8} {p : Nat} (c : UInt8) (hp : p ≤ cur.length) : cur.drop p ++ [c] = (cur ++ [c]).drop p := (List.drop_append_of_le_length hp).symm
theorem alive_more {w : World} {b : Nat} {t : T} {A : Nat → Bool} (hn : NetIs w b t A) (cur : List UInt8) (c : UInt8) : alive t A (cur ++ [c]) = (alive t A cur ++ [cur.length]).filter fun p => !deadB (netOf t).1 (netOf t).2 A (cur.drop p ++ [c]) := by
  unfold alive
  rw [List.length_append, List.length_singleton, List.range_succ, List.filter_append, List.filter_append]
  congr 1
  · rw [List.filter_filter]
    refine List.filter_congr (fun p hp => ?_)
    have hpl : p ≤ cur.length := Nat.le_of_lt (List.mem_range.1 hp)
    rw [← drop_more c hpl]
    cases h1 : deadB (netOf t).1 (netOf t).2 A (cur.drop p ++ [c]) with
    | true => simp
    | false => simp [dead_more hn c h1]
  · refine List.filter_congr (fun p hp => ?_)
    rw [List.mem_singleton.1 hp, drop_more c (Nat.le_refl _)]
/-- an arm's tracks behind a text; at its head may stand one from ahead of it -/
def Trk (t : T) (A : Nat → Bool) (cur : List UInt8) (neg : Bool) (l : List Tr) : Prop := l.map (·.p) = (if neg then [-1] else []) ++ (alive t A cur).map Int.ofNat
def fD (t : T) (A : Nat → Bool) (cur : List UInt8) (c : UInt8) (M Ti : Int) (p : Int) : Bool := decide (0 < M ∧ M ≤ Ti - p) || deadB (netOf t).1 (netOf t).2 A (cur.drop p.toNat ++ [c])
/-- which are struck: none from the text's own places, and the one ahead of it -/
structure Cut (M Ti : Int) (n : Nat) (neg : Bool) : Prop where
  no : ∀ p : Nat, p ≤ n → ¬ (0 < M ∧ M ≤ Ti - (p : Int))
  yes : neg = true → 0 < M ∧ M ≤ Ti - (-1 : Int)
theorem Trk.step {w : World} {b : Nat} {t : T} {A : Nat → Bool} (hn : NetIs w b t A) {cur : List UInt8} {c : UInt8} {neg : Bool} {l : List Tr} {M Ti : Int} {r : Nat} (h : Trk t A cur neg l) (hc : Cut M Ti cur.length neg) :
    Trk t A (cur ++ [c]) false ((l ++ [(⟨(cur.length : Int), r⟩ : Tr)]).filter fun y => !dT t A cur c M Ti y) := by
  unfold Trk at h ⊢
  have h1 : ((l ++ [(⟨(cur.length : Int), r⟩ : Tr)]).filter fun y => !dT t A cur c M Ti y).map (·.p) = ((l ++ [(⟨(cur.length : Int), r⟩ : Tr)]).map (·.p)).filter fun p => !fD t A cur c M Ti p := by
    rw [List.filter_map]
    rfl
  rw [h1, List.map_append, h, alive_more hn cur c, List.append_assoc, List.filter_append]
  have h2 : (if neg = true then [(-1 : Int)] else []).filter (fun p => !fD t A cur c M Ti p) = [] := by
    cases neg with
    | false => rfl
    | true =>
      have hd : decide (0 < M ∧ M ≤ Ti - (-1 : Int)) = true := decide_eq_true (hc.yes rfl)
      have h0 : fD t A cur c M Ti (-1) = true := by unfold fD; rw [hd, Bool.true_or]
      show [(-1 : Int)].filter (fun p => !fD t A cur c M Ti p) = []
      rw [List.filter_cons, h0]
      rfl
  rw [h2, List.nil_append]
  have h3 : (alive t A cur).map Int.ofNat ++ [(⟨(cur.length : Int), r⟩ : Tr)].map (fun x : Tr => x.p) = (alive t A cur ++ [cur.length]).map Int.ofNat := by simp
  rw [h3, List.filter_map]
  simp only [Bool.false_eq_true, if_false, List.nil_append]
  congr 1
  refine List.filter_congr (fun p hp => ?_)
  have hpl : p ≤ cur.length := by
    rcases List.mem_append.1 hp with hp | hp
    · exact Nat.le_of_lt (List.mem_range.1 (List.mem_filter.1 hp).1)
    · rw [List.mem_singleton.1 hp]; exact Nat.le_refl _
  have hd : decide (0 < M ∧ M ≤ Ti - (p : Int)) = false := decide_eq_false (hc.no p hpl)
  show (!fD t A cur c M Ti (p : Int)) = _
  unfold fD
  rw [hd, Bool.false_or, Int.toNat_natCast]
theorem Trk.hit {w : World} {b : Nat} {t : T} {A : Nat → Bool} (hn : NetIs w b t A) {cur : List UInt8} {c : UInt8} {neg : Bool} {l : List Tr} {M Ti : Int} {r : Nat} (h : Trk t A cur neg l) (hc : Cut M Ti cur.length neg) :
    hitK t cur c M Ti (l ++ [(⟨(cur.length : Int), r⟩ : Tr)]) (l ++ [(⟨(cur.length : Int), r⟩ : Tr)]).length = (fromOf t (cur ++ [c])).map Int.ofNat := by
  unfold Trk at h
  rw [hit_find _ _ _ _ _ _ _ (Nat.le_refl _), List.take_of_length_le (Nat.le_refl _)]
  have h1 : ((l ++ [(⟨(cur.length : Int), r⟩ : Tr)]).find? fun y => !cutB M Ti y && fitsB t (txt cur y ++ [c])).map (fun y => y.p) = ((l ++ [(⟨(cur.length : Int), r⟩ : Tr)]).map (·.p)).find? fun p => !decide (0 < M ∧ M ≤ Ti - p) && fitsB t (cur.drop p.toNat ++ [c]) := by
    rw [List.find?_map]
    rfl
  rw [h1, List.map_append, h, List.append_assoc, List.find?_append]
  have h2 : (if neg = true then [(-1 : Int)] else []).find? (fun p => !decide (0 < M ∧ M ≤ Ti - p) && fitsB t (cur.drop p.toNat ++ [c])) = none := by
    cases neg with
    | false => rfl
    | true =>
      have hd : decide (0 < M ∧ M ≤ Ti - (-1 : Int)) = true := decide_eq_true (hc.yes rfl)
      show [(-1 : Int)].find? (fun p => !decide (0 < M ∧ M ≤ Ti - p) && fitsB t (cur.drop p.toNat ++ [c])) = none
      rw [List.find?_cons, hd]
      rfl
  rw [h2, Option.none_or]
  have h3 : (alive t A cur).map Int.ofNat ++ [(⟨(cur.length : Int), r⟩ : Tr)].map (fun x : Tr => x.p) = (alive t A cur ++ [cur.length]).map Int.ofNat := by simp
  rw [h3, List.find?_map]
  congr 1
  unfold fromOf
  rw [List.length_append, List.length_singleton, List.range_succ, List.find?_append, List.find?_append]
  have h4 : ∀ p, p ≤ cur.length → ((fun p : Int => !decide (0 < M ∧ M ≤ Ti - p) && fitsB t (cur.drop p.toNat ++ [c])) ∘ Int.ofNat) p = fitsB t ((cur ++ [c]).drop p) := fun p hp => by
    have hd : decide (0 < M ∧ M ≤ Ti - (p : Int)) = false := decide_eq_false (hc.no p hp)
    rw [← drop_more c hp]
    show (!decide (0 < M ∧ M ≤ Ti - (p : Int)) && fitsB t (cur.drop (p : Int).toNat ++ [c])) = _
    rw [hd, Int.toNat_natCast, Bool.not_false, Bool.true_and]
  have h5 : (alive t A cur).find? ((fun p : Int => !decide (0 < M ∧ M ≤ Ti - p) && fitsB t (cur.drop p.toNat ++ [c])) ∘ Int.ofNat) = (List.range cur.length).find? fun p => fitsB t ((cur ++ [c]).drop p) := by
    unfold alive
    rw [find_filter (fun p hp hf => by
      have hpl : p ≤ cur.length := Nat.le_of_lt (List.mem_range.1 hp)
      rw [h4 p hpl, ← drop_more c hpl] at hf
      rw [fits_alive hn c hf]; rfl)]
    exact find_congr (fun p hp => h4 p (Nat.le_of_lt (List.mem_range.1 hp)))
  have h6 : [cur.length].find? ((fun p : Int => !decide (0 < M ∧ M ≤ Ti - p) && fitsB t (cur.drop p.toNat ++ [c])) ∘ Int.ofNat) = [cur.length].find? fun p => fitsB t ((cur ++ [c]).drop p) := find_congr (fun p hp => h4 p (by rw [List.mem_singleton.1 hp]; exact Nat.le_refl _))
  rw [h5, h6]
end Go.Proofs.YtfhggnbnbopkkaaDoor

namespace Go.Proofs.YtfhggnbnbopkkaaDoor
open Go.RowKit PM

set_option maxRecDepth 100000
abbrev TMa : TypeId := 78
abbrev TNp : TypeId := 51
/-- an arm: its net's block, its tree, the places alive -/
structure Arm where
  b : Nat
  t : T
  A : Nat → Bool
/-- a row of tracks as it stands in the matcher's list -/
structure Rw where
  v : Value
  l : List Tr
/-- the blocks that a row owns -/
def Rw.has (q : Rw) (k : Nat) : Prop := q.v.ownBlock = some k ∨ k ∈ q.l.map (·.r)
structure ArmAt (w : World) (a : Arm) (cur : List UInt8) (neg : Bool) (q : Rw) : Prop where
  own : w.ownsRow 1 TTr 2 q.v q.l.length (trsC q.l)
  runs : ∀ y ∈ q.l, (0 ≤ y.p → RunAt w y.r a.b a.t (txt cur y)) ∧ ∃ s, RunAt w y.r a.b a.t s
  trk : Trk a.t a.A cur neg q.l
  nd : (q.l.map (·.r)).Nodup
theorem own_keep {w w' : World} {base : Nat} {e : TypeId} {size : Nat} {v : Value} {n : Nat} {xs : List Value} (h : w.ownsRow base e size v n xs) (hk : ∀ g, v.ownBlock = some g → w'.heap[g]? = w.heap[g]?) : w'.ownsRow base e size v n xs := by
  refine ⟨h.1, ?_⟩
  rcases h.2 with h | ⟨g, cap, cur, hv, hb, hg, h1, h2, h3, h4⟩
  · exact .inl h
  · exact .inr ⟨g, cap, cur, hv, hb, (hk g (by rw [hv]; rfl)).trans hg, h1, h2, h3, h4⟩
theorem ArmAt.keep {w w' : World} {a : Arm} {cur : List UInt8} {neg : Bool} {q : Rw} (h : ArmAt w a cur neg q) (hk : ∀ k, q.has k → w'.heap[k]? = w.heap[k]?) : ArmAt w' a cur neg q :=
  ⟨own_keep h.own fun g hg => hk g (.inl hg), fun y hy => by
    have he := hk y.r (.inr (List.mem_map.2 ⟨y, hy, rfl⟩))
    obtain ⟨h1, s, h2⟩ := h.runs y hy
    exact ⟨fun hp => run_other (h1 hp) he, s, run_other h2 he⟩, h.trk, h.nd⟩
theorem ArmAt.typed {w : World} {a : Arm} {cur : List UInt8} {neg : Bool} {q : Rw} (h : ArmAt w a cur neg q) {k : Nat} (hk : q.has k) : ∃ cs ty, w.heap[k]? = some (.cells cs ty (0, 0)) ∧ (ty = TTr ∨ ty = TRn) := by
  rcases hk with hk | hk
  · rcases h.own.2 with ⟨hv, _⟩ | ⟨g, cap, cs, hv, hb, hg, _⟩
    · rw [hv] at hk; cases hk
    · rw [hv] at hk; cases hk
      exact ⟨_, _, hg, .inl rfl⟩
  · obtain ⟨y, hy, rfl⟩ := List.mem_map.1 hk
    obtain ⟨_, s, h2⟩ := h.runs y hy
    exact ⟨_, _, h2, .inr rfl⟩
theorem ArmAt.lt {w : World} {a : Arm} {cur : List UInt8} {neg : Bool} {q : Rw} (h : ArmAt w a cur neg q) {k : Nat} (hk : q.has k) : k < w.heap.size := by
  obtain ⟨cs, ty, h1, _⟩ := h.typed hk
  exact lt_of_block h1
theorem run_zero {w : World} {r b : Nat} {t : T} {s : List UInt8} (h : RunAt w r b t s) (ht : Tab w) : r ≠ 0 := fun e => by
  subst e
  have h1 := ht.cell (j := 0) (by decide)
  unfold RunAt RB at h
  rw [cell_of_row _ _ _ _ _ _ h] at h1
  cases h1
theorem ArmAt.zero {w : World} {a : Arm} {cur : List UInt8} {neg : Bool} {q : Rw} (h : ArmAt w a cur neg q) (ht : Tab w) : ¬ q.has 0 := by
  rintro (hk | hk)
  · have := (h.own.lt 0 hk).1; omega
  · obtain ⟨y, hy, e⟩ := List.mem_map.1 hk
    obtain ⟨_, s, h2⟩ := h.runs y hy
    exact run_zero h2 ht e
/-- only these blocks, and new ones, are turned -/
structure TurnsP (P : Nat → Prop) (w w' : World) : Prop where
  os : w'.os = w.os
  tape : w'.tape = w.tape
  output : w'.output = w.output
  size : w.heap.size ≤ w'.heap.size
  block : ∀ k, k < w.heap.size → ¬ P k → w'.heap[k]? = w.heap[k]?
theorem TurnsP.refl (P : Nat → Prop) (w : World) : TurnsP P w w := ⟨rfl, rfl, rfl, Nat.le_refl _, fun _ _ _ => rfl⟩
theorem TurnsP.trans {P : Nat → Prop} {a b c : World} (h : TurnsP P a b) (k : TurnsP P b c) : TurnsP P a c := ⟨k.os.trans h.os, k.tape.trans h.tape, k.output.trans h.output, Nat.le_trans h.size k.size, fun j hj hn => (k.block j (Nat.lt_of_lt_of_le hj h.size) hn).trans (h.block j hj hn)⟩
/-- .. the second's own blocks are the first's, or new -/
theorem TurnsP.also {P Q : Nat → Prop} {a b c : World} (h : TurnsP P a b) (k : TurnsP Q b c) (hq : ∀ j, Q j → j < a.heap.size → P j) : TurnsP P a c := ⟨k.os.trans h.os, k.tape.trans h.tape, k.output.trans h.output, Nat.le_trans h.size k.size, fun j hj hn => (k.block j (Nat.lt_of_lt_of_le hj h.size) (fun e => hn (hq j e hj))).trans (h.block j hj hn)⟩
theorem TurnsP.mono {P Q : Nat → Prop} {a b : World} (h : TurnsP P a b) (hq : ∀ j, P j → Q j) : TurnsP Q a b := ⟨h.os, h.tape, h.output, h.size, fun j hj hn => h.block j hj (fun e => hn (hq j e))⟩
theorem TurnsP.of_turns {L : List Nat} {a b : World} (h : Turns L a b) : TurnsP (· ∈ L) a b := ⟨h.os, h.tape, h.output, h.size, h.block⟩
theorem TurnsP.of_below {P : Nat → Prop} {w w' : World} (h : Below w.heap.size w w') : TurnsP P w w' := ⟨h.os, h.tape, h.output, h.size, fun k hk _ => h.block k hk⟩
theorem TurnsP.of_grown {w w' : World} {r : Option Nat} (h : w.grownBy w' r) : TurnsP (fun k => r = some k) w w' := ⟨h.os, h.tape, h.output, h.size, fun k hk hn => h.block k hk (fun e => hn e.symm)⟩
theorem TurnsP.of_set (w : World) (g i : Nat) (v : Value) : TurnsP (fun k => k = g) w (w.setCell ⟨g, i, none⟩ v) := ⟨rfl, rfl, rfl, by simp, fun k _ hn => heap_setCell_other w ⟨g, i, none⟩ k v hn⟩
/-- a matcher: its block, the row of its nets, the row of its rows -/
structure Mx where
  mb : Nat
  N : Nat
  cN : Nat
  O : Nat
  cO : Nat
def mV (x : Mx) (n : Nat) (bv : Value) : Array Value := #[.slice (some ⟨x.N, 0, none⟩) n x.cN, .slice (some ⟨x.O, 0, none⟩) n x.cO, bv]
structure Nets (w : World) (x : Mx) (arms : List Arm) : Prop where
  row : w.ownsRow 1 TNp 1 (.slice (some ⟨x.N, 0, none⟩) arms.length x.cN) arms.length (arms.map fun a => .pointer (some ⟨a.b, 0, none⟩))
  net : ∀ a ∈ arms, NetIs w a.b a.t a.A
  tab : Tab w
def Rows (w : World) (x : Mx) (R : List Rw) : Prop := w.ownsRow 1 TTs 1 (.slice (some ⟨x.O, 0, none⟩) R.length x.cO) R.length (R.map (·.v))
def Has (R : List Rw) (k : Nat) : Prop := ∃ q ∈ R, q.has k
structure ArmsAt (w : World) (arms : List Arm) (st : Nat → List UInt8 × Bool) (R : List Rw) : Prop where
  len : R.length = arms.length
  at' : ∀ (i : Nat) a q, arms[i]? = some a → R[i]? = some q → ArmAt w a (st i).1 (st i).2 q
  apart : ∀ (i j : Nat) q q' k, R[i]? = some q → R[j]? = some q' → i ≠ j → q.has k → ¬ q'.has k
theorem ArmsAt.typed {w : World} {arms : List Arm} {st : Nat → List UInt8 × Bool} {R : List Rw} (h : ArmsAt w arms st R) {k : Nat} (hk : Has R k) : ∃ cs ty, w.heap[k]? = some (.cells cs ty (0, 0)) ∧ (ty = TTr ∨ ty = TRn) := by
  obtain ⟨q, hq, hk⟩ := hk
  obtain ⟨i, hi, rfl⟩ := List.mem_iff_getElem.1 hq
  have ha : arms[i]? = some (arms[i]'(by rw [← h.len]; exact hi)) := List.getElem?_eq_getElem _
  exact (h.at' i _ _ ha (List.getElem?_eq_getElem hi)).typed hk
theorem ArmsAt.lt {w : World} {arms : List Arm} {st : Nat → List UInt8 × Bool} {R : List Rw} (h : ArmsAt w arms st R) {k : Nat} (hk : Has R k) : k < w.heap.size := by
  obtain ⟨cs, ty, h1, _⟩ := h.typed hk
  exact lt_of_block h1
theorem ArmsAt.not {w : World} {arms : List Arm} {st : Nat → List UInt8 × Bool} {R : List Rw} (h : ArmsAt w arms st R) {k : Nat} {cs : Array Value} {ty : TypeId} (hk : w.heap[k]? = some (.cells cs ty (0, 0))) (h1 : ty ≠ TTr) (h2 : ty ≠ TRn) : ¬ Has R k := fun e => by
  obtain ⟨cs', ty', h3, h4⟩ := h.typed e
  rw [hk] at h3
  injection h3 with h3; injection h3 with _ h3 _
  rcases h4 with h4 | h4
  · exact h1 (h3.trans h4)
  · exact h2 (h3.trans h4)
theorem ArmsAt.zero {w : World} {arms : List Arm} {st : Nat → List UInt8 × Bool} {R : List Rw} (h : ArmsAt w arms st R) (ht : Tab w) : ¬ Has R 0 := by
  rintro ⟨q, hq, hk⟩
  obtain ⟨i, hi, rfl⟩ := List.mem_iff_getElem.1 hq
  have ha : arms[i]? = some (arms[i]'(by rw [← h.len]; exact hi)) := List.getElem?_eq_getElem _
  exact (h.at' i _ _ ha (List.getElem?_eq_getElem hi)).zero ht hk
theorem ArmsAt.keep {w w' : World} {arms : List Arm} {st : Nat → List UInt8 × Bool} {R : List Rw} (h : ArmsAt w arms st R) (hk : ∀ k, Has R k → w'.heap[k]? = w.heap[k]?) : ArmsAt w' arms st R :=
  ⟨h.len, fun i a q ha hq => (h.at' i a q ha hq).keep fun k hk' => hk k ⟨q, List.mem_of_getElem? hq, hk'⟩, h.apart⟩
/-- an own row lies in a block of its type -/
theorem own_blk {w : World} {base : Nat} {e : TypeId} {size : Nat} {g n cap : Nat} {xs : List Value} (h : w.ownsRow base e size (.slice (some ⟨g, 0, none⟩) n cap) n xs) : ∃ cs, w.heap[g]? = some (.cells cs e (0, 0)) ∧ base ≤ g ∧ n ≤ cap ∧ cs.size = cap * size ∧ cs.toList.take (n * size) = xs := by
  rcases h.2 with ⟨e, _⟩ | ⟨g', cap', cs, e, h1, h2, h3, h4, h5, h6⟩
  · cases e
  · cases e; exact ⟨cs, h2, h1, h3, h5, h6⟩
/-- the matcher's blocks that the tracks' owner turns: its row of rows, the rows, the runs -/
def Own (x : Mx) (R : List Rw) (k : Nat) : Prop := k = x.O ∨ Has R k
theorem own_not {w : World} {x : Mx} {arms : List Arm} {st : Nat → List UInt8 × Bool} {R : List Rw} (h : ArmsAt w arms st R) (hr : Rows w x R) {k : Nat} {cs : Array Value} {ty : TypeId} (hk : w.heap[k]? = some (.cells cs ty (0, 0))) (h1 : ty ≠ TTr ∧ ty ≠ TRn ∧ ty ≠ TTs) : ¬ Own x R k := by
  rintro (e | e)
  · obtain ⟨cs', h2, _⟩ := own_blk hr
    rw [← e, hk] at h2
    injection h2 with h2; injection h2 with _ h2 _
    exact h1.2.2 h2
  · exact h.not hk h1.1 h1.2.1 e
theorem own_zero {w : World} {x : Mx} {arms : List Arm} {st : Nat → List UInt8 × Bool} {R : List Rw} (h : ArmsAt w arms st R) (hr : Rows w x R) (ht : Tab w) : ¬ Own x R 0 := by
  rintro (e | e)
  · obtain ⟨cs', h2, h3, _⟩ := own_blk hr
    omega
  · exact h.zero ht e
theorem Nets.keep {w w' : World} {x : Mx} {arms : List Arm} (h : Nets w x arms) (hk : ∀ (k : Nat) (cs : Array Value) (ty : TypeId), w.heap[k]? = some (.cells cs ty (0, 0)) → ty = TNp ∨ ty = 89 → w'.heap[k]? = w.heap[k]?) (h0 : w'.heap[0]? = w.heap[0]?) : Nets w' x arms := by
  refine ⟨own_keep h.row fun g hg => ?_, fun a ha => ?_, tab_other h.tab h0⟩
  · cases hg
    obtain ⟨cs, h1, _⟩ := own_blk h.row
    exact hk _ cs _ h1 (.inl rfl)
  · have hn := h.net a ha
    obtain ⟨cs, h1, _⟩ := hn.net
    exact net_other hn (hk _ cs _ h1 (.inr rfl))
theorem Nets.turns {w w' : World} {x y : Mx} {arms arms' : List Arm} {st : Nat → List UInt8 × Bool} {R : List Rw} (h : Nets w y arms') (ha : ArmsAt w arms st R) (hr : Rows w x R) (ht : TurnsP (Own x R) w w') : Nets w' y arms' :=
  h.keep (fun k cs ty hk hty => ht.block k (lt_of_block hk) (own_not ha hr hk (by rcases hty with rfl | rfl <;> decide))) (ht.block 0 h.tab.lt (own_zero ha hr h.tab))
end Go.Proofs.YtfhggnbnbopkkaaDoor

namespace Go.Proofs.YtfhggnbnbopkkaaDoor
open Go.RowKit PM

set_option maxRecDepth 100000
theorem row_of_own {w : World} {g n cap : Nat} {l : List Tr} (h : w.ownsRow 1 TTr 2 (.slice (some ⟨g, 0, none⟩) n cap) n (trsC l)) : ∃ cu, RowT w g l n cu ∧ cu.size = cap * 2 ∧ n ≤ cap ∧ 1 ≤ g ∧ cap ≤ maxLen := by
  rcases h.2 with ⟨e, _⟩ | ⟨g', cap', cs, e, h1, h2, h3, h4, h5, h6⟩
  · cases e
  · cases e
    have hl : l.length = n := by have := h.1; rw [trsC_len] at this; omega
    refine ⟨cs, ⟨h2, by omega, hl, fun k x hx => ?_⟩, h5, h3, h1, h4⟩
    obtain ⟨a1, a2⟩ := trsC_at l k x hx
    have hk := (List.getElem?_eq_some_iff.1 hx).1
    rw [← h6] at a1 a2
    rw [List.getElem?_take_of_lt (by omega)] at a1 a2
    rw [← Array.getElem?_toList, ← Array.getElem?_toList]
    exact ⟨a1, a2⟩
theorem own_of_row {w : World} {g n cap : Nat} {l : List Tr} {cu : Array Value} (h : RowT w g l n cu) (hs : cu.size = cap * 2) (hn : n ≤ cap) (hg : 1 ≤ g) (hc : cap ≤ maxLen) : w.ownsRow 1 TTr 2 (.slice (some ⟨g, 0, none⟩) n cap) n (trsC l) := by
  refine ⟨by rw [trsC_len, h.len], .inr ⟨g, cap, cu, rfl, hg, h.blk, hn, hc, hs, ?_⟩⟩
  refine List.ext_getElem? fun j => ?_
  by_cases hj : j < n * 2
  · rw [List.getElem?_take_of_lt hj]
    obtain ⟨x, hx⟩ : ∃ x, l[j / 2]? = some x := ⟨_, List.getElem?_eq_getElem (by rw [h.len]; omega)⟩
    obtain ⟨a1, a2⟩ := trsC_at l _ x hx
    obtain ⟨b1, b2⟩ := h.at' _ x hx
    rw [Array.getElem?_toList]
    rcases (show j = j / 2 * 2 ∨ j = j / 2 * 2 + 1 by omega) with e | e
    · rw [e, b1, a1]
    · rw [e, b2, a2]
  · rw [List.getElem?_eq_none (by rw [List.length_take]; omega), List.getElem?_eq_none (by rw [trsC_len, h.len]; omega)]
/-- where tracks begin -/
theorem Trk.place {t : T} {A : Nat → Bool} {cur : List UInt8} {neg : Bool} {l : List Tr} (h : Trk t A cur neg l) {y : Tr} (hy : y ∈ l) : (y.p = -1 ∧ neg = true) ∨ ∃ p : Nat, y.p = p ∧ p < cur.length := by
  have : y.p ∈ l.map (·.p) := List.mem_map.2 ⟨y, hy, rfl⟩
  rw [h] at this
  rcases List.mem_append.1 this with h1 | h1
  · cases neg with
    | false => cases h1
    | true => exact .inl ⟨by simpa using h1, rfl⟩
  · obtain ⟨p, hp, e⟩ := List.mem_map.1 h1
    unfold alive at hp
    exact .inr ⟨p, e.symm, List.mem_range.1 (List.mem_filter.1 hp).1⟩
theorem Trk.short {t : T} {A : Nat → Bool} {cur : List UInt8} {neg : Bool} {l : List Tr} (h : Trk t A cur neg l) : l.length ≤ cur.length + 1 := by
  have h1 : l.length = (l.map (·.p)).length := by simp
  rw [h1, h, List.length_append, List.length_map]
  have h2 : (alive t A cur).length ≤ cur.length := by unfold alive; exact Nat.le_trans (List.length_filter_le _ _) (by simp)
  have h3 : (if neg = true then [(-1 : Int)] else []).length ≤ 1 := by cases neg <;> simp
  omega
def PassIs (x : Bx) (a : Arm) (g cap : Nat) (l : List Tr) (cur : List UInt8) (c : UInt8) (M i : Int) (W : World) (e : Ending) (w' : World) : Prop :=
  ∃ l', e = .returned (.slice (some ⟨g, 0, none⟩) l'.length cap) ∧ ArmAt w' a (cur ++ [c]) false ⟨.slice (some ⟨g, 0, none⟩) l'.length cap, l'⟩ ∧ (∀ y ∈ l', y ∈ l) ∧
    TurnsP (fun k => k = g ∨ k ∈ l.map (·.r) ∨ k = x.A ∨ k = x.F) W w' ∧
    BxIs w' x M cur.length c (match fromOf a.t (cur ++ [c]) with | some _ => i | none => -1) i (match fromOf a.t (cur ++ [c]) with | some p => (p : Int) | none => 0)
theorem arm_pass (x : Bx) (a : Arm) (g cap r : Nat) (l : List Tr) (cur : List UInt8) (c : UInt8) (neg : Bool) (M i : Int) (W : World)
    (hbx : BxIs W x M cur.length c (-1) i 0) (hn : NetIs W a.b a.t a.A) (ht : Tab W) (hown : W.ownsRow 1 TTr 2 (.slice (some ⟨g, 0, none⟩) (l.length + 1) cap) (l.length + 1) (trsC (l ++ [(⟨(cur.length : Int), r⟩ : Tr)])))
    (hruns : ∀ y ∈ l ++ [(⟨(cur.length : Int), r⟩ : Tr)], (0 ≤ y.p → RunAt W y.r a.b a.t (txt cur y)) ∧ ∃ s, RunAt W y.r a.b a.t s)
    (htrk : Trk a.t a.A cur neg l) (hnd : ((l ++ [(⟨(cur.length : Int), r⟩ : Tr)]).map (·.r)).Nodup) (hcut : Cut M cur.length cur.length neg) (hlen : cur.length ≤ 5000000) (hi : 0 ≤ i) :
    Calls Tryd.prog 42 #[.slice (some ⟨g, 0, none⟩) (l.length + 1 : Nat) cap, .func (.func 43) #[] x.cap] W (PassIs x a g cap (l ++ [(⟨(cur.length : Int), r⟩ : Tr)]) cur c M i W) := by
  obtain ⟨cu, hrow, hsz, hnc, hg1, hcm⟩ := row_of_own hown
  have hsh := htrk.short
  generalize hL : l ++ [(⟨(cur.length : Int), r⟩ : Tr)] = L at *
  have hLl : L.length = l.length + 1 := by rw [← hL]; simp
  have hpl : ∀ y ∈ L, (y.p = -1 ∧ neg = true) ∨ ∃ p : Nat, y.p = p ∧ p ≤ cur.length := fun y hy => by
    rw [← hL] at hy
    rcases List.mem_append.1 hy with hy | hy
    · rcases htrk.place hy with h | ⟨p, h1, h2⟩
      · exact .inl h
      · exact .inr ⟨p, h1, by omega⟩
    · rw [List.mem_singleton.1 hy]; exact .inr ⟨_, rfl, Nat.le_refl _⟩
  have hmem : ∀ (m : Nat) y, L[m]? = some y → y ∈ L := fun m y h => List.mem_of_getElem? h
  have hty : ∀ {k : Nat} {cs : Array Value} {ty : TypeId}, W.heap[k]? = some (.cells cs ty (0, 0)) → ty ≠ TTr → g ≠ k := fun {k cs ty} hk hne e => by
    rw [← e, hrow.blk] at hk
    injection hk with hk; injection hk with _ hk _
    exact hne hk.symm
  have S : ArmS x g a.b L := by
    refine ⟨fun m m' y y' h1 h2 hne e => ?_, fun m y h => ?_, ⟨hty hbx.m (by decide), hty hbx.t (by decide), hty hbx.c (by decide), hty hbx.a (by decide), hty hbx.i (by decide), hty hbx.f (by decide)⟩, ⟨?_, by omega⟩, fun m y h => ?_, ⟨?_, ?_⟩, fun m y h => ?_⟩
    · have e1 : (L.map (·.r))[m]? = some y.r := by rw [List.getElem?_map, h1]; rfl
      have e2 : (L.map (·.r))[m']? = some y'.r := by rw [List.getElem?_map, h2]; rfl
      obtain ⟨l1, e1⟩ := List.getElem?_eq_some_iff.1 e1
      obtain ⟨l2, e2⟩ := List.getElem?_eq_some_iff.1 e2
      exact hne ((List.getElem_inj hnd).1 (e1.trans (e.trans e2.symm)))
    · rcases hpl y (hmem m y h) with ⟨h1, _⟩ | ⟨p, h1, h2⟩ <;> rw [h1] <;> omega
    · obtain ⟨cs, h1, _⟩ := hn.net
      exact hty h1 (by decide)
    · obtain ⟨_, s, h2⟩ := hruns y (hmem m y h)
      exact hty (ty := TRn) h2 (by decide)
    · intro e
      have h1 := ht.cell (j := 0) (by decide)
      have h2 := hbx.a
      rw [e] at h2
      rw [cell_of_row _ _ _ _ _ _ h2] at h1
      cases h1
    · intro e
      have h1 := ht.cell (j := 0) (by decide)
      have h2 := hbx.f
      rw [e] at h2
      rw [cell_of_row _ _ _ _ _ _ h2] at h1
      cases h1
    · obtain ⟨_, s, h2⟩ := hruns y (hmem m y h)
      exact run_zero h2 ht
  have hnocut : ∀ y ∈ L, cutB M cur.length y = false → ∃ p : Nat, y.p = p ∧ p ≤ cur.length := fun y hy hc => by
    rcases hpl y hy with ⟨h1, h2⟩ | h
    · have : cutB M cur.length y = true := by unfold cutB; rw [h1]; exact decide_eq_true (hcut.yes h2)
      rw [hc] at this; cases this
    · exact h
  have J0 : JI (g :: x.A :: x.F :: L.map (·.r)) W x a.b a.t a.A cur c M cur.length i L 0 W := by
    refine ⟨hbx, hn, ht, fun m y hm => absurd hm (Nat.not_lt_zero _), fun m y _ h => ?_, Turns.refl _ _⟩
    obtain ⟨h1, h2⟩ := hruns y (hmem m y h)
    exact ⟨fun hc => by
      obtain ⟨p, h3, _⟩ := hnocut y (hmem m y h) hc
      exact h1 (by omega), h2⟩
  have HC := arm_delete (own := g :: x.A :: x.F :: L.map (·.r)) (w0 := W) (cp := cap) S (by simp) (fun k y h => by simp; exact .inr (.inr (.inr ⟨y, hmem k y h, rfl⟩))) (by simp) ⟨by omega, by omega⟩ hi J0 hrow (by omega) hnc
  refine HC.mono ?_
  rintro e w' ⟨cu', rfl, hr', hs', J, hsz'⟩
  have hkp : kp (dB a.t a.A cur c M cur.length L) L (l.length + 1) = L.filter fun y => !dT a.t a.A cur c M cur.length y := by rw [← hLl]; exact kept_is _ _ _ _ _ _ _
  rw [hkp] at hr' ⊢
  refine ⟨_, rfl, ⟨own_of_row hr' (hs'.trans hsz) (Nat.le_trans (Nat.le_trans (List.length_filter_le _ _) (by omega)) hnc) hg1 hcm, fun y hy => ?_, ?_, ?_⟩, fun y hy => (List.mem_filter.1 hy).1, (TurnsP.of_turns J.turns).mono fun k hk => ?_, ?_⟩
  · obtain ⟨hyL, hd⟩ := List.mem_filter.1 hy
    obtain ⟨m, hm, he⟩ := List.mem_iff_getElem.1 hyL
    have hc : cutB M cur.length y = false := by
      unfold dT at hd
      cases hc : cutB M cur.length y with
      | false => rfl
      | true => rw [hc] at hd; simp at hd
    have hr := J.done m y (by omega) ((List.getElem?_eq_getElem hm).trans (by rw [he])) hc
    obtain ⟨p, h1, h2⟩ := hnocut y hyL hc
    have htx : txt (cur ++ [c]) y = txt cur y ++ [c] := by unfold txt; rw [h1]; exact (drop_more c h2).symm
    exact ⟨fun _ => by rw [htx]; exact hr, _, hr⟩
  · rw [← hL]; exact Trk.step hn htrk hcut
  · exact List.Nodup.sublist (List.Sublist.map _ List.filter_sublist) hnd
  · simp only [List.mem_cons] at hk
    rcases hk with h | h | h | h
    · exact .inl h
    · exact .inr (.inr (.inl h))
    · exact .inr (.inr (.inr h))
    · exact .inr (.inl h)
  · have hh : hitK a.t cur c M cur.length L (l.length + 1) = (fromOf a.t (cur ++ [c])).map Int.ofNat := by rw [← hLl, ← hL]; exact Trk.hit hn htrk hcut
    have := J.bx
    rw [hh] at this
    cases hf : fromOf a.t (cur ++ [c]) with
    | none => rw [hf] at this; exact this
    | some p => rw [hf] at this; exact this
end Go.Proofs.YtfhggnbnbopkkaaDoor

namespace Go.Proofs.YtfhggnbnbopkkaaDoor
open Go.RowKit PM

set_option maxRecDepth 100000
abbrev stAt (i : Nat) (cur : List UInt8) (c : UInt8) (neg : Nat → Bool) (j : Nat) : List UInt8 × Bool := if j < i then (cur ++ [c], false) else (cur, neg j)
/-- the boxes of step: c, at, most, arm, from -/
structure Box5 (w : World) (H : Nat) (c : UInt8) (Ti M : Int) : Prop where
  c : w.heap[H]? = some (.cells #[.int .u8 c.toNat] 5 (0, 0))
  t : w.heap[H + 1]? = some (.cells #[.int .i64 Ti] TI (0, 0))
  m : w.heap[H + 2]? = some (.cells #[.int .i64 M] TI (0, 0))
  a : w.heap[H + 3]? = some (.cells #[.int .i64 (-1)] TI (0, 0))
  f : w.heap[H + 4]? = some (.cells #[.int .i64 0] TI (0, 0))
structure StepI (x : Mx) (arms : List Arm) (R0 : List Rw) (cur : List UInt8) (c : UInt8) (neg : Nat → Bool) (M : Int) (w wr : World) (i : Nat) (R : List Rw) : Prop where
  rows : Rows wr x R
  at' : ArmsAt wr arms (stAt i cur c neg) R
  tp : TurnsP (Own x R0) w wr
  from' : ∀ k, Has R k → k < w.heap.size → Has R0 k
  bx : Box5 wr w.heap.size c cur.length M
  none : ∀ (j : Nat) a, j < i → arms[j]? = some a → fromOf a.t (cur ++ [c]) = none
def StepIs (x : Mx) (arms : List Arm) (R0 : List Rw) (cur : List UInt8) (c : UInt8) (w : World) (e : Ending) (w' : World) : Prop :=
  ∃ R, Rows w' x R ∧ R.length = arms.length ∧ TurnsP (Own x R0) w w' ∧ (∀ k, Has R k → k < w.heap.size → Has R0 k) ∧ (∀ k, Has R k → k < w'.heap.size) ∧
    ((∃ a p : Nat, hitOf (arms.map (·.t)) (cur ++ [c]) = some (a, p) ∧ e = .returned (.tuple #[.int .i64 a, .int .i64 p, .bool true])) ∨
     (hitOf (arms.map (·.t)) (cur ++ [c]) = none ∧ e = .returned (.tuple #[.int .i64 0, .int .i64 0, .bool false]) ∧ ArmsAt w' arms (fun _ => (cur ++ [c], false)) R))
theorem Box5.keep {w w' : World} {H : Nat} {c : UInt8} {Ti M : Int} (h : Box5 w H c Ti M) (hk : ∀ (k : Nat) (cs : Array Value) (ty : TypeId), w.heap[k]? = some (.cells cs ty (0, 0)) → ty = TI ∨ ty = 5 → w'.heap[k]? = w.heap[k]?) : Box5 w' H c Ti M :=
  ⟨(hk _ _ _ h.c (.inr rfl)).trans h.c, (hk _ _ _ h.t (.inl rfl)).trans h.t, (hk _ _ _ h.m (.inl rfl)).trans h.m, (hk _ _ _ h.a (.inl rfl)).trans h.a, (hk _ _ _ h.f (.inl rfl)).trans h.f⟩
theorem StepI.on {x : Mx} {arms : List Arm} {R0 : List Rw} {cur : List UInt8} {c : UInt8} {neg : Nat → Bool} {M : Int} {w wr w' : World} {i : Nat} {R : List Rw} (h : StepI x arms R0 cur c neg M w wr i R) (hb : Below wr.heap.size wr w') : StepI x arms R0 cur c neg M w w' i R :=
  ⟨own_keep h.rows fun g hg => hb.block g (h.rows.lt g hg).2, h.at'.keep fun k hk => hb.block k (h.at'.lt hk), h.tp.trans (TurnsP.of_below hb), h.from', h.bx.keep fun k _ _ hk _ => hb.block k (lt_of_block hk), h.none⟩
theorem step_cell {w wr : World} {x : Mx} {arms : List Arm} {st : Nat → List UInt8 × Bool} {R0 : List Rw} {bv : Value} {n : Nat} (hb : w.heap[x.mb]? = some (.cells (mV x n bv) TMa (0, 0))) (ha : ArmsAt w arms st R0) (hr : Rows w x R0) (ht : TurnsP (Own x R0) w wr) (k : Nat) (v : Value) (hv : (mV x n bv)[k]? = some v) : wr.cell? ⟨x.mb, k, none⟩ = some v := by
  have h1 := (ht.block x.mb (lt_of_block hb) (own_not ha hr hb (by decide))).trans hb
  rw [cell_of_row _ _ _ _ _ _ h1]; exact hv
theorem rows_cell {w : World} {x : Mx} {R : List Rw} {i : Nat} {q : Rw} (h : Rows w x R) (hi : R[i]? = some q) : w.cell? ⟨x.O, i, none⟩ = some q.v := by
  have h2 := h.cells (g := x.O) rfl i q.v (by rw [List.getElem?_map, hi]; rfl)
  rw [Addr.add_lit, Nat.zero_add] at h2
  exact h2
theorem ty_ne {w : World} {a b : Nat} {cs cs' : Array Value} {t t' : TypeId} (h : w.heap[a]? = some (.cells cs t (0, 0))) (h' : w.heap[b]? = some (.cells cs' t' (0, 0))) (hne : t ≠ t') : a ≠ b := fun e => by
  subst e
  rw [h] at h'
  injection h' with h'; injection h' with _ h' _
  exact hne h'
/-- where nothing is turned between region 5's ends -/
structure R5 (x : Mx) (a : Arm) (q : Rw) (cur : List UInt8) (c : UInt8) (M : Int) (i H B r g cap : Nat) (R : List Rw) (W1 W5 : World) : Prop where
  bx : BxIs W5 ⟨H + 2, H + 1, H, H + 3, B, H + 4⟩ M cur.length c (-1) i 0
  net : NetIs W5 a.b a.t a.A
  tab : Tab W5
  own : W5.ownsRow 1 TTr 2 (.slice (some ⟨g, 0, none⟩) (q.l.length + 1) cap) (q.l.length + 1) (trsC (q.l ++ [(⟨(cur.length : Int), r⟩ : Tr)]))
  runs : ∀ y ∈ q.l ++ [(⟨(cur.length : Int), r⟩ : Tr)], (0 ≤ y.p → RunAt W5 y.r a.b a.t (txt cur y)) ∧ ∃ s, RunAt W5 y.r a.b a.t s
  nd : ((q.l ++ [(⟨(cur.length : Int), r⟩ : Tr)]).map (·.r)).Nodup
  tp : TurnsP (fun k => k = x.O ∨ q.v.ownBlock = some k) W1 W5
  rows : Rows W5 x (R.set i ⟨.slice (some ⟨g, 0, none⟩) (q.l.length + 1) cap, []⟩)
  new : (q.v.ownBlock = some g ∨ W1.heap.size ≤ g) ∧ W1.heap.size ≤ r
theorem round5 {x : Mx} {arms : List Arm} {R0 R : List Rw} {cur : List UInt8} {c : UInt8} {neg : Nat → Bool} {M : Int} {w W1 w2 w3 : World} {i H B r g cap : Nat} {a : Arm} {q : Rw}
    (hn : Nets w x arms) (hr : Rows w x R0) (ha : ArmsAt w arms (fun j => (cur, neg j)) R0) (hH : w.heap.size = H) (h1 : StepI x arms R0 cur c neg M w W1 i R) (hib : W1.heap[B]? = some (.cells #[.int .i64 i] TI (0, 0))) (hB : H + 5 ≤ B) (hai : arms[i]? = some a) (hqi : R[i]? = some q)
    (hr1 : W1.heap.size ≤ r) (hr2 : RunAt w2 r a.b a.t []) (hb2 : Below W1.heap.size W1 w2) (o : Obj) (hown : w3.ownsRow 1 TTr 2 (.slice (some ⟨g, 0, none⟩) (q.l.length + 1) cap) (q.l.length + 1) (trsC q.l ++ [.pointer (some ⟨r, 0, none⟩), .int .i64 cur.length])) (hgrow : (w2.alloc o).grownBy w3 q.v.ownBlock)
    (hat : q.v.ownBlock = some g ∨ g = (w2.alloc o).heap.size) : R5 x a q cur c M i H B r g cap R W1 (w3.setCell ⟨x.O, i, none⟩ (.slice (some ⟨g, 0, none⟩) (q.l.length + 1) cap)) := by
  have hA := h1.at'.at' i a q hai hqi
  have hst : stAt i cur c neg i = (cur, neg i) := by simp [stAt]
  rw [hst] at hA
  obtain ⟨csO, hO, hO1, _⟩ := own_blk h1.rows
  have hOl := lt_of_block hO
  have hb3 : Below W1.heap.size W1 (w2.alloc o) := hb2.alloc hb2.size o
  have hkeep3 : ∀ k, k < W1.heap.size → q.v.ownBlock ≠ some k → w3.heap[k]? = W1.heap[k]? := fun k hk hne => (hgrow.block k (Nat.lt_of_lt_of_le hk hb3.size) (fun e => hne e.symm)).trans (hb3.block k hk)
  have hkeep : ∀ k, k < W1.heap.size → k ≠ x.O → q.v.ownBlock ≠ some k → (w3.setCell ⟨x.O, i, none⟩ (.slice (some ⟨g, 0, none⟩) (q.l.length + 1) cap)).heap[k]? = W1.heap[k]? := fun k hk h2 h3 => (heap_setCell_other w3 ⟨x.O, i, none⟩ k _ h2).trans (hkeep3 k hk h3)
  have hqb : ∀ (k : Nat) (cs : Array Value) (ty : TypeId), W1.heap[k]? = some (.cells cs ty (0, 0)) → ty ≠ TTr → q.v.ownBlock ≠ some k := fun k cs ty hk hne e => by
    rcases hA.own.2 with ⟨hv, _⟩ | ⟨g', cap', cs', hv, _, h2, _⟩
    · rw [hv] at e; cases e
    · rw [hv] at e; cases e
      exact ty_ne hk h2 hne rfl
  have hty : ∀ (k : Nat) (cs : Array Value) (ty : TypeId), W1.heap[k]? = some (.cells cs ty (0, 0)) → ty ≠ TTr → ty ≠ TTs → (w3.setCell ⟨x.O, i, none⟩ (.slice (some ⟨g, 0, none⟩) (q.l.length + 1) cap)).heap[k]? = some (.cells cs ty (0, 0)) := fun k cs ty hk h2 h3 => (hkeep k (lt_of_block hk) (ty_ne hk hO h3) (hqb k cs ty hk h2)).trans hk
  have hN : Nets W1 x arms := hn.turns ha hr h1.tp
  have hOq : q.v.ownBlock ≠ some x.O := hqb _ _ _ hO (by decide)
  have hO3 := (hkeep3 x.O hOl hOq).trans hO
  have hbx := h1.bx
  rw [hH] at hbx
  obtain ⟨csg, hg3, _⟩ := own_blk hown
  have hgO : g ≠ x.O := ty_ne hg3 hO3 (by decide)
  have hmem : a ∈ arms := List.mem_of_getElem? hai
  have hqlt : ∀ k, q.has k → k < W1.heap.size := fun k hk => hA.lt hk
  have hne := hN.net a hmem
  obtain ⟨csn, hnb, _⟩ := hne.net
  have hsz : W1.heap.size ≤ (w2.alloc o).heap.size := hb3.size
  refine ⟨⟨hty _ _ _ hbx.m (by decide) (by decide), hty _ _ _ hbx.t (by decide) (by decide), hty _ _ _ hbx.c (by decide) (by decide), hty _ _ _ hbx.a (by decide) (by decide), hty _ _ _ hib (by decide) (by decide), hty _ _ _ hbx.f (by decide) (by decide), ?_, ?_, ?_, ?_⟩, net_other hne ((hty _ _ _ hnb (by decide) (by decide)).trans hnb.symm), tab_other hN.tab (hkeep 0 hN.tab.lt (by omega) (fun e => hA.zero hN.tab (.inl e))), ?_, ?_, ?_, ?_, ?_, ?_⟩
  · show H + 3 ≠ H + 4; omega
  · show H + 2 ≠ H + 3 ∧ H + 2 ≠ H + 4; omega
  · show H + 1 ≠ H + 3 ∧ H + 1 ≠ H + 4; omega
  · show B ≠ H + 3 ∧ B ≠ H + 4; omega
  · have he : trsC (q.l ++ [(⟨(cur.length : Int), r⟩ : Tr)]) = trsC q.l ++ [.pointer (some ⟨r, 0, none⟩), .int .i64 cur.length] := by rw [trsC_append]; rfl
    rw [he]
    refine own_keep hown fun k hk => ?_
    cases hk
    exact heap_setCell_other w3 ⟨x.O, i, none⟩ g _ hgO
  · intro y hy
    rcases List.mem_append.1 hy with hy | hy
    · obtain ⟨h3, s, h4⟩ := hA.runs y hy
      have := (hty y.r _ TRn h4 (by decide) (by decide)).trans (show _ = W1.heap[y.r]? from (show W1.heap[y.r]? = _ from h4).symm)
      exact ⟨fun hp => run_other (h3 hp) this, s, run_other h4 this⟩
    · rw [List.mem_singleton.1 hy]
      have hr3 : (w3.setCell ⟨x.O, i, none⟩ (.slice (some ⟨g, 0, none⟩) (q.l.length + 1) cap)).heap[r]? = w2.heap[r]? := by
        rw [heap_setCell_other w3 ⟨x.O, i, none⟩ r _ (by show r ≠ x.O; omega), hgrow.block r (by rw [World.size_alloc]; have := RB.lt hr2; omega) (fun e => by have := hqlt r (.inl e.symm); omega), heap_alloc_old w2 o (RB.lt hr2)]
      have hr5 := run_other hr2 hr3
      have htx : txt cur ⟨(cur.length : Int), r⟩ = [] := by unfold txt; simp
      exact ⟨fun _ => by rw [htx]; exact hr5, _, hr5⟩
  · rw [List.map_append, List.nodup_append]
    refine ⟨hA.nd, by simp, fun k hk k' hk' e => ?_⟩
    simp only [List.map_cons, List.map_nil, List.mem_singleton] at hk'
    have := hqlt k (.inr hk)
    omega
  · exact ⟨hgrow.os.trans hb3.os, hgrow.tape.trans hb3.tape, hgrow.output.trans hb3.output, by simp only [World.size_setCell]; exact Nat.le_trans hb3.size hgrow.size, fun k hk hno => hkeep k hk (fun e => hno (.inl e)) (fun e => hno (.inr e))⟩
  · have hr3 : w3.ownsRow 1 TTs 1 (.slice (some ⟨x.O, 0, none⟩) R.length x.cO) R.length (R.map (·.v)) := own_keep h1.rows fun k hk => by cases hk; exact hkeep3 _ hOl hOq
    have := (hr3.stored i (.slice (some ⟨g, 0, none⟩) (q.l.length + 1) cap)).1
    unfold Rows
    rw [List.length_set, List.map_set]
    exact this
  · refine ⟨?_, hr1⟩
    rcases hat with h | h
    · exact .inl h
    · exact .inr (by rw [h]; exact hsz)
theorem R5.on {x : Mx} {a : Arm} {q : Rw} {cur : List UInt8} {c : UInt8} {M : Int} {i H B r g cap : Nat} {R : List Rw} {W1 W5 W : World} (h : R5 x a q cur c M i H B r g cap R W1 W5) (hb : Below W5.heap.size W5 W) : R5 x a q cur c M i H B r g cap R W1 W :=
  ⟨h.bx.on hb, h.net.on hb, h.tab.on hb, own_keep h.own fun k hk => hb.block k (h.own.lt k hk).2, fun y hy => by
    obtain ⟨h1, s, h2⟩ := h.runs y hy
    have := hb.block y.r (RB.lt h2)
    exact ⟨fun hp => run_other (h1 hp) this, s, run_other h2 this⟩, h.nd, h.tp.trans (TurnsP.of_below hb), own_keep h.rows fun k hk => hb.block k (h.rows.lt k hk).2, h.new⟩
/-- what stands behind a round -/
structure R7 (x : Mx) (arms : List Arm) (a : Arm) (R0 : List Rw) (cur : List UInt8) (c : UInt8) (neg : Nat → Bool) (M : Int) (i B : Nat) (w W7 : World) (R' : List Rw) : Prop where
  rows : Rows W7 x R'
  at' : ArmsAt W7 arms (stAt (i + 1) cur c neg) R'
  tp : TurnsP (Own x R0) w W7
  from' : ∀ k, Has R' k → k < w.heap.size → Has R0 k
  bx : BxIs W7 ⟨w.heap.size + 2, w.heap.size + 1, w.heap.size, w.heap.size + 3, B, w.heap.size + 4⟩ M cur.length c (match fromOf a.t (cur ++ [c]) with | some _ => (i : Int) | none => -1) i (match fromOf a.t (cur ++ [c]) with | some p => (p : Int) | none => 0)
theorem round7 {x : Mx} {arms : List Arm} {R0 R : List Rw} {cur : List UInt8} {c : UInt8} {neg : Nat → Bool} {M : Int} {w W1 W5 w6 : World} {i B r g cap : Nat} {a : Arm} {q : Rw} {e : Ending}
    (h1 : StepI x arms R0 cur c neg M w W1 i R) (hai : arms[i]? = some a) (hqi : R[i]? = some q) (h5 : R5 x a q cur c M i w.heap.size B r g cap R W1 W5)
    (hp : PassIs ⟨w.heap.size + 2, w.heap.size + 1, w.heap.size, w.heap.size + 3, B, w.heap.size + 4⟩ a g cap (q.l ++ [(⟨(cur.length : Int), r⟩ : Tr)]) cur c M i W5 e w6) :
    ∃ l', e = .returned (.slice (some ⟨g, 0, none⟩) l'.length cap) ∧ w6.cell? ⟨x.O, i, none⟩ = some (.slice (some ⟨g, 0, none⟩) (q.l.length + 1) cap) ∧ w6.frozen? ⟨x.O, i, none⟩ = false ∧ W1.heap.size ≤ w6.heap.size ∧
      (∀ (k : Nat) (cs : Array Value) (ty : TypeId), W5.heap[k]? = some (.cells cs ty (0, 0)) → ty = TMa → w6.heap[k]? = some (.cells cs ty (0, 0))) ∧ w6.heap[B]? = some (.cells #[.int .i64 i] TI (0, 0)) ∧ (∃ cs, w6.heap[x.O]? = some (.cells cs TTs (0, 0))) ∧
      R7 x arms a R0 cur c neg M i B w (w6.setCell ⟨x.O, i, none⟩ (.slice (some ⟨g, 0, none⟩) l'.length cap)) (R.set i ⟨.slice (some ⟨g, 0, none⟩) l'.length cap, l'⟩) := by
  obtain ⟨l', rfl, hA', hsub, htp, hbx⟩ := hp
  have hil : i < R.length := (List.getElem?_eq_some_iff.1 hqi).1
  have hA := h1.at'.at' i a q hai hqi
  have hst : stAt i cur c neg i = (cur, neg i) := by simp [stAt]
  rw [hst] at hA
  obtain ⟨csO, hO, _⟩ := own_blk h1.rows
  obtain ⟨csO5, hO5, _⟩ := own_blk h5.rows
  have hw1 := h1.tp.size
  have h15 := h5.tp.size
  have hng : ∀ k, k = g → q.has k ∨ W1.heap.size ≤ k := fun k e => by
    rw [e]; rcases h5.new.1 with h | h
    · exact .inl (.inl h)
    · exact .inr h
  have hnr : ∀ k, k ∈ (q.l ++ [(⟨(cur.length : Int), r⟩ : Tr)]).map (·.r) → q.has k ∨ W1.heap.size ≤ k := fun k hk => by
    rw [List.map_append] at hk
    rcases List.mem_append.1 hk with hk | hk
    · exact .inl (.inr hk)
    · simp only [List.map_cons, List.map_nil, List.mem_singleton] at hk
      exact .inr (by rw [hk]; exact h5.new.2)
  -- the blocks turned from W5 on are of these types
  obtain ⟨csg, hg5, _⟩ := own_blk h5.own
  have hty6 : ∀ (k : Nat) (cs : Array Value) (ty : TypeId), W5.heap[k]? = some (.cells cs ty (0, 0)) → ty ≠ TTr → ty ≠ TRn → ty ≠ TI → w6.heap[k]? = some (.cells cs ty (0, 0)) := fun k cs ty hk n1 n2 n3 => (htp.block k (lt_of_block hk) (by
    rintro (e | e | e | e)
    · exact ty_ne hk hg5 n1 e
    · obtain ⟨y, hy, rfl⟩ := List.mem_map.1 e
      obtain ⟨_, s, h4⟩ := h5.runs y hy
      exact ty_ne hk (show W5.heap[y.r]? = _ from h4) n2 rfl
    · exact ty_ne hk h5.bx.a n3 e
    · exact ty_ne hk h5.bx.f n3 e)).trans hk
  have hO6 := hty6 _ _ _ hO5 (by decide) (by decide) (by decide)
  have hrows6 : Rows w6 x (R.set i ⟨.slice (some ⟨g, 0, none⟩) (q.l.length + 1) cap, []⟩) := own_keep h5.rows fun k hk => by cases hk; exact hO6.trans hO5.symm
  have hc6 := rows_cell hrows6 (i := i) (List.getElem?_set_self hil)
  -- from W1 to the end
  have h17 : TurnsP (fun k => k = x.O ∨ q.has k ∨ k = w.heap.size + 3 ∨ k = w.heap.size + 4) W1 (w6.setCell ⟨x.O, i, none⟩ (.slice (some ⟨g, 0, none⟩) l'.length cap)) :=
    ((h5.tp.mono fun k hk => by
      rcases hk with hk | hk
      · exact .inl hk
      · exact .inr (.inl (.inl hk))).also htp fun k hk hlt => by
      rcases hk with hk | hk | hk | hk
      · rcases hng k hk with h | h
        · exact .inr (.inl h)
        · omega
      · rcases hnr k hk with h | h
        · exact .inr (.inl h)
        · omega
      · exact .inr (.inr (.inl hk))
      · exact .inr (.inr (.inr hk))).also (TurnsP.of_set w6 x.O i _) fun k hk _ => .inl hk
  have hother : ∀ (j : Nat) q', R[j]? = some q' → j ≠ i → ∀ k, q'.has k → (w6.setCell ⟨x.O, i, none⟩ (.slice (some ⟨g, 0, none⟩) l'.length cap)).heap[k]? = W1.heap[k]? := fun j q' hq' hj k hk => by
    obtain ⟨aj, haj⟩ : ∃ aj, arms[j]? = some aj := ⟨_, List.getElem?_eq_getElem (by rw [← h1.at'.len]; exact (List.getElem?_eq_some_iff.1 hq').1)⟩
    obtain ⟨cs, ty, hkb, hkt⟩ := (h1.at'.at' j aj q' haj hq').typed hk
    have hne : ty ≠ TI ∧ ty ≠ TTs := by rcases hkt with rfl | rfl <;> decide
    refine h17.block k (lt_of_block hkb) ?_
    rintro (e | e | e | e)
    · exact ty_ne hkb hO hne.2 e
    · exact h1.at'.apart j i q' q k hq' hqi hj hk e
    · exact ty_ne hkb h1.bx.a hne.1 e
    · exact ty_ne hkb h1.bx.f hne.1 e
  have hq'has : ∀ k, Rw.has ⟨.slice (some ⟨g, 0, none⟩) l'.length cap, l'⟩ k → q.has k ∨ W1.heap.size ≤ k := fun k hk => by
    rcases hk with hk | hk
    · exact hng k (by cases hk; rfl)
    · obtain ⟨y, hy, rfl⟩ := List.mem_map.1 hk
      exact hnr _ (List.mem_map.2 ⟨y, hsub y hy, rfl⟩)
  have hget : ∀ (j : Nat) q', (R.set i ⟨.slice (some ⟨g, 0, none⟩) l'.length cap, l'⟩)[j]? = some q' → (j = i ∧ q' = ⟨.slice (some ⟨g, 0, none⟩) l'.length cap, l'⟩) ∨ (j ≠ i ∧ R[j]? = some q') := fun j q' hq' => by
    by_cases e : j = i
    · subst e
      rw [List.getElem?_set_self hil] at hq'
      cases hq'; exact .inl ⟨rfl, rfl⟩
    · rw [List.getElem?_set_ne (Ne.symm e)] at hq'
      exact .inr ⟨e, hq'⟩
  have hHas : ∀ k, Has (R.set i ⟨.slice (some ⟨g, 0, none⟩) l'.length cap, l'⟩) k → Has R k ∨ W1.heap.size ≤ k := fun k ⟨q', hq', hk⟩ => by
    obtain ⟨j, hj, e⟩ := List.mem_iff_getElem.1 hq'
    rcases hget j q' ((List.getElem?_eq_getElem hj).trans (by rw [e])) with ⟨rfl, rfl⟩ | ⟨hne, h⟩
    · rcases hq'has k hk with h | h
      · exact .inl ⟨q, List.mem_of_getElem? hqi, h⟩
      · exact .inr h
    · exact .inl ⟨q', List.mem_of_getElem? h, hk⟩
  refine ⟨l', rfl, hc6, frozen_of_row _ _ _ _ _ hO6, Nat.le_trans h15 htp.size, fun k cs ty hk hty => hty6 k cs ty hk (by rw [hty]; decide) (by rw [hty]; decide) (by rw [hty]; decide), hbx.i, ⟨_, hO6⟩, ⟨?_, ⟨?_, ?_, ?_⟩, ?_, ?_, ?_⟩⟩
  · have := (hrows6.stored i (.slice (some ⟨g, 0, none⟩) l'.length cap)).1
    rw [List.map_set, List.set_set, List.length_set] at this
    unfold Rows
    rw [List.map_set, List.length_set]
    exact this
  · rw [List.length_set]; exact h1.at'.len
  · intro j aj q' haj hq'
    rcases hget j q' hq' with ⟨rfl, rfl⟩ | ⟨hne, h⟩
    · rw [hai] at haj; cases haj
      have hs : stAt (j + 1) cur c neg j = (cur ++ [c], false) := by simp [stAt]
      rw [hs]
      refine hA'.keep fun k hk => ?_
      obtain ⟨cs, ty, hkb, hkt⟩ := hA'.typed hk
      exact heap_setCell_other w6 ⟨x.O, j, none⟩ k _ (ty_ne hkb hO6 (by rcases hkt with rfl | rfl <;> decide))
    · have hs : stAt (i + 1) cur c neg j = stAt i cur c neg j := by
        simp only [stAt]
        by_cases h2 : j < i
        · rw [if_pos h2, if_pos (by omega)]
        · rw [if_neg h2, if_neg (by omega)]
      rw [hs]
      exact (h1.at'.at' j aj q' haj h).keep (hother j q' h hne)
  · intro j j' q1 q2 k hq1 hq2 hjj hk1 hk2
    rcases hget j q1 hq1 with ⟨rfl, rfl⟩ | ⟨hne1, hh1⟩
    · rcases hget j' q2 hq2 with ⟨rfl, rfl⟩ | ⟨hne2, hh2⟩
      · exact hjj rfl
      · obtain ⟨aj, haj⟩ : ∃ aj, arms[j']? = some aj := ⟨_, List.getElem?_eq_getElem (by rw [← h1.at'.len]; exact (List.getElem?_eq_some_iff.1 hh2).1)⟩
        have hlt := (h1.at'.at' j' aj q2 haj hh2).lt hk2
        rcases hq'has k hk1 with h | h
        · exact h1.at'.apart j j' q q2 k hqi hh2 hjj h hk2
        · omega
    · rcases hget j' q2 hq2 with ⟨rfl, rfl⟩ | ⟨hne2, hh2⟩
      · obtain ⟨aj, haj⟩ : ∃ aj, arms[j]? = some aj := ⟨_, List.getElem?_eq_getElem (by rw [← h1.at'.len]; exact (List.getElem?_eq_some_iff.1 hh1).1)⟩
        have hlt := (h1.at'.at' j aj q1 haj hh1).lt hk1
        rcases hq'has k hk2 with h | h
        · exact h1.at'.apart j j' q1 q k hh1 hqi hjj hk1 h
        · omega
      · exact h1.at'.apart j j' q1 q2 k hh1 hh2 hjj hk1 hk2
  · refine h1.tp.also h17 fun k hk hlt => ?_
    rcases hk with hk | hk | hk | hk
    · exact .inl hk
    · exact .inr (h1.from' k ⟨q, List.mem_of_getElem? hqi, hk⟩ hlt)
    · omega
    · omega
  · intro k hk hlt
    rcases hHas k hk with h | h
    · exact h1.from' k h hlt
    · omega
  · refine hbx.keep fun k cs ty hk hty => (heap_setCell_other w6 ⟨x.O, i, none⟩ k _ (ty_ne hk hO6 (by rcases hty with rfl | rfl <;> decide))).trans hk
end Go.Proofs.YtfhggnbnbopkkaaDoor
