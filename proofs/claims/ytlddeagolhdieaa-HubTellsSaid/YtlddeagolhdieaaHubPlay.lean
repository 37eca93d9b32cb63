/- HubPlays: what stands while it is played. -/
import Derived.Test.YtlddeagolhdieaaHubGreat
namespace Go.Proofs.Ytlddeagolhdieaa
open Go.RowKit Go.MuLone Go.Conc

set_option maxRecDepth 100000
set_option maxHeartbeats 4000000
abbrev TPw : TypeId := 43
/-- a watch under way: its block, its dialogue, its place, the place that is written down of it -/
structure Wt where
  g : Nat
  t : Nat
  p : Nat
  a : Nat
structure Play (w wr : World) (h B g4 : Nat) (S : Nat → StR) (D : Nat → DT) (v5 v6 v7 : Value) (K : List Wt) : Prop where
  hub : Hu wr h B 8 S
  box : wr.heap[g4]? = some (.cells (docC D) TRh (0, 0))
  di : DI wr D
  dis : ∀ i j, i < 8 → j < 8 → ∀ ad, (D j).A = some ad → (S i).v.ownBlock ≠ some ad.block
  r5 : wr.ownsRow B TPw 1 v5 K.length (K.map fun q => Value.pointer (some ⟨q.g, 0, none⟩))
  r6 : wr.ownsRow B 3 1 v6 K.length (K.map fun q => Value.int .i64 q.t)
  r7 : wr.ownsRow B 3 1 v7 K.length (K.map fun q => Value.int .i64 q.a)
  d67 : ∀ g, v6.ownBlock = some g → v7.ownBlock ≠ some g
  wat : ∀ (k : Nat) q, K[k]? = some q → q.t < 8 ∧ WaB wr q.g (S q.t).b q.p ∧ q.p ≤ (S q.t).l.length ∧ B ≤ q.g
  wdis : ∀ (i j : Nat) q r, K[i]? = some q → K[j]? = some r → i ≠ j → q.g ≠ r.g
  up : Below w.heap.size w wr
  ge : w.heap.size ≤ B ∧ B ≤ g4 ∧ B ≤ wr.heap.size
theorem owns_on {w w' : World} {B n size : Nat} {e : TypeId} {v : Value} {xs : List Value} (h : w.ownsRow B e size v n xs) (hb : Below w.heap.size w w') : w'.ownsRow B e size v n xs := by
  refine ⟨h.1, ?_⟩
  rcases h.2 with h0 | ⟨g, cap, cur, rfl, hB, hg, h1⟩
  · exact .inl h0
  · exact .inr ⟨g, cap, cur, rfl, hB, (hb.block g (lt_of_block hg)).trans hg, h1⟩
theorem Play.on {w wr w' : World} {h B g4 : Nat} {S : Nat → StR} {D : Nat → DT} {v5 v6 v7 : Value} {K : List Wt} (P : Play w wr h B g4 S D v5 v6 v7 K) (hb : Below wr.heap.size wr w') : Play w w' h B g4 S D v5 v6 v7 K :=
  ⟨P.hub.on hb, (hb.block _ (lt_of_block P.box)).trans P.box, P.di.on hb, P.dis, owns_on P.r5 hb, owns_on P.r6 hb, owns_on P.r7 hb, P.d67,
    fun k q hk => ⟨(P.wat k q hk).1, (P.wat k q hk).2.1.on hb, (P.wat k q hk).2.2⟩, P.wdis, P.up.trans (hb.mono P.up.size), P.ge.1, P.ge.2.1, Nat.le_trans P.ge.2.2 hb.size⟩
/-- an own row of another kind stands where blocks of a stream are turned -/
theorem owns_off {w w' : World} {B n size : Nat} {e : TypeId} {v : Value} {xs : List Value} {L : List Nat} (h : w.ownsRow B e size v n xs) (ho : Off L w w') (hL : ∀ g ∈ L, ∀ cur fr, w.heap[g]? ≠ some (.cells cur e fr)) : w'.ownsRow B e size v n xs := by
  refine ⟨h.1, ?_⟩
  rcases h.2 with h0 | ⟨g, cap, cur, rfl, hB, hg, h1⟩
  · exact .inl h0
  · exact .inr ⟨g, cap, cur, rfl, hB, (ho.block g (lt_of_block hg) (fun hk => hL g hk _ _ hg)).trans hg, h1⟩
theorem ownS_no {w : World} {h B i : Nat} {S : Nat → StR} {e : TypeId} (H : Hu w h B 8 S) (hi : i < 8) (t2 : e ≠ TSt) (t3 : e ≠ THp) : ∀ g ∈ ownS (S i), ∀ cur fr, w.heap[g]? ≠ some (.cells cur e fr) := fun _ hg _ _ he => ownS_ty H hi he t2 t3 hg
/-- what a call on dialogue i of the hub leaves standing: all but the hub, whose lists are told by the call -/
theorem DI.off {w w' : World} {h B i : Nat} {S : Nat → StR} {D : Nat → DT} (d : DI w D) (H : Hu w h B 8 S) (hi : i < 8) (dis : ∀ i j, i < 8 → j < 8 → ∀ ad, (D j).A = some ad → (S i).v.ownBlock ≠ some ad.block) (ho : Off (ownS (S i)) w w') : DI w' D := by
  have hno : ∀ j, j < 8 → ∀ ad, (D j).A = some ad → ad.block ∉ ownS (S i) := fun j hj ad e hk => by
      obtain ⟨cur, fr, hcur⟩ := d.ty j hj _ e
      have hs := H.st i hi
      simp only [ownS, List.mem_append, List.mem_cons, List.not_mem_nil, or_false] at hk
      rcases hk with (hk | hk) | hk
      · rw [hk, hs.blk] at hcur; injection hcur with hcur; injection hcur with _ hcur _; exact absurd hcur (by decide)
      · obtain ⟨s, r, hch⟩ := hs.chn; rw [hk, hch] at hcur; cases hcur
      · exact dis i j hi hj _ e (by simpa [eq_comm] using hk)
  refine ⟨d.nil, d.flat, d.room, d.lim, fun j hj hne => ?_, fun j hj ad e => ?_⟩
  · obtain ⟨g, o, e, hg, hc⟩ := d.lies j hj hne
    exact ⟨g, o, e, Nat.lt_of_lt_of_le hg ho.size, fun k u hu => (World.cell?_of_block (a := ⟨g, o + k, none⟩) (ho.block g hg (hno j hj _ e))).trans (hc k u hu)⟩
  · obtain ⟨cur, fr, hc⟩ := d.ty j hj ad e
    exact ⟨cur, fr, (ho.block _ (lt_of_block hc) (hno j hj ad e)).trans hc⟩
/-- behind a call on dialogue t of the hub -/
theorem Play.turn {w wr w2 : World} {h B g4 t : Nat} {S : Nat → StR} {D : Nat → DT} {v5 v6 v7 : Value} {K : List Wt} {l' : List Hap} {cl' : Bool} {v : Value} {c : Nat} (P : Play w wr h B g4 S D v5 v6 v7 K) (ht : t < 8)
    (H' : Hu w2 h B 8 (upd S t ⟨(S t).b, l', cl', v, c⟩)) (ho : Off (ownS (S t)) wr w2) (hv : v.ownBlock = (S t).v.ownBlock ∨ ∃ g, v.ownBlock = some g ∧ wr.heap.size ≤ g) (hl : (S t).l.length ≤ l'.length) :
    Play w w2 h B g4 (upd S t ⟨(S t).b, l', cl', v, c⟩) D v5 v6 v7 K := by
  have hbl : ∀ j, (upd S t ⟨(S t).b, l', cl', v, c⟩ j).b = (S j).b := fun j => by
    unfold upd
    by_cases e : j = t
    · rw [if_pos e, e]
    · rw [if_neg e]
  refine ⟨H', (ho.block _ (lt_of_block P.box) (ownS_ty P.hub ht P.box (by decide) (by decide))).trans P.box, P.di.off P.hub ht P.dis ho, fun i j hi hj ad e => ?_,
    owns_off P.r5 ho (ownS_no P.hub ht (by decide) (by decide)), owns_off P.r6 ho (ownS_no P.hub ht (by decide) (by decide)), owns_off P.r7 ho (ownS_no P.hub ht (by decide) (by decide)), P.d67, fun k q hk => ?_, P.wdis,
    P.up.trans (ho.below (Nat.le_trans P.ge.1 P.ge.2.2) (fun k hk => Nat.le_trans P.ge.1 (ownS_ge P.hub ht k hk))), P.ge.1, P.ge.2.1, Nat.le_trans P.ge.2.2 ho.size⟩
  · by_cases ei : i = t
    · subst ei
      rw [upd_same]
      rcases hv with h1 | ⟨g, h1, h2⟩
      · show v.ownBlock ≠ _
        rw [h1]; exact P.dis i j hi hj ad e
      · show v.ownBlock ≠ _
        rw [h1]
        intro e2
        injection e2 with e2
        obtain ⟨cur, fr, hc⟩ := P.di.ty j hj ad e
        have := lt_of_block hc
        omega
    · rw [upd_other _ _ ei]; exact P.dis i j hi hj ad e
  · obtain ⟨w1, w2', w3, w4⟩ := P.wat k q hk
    refine ⟨w1, ?_, ?_, w4⟩
    · rw [hbl]; exact w2'.off P.hub ht ho
    · by_cases e : q.t = t
      · rw [e, upd_same]; rw [e] at w3; exact Nat.le_trans w3 hl
      · rw [upd_other _ _ e]; exact w3
theorem off_setRow (w : World) (g : Nat) (cs : Array Value) : Off [g] w (w.setRow g cs) :=
  ⟨rfl, rfl, rfl, by rw [size_setRow]; exact Nat.le_refl _, fun k _ hk => setRow_other _ _ _ _ (fun e => hk (by simp [e]))⟩
/-- behind the document's call, its hub stored -/
theorem Play.doc {w wr w2 : World} {h B g4 : Nat} {S : Nat → StR} {D D' : Nat → DT} {v5 v6 v7 : Value} {K : List Wt} (P : Play w wr h B g4 S D v5 v6 v7 K) (hb : Below wr.heap.size wr w2) (hd : DI w2 D')
    (hA : ∀ j, j < 8 → (D' j).A = (D j).A ∨ ∀ ad, (D' j).A = some ad → wr.heap.size ≤ ad.block) : Play w (w2.setRow g4 (docC D')) h B g4 S D' v5 v6 v7 K := by
  have P2 := P.on hb
  have ho := off_setRow w2 g4 (docC D')
  have hne : ∀ k Y ty fr, w2.heap[k]? = some (.cells Y ty fr) → ty ≠ TRh → k ∉ [g4] := fun k Y ty fr hk hn e => by
    simp only [List.mem_singleton] at e
    rw [e, P2.box] at hk
    injection hk with hk; injection hk with _ hk _
    exact hn hk.symm
  have hrow : ∀ e : TypeId, e ≠ TRh → ∀ g ∈ [g4], ∀ cur fr, w2.heap[g]? ≠ some (.cells cur e fr) := fun e he g hg cur fr hk => hne g _ _ _ hk he hg
  refine ⟨P2.hub.far ho P2.box (by decide) (by decide) (by decide), setRow_heap _ _ _ _ _ _ P2.box, ⟨hd.nil, hd.flat, hd.room, hd.lim, fun j hj hn => ?_, fun j hj ad e => ?_⟩, fun i j hi hj ad e => ?_,
    owns_off P2.r5 ho (hrow _ (by decide)), owns_off P2.r6 ho (hrow _ (by decide)), owns_off P2.r7 ho (hrow _ (by decide)), P2.d67, fun k q hk => ?_, P2.wdis,
    P2.up.trans (ho.below P2.up.size (fun k hk => by simp only [List.mem_singleton] at hk; have := P2.ge.1; have := P2.ge.2.1; omega)), P2.ge.1, P2.ge.2.1, Nat.le_trans P2.ge.2.2 ho.size⟩
  · obtain ⟨g, o, e, hg, hc⟩ := hd.lies j hj hn
    obtain ⟨cur, fr, ht⟩ := hd.ty j hj _ e
    exact ⟨g, o, e, Nat.lt_of_lt_of_le hg ho.size, fun k u hu => (World.cell?_of_block (a := ⟨g, o + k, none⟩) (ho.block g hg (hne g _ _ _ ht (by decide)))).trans (hc k u hu)⟩
  · obtain ⟨cur, fr, ht⟩ := hd.ty j hj _ e
    exact ⟨cur, fr, (ho.block _ (lt_of_block ht) (hne _ _ _ _ ht (by decide))).trans ht⟩
  · rcases hA j hj with h1 | h1
    · rw [h1] at e; exact P.dis i j hi hj ad e
    · intro e2
      have h2 := h1 ad e
      have := (own_lt (P.hub.st i hi).own e2).1
      omega
  · obtain ⟨w1, w3, w4, w5⟩ := P2.wat k q hk
    exact ⟨w1, (ho.block _ (lt_of_block w3) (hne _ _ _ _ w3 (by decide))).trans w3, w4, w5⟩
def D0 : Nat → DT := fun _ => ⟨none, [], 0, false⟩
/-- at the start -/
theorem Play.start {w w0 w1 : World} {S : Nat → StR} (h0 : Below w.heap.size w w0) (H : Hu w1 w0.heap.size w0.heap.size 8 S) (hb : Below w0.heap.size w0 w1) :
    Play w (w1.alloc (.cells docZ TRh)) w0.heap.size w0.heap.size w1.heap.size S D0 (.slice none 0 0) (.slice none 0 0) (.slice none 0 0) [] := by
  have b1 := below_new w1 (.cells docZ TRh)
  have hn : ∀ e : TypeId, (w1.alloc (.cells docZ TRh)).ownsRow w0.heap.size e 1 (.slice none 0 0) 0 [] := fun e => ⟨by simp, .inl ⟨rfl, rfl⟩⟩
  exact ⟨H.on b1, heap_alloc_new w1 _, ⟨fun j _ _ => ⟨rfl, rfl⟩, fun j _ ad e => (by cases e), fun j _ => Nat.le_refl _, fun j _ => Nat.zero_le _, fun j _ hn => absurd rfl hn, fun j _ ad e => (by cases e)⟩,
    fun i j _ _ ad e => (by cases e), hn _, hn _, hn _, fun g e => (by cases e), fun k q hk => (by simp at hk), fun i j q r hq => (by simp at hq),
    (h0.trans (hb.mono h0.size)).trans (b1.mono (Nat.le_trans h0.size hb.size)), h0.size, hb.size, Nat.le_trans hb.size b1.size⟩
end Go.Proofs.Ytlddeagolhdieaa
