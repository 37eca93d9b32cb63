/- A hub: its streams; New, stream. -/
import Derived.Test.YtlddeagolhdieaaHubFrom
import Derived.BigRegion
namespace Go.Proofs.Ytlddeagolhdieaa
open Go.RowKit Go.MuLone Go.Conc

abbrev THub : TypeId := 66
abbrev TWa : TypeId := 87

/-- a stream's record -/
structure StR where
  b : Nat
  l : List Hap
  cl : Bool
  v : Value
  c : Nat
def hubC (n : Nat) (S : Nat → StR) : Array Value := ((List.range 8).map fun j => if j < n then Value.pointer (some ⟨(S j).b, 0, none⟩) else .pointer none).toArray
/-- a hub at h, its first n streams made -/
structure Hu (w : World) (h B n : Nat) (S : Nat → StR) : Prop where
  blk : w.heap[h]? = some (.cells (hubC n S) THub (0, 0))
  st : ∀ j, j < n → St w B (S j).b (S j).l (S j).cl (S j).v (S j).c
  db : ∀ i j, i < n → j < n → i ≠ j → (S i).b ≠ (S j).b
  dc : ∀ i j, i < n → j < n → i ≠ j → (S i).c ≠ (S j).c
  dv : ∀ i j, i < n → j < n → i ≠ j → ∀ g, (S i).v.ownBlock = some g → (S j).v.ownBlock ≠ some g
  ge : B ≤ h
theorem hubC_at {n i : Nat} (S : Nat → StR) (h : i < 8) : (hubC n S)[i]? = some (if i < n then Value.pointer (some ⟨(S i).b, 0, none⟩) else .pointer none) := by simp [hubC, h]

theorem St.off {w w' : World} {B b c : Nat} {l : List Hap} {cl : Bool} {v : Value} {S : List Nat} (h : St w B b l cl v c) (ho : Off S w w') (h1 : b ∉ S) (h2 : c ∉ S) (h3 : ∀ g, v.ownBlock = some g → g ∉ S) : St w' B b l cl v c := by
  refine ⟨(ho.block b h.lt h1).trans h.blk, ?_, ?_, h.ge, h.lim⟩
  · refine ⟨h.own.1, ?_⟩
    rcases h.own.2 with h0 | ⟨g, cap, cur, rfl, hB, hg, h4⟩
    · exact .inl h0
    · exact .inr ⟨g, cap, cur, rfl, hB, (ho.block g (lt_of_block hg) (h3 g rfl)).trans hg, h4⟩
  · obtain ⟨s, r, hc⟩ := h.chn
    exact ⟨s, r, (ho.block c (lt_of_block hc) h2).trans hc⟩
theorem St.on {w w' : World} {B b c : Nat} {l : List Hap} {cl : Bool} {v : Value} (h : St w B b l cl v c) (hb : Below w.heap.size w w') : St w' B b l cl v c := h.off (Off.of_below (S := []) hb) (by simp) (by simp) (fun _ _ => by simp)
theorem own_lt {w : World} {B n g : Nat} {v : Value} {xs : List Value} (h : w.ownsRow B THp 3 v n xs) (e : v.ownBlock = some g) : g < w.heap.size ∧ B ≤ g := by
  rcases h.2 with ⟨rfl, _⟩ | ⟨g', cap, cur, rfl, hB, hg, _⟩
  · cases e
  · cases e; exact ⟨lt_of_block hg, hB⟩
theorem Hu.on {w w' : World} {h B n : Nat} {S : Nat → StR} (H : Hu w h B n S) (hb : Below w.heap.size w w') : Hu w' h B n S := ⟨(hb.block h (lt_of_block H.blk)).trans H.blk, fun j hj => (H.st j hj).on hb, H.db, H.dc, H.dv, H.ge⟩
theorem hub_no {w : World} {h : Nat} {X : Array Value} {fr : Nat × Nat} (e : w.heap[h]? = some (.cells X THub fr)) : (∀ cur fr', w.heap[h]? ≠ some (.cells cur THp fr')) ∧ (∀ cur fr', w.heap[h]? ≠ some (.cells cur TSt fr')) := by
  constructor <;> (intro cur fr' e2; rw [e] at e2; injection e2 with e2; injection e2 with _ e2 _; exact absurd e2 (by decide))

/-- one stream more -/
def newS (S : Nat → StR) (i n : Nat) : Nat → StR := fun j => if j = i then ⟨n + 1, [], false, .slice none 0 0, n⟩ else S j
def newW (w : World) (h i : Nat) : World := ((w.setCell ⟨h, i, none⟩ (.pointer (some ⟨w.heap.size + 1, 0, none⟩))).alloc (.chan 0 #[] false 0 0 false)).alloc (.cells (stC (.slice none 0 0) 0 false w.heap.size) TSt)
theorem Hu.more {w : World} {h B i : Nat} {S : Nat → StR} (H : Hu w h B i S) (hi : i < 8) (hB : B ≤ w.heap.size) : Hu (newW w h i) h B (i + 1) (newS S i w.heap.size) ∧ Off [h] w (newW w h i) := by
  have hl := lt_of_block H.blk
  have hset := heap_setCell_same _ h i _ _ (.pointer (some ⟨w.heap.size + 1, 0, none⟩)) H.blk
  have hos := off_set w h i (.pointer (some ⟨w.heap.size + 1, 0, none⟩))
  obtain ⟨w1, hw1⟩ : ∃ w1, w.setCell ⟨h, i, none⟩ (.pointer (some ⟨w.heap.size + 1, 0, none⟩)) = w1 := ⟨_, rfl⟩
  have hsz : w1.heap.size = w.heap.size := by rw [← hw1]; simp
  unfold newW
  rw [hw1] at hset hos ⊢
  have b1 := below_new w1 (.chan 0 #[] false 0 0 false)
  have b2 := below_new (w1.alloc (.chan 0 #[] false 0 0 false)) (.cells (stC (.slice none 0 0) 0 false w.heap.size) TSt)
  have n1 := heap_alloc_new w1 (.chan 0 #[] false 0 0 false)
  have n2 := heap_alloc_new (w1.alloc (.chan 0 #[] false 0 0 false)) (.cells (stC (.slice none 0 0) 0 false w.heap.size) TSt)
  rw [World.size_alloc] at n2 b2
  rw [hsz] at b1 b2 n1 n2
  have hb : Below w.heap.size w1 ((w1.alloc (.chan 0 #[] false 0 0 false)).alloc (.cells (stC (.slice none 0 0) 0 false w.heap.size) TSt)) := b1.trans (b2.mono (by omega))
  have n1' := (b2.block w.heap.size (by omega)).trans n1
  generalize (w1.alloc (.chan 0 #[] false 0 0 false)).alloc (.cells (stC (.slice none 0 0) 0 false w.heap.size) TSt) = w2 at *
  have hh := (hb.block h hl).trans hset
  have ho : Off [h] w w2 := hos.trans (Off.of_below (S := []) (by rw [hsz]; exact hb)) (fun k hk => by cases hk)
  refine ⟨⟨?_, fun j hj => ?_, fun j k hj hk hne => ?_, fun j k hj hk hne => ?_, fun j k hj hk hne g hg => ?_, H.ge⟩, ho⟩
  · rw [hh]
    have : (hubC i S).setIfInBounds i (.pointer (some ⟨w.heap.size + 1, 0, none⟩)) = hubC (i + 1) (newS S i w.heap.size) := by
      apply Array.ext
      · simp [hubC]
      · intro j h1 h2
        have h3 : j < 8 := by simpa [hubC] using h2
        rw [Array.getElem_setIfInBounds (by simpa [hubC] using h3)]
        by_cases e : i = j
        · subst e; simp [hubC, newS]
        · rw [if_neg e]
          have e1 : (j < i + 1) = (j < i) := propext ⟨fun _ => by omega, fun _ => by omega⟩
          simp [hubC, newS, Ne.symm e, e1]
    rw [this]
  · unfold newS
    by_cases e : j = i
    · subst e
      rw [if_pos rfl]
      exact ⟨n2, World.ownsRow_nil _ _ _ _, ⟨0, 0, n1'⟩, ⟨by show B ≤ w.heap.size + 1; omega, hB⟩, Nat.zero_le _⟩
    · rw [if_neg e]
      have hs := H.st j (by omega)
      refine hs.off ho ?_ ?_ (fun g hg => ?_)
      · simp only [List.mem_singleton]; intro e2; have := hs.blk; rw [e2] at this; exact (hub_no H.blk).2 _ _ this
      · simp only [List.mem_singleton]; intro e2; obtain ⟨s, r, hc⟩ := hs.chn; rw [e2, H.blk] at hc; cases hc
      · simp only [List.mem_singleton]; intro e2
        rcases hs.own.2 with ⟨e3, _⟩ | ⟨g', cap, cur, e3, _, hg', _⟩
        · rw [e3] at hg; cases hg
        · rw [e3] at hg; cases hg; have e4 : g' = h := e2; rw [e4] at hg'; exact (hub_no H.blk).1 _ _ hg'
  · unfold newS
    by_cases e : j = i <;> by_cases e2 : k = i
    · omega
    · rw [if_pos e, if_neg e2]; have := (H.st k (by omega)).lt; show w.heap.size + 1 ≠ _; omega
    · rw [if_neg e, if_pos e2]; have := (H.st j (by omega)).lt; show _ ≠ w.heap.size + 1; omega
    · rw [if_neg e, if_neg e2]; exact H.db j k (by omega) (by omega) hne
  · unfold newS
    by_cases e : j = i <;> by_cases e2 : k = i
    · omega
    · rw [if_pos e, if_neg e2]; have := (H.st k (by omega)).ltc; show w.heap.size ≠ _; omega
    · rw [if_neg e, if_pos e2]; have := (H.st j (by omega)).ltc; show _ ≠ w.heap.size; omega
    · rw [if_neg e, if_neg e2]; exact H.dc j k (by omega) (by omega) hne
  · unfold newS at hg ⊢
    by_cases e : j = i <;> by_cases e2 : k = i
    · omega
    · rw [if_pos e] at hg; cases hg
    · rw [if_pos e2]; intro h; cases h
    · rw [if_neg e] at hg; rw [if_neg e2]; exact H.dv j k (by omega) (by omega) hne g hg

def NewIs (w : World) (e : Ending) (w' : World) : Prop := ∃ S, e = .returned (.pointer (some ⟨w.heap.size, 0, none⟩)) ∧ Hu w' w.heap.size w.heap.size 8 S ∧ (∀ j, j < 8 → (S j).l = [] ∧ (S j).cl = false ∧ (S j).v = .slice none 0 0) ∧ Below w.heap.size w w'

set_option maxRecDepth 100000 in
set_option maxHeartbeats 4000000 in
theorem new_any (w : World) : Calls Try.prog 10 #[] w (NewIs w) := by
  have hmc := mkCh
  have h0 : Hu (w.alloc (.cells (hubC 0 (fun _ => ⟨0, [], false, .slice none 0 0, 0⟩)) THub)) w.heap.size w.heap.size 0 (fun _ => ⟨0, [], false, .slice none 0 0, 0⟩) := ⟨heap_alloc_new _ _, fun j hj => by omega, fun i j hi => by omega, fun i j hi => by omega, fun i j hi => by omega, Nat.le_refl _⟩
  have b0 := below_new w (.cells (hubC 0 (fun _ => ⟨0, [], false, .slice none 0 0, 0⟩)) THub)
  have H0 := Lib.hid (And.intro h0 b0)
  clear h0 b0
  go_enter Try.func10, Try.ntmps10
  go_wp2_with fail
  change Code.wp _ _ _ _ (w.alloc (.cells (hubC 0 (fun _ => ⟨0, [], false, .slice none 0 0, 0⟩)) THub))
  generalize w.alloc (.cells (hubC 0 (fun _ => ⟨0, [], false, .slice none 0 0, 0⟩)) THub) = W0 at *
  go_loopg [5, 2] (9 : Nat) (fun k v5 v2 wr => ∃ (i : Nat) (S : Nat → StR), v5 = .int .i64 i ∧ i ≤ 8 ∧ 8 - i < k ∧ Hid (Hu wr w.heap.size w.heap.size i S ∧ Below w.heap.size w wr ∧ (∀ j, j < i → (S j).l = [] ∧ (S j).cl = false ∧ (S j).v = .slice none 0 0)))
  case atStart => exact ⟨0, _, rfl, by omega, by omega, Lib.hid ⟨H0.out.1, H0.out.2, fun j hj => by omega⟩⟩
  case round =>
    clear H0
    obtain ⟨i, S, rfl, hi, hik, HS⟩ := hrel
    by_cases hlt : i < 8
    · have h1 : (i : Int) < 8 := by omega
      have h2 : (0 : Int) ≤ i := by omega
      have hl := lt_of_block HS.out.1.blk
      have hle := HS.out.2.1.size
      have c1 : wr.cell? ⟨w.heap.size, i, none⟩ = some (.pointer none) := by rw [cell_of_row _ _ i _ _ _ HS.out.1.blk, hubC_at S hlt, if_neg (by omega)]
      have f1 : wr.frozen? ⟨w.heap.size, i, none⟩ = false := frozen_of_row _ _ i _ _ HS.out.1.blk
      go_wp2_with fail
      have HM := Lib.hid (HS.out.1.more hlt hle)
      go_region
      clear c1 f1
      have HD : Hid (Below (newW wr w.heap.size i).heap.size (newW wr w.heap.size i) (newW wr w.heap.size i).drew) := Lib.hid ⟨rfl, rfl, rfl, Nat.le_refl _, fun _ _ => rfl⟩
      change Exit.inBlock _ _ _ _ (newW wr w.heap.size i).drew
      generalize newW wr w.heap.size i = w2 at *
      generalize w2.drew = w3 at *
      have hf2 : ∀ j, j < i + 1 → (newS S i wr.heap.size j).l = [] ∧ (newS S i wr.heap.size j).cl = false ∧ (newS S i wr.heap.size j).v = .slice none 0 0 := fun j hj => by
        unfold newS
        by_cases e : j = i
        · rw [if_pos e]; exact ⟨rfl, rfl, rfl⟩
        · rw [if_neg e]; exact HS.out.2.2 j (by omega)
      have HF := Lib.hid hf2
      clear hf2
      go_wp2_with fail
      go_roundg (gk - 1)
      case measure => omega
      case rel => exact ⟨i + 1, _, by go_num, by omega, by omega, Lib.hid ⟨HM.out.1.on HD.out, (HS.out.2.1.trans (HM.out.2.below hle (fun k hk => by simp only [List.mem_singleton] at hk; omega))).trans (HD.out.mono (by have := HM.out.2.size; omega)), HF.out⟩⟩
    · obtain rfl : i = 8 := by omega
      go_wp2_with fail
      go_ret
      exact ⟨S, rfl, HS.out.1, HS.out.2.2, HS.out.2.1⟩
end Go.Proofs.Ytlddeagolhdieaa
