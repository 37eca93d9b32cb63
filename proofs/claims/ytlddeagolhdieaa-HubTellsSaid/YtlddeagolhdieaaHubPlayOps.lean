/- HubPlays: the calls, with what stands behind them. -/
import Derived.Test.YtlddeagolhdieaaHubPlay
import Derived.Laws.OwnMore
namespace Go.Proofs.Ytlddeagolhdieaa
open Go.RowKit Go.MuLone Go.Conc

set_option maxRecDepth 100000
set_option maxHeartbeats 4000000
abbrev TOp : TypeId := 36
/-- the copies of ops stand -/
def Keep (w w' : World) : Prop := ∀ (k : Nat) (cs : Array Value) (fr : Nat × Nat), w.heap[k]? = some (.cells cs TOp fr) → w'.heap[k]? = some (.cells cs TOp fr)
theorem Keep.below {w w' : World} (hb : Below w.heap.size w w') : Keep w w' := fun k _ _ h => (hb.block k (lt_of_block h)).trans h
theorem Keep.off {w w' : World} {L : List Nat} (ho : Off L w w') (hL : ∀ g ∈ L, ∀ cs fr, w.heap[g]? ≠ some (.cells cs TOp fr)) : Keep w w' := fun k _ _ h => (ho.block k (lt_of_block h) (fun hk => hL k hk _ _ h)).trans h
theorem no_ty {w : World} {g : Nat} {X : Array Value} {ty ty2 : TypeId} {fr : Nat × Nat} (h : w.heap[g]? = some (.cells X ty fr)) (hne : ty ≠ ty2) : ∀ cs fr', w.heap[g]? ≠ some (.cells cs ty2 fr') := fun cs fr' e => by
  rw [h] at e; injection e with e; injection e with _ e _; exact hne e

/-- the lists behind an Add -/
def AddAll (S' : Nat → StR) (D : Nat → DT) (talk : Int) (m : List Hap) : Prop := ∀ j : Nat, j < 8 → (S' j).cl = (D j).cl ∧ (S' j).l = (if (j : Int) = talk then addL (D j).l (D j).cl m else (D j).l)
def Agree (S : Nat → StR) (D : Nat → DT) : Prop := ∀ j, j < 8 → (S j).l = (D j).l ∧ (S j).cl = (D j).cl
theorem addL_len (l : List Hap) (cl : Bool) (m : List Hap) : l.length ≤ (addL l cl m).length := by
  unfold addL
  repeat' split
  all_goals simp
theorem play_add {w wr : World} {h B g4 : Nat} {S : Nat → StR} {D : Nat → DT} {v5 v6 v7 : Value} {K : List Wt} (P : Play w wr h B g4 S D v5 v6 v7 K) (hE : Agree S D) (talk : Int) (A : Option Addr) (m : List Hap) (cap : Nat) (hA : HIn w A m) (hm : m.length ≤ 1000000000000) :
    Calls Try.prog 11 #[.pointer (some ⟨h, 0, none⟩), .int .i64 talk, .slice A m.length cap] wr fun e w2 => e = .returned (.int .i64 (addE2 D talk m)) ∧ ∃ S', Play w w2 h B g4 S' D v5 v6 v7 K ∧ AddAll S' D talk m ∧ Keep wr w2 := by
  by_cases ht : 0 ≤ talk ∧ talk < 8
  · obtain ⟨t, rfl⟩ : ∃ t : Nat, talk = t := ⟨talk.toNat, by omega⟩
    have ht8 : t < 8 := by omega
    have hs := P.hub.st t ht8
    refine (hadd_any t A m cap wr P.hub ht8 P.ge.2.2 (hA.src P.up (Nat.le_trans P.ge.1 hs.ge.1)) hm).mono ?_
    rintro e w2 ⟨v, c, rfl, H', ho, _, hv⟩
    refine ⟨?_, _, P.turn ht8 H' ho hv (addL_len _ _ _), fun j hj => ?_, Keep.off ho (ownS_no P.hub ht8 (by decide) (by decide))⟩
    · unfold addE2; rw [if_pos ht, (hE t ht8).1, (hE t ht8).2]; rfl
    · by_cases e : j = t
      · subst e; rw [upd_same, if_pos rfl, (hE j hj).1, (hE j hj).2]; exact ⟨rfl, rfl⟩
      · rw [upd_other _ _ e, if_neg (by omega)]; exact ⟨(hE j hj).2, (hE j hj).1⟩
  · have ht' : talk < 0 ∨ 8 ≤ talk := by omega
    refine (add_no _ talk 2 A m.length cap wr (Lib.hid (stream_out talk wr P.hub ht')) (.inr rfl)).mono ?_
    rintro e w2 ⟨rfl, rfl⟩
    refine ⟨by unfold addE2; rw [if_neg ht], S, P, fun j hj => ?_, fun _ _ _ h => h⟩
    rw [if_neg (by omega)]; exact ⟨(hE j hj).2, (hE j hj).1⟩
theorem closeD_eq (D : Nat → DT) (talk : Int) (j : Nat) : (closeD D talk j).l = (D j).l ∧ (closeD D talk j).A = (D j).A ∧ (closeD D talk j).c = (D j).c ∧ ((closeD D talk j).cl = if (j : Int) = talk ∧ j < 8 then true else (D j).cl) := by
  unfold closeD
  by_cases ht : 0 ≤ talk ∧ talk < 8
  · rw [if_pos ht]
    by_cases hc : (D talk.toNat).cl = true
    · rw [if_pos hc]
      refine ⟨rfl, rfl, rfl, ?_⟩
      by_cases e : (j : Int) = talk ∧ j < 8
      · rw [if_pos e]; rw [show talk.toNat = j by omega] at hc; exact hc
      · rw [if_neg e]
    · rw [if_neg hc]
      unfold updD
      by_cases e : j = talk.toNat
      · rw [if_pos e, if_pos ⟨by omega, by omega⟩, e]; exact ⟨rfl, rfl, rfl, rfl⟩
      · rw [if_neg e, if_neg (by omega)]; exact ⟨rfl, rfl, rfl, rfl⟩
  · rw [if_neg ht, if_neg (by omega)]; exact ⟨rfl, rfl, rfl, rfl⟩
theorem DI.close {w : World} {D : Nat → DT} (d : DI w D) (talk : Int) : DI w (closeD D talk) := by
  refine ⟨fun j hj e => ?_, fun j hj ad e => ?_, fun j hj => ?_, fun j hj => ?_, fun j hj => ?_, fun j hj ad e => ?_⟩ <;> obtain ⟨h1, h2, h3, _⟩ := closeD_eq D talk j
  · rw [h1, h3]; rw [h2] at e; exact d.nil j hj e
  · rw [h2] at e; exact d.flat j hj ad e
  · rw [h1, h3]; exact d.room j hj
  · rw [h1]; exact d.lim j hj
  · rw [h1, h2]; exact d.lies j hj
  · rw [h2] at e; exact d.ty j hj ad e
theorem play_close {w wr : World} {h B g4 : Nat} {S : Nat → StR} {D : Nat → DT} {v5 v6 v7 : Value} {K : List Wt} (P : Play w wr h B g4 S D v5 v6 v7 K) (hE : Agree S D) (talk : Int) :
    Calls Try.prog 13 #[.pointer (some ⟨h, 0, none⟩), .int .i64 talk] wr fun e w2 => e = .returned (.int .i64 (closeE D talk)) ∧ ∃ S', Play w w2 h B g4 S' D v5 v6 v7 K ∧ Agree S' (closeD D talk) ∧ Keep wr w2 := by
  by_cases ht : 0 ≤ talk ∧ talk < 8
  · obtain ⟨t, rfl⟩ : ∃ t : Nat, talk = t := ⟨talk.toNat, by omega⟩
    have ht8 : t < 8 := by omega
    refine (hclose_any t wr P.hub ht8 P.ge.2.2).mono ?_
    rintro e w2 ⟨v, c, rfl, H', ho, _, hv⟩
    refine ⟨?_, _, P.turn ht8 H' ho hv (Nat.le_refl _), fun j hj => ?_, Keep.off ho (ownS_no P.hub ht8 (by decide) (by decide))⟩
    · unfold closeE; rw [if_pos ht, (hE t ht8).2]; rfl
    · obtain ⟨h1, _, _, h4⟩ := closeD_eq D t j
      rw [h1, h4]
      by_cases e : j = t
      · subst e; rw [upd_same, if_pos ⟨rfl, hj⟩, (hE j hj).1]; exact ⟨rfl, rfl⟩
      · rw [upd_other _ _ e, if_neg (by omega)]; exact hE j hj
  · have ht' : talk < 0 ∨ 8 ≤ talk := by omega
    refine (close_no _ talk 2 wr (Lib.hid (stream_out talk wr P.hub ht')) (.inr rfl)).mono ?_
    rintro e w2 ⟨rfl, rfl⟩
    refine ⟨by unfold closeE; rw [if_neg ht], S, P, fun j hj => ?_, fun _ _ _ h => h⟩
    obtain ⟨h1, _, _, h4⟩ := closeD_eq D talk j
    rw [h1, h4, if_neg (by omega)]; exact hE j hj

def WIs (S : Nat → StR) (D : Nat → DT) (talk from' : Int) (wr : World) (e : Ending) (w2 : World) : Prop :=
  (watchE D talk from' = 0 ∧ ∃ t f : Nat, talk = t ∧ t < 8 ∧ from' = f ∧ f ≤ (S t).l.length ∧ e = .returned (.tuple #[.pointer (some ⟨wr.heap.size, 0, none⟩), .int .i64 0]) ∧ WaB w2 wr.heap.size (S t).b f ∧ Below wr.heap.size wr w2) ∨
  (∃ r, (r = 2 ∨ r = 5) ∧ watchE D talk from' = r ∧ e = .returned (.tuple #[.pointer none, .int .i64 r]) ∧ w2 = wr)
theorem play_watch {wr : World} {h B : Nat} {S : Nat → StR} {D : Nat → DT} (P : Hu wr h B 8 S) (hE : Agree S D) (talk from' : Int) :
    Calls Try.prog 15 #[.pointer (some ⟨h, 0, none⟩), .int .i64 talk, .int .i64 from'] wr (WIs S D talk from' wr) := by
  by_cases ht : 0 ≤ talk ∧ talk < 8
  · obtain ⟨t, rfl⟩ : ∃ t : Nat, talk = t := ⟨talk.toNat, by omega⟩
    have ht8 : t < 8 := by omega
    refine (hwatch_any t from' wr P ht8).mono ?_
    rintro e w2 (⟨h0, h1, rfl, hw, hb⟩ | ⟨h0, rfl, rfl⟩)
    · refine .inl ⟨?_, t, from'.toNat, rfl, ht8, by omega, by omega, rfl, hw, hb⟩
      unfold watchE; rw [if_pos ht]; exact if_pos ⟨h0, by have := (hE t ht8).1; rw [show ((t : Int)).toNat = t by omega, ← this]; exact h1⟩
    · refine .inr ⟨5, .inr rfl, ?_, rfl, rfl⟩
      unfold watchE; rw [if_pos ht]; exact if_neg (by have := (hE t ht8).1; rw [show ((t : Int)).toNat = t by omega, ← this]; exact h0)
  · have ht' : talk < 0 ∨ 8 ≤ talk := by omega
    refine (watch_no _ talk 2 from' wr (Lib.hid (stream_out talk wr P ht')) (.inr rfl)).mono ?_
    rintro e w2 ⟨rfl, rfl⟩
    exact .inr ⟨2, .inl rfl, by unfold watchE; rw [if_neg ht], rfl, rfl⟩

/-- the document's lists stand where no block of happenings is turned -/
theorem DI.away {w w' : World} {D : Nat → DT} {L : List Nat} (d : DI w D) (ho : Off L w w') (hL : ∀ g ∈ L, ∀ cur fr, w.heap[g]? ≠ some (.cells cur THp fr)) : DI w' D := by
  have hno : ∀ j, j < 8 → ∀ ad, (D j).A = some ad → ad.block ∉ L := fun j hj ad e hk => by
    obtain ⟨cur, fr, hcur⟩ := d.ty j hj _ e
    exact hL _ hk _ _ hcur
  refine ⟨d.nil, d.flat, d.room, d.lim, fun j hj hne => ?_, fun j hj ad e => ?_⟩
  · obtain ⟨g, o, e, hg, hc⟩ := d.lies j hj hne
    exact ⟨g, o, e, Nat.lt_of_lt_of_le hg ho.size, fun k u hu => (World.cell?_of_block (a := ⟨g, o + k, none⟩) (ho.block g hg (hno j hj _ e))).trans (hc k u hu)⟩
  · obtain ⟨cur, fr, hc⟩ := d.ty j hj ad e
    exact ⟨cur, fr, (ho.block _ (lt_of_block hc) (hno j hj ad e)).trans hc⟩
theorem set_get {K : List Wt} {k j : Nat} {q r : Wt} (h : (K.set k q)[j]? = some r) : (j = k ∧ r = q ∧ k < K.length) ∨ (j ≠ k ∧ K[j]? = some r) := by
  by_cases e : j = k
  · subst e
    obtain ⟨hl, hx⟩ := List.getElem?_eq_some_iff.1 h
    rw [List.length_set] at hl
    rw [List.getElem_set_self] at hx
    exact .inl ⟨rfl, hx.symm, hl⟩
  · rw [List.getElem?_set_ne (Ne.symm e)] at h
    exact .inr ⟨e, h⟩
theorem set_map {α : Type} {K : List Wt} {k : Nat} {q r : Wt} (f : Wt → α) (hk : K[k]? = some q) (he : f r = f q) : (K.set k r).map f = K.map f := by
  refine List.ext_getElem? fun j => ?_
  rw [List.getElem?_map, List.getElem?_map]
  by_cases e : j = k
  · subst e
    rw [List.getElem?_set_self (List.getElem?_eq_some_iff.1 hk).1, hk]; simp [he]
  · rw [List.getElem?_set_ne (Ne.symm e)]
theorem play_next {w wr : World} {h B g4 : Nat} {S : Nat → StR} {D : Nat → DT} {v5 v6 v7 : Value} {K : List Wt} (P : Play w wr h B g4 S D v5 v6 v7 K) {k : Nat} {q : Wt} (hk : K[k]? = some q) (n : Int) (hn : -9223372036854775808 ≤ n ∧ n ≤ 9223372036854775807) :
    Calls Try.prog 17 #[.pointer (some ⟨q.g, 0, none⟩), .int .i64 n] wr fun e w2 => ∃ v', e = .returned (.tuple #[v', .bool (!(S q.t).cl || decide (q.p + nx (S q.t).l q.p n < (S q.t).l.length))]) ∧
      Play w w2 h B g4 S D v5 v6 v7 (K.set k { q with p := q.p + nx (S q.t).l q.p n }) ∧ w2.ownsRow wr.heap.size THp 3 v' (nx (S q.t).l q.p n) (hapsC (((S q.t).l.drop q.p).take (nx (S q.t).l q.p n))) ∧ Keep wr w2 ∧ Off [(S q.t).b, q.g] wr w2 := by
  obtain ⟨ht, hw, hle, hge⟩ := P.wat k q hk
  have hs := P.hub.st q.t ht
  refine (next_any q.t q.g q.p n wr P.hub ht P.ge.2.2 hw hle hn).mono ?_
  rintro e w2 ⟨v', rfl, H2, hw2, hown, ho⟩
  have hq := nx_le (S q.t).l q.p n hle
  have hno : ∀ ty : TypeId, ty ≠ TSt → ty ≠ TWa → ∀ g ∈ [(S q.t).b, q.g], ∀ cur fr, wr.heap[g]? ≠ some (.cells cur ty fr) := fun ty h1 h2 g hg => by
    simp only [List.mem_cons, List.not_mem_nil, or_false] at hg
    rcases hg with rfl | rfl
    · exact no_ty hs.blk (Ne.symm h1)
    · exact no_ty hw (Ne.symm h2)
  refine ⟨v', rfl, ⟨H2, (ho.block _ (lt_of_block P.box) (fun hg => hno TRh (by decide) (by decide) _ hg _ _ P.box)).trans P.box, P.di.away ho (hno _ (by decide) (by decide)), P.dis, ?_, ?_, ?_, P.d67, fun j r hj => ?_, fun i j r1 r2 hi hj hij => ?_,
    P.up.trans (ho.below P.up.size (fun g hg => by
      simp only [List.mem_cons, List.not_mem_nil, or_false] at hg
      have := P.ge.1
      rcases hg with rfl | rfl
      · have := hs.ge.1; omega
      · omega)), P.ge.1, P.ge.2.1, Nat.le_trans P.ge.2.2 ho.size⟩, hown, Keep.off ho (hno _ (by decide) (by decide)), ho⟩
  · rw [List.length_set, set_map (r := { q with p := q.p + nx (S q.t).l q.p n }) _ hk rfl]; exact owns_off P.r5 ho (hno _ (by decide) (by decide))
  · rw [List.length_set, set_map (r := { q with p := q.p + nx (S q.t).l q.p n }) _ hk rfl]; exact owns_off P.r6 ho (hno _ (by decide) (by decide))
  · rw [List.length_set, set_map (r := { q with p := q.p + nx (S q.t).l q.p n }) _ hk rfl]; exact owns_off P.r7 ho (hno _ (by decide) (by decide))
  · rcases set_get hj with ⟨rfl, rfl, _⟩ | ⟨hne, hj⟩
    · exact ⟨ht, hw2, by show q.p + nx (S q.t).l q.p n ≤ (S q.t).l.length; omega, hge⟩
    · obtain ⟨t1, t2, t3, t4⟩ := P.wat j r hj
      refine ⟨t1, (ho.block _ (lt_of_block t2) (fun hg => ?_)).trans t2, t3, t4⟩
      simp only [List.mem_cons, List.not_mem_nil, or_false] at hg
      rcases hg with e | e
      · exact no_ty hs.blk (by decide) _ _ (e ▸ t2)
      · exact P.wdis j k r q hj hk hne e
  · rcases set_get hi with ⟨rfl, rfl, _⟩ | ⟨hne, hi0⟩ <;> rcases set_get hj with ⟨rfl, rfl, _⟩ | ⟨hne2, hj0⟩
    · exact absurd rfl hij
    · exact P.wdis _ j q r2 hk hj0 hij
    · exact P.wdis i _ r1 q hi0 hk hij
    · exact P.wdis i j r1 r2 hi0 hj0 hij

/-- what stands where only rows and copies are turned -/
theorem Play.rows {w wr w2 : World} {h B g4 : Nat} {S : Nat → StR} {D : Nat → DT} {v5 v6 v7 v5' v6' v7' : Value} {K K' : List Wt} {L : List Nat} (P : Play w wr h B g4 S D v5 v6 v7 K) (ho : Off L wr w2)
    (hL0 : ∀ g ∈ L, B ≤ g ∧ ∃ X ty fr, wr.heap[g]? = some (.cells X ty fr) ∧ ty ∉ [THub, TSt, THp, TWa, TRh])
    (r5 : w2.ownsRow B TPw 1 v5' K'.length (K'.map fun q => Value.pointer (some ⟨q.g, 0, none⟩))) (r6 : w2.ownsRow B 3 1 v6' K'.length (K'.map fun q => Value.int .i64 q.t)) (r7 : w2.ownsRow B 3 1 v7' K'.length (K'.map fun q => Value.int .i64 q.a))
    (d67 : ∀ g, v6'.ownBlock = some g → v7'.ownBlock ≠ some g) (wat : ∀ (k : Nat) q, K'[k]? = some q → q.t < 8 ∧ WaB wr q.g (S q.t).b q.p ∧ q.p ≤ (S q.t).l.length ∧ B ≤ q.g)
    (wdis : ∀ (i j : Nat) q r, K'[i]? = some q → K'[j]? = some r → i ≠ j → q.g ≠ r.g) : Play w w2 h B g4 S D v5' v6' v7' K' := by
  have hL : ∀ g ∈ L, B ≤ g ∧ ∀ ty ∈ [THub, TSt, THp, TWa, TRh], ∀ (cs : Array Value) (fr : Nat × Nat), wr.heap[g]? ≠ some (.cells cs ty fr) := fun g hg => ⟨(hL0 g hg).1, fun ty ht => by
    obtain ⟨X, ty2, fr, e, hn⟩ := (hL0 g hg).2
    exact no_ty e (fun e2 => hn (e2 ▸ ht))⟩
  have hk : ∀ (k : Nat) (X : Array Value) (ty : TypeId) (fr : Nat × Nat), wr.heap[k]? = some (.cells X ty fr) → ty ∈ [THub, TSt, THp, TWa, TRh] → w2.heap[k]? = some (.cells X ty fr) := fun k X ty fr e ht => (ho.block k (lt_of_block e) (fun hg => (hL k hg).2 ty ht _ _ e)).trans e
  refine ⟨⟨hk _ _ _ _ P.hub.blk (by simp), fun j hj => ?_, P.hub.db, P.hub.dc, P.hub.dv, P.hub.ge⟩, hk _ _ _ _ P.box (by simp), P.di.away ho (fun g hg => (hL g hg).2 THp (by simp)), P.dis, r5, r6, r7, d67,
    fun k q hq => ⟨(wat k q hq).1, hk _ _ _ _ (wat k q hq).2.1 (by simp), (wat k q hq).2.2⟩, wdis, P.up.trans (ho.below P.up.size (fun g hg => Nat.le_trans P.ge.1 (hL g hg).1)), P.ge.1, P.ge.2.1, Nat.le_trans P.ge.2.2 ho.size⟩
  have hs := P.hub.st j hj
  exact hs.off ho (fun hg => (hL _ hg).2 TSt (by simp) _ _ hs.blk) (fun hg => by
    obtain ⟨X, ty2, fr, e, _⟩ := (hL0 _ hg).2
    obtain ⟨s, r, e2⟩ := hs.chn
    rw [e] at e2; cases e2) (fun g e hg => by
    rcases hs.own.2 with ⟨e3, _⟩ | ⟨g', cap, cur, e3, _, hg', _⟩
    · rw [e3] at e; cases e
    · rw [e3] at e; cases e
      exact (hL _ hg).2 THp (by simp) _ _ hg')

/-- the three rows -/
structure Three (w : World) (B : Nat) (v5 v6 v7 : Value) (n5 n6 n7 : Nat) (x5 x6 x7 : List Value) : Prop where
  r5 : w.ownsRow B TPw 1 v5 n5 x5
  r6 : w.ownsRow B 3 1 v6 n6 x6
  r7 : w.ownsRow B 3 1 v7 n7 x7
  d67 : ∀ g, v6.ownBlock = some g → v7.ownBlock ≠ some g
theorem Three.on {w w' : World} {B : Nat} {v5 v6 v7 : Value} {n5 n6 n7 : Nat} {x5 x6 x7 : List Value} (h : Three w B v5 v6 v7 n5 n6 n7 x5 x6 x7) (hb : Below w.heap.size w w') : Three w' B v5 v6 v7 n5 n6 n7 x5 x6 x7 :=
  ⟨owns_on h.r5 hb, owns_on h.r6 hb, owns_on h.r7 hb, h.d67⟩
theorem rown_ty {w : World} {B n size : Nat} {e : TypeId} {v : Value} {xs : List Value} {g : Nat} (h : w.ownsRow B e size v n xs) (hg : v.ownBlock = some g) : B ≤ g ∧ ∃ cur, w.heap[g]? = some (.cells cur e (0, 0)) := by
  rcases h.2 with ⟨e3, _⟩ | ⟨g', cap, cur, e3, hB, hg', _⟩
  · rw [e3] at hg; cases hg
  · rw [e3] at hg; cases hg
    exact ⟨hB, cur, hg'⟩
theorem rown_ne {w : World} {B n n' size size' : Nat} {e e' : TypeId} {v v' : Value} {xs xs' : List Value} (h : w.ownsRow B e size v n xs) (h' : w.ownsRow B e' size' v' n' xs') (hne : e ≠ e') : v.ownBlock = none ∨ v.ownBlock ≠ v'.ownBlock := by
  cases hv : v.ownBlock with
  | none => exact .inl rfl
  | some g =>
    refine .inr fun hv' => ?_
    obtain ⟨_, c1, e1⟩ := rown_ty h hv
    obtain ⟨_, c2, e2⟩ := rown_ty h' hv'.symm
    exact no_ty e1 hne _ _ e2
theorem Three.a5 {w w' : World} {B : Nat} {v5 v6 v7 v5' : Value} {n5 n6 n7 n5' : Nat} {x5 x6 x7 x5' : List Value} (h : Three w B v5 v6 v7 n5 n6 n7 x5 x6 x7) (g : w.grownBy w' v5.ownBlock) (r : w'.ownsRow B TPw 1 v5' n5' x5') : Three w' B v5' v6 v7 n5' n6 n7 x5' x6 x7 :=
  ⟨r, h.r6.kept g (rown_ne h.r6 h.r5 (by decide)), h.r7.kept g (rown_ne h.r7 h.r5 (by decide)), h.d67⟩
theorem Three.a6 {w w' : World} {B : Nat} {v5 v6 v7 v6' : Value} {n5 n6 n7 n6' : Nat} {x5 x6 x7 x6' : List Value} (h : Three w B v5 v6 v7 n5 n6 n7 x5 x6 x7) (g : w.grownBy w' v6.ownBlock) (r : w'.ownsRow B 3 1 v6' n6' x6') (hv : v6'.ownBlock = v6.ownBlock ∨ v6'.ownBlock = some w.heap.size) : Three w' B v5 v6' v7 n5 n6' n7 x5 x6' x7 :=
  ⟨h.r5.kept g (rown_ne h.r5 h.r6 (by decide)), r, h.r7.kept g (by
    cases h7 : v7.ownBlock with
    | none => exact .inl rfl
    | some k => exact .inr fun e => h.d67 k e.symm h7), fun k e1 e2 => by
    rcases hv with e | e
    · rw [e] at e1; exact h.d67 k e1 e2
    · rw [e] at e1; cases e1; have := (h.r7.lt _ e2).2; omega⟩
theorem Three.a7 {w w' : World} {B : Nat} {v5 v6 v7 v7' : Value} {n5 n6 n7 n7' : Nat} {x5 x6 x7 x7' : List Value} (h : Three w B v5 v6 v7 n5 n6 n7 x5 x6 x7) (g : w.grownBy w' v7.ownBlock) (r : w'.ownsRow B 3 1 v7' n7' x7') (hv : v7'.ownBlock = v7.ownBlock ∨ v7'.ownBlock = some w.heap.size) : Three w' B v5 v6 v7' n5 n6 n7' x5 x6 x7' :=
  ⟨h.r5.kept g (rown_ne h.r5 h.r7 (by decide)), h.r6.kept g (by
    cases h6 : v6.ownBlock with
    | none => exact .inl rfl
    | some k => exact .inr fun e => h.d67 k h6 e.symm), r, fun k e1 e2 => by
    rcases hv with e | e
    · rw [e] at e2; exact h.d67 k e1 e2
    · rw [e] at e2; cases e2; have := (h.r6.lt _ e1).2; omega⟩
theorem Play.three {w wr : World} {h B g4 : Nat} {S : Nat → StR} {D : Nat → DT} {v5 v6 v7 : Value} {K : List Wt} (P : Play w wr h B g4 S D v5 v6 v7 K) : Three wr B v5 v6 v7 K.length K.length K.length (K.map fun q => Value.pointer (some ⟨q.g, 0, none⟩)) (K.map fun q => Value.int .i64 q.t) (K.map fun q => Value.int .i64 q.a) :=
  ⟨P.r5, P.r6, P.r7, P.d67⟩
/-- a list appended behind an own row of one cell an element -/
theorem wpList_append_one {ops : Array Oper} {rest : List Oper} {o : Oper} {a : Act} {w : World} {Q : Exit → Act → World → Prop} (hgd : o.guard = none) (s x : Operand) (t e : TypeId) (z : Value) (bytes : Nat) (ho : o.op = .call { callee := .builtin .append, args := #[s, x], argTypes := #[t, t] })
    (ht : Try.prog.underlying t = some (.slice e)) (hinfo : (Try.prog.info? e).map (fun i => (i.zero, i.size, i.bytes)) = some (some z, 1, bytes)) (hz1 : z.cells.size = 1) (hb8 : bytes ≤ 64)
    (B : Nat) (hB : B ≤ w.heap.size) (v : Value) (n : Nat) (xs : List Value) (hs : a.eval s = v) (hown : w.ownsRow B e 1 v n xs) (g : Nat) (u : Value) (fr : Nat × Nat) (hx : a.eval x = .slice (some ⟨g, 0, none⟩) 1 1) (hg : w.heap[g]? = some (.cells #[u] e fr)) (hu : u.oneCell' = true) (hn : n ≤ 100000)
    (h : ∀ v' w2, w2.ownsRow B e 1 v' (n + 1) (xs ++ [u]) → w.grownBy w2 v.ownBlock → (v'.ownBlock = v.ownBlock ∨ v'.ownBlock = some w.heap.size) → wpList Try.prog ops Q rest (a.put o.dst v') w2) : wpList Try.prog ops Q (o :: rest) a w := by
  obtain ⟨i0, hi, hz0, hz1', hz2⟩ := info_parts hinfo
  refine wpList_append_own_at _ hgd s x t ho B e i0 _ 1 bytes ht hi hz0 hz1' hz2 hz1 (by decide) v n xs hs hown ⟨g, 0, none⟩ 1 1 [u] hx rfl (fun j y hy => ?_) (fun y hy => ?_) (by unfold maxLen; omega) (Nat.le_trans (Nat.mul_le_mul (show n + 1 ≤ 100001 by omega) hb8) (by decide)) hB ?_
  · rcases j with _ | j
    · cases hy
      rw [Addr.add_lit, cell_of_row _ _ _ _ _ _ hg]; rfl
    · cases hy
  · rw [List.mem_singleton.1 hy]; exact hu
  · intro v' w2 h1 h2 _ h4
    exact h v' w2 h1 h2 h4

/-- an own row's number turned: what is written down of a watch -/
theorem Play.at' {w wr : World} {h B g4 g7 n7 c7 : Nat} {S : Nat → StR} {D : Nat → DT} {v5 v6 : Value} {K : List Wt} (P : Play w wr h B g4 S D v5 v6 (.slice (some ⟨g7, 0, none⟩) n7 c7) K) {k : Nat} {q : Wt} (hk : K[k]? = some q) (a' : Nat) :
    Play w (wr.setCell ⟨g7, k, none⟩ (.int .i64 a')) h B g4 S D v5 v6 (.slice (some ⟨g7, 0, none⟩) n7 c7) (K.set k { q with a := a' }) := by
  have hn7 : n7 = K.length := by
    rcases P.r7.2 with ⟨e, _⟩ | ⟨g, cap, cur, e, _⟩
    · cases e
    · cases e; rfl
  subst hn7
  have hkl := (List.getElem?_eq_some_iff.1 hk).1
  have h7 := P.r7.stored k (.int .i64 a')
  obtain ⟨hB7, cur7, e7⟩ := rown_ty (g := g7) P.r7 rfl
  have T := P.three
  have T2 := T.a7 h7.2 h7.1 (.inl rfl)
  have hm : (K.map fun q => Value.int .i64 q.a).set k (.int .i64 a') = (K.set k { q with a := a' }).map fun q => Value.int .i64 q.a := by rw [List.map_set]
  refine P.rows (off_set wr g7 k _) (fun g hg => ?_) ?_ ?_ ?_ T2.d67 (fun j r hj => ?_) (fun i j r1 r2 hi hj hij => ?_)
  · simp only [List.mem_singleton] at hg
    subst hg
    exact ⟨hB7, cur7, _, _, e7, by decide⟩
  · rw [List.length_set, set_map (r := { q with a := a' }) _ hk rfl]; exact T2.r5
  · rw [List.length_set, set_map (r := { q with a := a' }) _ hk rfl]; exact T2.r6
  · rw [List.length_set, ← hm]; exact T2.r7
  · rcases set_get hj with ⟨rfl, rfl, _⟩ | ⟨hne, hj⟩
    · exact P.wat _ q hk
    · exact P.wat j r hj
  · rcases set_get hi with ⟨rfl, rfl, _⟩ | ⟨hne, hi0⟩ <;> rcases set_get hj with ⟨rfl, rfl, _⟩ | ⟨hne2, hj0⟩
    · exact absurd rfl hij
    · exact P.wdis _ j q r2 hk hj0 hij
    · exact P.wdis i _ r1 q hi0 hk hij
    · exact P.wdis i j r1 r2 hi0 hj0 hij
/-- behind a Watch that was heard: the three rows have one more -/
theorem Play.more {w wr w2 : World} {h B g4 : Nat} {S : Nat → StR} {D : Nat → DT} {v5 v6 v7 v5' v6' v7' : Value} {K : List Wt} {L : List Nat} {q : Wt} (P : Play w wr h B g4 S D v5 v6 v7 K) (ho : Off L wr w2)
    (hL : ∀ g ∈ L, v5.ownBlock = some g ∨ v6.ownBlock = some g ∨ v7.ownBlock = some g)
    (T : Three w2 B v5' v6' v7' (K.length + 1) (K.length + 1) (K.length + 1) ((K.map fun q => Value.pointer (some ⟨q.g, 0, none⟩)) ++ [.pointer (some ⟨q.g, 0, none⟩)]) ((K.map fun q => Value.int .i64 q.t) ++ [.int .i64 q.t]) ((K.map fun q => Value.int .i64 q.a) ++ [.int .i64 q.a]))
    (ht : q.t < 8) (hw : WaB wr q.g (S q.t).b q.p) (hle : q.p ≤ (S q.t).l.length) (hge : B ≤ q.g) (hnew : ∀ (j : Nat) r, K[j]? = some r → r.g ≠ q.g) : Play w w2 h B g4 S D v5' v6' v7' (K ++ [q]) := by
  have hl : (K ++ [q]).length = K.length + 1 := by simp
  have hcase : ∀ (j : Nat) r, (K ++ [q])[j]? = some r → K[j]? = some r ∨ (j = K.length ∧ r = q) := fun j r hj => by
    by_cases hlt : j < K.length
    · rw [List.getElem?_append_left hlt] at hj; exact .inl hj
    · rw [List.getElem?_append_right (by omega)] at hj
      obtain ⟨hlt2, hx⟩ := List.getElem?_eq_some_iff.1 hj
      simp at hlt2 hx
      exact .inr ⟨by omega, hx.symm⟩
  refine P.rows ho (fun g hg => ?_) ?_ ?_ ?_ T.d67 (fun j r hj => ?_) (fun i j r1 r2 hi hj hij => ?_)
  · rcases hL g hg with e | e | e
    · obtain ⟨h1, c, h2⟩ := rown_ty P.r5 e; exact ⟨h1, c, _, _, h2, by decide⟩
    · obtain ⟨h1, c, h2⟩ := rown_ty P.r6 e; exact ⟨h1, c, _, _, h2, by decide⟩
    · obtain ⟨h1, c, h2⟩ := rown_ty P.r7 e; exact ⟨h1, c, _, _, h2, by decide⟩
  · rw [hl, List.map_append]; exact T.r5
  · rw [hl, List.map_append]; exact T.r6
  · rw [hl, List.map_append]; exact T.r7
  · rcases hcase j r hj with h1 | ⟨_, rfl⟩
    · exact P.wat j r h1
    · exact ⟨ht, hw, hle, hge⟩
  · rcases hcase i r1 hi with h1 | ⟨e1, rfl⟩ <;> rcases hcase j r2 hj with h2 | ⟨e2, rfl⟩
    · exact P.wdis i j r1 r2 h1 h2 hij
    · exact hnew i r1 h1
    · exact Ne.symm (hnew j r2 h2)
    · omega

/-- what stood ahead of a world of size s stands where only newer blocks are turned -/
theorem owns_past {wr w2 w3 : World} {B n n' size : Nat} {e : TypeId} {v : Value} {xs xs' : List Value} (h0 : wr.ownsRow B e size v n' xs') (h : w2.ownsRow B e size v n xs) (hb : Below wr.heap.size w2 w3) : w3.ownsRow B e size v n xs := by
  refine ⟨h.1, ?_⟩
  rcases h.2 with h1 | ⟨g, cap, cur, rfl, hB, hg, h1⟩
  · exact .inl h1
  · exact .inr ⟨g, cap, cur, rfl, hB, (hb.block g (h0.lt g rfl).2).trans hg, h1⟩
theorem St.past {wr w2 w3 : World} {B b c : Nat} {l l' : List Hap} {cl cl' : Bool} {v : Value} (h0 : St wr B b l' cl' v c) (h : St w2 B b l cl v c) (hb : Below wr.heap.size w2 w3) : St w3 B b l cl v c := by
  refine ⟨(hb.block b h0.lt).trans h.blk, owns_past h0.own h.own hb, ?_, h.ge, h.lim⟩
  obtain ⟨s, r, e⟩ := h.chn
  exact ⟨s, r, (hb.block c h0.ltc).trans e⟩
theorem Play.past {w wr w2 w3 : World} {h B g4 : Nat} {S : Nat → StR} {D : Nat → DT} {v5 v6 v7 : Value} {K K' : List Wt} (P0 : Play w wr h B g4 S D v5 v6 v7 K) (P : Play w w2 h B g4 S D v5 v6 v7 K') (hK : ∀ (k : Nat) q', K'[k]? = some q' → ∃ q, K[k]? = some q ∧ q.g = q'.g) (hb : Below wr.heap.size w2 w3) : Play w w3 h B g4 S D v5 v6 v7 K' := by
  refine ⟨⟨(hb.block _ (lt_of_block P0.hub.blk)).trans P.hub.blk, fun j hj => (P0.hub.st j hj).past (P.hub.st j hj) hb, P.hub.db, P.hub.dc, P.hub.dv, P.hub.ge⟩, (hb.block _ (lt_of_block P0.box)).trans P.box, ⟨P.di.nil, P.di.flat, P.di.room, P.di.lim, fun j hj hn => ?_, fun j hj ad e => ?_⟩, P.dis, owns_past P0.r5 P.r5 hb, owns_past P0.r6 P.r6 hb, owns_past P0.r7 P.r7 hb, P.d67, fun k q hk => ?_, P.wdis, P.up.trans (hb.mono P0.up.size), P.ge.1, P.ge.2.1, Nat.le_trans P.ge.2.2 hb.size⟩
  · obtain ⟨g, o, e, hg, _⟩ := P0.di.lies j hj hn
    obtain ⟨g', o', e', hg', hc⟩ := P.di.lies j hj hn
    rw [e] at e'; cases e'
    exact ⟨g, o, e, Nat.lt_of_lt_of_le hg' hb.size, fun k u hu => (World.cell?_of_block (a := ⟨g, o + k, none⟩) (hb.block g hg)).trans (hc k u hu)⟩
  · obtain ⟨cur, fr, hc⟩ := P0.di.ty j hj ad e
    obtain ⟨cur', fr', hc'⟩ := P.di.ty j hj ad e
    exact ⟨cur', fr', (hb.block _ (lt_of_block hc)).trans hc'⟩
  · obtain ⟨q0, h0, e0⟩ := hK k q hk
    obtain ⟨t1, t2, t3, t4⟩ := P.wat k q hk
    exact ⟨t1, (hb.block _ (e0 ▸ lt_of_block (P0.wat k q0 h0).2.1)).trans t2, t3, t4⟩
theorem below_drewN (w : World) (k : Nat) : Below w.heap.size w (w.drewN k) := by
  induction k generalizing w with
  | zero => exact Below.refl _ _
  | succ k ih => exact ⟨(ih w.drew).os, (ih w.drew).tape, (ih w.drew).output, (ih w.drew).size, (ih w.drew).block⟩
/-- behind the document's call: its hub in a new box, then in the old one -/
structure DocAfter (w w2 w3 : World) (h B g4 : Nat) (S : Nat → StR) (D D' : Nat → DT) (v5 v6 v7 : Value) (K : List Wt) : Prop where
  new : (w3.alloc (.cells docZ TRh)).heap[w3.heap.size]? = some (.cells docZ TRh (0, 0))
  c : ((w3.alloc (.cells docZ TRh)).setRow w3.heap.size (docC D')).heap[w3.heap.size]? = some (.cells (docC D') TRh (0, 0))
  o : ((w3.alloc (.cells docZ TRh)).setRow w3.heap.size (docC D')).heap[g4]? = some (.cells (docC D) TRh (0, 0))
  P : Play w (((w3.alloc (.cells docZ TRh)).setRow w3.heap.size (docC D')).setRow g4 (docC D')) h B g4 S D' v5 v6 v7 K
  k : Keep w2 (((w3.alloc (.cells docZ TRh)).setRow w3.heap.size (docC D')).setRow g4 (docC D'))
theorem Play.after {w w2 w3 : World} {h B g4 : Nat} {S : Nat → StR} {D D' : Nat → DT} {v5 v6 v7 : Value} {K : List Wt} (P : Play w w2 h B g4 S D v5 v6 v7 K) (hb : Below w2.heap.size w2 w3) (hd : DI w3 D')
    (hA : ∀ j, j < 8 → (D' j).A = (D j).A ∨ ∀ ad, (D' j).A = some ad → w2.heap.size ≤ ad.block) : DocAfter w w2 w3 h B g4 S D D' v5 v6 v7 K := by
  have hn := heap_alloc_new w3 (.cells docZ TRh)
  have hb4 : Below w2.heap.size w2 ((w3.alloc (.cells docZ TRh)).setRow w3.heap.size (docC D')) := below_setRow (hb.trans ((below_new w3 _).mono hb.size)) hb.size _
  have hd4 : DI ((w3.alloc (.cells docZ TRh)).setRow w3.heap.size (docC D')) D' := hd.on (below_setRow (below_new w3 _) (Nat.le_refl _) _)
  have hbox : ((w3.alloc (.cells docZ TRh)).setRow w3.heap.size (docC D')).heap[g4]? = some (.cells (docC D) TRh (0, 0)) := (hb4.block _ (lt_of_block P.box)).trans P.box
  refine ⟨hn, setRow_heap _ _ _ _ _ _ hn, hbox, P.doc hb4 hd4 hA, fun k cs fr e => ?_⟩
  have e4 := (hb4.block k (lt_of_block e)).trans e
  exact ((off_setRow _ g4 (docC D')).block k (lt_of_block e4) (fun hk => by
    simp only [List.mem_singleton] at hk
    subst hk
    exact no_ty hbox (by decide) _ _ e4)).trans e4
theorem info_pw : (Try.prog.info? TPw).map (fun i => (i.zero, i.size, i.bytes)) = some (some (.pointer none), 1, 8) := by kernel_rfl
theorem info_in : (Try.prog.info? 3).map (fun i => (i.zero, i.size, i.bytes)) = some (some (.int .i64 0), 1, 8) := by kernel_rfl
theorem own_sl {w : World} {B n size : Nat} {e : TypeId} {v : Value} {xs : List Value} (h : w.ownsRow B e size v n xs) : ∃ A c, v = .slice A n c := by
  rcases h.2 with ⟨rfl, h0⟩ | ⟨g, cap, cur, rfl, _⟩
  · rw [h0]; exact ⟨none, 0, rfl⟩
  · exact ⟨_, _, rfl⟩
theorem own_form {w : World} {B n size : Nat} {e : TypeId} {v : Value} {xs : List Value} (h : w.ownsRow B e size v n xs) (hn : 0 < n) : ∃ g c, v = .slice (some ⟨g, 0, none⟩) n c := by
  rcases h.2 with ⟨_, h0⟩ | ⟨g, cap, cur, e, _⟩
  · omega
  · exact ⟨_, _, e⟩
/-- the cells of the three rows at a watch -/
theorem Play.cells {w wr : World} {h B g4 g5 g6 g7 c5 c6 c7 n : Nat} {S : Nat → StR} {D : Nat → DT} {K : List Wt} {k : Nat} {q : Wt} (P : Play w wr h B g4 S D (.slice (some ⟨g5, 0, none⟩) n c5) (.slice (some ⟨g6, 0, none⟩) n c6) (.slice (some ⟨g7, 0, none⟩) n c7) K) (hn : n = K.length) (hk : K[k]? = some q) :
    wr.cell? ⟨g5, k, none⟩ = some (.pointer (some ⟨q.g, 0, none⟩)) ∧ wr.cell? ⟨g6, k, none⟩ = some (.int .i64 q.t) ∧ wr.cell? ⟨g7, k, none⟩ = some (.int .i64 q.a) ∧ wr.frozen? ⟨g7, k, none⟩ = false := by
  subst hn
  have hl := (List.getElem?_eq_some_iff.1 hk).1
  refine ⟨?_, ?_, ?_, P.r7.frozenAt k⟩
  · rw [P.r5.cellAt k (by omega), List.getElem?_map, hk]; rfl
  · rw [P.r6.cellAt k (by omega), List.getElem?_map, hk]; rfl
  · rw [P.r7.cellAt k (by omega), List.getElem?_map, hk]; rfl
theorem next_cell5 {w w2 : World} {h B g4 g5 c5 x L : Nat} {S' : Nat → StR} {D' : Nat → DT} {v6' v7' : Value} {K' : List Wt} {q q' : Wt}
    (P2 : Play w w2 h B g4 S' D' (.slice (some ⟨g5, 0, none⟩) L c5) v6' v7' K') (hL : K'.length = L) (hk' : K'[x]? = some q') (hg : q'.g = q.g) : w2.cell? ⟨g5, x, none⟩ = some (.pointer (some ⟨q.g, 0, none⟩)) := by
  subst hL
  have hl := (List.getElem?_eq_some_iff.1 hk').1
  rw [P2.r5.cellAt x (by omega), List.getElem?_map, hk', ← hg]; rfl
theorem own_lies {w : World} {B n : Nat} {l : List Hap} {A : Option Addr} {c : Nat} (h : w.ownsRow B THp 3 (.slice A n c) n (hapsC l)) : Lies w A l := fun hne => by
  rcases h.2 with ⟨e, h0⟩ | ⟨g, cap, cur, e, _, hg, _, _, _, ht⟩
  · exfalso
    have := h.1
    rw [hapsC_len] at this
    apply hne
    apply List.eq_nil_of_length_eq_zero
    omega
  · cases e
    refine ⟨g, 0, rfl, lt_of_block hg, fun k u hu => ?_⟩
    have hlt := (List.getElem?_eq_some_iff.1 hu).1
    rw [cell_of_row _ _ _ _ _ _ hg, Nat.zero_add, ← hu, ← ht, List.getElem?_take]
    rw [← ht, List.length_take] at hlt
    rw [if_pos (by omega)]; simp
/-- what was told is written down: the row of places turned, what is told stands -/
theorem next_store {w w3 : World} {h B s0 g4 g5 g6 g7 c5 c6 c7 n x gb c' y : Nat} {S : Nat → StR} {D : Nat → DT} {K : List Wt} {q : Wt} {A' A3 : Option Addr} {pl : List Hap} {O : Array Value} {fr : Nat × Nat}
    (P : Play w w3 h B g4 S D (.slice (some ⟨g5, 0, none⟩) n c5) (.slice (some ⟨g6, 0, none⟩) n c6) (.slice (some ⟨g7, 0, none⟩) n c7) K) (_hn : n = K.length) (hk : K[x]? = some q) (a' : Nat)
    (hown : w3.ownsRow s0 THp 3 (.slice A' y c') y (hapsC pl)) (hO : w3.heap[gb]? = some (.cells O TOp fr)) (hty : pl ≠ [] → ∃ ad, A3 = some ad ∧ ∃ cur fr, w3.heap[ad.block]? = some (.cells cur THp fr)) (hl : Lies w3 A3 pl) :
    Play w (w3.setCell ⟨g7, x, none⟩ (.int .i64 a')) h B g4 S D (.slice (some ⟨g5, 0, none⟩) n c5) (.slice (some ⟨g6, 0, none⟩) n c6) (.slice (some ⟨g7, 0, none⟩) n c7) (K.set x { q with a := a' }) ∧
      (w3.setCell ⟨g7, x, none⟩ (.int .i64 a')).ownsRow s0 THp 3 (.slice A' y c') y (hapsC pl) ∧ (w3.setCell ⟨g7, x, none⟩ (.int .i64 a')).heap[gb]? = some (.cells O TOp fr) ∧ Lies (w3.setCell ⟨g7, x, none⟩ (.int .i64 a')) A3 pl := by
  obtain ⟨_, cur7, e7⟩ := rown_ty (g := g7) P.r7 rfl
  have ho := off_set w3 g7 x (.int .i64 a')
  have hno : ∀ ty : TypeId, 3 ≠ ty → ∀ g ∈ [g7], ∀ cur fr, w3.heap[g]? ≠ some (.cells cur ty fr) := fun ty hne g hg => by
    simp only [List.mem_singleton] at hg
    subst hg
    exact no_ty e7 hne
  refine ⟨P.at' hk a', owns_off hown ho (hno _ (by decide)), Keep.off ho (hno _ (by decide)) _ _ _ hO, fun hne => ?_⟩
  obtain ⟨g, o, e, hg, hc⟩ := hl hne
  obtain ⟨ad, e2, cur, fr', e3⟩ := hty hne
  rw [e] at e2; cases e2
  exact ⟨g, o, e, Nat.lt_of_lt_of_le hg ho.size, fun k u hu => (World.cell?_of_block (a := ⟨g, o + k, none⟩) (ho.block g hg (fun hk => hno _ (by decide) _ hk _ _ e3))).trans (hc k u hu)⟩
theorem below_set {s : Nat} {w W : World} {g : Nat} (hb : Below s w W) (hg : s ≤ g) (hs : s ≤ W.heap.size) (i : Nat) (v : Value) : Below s w (W.setCell ⟨g, i, none⟩ v) :=
  hb.trans ((off_set W g i v).below hs (fun k hk => by simp only [List.mem_singleton] at hk; omega))
theorem own_block {w : World} {B n size g c : Nat} {e : TypeId} {A : Option Addr} {xs : List Value} (h : w.ownsRow B e size (.slice A n c) n xs) (hA : A = some ⟨g, 0, none⟩) : B ≤ g ∧ ∃ cur, w.heap[g]? = some (.cells cur e (0, 0)) ∧ n * size ≤ cur.size := by
  rcases h.2 with ⟨e1, h0⟩ | ⟨g', cap, cur, e1, hB, hg, hc, _, hs, _⟩
  · rw [hA] at e1; cases e1
  · rw [hA] at e1; cases e1
    exact ⟨hB, cur, hg, by rw [hs]; exact Nat.mul_le_mul_right _ hc⟩
theorem three_set {s y : Nat} {w W : World} {g : Nat} (h : Below s w W ∧ ∀ g', some (⟨g, 0, none⟩ : Addr) = some ⟨g', 0, none⟩ → s ≤ g' ∧ ∃ cur, W.heap[g']? = some (.cells cur THp (0, 0)) ∧ y * 3 ≤ cur.size) (j : Nat) (a b c : Value) (hs : s ≤ W.heap.size) :
    Below s w (((W.setCell ⟨g, j * 3, none⟩ a).setCell ⟨g, j * 3 + 1, none⟩ b).setCell ⟨g, j * 3 + 2, none⟩ c) ∧ ∀ g', some (⟨g, 0, none⟩ : Addr) = some ⟨g', 0, none⟩ → s ≤ g' ∧ ∃ cur, (((W.setCell ⟨g, j * 3, none⟩ a).setCell ⟨g, j * 3 + 1, none⟩ b).setCell ⟨g, j * 3 + 2, none⟩ c).heap[g']? = some (.cells cur THp (0, 0)) ∧ y * 3 ≤ cur.size := by
  obtain ⟨hg, cur, hc, hz⟩ := h.2 g rfl
  refine ⟨below_set (below_set (below_set h.1 hg hs _ _) hg (Nat.le_trans hs (off_set W g _ _).size) _ _) hg (Nat.le_trans hs (Nat.le_trans (off_set W g (j * 3) a).size (off_set (W.setCell ⟨g, j * 3, none⟩ a) g (j * 3 + 1) b).size)) _ _, fun g' e => ?_⟩
  cases e
  exact ⟨hg, _, heap_setCell_same _ _ _ _ _ _ (heap_setCell_same _ _ _ _ _ _ (heap_setCell_same _ _ _ _ _ _ hc)), by simpa using hz⟩
end Go.Proofs.Ytlddeagolhdieaa
