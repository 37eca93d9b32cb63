/- HubTells: what stands while dialogue 3 goes on and is watched. -/
import Derived.Test.YtlddeagolhdieaaHubPlayOps
import Derived.Deep.DeepAppendWide
namespace Go.Proofs.Ytlddeagolhdieaa
open Go.RowKit Go.MuLone Go.Conc

set_option maxRecDepth 100000
set_option maxHeartbeats 4000000
/-- a watch: its block, where it began, its place, how many it was told, where these lie -/
structure Tl where
  g : Nat
  b : Nat
  p : Nat
  t : Nat
  v : Value
structure Tell (w wr : World) (h B : Nat) (S : Nat → StR) (all : List Hap) (v7 v10 v11 v12 : Value) (K : List Tl) : Prop where
  hub : Hu wr h B 8 S
  al : wr.ownsRow w.heap.size THp 3 v7 all.length (hapsC all)
  alt : ∀ g, v7.ownBlock = some g → g < B
  r10 : wr.ownsRow B TPw 1 v10 K.length (K.map fun q => Value.pointer (some ⟨q.g, 0, none⟩))
  r11 : wr.ownsRow B THs 1 v11 K.length (K.map fun q => q.v)
  r12 : wr.ownsRow B 3 1 v12 K.length (K.map fun q => Value.int .i64 q.b)
  told : ∀ (k : Nat) q, K[k]? = some q → wr.ownsRow B THp 3 q.v q.t (hapsC ((all.drop q.b).take q.t)) ∧ q.b + q.t ≤ all.length
  tdis : ∀ (i j : Nat) q r, K[i]? = some q → K[j]? = some r → i ≠ j → ∀ g, q.v.ownBlock = some g → r.v.ownBlock ≠ some g
  tst : ∀ (i k : Nat) q, i < 8 → K[k]? = some q → ∀ g, q.v.ownBlock = some g → (S i).v.ownBlock ≠ some g
  wat : ∀ (k : Nat) q, K[k]? = some q → WaB wr q.g (S 3).b q.p ∧ q.p ≤ (S 3).l.length ∧ B ≤ q.g
  wdis : ∀ (i j : Nat) q r, K[i]? = some q → K[j]? = some r → i ≠ j → q.g ≠ r.g
  up : Below w.heap.size w wr
  ge : w.heap.size ≤ B ∧ B ≤ wr.heap.size
theorem Tell.on {w wr w' : World} {h B : Nat} {S : Nat → StR} {all : List Hap} {v7 v10 v11 v12 : Value} {K : List Tl} (P : Tell w wr h B S all v7 v10 v11 v12 K) (hb : Below wr.heap.size wr w') : Tell w w' h B S all v7 v10 v11 v12 K :=
  ⟨P.hub.on hb, owns_on P.al hb, P.alt, owns_on P.r10 hb, owns_on P.r11 hb, owns_on P.r12 hb, fun k q hk => ⟨owns_on (P.told k q hk).1 hb, (P.told k q hk).2⟩, P.tdis, P.tst, fun k q hk => ⟨(P.wat k q hk).1.on hb, (P.wat k q hk).2⟩, P.wdis, P.up.trans (hb.mono P.up.size), P.ge.1, Nat.le_trans P.ge.2 hb.size⟩
/-- an own row whose block is none of those turned -/
theorem owns_not {w w' : World} {B n size : Nat} {e : TypeId} {v : Value} {xs : List Value} {L : List Nat} (h : w.ownsRow B e size v n xs) (ho : Off L w w') (hL : ∀ g, v.ownBlock = some g → g ∉ L) : w'.ownsRow B e size v n xs := by
  refine ⟨h.1, ?_⟩
  rcases h.2 with h0 | ⟨g, cap, cur, rfl, hB, hg, h1⟩
  · exact .inl h0
  · exact .inr ⟨g, cap, cur, rfl, hB, (ho.block g (lt_of_block hg) (hL g rfl)).trans hg, h1⟩
/-- behind a call that turns dialogue 3 of the hub -/
theorem Tell.turn {w wr w2 : World} {h B : Nat} {S : Nat → StR} {all : List Hap} {v7 v10 v11 v12 : Value} {K : List Tl} {l' : List Hap} {cl' : Bool} {v : Value} {c : Nat} (P : Tell w wr h B S all v7 v10 v11 v12 K)
    (H' : Hu w2 h B 8 (upd S 3 ⟨(S 3).b, l', cl', v, c⟩)) (ho : Off (ownS (S 3)) wr w2) (hv : v.ownBlock = (S 3).v.ownBlock ∨ ∃ g, v.ownBlock = some g ∧ wr.heap.size ≤ g) (hl : (S 3).l.length ≤ l'.length) :
    Tell w w2 h B (upd S 3 ⟨(S 3).b, l', cl', v, c⟩) all v7 v10 v11 v12 K := by
  have h3 : 3 < 8 := by decide
  refine ⟨H', owns_not P.al ho (fun g hg hk => ?_), P.alt, owns_off P.r10 ho (ownS_no P.hub h3 (by decide) (by decide)), owns_off P.r11 ho (ownS_no P.hub h3 (by decide) (by decide)), owns_off P.r12 ho (ownS_no P.hub h3 (by decide) (by decide)),
    fun k q hk => ⟨owns_not (P.told k q hk).1 ho (fun g hg hn => ?_), (P.told k q hk).2⟩, P.tdis, fun i k q hi hk g hg => ?_, fun k q hk => ?_, P.wdis,
    P.up.trans (ho.below P.up.size (fun k hk => Nat.le_trans P.ge.1 (ownS_ge P.hub h3 k hk))), P.ge.1, Nat.le_trans P.ge.2 ho.size⟩
  · have := ownS_ge P.hub h3 g hk
    have := P.alt g hg
    omega
  · obtain ⟨_, cur, hcur⟩ := rown_ty (P.told k q hk).1 hg
    have hs := P.hub.st 3 h3
    simp only [ownS, List.mem_append, List.mem_cons, List.not_mem_nil, or_false] at hn
    rcases hn with (hn | hn) | hn
    · rw [hn] at hcur; exact no_ty hs.blk (by decide) _ _ hcur
    · obtain ⟨s, r, hch⟩ := hs.chn; rw [hn, hch] at hcur; cases hcur
    · exact P.tst 3 k q h3 hk g hg (by simpa [eq_comm] using hn)
  · by_cases ei : i = 3
    · subst ei
      rw [upd_same]
      show v.ownBlock ≠ _
      rcases hv with h1 | ⟨g', h1, h2⟩
      · rw [h1]; exact P.tst 3 k q hi hk g hg
      · rw [h1]
        intro e2
        injection e2 with e2
        have := ((P.told k q hk).1.lt g hg).2
        omega
    · rw [upd_other _ _ ei]; exact P.tst i k q hi hk g hg
  · obtain ⟨w1, w2', w3⟩ := P.wat k q hk
    rw [upd_same]
    exact ⟨w1.off P.hub h3 ho, Nat.le_trans w2' hl, w3⟩
/-- what stands where rows, or what was told, is turned -/
theorem Tell.gen {w wr w2 : World} {h B : Nat} {S : Nat → StR} {all : List Hap} {v7 v10 v11 v12 v10' v11' v12' : Value} {K K' : List Tl} {L : List Nat} (P : Tell w wr h B S all v7 v10 v11 v12 K) (ho : Off L wr w2)
    (hL : ∀ g ∈ L, B ≤ g ∧ ∃ X ty fr, wr.heap[g]? = some (.cells X ty fr) ∧ ty ∉ [THub, TSt, TWa] ∧ ∀ i, i < 8 → (S i).v.ownBlock ≠ some g)
    (r10 : w2.ownsRow B TPw 1 v10' K'.length (K'.map fun q => Value.pointer (some ⟨q.g, 0, none⟩))) (r11 : w2.ownsRow B THs 1 v11' K'.length (K'.map fun q => q.v)) (r12 : w2.ownsRow B 3 1 v12' K'.length (K'.map fun q => Value.int .i64 q.b))
    (told : ∀ (k : Nat) q, K'[k]? = some q → w2.ownsRow B THp 3 q.v q.t (hapsC ((all.drop q.b).take q.t)) ∧ q.b + q.t ≤ all.length)
    (tdis : ∀ (i j : Nat) q r, K'[i]? = some q → K'[j]? = some r → i ≠ j → ∀ g, q.v.ownBlock = some g → r.v.ownBlock ≠ some g)
    (tst : ∀ (i k : Nat) q, i < 8 → K'[k]? = some q → ∀ g, q.v.ownBlock = some g → (S i).v.ownBlock ≠ some g)
    (wat : ∀ (k : Nat) q, K'[k]? = some q → WaB wr q.g (S 3).b q.p ∧ q.p ≤ (S 3).l.length ∧ B ≤ q.g) (wdis : ∀ (i j : Nat) q r, K'[i]? = some q → K'[j]? = some r → i ≠ j → q.g ≠ r.g) : Tell w w2 h B S all v7 v10' v11' v12' K' := by
  have hk : ∀ (k : Nat) (X : Array Value) (ty : TypeId) (fr : Nat × Nat), wr.heap[k]? = some (.cells X ty fr) → ty ∈ [THub, TSt, TWa] → w2.heap[k]? = some (.cells X ty fr) := fun k X ty fr e ht => (ho.block k (lt_of_block e) (fun hg => by
    obtain ⟨X2, ty2, fr2, e2, hn, _⟩ := (hL k hg).2
    rw [e] at e2; injection e2 with e2; injection e2 with _ e2 _
    exact hn (e2 ▸ ht))).trans e
  refine ⟨⟨hk _ _ _ _ P.hub.blk (by simp), fun j hj => ?_, P.hub.db, P.hub.dc, P.hub.dv, P.hub.ge⟩, owns_not P.al ho (fun g hg hk => ?_), P.alt, r10, r11, r12, told, tdis, tst, fun k q hq => ⟨hk _ _ _ _ (wat k q hq).1 (by simp), (wat k q hq).2⟩, wdis,
    P.up.trans (ho.below P.up.size (fun g hg => Nat.le_trans P.ge.1 (hL g hg).1)), P.ge.1, Nat.le_trans P.ge.2 ho.size⟩
  · have hs := P.hub.st j hj
    refine hs.off ho (fun hg => ?_) (fun hg => ?_) (fun g e hg => ?_)
    · obtain ⟨X2, ty2, fr2, e2, hn, _⟩ := (hL _ hg).2
      rw [hs.blk] at e2; injection e2 with e2; injection e2 with _ e2 _
      exact hn (by rw [← e2]; simp)
    · obtain ⟨X2, ty2, fr2, e2, _⟩ := (hL _ hg).2
      obtain ⟨s, r, e3⟩ := hs.chn
      rw [e2] at e3; cases e3
    · obtain ⟨X2, ty2, fr2, _, _, hn⟩ := (hL _ hg).2
      exact hn j hj e
  · have := (hL g hk).1
    have := P.alt g hg
    omega
theorem tset_get {K : List Tl} {k j : Nat} {q r : Tl} (h : (K.set k q)[j]? = some r) : (j = k ∧ r = q ∧ k < K.length) ∨ (j ≠ k ∧ K[j]? = some r) := by
  by_cases e : j = k
  · subst e
    obtain ⟨hl, hx⟩ := List.getElem?_eq_some_iff.1 h
    rw [List.length_set] at hl
    rw [List.getElem_set_self] at hx
    exact .inl ⟨rfl, hx.symm, hl⟩
  · rw [List.getElem?_set_ne (Ne.symm e)] at h
    exact .inr ⟨e, h⟩
theorem tset_map {α : Type} {K : List Tl} {k : Nat} {q r : Tl} (f : Tl → α) (hk : K[k]? = some q) (he : f r = f q) : (K.set k r).map f = K.map f := by
  refine List.ext_getElem? fun j => ?_
  rw [List.getElem?_map, List.getElem?_map]
  by_cases e : j = k
  · subst e
    rw [List.getElem?_set_self (List.getElem?_eq_some_iff.1 hk).1, hk]; simp [he]
  · rw [List.getElem?_set_ne (Ne.symm e)]
theorem tell_next {w wr : World} {h B : Nat} {S : Nat → StR} {all : List Hap} {v7 v10 v11 v12 : Value} {K : List Tl} (P : Tell w wr h B S all v7 v10 v11 v12 K) {k : Nat} {q : Tl} (hk : K[k]? = some q) (n : Int) (hn : -9223372036854775808 ≤ n ∧ n ≤ 9223372036854775807) :
    Calls Try.prog 17 #[.pointer (some ⟨q.g, 0, none⟩), .int .i64 n] wr fun e w2 => ∃ v', e = .returned (.tuple #[v', .bool (!(S 3).cl || decide (q.p + nx (S 3).l q.p n < (S 3).l.length))]) ∧
      Tell w w2 h B S all v7 v10 v11 v12 (K.set k { q with p := q.p + nx (S 3).l q.p n }) ∧ w2.ownsRow wr.heap.size THp 3 v' (nx (S 3).l q.p n) (hapsC (((S 3).l.drop q.p).take (nx (S 3).l q.p n))) ∧ wr.heap.size ≤ w2.heap.size := by
  obtain ⟨hw, hle, hge⟩ := P.wat k q hk
  have h3 : 3 < 8 := by decide
  have hs := P.hub.st 3 h3
  refine (next_any 3 q.g q.p n wr P.hub h3 P.ge.2 hw hle hn).mono ?_
  rintro e w2 ⟨v', rfl, H2, hw2, hown, ho⟩
  have hq := nx_le (S 3).l q.p n hle
  have hno : ∀ ty : TypeId, ty ≠ TSt → ty ≠ TWa → ∀ g ∈ [(S 3).b, q.g], ∀ cur fr, wr.heap[g]? ≠ some (.cells cur ty fr) := fun ty h1 h2 g hg => by
    simp only [List.mem_cons, List.not_mem_nil, or_false] at hg
    rcases hg with rfl | rfl
    · exact no_ty hs.blk (Ne.symm h1)
    · exact no_ty hw (Ne.symm h2)
  have hm := fun (α : Type) (f : Tl → α) (hf : f { q with p := q.p + nx (S 3).l q.p n } = f q) => tset_map (K := K) (k := k) (q := q) (r := { q with p := q.p + nx (S 3).l q.p n }) f hk hf
  refine ⟨v', rfl, ⟨H2, owns_off P.al ho (hno _ (by decide) (by decide)), P.alt, ?_, ?_, ?_, fun j r hj => ?_, fun i j r1 r2 hi hj hij => ?_, fun i j r hi hj => ?_, fun j r hj => ?_, fun i j r1 r2 hi hj hij => ?_,
    P.up.trans (ho.below P.up.size (fun g hg => by
      simp only [List.mem_cons, List.not_mem_nil, or_false] at hg
      have := P.ge.1
      rcases hg with rfl | rfl
      · have := hs.ge.1; omega
      · omega)), P.ge.1, Nat.le_trans P.ge.2 ho.size⟩, hown, ho.size⟩
  · rw [List.length_set, hm _ _ rfl]; exact owns_off P.r10 ho (hno _ (by decide) (by decide))
  · rw [List.length_set, hm _ _ rfl]; exact owns_off P.r11 ho (hno _ (by decide) (by decide))
  · rw [List.length_set, hm _ _ rfl]; exact owns_off P.r12 ho (hno _ (by decide) (by decide))
  · rcases tset_get hj with ⟨rfl, rfl, _⟩ | ⟨hne, hj⟩
    · exact ⟨owns_off (P.told _ q hk).1 ho (hno _ (by decide) (by decide)), (P.told _ q hk).2⟩
    · exact ⟨owns_off (P.told j r hj).1 ho (hno _ (by decide) (by decide)), (P.told j r hj).2⟩
  · rcases tset_get hi with ⟨rfl, rfl, _⟩ | ⟨hne, hi0⟩ <;> rcases tset_get hj with ⟨rfl, rfl, _⟩ | ⟨hne2, hj0⟩
    · exact absurd rfl hij
    · exact P.tdis _ j q r2 hk hj0 hij
    · exact P.tdis i _ r1 q hi0 hk hij
    · exact P.tdis i j r1 r2 hi0 hj0 hij
  · rcases tset_get hj with ⟨rfl, rfl, _⟩ | ⟨hne, hj⟩
    · exact P.tst i _ q hi hk
    · exact P.tst i j r hi hj
  · rcases tset_get hj with ⟨rfl, rfl, _⟩ | ⟨hne, hj⟩
    · exact ⟨hw2, by show q.p + nx (S 3).l q.p n ≤ (S 3).l.length; omega, hge⟩
    · obtain ⟨t2, t3, t4⟩ := P.wat j r hj
      refine ⟨(ho.block _ (lt_of_block t2) (fun hg => ?_)).trans t2, t3, t4⟩
      simp only [List.mem_cons, List.not_mem_nil, or_false] at hg
      rcases hg with e | e
      · exact no_ty hs.blk (by decide) _ _ (e ▸ t2)
      · exact P.wdis j k r q hj hk hne e
  · rcases tset_get hi with ⟨rfl, rfl, _⟩ | ⟨hne, hi0⟩ <;> rcases tset_get hj with ⟨rfl, rfl, _⟩ | ⟨hne2, hj0⟩
    · exact absurd rfl hij
    · exact P.wdis _ j q r2 hk hj0 hij
    · exact P.wdis i _ r1 q hi0 hk hij
    · exact P.wdis i j r1 r2 hi0 hj0 hij
/-- what came in, out of an own row -/
theorem own_hin {w : World} {B n : Nat} {l : List Hap} {A : Option Addr} {c : Nat} (h : w.ownsRow B THp 3 (.slice A n c) n (hapsC l)) : HIn w A l ∧ l.length = n := by
  have hn : l.length = n := by have := h.1; rw [hapsC_len] at this; omega
  refine ⟨⟨fun e => ?_, fun ad e => ⟨fun hne => ?_, fun j u hu => ?_⟩⟩, hn⟩
  · rcases h.2 with ⟨_, h0⟩ | ⟨g, cap, cur, e2, _⟩
    · exact List.eq_nil_of_length_eq_zero (by omega)
    · rw [e] at e2; cases e2
  · obtain ⟨g, o, e2, hg, _⟩ := own_lies h hne
    rw [e] at e2; cases e2; exact hg
  · have hne : l ≠ [] := fun e0 => by rw [e0] at hu; cases hu
    obtain ⟨g, o, e2, _, hc⟩ := own_lies h hne
    rw [e] at e2; cases e2
    rw [Addr.add_lit]; exact hc j u hu
/-- what is told, appended and written down -/
theorem Tell.tell {w wr w2 : World} {h B g11 c11 n11 : Nat} {S : Nat → StR} {all : List Hap} {v7 v10 v12 v' : Value} {K : List Tl} {k x : Nat} {q : Tl} (P : Tell w wr h B S all v7 v10 (.slice (some ⟨g11, 0, none⟩) n11 c11) v12 K) (hk : K[k]? = some q)
    (hg : wr.grownBy w2 q.v.ownBlock) (hr : w2.ownsRow B THp 3 v' (q.t + x) (hapsC ((all.drop q.b).take (q.t + x)))) (hx : q.b + (q.t + x) ≤ all.length) (hv : v'.ownBlock = q.v.ownBlock ∨ v'.ownBlock = some wr.heap.size) :
    Tell w (w2.setCell ⟨g11, k, none⟩ v') h B S all v7 v10 (.slice (some ⟨g11, 0, none⟩) n11 c11) v12 (K.set k { q with t := q.t + x, v := v' }) := by
  have hn : n11 = K.length := by
    rcases P.r11.2 with ⟨e, _⟩ | ⟨g, cap, cur, e, _⟩
    · cases e
    · cases e; rfl
  subst hn
  have hkl := (List.getElem?_eq_some_iff.1 hk).1
  obtain ⟨hB11, cur11, e11⟩ := rown_ty (g := g11) P.r11 rfl
  have ho1 := off_grown hg
  have ho2 := off_set w2 g11 k v'
  have ho : Off (q.v.ownBlock.toList ++ [g11]) wr (w2.setCell ⟨g11, k, none⟩ v') := (ho1.mono (fun k hk => List.mem_append.2 (.inl hk))).trans ho2 (fun k hk => .inl (List.mem_append.2 (.inr hk)))
  have hty : ∀ ty : TypeId, ty ≠ THp → ty ≠ THs → ∀ g ∈ q.v.ownBlock.toList ++ [g11], ∀ cur fr, wr.heap[g]? ≠ some (.cells cur ty fr) := fun ty t1 t2 g hgm => by
    simp only [List.mem_append, Option.mem_toList, List.mem_singleton] at hgm
    rcases hgm with e | rfl
    · obtain ⟨_, cur, e2⟩ := rown_ty (P.told k q hk).1 e
      exact no_ty e2 (Ne.symm t1)
    · exact no_ty e11 (Ne.symm t2)
  have r11 : w2.ownsRow B THs 1 (.slice (some ⟨g11, 0, none⟩) K.length c11) K.length (K.map fun q => q.v) := owns_off P.r11 ho1 (fun g hgm => by
    obtain ⟨_, cur, e2⟩ := rown_ty (P.told k q hk).1 (by simpa using hgm)
    exact no_ty e2 (by decide))
  have hnew : ∀ j r, K[j]? = some r → j ≠ k → ∀ g, v'.ownBlock = some g → r.v.ownBlock ≠ some g := fun j r hj hne g e1 e2 => by
    rcases hv with e | e
    · rw [e] at e1; exact P.tdis k j q r hk hj (Ne.symm hne) g e1 e2
    · rw [e] at e1; cases e1
      have := ((P.told j r hj).1.lt _ e2).2
      omega
  have hm := fun (α : Type) (f : Tl → α) (hf : f { q with t := q.t + x, v := v' } = f q) => tset_map (K := K) (k := k) (q := q) (r := { q with t := q.t + x, v := v' }) f hk hf
  refine P.gen ho (fun g hgm => ?_) ?_ ?_ ?_ (fun j r hj => ?_) (fun i j r1 r2 hi hj hij g e1 e2 => ?_) (fun i j r hi hj g e1 => ?_) (fun j r hj => ?_) (fun i j r1 r2 hi hj hij => ?_)
  · simp only [List.mem_append, Option.mem_toList, List.mem_singleton] at hgm
    rcases hgm with e | rfl
    · obtain ⟨hb, cur, e2⟩ := rown_ty (P.told k q hk).1 e
      exact ⟨hb, cur, _, _, e2, by decide, fun i hi => P.tst i k q hi hk g e⟩
    · refine ⟨hB11, cur11, _, _, e11, by decide, fun i hi e => ?_⟩
      obtain ⟨_, cur, e2⟩ := rown_ty (P.hub.st i hi).own e
      exact no_ty e11 (by decide) _ _ e2
  · rw [List.length_set, hm _ _ rfl]; exact owns_off P.r10 ho (hty _ (by decide) (by decide))
  · have h2 := (r11.stored k v').1
    rw [List.length_set, List.map_set]; exact h2
  · rw [List.length_set, hm _ _ rfl]; exact owns_off P.r12 ho (hty _ (by decide) (by decide))
  · rcases tset_get hj with ⟨rfl, rfl, _⟩ | ⟨hne, hj⟩
    · refine ⟨owns_off hr ho2 (fun g hgm => ?_), hx⟩
      simp only [List.mem_singleton] at hgm
      subst hgm
      obtain ⟨_, cur, e2⟩ := rown_ty (g := g) r11 rfl
      exact no_ty e2 (by decide)
    · refine ⟨owns_not (P.told j r hj).1 ho (fun g e1 hgm => ?_), (P.told j r hj).2⟩
      simp only [List.mem_append, Option.mem_toList, List.mem_singleton] at hgm
      rcases hgm with e | rfl
      · exact P.tdis k j q r hk hj (Ne.symm hne) g e e1
      · obtain ⟨_, cur, e2⟩ := rown_ty (P.told j r hj).1 e1
        exact no_ty e11 (by decide) _ _ e2
  · rcases tset_get hi with ⟨rfl, rfl, _⟩ | ⟨hne, hi0⟩ <;> rcases tset_get hj with ⟨rfl, rfl, _⟩ | ⟨hne2, hj0⟩
    · exact absurd rfl hij
    · exact hnew j r2 hj0 hne2 g e1 e2
    · exact hnew i r1 hi0 hne g e2 e1
    · exact P.tdis i j r1 r2 hi0 hj0 hij g e1 e2
  · rcases tset_get hj with ⟨rfl, rfl, _⟩ | ⟨hne, hj⟩
    · rcases hv with e | e
      · have e1' : v'.ownBlock = some g := e1
        rw [e] at e1'; exact P.tst i _ q hi hk g e1'
      · have e1' : v'.ownBlock = some g := e1
        rw [e] at e1'; cases e1'
        intro e3
        have := (own_lt (P.hub.st i hi).own e3).1
        omega
    · exact P.tst i j r hi hj g e1
  · rcases tset_get hj with ⟨rfl, rfl, _⟩ | ⟨hne, hj⟩
    · exact P.wat _ q hk
    · exact P.wat j r hj
  · rcases tset_get hi with ⟨rfl, rfl, _⟩ | ⟨hne, hi0⟩ <;> rcases tset_get hj with ⟨rfl, rfl, _⟩ | ⟨hne2, hj0⟩
    · exact absurd rfl hij
    · exact P.wdis _ j q r2 hk hj0 hij
    · exact P.wdis i _ r1 q hi0 hk hij
    · exact P.wdis i j r1 r2 hi0 hj0 hij
/-- the three rows -/
structure TR (w : World) (B : Nat) (v10 v11 v12 : Value) (n10 n11 n12 : Nat) (x10 x11 x12 : List Value) : Prop where
  r10 : w.ownsRow B TPw 1 v10 n10 x10
  r11 : w.ownsRow B THs 1 v11 n11 x11
  r12 : w.ownsRow B 3 1 v12 n12 x12
theorem TR.on {w w' : World} {B : Nat} {v10 v11 v12 : Value} {n10 n11 n12 : Nat} {x10 x11 x12 : List Value} (h : TR w B v10 v11 v12 n10 n11 n12 x10 x11 x12) (hb : Below w.heap.size w w') : TR w' B v10 v11 v12 n10 n11 n12 x10 x11 x12 :=
  ⟨owns_on h.r10 hb, owns_on h.r11 hb, owns_on h.r12 hb⟩
theorem TR.a10 {w w' : World} {B : Nat} {v10 v11 v12 v' : Value} {n10 n11 n12 n' : Nat} {x10 x11 x12 x' : List Value} (h : TR w B v10 v11 v12 n10 n11 n12 x10 x11 x12) (g : w.grownBy w' v10.ownBlock) (r : w'.ownsRow B TPw 1 v' n' x') : TR w' B v' v11 v12 n' n11 n12 x' x11 x12 :=
  ⟨r, h.r11.kept g (rown_ne h.r11 h.r10 (by decide)), h.r12.kept g (rown_ne h.r12 h.r10 (by decide))⟩
theorem TR.a11 {w w' : World} {B : Nat} {v10 v11 v12 v' : Value} {n10 n11 n12 n' : Nat} {x10 x11 x12 x' : List Value} (h : TR w B v10 v11 v12 n10 n11 n12 x10 x11 x12) (g : w.grownBy w' v11.ownBlock) (r : w'.ownsRow B THs 1 v' n' x') : TR w' B v10 v' v12 n10 n' n12 x10 x' x12 :=
  ⟨h.r10.kept g (rown_ne h.r10 h.r11 (by decide)), r, h.r12.kept g (rown_ne h.r12 h.r11 (by decide))⟩
theorem TR.a12 {w w' : World} {B : Nat} {v10 v11 v12 v' : Value} {n10 n11 n12 n' : Nat} {x10 x11 x12 x' : List Value} (h : TR w B v10 v11 v12 n10 n11 n12 x10 x11 x12) (g : w.grownBy w' v12.ownBlock) (r : w'.ownsRow B 3 1 v' n' x') : TR w' B v10 v11 v' n10 n11 n' x10 x11 x' :=
  ⟨h.r10.kept g (rown_ne h.r10 h.r12 (by decide)), h.r11.kept g (rown_ne h.r11 h.r12 (by decide)), r⟩
theorem Tell.three {w wr : World} {h B : Nat} {S : Nat → StR} {all : List Hap} {v7 v10 v11 v12 : Value} {K : List Tl} (P : Tell w wr h B S all v7 v10 v11 v12 K) : TR wr B v10 v11 v12 K.length K.length K.length (K.map fun q => Value.pointer (some ⟨q.g, 0, none⟩)) (K.map fun q => q.v) (K.map fun q => Value.int .i64 q.b) := ⟨P.r10, P.r11, P.r12⟩
theorem Tell.more {w wr w2 : World} {h B : Nat} {S : Nat → StR} {all : List Hap} {v7 v10 v11 v12 v10' v11' v12' : Value} {K : List Tl} {L : List Nat} {g b : Nat} (P : Tell w wr h B S all v7 v10 v11 v12 K) (ho : Off L wr w2)
    (hL : ∀ g ∈ L, v10.ownBlock = some g ∨ v11.ownBlock = some g ∨ v12.ownBlock = some g)
    (T : TR w2 B v10' v11' v12' (K.length + 1) (K.length + 1) (K.length + 1) ((K.map fun q => Value.pointer (some ⟨q.g, 0, none⟩)) ++ [.pointer (some ⟨g, 0, none⟩)]) ((K.map fun q => q.v) ++ [.slice none 0 0]) ((K.map fun q => Value.int .i64 q.b) ++ [.int .i64 b]))
    (hw : WaB wr g (S 3).b b) (hle : b ≤ (S 3).l.length) (hall : b ≤ all.length) (hge : B ≤ g) (hnew : ∀ (j : Nat) r, K[j]? = some r → r.g ≠ g) : Tell w w2 h B S all v7 v10' v11' v12' (K ++ [(⟨g, b, b, 0, .slice none 0 0⟩ : Tl)]) := by
  have hl : (K ++ [(⟨g, b, b, 0, .slice none 0 0⟩ : Tl)]).length = K.length + 1 := by simp
  have hcase : ∀ (j : Nat) r, (K ++ [(⟨g, b, b, 0, .slice none 0 0⟩ : Tl)])[j]? = some r → K[j]? = some r ∨ (j = K.length ∧ r = ⟨g, b, b, 0, .slice none 0 0⟩) := fun j r hj => by
    by_cases hlt : j < K.length
    · rw [List.getElem?_append_left hlt] at hj; exact .inl hj
    · rw [List.getElem?_append_right (by omega)] at hj
      obtain ⟨hlt2, hx⟩ := List.getElem?_eq_some_iff.1 hj
      simp at hlt2 hx
      exact .inr ⟨by omega, hx.symm⟩
  have hst : ∀ g ∈ L, ∃ cur ty, wr.heap[g]? = some (.cells cur ty (0, 0)) ∧ B ≤ g ∧ (ty = TPw ∨ ty = THs ∨ ty = 3) := fun g hg => by
    rcases hL g hg with e | e | e
    · obtain ⟨h1, c, h2⟩ := rown_ty P.r10 e; exact ⟨c, _, h2, h1, .inl rfl⟩
    · obtain ⟨h1, c, h2⟩ := rown_ty P.r11 e; exact ⟨c, _, h2, h1, .inr (.inl rfl)⟩
    · obtain ⟨h1, c, h2⟩ := rown_ty P.r12 e; exact ⟨c, _, h2, h1, .inr (.inr rfl)⟩
  have hhp : ∀ g ∈ L, ∀ cur fr, wr.heap[g]? ≠ some (.cells cur THp fr) := fun g hg => by
    obtain ⟨c, ty, e, _, ht⟩ := hst g hg
    rcases ht with rfl | rfl | rfl <;> exact no_ty e (by decide)
  refine P.gen ho (fun g hg => ?_) ?_ ?_ ?_ (fun j r hj => ?_) (fun i j r1 r2 hi hj hij g e1 e2 => ?_) (fun i j r hi hj g e1 => ?_) (fun j r hj => ?_) (fun i j r1 r2 hi hj hij => ?_)
  · obtain ⟨c, ty, e, hB, ht⟩ := hst g hg
    refine ⟨hB, c, ty, _, e, ?_, fun i hi e2 => ?_⟩
    · rcases ht with rfl | rfl | rfl <;> decide
    · obtain ⟨_, cur, e3⟩ := rown_ty (P.hub.st i hi).own e2
      exact hhp g hg _ _ e3
  · rw [hl, List.map_append]; exact T.r10
  · rw [hl, List.map_append]; exact T.r11
  · rw [hl, List.map_append]; exact T.r12
  · rcases hcase j r hj with h1 | ⟨_, rfl⟩
    · exact ⟨owns_off (P.told j r h1).1 ho hhp, (P.told j r h1).2⟩
    · exact ⟨⟨by simp [hapsC], .inl ⟨rfl, rfl⟩⟩, hall⟩
  · rcases hcase i r1 hi with h1 | ⟨i1, rfl⟩ <;> rcases hcase j r2 hj with h2 | ⟨i2, rfl⟩
    · exact P.tdis i j r1 r2 h1 h2 hij g e1 e2
    · cases e2
    · cases e1
    · omega
  · rcases hcase j r hj with h1 | ⟨_, rfl⟩
    · exact P.tst i j r hi h1 g e1
    · cases e1
  · rcases hcase j r hj with h1 | ⟨_, rfl⟩
    · exact P.wat j r h1
    · exact ⟨hw, hle, hge⟩
  · rcases hcase i r1 hi with h1 | ⟨e1, rfl⟩ <;> rcases hcase j r2 hj with h2 | ⟨e2, rfl⟩
    · exact P.wdis i j r1 r2 h1 h2 hij
    · exact hnew i r1 h1
    · exact Ne.symm (hnew j r2 h2)
    · omega
theorem info_hs : (Try.prog.info? THs).map (fun i => (i.zero, i.size, i.bytes)) = some (some (.slice none 0 0), 1, 24) := by kernel_rfl
/-- what came in behind an own row, however much it is -/
theorem wpList_append_much {ops : Array Oper} {rest : List Oper} {o : Oper} {a : Act} {w : World} {Q : Exit → Act → World → Prop} (hgd : o.guard = none) (s x : Operand) (ho : o.op = .call { callee := .builtin .append, args := #[s, x], argTypes := #[THs, THs] })
    (B : Nat) (hB : B ≤ w.heap.size) (v : Value) (n : Nat) (xs : List Value) (hs : a.eval s = v) (hown : w.ownsRow B THp 3 v n xs) (A : Option Addr) (m : List Hap) (c : Nat) (hx : a.eval x = .slice A m.length c) (hin : HIn w A m) (hn : n ≤ 4096) (hm : m.length ≤ 4398046511104)
    (h : ∀ v' w2, w2.ownsRow B THp 3 v' (n + m.length) (xs ++ hapsC m) → w.grownBy w2 v.ownBlock → wpList Try.prog ops Q rest (a.put o.dst v') w2) : wpList Try.prog ops Q (o :: rest) a w := by
  obtain ⟨i0, hi, hz0, hz1, hz2⟩ := info_parts info_hap
  rcases A with _ | ad
  · obtain rfl := hin.nil rfl
    refine wpList_append_none hgd s x ho B n c v xs hs hown hx ?_
    exact h v w (by rw [show hapsC [] = [] from rfl, List.append_nil]; exact hown) ⟨rfl, rfl, rfl, Nat.le_refl _, fun _ _ _ => rfl⟩
  · obtain ⟨A0, c0, rfl⟩ := own_slice hown
    refine wpList_append_own_wide _ hgd s x THs ho B THp i0 _ 3 32 Try.underlying27 hi hz0 hz1 hz2 rfl (by decide) (.slice A0 n c0) n xs hs hown ad m.length c (hapsC m) hx (hapsC_len m) (hin.at' ad rfl).2 (hapsC_one m) (by unfold maxLen; omega) (by omega) hB ?_
    intro v' w2 h1 h2 _
    exact h v' w2 h1 h2
end Go.Proofs.Ytlddeagolhdieaa
