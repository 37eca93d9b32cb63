/- HubTells: parts one behind the other. -/
import Derived.Test.YtlddeagolhdieaaHubTell
import Derived.Test.YtlddeagolhdieaaHubOpen2
namespace Go.Proofs.Ytlddeagolhdieaa
open Go.RowKit Go.MuLone Go.Conc

def cat (ps : List PIn) (i : Nat) : List Hap := (ps.take i).flatMap fun p => p.l
theorem cat_succ {ps : List PIn} {i : Nat} {p : PIn} (h : ps[i]? = some p) : cat ps (i + 1) = cat ps i ++ p.l := by
  obtain ⟨hl, hx⟩ := List.getElem?_eq_some_iff.1 h
  unfold cat
  rw [List.take_add_one, h, List.flatMap_append]
  simp
theorem cat_all {ps : List PIn} {i : Nat} (h : ps.length ≤ i) : cat ps i = cat ps ps.length := by
  unfold cat
  rw [List.take_of_length_le h, List.take_of_length_le (Nat.le_refl _)]
theorem cat_pre (ps : List PIn) (i : Nat) : ∃ r, cat ps ps.length = cat ps i ++ r := by
  refine ⟨(ps.drop i).flatMap fun p => p.l, ?_⟩
  unfold cat
  rw [← List.flatMap_append, List.take_append_drop, List.take_of_length_le (Nat.le_refl _)]
theorem cat_le (ps : List PIn) (i : Nat) : (cat ps i).length ≤ (cat ps ps.length).length := by
  obtain ⟨r, e⟩ := cat_pre ps i
  rw [e, List.length_append]; omega
theorem told_more {all l r : List Hap} {b t p x : Nat} (e : all = l ++ r) (hp : p = b + t) (hx : p + x ≤ l.length) : (all.drop b).take t ++ (l.drop p).take x = (all.drop b).take (t + x) := by
  subst hp
  have h1 : (l.drop (b + t)).take x = (all.drop (b + t)).take x := by
    rw [e, List.drop_append_of_le_length (by omega), List.take_append_of_le_length (by rw [List.length_drop]; omega)]
  rw [h1, List.take_add, List.drop_drop]
theorem nx_all {l : List Hap} {p : Nat} (hp : p ≤ l.length) (hl : l.length ≤ 4096) : nx l p 4097 = l.length - p := by
  unfold nx
  repeat' split
  all_goals omega
theorem nx_most (l : List Hap) (p : Nat) (n : Int) (hp : p ≤ l.length) : ((nx l p n : Nat) : Int) ≤ (if n < 0 then 0 else n) := by
  unfold nx
  repeat' split
  all_goals omega
/-- at the start -/
theorem Tell.start {w w0 w1 : World} {S : Nat → StR} {all : List Hap} {v7 : Value} (h0 : Below w.heap.size w w0) (H : Hu w1 w0.heap.size w0.heap.size 8 S) (hb : Below w0.heap.size w0 w1) (h7 : w0.ownsRow w.heap.size THp 3 v7 all.length (hapsC all)) :
    Tell w w1 w0.heap.size w0.heap.size S all v7 (.slice none 0 0) (.slice none 0 0) (.slice none 0 0) [] := by
  have hn : ∀ (e : TypeId), w1.ownsRow w0.heap.size e 1 (.slice none 0 0) 0 [] := fun e => ⟨by simp, .inl ⟨rfl, rfl⟩⟩
  exact ⟨H, owns_on h7 hb, fun g hg => (h7.lt g hg).2, hn _, hn _, hn _, fun k q hk => (by simp at hk), fun i j q r hq => (by simp at hq), fun i k q _ hq => (by simp at hq), fun k q hk => (by simp at hk), fun i j q r hq => (by simp at hq),
    h0.trans (hb.mono h0.size), h0.size, hb.size⟩
section
variable {w wr : World} {h B : Nat} {S : Nat → StR} {all : List Hap} {v7 v10 v11 v12 : Value} {K : List Tl}
theorem tell_add (P : Tell w wr h B S all v7 v10 v11 v12 K) (A : Option Addr) (m : List Hap) (cap : Nat) (hin : HIn w A m) (hcl : (S 3).cl = false) (hl : (S 3).l.length + m.length ≤ 4096) :
    Calls Try.prog 11 #[.pointer (some ⟨h, 0, none⟩), .int .i64 3, .slice A m.length cap] wr fun e w2 => e = .returned (.int .i64 0) ∧ ∃ S', Tell w w2 h B S' all v7 v10 v11 v12 K ∧ (S' 3).l = (S 3).l ++ m ∧ (S' 3).cl = false := by
  have h3 : 3 < 8 := by decide
  have hL : addL (S 3).l (S 3).cl m = (S 3).l ++ m := by unfold addL; rw [hcl, if_neg (by decide), if_neg (by omega)]
  have hE : addE (S 3).l (S 3).cl m = 0 := by unfold addE; rw [hcl, if_neg (by decide), if_neg (by omega)]
  refine (hadd_any 3 A m cap wr P.hub h3 P.ge.2 (hin.src P.up (Nat.le_trans P.ge.1 (P.hub.st 3 h3).ge.1)) (by omega)).mono ?_
  rintro e w2 ⟨v, c, rfl, H', ho, _, hv⟩
  rw [hL] at H'
  exact ⟨by rw [hE], _, P.turn H' ho hv (by simp), by rw [upd_same], by rw [upd_same]; exact hcl⟩
theorem tell_close (P : Tell w wr h B S all v7 v10 v11 v12 K) (hcl : (S 3).cl = false) :
    Calls Try.prog 13 #[.pointer (some ⟨h, 0, none⟩), .int .i64 3] wr fun e w2 => e = .returned (.int .i64 0) ∧ ∃ S', Tell w w2 h B S' all v7 v10 v11 v12 K ∧ (S' 3).l = (S 3).l ∧ (S' 3).cl = true := by
  have h3 : 3 < 8 := by decide
  refine (hclose_any 3 wr P.hub h3 P.ge.2).mono ?_
  rintro e w2 ⟨v, c, rfl, H', ho, _, hv⟩
  exact ⟨by rw [hcl]; rfl, _, P.turn H' ho hv (Nat.le_refl _), by rw [upd_same], by rw [upd_same]⟩
theorem tell_watch (P : Tell w wr h B S all v7 v10 v11 v12 K) (from' : Int) :
    Calls Try.prog 15 #[.pointer (some ⟨h, 0, none⟩), .int .i64 3, .int .i64 from'] wr (WatchIs 3 S from' wr) := hwatch_any 3 from' wr P.hub (by decide)
theorem tell_len (P : Tell w wr h B S all v7 v10 v11 v12 K) (m : Nat) :
    Calls Try.prog 22 #[.pointer (some ⟨h, 0, none⟩), .int .i64 3] (wr.drewN m) fun e w' => e = .returned (.int .i64 (S 3).l.length) ∧ w' = wr.drewN m := hlen_any 3 (wr.drewN m) (P.hub.on (below_drewN wr m)) (by decide)
end
theorem low_cell {w w' : World} {L : List Nat} {s : Nat} {a : Addr} {v : Value} (ho : Off L w w') (h : w.cell? a = some v) (hL : ∀ g ∈ L, s ≤ g) (ha : a.block < s) : w'.cell? a = some v :=
  (World.cell?_of_block (ho.block _ (World.block_lt_of_cell? w _ h) (fun hg => by have := hL _ hg; omega))).trans h
end Go.Proofs.Ytlddeagolhdieaa
