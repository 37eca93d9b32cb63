/- A stream's add. -/
import Derived.Test.YtlddeagolhdieaaHubAtom
import Derived.Maps.AppendAt
import Derived.OwnWalk
import Derived.StillTailTactics
namespace Go.Proofs.Ytlddeagolhdieaa
open Go.RowKit Go.MuLone Go.Conc

abbrev THs : TypeId := 27
theorem info_hap : (Try.prog.info? THp).map (fun i => (i.zero, i.size, i.bytes)) = some (some (.agg #[.int .i64 0, .string ByteArray.empty, .int .i64 0]), 3, 32) := by kernel_rfl
theorem hapsC_one (l : List Hap) : ∀ u ∈ hapsC l, u.oneCell' = true := by
  intro u hu
  simp only [hapsC, List.mem_flatMap, hapC, List.mem_cons, List.not_mem_nil, or_false] at hu
  obtain ⟨h, _, rfl | rfl | rfl⟩ := hu <;> rfl

/-- happenings that are handed in: where they lie -/
structure Src (w : World) (b : Nat) (A : Option Addr) (m : List Hap) : Prop where
  nil : A = none → m = []
  at' : ∀ ad, A = some ad → (m ≠ [] → ad.block ≠ b) ∧ ∀ j u, (hapsC m)[j]? = some u → w.cell? (ad.add j) = some u

theorem append_none (ty : TypeId) (w : World) (B n : Nat) (v : Value) (xs : List Value) (c : Nat) (h : w.ownsRow B THp 3 v n xs) :
    (Builtin.append_ #[THs, THs] ty #[v, .slice none 0 c]).run Try.prog w = .ok v w := by
  obtain ⟨i0, hi, hz0, hz1, hz2⟩ := info_parts info_hap
  rcases h.2 with ⟨rfl, rfl⟩ | ⟨g, cap, cur, rfl, hB, hg, hn, _⟩
  · simp [Builtin.append_, run_underlying Try.underlying27, sizeOf, typeInfo, hi, Builtin.lenOf, Builtin.firstCells]
  · simp [Builtin.append_, run_underlying Try.underlying27, sizeOf, typeInfo, hi, Builtin.lenOf, Builtin.firstCells, hn, storeCells]

theorem wpList_append_none {ops : Array Oper} {rest : List Oper} {o : Oper} {a : Act} {w : World} {Q : Exit → Act → World → Prop} (hgd : o.guard = none) (s x : Operand) (ho : o.op = .call { callee := .builtin .append, args := #[s, x], argTypes := #[THs, THs] })
    (B n c : Nat) (v : Value) (xs : List Value) (hs : a.eval s = v) (hown : w.ownsRow B THp 3 v n xs) (hx : a.eval x = .slice none 0 c) (h : wpList Try.prog ops Q rest (a.put o.dst v) w) : wpList Try.prog ops Q (o :: rest) a w :=
  wpList_plain hgd fun K hK => by
    have hr := append_none o.type w B n v xs c hown
    unfold Oper.wp execOp
    simp only [ho, resolve, invoke, builtin, Sem.run_bind, Sem.run_pure, Result.andThen_ok, List.map_toArray, List.map_cons, List.map_nil, hs, hx, hr]
    exact hK _ _ h

theorem own_ne {w : World} {B n b : Nat} {v : Value} {xs : List Value} {Y : Array Value} {fr : Nat × Nat} (h : w.ownsRow B THp 3 v n xs) (hb : w.heap[b]? = some (.cells Y TSt fr)) : v.ownBlock ≠ some b := by
  rcases h.2 with ⟨rfl, _⟩ | ⟨g, cap, cur, rfl, _, hg, _⟩
  · intro e; cases e
  · intro e
    simp only [Value.ownBlock, Option.some.injEq] at e
    subst e
    rw [hb] at hg
    injection hg with hg; injection hg with _ e _; exact absurd e (by decide)
theorem own_nec {w : World} {B n c : Nat} {v : Value} {xs : List Value} {k s r : Nat} {X : Array Value} {cl tm : Bool} (h : w.ownsRow B THp 3 v n xs) (hc : w.heap[c]? = some (.chan k X cl s r tm)) : v.ownBlock ≠ some c := by
  rcases h.2 with ⟨rfl, _⟩ | ⟨g, cap, cur, rfl, _, hg, _⟩
  · intro e; cases e
  · intro e
    simp only [Value.ownBlock, Option.some.injEq] at e
    subst e
    rw [hc] at hg; cases hg
theorem off_grown {w w' : World} {r : Option Nat} (h : w.grownBy w' r) : Off r.toList w w' := ⟨h.os, h.tape, h.output, h.size, fun k hk hn => h.block k hk (fun e => hn (by rw [← e]; simp))⟩

theorem own_slice {w : World} {B n : Nat} {v : Value} {xs : List Value} (h : w.ownsRow B THp 3 v n xs) : ∃ A c, v = .slice A n c := by
  rcases h.2 with ⟨rfl, h0⟩ | ⟨g, cap, cur, rfl, _⟩
  · rw [h0]; exact ⟨none, 0, rfl⟩
  · exact ⟨_, _, rfl⟩

def addE (l : List Hap) (cl : Bool) (m : List Hap) : Int := if cl then 9 else if 4096 < l.length + m.length then 8 else 0
def addL (l : List Hap) (cl : Bool) (m : List Hap) : List Hap := if cl then l else if 4096 < l.length + m.length then l else l ++ m
def AddIs (B b c : Nat) (l : List Hap) (cl : Bool) (v : Value) (m : List Hap) (w : World) (e : Ending) (w' : World) : Prop :=
  ∃ v' c', e = .returned (.int .i64 (addE l cl m)) ∧ St w' B b (addL l cl m) cl v' c' ∧ Off ([b, c] ++ v.ownBlock.toList) w w' ∧ (c' = c ∨ w.heap.size ≤ c') ∧ (v'.ownBlock = v.ownBlock ∨ ∃ g, v'.ownBlock = some g ∧ w.heap.size ≤ g)

set_option maxRecDepth 100000 in
set_option maxHeartbeats 8000000 in
theorem add_any (B b c : Nat) (l : List Hap) (cl : Bool) (v : Value) (A : Option Addr) (m : List Hap) (cap : Nat) (w : World) (hs : St w B b l cl v c) (hB : B ≤ w.heap.size) (hA : Src w b A m) (hm : m.length ≤ 1000000000000) :
    Calls Try.prog 26 #[.pointer (some ⟨b, 0, none⟩), .slice A m.length cap] w (AddIs B b c l cl v m w) := by
  have h0 : w.cell? ⟨b, 0, none⟩ = some (.int .i32 0) := by rw [cell_of_row w b 0 _ _ _ hs.blk]; rfl
  have f0 : w.frozen? ⟨b, 0, none⟩ = false := frozen_of_row w b 0 _ _ hs.blk
  have h1 : (w.setCell ⟨b, 0, none⟩ (.int .i32 1)).heap[b]? = some (.cells (stL v l.length cl c) TSt (0, 0)) := heap_setCell_same _ b 0 _ _ (.int .i32 1) hs.blk
  have o1 := (off_set w b 0 (.int .i32 1)).mono (T := [b, c] ++ v.ownBlock.toList) (by simp)
  have o1' := off_set w b 0 (.int .i32 1)
  have hsrc : Src (w.setCell ⟨b, 0, none⟩ (.int .i32 1)) b A m := ⟨hA.nil, fun ad e => ⟨(hA.at' ad e).1, fun j u hu => by
    have h := (hA.at' ad e).2 j u hu
    rw [World.cell?_setCell_other _ _ _ _ (by intro e2; have := congrArg Addr.block e2; have h3 := (hA.at' ad e).1 (fun e0 => by rw [e0] at hu; cases hu); rw [show (ad.add j).block = ad.block by unfold Addr.add; split <;> rfl] at this; exact h3 this.symm)]
    exact h⟩⟩
  have H1 := Lib.hid (And.intro h1 (And.intro o1 (And.intro (own_off hs.own o1' (fun g hg => by simp only [List.mem_singleton] at hg; subst hg; exact hs.nb)) (And.intro hs.chn (And.intro hs.ne hsrc)))))
  have HS := Lib.hid hs
  clear hs h1 o1 o1' hA hsrc
  go_enter_defers Try.func26, Try.ntmps26
  go_upto_region 1 with (fail)
  go_wp2_with fail
  refine (lock_free muLib ⟨b, 0, none⟩ _ h0 f0).mono ?_
  rintro e w1 ⟨rfl, hw1⟩
  rw [← hw1] at H1
  have hcc : w1.heap[c]? = w.heap[c]? := by rw [hw1]; exact Below.heap_setCell _ _ _ _ (Ne.symm H1.out.2.2.2.2.1)
  have hsz : w1.heap.size = w.heap.size := by rw [hw1]; simp
  have HSZ := Lib.hid hsz
  have HCC := Lib.hid hcc
  clear hw1 h0 f0 hcc hsz
  have h4 : w1.cell? ⟨b, 4, none⟩ = some (.bool cl) := by rw [cell_of_row w1 b 4 _ _ _ H1.out.1]; rfl
  have HCH : Hid (∃ s r, w1.heap[c]? = some (.chan 0 #[] false s r false)) := Lib.hid (by rw [HCC.out]; exact HS.out.chn)
  cases cl with
  | true =>
    go_wp2_with fail
    refine leaves_cons (f := 37) (args := #[.pointer (some ⟨b, 0, none⟩)]) (by simp) (by simp [go_sem]) ?_
    refine (unlock_deferred muLib ⟨b, 0, none⟩ .returning _ (by rw [cell_of_row w1 b 0 _ _ _ H1.out.1]; rfl) (frozen_of_row w1 b 0 _ _ H1.out.1)).mono ?_
    rintro e u' w'' ⟨rfl, rfl, rfl⟩
    obtain ⟨p1, p2, p3, _, _⟩ := H1.out
    have hf := HS.out.freed p1 p2 (by simp) p3 HCH.out HS.out.ge.2 HS.out.lim
    exact ⟨_, results_tmp rfl _ _ _, v, c, rfl, hf.1, hf.2, .inl rfl, .inl rfl⟩
  | false =>
    obtain ⟨A0, c0, hv⟩ : ∃ A0 c0, v = .slice A0 l.length c0 := by
      rcases HS.out.own.2 with ⟨rfl, h⟩ | ⟨g, cap, cur, rfl, _⟩
      · rw [h]; exact ⟨none, 0, rfl⟩
      · exact ⟨_, _, rfl⟩
    have h2 : w1.cell? ⟨b, 2, none⟩ = some (.slice A0 l.length c0) := by rw [cell_of_row w1 b 2 _ _ _ H1.out.1, ← hv]; rfl
    have hlim := HS.out.lim
    have HV := Lib.hid hv
    clear hv
    by_cases hl : 4096 < l.length + m.length
    · have h3 : decide (4096 < (l.length : Int) + m.length) = true := decide_eq_true (by omega)
      go_wp2_with fail
      refine leaves_cons (f := 37) (args := #[.pointer (some ⟨b, 0, none⟩)]) (by simp) (by simp [go_sem]) ?_
      refine (unlock_deferred muLib ⟨b, 0, none⟩ .returning _ (by rw [cell_of_row w1 b 0 _ _ _ H1.out.1]; rfl) (frozen_of_row w1 b 0 _ _ H1.out.1)).mono ?_
      rintro e u' w'' ⟨rfl, rfl, rfl⟩
      obtain ⟨p1, p2, p3, _, _⟩ := H1.out
      have hf := HS.out.freed p1 p2 (by simp) p3 HCH.out HS.out.ge.2 HS.out.lim
      exact ⟨_, results_tmp rfl _ _ _, v, c, by unfold addE; rw [if_neg (by decide), if_pos hl]; rfl, by unfold addL; rw [if_neg (by decide), if_pos hl]; exact hf.1, hf.2, .inl rfl, .inl rfl⟩
    · have h3 : decide (4096 < (l.length : Int) + m.length) = false := decide_eq_false (by omega)
      obtain ⟨i0, hi, hz0, hz1, hz2⟩ := info_parts info_hap
      have HOWN := Lib.hid H1.out.2.2.1
      have hB1 : B ≤ w1.heap.size := by rw [HSZ.out]; exact hB
      rcases A with _ | ad
      · have hm0 := H1.out.2.2.2.2.2.nil rfl
        subst hm0
        rw [HV.out] at HOWN
        have f2 : w1.frozen? ⟨b, 2, none⟩ = false := frozen_of_row w1 b 2 _ _ H1.out.1
        go_upto_region 7 with (fail)
        go_wp2_with (at_builtin; refine wpList_append_none rfl _ _ rfl B l.length cap (.slice A0 l.length c0) (hapsC l) rfl HOWN.out rfl ?_)
        have hb2 := H1.out.1
        have hown := HOWN.out
        have hoff : Off ([b, c] ++ v.ownBlock.toList) w w1 := H1.out.2.1
        have hat' : (Value.slice A0 l.length c0).ownBlock = v.ownBlock ∨ ∃ g, (Value.slice A0 l.length c0).ownBlock = some g ∧ w.heap.size ≤ g := .inl (by rw [HV.out])
        have hch2 := HCH.out
        have h3b : (w1.setCell ⟨b, 2, none⟩ (.slice A0 l.length c0)).heap[b]? = some (.cells (stL (.slice A0 l.length c0) l.length false c) TSt (0, 0)) := heap_setCell_same _ b 2 _ _ _ hb2
        have ho3 := off_set w1 b 2 (.slice A0 l.length c0)
        have hlen : l.length ≤ 4096 := by omega
        have HX := Lib.hid (And.intro h3b (And.intro hoff (And.intro hat' (And.intro hch2 (And.intro hown (And.intro hb2 ho3))))))
        clear h3b hoff hat' hch2 hown hb2 ho3 f2 h4 h2 h3
        generalize w1.setCell ⟨b, 2, none⟩ (.slice A0 l.length c0) = w3 at *
        have e2 : w3.cell? ⟨b, 2, none⟩ = some (.slice A0 l.length c0) := by rw [cell_of_row w3 b 2 _ _ _ HX.out.1]; rfl
        have e3 : w3.cell? ⟨b, 3, none⟩ = some (.int .i64 l.length) := by rw [cell_of_row w3 b 3 _ _ _ HX.out.1]; rfl
        have f3 : w3.frozen? ⟨b, 3, none⟩ = false := frozen_of_row w3 b 3 _ _ HX.out.1
        change Code.wp _ _ _ _ _
        go_still_tail 8, (by kernel_rfl)
        change wpList _ _ _ _ _ w3.drew
        have HO4 := Lib.hid (show Off [] w3 w3.drew from ⟨rfl, rfl, rfl, Nat.le_refl _, fun _ _ _ => rfl⟩)
        have HB4 : Hid (w3.drew.heap[b]? = some (.cells (stL (.slice A0 l.length c0) l.length false c) TSt (0, 0))) := Lib.hid HX.out.1
        clear e2 e3 f3
        generalize w3.drew = w4 at *
        go_wp2_with fail
        refine (store64_any b 3 l.length (l.length : Int) w4 (by rw [cell_of_row w4 b 3 _ _ _ HB4.out]; rfl) (frozen_of_row w4 b 3 _ _ HB4.out)).mono ?_
        rintro e w5 ⟨rfl, hw5⟩
        have hb5 : w5.heap[b]? = some (.cells (stL (.slice A0 l.length c0) l.length false c) TSt (0, 0)) := by
          rw [hw5]
          have h := heap_setCell_same w4 b 3 _ _ (.int .i64 (l.length : Int)) HB4.out
          rw [h]
          rfl
        have ho5 : Off [b] w4 w5 := by rw [hw5]; exact off_set w4 b 3 _
        obtain ⟨p1, p2, p3, ⟨s, r, p4⟩, p5, p6, p7⟩ := HX.out
        have hbc : b ≠ c := H1.out.2.2.2.2.1
        have hc5 : w5.heap[c]? = some (.chan 0 #[] false s r false) := by
          have q1 := (p7.block c (lt_of_block p4) (by simp; exact fun e => hbc e.symm)).trans p4
          have q2 := (HO4.out.block c (lt_of_block q1) (by simp)).trans q1
          exact (ho5.block c (lt_of_block q2) (by simp; exact fun e => hbc e.symm)).trans q2
        have own3 := own_off p5 p7 (fun g hg => by simp only [List.mem_singleton] at hg; subst hg; exact st_no p6)
        have own4 := own_off own3 HO4.out (fun g hg => by cases hg)
        have own5 := own_off own4 ho5 (fun g hg => by simp only [List.mem_singleton] at hg; subst hg; exact st_no HB4.out)
        have off5 : Off ([b, c] ++ v.ownBlock.toList) w w5 := ((p2.trans p7 (fun k hk => .inl (by simp only [List.mem_singleton] at hk; simp [hk]))).trans HO4.out (fun k hk => by cases hk)).trans ho5 (fun k hk => .inl (by simp only [List.mem_singleton] at hk; simp [hk]))
        have H5 := Lib.hid (And.intro hb5 (And.intro hc5 (And.intro own5 (And.intro off5 p3))))
        clear hw5 hb5 ho5 p1 p2 p3 p4 p5 p6 p7 hbc hc5 own3 own4 own5 off5
        go_wp2_with fail
        refine (wake_any b c s r l.length _ false w5 H5.out.1 H5.out.2.1).mono ?_
        rintro e w6 ⟨rfl, hb6, hc6, ho6⟩
        have H6 := Lib.hid (And.intro hb6 (And.intro hc6 ho6))
        clear hb6 hc6 ho6
        go_wp2_with fail
        refine leaves_cons (f := 37) (args := #[.pointer (some ⟨b, 0, none⟩)]) (by simp) (by simp [go_sem]) ?_
        refine (unlock_deferred muLib ⟨b, 0, none⟩ .returning _ (by rw [cell_of_row w6 b 0 _ _ _ H6.out.1]; rfl) (frozen_of_row w6 b 0 _ _ H6.out.1)).mono ?_
        rintro e u' w'' ⟨rfl, rfl, rfl⟩
        obtain ⟨q1, q2, q3⟩ := H6.out
        obtain ⟨p1, p2, p3, p4, p5⟩ := H5.out
        have own6 := own_off p3 q3 (no_of (st_no p1) (ch_no p2))
        have off6 : Off ([b, c] ++ v.ownBlock.toList) w w6 := p4.trans q3 (fun k hk => .inl (by simp only [List.mem_append]; exact .inl hk))
        have hll : (l ++ ([] : List Hap)).length = l.length := by rw [List.append_nil]
        have hf := HS.out.freed (l' := l ++ []) (by rw [hll]; exact q1) off6 (by simp) (by rw [hll, List.append_nil]; exact own6) ⟨0, 0, q2⟩ (Nat.le_trans hB p4.size) (by rw [hll]; exact hlen)
        exact ⟨_, results_tmp rfl _ _ _, _, _, by unfold addE; rw [if_neg (by decide), if_neg hl]; rfl, by unfold addL; rw [if_neg (by decide), if_neg hl]; exact hf.1, hf.2, .inr p4.size, p5⟩
      · have hnews := (H1.out.2.2.2.2.2.at' ad rfl).2
        rw [HV.out] at HOWN
        go_upto_region 7 with (fail)
        go_wp2_with (at_builtin; refine wpList_append_own_at _ rfl _ _ THs rfl B THp i0 _ 3 32 Try.underlying27 hi hz0 hz1 hz2 rfl (by decide) (.slice A0 l.length c0) l.length (hapsC l) rfl HOWN.out ad m.length cap (hapsC m) rfl (hapsC_len m) hnews (hapsC_one m) (by unfold maxLen; omega) (by omega) hB1 ?_; intro v' w2 hown hgr _ hat; obtain ⟨A', c', hv'⟩ := own_slice hown; subst hv'; have hb2 := (hgr.block b (lt_of_block H1.out.1) (fun e => own_ne HOWN.out H1.out.1 e.symm)).trans H1.out.1; have c2 : w2.cell? ⟨b, 2, none⟩ = some (.slice A0 l.length c0) := (by rw [cell_of_row w2 b 2 _ _ _ hb2, ← HV.out]; rfl); have f2 : w2.frozen? ⟨b, 2, none⟩ = false := frozen_of_row w2 b 2 _ _ hb2)
        have hgr' : w1.grownBy w2 v.ownBlock := by rw [HV.out]; exact hgr
        have hoff : Off ([b, c] ++ v.ownBlock.toList) w w2 := H1.out.2.1.trans (off_grown hgr') (fun k hk => .inl (by simp only [List.mem_append]; exact .inr hk))
        have hat' : (Value.slice A' (l.length + m.length) c').ownBlock = v.ownBlock ∨ ∃ g, (Value.slice A' (l.length + m.length) c').ownBlock = some g ∧ w.heap.size ≤ g := by
          rw [HV.out]
          exact hat.imp id (fun h => ⟨_, h, by rw [HSZ.out]; exact Nat.le_refl _⟩)
        have hch2 : ∃ s r, w2.heap[c]? = some (.chan 0 #[] false s r false) := by
          obtain ⟨s, r, h⟩ := HCH.out
          exact ⟨s, r, (hgr'.block c (lt_of_block h) (fun e => own_nec H1.out.2.2.1 h e.symm)).trans h⟩
        have h3b : (w2.setCell ⟨b, 2, none⟩ (.slice A' (l.length + m.length) c')).heap[b]? = some (.cells (stL (.slice A' (l.length + m.length) c') l.length false c) TSt (0, 0)) := heap_setCell_same _ b 2 _ _ _ hb2
        have ho3 := off_set w2 b 2 (.slice A' (l.length + m.length) c')
        have hlen : l.length + m.length ≤ 4096 := by omega
        have HX := Lib.hid (And.intro h3b (And.intro hoff (And.intro hat' (And.intro hch2 (And.intro hown (And.intro hb2 ho3))))))
        clear h3b hoff hat' hch2 hown hb2 ho3 hgr hgr' hat f2 c2 hnews h4 h2 h3
        generalize w2.setCell ⟨b, 2, none⟩ (.slice A' (l.length + m.length) c') = w3 at *
        have e2 : w3.cell? ⟨b, 2, none⟩ = some (.slice A' (l.length + m.length) c') := by rw [cell_of_row w3 b 2 _ _ _ HX.out.1]; rfl
        have e3 : w3.cell? ⟨b, 3, none⟩ = some (.int .i64 l.length) := by rw [cell_of_row w3 b 3 _ _ _ HX.out.1]; rfl
        have f3 : w3.frozen? ⟨b, 3, none⟩ = false := frozen_of_row w3 b 3 _ _ HX.out.1
        change Code.wp _ _ _ _ _
        go_still_tail 8, (by kernel_rfl)
        change wpList _ _ _ _ _ w3.drew
        have HO4 := Lib.hid (show Off [] w3 w3.drew from ⟨rfl, rfl, rfl, Nat.le_refl _, fun _ _ _ => rfl⟩)
        have HB4 : Hid (w3.drew.heap[b]? = some (.cells (stL (.slice A' (l.length + m.length) c') l.length false c) TSt (0, 0))) := Lib.hid HX.out.1
        clear e2 e3 f3
        generalize w3.drew = w4 at *
        go_wp2_with fail
        refine (store64_any b 3 l.length ((l.length : Int) + m.length) w4 (by rw [cell_of_row w4 b 3 _ _ _ HB4.out]; rfl) (frozen_of_row w4 b 3 _ _ HB4.out)).mono ?_
        rintro e w5 ⟨rfl, hw5⟩
        have hb5 : w5.heap[b]? = some (.cells (stL (.slice A' (l.length + m.length) c') (l.length + m.length) false c) TSt (0, 0)) := by
          rw [hw5]
          have h := heap_setCell_same w4 b 3 _ _ (.int .i64 ((l.length : Int) + m.length)) HB4.out
          rw [h]
          rfl
        have ho5 : Off [b] w4 w5 := by rw [hw5]; exact off_set w4 b 3 _
        obtain ⟨p1, p2, p3, ⟨s, r, p4⟩, p5, p6, p7⟩ := HX.out
        have hbc : b ≠ c := H1.out.2.2.2.2.1
        have hc5 : w5.heap[c]? = some (.chan 0 #[] false s r false) := by
          have q1 := (p7.block c (lt_of_block p4) (by simp; exact fun e => hbc e.symm)).trans p4
          have q2 := (HO4.out.block c (lt_of_block q1) (by simp)).trans q1
          exact (ho5.block c (lt_of_block q2) (by simp; exact fun e => hbc e.symm)).trans q2
        have own3 := own_off p5 p7 (fun g hg => by simp only [List.mem_singleton] at hg; subst hg; exact st_no p6)
        have own4 := own_off own3 HO4.out (fun g hg => by cases hg)
        have own5 := own_off own4 ho5 (fun g hg => by simp only [List.mem_singleton] at hg; subst hg; exact st_no HB4.out)
        have off5 : Off ([b, c] ++ v.ownBlock.toList) w w5 := ((p2.trans p7 (fun k hk => .inl (by simp only [List.mem_singleton] at hk; simp [hk]))).trans HO4.out (fun k hk => by cases hk)).trans ho5 (fun k hk => .inl (by simp only [List.mem_singleton] at hk; simp [hk]))
        have H5 := Lib.hid (And.intro hb5 (And.intro hc5 (And.intro own5 (And.intro off5 p3))))
        clear hw5 hb5 ho5 p1 p2 p3 p4 p5 p6 p7 hbc hc5 own3 own4 own5 off5
        go_wp2_with fail
        refine (wake_any b c s r (l.length + m.length) _ false w5 H5.out.1 H5.out.2.1).mono ?_
        rintro e w6 ⟨rfl, hb6, hc6, ho6⟩
        have H6 := Lib.hid (And.intro hb6 (And.intro hc6 ho6))
        clear hb6 hc6 ho6
        go_wp2_with fail
        refine leaves_cons (f := 37) (args := #[.pointer (some ⟨b, 0, none⟩)]) (by simp) (by simp [go_sem]) ?_
        refine (unlock_deferred muLib ⟨b, 0, none⟩ .returning _ (by rw [cell_of_row w6 b 0 _ _ _ H6.out.1]; rfl) (frozen_of_row w6 b 0 _ _ H6.out.1)).mono ?_
        rintro e u' w'' ⟨rfl, rfl, rfl⟩
        obtain ⟨q1, q2, q3⟩ := H6.out
        obtain ⟨p1, p2, p3, p4, p5⟩ := H5.out
        have own6 := own_off p3 q3 (no_of (st_no p1) (ch_no p2))
        have off6 : Off ([b, c] ++ v.ownBlock.toList) w w6 := p4.trans q3 (fun k hk => .inl (by simp only [List.mem_append]; exact .inl hk))
        have hll : (l ++ m).length = l.length + m.length := List.length_append
        have hf := HS.out.freed (l' := l ++ m) (by rw [hll]; exact q1) off6 (by simp) (by rw [hll, hapsC_append]; exact own6) ⟨0, 0, q2⟩ (Nat.le_trans hB p4.size) (by rw [hll]; exact hlen)
        exact ⟨_, results_tmp rfl _ _ _, _, _, by unfold addE; rw [if_neg (by decide), if_neg hl]; rfl, by unfold addL; rw [if_neg (by decide), if_neg hl]; exact hf.1, hf.2, .inr p4.size, p5⟩
end Go.Proofs.Ytlddeagolhdieaa
