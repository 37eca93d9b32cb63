/- works -/
import Derived.Test.YtlddeagolhdieaaHubNil
namespace Go.Proofs.Ytlddeagolhdieaa
open Go.RowKit Go.MuLone Go.Conc

set_option maxRecDepth 100000
set_option maxHeartbeats 4000000
theorem ownS_ge {w : World} {h B i : Nat} {S : Nat → StR} (H : Hu w h B 8 S) (hi : i < 8) : ∀ k ∈ ownS (S i), B ≤ k := by
  intro k hk
  have hs := H.st i hi
  simp only [ownS, List.mem_append, List.mem_cons, List.not_mem_nil, or_false] at hk
  rcases hk with (rfl | rfl) | hk
  · exact hs.ge.1
  · exact hs.ge.2
  · exact (own_lt hs.own (by simpa [eq_comm] using hk)).2
theorem ownS_ty {w : World} {h B i g : Nat} {S : Nat → StR} {X : Array Value} {ty : TypeId} {fr : Nat × Nat} (H : Hu w h B 8 S) (hi : i < 8) (hg : w.heap[g]? = some (.cells X ty fr)) (t2 : ty ≠ TSt) (t3 : ty ≠ THp) : g ∉ ownS (S i) := by
  intro hk
  have hs := H.st i hi
  simp only [ownS, List.mem_append, List.mem_cons, List.not_mem_nil, or_false] at hk
  rcases hk with (rfl | rfl) | hk
  · rw [hs.blk] at hg; injection hg with hg; injection hg with _ hg _; exact t2 hg.symm
  · obtain ⟨s, r, hc⟩ := hs.chn; rw [hc] at hg; cases hg
  · rcases hs.own.2 with ⟨e3, _⟩ | ⟨g', cap, cur, e3, _, hg', _⟩
    · rw [e3] at hk; cases hk
    · rw [e3] at hk
      have : g = g' := by simpa [Value.ownBlock] using hk
      subst this
      rw [hg'] at hg; injection hg with hg; injection hg with _ hg _; exact t3 hg.symm
/-- a watch stands where a stream is turned -/
theorem WaB.off {w w' : World} {h B i g b at' : Nat} {S : Nat → StR} (hw : WaB w g b at') (H : Hu w h B 8 S) (hi : i < 8) (ho : Off (ownS (S i)) w w') : WaB w' g b at' :=
  (ho.block g (lt_of_block hw) (ownS_ty H hi hw (by decide) (by decide))).trans hw
theorem WaB.on {w w' : World} {g b at' : Nat} (hw : WaB w g b at') (hb : Below w.heap.size w w') : WaB w' g b at' := (hb.block g (lt_of_block hw)).trans hw

/-- what Add does, told without its blocks -/
def AddIs2 (h B i : Nat) (S : Nat → StR) (m : List Hap) (w : World) (e : Ending) (w' : World) : Prop :=
  ∃ S', e = .returned (.int .i64 (addE (S i).l (S i).cl m)) ∧ Hu w' h B 8 S' ∧ (S' i).l = addL (S i).l (S i).cl m ∧ (S' i).cl = (S i).cl ∧ (S' i).b = (S i).b ∧ (∀ j, j ≠ i → S' j = S j) ∧ Off (ownS (S i)) w w'
theorem hadd2 {h B : Nat} {S : Nat → StR} (i : Nat) (A : Option Addr) (m : List Hap) (cap : Nat) (w : World) (H : Hu w h B 8 S) (hi : i < 8) (hB : B ≤ w.heap.size) (hA : Src w (S i).b A m) (hm : m.length ≤ 1000000000000) :
    Calls Try.prog 11 #[.pointer (some ⟨h, 0, none⟩), .int .i64 i, .slice A m.length cap] w (AddIs2 h B i S m w) := by
  refine (hadd_any i A m cap w H hi hB hA hm).mono ?_
  rintro e w' ⟨v, c, rfl, H', ho, _, _⟩
  exact ⟨_, rfl, H', by rw [upd_same], by rw [upd_same], by rw [upd_same], fun j hj => upd_other _ _ hj, ho⟩
def CloseIs2 (h B i : Nat) (S : Nat → StR) (w : World) (e : Ending) (w' : World) : Prop :=
  ∃ S', e = .returned (.int .i64 (if (S i).cl then 9 else 0)) ∧ Hu w' h B 8 S' ∧ (S' i).l = (S i).l ∧ (S' i).cl = true ∧ (S' i).b = (S i).b ∧ (∀ j, j ≠ i → S' j = S j) ∧ Off (ownS (S i)) w w'
theorem hclose2 {h B : Nat} {S : Nat → StR} (i : Nat) (w : World) (H : Hu w h B 8 S) (hi : i < 8) (hB : B ≤ w.heap.size) :
    Calls Try.prog 13 #[.pointer (some ⟨h, 0, none⟩), .int .i64 i] w (CloseIs2 h B i S w) := by
  refine (hclose_any i w H hi hB).mono ?_
  rintro e w' ⟨v, c, rfl, H', ho, _, _⟩
  exact ⟨_, rfl, H', by rw [upd_same], by rw [upd_same], by rw [upd_same], fun j hj => upd_other _ _ hj, ho⟩

theorem works_any (w : World) : Calls Try.prog 8 #[] w fun e w' => e = .returned (.bool true) ∧ Below w.heap.size w w' := by
  have HN := Lib.hid (new_any w)
  go_enter Try.func8, Try.ntmps8
  go_wp2_with fail
  refine HN.out.mono ?_
  rintro e w1 ⟨S, rfl, H, hS, hb⟩
  have HH := Lib.hid (And.intro H (And.intro hS hb))
  clear H hS hb HN
  go_wp2_with fail
  obtain ⟨H, hS, hb⟩ := HH.out
  have b2 := below_new w1 (Obj.cells #[Value.int IntKind.i64 4, Value.string { data := #[] }, Value.int IntKind.i64 3] 53 (0, 0))
  have hA : Src (w1.alloc (Obj.cells #[Value.int IntKind.i64 4, Value.string { data := #[] }, Value.int IntKind.i64 3] 53 (0, 0))) (S 1).b (some ⟨w1.heap.size, 0, none⟩) [⟨4, ByteArray.empty, 3⟩] := ⟨fun e => (by cases e), fun ad e => by
    cases e
    refine ⟨fun _ e => by have := (H.st 1 (by decide)).lt; have e2 : w1.heap.size = (S 1).b := e; omega, fun j u hu => ?_⟩
    rw [Addr.add_lit, Nat.zero_add, cell_of_row _ _ _ _ _ _ (heap_alloc_new w1 _)]
    rcases j with _ | _ | _ | j
    · cases hu; rfl
    · cases hu; rfl
    · cases hu; rfl
    · cases hu⟩
  refine (hadd2 1 _ [⟨4, ByteArray.empty, 3⟩] 1 _ (H.on b2) (by decide) (Nat.le_trans hb.size b2.size) hA (by decide)).mono ?_
  rintro e w2 ⟨S2, rfl, H2, l2, cl2, _, o2, ho2⟩
  have e0 : addE (S 1).l (S 1).cl [⟨4, ByteArray.empty, 3⟩] = 0 := by rw [(hS 1 (by decide)).1, (hS 1 (by decide)).2.1]; rfl
  have l2' : (S2 1).l = [⟨4, ByteArray.empty, 3⟩] := by rw [l2, (hS 1 (by decide)).1, (hS 1 (by decide)).2.1]; rfl
  have cl2' : (S2 1).cl = false := by rw [cl2, (hS 1 (by decide)).2.1]
  have hb2 : Below w.heap.size w w2 := (hb.trans (b2.mono hb.size) ).trans (ho2.below (Nat.le_trans hb.size b2.size) (ownS_ge (H.on b2) (by decide)))
  rw [e0]
  have HH2 := Lib.hid (And.intro H2 (And.intro l2' (And.intro cl2' hb2)))
  clear H hS hb b2 hA H2 l2 cl2 o2 ho2 e0 l2' cl2' hb2 HH
  go_wp2_with fail
  refine (hwatch_any 1 0 w2 HH2.out.1 (by decide)).mono ?_
  rintro e w3 (⟨_, _, rfl, hw, hb3⟩ | ⟨hn, _⟩)
  rotate_left
  · exact absurd ⟨by decide, by omega⟩ hn
  have H3 := HH2.out.1.on hb3
  have HH3 := Lib.hid (And.intro H3 (And.intro hw (HH2.out.2.2.2.trans (hb3.mono HH2.out.2.2.2.size))))
  clear H3 hw hb3
  go_wp2_with fail
  refine (next_any 1 w2.heap.size 0 9 w3 HH3.out.1 (by decide) HH3.out.2.2.size HH3.out.2.1 (Nat.zero_le _) (by decide)).mono ?_
  rintro e w4 ⟨v, rfl, H4, hw4, hown, ho4⟩
  rw [HH2.out.2.1] at hw4 hown ⊢
  rw [HH2.out.2.2.1]
  have hn1 : nx [⟨4, ByteArray.empty, 3⟩] 0 9 = 1 := by decide
  rw [hn1] at hw4 hown ⊢
  obtain ⟨g, c', rfl⟩ : ∃ g c', v = .slice (some ⟨g, 0, none⟩) 1 c' := by
    rcases hown.2 with ⟨_, e⟩ | ⟨g', cap, cur, rfl, _⟩
    · exact absurd e (by decide)
    · exact ⟨_, _, rfl⟩
  have c2 : w4.cell? ⟨g, 2, none⟩ = some (.int .i64 3) := (own_cells hown).2 2 _ rfl
  have hb4 : Below w.heap.size w w4 := HH3.out.2.2.trans (ho4.below HH3.out.2.2.size (fun k hk => by
    simp only [List.mem_cons, List.not_mem_nil, or_false] at hk
    rcases hk with rfl | rfl
    · exact (HH2.out.1.st 1 (by decide)).ge.1
    · exact HH2.out.2.2.2.size))
  have HH4 := Lib.hid (And.intro H4 (And.intro hw4 hb4))
  have hd : (!false || decide (0 + 1 < [(⟨4, ByteArray.empty, 3⟩ : Hap)].length)) = true := rfl
  rw [hd]
  clear H4 hw4 hown ho4 hn1 hb4 hd
  go_wp2_with fail
  refine (at_any w4 HH4.out.2.1).mono ?_
  rintro e w5 ⟨rfl, rfl⟩
  go_wp2_with fail
  refine (hlen_any 1 w5 HH4.out.1 (by decide)).mono ?_
  rintro e w6 ⟨rfl, rfl⟩
  rw [HH2.out.2.1]
  go_wp2_with fail
  go_ret
  exact ⟨rfl, HH4.out.2.2⟩
end Go.Proofs.Ytlddeagolhdieaa
