/- May a pattern be of no byte? The program's walk and the document's. -/
import Derived.Test.YtfhggnbnbopkkaaDoorPatOk
import Derived.Test.YtfhggnbnbopkkaaDoorNfaAdd5
import Derived.Deep.RegionHeld3
import Derived.BigRegion
import Derived.Deep.LoopGhost
import Derived.Deep.DeepCutAuto
namespace Go.Proofs.YtfhggnbnbopkkaaDoor
open Go.RowKit PM
namespace PM
theorem emptyT_mk (op : Nat) (set : Nat → Bool) (kids : List T) : emptyT (.mk op set kids) =
    if op = 1 ∨ op = 5 ∨ op = 7 then true else if op = 6 then (match kids with | [] => false | k :: _ => emptyT k)
    else if op = 3 then kids.all emptyT else if op = 4 then kids.any emptyT else false := by
  rw [emptyT.eq_def]
  simp
  cases kids <;> rfl
end PM

theorem bool_eqs (op : Nat) (n : Nat) (h : op ≠ n) : ((op : Int) == (n : Int)) = false := by rw [beq_eq_false_iff_ne]; omega

/-- a kid's cells in a later world -/
theorem kid_cells {w wr : World} {ga oa i : Nat} {kd : T} {K : Value} (up : Below w.heap.size w wr) (la : ga < w.heap.size) (h : ∀ j v, (nodeC kd K)[j]? = some v → w.cell? ⟨ga, oa + i * 6 + j, none⟩ = some v) :
    wr.cell? ⟨ga, oa + i * 6, none⟩ = some (.int .i64 kd.op) ∧ wr.cell? ⟨ga, oa + i * 6 + 1, none⟩ = some (.int .u64 (word kd.set 0)) ∧ wr.cell? ⟨ga, oa + i * 6 + 1 + 1, none⟩ = some (.int .u64 (word kd.set 1)) ∧
    wr.cell? ⟨ga, oa + i * 6 + 1 + 1 + 1, none⟩ = some (.int .u64 (word kd.set 2)) ∧ wr.cell? ⟨ga, oa + i * 6 + 1 + 1 + 1 + 1, none⟩ = some (.int .u64 (word kd.set 3)) ∧ wr.cell? ⟨ga, oa + i * 6 + 1 + 1 + 1 + 1 + 1, none⟩ = some K := by
  have x : ∀ j v, (nodeC kd K)[j]? = some v → wr.cell? ⟨ga, oa + i * 6 + j, none⟩ = some v := fun j v hv => (World.cell?_of_block (a := ⟨ga, _, none⟩) (up.block _ la)).trans (h j v hv)
  exact ⟨x 0 _ rfl, x 1 _ rfl, x 2 _ rfl, x 3 _ rfl, x 4 _ rfl, x 5 _ rfl⟩

/-- .. the first one's -/
theorem kid0_cells {w wr : World} {ga oa : Nat} {kd : T} {K : Value} (up : Below w.heap.size w wr) (la : ga < w.heap.size) (h : ∀ j v, (nodeC kd K)[j]? = some v → w.cell? ⟨ga, oa + 0 * 6 + j, none⟩ = some v) :
    wr.cell? ⟨ga, oa, none⟩ = some (.int .i64 kd.op) ∧ wr.cell? ⟨ga, oa + 1, none⟩ = some (.int .u64 (word kd.set 0)) ∧ wr.cell? ⟨ga, oa + 2, none⟩ = some (.int .u64 (word kd.set 1)) ∧
    wr.cell? ⟨ga, oa + 3, none⟩ = some (.int .u64 (word kd.set 2)) ∧ wr.cell? ⟨ga, oa + 4, none⟩ = some (.int .u64 (word kd.set 3)) ∧ wr.cell? ⟨ga, oa + 5, none⟩ = some K := by
  have x : ∀ j v, (nodeC kd K)[j]? = some v → wr.cell? ⟨ga, oa + j, none⟩ = some v := fun j v hv => by
    have := (World.cell?_of_block (a := ⟨ga, _, none⟩) (up.block _ la)).trans (h j v hv)
    rwa [Nat.zero_mul, Nat.add_zero] at this
  exact ⟨x 0 _ rfl, x 1 _ rfl, x 2 _ rfl, x 3 _ rfl, x 4 _ rfl, x 5 _ rfl⟩

/-- what 'empty' finds in each round: its box -/
structure EmS (w wr : World) (C : Array Value) : Prop where
  a : wr.heap[w.heap.size]? = some (.cells C TN (0, 0))
  up : Below w.heap.size w wr
theorem EmS.on {w wr w' : World} {C : Array Value} (h : EmS w wr C) (hb : Below wr.heap.size wr w') : EmS w w' C := ⟨(hb.block _ (lt_of_block h.a)).trans h.a, below_then h.up hb (Nat.le_refl _)⟩
theorem EmS.start (w : World) (C : Array Value) : EmS w (w.alloc (.cells C TN)) C := ⟨heap_alloc_new w _, below_new w _⟩

theorem ret_bool {a b : Bool} (h : a = b) : Ending.returned (.bool a) = .returned (.bool b) := by rw [h]
def EmptyOk (t : T) : Prop := ∀ (p : Nat → Prop) (K : Value) (w : World), IsT w p K t → Calls Tryd.prog 49 #[nodeV t K] w fun e w' => e = .returned (.bool (emptyT t)) ∧ Below w.heap.size w w'
def NothingOk (t : T) : Prop := ∀ (p : Nat → Prop) (K : Value) (w : World), IsT w p K t → Calls Tryd.prog 50 #[nodeV t K] w fun e w' => e = .returned (.bool (emptyT t)) ∧ Below w.heap.size w w'

theorem all_take {l : List T} {i : Nat} {k : T} (h : l[i]? = some k) : (l.take (i + 1)).all emptyT = ((l.take i).all emptyT && emptyT k) ∧ (l.take (i + 1)).any emptyT = ((l.take i).any emptyT || emptyT k) := by
  have hl := (List.getElem?_eq_some_iff.1 h)
  obtain ⟨h1, h2⟩ := hl
  rw [List.take_succ_eq_append_getElem h1, h2]
  simp

set_option maxRecDepth 100000 in
set_option maxHeartbeats 8000000 in
theorem empty_any (m : Nat) (hm : m ≤ 1000000) (t : T) : T.OK m t → EmptyOk t := by
  induction t using T.ind with
  | h op set kids ih =>
    intro hok p K w ha
    obtain ⟨h567, hkl, hks⟩ : (op = 5 ∨ op = 6 ∨ op = 7 → ∃ k, kids = [k]) ∧ kids.length ≤ m ∧ ∀ k ∈ kids, T.OK m k := by cases hok with | mk a b c => exact ⟨a, b, c⟩
    have hI : ∀ k ∈ kids, EmptyOk k := fun k hk => ih k hk (hks k hk)
    have HI := Lib.hid hI
    obtain ⟨A, ca, ka, rfl, hA⟩ := ha.parts
    simp only [T.kids] at hA
    have HA := Lib.hid hA
    have HE := Lib.hid (emptyT_mk op set kids)
    clear ih hI hA ha hks hok
    obtain ⟨r, hr⟩ : ∃ r, emptyT (.mk op set kids) = r := ⟨_, rfl⟩
    rw [hr] at HE ⊢
    clear hr
    simp only [nodeV, nodeC, T.op, T.set, T.kids]
    generalize hx0 : word set 0 = x0 at *
    generalize hx1 : word set 1 = x1 at *
    generalize hx2 : word set 2 = x2 at *
    generalize hx3 : word set 3 = x3 at *
    clear hx0 hx1 hx2 hx3
    obtain ⟨n, hn⟩ : ∃ n, kids.length = n := ⟨_, rfl⟩
    rw [hn] at hkl ⊢
    have HN := Lib.hid hn
    clear hn
    have HS := Lib.hid (EmS.start w #[.int .i64 op, .int .u64 x0, .int .u64 x1, .int .u64 x2, .int .u64 x3, .slice A n ca])
    by_cases h1 : op = 1 ∨ op = 5 ∨ op = 7
    · have he := HE.out
      rw [if_pos h1] at he
      subst he
      have HU := Lib.hid HS.out.up
      clear HS HI HA HN h567
      rcases h1 with rfl | rfl | rfl
      all_goals
        go_enter Tryd.func49, Tryd.ntmps49
        go_wp2_with fail
        go_ret
        exact ⟨rfl, HU.out⟩
    have n1 : ((op : Int) == 1) = false := bool_eqs op 1 (fun h => h1 (.inl h))
    have n5 : ((op : Int) == 5) = false := bool_eqs op 5 (fun h => h1 (.inr (.inl h)))
    have n7 : ((op : Int) == 7) = false := bool_eqs op 7 (fun h => h1 (.inr (.inr h)))
    have he := HE.out
    rw [if_neg h1] at he
    have HE2 := Lib.hid he
    clear he HE h1
    by_cases h6 : op = 6
    · subst h6
      obtain ⟨k, rfl⟩ := h567 (by omega)
      have he := HE2.out
      rw [if_pos rfl] at he
      simp only [] at he
      subst he
      obtain rfl : n = 1 := HN.out.symm
      obtain ⟨⟨ga, oa, rfl, pa, la, hca⟩, hta⟩ := HA.out 0 k rfl
      have hC : ∀ W, Below w.heap.size w W → Calls Tryd.prog 49 #[nodeV k (ka 0)] W fun e w' => e = .returned (.bool (emptyT k)) ∧ Below W.heap.size W w' := fun W hW => HI.out k (by simp) _ _ W (hta.on hW)
      simp only [nodeV, nodeC] at hC
      have HC := Lib.hid hC
      have HCA := Lib.hid hca
      clear hC hca hta HA HI n1 n5 n7 h567 HE2 HN
      go_enter Tryd.func49, Tryd.ntmps49
      go_upto_region 1 with (fail)
      generalize w.alloc (.cells #[.int .i64 6, .int .u64 x0, .int .u64 x1, .int .u64 x2, .int .u64 x3, .slice (some ⟨ga, oa, none⟩) 1 ca] TN) = W0 at *
      have a0 : W0.cell? ⟨w.heap.size, 0, none⟩ = some (.int .i64 6) := by rw [cell_of_row _ _ _ _ _ _ HS.out.a]; rfl
      have a5 : W0.cell? ⟨w.heap.size, 5, none⟩ = some (.slice (some ⟨ga, oa, none⟩) 1 ca) := by rw [cell_of_row _ _ _ _ _ _ HS.out.a]; rfl
      obtain ⟨y0, y1, y2, y3, y4, y5⟩ := kid0_cells HS.out.up la HCA.out
      generalize ka 0 = K0 at *
      go_wp2_with fail
      refine (HC.out _ HS.out.up).mono ?_
      rintro e w2 ⟨rfl, hb⟩
      have HU := Lib.hid (below_then HS.out.up hb (Nat.le_refl _))
      clear hb a0 a5 y0 y1 y2 y3 y4 y5
      go_wp2_with fail
      go_ret
      exact ⟨rfl, HU.out⟩
    have n6 : ((op : Int) == 6) = false := bool_eqs op 6 h6
    have he := HE2.out
    rw [if_neg h6] at he
    have HE3 := Lib.hid he
    clear he HE2 h6 h567
    by_cases h3 : op = 3
    · subst h3
      have he := HE3.out
      rw [if_pos rfl] at he
      have HE4 := Lib.hid he
      clear he HE3 n1 n5 n6 n7
      go_enter Tryd.func49, Tryd.ntmps49
      go_wp2_with fail
      change Code.wp _ _ _ _ (w.alloc (.cells #[.int .i64 3, .int .u64 x0, .int .u64 x1, .int .u64 x2, .int .u64 x3, .slice A n ca] TN))
      generalize w.alloc (.cells #[.int .i64 3, .int .u64 x0, .int .u64 x1, .int .u64 x2, .int .u64 x3, .slice A n ca] TN) = W0 at *
      go_loopg [25] (n + 1) (fun k v wr => ∃ i : Nat, v = .int .i64 i ∧ i ≤ n ∧ n + 1 - i ≤ k ∧ Hid ((kids.take i).all emptyT = true) ∧ Hid (EmS w wr #[.int .i64 3, .int .u64 x0, .int .u64 x1, .int .u64 x2, .int .u64 x3, .slice A n ca]))
      case atStart => exact ⟨0, rfl, by omega, by omega, Lib.hid rfl, HS⟩
      case round =>
        clear HS
        obtain ⟨i, rfl, hi, hik, HQ, HS⟩ := hrel
        by_cases hlt : i < n
        · have hlt2 : (i : Int) < n := by omega
          have hi0 : (0 : Int) ≤ i := by omega
          obtain ⟨kd, hkd⟩ : ∃ kd, kids[i]? = some kd := ⟨_, List.getElem?_eq_getElem (by rw [HN.out]; exact hlt)⟩
          obtain ⟨⟨ga, oa, rfl, pa, la, hca⟩, hta⟩ := HA.out i kd hkd
          have hC : ∀ W, Below w.heap.size w W → Calls Tryd.prog 49 #[nodeV kd (ka i)] W fun e w' => e = .returned (.bool (emptyT kd)) ∧ Below W.heap.size W w' := fun W hW => HI.out kd (List.mem_of_getElem? hkd) _ _ W (hta.on hW)
          simp only [nodeV, nodeC] at hC
          have HC := Lib.hid hC
          have HT := Lib.hid (all_take hkd)
          have HM := Lib.hid (List.mem_of_getElem? hkd)
          obtain ⟨y0, y1, y2, y3, y4, y5⟩ := kid_cells HS.out.up la hca
          obtain ⟨K0, hK0⟩ : ∃ K0, ka i = K0 := ⟨_, rfl⟩
          obtain ⟨Ak, ck, hks⟩ := hta.slice
          rw [hks] at y5 HC
          clear hC hca hta hkd hK0 hks
          go_wp2_with fail
          refine (HC.out _ (below_then HS.out.up (below_new wr _) (Nat.le_refl _))).mono ?_
          rintro e w2 ⟨rfl, hb⟩
          have HS2 := Lib.hid ((HS.out.on (below_new wr _)).on hb)
          clear hb HS HC y0 y1 y2 y3 y4 y5
          rcases hek : emptyT kd
          all_goals
            have HK := Lib.hid hek
            clear hek
            go_wp2_with fail
            first
              | (go_ret; exact ⟨ret_bool (by rw [HE4.out]; exact (List.all_eq_false.2 ⟨kd, HM.out, by rw [HK.out]; decide⟩).symm), HS2.out.up⟩)
              | (go_roundg (gk - 1)
                 case measure => omega
                 case rel => exact ⟨i + 1, by go_num, by omega, by omega, Lib.hid (by rw [HT.out.1, HQ.out, HK.out]; rfl), HS2⟩)
        · obtain rfl : i = n := by omega
          have HU := Lib.hid HS.out.up
          have hq := HQ.out
          rw [← HN.out, List.take_length] at hq
          obtain rfl : r = true := HE4.out.trans hq
          clear hq
          clear HS HQ
          go_wp2_with fail
          go_ret
          exact ⟨rfl, HU.out⟩
    have n3 : ((op : Int) == 3) = false := bool_eqs op 3 h3
    by_cases h4 : op = 4
    · subst h4
      have he := HE3.out
      rw [if_neg (by omega), if_pos rfl] at he
      have HE4 := Lib.hid he
      clear he HE3 n1 n5 n6 n7 n3
      go_enter Tryd.func49, Tryd.ntmps49
      go_wp2_with fail
      change Code.wp _ _ _ _ (w.alloc (.cells #[.int .i64 4, .int .u64 x0, .int .u64 x1, .int .u64 x2, .int .u64 x3, .slice A n ca] TN))
      generalize w.alloc (.cells #[.int .i64 4, .int .u64 x0, .int .u64 x1, .int .u64 x2, .int .u64 x3, .slice A n ca] TN) = W0 at *
      go_loopg [38] (n + 1) (fun k v wr => ∃ i : Nat, v = .int .i64 i ∧ i ≤ n ∧ n + 1 - i ≤ k ∧ Hid ((kids.take i).any emptyT = false) ∧ Hid (EmS w wr #[.int .i64 4, .int .u64 x0, .int .u64 x1, .int .u64 x2, .int .u64 x3, .slice A n ca]))
      case atStart => exact ⟨0, rfl, by omega, by omega, Lib.hid rfl, HS⟩
      case round =>
        clear HS
        obtain ⟨i, rfl, hi, hik, HQ, HS⟩ := hrel
        by_cases hlt : i < n
        · have hlt2 : (i : Int) < n := by omega
          have hi0 : (0 : Int) ≤ i := by omega
          obtain ⟨kd, hkd⟩ : ∃ kd, kids[i]? = some kd := ⟨_, List.getElem?_eq_getElem (by rw [HN.out]; exact hlt)⟩
          obtain ⟨⟨ga, oa, rfl, pa, la, hca⟩, hta⟩ := HA.out i kd hkd
          have hC : ∀ W, Below w.heap.size w W → Calls Tryd.prog 49 #[nodeV kd (ka i)] W fun e w' => e = .returned (.bool (emptyT kd)) ∧ Below W.heap.size W w' := fun W hW => HI.out kd (List.mem_of_getElem? hkd) _ _ W (hta.on hW)
          simp only [nodeV, nodeC] at hC
          have HC := Lib.hid hC
          have HT := Lib.hid (all_take hkd)
          have HM := Lib.hid (List.mem_of_getElem? hkd)
          obtain ⟨y0, y1, y2, y3, y4, y5⟩ := kid_cells HS.out.up la hca
          obtain ⟨K0, hK0⟩ : ∃ K0, ka i = K0 := ⟨_, rfl⟩
          obtain ⟨Ak, ck, hks⟩ := hta.slice
          rw [hks] at y5 HC
          clear hC hca hta hkd hK0 hks
          go_wp2_with fail
          refine (HC.out _ (below_then HS.out.up (below_new wr _) (Nat.le_refl _))).mono ?_
          rintro e w2 ⟨rfl, hb⟩
          have HS2 := Lib.hid ((HS.out.on (below_new wr _)).on hb)
          clear hb HS HC y0 y1 y2 y3 y4 y5
          rcases hek : emptyT kd
          all_goals
            have HK := Lib.hid hek
            clear hek
            go_wp2_with fail
            first
              | (go_ret; exact ⟨ret_bool (by rw [HE4.out]; exact (List.any_eq_true.2 ⟨kd, HM.out, HK.out⟩).symm), HS2.out.up⟩)
              | (go_roundg (gk - 1)
                 case measure => omega
                 case rel => exact ⟨i + 1, by go_num, by omega, by omega, Lib.hid (by rw [HT.out.2, HQ.out, HK.out]; rfl), HS2⟩)
        · obtain rfl : i = n := by omega
          have HU := Lib.hid HS.out.up
          have hq := HQ.out
          rw [← HN.out, List.take_length] at hq
          obtain rfl : r = false := HE4.out.trans hq
          clear hq
          clear HS HQ
          go_wp2_with fail
          go_ret
          exact ⟨rfl, HU.out⟩
    have n4 : ((op : Int) == 4) = false := bool_eqs op 4 h4
    have he := HE3.out
    rw [if_neg h3, if_neg h4] at he
    subst he
    have HU := Lib.hid HS.out.up
    clear HS HI HA HN h3 h4 HE3
    go_enter Tryd.func49, Tryd.ntmps49
    go_wp2_with fail
    go_ret
    exact ⟨rfl, HU.out⟩

set_option maxRecDepth 100000 in
set_option maxHeartbeats 8000000 in
theorem nothing_any (m : Nat) (hm : m ≤ 1000000) (t : T) : T.OK m t → NothingOk t := by
  induction t using T.ind with
  | h op set kids ih =>
    intro hok p K w ha
    obtain ⟨h567, hkl, hks⟩ : (op = 5 ∨ op = 6 ∨ op = 7 → ∃ k, kids = [k]) ∧ kids.length ≤ m ∧ ∀ k ∈ kids, T.OK m k := by cases hok with | mk a b c => exact ⟨a, b, c⟩
    have hI : ∀ k ∈ kids, NothingOk k := fun k hk => ih k hk (hks k hk)
    have HI := Lib.hid hI
    obtain ⟨A, ca, ka, rfl, hA⟩ := ha.parts
    simp only [T.kids] at hA
    have HA := Lib.hid hA
    have HE := Lib.hid (emptyT_mk op set kids)
    clear ih hI hA ha hks hok
    obtain ⟨r, hr⟩ : ∃ r, emptyT (.mk op set kids) = r := ⟨_, rfl⟩
    rw [hr] at HE ⊢
    clear hr
    simp only [nodeV, nodeC, T.op, T.set, T.kids]
    generalize hx0 : word set 0 = x0 at *
    generalize hx1 : word set 1 = x1 at *
    generalize hx2 : word set 2 = x2 at *
    generalize hx3 : word set 3 = x3 at *
    clear hx0 hx1 hx2 hx3
    obtain ⟨n, hn⟩ : ∃ n, kids.length = n := ⟨_, rfl⟩
    rw [hn] at hkl ⊢
    have HN := Lib.hid hn
    clear hn
    have HS := Lib.hid (EmS.start w #[.int .i64 op, .int .u64 x0, .int .u64 x1, .int .u64 x2, .int .u64 x3, .slice A n ca])
    by_cases h1 : op = 1 ∨ op = 5 ∨ op = 7
    · have he := HE.out
      rw [if_pos h1] at he
      subst he
      have HU := Lib.hid HS.out.up
      clear HS HI HA HN h567
      rcases h1 with rfl | rfl | rfl
      all_goals
        go_enter Tryd.func50, Tryd.ntmps50
        go_wp2_with fail
        go_ret
        exact ⟨rfl, HU.out⟩
    have n1 : ((op : Int) == 1) = false := bool_eqs op 1 (fun h => h1 (.inl h))
    have n5 : ((op : Int) == 5) = false := bool_eqs op 5 (fun h => h1 (.inr (.inl h)))
    have n7 : ((op : Int) == 7) = false := bool_eqs op 7 (fun h => h1 (.inr (.inr h)))
    have he := HE.out
    rw [if_neg h1] at he
    have HE2 := Lib.hid he
    clear he HE h1
    by_cases h6 : op = 6
    · subst h6
      obtain ⟨k, rfl⟩ := h567 (by omega)
      have he := HE2.out
      rw [if_pos rfl] at he
      simp only [] at he
      subst he
      obtain rfl : n = 1 := HN.out.symm
      obtain ⟨⟨ga, oa, rfl, pa, la, hca⟩, hta⟩ := HA.out 0 k rfl
      have hC : ∀ W, Below w.heap.size w W → Calls Tryd.prog 50 #[nodeV k (ka 0)] W fun e w' => e = .returned (.bool (emptyT k)) ∧ Below W.heap.size W w' := fun W hW => HI.out k (by simp) _ _ W (hta.on hW)
      simp only [nodeV, nodeC] at hC
      have HC := Lib.hid hC
      have HCA := Lib.hid hca
      clear hC hca hta HA HI n1 n5 n7 h567 HE2 HN
      go_enter Tryd.func50, Tryd.ntmps50
      go_upto_region 1 with (fail)
      generalize w.alloc (.cells #[.int .i64 6, .int .u64 x0, .int .u64 x1, .int .u64 x2, .int .u64 x3, .slice (some ⟨ga, oa, none⟩) 1 ca] TN) = W0 at *
      have a0 : W0.cell? ⟨w.heap.size, 0, none⟩ = some (.int .i64 6) := by rw [cell_of_row _ _ _ _ _ _ HS.out.a]; rfl
      have a5 : W0.cell? ⟨w.heap.size, 5, none⟩ = some (.slice (some ⟨ga, oa, none⟩) 1 ca) := by rw [cell_of_row _ _ _ _ _ _ HS.out.a]; rfl
      obtain ⟨y0, y1, y2, y3, y4, y5⟩ := kid0_cells HS.out.up la HCA.out
      generalize ka 0 = K0 at *
      go_wp2_with fail
      refine (HC.out _ HS.out.up).mono ?_
      rintro e w2 ⟨rfl, hb⟩
      have HU := Lib.hid (below_then HS.out.up hb (Nat.le_refl _))
      clear hb a0 a5 y0 y1 y2 y3 y4 y5
      go_wp2_with fail
      go_ret
      exact ⟨rfl, HU.out⟩
    have n6 : ((op : Int) == 6) = false := bool_eqs op 6 h6
    have he := HE2.out
    rw [if_neg h6] at he
    have HE3 := Lib.hid he
    clear he HE2 h6 h567
    by_cases h3 : op = 3
    · subst h3
      have he := HE3.out
      rw [if_pos rfl] at he
      have HE4 := Lib.hid he
      clear he HE3 n1 n5 n6 n7
      go_enter Tryd.func50, Tryd.ntmps50
      go_wp2_with fail
      change Code.wp _ _ _ _ (w.alloc (.cells #[.int .i64 3, .int .u64 x0, .int .u64 x1, .int .u64 x2, .int .u64 x3, .slice A n ca] TN))
      generalize w.alloc (.cells #[.int .i64 3, .int .u64 x0, .int .u64 x1, .int .u64 x2, .int .u64 x3, .slice A n ca] TN) = W0 at *
      go_loopg [3, 4] (n + 1) (fun k vf v wr => ∃ i : Nat, v = .int .i64 i ∧ i ≤ n ∧ n + 1 - i ≤ k ∧ vf = .bool ((kids.take i).all emptyT) ∧ Hid (EmS w wr #[.int .i64 3, .int .u64 x0, .int .u64 x1, .int .u64 x2, .int .u64 x3, .slice A n ca]))
      case atStart => exact ⟨0, rfl, by omega, by omega, rfl, HS⟩
      case round =>
        clear HS
        obtain ⟨i, rfl, hi, hik, rfl, HS⟩ := hrel
        have a5 : wr.cell? ⟨w.heap.size, 5, none⟩ = some (.slice A n ca) := by rw [cell_of_row _ _ 5 _ _ _ HS.out.a]; rfl
        by_cases hlt : i < n
        · have hlt2 : (i : Int) < n := by omega
          have hi0 : (0 : Int) ≤ i := by omega
          obtain ⟨kd, hkd⟩ : ∃ kd, kids[i]? = some kd := ⟨_, List.getElem?_eq_getElem (by rw [HN.out]; exact hlt)⟩
          obtain ⟨⟨ga, oa, rfl, pa, la, hca⟩, hta⟩ := HA.out i kd hkd
          have hC : ∀ W, Below w.heap.size w W → Calls Tryd.prog 50 #[nodeV kd (ka i)] W fun e w' => e = .returned (.bool (emptyT kd)) ∧ Below W.heap.size W w' := fun W hW => HI.out kd (List.mem_of_getElem? hkd) _ _ W (hta.on hW)
          simp only [nodeV, nodeC] at hC
          have HC := Lib.hid hC
          have HT := Lib.hid (all_take hkd)
          have HM := Lib.hid (List.mem_of_getElem? hkd)
          obtain ⟨y0, y1, y2, y3, y4, y5⟩ := kid_cells HS.out.up la hca
          obtain ⟨K0, hK0⟩ : ∃ K0, ka i = K0 := ⟨_, rfl⟩
          obtain ⟨Ak, ck, hks⟩ := hta.slice
          rw [hks] at y5 HC
          clear hC hca hta hkd hK0 hks
          rcases hf : (kids.take i).all emptyT
          case true =>
            have HF := Lib.hid hf
            clear hf
            go_wp2_with fail
            refine (HC.out _ HS.out.up).mono ?_
            rintro e w2 ⟨rfl, hb⟩
            have HS2 := Lib.hid (HS.out.on hb)
            clear hb HS HC y0 y1 y2 y3 y4 y5 a5
            go_wp2_with fail
            go_roundg (gk - 1)
            case measure => omega
            case rel => exact ⟨i + 1, by go_num, by omega, by omega, by rw [HT.out.1, HF.out]; rfl, HS2⟩
          case false =>
            have HF := Lib.hid hf
            clear hf HC y0 y1 y2 y3 y4 y5
            go_wp2_with fail
            clear a5
            go_roundg (gk - 1)
            case measure => omega
            case rel => exact ⟨i + 1, by go_num, by omega, by omega, by rw [HT.out.1, HF.out]; rfl, HS⟩
        · obtain rfl : i = n := by omega
          have HU := Lib.hid HS.out.up
          have hq : (kids.take i).all emptyT = r := by rw [← HN.out, List.take_length, HE4.out]
          rw [hq]
          clear HS hq
          go_wp2_with fail
          go_ret
          exact ⟨rfl, HU.out⟩
    have n3 : ((op : Int) == 3) = false := bool_eqs op 3 h3
    by_cases h4 : op = 4
    · subst h4
      have he := HE3.out
      rw [if_neg (by omega), if_pos rfl] at he
      have HE4 := Lib.hid he
      clear he HE3 n1 n5 n6 n7 n3
      go_enter Tryd.func50, Tryd.ntmps50
      go_wp2_with fail
      change Code.wp _ _ _ _ (w.alloc (.cells #[.int .i64 4, .int .u64 x0, .int .u64 x1, .int .u64 x2, .int .u64 x3, .slice A n ca] TN))
      generalize w.alloc (.cells #[.int .i64 4, .int .u64 x0, .int .u64 x1, .int .u64 x2, .int .u64 x3, .slice A n ca] TN) = W0 at *
      go_loopg [5, 6] (n + 1) (fun k vf v wr => ∃ i : Nat, v = .int .i64 i ∧ i ≤ n ∧ n + 1 - i ≤ k ∧ vf = .bool ((kids.take i).any emptyT) ∧ Hid (EmS w wr #[.int .i64 4, .int .u64 x0, .int .u64 x1, .int .u64 x2, .int .u64 x3, .slice A n ca]))
      case atStart => exact ⟨0, rfl, by omega, by omega, rfl, HS⟩
      case round =>
        clear HS
        obtain ⟨i, rfl, hi, hik, rfl, HS⟩ := hrel
        have a5 : wr.cell? ⟨w.heap.size, 5, none⟩ = some (.slice A n ca) := by rw [cell_of_row _ _ 5 _ _ _ HS.out.a]; rfl
        by_cases hlt : i < n
        · have hlt2 : (i : Int) < n := by omega
          have hi0 : (0 : Int) ≤ i := by omega
          obtain ⟨kd, hkd⟩ : ∃ kd, kids[i]? = some kd := ⟨_, List.getElem?_eq_getElem (by rw [HN.out]; exact hlt)⟩
          obtain ⟨⟨ga, oa, rfl, pa, la, hca⟩, hta⟩ := HA.out i kd hkd
          have hC : ∀ W, Below w.heap.size w W → Calls Tryd.prog 50 #[nodeV kd (ka i)] W fun e w' => e = .returned (.bool (emptyT kd)) ∧ Below W.heap.size W w' := fun W hW => HI.out kd (List.mem_of_getElem? hkd) _ _ W (hta.on hW)
          simp only [nodeV, nodeC] at hC
          have HC := Lib.hid hC
          have HT := Lib.hid (all_take hkd)
          have HM := Lib.hid (List.mem_of_getElem? hkd)
          obtain ⟨y0, y1, y2, y3, y4, y5⟩ := kid_cells HS.out.up la hca
          obtain ⟨K0, hK0⟩ : ∃ K0, ka i = K0 := ⟨_, rfl⟩
          obtain ⟨Ak, ck, hks⟩ := hta.slice
          rw [hks] at y5 HC
          clear hC hca hta hkd hK0 hks
          rcases hf : (kids.take i).any emptyT
          case false =>
            have HF := Lib.hid hf
            clear hf
            go_wp2_with fail
            refine (HC.out _ HS.out.up).mono ?_
            rintro e w2 ⟨rfl, hb⟩
            have HS2 := Lib.hid (HS.out.on hb)
            clear hb HS HC y0 y1 y2 y3 y4 y5 a5
            go_wp2_with fail
            go_roundg (gk - 1)
            case measure => omega
            case rel => exact ⟨i + 1, by go_num, by omega, by omega, by rw [HT.out.2, HF.out]; rfl, HS2⟩
          case true =>
            have HF := Lib.hid hf
            clear hf HC y0 y1 y2 y3 y4 y5
            go_wp2_with fail
            clear a5
            go_roundg (gk - 1)
            case measure => omega
            case rel => exact ⟨i + 1, by go_num, by omega, by omega, by rw [HT.out.2, HF.out]; rfl, HS⟩
        · obtain rfl : i = n := by omega
          have HU := Lib.hid HS.out.up
          have hq : (kids.take i).any emptyT = r := by rw [← HN.out, List.take_length, HE4.out]
          rw [hq]
          clear HS hq
          go_wp2_with fail
          go_ret
          exact ⟨rfl, HU.out⟩
    have n4 : ((op : Int) == 4) = false := bool_eqs op 4 h4
    have he := HE3.out
    rw [if_neg h3, if_neg h4] at he
    subst he
    have HU := Lib.hid HS.out.up
    clear HS HI HA HN h3 h4 HE3
    go_enter Tryd.func50, Tryd.ntmps50
    go_wp2_with fail
    go_ret
    exact ⟨rfl, HU.out⟩
end Go.Proofs.YtfhggnbnbopkkaaDoor
