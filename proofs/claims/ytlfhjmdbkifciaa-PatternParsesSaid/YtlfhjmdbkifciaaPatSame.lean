/- The document's Same: two trees that are the same are told to be. -/
import Derived.Test.YtlfhjmdbkifciaaPatRe
import Derived.Test.YtlfhjmdbkifciaaPatOk
import Derived.Deep.LoopGhost
import Derived.ChangeKeysEq
import Derived.Deep.RegionHeld3
namespace Go.Proofs.Ytlfhjmdbkifciaa
open Go.RowKit PM


theorem cell_below {w w' : World} {a : Addr} {v : Value} (h : w.cell? a = some v) (hb : Below w.heap.size w w') : w'.cell? a = some v :=
  (hb.cell (World.block_lt_of_cell? w _ h)).trans h

theorem IsT.parts {w : World} {p : Nat → Prop} {K : Value} {t : T} (h : IsT w p K t) : ∃ A c, ∃ ks : Nat → Value, K = .slice A t.kids.length c ∧ ∀ i k, t.kids[i]? = some k →
    (∃ g o, A = some ⟨g, o, none⟩ ∧ p g ∧ g < w.heap.size ∧ ∀ j v, (nodeC k (ks i))[j]? = some v → w.cell? ⟨g, o + i * 6 + j, none⟩ = some v) ∧ IsT w p (ks i) k := by
  cases h with
  | mk op set kids A c ks hA hk =>
    refine ⟨A, c, ks, rfl, fun i k hi => ?_⟩
    obtain ⟨g, o, h1, h2, h3, h4⟩ := hA (fun e => by simp only [T.kids] at hi; rw [e] at hi; simp at hi)
    exact ⟨⟨g, o, h1, h2, h3, fun j v hv => h4 i k j v hi hv⟩, hk i k hi⟩

theorem neq_set (x0 x1 x2 x3 : Int) (w : World) : (binOp .neq TB (.agg #[.int .u64 x0, .int .u64 x1, .int .u64 x2, .int .u64 x3]) (.agg #[.int .u64 x0, .int .u64 x1, .int .u64 x2, .int .u64 x3])).run Try.prog w = .ok (.bool false) w := by
  rw [run_neq_struct]
  have hz : ∃ i, Try.prog.info? 25 = some i := Option.isSome_iff_exists.1 (by kernel_rfl)
  obtain ⟨i, hi⟩ := hz
  rw [run_equalIn_array w 9999 _ _ Try.underlying27 hi, show List.range 4 = [0, 1, 2, 3] from rfl, show Try.prog.cellsOf 25 = 1 from by kernel_rfl]
  simp [Op.eqItems, go_sem]

/-- what a round of Same finds -/
structure SmS (w wr : World) (Ca Cb : Array Value) : Prop where
  a : wr.heap[w.heap.size]? = some (.cells Ca TN (0, 0))
  b : wr.heap[w.heap.size + 1]? = some (.cells Cb TN (0, 0))
  up : Below w.heap.size w wr
theorem SmS.on {w wr w' : World} {Ca Cb : Array Value} (h : SmS w wr Ca Cb) (hb : Below wr.heap.size wr w') : SmS w w' Ca Cb :=
  ⟨(hb.block _ (lt_of_block h.a)).trans h.a, (hb.block _ (lt_of_block h.b)).trans h.b, below_then h.up hb (Nat.le_refl _)⟩
theorem SmS.start (w : World) (Ca Cb : Array Value) : SmS w ((w.alloc (.cells Ca TN)).alloc (.cells Cb TN)) Ca Cb := by
  have b1 := below_new w (.cells Ca TN)
  have b2 := below_new (w.alloc (.cells Ca TN)) (.cells Cb TN)
  have h1 := heap_alloc_new w (.cells Ca TN)
  have h2 := heap_alloc_new (w.alloc (.cells Ca TN)) (.cells Cb TN)
  simp only [World.size_alloc] at b2 h2
  exact ⟨(b2.block _ (by omega)).trans h1, h2, b1.trans (b2.mono (by omega))⟩

def SameOk (t : T) : Prop := ∀ (p q : Nat → Prop) (Ka Kb : Value) (w : World), IsT w p Ka t → IsT w q Kb t →
  Calls Try.prog 16 #[nodeV t Ka, nodeV t Kb] w fun e w' => e = .returned (.bool true) ∧ Below w.heap.size w w'

set_option maxRecDepth 100000 in
set_option maxHeartbeats 4000000 in
theorem same_any (m : Nat) (hm : m ≤ 1000000) (t : T) : T.OK m t → SameOk t := by
  induction t using T.ind with
  | h op set kids ih =>
    intro hok p q Ka Kb w ha hb
    obtain ⟨hkl, hks⟩ : kids.length ≤ m ∧ ∀ k ∈ kids, T.OK m k := by cases hok with | mk a b c => exact ⟨b, c⟩
    have hI : ∀ k ∈ kids, SameOk k := fun k hk => ih k hk (hks k hk)
    have HI := Lib.hid hI
    obtain ⟨A, ca, ka, rfl, hA⟩ := ha.parts
    obtain ⟨B, cb, kb, rfl, hB⟩ := hb.parts
    simp only [T.kids] at hA hB
    have HA := Lib.hid hA; have HB := Lib.hid hB
    have hset := neq_set (word set 0) (word set 1) (word set 2) (word set 3)
    clear ih hI hA hB ha hb hks hok
    simp only [nodeV, nodeC, T.op, T.set, T.kids]
    generalize hx0 : word set 0 = x0 at *
    generalize hx1 : word set 1 = x1 at *
    generalize hx2 : word set 2 = x2 at *
    generalize hx3 : word set 3 = x3 at *
    clear hx0 hx1 hx2 hx3
    obtain ⟨n, hn⟩ : ∃ n, kids.length = n := ⟨_, rfl⟩
    rw [hn] at hkl ⊢
    have HN := Lib.hid hn
    clear hn
    have HS := Lib.hid (SmS.start w #[.int .i64 op, .int .u64 x0, .int .u64 x1, .int .u64 x2, .int .u64 x3, .slice A n ca] #[.int .i64 op, .int .u64 x0, .int .u64 x1, .int .u64 x2, .int .u64 x3, .slice B n cb])
    have hself : ((op : Int) == op) = true := by simp
    have hself2 : ((n : Int) == n) = true := by simp
    go_enter Try.func16, Try.ntmps16
    go_wp2_with fail
    change Code.wp _ _ _ _ _
    generalize (w.alloc (.cells #[.int .i64 op, .int .u64 x0, .int .u64 x1, .int .u64 x2, .int .u64 x3, .slice A n ca] TN)).alloc (.cells #[.int .i64 op, .int .u64 x0, .int .u64 x1, .int .u64 x2, .int .u64 x3, .slice B n cb] TN) = W0 at *
    go_loopg [5] (n + 1) (fun k v5 wr => ∃ i : Nat, v5 = .int .i64 i ∧ i ≤ n ∧ n + 1 - i ≤ k ∧ Hid (SmS w wr #[.int .i64 op, .int .u64 x0, .int .u64 x1, .int .u64 x2, .int .u64 x3, .slice A n ca] #[.int .i64 op, .int .u64 x0, .int .u64 x1, .int .u64 x2, .int .u64 x3, .slice B n cb]))
    case atStart => exact ⟨0, rfl, by omega, by omega, HS⟩
    case round =>
      clear HS
      obtain ⟨i, rfl, hi, hik, HS⟩ := hrel
      have a5 : wr.cell? ⟨w.heap.size, 5, none⟩ = some (.slice A n ca) := by rw [cell_of_row _ _ 5 _ _ _ HS.out.a]; rfl
      have b5 : wr.cell? ⟨w.heap.size + 1, 5, none⟩ = some (.slice B n cb) := by rw [cell_of_row _ _ 5 _ _ _ HS.out.b]; rfl
      by_cases hlt : i < n
      · have hlt2 : (i : Int) < n := by omega
        obtain ⟨kd, hkd⟩ : ∃ kd, kids[i]? = some kd := ⟨_, List.getElem?_eq_getElem (by rw [HN.out]; exact hlt)⟩
        obtain ⟨⟨ga, oa, rfl, pa, la, hca⟩, hta⟩ := HA.out i kd hkd
        obtain ⟨⟨gb, ob, rfl, pb, lb, hcb⟩, htb⟩ := HB.out i kd hkd
        have up := HS.out.up
        have xa : ∀ j v, (nodeC kd (ka i))[j]? = some v → wr.cell? ⟨ga, oa + i * 6 + j, none⟩ = some v := fun j v hv => (World.cell?_of_block (a := ⟨ga, _, none⟩) (up.block _ la)).trans (hca j v hv)
        have xb : ∀ j v, (nodeC kd (kb i))[j]? = some v → wr.cell? ⟨gb, ob + i * 6 + j, none⟩ = some v := fun j v hv => (World.cell?_of_block (a := ⟨gb, _, none⟩) (up.block _ lb)).trans (hcb j v hv)
        have y0 := xa 0 _ rfl; have y1 := xa 1 _ rfl; have y2 := xa 2 _ rfl; have y3 := xa 3 _ rfl; have y4 := xa 4 _ rfl; have y5 := xa 5 _ rfl
        have z0 := xb 0 _ rfl; have z1 := xb 1 _ rfl; have z2 := xb 2 _ rfl; have z3 := xb 3 _ rfl; have z4 := xb 4 _ rfl; have z5 := xb 5 _ rfl
        have hC : ∀ W, Below wr.heap.size wr W → Calls Try.prog 16 #[nodeV kd (ka i), nodeV kd (kb i)] W fun e w' => e = .returned (.bool true) ∧ Below W.heap.size W w' := fun W hW =>
          HI.out kd (List.mem_of_getElem? hkd) _ _ _ _ W ((hta.on up).on hW) ((htb.on up).on hW)
        simp only [nodeV, nodeC] at hC
        have HC := Lib.hid hC
        clear xa xb hca hcb up hta htb hkd hC
        simp only [Nat.add_zero] at y0 z0
        generalize word kd.set 0 = u0 at *
        generalize word kd.set 1 = u1 at *
        generalize word kd.set 2 = u2 at *
        generalize word kd.set 3 = u3 at *
        generalize kd.op = uo at *
        generalize ka i = ka' at *
        generalize kb i = kb' at *
        go_wp2_with fail
        go_region_held3 (fun w' => w'.cell? ⟨w.heap.size, 5, none⟩ = some (.slice (some ⟨ga, oa, none⟩) n ca) ∧ w'.cell? ⟨w.heap.size + 1, 5, none⟩ = some (.slice (some ⟨gb, ob, none⟩) n cb) ∧
            w'.cell? ⟨ga, oa + i * 6, none⟩ = some (.int .i64 uo) ∧ w'.cell? ⟨ga, oa + i * 6 + 1, none⟩ = some (.int .u64 u0) ∧ w'.cell? ⟨ga, oa + i * 6 + 1 + 1, none⟩ = some (.int .u64 u1) ∧ w'.cell? ⟨ga, oa + i * 6 + 1 + 1 + 1, none⟩ = some (.int .u64 u2) ∧ w'.cell? ⟨ga, oa + i * 6 + 1 + 1 + 1 + 1, none⟩ = some (.int .u64 u3) ∧ w'.cell? ⟨ga, oa + i * 6 + 1 + 1 + 1 + 1 + 1, none⟩ = some ka' ∧
            w'.cell? ⟨gb, ob + i * 6, none⟩ = some (.int .i64 uo) ∧ w'.cell? ⟨gb, ob + i * 6 + 1, none⟩ = some (.int .u64 u0) ∧ w'.cell? ⟨gb, ob + i * 6 + 1 + 1, none⟩ = some (.int .u64 u1) ∧ w'.cell? ⟨gb, ob + i * 6 + 1 + 1 + 1, none⟩ = some (.int .u64 u2) ∧ w'.cell? ⟨gb, ob + i * 6 + 1 + 1 + 1 + 1, none⟩ = some (.int .u64 u3) ∧ w'.cell? ⟨gb, ob + i * 6 + 1 + 1 + 1 + 1 + 1, none⟩ = some kb')
          (first | exact ⟨a5, b5, y0, y1, y2, y3, y4, y5, z0, z1, z2, z3, z4, z5⟩ | exact ⟨cell_below a5 hb2, cell_below b5 hb2, cell_below y0 hb2, cell_below y1 hb2, cell_below y2 hb2, cell_below y3 hb2, cell_below y4 hb2, cell_below y5 hb2, cell_below z0 hb2, cell_below z1 hb2, cell_below z2 hb2, cell_below z3 hb2, cell_below z4 hb2, cell_below z5 hb2⟩)
          (first | (go_at_call 16; refine (HC.out wr.drew ⟨rfl, rfl, rfl, Nat.le_refl _, fun _ _ => rfl⟩).mono ?_; rintro e w2 ⟨rfl, hb⟩; have hb2 : Below wr.heap.size wr w2 := ⟨hb.os, hb.tape, hb.output, hb.size, fun k hk => hb.block k hk⟩; have HS2 := Lib.hid (HS.out.on hb2); clear hb))
        clear a5 b5 y0 y1 y2 y3 y4 y5 z0 z1 z2 z3 z4 z5
        go_wp2_with fail
        go_roundg (gk - 1)
        case measure => omega
        case rel => exact ⟨i + 1, by go_num, by omega, by omega, HS2⟩
      · obtain rfl : i = n := by omega
        have HE := Lib.hid HS.out.up
        clear HS
        go_wp2_with fail
        go_ret
        exact ⟨rfl, HE.out⟩
end Go.Proofs.Ytlfhjmdbkifciaa
