/- add: what stands under a sign; the rest; all together. -/
import Derived.Test.YtpiflikblpfgoaaDoorNfaAdd3
namespace Go.Proofs.YtpiflikblpfgoaaDoor
open Go.RowKit PM

theorem add_sign5 {set : Nat → Bool} {x : T} {n m : NS} {q : Part} (h : add x n = (m, q)) : add (.mk 5 set [x]) n = (m.link q.last q.first, ⟨q.first, q.last, true⟩) := by
  have : add (.mk 5 set [x]) n = addOne [x] n 5 := by simp only [add]; rfl
  rw [this, addOne, h]; simp
theorem add_sign6 {set : Nat → Bool} {x : T} {n m : NS} {q : Part} (h : add x n = (m, q)) : add (.mk 6 set [x]) n = (m.link q.last q.first, ⟨q.first, q.last, q.empty⟩) := by
  have : add (.mk 6 set [x]) n = addOne [x] n 6 := by simp only [add]; rfl
  rw [this, addOne, h]; simp
theorem add_sign7 {set : Nat → Bool} {x : T} {n m : NS} {q : Part} (h : add x n = (m, q)) : add (.mk 7 set [x]) n = (m, ⟨q.first, q.last, true⟩) := by
  have : add (.mk 7 set [x]) n = addOne [x] n 7 := by simp only [add]; rfl
  rw [this, addOne, h]; simp
theorem addIs_mk {b : Nat} {r r' : NS × Part} {p : Part} {A : Nat → Bool} {o : Bool} {w w' : World} {v : Value} (hr : r = r') (hv : v = partV r'.2) (hn : NB w' b r'.1 p A o) (hg : w.grownBy w' (some b)) : AddIs b r p A o w (.returned v) w' := by
  subst hr; subst hv; exact ⟨rfl, hn, hg⟩
theorem AS.other {w : World} {b : Nat} {C : Array Value} {n : NS} {p : Part} {A : Nat → Bool} {o : Bool} {wr : World} (h : AS w b C n p A o wr) (hb : b < w.heap.size) {D : Nat} (hD : w.heap.size + 1 < D) (i : Nat) (v : Value) : AS w b C n p A o (wr.setCell ⟨D, i, none⟩ v) :=
  ⟨((setB wr D i v).block _ (lt_of_block h.box) (by simp; omega)).trans h.box, ((setB wr D i v).block _ (lt_of_block h.res) (by simp; omega)).trans h.res, h.net.grown (setB wr D i v) (by simp; omega), grown_new h.up (by omega) (setB wr D i v)⟩

set_option maxRecDepth 100000 in
set_option maxHeartbeats 4000000 in
theorem add_one (op : Nat) (hop : op = 5 ∨ op = 6 ∨ op = 7) (set : Nat → Bool) (kd : T) (hI : AddOk kd) : AddOk (.mk op set [kd]) := by
  intro b n p A o K w h hT hl hb hTab
  have hlt := h.lt
  have HI := Lib.hid hI
  obtain ⟨Ad, ca, ka, rfl, hA⟩ := hT.parts
  simp only [T.kids] at hA
  obtain ⟨⟨ga, oa, rfl, pa, la, hca⟩, hta⟩ := hA 0 kd rfl
  have HTB := Lib.hid hTab
  have y0 := hca 0 _ rfl; have y1 := hca 1 _ rfl; have y2 := hca 2 _ rfl; have y3 := hca 3 _ rfl; have y4 := hca 4 _ rfl; have y5 := hca 5 _ rfl
  clear hA hT hI hTab hca
  simp only [Nat.zero_mul, Nat.add_zero] at y0 y1 y2 y3 y4 y5
  have hleaves : n.k + leaves kd ≤ 64 := by
    have : op ≠ 2 := by omega
    simpa [leaves, leavesL, this] using hl
  have HB := Lib.hid hb
  have HH := Lib.hid h
  have HC := Lib.hid (fun W (hW : Below w.heap.size w W) => HI.out b n p A o (ka 0) W (h.on hW) (hta.on hW) hleaves hb (HTB.out.on hW))
  obtain ⟨Ak, ck, hke⟩ := hta.slice
  rw [hke] at HC y5
  have HLE := Lib.hid hleaves
  have HLT := Lib.hid hlt
  clear h hl hleaves hb hke hta
  simp only [nodeV, nodeC] at HC
  simp only [nodeV, nodeC, T.op, T.set, T.kids, List.length_cons, List.length_nil]
  generalize word set 0 = x0 at *
  generalize word set 1 = x1 at *
  generalize word set 2 = x2 at *
  generalize word set 3 = x3 at *
  generalize word kd.set 0 = u0 at *
  generalize word kd.set 1 = u1 at *
  generalize word kd.set 2 = u2 at *
  generalize word kd.set 3 = u3 at *
  generalize kd.op = uo at *
  generalize kd.kids.length = lk at *
  rcases hop with rfl | rfl | rfl
  · go_enter Tryd.func25, Tryd.ntmps25
    go_wp2_with fail
    have HS := AS.start #[.int .i64 (5 : Nat), .int .u64 x0, .int .u64 x1, .int .u64 x2, .int .u64 x3, .slice (some ⟨ga, oa, none⟩) 1 ca] HH.out
    have hbw : Below w.heap.size w ((w.alloc (.cells #[.int .i64 (5 : Nat), .int .u64 x0, .int .u64 x1, .int .u64 x2, .int .u64 x3, .slice (some ⟨ga, oa, none⟩) 1 ca] TN)).alloc (.cells #[.int .u64 0, .int .u64 0, .bool false] TPt)) := ((Below.refl _ _).alloc (Nat.le_refl _) _).alloc (by simp) _
    generalize (w.alloc (.cells #[.int .i64 (5 : Nat), .int .u64 x0, .int .u64 x1, .int .u64 x2, .int .u64 x3, .slice (some ⟨ga, oa, none⟩) 1 ca] TN)).alloc (.cells #[.int .u64 0, .int .u64 0, .bool false] TPt) = W1 at *
    refine (HC.out W1 hbw).mono ?_
    rintro e w2 ⟨rfl, hn2, hg2⟩
    have HS2 := Lib.hid (HS.go hlt hn2 hg2)
    have HT2 : Hid (Tab w2) := Lib.hid ((HTB.out.on hbw).grown hg2 (fun e => HB.out (Option.some.inj e)))
    clear hn2 hg2 hbw HS HC y0 y1 y2 y3 y4 y5 HH
    generalize hCC : (#[.int .i64 (5 : Nat), .int .u64 x0, .int .u64 x1, .int .u64 x2, .int .u64 x3, .slice (some ⟨ga, oa, none⟩) 1 ca] : Array Value) = CC at *
    have HCC := Lib.hid hCC
    clear hCC
    generalize hr : add kd n = r at *
    have HR := Lib.hid hr
    clear hr
    obtain ⟨m2, q2⟩ := r
    simp only [partV, partC, List.toArray]
    have b0 : w2.cell? ⟨w.heap.size, 0, none⟩ = some (.int .i64 (5 : Nat)) := by rw [cell_of_row _ _ 0 _ _ _ HS2.out.box, ← HCC.out]; rfl
    have l1 : w.heap.size + 1 < w2.heap.size := lt_of_block HS2.out.res
    have l0 : w.heap.size < w2.heap.size := by omega
    cases hpe : q2.empty
    all_goals
      have HPE := Lib.hid hpe
      clear hpe
      go_wp2_with fail
      generalize hW3 : w2.alloc (.cells #[.int .u64 (B64 q2.first), .int .u64 (B64 q2.last), .bool _] TPt) = W3 at *
      have hb3 : Below w2.heap.size w2 W3 := by rw [← hW3]; exact below_new _ _
      have hD : ∃ e, q2.empty = e ∧ W3.heap[w2.heap.size]? = some (.cells #[.int .u64 (B64 q2.first), .int .u64 (B64 q2.last), .bool e] TPt (0, 0)) := ⟨_, HPE.out, by rw [← hW3]; exact heap_alloc_new w2 _⟩
      refine (link_any b m2 p A o q2.last q2.first W3 (HS2.out.net.on hb3) HB.out (HT2.out.on hb3)).mono ?_
      rintro e w4 ⟨rfl, hn4, hg4⟩
      have HS4 : Hid (AS w b CC (m2.link q2.last q2.first) p A o w4) := Lib.hid ((HS2.out.on hb3).go hlt hn4 hg4)
      obtain ⟨e, he, hD⟩ := hD
      replace hD := (hg4.block _ (lt_of_block hD) (by have := HS2.out.net.lt; simp; omega)).trans hD
      rw [HPE.out] at he
      subst he
      clear hn4 hg4 hb3 hW3 b0
      have b0 : w4.cell? ⟨w.heap.size, 0, none⟩ = some (.int .i64 (5 : Nat)) := by rw [cell_of_row _ _ 0 _ _ _ HS4.out.box, ← HCC.out]; rfl
      have r0 := cell_of_row _ _ 0 _ _ _ HS4.out.res; have r1 := cell_of_row _ _ 1 _ _ _ HS4.out.res; have r2 := cell_of_row _ _ 2 _ _ _ HS4.out.res
      have f0 := frozen_of_row _ _ 0 _ _ HS4.out.res; have f1 := frozen_of_row _ _ 1 _ _ HS4.out.res; have f2 := frozen_of_row _ _ 2 _ _ HS4.out.res
      have d0 := cell_of_row _ _ 0 _ _ _ hD; have d1 := cell_of_row _ _ 1 _ _ _ hD; have d2 := cell_of_row _ _ 2 _ _ _ hD
      have g2 := frozen_of_row _ _ 2 _ _ hD
      simp only [List.getElem?_toArray, List.getElem?_cons_zero, List.getElem?_cons_succ] at r0 r1 r2 d0 d1 d2
      generalize hDD : w2.heap.size = D at *
      have n1 : D ≠ w.heap.size + 1 := by omega
      have n2 : w.heap.size + 1 ≠ D := by omega
      have n3 : D ≠ w.heap.size := by omega
      have n4 : w.heap.size ≠ D := by omega
      clear hD
      go_wp2_with fail
      obtain ⟨e1, e2, e3⟩ := (HS4.out.other hlt (D := D) (by omega) 2 (.bool true)).done hlt (.int .u64 (B64 q2.first)) (.int .u64 (B64 q2.last)) (.bool true)
      refine bodyPost_ret (results_cell_row rfl _ _ (w.heap.size + 1) TPt _ (0, 0) _ rfl e1 Tryd.underlying58 rfl (by kernel_rfl)) rfl (addIs_mk (r' := (m2.link q2.last q2.first, ⟨q2.first, q2.last, true⟩)) ?_ rfl e2 e3)
      exact add_sign5 HR.out
  · go_enter Tryd.func25, Tryd.ntmps25
    go_wp2_with fail
    have HS := AS.start #[.int .i64 (6 : Nat), .int .u64 x0, .int .u64 x1, .int .u64 x2, .int .u64 x3, .slice (some ⟨ga, oa, none⟩) 1 ca] HH.out
    have hbw : Below w.heap.size w ((w.alloc (.cells #[.int .i64 (6 : Nat), .int .u64 x0, .int .u64 x1, .int .u64 x2, .int .u64 x3, .slice (some ⟨ga, oa, none⟩) 1 ca] TN)).alloc (.cells #[.int .u64 0, .int .u64 0, .bool false] TPt)) := ((Below.refl _ _).alloc (Nat.le_refl _) _).alloc (by simp) _
    generalize (w.alloc (.cells #[.int .i64 (6 : Nat), .int .u64 x0, .int .u64 x1, .int .u64 x2, .int .u64 x3, .slice (some ⟨ga, oa, none⟩) 1 ca] TN)).alloc (.cells #[.int .u64 0, .int .u64 0, .bool false] TPt) = W1 at *
    refine (HC.out W1 hbw).mono ?_
    rintro e w2 ⟨rfl, hn2, hg2⟩
    have HS2 := Lib.hid (HS.go hlt hn2 hg2)
    have HT2 : Hid (Tab w2) := Lib.hid ((HTB.out.on hbw).grown hg2 (fun e => HB.out (Option.some.inj e)))
    clear hn2 hg2 hbw HS HC y0 y1 y2 y3 y4 y5 HH
    generalize hCC : (#[.int .i64 (6 : Nat), .int .u64 x0, .int .u64 x1, .int .u64 x2, .int .u64 x3, .slice (some ⟨ga, oa, none⟩) 1 ca] : Array Value) = CC at *
    have HCC := Lib.hid hCC
    clear hCC
    generalize hr : add kd n = r at *
    have HR := Lib.hid hr
    clear hr
    obtain ⟨m2, q2⟩ := r
    simp only [partV, partC, List.toArray]
    have b0 : w2.cell? ⟨w.heap.size, 0, none⟩ = some (.int .i64 (6 : Nat)) := by rw [cell_of_row _ _ 0 _ _ _ HS2.out.box, ← HCC.out]; rfl
    have l1 : w.heap.size + 1 < w2.heap.size := lt_of_block HS2.out.res
    have l0 : w.heap.size < w2.heap.size := by omega
    cases hpe : q2.empty
    · have HPE := Lib.hid hpe
      clear hpe
      go_wp2_with fail
      generalize hW3 : w2.alloc (.cells #[.int .u64 (B64 q2.first), .int .u64 (B64 q2.last), .bool _] TPt) = W3 at *
      have hb3 : Below w2.heap.size w2 W3 := by rw [← hW3]; exact below_new _ _
      have hD : ∃ e, q2.empty = e ∧ W3.heap[w2.heap.size]? = some (.cells #[.int .u64 (B64 q2.first), .int .u64 (B64 q2.last), .bool e] TPt (0, 0)) := ⟨_, HPE.out, by rw [← hW3]; exact heap_alloc_new w2 _⟩
      refine (link_any b m2 p A o q2.last q2.first W3 (HS2.out.net.on hb3) HB.out (HT2.out.on hb3)).mono ?_
      rintro e w4 ⟨rfl, hn4, hg4⟩
      have HS4 : Hid (AS w b CC (m2.link q2.last q2.first) p A o w4) := Lib.hid ((HS2.out.on hb3).go hlt hn4 hg4)
      obtain ⟨e, he, hD⟩ := hD
      replace hD := (hg4.block _ (lt_of_block hD) (by have := HS2.out.net.lt; simp; omega)).trans hD
      rw [HPE.out] at he
      subst he
      clear hn4 hg4 hb3 hW3 b0
      have b0 : w4.cell? ⟨w.heap.size, 0, none⟩ = some (.int .i64 (6 : Nat)) := by rw [cell_of_row _ _ 0 _ _ _ HS4.out.box, ← HCC.out]; rfl
      have r0 := cell_of_row _ _ 0 _ _ _ HS4.out.res; have r1 := cell_of_row _ _ 1 _ _ _ HS4.out.res; have r2 := cell_of_row _ _ 2 _ _ _ HS4.out.res
      have f0 := frozen_of_row _ _ 0 _ _ HS4.out.res; have f1 := frozen_of_row _ _ 1 _ _ HS4.out.res; have f2 := frozen_of_row _ _ 2 _ _ HS4.out.res
      have d0 := cell_of_row _ _ 0 _ _ _ hD; have d1 := cell_of_row _ _ 1 _ _ _ hD; have d2 := cell_of_row _ _ 2 _ _ _ hD
      have g2 := frozen_of_row _ _ 2 _ _ hD
      simp only [List.getElem?_toArray, List.getElem?_cons_zero, List.getElem?_cons_succ] at r0 r1 r2 d0 d1 d2
      generalize hDD : w2.heap.size = D at *
      have n1 : D ≠ w.heap.size + 1 := by omega
      have n2 : w.heap.size + 1 ≠ D := by omega
      have n3 : D ≠ w.heap.size := by omega
      have n4 : w.heap.size ≠ D := by omega
      clear hD
      go_wp2_with fail
      obtain ⟨e1, e2, e3⟩ := (HS4.out.other hlt (D := D) (by omega) 2 (.bool false)).done hlt (.int .u64 (B64 q2.first)) (.int .u64 (B64 q2.last)) (.bool false)
      refine bodyPost_ret (results_cell_row rfl _ _ (w.heap.size + 1) TPt _ (0, 0) _ rfl e1 Tryd.underlying58 rfl (by kernel_rfl)) rfl (addIs_mk (r' := (m2.link q2.last q2.first, ⟨q2.first, q2.last, false⟩)) ?_ rfl e2 e3)
      rw [add_sign6 HR.out, HPE.out]
    · have HPE := Lib.hid hpe
      clear hpe
      go_wp2_with fail
      generalize hW3 : w2.alloc (.cells #[.int .u64 (B64 q2.first), .int .u64 (B64 q2.last), .bool _] TPt) = W3 at *
      have hb3 : Below w2.heap.size w2 W3 := by rw [← hW3]; exact below_new _ _
      have hD : ∃ e, q2.empty = e ∧ W3.heap[w2.heap.size]? = some (.cells #[.int .u64 (B64 q2.first), .int .u64 (B64 q2.last), .bool e] TPt (0, 0)) := ⟨_, HPE.out, by rw [← hW3]; exact heap_alloc_new w2 _⟩
      refine (link_any b m2 p A o q2.last q2.first W3 (HS2.out.net.on hb3) HB.out (HT2.out.on hb3)).mono ?_
      rintro e w4 ⟨rfl, hn4, hg4⟩
      have HS4 : Hid (AS w b CC (m2.link q2.last q2.first) p A o w4) := Lib.hid ((HS2.out.on hb3).go hlt hn4 hg4)
      obtain ⟨e, he, hD⟩ := hD
      replace hD := (hg4.block _ (lt_of_block hD) (by have := HS2.out.net.lt; simp; omega)).trans hD
      rw [HPE.out] at he
      subst he
      clear hn4 hg4 hb3 hW3 b0
      have b0 : w4.cell? ⟨w.heap.size, 0, none⟩ = some (.int .i64 (6 : Nat)) := by rw [cell_of_row _ _ 0 _ _ _ HS4.out.box, ← HCC.out]; rfl
      have r0 := cell_of_row _ _ 0 _ _ _ HS4.out.res; have r1 := cell_of_row _ _ 1 _ _ _ HS4.out.res; have r2 := cell_of_row _ _ 2 _ _ _ HS4.out.res
      have f0 := frozen_of_row _ _ 0 _ _ HS4.out.res; have f1 := frozen_of_row _ _ 1 _ _ HS4.out.res; have f2 := frozen_of_row _ _ 2 _ _ HS4.out.res
      have d0 := cell_of_row _ _ 0 _ _ _ hD; have d1 := cell_of_row _ _ 1 _ _ _ hD; have d2 := cell_of_row _ _ 2 _ _ _ hD
      have g2 := frozen_of_row _ _ 2 _ _ hD
      simp only [List.getElem?_toArray, List.getElem?_cons_zero, List.getElem?_cons_succ] at r0 r1 r2 d0 d1 d2
      generalize hDD : w2.heap.size = D at *
      have n1 : D ≠ w.heap.size + 1 := by omega
      have n2 : w.heap.size + 1 ≠ D := by omega
      have n3 : D ≠ w.heap.size := by omega
      have n4 : w.heap.size ≠ D := by omega
      clear hD
      go_wp2_with fail
      obtain ⟨e1, e2, e3⟩ := (HS4.out.other hlt (D := D) (by omega) 2 (.bool true)).done hlt (.int .u64 (B64 q2.first)) (.int .u64 (B64 q2.last)) (.bool true)
      refine bodyPost_ret (results_cell_row rfl _ _ (w.heap.size + 1) TPt _ (0, 0) _ rfl e1 Tryd.underlying58 rfl (by kernel_rfl)) rfl (addIs_mk (r' := (m2.link q2.last q2.first, ⟨q2.first, q2.last, true⟩)) ?_ rfl e2 e3)
      rw [add_sign6 HR.out, HPE.out]
  · go_enter Tryd.func25, Tryd.ntmps25
    go_wp2_with fail
    have HS := AS.start #[.int .i64 (7 : Nat), .int .u64 x0, .int .u64 x1, .int .u64 x2, .int .u64 x3, .slice (some ⟨ga, oa, none⟩) 1 ca] HH.out
    have hbw : Below w.heap.size w ((w.alloc (.cells #[.int .i64 (7 : Nat), .int .u64 x0, .int .u64 x1, .int .u64 x2, .int .u64 x3, .slice (some ⟨ga, oa, none⟩) 1 ca] TN)).alloc (.cells #[.int .u64 0, .int .u64 0, .bool false] TPt)) := ((Below.refl _ _).alloc (Nat.le_refl _) _).alloc (by simp) _
    generalize (w.alloc (.cells #[.int .i64 (7 : Nat), .int .u64 x0, .int .u64 x1, .int .u64 x2, .int .u64 x3, .slice (some ⟨ga, oa, none⟩) 1 ca] TN)).alloc (.cells #[.int .u64 0, .int .u64 0, .bool false] TPt) = W1 at *
    refine (HC.out W1 hbw).mono ?_
    rintro e w2 ⟨rfl, hn2, hg2⟩
    have HS2 := Lib.hid (HS.go hlt hn2 hg2)
    have HT2 : Hid (Tab w2) := Lib.hid ((HTB.out.on hbw).grown hg2 (fun e => HB.out (Option.some.inj e)))
    clear hn2 hg2 hbw HS HC y0 y1 y2 y3 y4 y5 HH
    generalize hCC : (#[.int .i64 (7 : Nat), .int .u64 x0, .int .u64 x1, .int .u64 x2, .int .u64 x3, .slice (some ⟨ga, oa, none⟩) 1 ca] : Array Value) = CC at *
    have HCC := Lib.hid hCC
    clear hCC
    generalize hr : add kd n = r at *
    have HR := Lib.hid hr
    clear hr
    obtain ⟨m2, q2⟩ := r
    simp only [partV, partC, List.toArray]
    have b0 : w2.cell? ⟨w.heap.size, 0, none⟩ = some (.int .i64 (7 : Nat)) := by rw [cell_of_row _ _ 0 _ _ _ HS2.out.box, ← HCC.out]; rfl
    have l1 : w.heap.size + 1 < w2.heap.size := lt_of_block HS2.out.res
    have l0 : w.heap.size < w2.heap.size := by omega
    cases hpe : q2.empty
    all_goals
      have HPE := Lib.hid hpe
      clear hpe
      have r0 := cell_of_row _ _ 0 _ _ _ HS2.out.res; have r1 := cell_of_row _ _ 1 _ _ _ HS2.out.res; have r2 := cell_of_row _ _ 2 _ _ _ HS2.out.res
      have f0 := frozen_of_row _ _ 0 _ _ HS2.out.res; have f1 := frozen_of_row _ _ 1 _ _ HS2.out.res; have f2 := frozen_of_row _ _ 2 _ _ HS2.out.res
      simp only [List.getElem?_toArray, List.getElem?_cons_zero, List.getElem?_cons_succ] at r0 r1 r2
      go_wp2_with fail
      obtain ⟨e1, e2, e3⟩ := HS2.out.done hlt (.int .u64 (B64 q2.first)) (.int .u64 (B64 q2.last)) (.bool true)
      refine bodyPost_ret (results_cell_row rfl _ _ (w.heap.size + 1) TPt _ (0, 0) _ rfl ((below_new _ _).block _ (lt_of_block e1) |>.trans e1) Tryd.underlying58 rfl (by kernel_rfl)) rfl (addIs_mk (r' := (m2, ⟨q2.first, q2.last, true⟩)) ?_ rfl (e2.on (below_new _ _)) (grown_trans e3 (grown_below (below_new _ _) _)))
      exact add_sign7 HR.out

end Go.Proofs.YtpiflikblpfgoaaDoor
