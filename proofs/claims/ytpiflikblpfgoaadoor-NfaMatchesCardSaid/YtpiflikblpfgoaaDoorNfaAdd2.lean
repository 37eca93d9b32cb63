/- add: one behind the other. -/
import Derived.Test.YtpiflikblpfgoaaDoorNfaAdd1
namespace Go.Proofs.YtpiflikblpfgoaaDoor
open Go.RowKit PM

theorem cell_below {w w' : World} {a : Addr} {v : Value} (h : w.cell? a = some v) (hb : Below w.heap.size w w') : w'.cell? a = some v :=
  (hb.cell (World.block_lt_of_cell? w _ h)).trans h

theorem IsT.parts {w : World} {p : Nat → Prop} {K : Value} {t : T} (h : IsT w p K t) : ∃ A c, ∃ ks : Nat → Value, K = .slice A t.kids.length c ∧ ∀ i k, t.kids[i]? = some k →
    (∃ g o, A = some ⟨g, o, none⟩ ∧ p g ∧ g < w.heap.size ∧ ∀ j v, (nodeC k (ks i))[j]? = some v → w.cell? ⟨g, o + i * 6 + j, none⟩ = some v) ∧ IsT w p (ks i) k := by
  cases h with
  | mk op set kids A c ks hA hk =>
    refine ⟨A, c, ks, rfl, fun i k hi => ?_⟩
    obtain ⟨g, o, h1, h2, h3, h4⟩ := hA (fun e => by simp only [T.kids] at hi; rw [e] at hi; simp at hi)
    exact ⟨⟨g, o, h1, h2, h3, fun j v hv => h4 i k j v hi hv⟩, hk i k hi⟩

/-- a tree's places are found -/
def AddOk (t : T) : Prop := ∀ (b : Nat) (n : NS) (p : Part) (A : Nat → Bool) (o : Bool) (K : Value) (w : World), NB w b n p A o → IsT w (fun x => x ≠ b) K t → n.k + leaves t ≤ 64 → b ≠ 0 → Tab w →
  Calls Tryd.prog 25 #[.pointer (some ⟨b, 0, none⟩), nodeV t K] w (AddIs b (add t n) p A o w)

/-- what add holds at a row of kids -/
structure KS (w : World) (b : Nat) (C : Array Value) (n : NS) (q p : Part) (A : Nat → Bool) (o : Bool) (wr : World) : Prop extends AS w b C n p A o wr where
  all : wr.heap[w.heap.size + 2]? = some (.cells (partC q).toArray TPt (0, 0))
theorem KS.start {w : World} {b : Nat} (C : Array Value) {n : NS} {p : Part} {A : Nat → Bool} {o : Bool} (h : NB w b n p A o) (q : Part) : KS w b C n q p A o (((w.alloc (.cells C TN)).alloc (.cells #[.int .u64 0, .int .u64 0, .bool false] TPt)).alloc (.cells (partC q).toArray TPt)) := by
  have h1 := AS.start C h
  have h2 := heap_alloc_new ((w.alloc (.cells C TN)).alloc (.cells #[.int .u64 0, .int .u64 0, .bool false] TPt)) (.cells (partC q).toArray TPt)
  simp only [World.size_alloc] at h2
  exact ⟨h1.on (below_new _ _), h2⟩
theorem KS.on {w : World} {b : Nat} {C : Array Value} {n : NS} {q p : Part} {A : Nat → Bool} {o : Bool} {wr w' : World} (h : KS w b C n q p A o wr) (hb : Below wr.heap.size wr w') : KS w b C n q p A o w' :=
  ⟨h.toAS.on hb, (hb.block _ (lt_of_block h.all)).trans h.all⟩
theorem KS.go {w : World} {b : Nat} {C : Array Value} {n m : NS} {q p : Part} {A : Nat → Bool} {o : Bool} {wr w' : World} (h : KS w b C n q p A o wr) (hb : b < w.heap.size) (hn : NB w' b m p A o) (hg : wr.grownBy w' (some b)) : KS w b C m q p A o w' :=
  ⟨h.toAS.go hb hn hg, (hg.block _ (lt_of_block h.all) (by simp; omega)).trans h.all⟩
theorem KS.put {w : World} {b : Nat} {C : Array Value} {n : NS} {q q' p : Part} {A : Nat → Bool} {o : Bool} {wr w' : World} (h : KS w b C n q p A o wr) (hb : b < w.heap.size) (ha : w'.heap[w.heap.size + 2]? = some (.cells (partC q').toArray TPt (0, 0))) (hg : wr.grownBy w' (some (w.heap.size + 2))) : KS w b C n q' p A o w' :=
  ⟨⟨(hg.block _ (lt_of_block h.box) (by simp)).trans h.box, (hg.block _ (lt_of_block h.res) (by simp)).trans h.res, h.net.grown hg (by simp; omega), grown_new h.up (by omega) hg⟩, ha⟩

/-- only block E was turned, and it holds this -/
structure OnlyE (w w' : World) (E : Nat) (cs : Array Value) : Prop where
  at' : w'.heap[E]? = some (.cells cs TPt (0, 0))
  up : w.grownBy w' (some E)
theorem OnlyE.start {w : World} {E : Nat} {cs : Array Value} (h : w.heap[E]? = some (.cells cs TPt (0, 0))) : OnlyE w w E cs := ⟨h, grown_below (Below.refl _ _) _⟩
theorem OnlyE.set {w w' : World} {E : Nat} {cs : Array Value} (i : Nat) (v : Value) (h : OnlyE w w' E cs) : OnlyE w (w'.setCell ⟨E, i, none⟩ v) E (cs.setIfInBounds i v) :=
  ⟨heap_setCell_same _ E i _ _ v h.at', grown_trans h.up (setB _ _ _ _)⟩
theorem KS.put' {w : World} {b : Nat} {C : Array Value} {n : NS} {q q' p : Part} {A : Nat → Bool} {o : Bool} {wr w' : World} (h : KS w b C n q p A o wr) (hb : b < w.heap.size) {E : Nat} (hE : w.heap.size + 2 = E) {cs : Array Value} (ho : OnlyE wr w' E cs) (hcs : cs = (partC q').toArray) : KS w b C n q' p A o w' := by
  subst hE; subst hcs
  exact h.put hb ho.at' ho.up

theorem kids_drop {α : Type} {l : List α} {i : Nat} {x : α} (h : l[i]? = some x) : l.drop i = x :: l.drop (i + 1) := by
  obtain ⟨hi, rfl⟩ := List.getElem?_eq_some_iff.1 h
  exact List.drop_eq_getElem_cons hi

theorem partC_zero (e : Bool) : partC (Part.zero e) = [.int .u64 0, .int .u64 0, .bool e] := by
  show [Value.int .u64 (B64 none'), .int .u64 (B64 none'), .bool e] = _
  rw [show B64 none' = 0 from B64_none]; rfl
theorem KS.start' {w : World} {b : Nat} (C : Array Value) {n : NS} {p : Part} {A : Nat → Bool} {o : Bool} (h : NB w b n p A o) (e : Bool) : KS w b C n (Part.zero e) p A o (((w.alloc (.cells C TN)).alloc (.cells #[.int .u64 0, .int .u64 0, .bool false] TPt)).alloc (.cells #[.int .u64 0, .int .u64 0, .bool e] TPt)) := by
  have := KS.start C h (Part.zero e)
  rw [partC_zero] at this; exact this

set_option maxRecDepth 100000 in
set_option maxHeartbeats 4000000 in
theorem add_cat (m : Nat) (hm : m ≤ 1000000) (set : Nat → Bool) (kids : List T) (hkl : kids.length ≤ m) (hI : ∀ k ∈ kids, AddOk k) : AddOk (.mk 3 set kids) := by
  intro b n p A o K w h hT hl hb hTab
  have hlt := h.lt
  have HI := Lib.hid hI
  obtain ⟨Ad, ca, ka, rfl, hA⟩ := hT.parts
  simp only [T.kids] at hA
  have HA := Lib.hid hA
  have HTB := Lib.hid hTab
  clear hA hT hI hTab
  simp only [nodeV, nodeC, T.op, T.set, T.kids]
  generalize word set 0 = x0 at *
  generalize word set 1 = x1 at *
  generalize word set 2 = x2 at *
  generalize word set 3 = x3 at *
  obtain ⟨N, hN⟩ : ∃ N, kids.length = N := ⟨_, rfl⟩
  rw [hN] at hkl ⊢
  have HN := Lib.hid hN
  clear hN
  have HS := Lib.hid (KS.start' #[.int .i64 (3 : Nat), .int .u64 x0, .int .u64 x1, .int .u64 x2, .int .u64 x3, .slice Ad N ca] h true)
  have hleaves : n.k + leavesL kids ≤ 64 := by simpa [leaves] using hl
  have HL := Lib.hid hleaves
  have HLT := Lib.hid hlt; have HB := Lib.hid hb
  clear h hl hleaves hb
  go_enter Tryd.func25, Tryd.ntmps25
  go_wp2_with fail
  change Code.wp _ _ _ _ _
  generalize hW0 : ((w.alloc (.cells #[.int .i64 (3 : Nat), .int .u64 x0, .int .u64 x1, .int .u64 x2, .int .u64 x3, .slice Ad N ca] TN)).alloc (.cells #[.int .u64 0, .int .u64 0, .bool false] TPt)).alloc (.cells #[.int .u64 0, .int .u64 0, .bool true] TPt) = W0 at *
  clear hW0
  generalize hCC : (#[.int .i64 (3 : Nat), .int .u64 x0, .int .u64 x1, .int .u64 x2, .int .u64 x3, .slice Ad N ca] : Array Value) = CC at HS
  have HCC := Lib.hid hCC
  clear hCC
  go_loopg [66] (N + 1) (fun k v wr => ∃ (i : Nat) (m' : NS) (q : Part), v = .int .i64 i ∧ i ≤ N ∧ N + 1 - i ≤ k ∧ Hid (addCat (kids.drop i) m' q = addCat kids n (Part.zero true) ∧ m'.k + leavesL (kids.drop i) ≤ 64 ∧ KS w b CC m' q p A o wr))
  case atStart => exact ⟨0, n, _, rfl, by omega, by omega, Lib.hid ⟨rfl, HL.out, HS.out⟩⟩
  case round =>
    clear HS
    obtain ⟨i, m', q, rfl, hi, hik, HS⟩ := hrel
    by_cases hlt : i < N
    · have hlt2 : (i : Int) < N := by omega
      obtain ⟨kd, hkd⟩ : ∃ kd, kids[i]? = some kd := ⟨_, List.getElem?_eq_getElem (by rw [HN.out]; exact hlt)⟩
      obtain ⟨⟨ga, oa, rfl, pa, la, hca⟩, hta⟩ := HA.out i kd hkd
      have up := HS.out.2.2.up
      have xa : ∀ j v, (nodeC kd (ka i))[j]? = some v → wr.cell? ⟨ga, oa + i * 6 + j, none⟩ = some v := fun j v hv => (World.cell?_of_block (a := ⟨ga, _, none⟩) (up.block _ la (by simp; omega))).trans (hca j v hv)
      have y0 := xa 0 _ rfl; have y1 := xa 1 _ rfl; have y2 := xa 2 _ rfl; have y3 := xa 3 _ rfl; have y4 := xa 4 _ rfl; have y5 := xa 5 _ rfl
      have HKD := Lib.hid hkd
      have HTA := Lib.hid (hta.grown up (fun x hx e => hx (Option.some.inj e)))
      have HTr := Lib.hid (HTB.out.grown up (fun e => HB.out (Option.some.inj e)))
      clear xa hca up hta hkd pa la
      simp only [Nat.add_zero] at y0
      have HC := Lib.hid (fun W (hW : Below wr.heap.size wr W) => HI.out kd (List.mem_of_getElem? HKD.out) b m' p A o (ka i) W (HS.out.2.2.net.on hW) (HTA.out.on hW) (by have := HS.out.2.1; rw [kids_drop HKD.out] at this; simp only [leavesL] at this; omega) HB.out (HTr.out.on hW))
      simp only [nodeV, nodeC] at HC
      generalize word kd.set 0 = u0 at *
      generalize word kd.set 1 = u1 at *
      generalize word kd.set 2 = u2 at *
      generalize word kd.set 3 = u3 at *
      generalize kd.op = uo at *
      obtain ⟨Ak, ck, hke⟩ := HTA.out.slice
      rw [hke] at HTA HC y5
      clear hke
      generalize kd.kids.length = lk at *
      go_wp2_with fail
      generalize hW1 : wr.alloc (.cells #[.int .i64 uo, .int .u64 u0, .int .u64 u1, .int .u64 u2, .int .u64 u3, .slice Ak lk ck] TN) = W1 at *
      have hb1 : Below wr.heap.size wr W1 := by rw [← hW1]; exact below_new _ _
      refine (HC.out W1 hb1).mono ?_
      rintro e w2 ⟨rfl, hn2, hg2⟩
      have HS2 : Hid (KS w b CC _ q p A o w2) := Lib.hid ((HS.out.2.2.on hb1).go HLT.out hn2 hg2)
      have HT2 : Hid (Tab w2) := Lib.hid ((HTr.out.on hb1).grown hg2 (fun e => HB.out (Option.some.inj e)))
      clear hn2 hg2 hb1 hW1 y0 y1 y2 y3 y4 y5 HC
      generalize hr : add kd m' = r at *
      have HR := Lib.hid hr
      clear hr
      obtain ⟨m2, q2⟩ := r
      simp only [partV, partC, List.toArray]
      have l7 : w.heap.size + 1 + 1 < w2.heap.size := lt_of_block HS2.out.all
      have z1 : w2.cell? ⟨w.heap.size + 1 + 1, 1, none⟩ = some (.int .u64 (B64 q.last)) := by rw [cell_of_row _ _ 1 _ _ _ HS2.out.all]; rfl
      have hq1 := B64_lt q2.first
      have hq2 := B64_lt q2.last
      have hq3 := B64_lt q.first
      have hq4 := B64_lt q.last
      go_wp2_with fail
      generalize hW3 : w2.alloc (.cells #[.int .u64 (B64 q2.first), .int .u64 (B64 q2.last), .bool q2.empty] TPt) = W3 at *
      have hb3 : Below w2.heap.size w2 W3 := by rw [← hW3]; exact below_new _ _
      have hD : W3.heap[w2.heap.size]? = some (.cells #[.int .u64 (B64 q2.first), .int .u64 (B64 q2.last), .bool q2.empty] TPt (0, 0)) := by rw [← hW3]; exact heap_alloc_new w2 _
      refine (link_any b m2 p A o q.last q2.first W3 (HS2.out.net.on hb3) HB.out (HT2.out.on hb3)).mono ?_
      rintro e w4 ⟨rfl, hn4, hg4⟩
      have HS4 : Hid (KS w b CC (m2.link q.last q2.first) q p A o w4) := Lib.hid ((HS2.out.on hb3).go HLT.out hn4 hg4)
      replace hD := (hg4.block _ (lt_of_block hD) (by have := HS2.out.net.lt; simp; omega)).trans hD
      have d0 := cell_of_row _ _ 0 _ _ _ hD; have d1 := cell_of_row _ _ 1 _ _ _ hD; have d2 := cell_of_row _ _ 2 _ _ _ hD
      simp only [List.getElem?_toArray, List.getElem?_cons_zero, List.getElem?_cons_succ] at d0 d1 d2
      have hall := HS4.out.all
      have a0 := cell_of_row _ _ 0 _ _ _ hall; have a1 := cell_of_row _ _ 1 _ _ _ hall; have a2 := cell_of_row _ _ 2 _ _ _ hall
      simp only [partC, List.getElem?_toArray, List.getElem?_cons_zero, List.getElem?_cons_succ] at a0 a1 a2
      have f0 := frozen_of_row _ _ 0 _ _ hall; have f1 := frozen_of_row _ _ 1 _ _ hall; have f2 := frozen_of_row _ _ 2 _ _ hall
      have hne : w2.heap.size ≠ w.heap.size + 1 + 1 := by omega
      have hne2 : w.heap.size + 1 + 1 ≠ w2.heap.size := by omega
      clear hn4 hg4 hb3 hW3 hD l7 z1
      generalize hDD : w2.heap.size = D at *
      clear hDD
      have HQ3 := Lib.hid hall
      clear hall
      have o1 : bits .or .u64 (B64 q.first : Int) (B64 q2.first : Int) = ((B64 fun x => q.first x || q2.first x : Nat) : Int) := by rw [bits_or_u64_nat _ _ hq3 hq1, B64_or]
      have o2 : bits .or .u64 (B64 q.last : Int) (B64 q2.last : Int) = ((B64 fun x => q.last x || q2.last x : Nat) : Int) := by rw [bits_or_u64_nat _ _ hq4 hq2, B64_or]
      have o3 : bits .or .u64 (0 : Int) (B64 q2.last : Int) = (B64 q2.last : Int) := by rw [show (0 : Int) = ((0 : Nat) : Int) from rfl, bits_or_u64_nat _ _ (by omega) hq2]; simp
      generalize hEE : w.heap.size + 2 = E at a0 a1 a2 f0 f1 f2 HQ3
      have hne3 : D ≠ E := by omega
      have hne4 : E ≠ D := by omega
      clear hne hne2
      try rw [show w.heap.size + 1 + 1 = E from hEE]
      have HEE := Lib.hid hEE
      clear hEE
      have hfin : addCat (kids.drop (i + 1)) (m2.link q.last q2.first) (q.cat q2) = addCat kids n (Part.zero true) := by
        have := HS.out.1
        rw [kids_drop HKD.out] at this
        simp only [addCat, HR.out] at this
        exact this
      have hle : (m2.link q.last q2.first).k + leavesL (kids.drop (i + 1)) ≤ 64 := by
        have h1 := HS.out.2.1
        have h2 := add_k kd m'
        rw [HR.out] at h2
        rw [kids_drop HKD.out] at h1
        simp only [leavesL] at h1
        simp only [NS.link] at h2 ⊢
        omega
      have HF := Lib.hid hfin; have HLE := Lib.hid hle
      clear hfin hle HR
      cases hqe : q.empty <;> cases hpe : q2.empty
      all_goals
        rw [hqe] at a2
        rw [hpe] at d2
        have HQE := Lib.hid hqe; have HPE := Lib.hid hpe
        clear hqe hpe
        go_wp2_with fail
        have hEQ := HEE.out
        clear HEE
        subst hEQ
        go_roundg (gk - 1)
        case measure => omega
        case rel =>
          refine ⟨i + 1, _, q.cat q2, by go_num, by omega, by omega, Lib.hid ⟨HF.out, HLE.out, ?_⟩⟩
          refine HS4.out.put' HLT.out rfl (by repeat (first | exact OnlyE.start HQ3.out | apply OnlyE.set)) ?_
          simp [partC, Part.cat, HQE.out, HPE.out]
    · obtain rfl : i = N := by omega
      have a0 := cell_of_row _ _ 0 _ _ _ HS.out.2.2.all; have a1 := cell_of_row _ _ 1 _ _ _ HS.out.2.2.all; have a2 := cell_of_row _ _ 2 _ _ _ HS.out.2.2.all
      have r0 := cell_of_row _ _ 0 _ _ _ HS.out.2.2.res; have r1 := cell_of_row _ _ 1 _ _ _ HS.out.2.2.res; have r2 := cell_of_row _ _ 2 _ _ _ HS.out.2.2.res
      have f0 := frozen_of_row _ _ 0 _ _ HS.out.2.2.res; have f1 := frozen_of_row _ _ 1 _ _ HS.out.2.2.res; have f2 := frozen_of_row _ _ 2 _ _ HS.out.2.2.res
      simp only [partC, List.getElem?_toArray, List.getElem?_cons_zero, List.getElem?_cons_succ] at a0 a1 a2 r0 r1 r2
      have hfin : (m', q) = addCat kids n (Part.zero true) := by rw [← HS.out.1, List.drop_eq_nil_of_le (by rw [HN.out]; omega)]; rfl
      have HF := Lib.hid hfin
      clear hfin
      go_wp2_with fail
      obtain ⟨e1, e2, e3⟩ := HS.out.2.2.toAS.done HLT.out (.int .u64 (B64 q.first)) (.int .u64 (B64 q.last)) (.bool q.empty)
      refine bodyPost_ret (results_cell_row rfl _ _ (w.heap.size + 1) TPt _ (0, 0) _ rfl e1 Tryd.underlying58 rfl (by kernel_rfl)) rfl ⟨?_, ?_, e3⟩
      · simp only [add, if_pos, if_neg, show ((3 : Nat) = 2) = False from by simp, if_false]
        rw [← HF.out]; rfl
      · simp only [add, show ((3 : Nat) = 2) = False from by simp, if_false, if_pos]
        rw [← HF.out]; exact e2
end Go.Proofs.YtpiflikblpfgoaaDoor
