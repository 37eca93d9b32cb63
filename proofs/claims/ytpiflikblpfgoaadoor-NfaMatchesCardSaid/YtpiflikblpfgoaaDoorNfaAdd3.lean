/- add: one of several. -/
import Derived.Test.YtpiflikblpfgoaaDoorNfaAdd2
namespace Go.Proofs.YtpiflikblpfgoaaDoor
open Go.RowKit PM

set_option maxRecDepth 100000 in
set_option maxHeartbeats 4000000 in
theorem add_alt (m : Nat) (hm : m ≤ 1000000) (set : Nat → Bool) (kids : List T) (hkl : kids.length ≤ m) (hI : ∀ k ∈ kids, AddOk k) : AddOk (.mk 4 set kids) := by
  intro b n p A o K w h hT hl hb hTab
  have hlt := h.lt
  have HI := Lib.hid hI
  obtain ⟨Ad, ca, ka, rfl, hA⟩ := hT.parts
  simp only [T.kids] at hA
  have HA := Lib.hid hA
  have HTB := Lib.hid hTab
  clear hA hT hI hTab
  simp only [nodeV, nodeC, T.op, T.set, T.kids]
  generalize word set 0 = x0 at *
  generalize word set 1 = x1 at *
  generalize word set 2 = x2 at *
  generalize word set 3 = x3 at *
  obtain ⟨N, hN⟩ : ∃ N, kids.length = N := ⟨_, rfl⟩
  rw [hN] at hkl ⊢
  have HN := Lib.hid hN
  clear hN
  have HS := Lib.hid (KS.start' #[.int .i64 (4 : Nat), .int .u64 x0, .int .u64 x1, .int .u64 x2, .int .u64 x3, .slice Ad N ca] h false)
  have hleaves : n.k + leavesL kids ≤ 64 := by simpa [leaves] using hl
  have HL := Lib.hid hleaves
  have HLT := Lib.hid hlt; have HB := Lib.hid hb
  clear h hl hleaves hb
  go_enter Tryd.func25, Tryd.ntmps25
  go_wp2_with fail
  change Code.wp _ _ _ _ _
  generalize hW0 : ((w.alloc (.cells #[.int .i64 (4 : Nat), .int .u64 x0, .int .u64 x1, .int .u64 x2, .int .u64 x3, .slice Ad N ca] TN)).alloc (.cells #[.int .u64 0, .int .u64 0, .bool false] TPt)).alloc (.cells #[.int .u64 0, .int .u64 0, .bool false] TPt) = W0 at *
  clear hW0
  generalize hCC : (#[.int .i64 (4 : Nat), .int .u64 x0, .int .u64 x1, .int .u64 x2, .int .u64 x3, .slice Ad N ca] : Array Value) = CC at HS
  have HCC := Lib.hid hCC
  clear hCC
  go_loopg [111] (N + 1) (fun k v wr => ∃ (i : Nat) (m' : NS) (q : Part), v = .int .i64 i ∧ i ≤ N ∧ N + 1 - i ≤ k ∧ Hid (addAlt (kids.drop i) m' q = addAlt kids n (Part.zero false) ∧ m'.k + leavesL (kids.drop i) ≤ 64 ∧ KS w b CC m' q p A o wr))
  case atStart => exact ⟨0, n, _, rfl, by omega, by omega, Lib.hid ⟨rfl, HL.out, HS.out⟩⟩
  case round =>
    clear HS
    obtain ⟨i, m', q, rfl, hi, hik, HS⟩ := hrel
    by_cases hlt : i < N
    · have hlt2 : (i : Int) < N := by omega
      obtain ⟨kd, hkd⟩ : ∃ kd, kids[i]? = some kd := ⟨_, List.getElem?_eq_getElem (by rw [HN.out]; exact hlt)⟩
      obtain ⟨⟨ga, oa, rfl, pa, la, hca⟩, hta⟩ := HA.out i kd hkd
      have up := HS.out.2.2.up
      have xa : ∀ j v, (nodeC kd (ka i))[j]? = some v → wr.cell? ⟨ga, oa + i * 6 + j, none⟩ = some v := fun j v hv => (World.cell?_of_block (a := ⟨ga, _, none⟩) (up.block _ la (by simp; omega))).trans (hca j v hv)
      have y0 := xa 0 _ rfl; have y1 := xa 1 _ rfl; have y2 := xa 2 _ rfl; have y3 := xa 3 _ rfl; have y4 := xa 4 _ rfl; have y5 := xa 5 _ rfl
      have HKD := Lib.hid hkd
      have HTA := Lib.hid (hta.grown up (fun x hx e => hx (Option.some.inj e)))
      have HTr := Lib.hid (HTB.out.grown up (fun e => HB.out (Option.some.inj e)))
      clear xa hca up hta hkd pa la
      simp only [Nat.add_zero] at y0
      have HC := Lib.hid (fun W (hW : Below wr.heap.size wr W) => HI.out kd (List.mem_of_getElem? HKD.out) b m' p A o (ka i) W (HS.out.2.2.net.on hW) (HTA.out.on hW) (by have := HS.out.2.1; rw [kids_drop HKD.out] at this; simp only [leavesL] at this; omega) HB.out (HTr.out.on hW))
      simp only [nodeV, nodeC] at HC
      generalize word kd.set 0 = u0 at *
      generalize word kd.set 1 = u1 at *
      generalize word kd.set 2 = u2 at *
      generalize word kd.set 3 = u3 at *
      generalize kd.op = uo at *
      obtain ⟨Ak, ck, hke⟩ := HTA.out.slice
      rw [hke] at HTA HC y5
      clear hke
      generalize kd.kids.length = lk at *
      go_wp2_with fail
      generalize hW1 : wr.alloc (.cells #[.int .i64 uo, .int .u64 u0, .int .u64 u1, .int .u64 u2, .int .u64 u3, .slice Ak lk ck] TN) = W1 at *
      have hb1 : Below wr.heap.size wr W1 := by rw [← hW1]; exact below_new _ _
      refine (HC.out W1 hb1).mono ?_
      rintro e w2 ⟨rfl, hn2, hg2⟩
      have HS2 : Hid (KS w b CC _ q p A o w2) := Lib.hid ((HS.out.2.2.on hb1).go HLT.out hn2 hg2)
      have HT2 : Hid (Tab w2) := Lib.hid ((HTr.out.on hb1).grown hg2 (fun e => HB.out (Option.some.inj e)))
      clear hn2 hg2 hb1 hW1 y0 y1 y2 y3 y4 y5 HC
      generalize hr : add kd m' = r at *
      have HR := Lib.hid hr
      clear hr
      obtain ⟨m2, q2⟩ := r
      simp only [partV, partC, List.toArray]
      have l7 : w.heap.size + 1 + 1 < w2.heap.size := lt_of_block HS2.out.all
      have hall := HS2.out.all
      have a0 := cell_of_row _ _ 0 _ _ _ hall; have a1 := cell_of_row _ _ 1 _ _ _ hall; have a2 := cell_of_row _ _ 2 _ _ _ hall
      simp only [partC, List.getElem?_toArray, List.getElem?_cons_zero, List.getElem?_cons_succ] at a0 a1 a2
      have f0 := frozen_of_row _ _ 0 _ _ hall; have f1 := frozen_of_row _ _ 1 _ _ hall; have f2 := frozen_of_row _ _ 2 _ _ hall
      have hq1 := B64_lt q2.first
      have hq2 := B64_lt q2.last
      have hq3 := B64_lt q.first
      have hq4 := B64_lt q.last
      clear hall
      have o1 : bits .or .u64 (B64 q.first : Int) (B64 q2.first : Int) = ((B64 fun x => q.first x || q2.first x : Nat) : Int) := by rw [bits_or_u64_nat _ _ hq3 hq1, B64_or]
      have o2 : bits .or .u64 (B64 q.last : Int) (B64 q2.last : Int) = ((B64 fun x => q.last x || q2.last x : Nat) : Int) := by rw [bits_or_u64_nat _ _ hq4 hq2, B64_or]
      have hfin : addAlt (kids.drop (i + 1)) m2 (q.alt q2) = addAlt kids n (Part.zero false) := by
        have := HS.out.1
        rw [kids_drop HKD.out] at this
        simp only [addAlt, HR.out] at this
        exact this
      have hle : m2.k + leavesL (kids.drop (i + 1)) ≤ 64 := by
        have h1 := HS.out.2.1
        have h2 := add_k kd m'
        rw [HR.out] at h2
        rw [kids_drop HKD.out] at h1
        simp only [leavesL] at h1
        simp only [] at h2
        omega
      have HF := Lib.hid hfin; have HLE := Lib.hid hle
      clear hfin hle HR
      cases hqe : q.empty
      all_goals
        rw [hqe] at a2
        have HQE := Lib.hid hqe
        clear hqe
        go_wp2_with fail
        go_roundg (gk - 1)
        case measure => omega
        case rel =>
          refine ⟨i + 1, _, q.alt q2, by go_num, by omega, by omega, Lib.hid ⟨HF.out, HLE.out, ?_⟩⟩
          refine KS.on (HS2.out.put' HLT.out rfl (by repeat (first | exact OnlyE.start HS2.out.all | apply OnlyE.set)) ?_) (below_new _ _)
          simp [partC, Part.alt, HQE.out]
    · obtain rfl : i = N := by omega
      have a0 := cell_of_row _ _ 0 _ _ _ HS.out.2.2.all; have a1 := cell_of_row _ _ 1 _ _ _ HS.out.2.2.all; have a2 := cell_of_row _ _ 2 _ _ _ HS.out.2.2.all
      have r0 := cell_of_row _ _ 0 _ _ _ HS.out.2.2.res; have r1 := cell_of_row _ _ 1 _ _ _ HS.out.2.2.res; have r2 := cell_of_row _ _ 2 _ _ _ HS.out.2.2.res
      have f0 := frozen_of_row _ _ 0 _ _ HS.out.2.2.res; have f1 := frozen_of_row _ _ 1 _ _ HS.out.2.2.res; have f2 := frozen_of_row _ _ 2 _ _ HS.out.2.2.res
      simp only [partC, List.getElem?_toArray, List.getElem?_cons_zero, List.getElem?_cons_succ] at a0 a1 a2 r0 r1 r2
      have hfin : (m', q) = addAlt kids n (Part.zero false) := by rw [← HS.out.1, List.drop_eq_nil_of_le (by rw [HN.out]; omega)]; rfl
      have HF := Lib.hid hfin
      clear hfin
      go_wp2_with fail
      obtain ⟨e1, e2, e3⟩ := HS.out.2.2.toAS.done HLT.out (.int .u64 (B64 q.first)) (.int .u64 (B64 q.last)) (.bool q.empty)
      refine bodyPost_ret (results_cell_row rfl _ _ (w.heap.size + 1) TPt _ (0, 0) _ rfl e1 Tryd.underlying58 rfl (by kernel_rfl)) rfl ⟨?_, ?_, e3⟩
      · simp only [add, if_pos, if_neg, show ((4 : Nat) = 2) = False from by simp, show ((4 : Nat) = 3) = False from by simp, if_false]
        rw [← HF.out]; rfl
      · simp only [add, show ((4 : Nat) = 2) = False from by simp, show ((4 : Nat) = 3) = False from by simp, if_false, if_pos]
        rw [← HF.out]; exact e2
end Go.Proofs.YtpiflikblpfgoaaDoor
