/- The document's part: may a tree that begins at one of some places end at the text's end, or go on behind it? Dead. (printed by gen_part.py) -/
import Derived.Test.YtpiflikblpfgoaaDoorNfaRefPartSet
namespace Go.Proofs.YtpiflikblpfgoaaDoor
open Go.RowKit PM

theorem dropT_at {l : List T} {i : Nat} {k : T} (h : l[i]? = some k) : l.drop i = k :: l.drop (i + 1) := by
  obtain ⟨h1, h2⟩ := List.getElem?_eq_some_iff.1 h
  rw [List.drop_eq_getElem_cons h1, h2]
theorem PM.part_catL {s : Nat → Bool} {k : T} {ks : List T} {l : List UInt8} {f : Nat → Bool} (h1 : PartP k l f) (h2 : SomeP (.mk 3 noSet ks)) : PartP (.mk 3 s (k :: ks)) l f := by
  obtain ⟨i, hi, h1, v, h3⟩ := h1
  obtain ⟨b, hb⟩ : SomeP (.mk 3 s ks) := some_cat.2 (some_cat.1 h2)
  exact ⟨i, hi, h1, v ++ b, L_catCons.2 ⟨_, b, by simp, h3, hb⟩⟩
/-- one kid more has been gone through in vain -/
theorem PM.part_catS {set : Nat → Bool} {kids : List T} {kd : T} {l : List UInt8} {f g gp : Nat → Bool} {i q : Nat} (hq : kids.length = q) (hlt : i < q) (hd : kids.drop i = kd :: kids.drop (i + 1))
    (h : i < q → (PartP (.mk 3 set kids) l f ↔ PartP (.mk 3 set (kids.drop i)) l g)) (hno : ¬ (PartP kd l g ∧ SomeP (.mk 3 noSet (kids.drop (i + 1))))) (he : EndsP kd l g gp) :
    (i + 1 < q → (PartP (.mk 3 set kids) l f ↔ PartP (.mk 3 set (kids.drop (i + 1))) l gp)) ∧ (i + 1 = q → ¬ PartP (.mk 3 set kids) l f) := by
  have h2 := h hlt
  rw [hd] at h2
  refine ⟨fun _ => h2.trans ((part_cat (s' := noSet) he).trans ⟨fun h3 => h3.resolve_left hno, .inr⟩), fun e h3 => ?_⟩
  have h4 : kids.drop (i + 1) = [] := List.drop_eq_nil_of_le (by omega)
  have h5 := h2.1 h3
  rw [h4] at h5 hno
  exact hno ⟨part_last.1 h5, [], L_catNil.2 rfl⟩
theorem IsT.rest0 {w : World} {p : Nat → Prop} {ga oa q i : Nat} {kids : List T} (hq : kids.length = q) (hc : q ≤ i + 1) (c' : Nat) : IsT w p (.slice (some ⟨ga, oa, none⟩) (q - (i + 1)) c') (.mk 3 noSet (kids.drop (i + 1))) := by
  have h0 : kids.drop (i + 1) = [] := List.drop_eq_nil_of_le (by omega)
  have := IsT.mk (w := w) (p := p) 3 noSet [] (some ⟨ga, oa, none⟩) c' (fun _ => undef) (fun h => absurd rfl h) (fun i t h => by simp at h) (Nat.zero_le _)
  rw [h0, show q - (i + 1) = 0 by omega]
  exact this
/-- a node of the kids behind one -/
theorem IsT.rest {w : World} {p : Nat → Prop} {ga oa q ca i : Nat} {kids : List T} {ka : Nat → Value}
    (hA : ∀ i k, kids[i]? = some k → (∃ g o, (some ⟨ga, oa, none⟩ : Option Addr) = some ⟨g, o, none⟩ ∧ p g ∧ g < w.heap.size ∧ ∀ j v, (nodeC k (ka i))[j]? = some v → w.cell? ⟨g, o + i * 6 + j, none⟩ = some v) ∧ IsT w p (ka i) k)
    (hq : kids.length = q) (hc : q ≤ ca) : IsT w p (.slice (some ⟨ga, oa + (i + 1) * 6, none⟩) (q - (i + 1)) (ca - (i + 1))) (.mk 3 noSet (kids.drop (i + 1))) := by
  have hl : (kids.drop (i + 1)).length = q - (i + 1) := by rw [List.length_drop, hq]
  have := IsT.mk (w := w) (p := p) 3 noSet (kids.drop (i + 1)) (some ⟨ga, oa + (i + 1) * 6, none⟩) (ca - (i + 1)) (fun j => ka (i + 1 + j)) (fun hne => by
    have h0 : 0 < (kids.drop (i + 1)).length := List.length_pos_iff.2 hne
    rw [hl] at h0
    obtain ⟨⟨g, o, e, h1, h2, _⟩, _⟩ := hA (i + 1) kids[i + 1] (List.getElem?_eq_getElem (by omega))
    cases e
    refine ⟨ga, oa + (i + 1) * 6, rfl, h1, h2, fun j t jj v ht hv => ?_⟩
    rw [List.getElem?_drop] at ht
    obtain ⟨⟨g, o, e, _, _, h3⟩, _⟩ := hA (i + 1 + j) t ht
    cases e
    have := h3 jj v hv
    rw [show oa + (i + 1) * 6 + j * 6 + jj = oa + (i + 1 + j) * 6 + jj by rw [Nat.add_mul (i + 1) j 6]; omega]
    exact this) (fun j t ht => by
    rw [List.getElem?_drop] at ht
    exact (hA _ t ht).2) (by rw [hl]; omega)
  rw [hl] at this
  exact this

set_option maxRecDepth 100000 in
set_option maxHeartbeats 16000000 in
theorem part_any (s : ByteArray) (hs : s.size ≤ 1000000) (m : Nat) (hm : m ≤ 1000000) (t : T) : T.OK m t → T.Full t → PartOk s t := by
  induction t using T.ind with
  | h op set kids ih =>
    intro hok hfull p K w b c f ha hf
    by_cases hop2 : op = 2
    · subst hop2
      exact partSet_any s hs m hm set kids hok p K w b c f ha hf
    have hone : T.OK m (.mk op set kids) := hok
    obtain ⟨h567, hkl, hks⟩ : (op = 5 ∨ op = 6 ∨ op = 7 → ∃ k, kids = [k]) ∧ kids.length ≤ m ∧ ∀ k ∈ kids, T.OK m k := by cases hok with | mk a b c => exact ⟨a, b, c⟩
    obtain ⟨h3n, hkf⟩ : (op = 3 → kids ≠ []) ∧ ∀ k ∈ kids, T.Full k := by cases hfull with | mk a b => exact ⟨a, b⟩
    have hI : ∀ k ∈ kids, PartOk s k := fun k hk => ih k hk (hks k hk) (hkf k hk)
    have hE : ∀ k ∈ kids, EndsOk s k := fun k hk => ends_any s hs m hm k (hks k hk)
    have hSo : ∀ W, Below w.heap.size w W → Calls Tryd.prog 48 #[nodeV (.mk op set kids) K] W (SomeIs (.mk op set kids) W) := fun W hW => some_any m hm _ hone _ _ W (ha.on hW)
    have HI := Lib.hid hI; have HE := Lib.hid hE; have HKS := Lib.hid hks
    obtain ⟨A, ca, ka, rfl, hA⟩ := ha.parts
    simp only [T.kids] at hA
    have HA := Lib.hid hA; have HIT := Lib.hid ha
    clear ih hI hE hA ha hks hok hfull hkf hone
    simp only [nodeV, nodeC, T.op, T.set, T.kids] at hSo ⊢
    have hHa : ∀ c : UInt8, ∀ W, Calls Tryd.prog 45 #[setV set, .int .u8 c.toNat] W fun e w' => e = .returned (.bool (set c.toNat)) ∧ Below W.heap.size W w' := fun c W => has_any set c W
    unfold setV at hHa
    have hzs : word noSet 0 = 0 ∧ word noSet 1 = 0 ∧ word noSet 2 = 0 ∧ word noSet 3 = 0 := (words_zero noSet).2 (fun ⟨_, _, h⟩ => by cases h)
    generalize hx0 : word set 0 = x0 at *
    generalize hx1 : word set 1 = x1 at *
    generalize hx2 : word set 2 = x2 at *
    generalize hx3 : word set 3 = x3 at *
    clear hx0 hx1 hx2 hx3
    have HSO := Lib.hid hSo; have HHA := Lib.hid hHa; have HZS := Lib.hid hzs
    clear hSo hHa hzs
    obtain ⟨q, hq⟩ : ∃ q, kids.length = q := ⟨_, rfl⟩
    rw [hq] at hkl HSO ⊢
    have HQ := Lib.hid hq
    clear hq
    obtain ⟨n, hn⟩ : ∃ n, n = s.size + 1 := ⟨_, rfl⟩
    have HN := Lib.hid hn
    have hn1 : n ≤ 1000001 := by omega
    have hsn : (s.size : Int) < n := by omega
    have hsz : s.data.toList.length = s.size := rfl
    have HSZ := Lib.hid hsz
    unfold PartIs
    rw [← hn] at hf ⊢
    clear hn hsz
    have HS := Lib.hid (EmS.start w #[.int .i64 op, .int .u64 x0, .int .u64 x1, .int .u64 x2, .int .u64 x3, .slice A q ca])
    have HFW := Lib.hid hf
    clear hf
    by_cases h2 : op = 2
    · subst h2
      exact absurd rfl hop2
    have n2 : ((op : Int) == 2) = false := bool_eqs op 2 h2
    by_cases h3 : op = 3
    · subst h3
      have hq0 : 0 < q := by
        have h := h3n rfl
        rw [← HQ.out]
        exact List.length_pos_iff.2 h
      have HCAP := Lib.hid (show q ≤ ca from by have h := HIT.out.cap; simp only [T.kids] at h; rw [HQ.out] at h; exact h)
      clear h567 HSO HHA n2 h3n h2 hop2 HIT
      go_enter Tryd.func32, Tryd.ntmps32
      go_upto_region 2 with (fail)
      change Code.wp _ _ _ _ _
      generalize w.alloc (.cells #[.int .i64 (3 : Nat), .int .u64 x0, .int .u64 x1, .int .u64 x2, .int .u64 x3, .slice A q ca] TN) = W0 at *
      obtain ⟨a0, a1, a2, a3, a4, a5⟩ := HS.out.six
      go_wp2_with fail
      change Code.wp _ _ _ _ _
      have HFS := Lib.hid (HFW.out.on HS.out.up)
      clear a0 a1 a2 a3 a4 a5
      go_loopg [8, 2, 9] (q + 1) (fun k v8 v2 v9 wr => ∃ (i bo co : Nat) (g : Nat → Bool), v8 = .int .i64 i ∧ v2 = .slice (some ⟨bo, 0, none⟩) n co ∧ i ≤ q ∧ q - i < k ∧ Hid (EmS w wr #[.int .i64 (3 : Nat), .int .u64 x0, .int .u64 x1, .int .u64 x2, .int .u64 x3, .slice A q ca]) ∧ Hid (BF wr bo n g) ∧ Hid ((i < q → (PartP (.mk 3 set kids) s.data.toList f ↔ PartP (.mk 3 set (kids.drop i)) s.data.toList g)) ∧ (i = q → ¬ PartP (.mk 3 set kids) s.data.toList f)))
      case atStart => exact ⟨0, b, c, f, rfl, rfl, by omega, by omega, HS, HFS, Lib.hid ⟨fun _ => by rw [List.drop_zero], fun e => absurd e (by omega)⟩⟩
      case round =>
        clear HS HFS
        obtain ⟨i, bo, co, g, rfl, rfl, hi, hik, HS, HG, HP⟩ := hrel
        by_cases hlt : i < q
        · have h1 : (i : Int) < q := by omega
          have h2 : (0 : Int) ≤ i := by omega
          have h3 : (i : Int) + 1 ≤ q := by omega
          have h4 : (0 : Int) ≤ (i : Int) + 1 := by omega
          have hqb : (q : Int) ≤ 1000000 := by omega
          obtain ⟨kd, hkd⟩ : ∃ kd, kids[i]? = some kd := ⟨_, List.getElem?_eq_getElem (by rw [HQ.out]; exact hlt)⟩
          obtain ⟨⟨ga, oa, rfl, pa, la, hca⟩, hta⟩ := HA.out i kd hkd
          have hC : ∀ W b c g, Below w.heap.size w W → BF W b (s.size + 1) g → Calls Tryd.prog 30 #[nodeV kd (ka i), .string s, .slice (some ⟨b, 0, none⟩) (s.size + 1) c] W (EndsIs s kd g W) := fun W b c g hW hg => HE.out kd (List.mem_of_getElem? hkd) _ _ W b c g (hta.on hW) hg
          have hD : ∀ W b c g, Below w.heap.size w W → BF W b (s.size + 1) g → Calls Tryd.prog 32 #[nodeV kd (ka i), .string s, .slice (some ⟨b, 0, none⟩) (s.size + 1) c] W (PartIs s kd g W) := fun W b c g hW hg => HI.out kd (List.mem_of_getElem? hkd) _ _ W b c g (hta.on hW) hg
          unfold EndsIs at hC
          unfold PartIs at hD
          rw [← HN.out] at hC hD
          simp only [nodeV, nodeC] at hC hD
          have HM := Lib.hid (List.mem_of_getElem? hkd)
          have HT := Lib.hid hkd
          obtain ⟨y0, y1, y2, y3, y4, y5⟩ := kid_cells HS.out.up la hca
          obtain ⟨K0, hK0⟩ : ∃ K0, ka i = K0 := ⟨_, rfl⟩
          obtain ⟨Ak, ck, hks⟩ := hta.slice
          rw [hks] at y5 hC hD
          have HC := Lib.hid hC; have HD := Lib.hid hD
          have HLA := Lib.hid la; have HCA := Lib.hid hca; have HKS5 := Lib.hid hks
          have HDR := Lib.hid (dropT_at hkd)
          obtain ⟨a0, a1, a2, a3, a4, a5⟩ := HS.out.six
          clear hC hD hca hta hkd hK0 hks
          by_cases hce : ca = i + 1
          · have hrst := IsT.rest0 (p := p) (ga := ga) (oa := oa) (w := w) (i := i) HQ.out (by have := HCAP.out; omega) (ca - (i + 1))
            have hce2 : (ca = i + 1) = True := eq_true hce
            clear hce
            have hSR : ∀ W, Below w.heap.size w W → Calls Tryd.prog 48 #[.agg #[.int .i64 3, .int .u64 0, .int .u64 0, .int .u64 0, .int .u64 0, .slice (some ⟨ga, oa, none⟩) (q - (i + 1)) (ca - (i + 1))]] W (SomeIs (.mk 3 noSet (kids.drop (i + 1))) W) := fun W hW => by
              have h := some_any m hm (.mk 3 noSet (kids.drop (i + 1))) (.mk (fun h => by omega) (by rw [List.length_drop, HQ.out]; omega) (fun k hk => HKS.out k (List.mem_of_mem_drop hk))) _ _ W (hrst.on hW)
              simp only [nodeV, nodeC, T.op, T.set] at h
              rw [HZS.out.1, HZS.out.2.1, HZS.out.2.2.1, HZS.out.2.2.2] at h
              exact h
            unfold SomeIs at hSR
            have HSR := Lib.hid hSR
            clear hSR hrst
            go_upto_region 10 with (fail)
            have hn0 := heap_alloc_new wr (.cells #[.int .i64 3, .int .u64 0, .int .u64 0, .int .u64 0, .int .u64 0, .slice (some ⟨ga, oa, none⟩) (q - (i + 1)) (ca - (i + 1))] TN)
            have hb0 := below_new wr (.cells #[.int .i64 3, .int .u64 0, .int .u64 0, .int .u64 0, .int .u64 0, .slice (some ⟨ga, oa, none⟩) (q - (i + 1)) (ca - (i + 1))] TN)
            generalize wr.alloc (.cells #[.int .i64 3, .int .u64 0, .int .u64 0, .int .u64 0, .int .u64 0, .slice (some ⟨ga, oa, none⟩) (q - (i + 1)) (ca - (i + 1))] TN) = W1 at *
            have HS1 := Lib.hid (HS.out.on hb0); have HG1 := Lib.hid (HG.out.on hb0); have HN1 := Lib.hid hn0
            clear hn0 hb0 a0 a1 a2 a3 a4 a5 y0 y1 y2 y3 y4 y5 HS HG
            obtain ⟨a0, a1, a2, a3, a4, a5⟩ := HS1.out.six
            obtain ⟨y0, y1, y2, y3, y4, y5⟩ := kid_cells HS1.out.up HLA.out HCA.out
            rw [HKS5.out] at y5
            obtain ⟨Br, hBr⟩ : ∃ Br, wr.heap.size = Br := ⟨_, rfl⟩
            rw [hBr] at HN1 ⊢
            clear hBr
            go_wp2_with fail
            refine (HD.out W1 bo co g HS1.out.up HG1.out).mono ?_
            rintro e w2 ⟨rk, rfl, hrk, hb⟩
            have HS2 := Lib.hid (HS1.out.on hb); have HG2 := Lib.hid (HG1.out.on hb); have HRK := Lib.hid hrk
            have HN2 := Lib.hid ((hb.block _ (lt_of_block HN1.out)).trans HN1.out)
            clear hb hrk HS1 HG1 HN1 a0 a1 a2 a3 a4 a5 y0 y1 y2 y3 y4 y5
            obtain ⟨a0, a1, a2, a3, a4, a5⟩ := HS2.out.six
            obtain ⟨y0, y1, y2, y3, y4, y5⟩ := kid_cells HS2.out.up HLA.out HCA.out
            rw [HKS5.out] at y5
            cases rk with
            | true =>
              have r0 : w2.cell? ⟨Br, 0, none⟩ = some (.int .i64 3) := by rw [cell_of_row _ _ 0 _ _ _ HN2.out]; rfl
              have r1 : w2.cell? ⟨Br, 1, none⟩ = some (.int .u64 0) := by rw [cell_of_row _ _ 1 _ _ _ HN2.out]; rfl
              have r2 : w2.cell? ⟨Br, 2, none⟩ = some (.int .u64 0) := by rw [cell_of_row _ _ 2 _ _ _ HN2.out]; rfl
              have r3 : w2.cell? ⟨Br, 3, none⟩ = some (.int .u64 0) := by rw [cell_of_row _ _ 3 _ _ _ HN2.out]; rfl
              have r4 : w2.cell? ⟨Br, 4, none⟩ = some (.int .u64 0) := by rw [cell_of_row _ _ 4 _ _ _ HN2.out]; rfl
              have r5 : w2.cell? ⟨Br, 5, none⟩ = some (.slice (some ⟨ga, oa, none⟩) (q - (i + 1)) (ca - (i + 1))) := by rw [cell_of_row _ _ 5 _ _ _ HN2.out]; rfl
              go_wp2_with fail
              refine (HSR.out w2 HS2.out.up).mono ?_
              rintro e w3 ⟨rs, rfl, hrs, hb⟩
              have HS3 := Lib.hid (HS2.out.on hb); have HG3 := Lib.hid (HG2.out.on hb); have HRS := Lib.hid hrs
              clear hb hrs HS2 HG2 HN2 a0 a1 a2 a3 a4 a5 y0 y1 y2 y3 y4 y5 r0 r1 r2 r3 r4 r5
              obtain ⟨a0, a1, a2, a3, a4, a5⟩ := HS3.out.six
              obtain ⟨y0, y1, y2, y3, y4, y5⟩ := kid_cells HS3.out.up HLA.out HCA.out
              rw [HKS5.out] at y5
              cases rs with
              | true =>
                go_wp2_with fail
                go_ret
                exact ⟨true, rfl, ⟨fun _ => (HP.out.1 hlt).2 (by rw [HDR.out]; exact part_catL (by have h := HRK.out; simpa using h) (by have h := HRS.out; simpa using h)), fun _ => rfl⟩, HS3.out.up⟩
              | false =>
                have HNO := Lib.hid (show ¬ (PartP kd s.data.toList g ∧ SomeP (.mk 3 noSet (kids.drop (i + 1)))) from fun h => by have h2 := HRS.out; simp at h2; exact h2 h.2)
                go_wp2_with fail
                refine (HC.out w3 bo co g HS3.out.up HG3.out).mono ?_
                rintro e w4 ⟨bp, cp, gp, rfl, hg, hp, hb⟩
                have HS4 := Lib.hid (HS3.out.on hb); have HG4 := Lib.hid hg; have HE4 := Lib.hid hp
                clear hb hg hp
                go_wp2_with fail
                go_roundg (gk - 1)
                case measure => omega
                case rel => exact ⟨i + 1, bp, cp, gp, by go_num, rfl, by omega, by omega, HS4, HG4, Lib.hid (part_catS HQ.out hlt HDR.out HP.out.1 HNO.out HE4.out)⟩
            | false =>
              have HNO := Lib.hid (show ¬ (PartP kd s.data.toList g ∧ SomeP (.mk 3 noSet (kids.drop (i + 1)))) from fun h => by have h2 := HRK.out; simp at h2; exact h2 h.1)
              go_wp2_with fail
              refine (HC.out w2 bo co g HS2.out.up HG2.out).mono ?_
              rintro e w4 ⟨bp, cp, gp, rfl, hg, hp, hb⟩
              have HS4 := Lib.hid (HS2.out.on hb); have HG4 := Lib.hid hg; have HE4 := Lib.hid hp
              clear hb hg hp
              go_wp2_with fail
              go_roundg (gk - 1)
              case measure => omega
              case rel => exact ⟨i + 1, bp, cp, gp, by go_num, rfl, by omega, by omega, HS4, HG4, Lib.hid (part_catS HQ.out hlt HDR.out HP.out.1 HNO.out HE4.out)⟩
          have hrst := IsT.rest (i := i) HA.out HQ.out HCAP.out
          have hSR : ∀ W, Below w.heap.size w W → Calls Tryd.prog 48 #[.agg #[.int .i64 3, .int .u64 0, .int .u64 0, .int .u64 0, .int .u64 0, .slice (some ⟨ga, oa + (i + 1) * 6, none⟩) (q - (i + 1)) (ca - (i + 1))]] W (SomeIs (.mk 3 noSet (kids.drop (i + 1))) W) := fun W hW => by
            have h := some_any m hm (.mk 3 noSet (kids.drop (i + 1))) (.mk (fun h => by omega) (by rw [List.length_drop, HQ.out]; omega) (fun k hk => HKS.out k (List.mem_of_mem_drop hk))) _ _ W (hrst.on hW)
            simp only [nodeV, nodeC, T.op, T.set] at h
            rw [HZS.out.1, HZS.out.2.1, HZS.out.2.2.1, HZS.out.2.2.2] at h
            exact h
          unfold SomeIs at hSR
          have HSR := Lib.hid hSR
          clear hSR hrst
          go_upto_region 10 with (fail)
          have hn0 := heap_alloc_new wr (.cells #[.int .i64 3, .int .u64 0, .int .u64 0, .int .u64 0, .int .u64 0, .slice (some ⟨ga, oa + (i + 1) * 6, none⟩) (q - (i + 1)) (ca - (i + 1))] TN)
          have hb0 := below_new wr (.cells #[.int .i64 3, .int .u64 0, .int .u64 0, .int .u64 0, .int .u64 0, .slice (some ⟨ga, oa + (i + 1) * 6, none⟩) (q - (i + 1)) (ca - (i + 1))] TN)
          generalize wr.alloc (.cells #[.int .i64 3, .int .u64 0, .int .u64 0, .int .u64 0, .int .u64 0, .slice (some ⟨ga, oa + (i + 1) * 6, none⟩) (q - (i + 1)) (ca - (i + 1))] TN) = W1 at *
          have HS1 := Lib.hid (HS.out.on hb0); have HG1 := Lib.hid (HG.out.on hb0); have HN1 := Lib.hid hn0
          clear hn0 hb0 a0 a1 a2 a3 a4 a5 y0 y1 y2 y3 y4 y5 HS HG
          obtain ⟨a0, a1, a2, a3, a4, a5⟩ := HS1.out.six
          obtain ⟨y0, y1, y2, y3, y4, y5⟩ := kid_cells HS1.out.up HLA.out HCA.out
          rw [HKS5.out] at y5
          obtain ⟨Br, hBr⟩ : ∃ Br, wr.heap.size = Br := ⟨_, rfl⟩
          rw [hBr] at HN1 ⊢
          clear hBr
          go_wp2_with fail
          refine (HD.out W1 bo co g HS1.out.up HG1.out).mono ?_
          rintro e w2 ⟨rk, rfl, hrk, hb⟩
          have HS2 := Lib.hid (HS1.out.on hb); have HG2 := Lib.hid (HG1.out.on hb); have HRK := Lib.hid hrk
          have HN2 := Lib.hid ((hb.block _ (lt_of_block HN1.out)).trans HN1.out)
          clear hb hrk HS1 HG1 HN1 a0 a1 a2 a3 a4 a5 y0 y1 y2 y3 y4 y5
          obtain ⟨a0, a1, a2, a3, a4, a5⟩ := HS2.out.six
          obtain ⟨y0, y1, y2, y3, y4, y5⟩ := kid_cells HS2.out.up HLA.out HCA.out
          rw [HKS5.out] at y5
          cases rk with
          | true =>
            have r0 : w2.cell? ⟨Br, 0, none⟩ = some (.int .i64 3) := by rw [cell_of_row _ _ 0 _ _ _ HN2.out]; rfl
            have r1 : w2.cell? ⟨Br, 1, none⟩ = some (.int .u64 0) := by rw [cell_of_row _ _ 1 _ _ _ HN2.out]; rfl
            have r2 : w2.cell? ⟨Br, 2, none⟩ = some (.int .u64 0) := by rw [cell_of_row _ _ 2 _ _ _ HN2.out]; rfl
            have r3 : w2.cell? ⟨Br, 3, none⟩ = some (.int .u64 0) := by rw [cell_of_row _ _ 3 _ _ _ HN2.out]; rfl
            have r4 : w2.cell? ⟨Br, 4, none⟩ = some (.int .u64 0) := by rw [cell_of_row _ _ 4 _ _ _ HN2.out]; rfl
            have r5 : w2.cell? ⟨Br, 5, none⟩ = some (.slice (some ⟨ga, oa + (i + 1) * 6, none⟩) (q - (i + 1)) (ca - (i + 1))) := by rw [cell_of_row _ _ 5 _ _ _ HN2.out]; rfl
            go_wp2_with fail
            refine (HSR.out w2 HS2.out.up).mono ?_
            rintro e w3 ⟨rs, rfl, hrs, hb⟩
            have HS3 := Lib.hid (HS2.out.on hb); have HG3 := Lib.hid (HG2.out.on hb); have HRS := Lib.hid hrs
            clear hb hrs HS2 HG2 HN2 a0 a1 a2 a3 a4 a5 y0 y1 y2 y3 y4 y5 r0 r1 r2 r3 r4 r5
            obtain ⟨a0, a1, a2, a3, a4, a5⟩ := HS3.out.six
            obtain ⟨y0, y1, y2, y3, y4, y5⟩ := kid_cells HS3.out.up HLA.out HCA.out
            rw [HKS5.out] at y5
            cases rs with
            | true =>
              go_wp2_with fail
              go_ret
              exact ⟨true, rfl, ⟨fun _ => (HP.out.1 hlt).2 (by rw [HDR.out]; exact part_catL (by have h := HRK.out; simpa using h) (by have h := HRS.out; simpa using h)), fun _ => rfl⟩, HS3.out.up⟩
            | false =>
              have HNO := Lib.hid (show ¬ (PartP kd s.data.toList g ∧ SomeP (.mk 3 noSet (kids.drop (i + 1)))) from fun h => by have h2 := HRS.out; simp at h2; exact h2 h.2)
              go_wp2_with fail
              refine (HC.out w3 bo co g HS3.out.up HG3.out).mono ?_
              rintro e w4 ⟨bp, cp, gp, rfl, hg, hp, hb⟩
              have HS4 := Lib.hid (HS3.out.on hb); have HG4 := Lib.hid hg; have HE4 := Lib.hid hp
              clear hb hg hp
              go_wp2_with fail
              go_roundg (gk - 1)
              case measure => omega
              case rel => exact ⟨i + 1, bp, cp, gp, by go_num, rfl, by omega, by omega, HS4, HG4, Lib.hid (part_catS HQ.out hlt HDR.out HP.out.1 HNO.out HE4.out)⟩
          | false =>
            have HNO := Lib.hid (show ¬ (PartP kd s.data.toList g ∧ SomeP (.mk 3 noSet (kids.drop (i + 1)))) from fun h => by have h2 := HRK.out; simp at h2; exact h2 h.1)
            go_wp2_with fail
            refine (HC.out w2 bo co g HS2.out.up HG2.out).mono ?_
            rintro e w4 ⟨bp, cp, gp, rfl, hg, hp, hb⟩
            have HS4 := Lib.hid (HS2.out.on hb); have HG4 := Lib.hid hg; have HE4 := Lib.hid hp
            clear hb hg hp
            go_wp2_with fail
            go_roundg (gk - 1)
            case measure => omega
            case rel => exact ⟨i + 1, bp, cp, gp, by go_num, rfl, by omega, by omega, HS4, HG4, Lib.hid (part_catS HQ.out hlt HDR.out HP.out.1 HNO.out HE4.out)⟩
        · obtain rfl : i = q := by omega
          have HU := Lib.hid HS.out.up
          have HP2 := Lib.hid (HP.out.2 rfl)
          obtain ⟨a0, a1, a2, a3, a4, a5⟩ := HS.out.six
          clear HP HS
          go_wp2_with fail
          go_ret
          exact ⟨false, rfl, ⟨fun h => (by cases h), fun h => absurd h HP2.out⟩, HU.out⟩
    have n3 : ((op : Int) == 3) = false := bool_eqs op 3 h3
    by_cases h4 : op = 4
    · subst h4
      clear h567 HSO HHA n2 n3 h3n h2 hop2 HIT HZS HKS h3
      go_enter Tryd.func32, Tryd.ntmps32
      go_upto_region 2 with (fail)
      change Code.wp _ _ _ _ _
      generalize w.alloc (.cells #[.int .i64 (4 : Nat), .int .u64 x0, .int .u64 x1, .int .u64 x2, .int .u64 x3, .slice A q ca] TN) = W0 at *
      obtain ⟨a0, a1, a2, a3, a4, a5⟩ := HS.out.six
      go_wp2_with fail
      change Code.wp _ _ _ _ _
      clear a0 a1 a2 a3 a4 a5
      go_loopg [10] (q + 1) (fun k v8 wr => ∃ (i : Nat), v8 = .int .i64 i ∧ i ≤ q ∧ q - i < k ∧ Hid (EmS w wr #[.int .i64 (4 : Nat), .int .u64 x0, .int .u64 x1, .int .u64 x2, .int .u64 x3, .slice A q ca]) ∧ Hid (∀ k ∈ kids.take i, ¬ PartP k s.data.toList f))
      case atStart => exact ⟨0, rfl, by omega, by omega, HS, Lib.hid (by simp)⟩
      case round =>
        clear HS
        obtain ⟨i, rfl, hi, hik, HS, HP⟩ := hrel
        by_cases hlt : i < q
        · have h1 : (i : Int) < q := by omega
          have h2 : (0 : Int) ≤ i := by omega
          obtain ⟨kd, hkd⟩ : ∃ kd, kids[i]? = some kd := ⟨_, List.getElem?_eq_getElem (by rw [HQ.out]; exact hlt)⟩
          obtain ⟨⟨ga, oa, rfl, pa, la, hca⟩, hta⟩ := HA.out i kd hkd
          have hC : ∀ W b c g, Below w.heap.size w W → BF W b (s.size + 1) g → Calls Tryd.prog 30 #[nodeV kd (ka i), .string s, .slice (some ⟨b, 0, none⟩) (s.size + 1) c] W (EndsIs s kd g W) := fun W b c g hW hg => HE.out kd (List.mem_of_getElem? hkd) _ _ W b c g (hta.on hW) hg
          have hD : ∀ W b c g, Below w.heap.size w W → BF W b (s.size + 1) g → Calls Tryd.prog 32 #[nodeV kd (ka i), .string s, .slice (some ⟨b, 0, none⟩) (s.size + 1) c] W (PartIs s kd g W) := fun W b c g hW hg => HI.out kd (List.mem_of_getElem? hkd) _ _ W b c g (hta.on hW) hg
          unfold EndsIs at hC
          unfold PartIs at hD
          rw [← HN.out] at hC hD
          simp only [nodeV, nodeC] at hC hD
          have HM := Lib.hid (List.mem_of_getElem? hkd)
          have HT := Lib.hid hkd
          obtain ⟨y0, y1, y2, y3, y4, y5⟩ := kid_cells HS.out.up la hca
          obtain ⟨K0, hK0⟩ : ∃ K0, ka i = K0 := ⟨_, rfl⟩
          obtain ⟨Ak, ck, hks⟩ := hta.slice
          rw [hks] at y5 hC hD
          have HC := Lib.hid hC; have HD := Lib.hid hD
          have HLA := Lib.hid la; have HCA := Lib.hid hca; have HKS5 := Lib.hid hks
          have HDR := Lib.hid (dropT_at hkd)
          obtain ⟨a0, a1, a2, a3, a4, a5⟩ := HS.out.six
          clear hC hD hca hta hkd hK0 hks
          have HF := Lib.hid (HFW.out.on HS.out.up)
          have HTS := Lib.hid (take_snocT HT.out)
          go_wp2_with fail
          refine (HD.out wr b c f HS.out.up HF.out).mono ?_
          rintro e w2 ⟨rk, rfl, hrk, hb⟩
          have HS2 := Lib.hid (HS.out.on hb); have HRK := Lib.hid hrk
          clear hb hrk HS HC HD y0 y1 y2 y3 y4 y5 a0 a1 a2 a3 a4 a5
          cases rk with
          | true =>
            go_wp2_with fail
            go_ret
            exact ⟨true, rfl, ⟨fun _ => part_alt.2 ⟨kd, HM.out, by have h := HRK.out; simpa using h⟩, fun _ => rfl⟩, HS2.out.up⟩
          | false =>
            go_wp2_with fail
            go_roundg (gk - 1)
            case measure => omega
            case rel => exact ⟨i + 1, by go_num, by omega, by omega, HS2, Lib.hid (fun k hk => by
              rw [HTS.out, List.mem_append, List.mem_singleton] at hk
              rcases hk with hk | rfl
              · exact HP.out k hk
              · have h := HRK.out; simpa using h)⟩
        · obtain rfl : i = q := by omega
          have HU := Lib.hid HS.out.up
          have HP2 := HP.out
          rw [← HQ.out, List.take_length] at HP2
          have HP3 := Lib.hid HP2
          obtain ⟨a0, a1, a2, a3, a4, a5⟩ := HS.out.six
          clear HP2 HP HS
          go_wp2_with fail
          go_ret
          exact ⟨false, rfl, ⟨fun h => (by cases h), fun h => let ⟨k, a, b⟩ := part_alt.1 h; absurd b (HP3.out k a)⟩, HU.out⟩
    have n4 : ((op : Int) == 4) = false := bool_eqs op 4 h4
    by_cases h7 : op = 7
    · subst h7
      obtain ⟨kd, rfl⟩ := h567 (by omega)
      obtain rfl : q = 1 := HQ.out.symm
      obtain ⟨⟨ga, oa, rfl, pa, la, hca⟩, hta⟩ := HA.out 0 kd rfl
      have hC : ∀ W b c g, Below w.heap.size w W → BF W b (s.size + 1) g → Calls Tryd.prog 47 #[nodeV kd (ka 0), .string s, .slice (some ⟨b, 0, none⟩) (s.size + 1) c] W (EndsIs s (.mk 5 noSet [kd]) g W) := fun W b c g hW hg => again_any s hs kd (HE.out kd (by simp)) _ _ W b c g (hta.on hW) hg
      have hD : ∀ W b c g, Below w.heap.size w W → BF W b (s.size + 1) g → Calls Tryd.prog 32 #[nodeV kd (ka 0), .string s, .slice (some ⟨b, 0, none⟩) (s.size + 1) c] W (PartIs s kd g W) := fun W b c g hW hg => HI.out kd (by simp) _ _ W b c g (hta.on hW) hg
      unfold EndsIs at hC
      unfold PartIs at hD
      rw [← HN.out] at hC hD
      simp only [nodeV, nodeC] at hC hD
      have HCA := Lib.hid hca; have HLA := Lib.hid la
      obtain ⟨K0, hK0⟩ : ∃ K0, ka 0 = K0 := ⟨_, rfl⟩
      obtain ⟨Ak, ck, hks⟩ := hta.slice
      rw [hks] at hC hD
      have HC := Lib.hid hC; have HD := Lib.hid hD; have HKS5 := Lib.hid hks
      clear hC hD hca hta hK0 hks HA HI HE h567 la HSO HHA HIT HKS HZS h3n h2 hop2 n2 n3 n4 h3 h4
      go_enter Tryd.func32, Tryd.ntmps32
      go_upto_region 2 with (fail)
      change Code.wp _ _ _ _ _
      generalize w.alloc (.cells #[.int .i64 (7 : Nat), .int .u64 x0, .int .u64 x1, .int .u64 x2, .int .u64 x3, .slice (some ⟨ga, oa, none⟩) 1 ca] TN) = W0 at *
      obtain ⟨a0, a1, a2, a3, a4, a5⟩ := HS.out.six
      obtain ⟨y0, y1, y2, y3, y4, y5⟩ := kid0_cells HS.out.up HLA.out HCA.out
      rw [HKS5.out] at y5
      have HF := Lib.hid (HFW.out.on HS.out.up)
      have HPO := Lib.hid (part_opt (s := set) (k := kd) (l := s.data.toList) (f := f))
      rw [HSZ.out] at HPO
      have c1 := HF.out.cell (i := s.size) (by have := HN.out; omega)
      cases hfs : f s.size with
      | true =>
        rw [hfs] at c1 HPO
        clear hfs
        go_wp2_with fail
        go_ret
        first
          | exact ⟨true, rfl, ⟨fun _ => HPO.out.2 (.inl (by trivial)), fun _ => by trivial⟩, HS.out.up⟩
          | exact .inr ⟨rfl, HPO.out.2 (.inl (by trivial)), HS.out.up⟩
      | false =>
        rw [hfs] at c1 HPO
        clear hfs
        go_wp2_with fail
        refine (HD.out W0 b c f HS.out.up HF.out).mono ?_
        rintro e w2 ⟨rk, rfl, hrk, hb⟩
        have HU := Lib.hid (HS.out.on hb).up; have HRK := Lib.hid hrk
        clear hb hrk HS HC HD y0 y1 y2 y3 y4 y5 a0 a1 a2 a3 a4 a5 c1 HF
        go_wp2_with fail
        go_ret
        exact ⟨rk, rfl, HRK.out.trans ⟨fun h => HPO.out.2 (.inr h), fun h => (HPO.out.1 h).resolve_left (fun h => by cases h)⟩, HU.out⟩
    have n7 : ((op : Int) == 7) = false := bool_eqs op 7 h7
    by_cases h5 : op = 5
    · subst h5
      obtain ⟨kd, rfl⟩ := h567 (by omega)
      obtain rfl : q = 1 := HQ.out.symm
      obtain ⟨⟨ga, oa, rfl, pa, la, hca⟩, hta⟩ := HA.out 0 kd rfl
      have hC : ∀ W b c g, Below w.heap.size w W → BF W b (s.size + 1) g → Calls Tryd.prog 47 #[nodeV kd (ka 0), .string s, .slice (some ⟨b, 0, none⟩) (s.size + 1) c] W (EndsIs s (.mk 5 noSet [kd]) g W) := fun W b c g hW hg => again_any s hs kd (HE.out kd (by simp)) _ _ W b c g (hta.on hW) hg
      have hD : ∀ W b c g, Below w.heap.size w W → BF W b (s.size + 1) g → Calls Tryd.prog 32 #[nodeV kd (ka 0), .string s, .slice (some ⟨b, 0, none⟩) (s.size + 1) c] W (PartIs s kd g W) := fun W b c g hW hg => HI.out kd (by simp) _ _ W b c g (hta.on hW) hg
      unfold EndsIs at hC
      unfold PartIs at hD
      rw [← HN.out] at hC hD
      simp only [nodeV, nodeC] at hC hD
      have HCA := Lib.hid hca; have HLA := Lib.hid la
      obtain ⟨K0, hK0⟩ : ∃ K0, ka 0 = K0 := ⟨_, rfl⟩
      obtain ⟨Ak, ck, hks⟩ := hta.slice
      rw [hks] at hC hD
      have HC := Lib.hid hC; have HD := Lib.hid hD; have HKS5 := Lib.hid hks
      clear hC hD hca hta hK0 hks HA HI HE h567 la HSO HHA HIT HKS HZS h3n h2 hop2 n2 n3 n4 n7 h3 h4 h7
      go_enter Tryd.func32, Tryd.ntmps32
      go_upto_region 2 with (fail)
      change Code.wp _ _ _ _ _
      generalize w.alloc (.cells #[.int .i64 (5 : Nat), .int .u64 x0, .int .u64 x1, .int .u64 x2, .int .u64 x3, .slice (some ⟨ga, oa, none⟩) 1 ca] TN) = W0 at *
      obtain ⟨a0, a1, a2, a3, a4, a5⟩ := HS.out.six
      obtain ⟨y0, y1, y2, y3, y4, y5⟩ := kid0_cells HS.out.up HLA.out HCA.out
      rw [HKS5.out] at y5
      have HF := Lib.hid (HFW.out.on HS.out.up)
      go_wp2_with fail
      refine (HC.out W0 b c f HS.out.up HF.out).mono ?_
      rintro e w2 ⟨bp, cp, gp, rfl, hg, hp, hb⟩
      have HS2 := Lib.hid (HS.out.on hb); have HG2 := Lib.hid hg
      have HPO := Lib.hid (part_star (s := set) hp)
      rw [HSZ.out] at HPO
      clear hb hg hp HS HC y0 y1 y2 y3 y4 y5 a0 a1 a2 a3 a4 a5 HF
      obtain ⟨a0, a1, a2, a3, a4, a5⟩ := HS2.out.six
      obtain ⟨y0, y1, y2, y3, y4, y5⟩ := kid0_cells HS2.out.up HLA.out HCA.out
      rw [HKS5.out] at y5
      have c1 := HG2.out.cell (i := s.size) (by have := HN.out; omega)
      cases hfs : gp s.size with
      | true =>
        rw [hfs] at c1 HPO
        clear hfs
        go_wp2_with fail
        go_ret
        first
          | exact ⟨true, rfl, ⟨fun _ => HPO.out.2 (.inl (by trivial)), fun _ => by trivial⟩, HS2.out.up⟩
          | exact .inr ⟨rfl, HPO.out.2 (.inl (by trivial)), HS2.out.up⟩
      | false =>
        rw [hfs] at c1 HPO
        clear hfs
        go_wp2_with fail
        refine (HD.out w2 bp cp gp HS2.out.up HG2.out).mono ?_
        rintro e w3 ⟨rk, rfl, hrk, hb⟩
        have HU := Lib.hid (HS2.out.on hb).up; have HRK := Lib.hid hrk
        clear hb hrk HS2 HD y0 y1 y2 y3 y4 y5 a0 a1 a2 a3 a4 a5 c1 HG2
        go_wp2_with fail
        go_ret
        exact ⟨rk, rfl, HRK.out.trans ⟨fun h => HPO.out.2 (.inr h), fun h => (HPO.out.1 h).resolve_left (fun h => by cases h)⟩, HU.out⟩
    have n5 : ((op : Int) == 5) = false := bool_eqs op 5 h5
    by_cases h6 : op = 6
    · subst h6
      obtain ⟨kd, rfl⟩ := h567 (by omega)
      obtain rfl : q = 1 := HQ.out.symm
      obtain ⟨⟨ga, oa, rfl, pa, la, hca⟩, hta⟩ := HA.out 0 kd rfl
      have hC : ∀ W b c g, Below w.heap.size w W → BF W b (s.size + 1) g → Calls Tryd.prog 47 #[nodeV kd (ka 0), .string s, .slice (some ⟨b, 0, none⟩) (s.size + 1) c] W (EndsIs s (.mk 5 noSet [kd]) g W) := fun W b c g hW hg => again_any s hs kd (HE.out kd (by simp)) _ _ W b c g (hta.on hW) hg
      have hD : ∀ W b c g, Below w.heap.size w W → BF W b (s.size + 1) g → Calls Tryd.prog 32 #[nodeV kd (ka 0), .string s, .slice (some ⟨b, 0, none⟩) (s.size + 1) c] W (PartIs s kd g W) := fun W b c g hW hg => HI.out kd (by simp) _ _ W b c g (hta.on hW) hg
      unfold EndsIs at hC
      unfold PartIs at hD
      rw [← HN.out] at hC hD
      simp only [nodeV, nodeC] at hC hD
      have HCA := Lib.hid hca; have HLA := Lib.hid la
      obtain ⟨K0, hK0⟩ : ∃ K0, ka 0 = K0 := ⟨_, rfl⟩
      obtain ⟨Ak, ck, hks⟩ := hta.slice
      rw [hks] at hC hD
      have HC := Lib.hid hC; have HD := Lib.hid hD; have HKS5 := Lib.hid hks
      clear hC hD hca hta hK0 hks HA HI HE h567 la HSO HHA HIT HKS HZS h3n h2 hop2 n2 n3 n4 n7 n5 h3 h4 h7 h5
      go_enter Tryd.func32, Tryd.ntmps32
      go_upto_region 2 with (fail)
      change Code.wp _ _ _ _ _
      generalize w.alloc (.cells #[.int .i64 (6 : Nat), .int .u64 x0, .int .u64 x1, .int .u64 x2, .int .u64 x3, .slice (some ⟨ga, oa, none⟩) 1 ca] TN) = W0 at *
      obtain ⟨a0, a1, a2, a3, a4, a5⟩ := HS.out.six
      obtain ⟨y0, y1, y2, y3, y4, y5⟩ := kid0_cells HS.out.up HLA.out HCA.out
      rw [HKS5.out] at y5
      have HF := Lib.hid (HFW.out.on HS.out.up)
      generalize word kd.set 0 = u0 at *
      generalize word kd.set 1 = u1 at *
      generalize word kd.set 2 = u2 at *
      generalize word kd.set 3 = u3 at *
      generalize hop : kd.op = uo at *
      generalize hkl' : kd.kids.length = ul at *
      clear hop hkl' HKS5 HCA
      have HUD : Hid (Below w.heap.size w W0.drew) := Lib.hid (below_then HS.out.up ⟨rfl, rfl, rfl, Nat.le_refl _, fun _ _ => rfl⟩ (Nat.le_refl _))
      have HFD : Hid (BF W0.drew b n f) := Lib.hid (HFW.out.on HUD.out)
      go_wp2_with fail
      go_region_held3 (fun w' => w'.cell? ⟨w.heap.size, 5, none⟩ = some (.slice (some ⟨ga, oa, none⟩) 1 ca) ∧ w'.cell? ⟨ga, oa, none⟩ = some (.int .i64 uo) ∧ w'.cell? ⟨ga, oa + 1, none⟩ = some (.int .u64 u0) ∧ w'.cell? ⟨ga, oa + 2, none⟩ = some (.int .u64 u1) ∧ w'.cell? ⟨ga, oa + 3, none⟩ = some (.int .u64 u2) ∧ w'.cell? ⟨ga, oa + 4, none⟩ = some (.int .u64 u3) ∧ w'.cell? ⟨ga, oa + 5, none⟩ = some (.slice Ak ul ck))
        (first | exact ⟨a5, y0, y1, y2, y3, y4, y5⟩ | exact ⟨cell_below a5 hb2, cell_below y0 hb2, cell_below y1 hb2, cell_below y2 hb2, cell_below y3 hb2, cell_below y4 hb2, cell_below y5 hb2⟩ | exact ⟨cell_below a5 hb3, cell_below y0 hb3, cell_below y1 hb3, cell_below y2 hb3, cell_below y3 hb3, cell_below y4 hb3, cell_below y5 hb3⟩)
        (first
        | (go_at_call 47; refine (HC.out W0.drew b c f HUD.out HFD.out).mono ?_; rintro e w2 ⟨bp, cp, gp, rfl, hg, hp, hb⟩; have hb2 : Below W0.heap.size W0 w2 := ⟨hb.os, hb.tape, hb.output, hb.size, fun k hk => hb.block k hk⟩; have HU2 := Lib.hid (below_then HUD.out hb (Nat.le_refl _)); have HG2 := Lib.hid hg; have HP2 := Lib.hid hp; clear hb hg hp)
        | (go_at_call 32; refine (HD.out w2 bp cp gp HU2.out HG2.out).mono ?_; rintro e w3 ⟨rk, rfl, hrk, hb⟩; have hb3 : Below W0.heap.size W0 w3 := below_then hb2 hb (Nat.le_refl _); have HU3 := Lib.hid (below_then HU2.out hb (Nat.le_refl _)); have HR3 := Lib.hid hrk; clear hb hrk))
      all_goals (go_wp2_with fail; go_ret; exact ⟨rk, rfl, HR3.out.trans (part_plus (s := set) HP2.out).symm, HU3.out⟩)
    have HPO := Lib.hid (part_other (s := set) (ks := kids) (l := s.data.toList) (f := f) h2 h3 h4 h5 h6 (fun h => h7 h))
    rw [HSZ.out] at HPO
    have n6 : ((op : Int) == 6) = false := bool_eqs op 6 h6
    clear HA HI HE h567 HSO HHA HIT HKS HZS h3n
    go_enter Tryd.func32, Tryd.ntmps32
    go_upto_region 2 with (fail)
    change Code.wp _ _ _ _ _
    generalize w.alloc (.cells #[.int .i64 op, .int .u64 x0, .int .u64 x1, .int .u64 x2, .int .u64 x3, .slice A q ca] TN) = W0 at *
    obtain ⟨a0, a1, a2, a3, a4, a5⟩ := HS.out.six
    have HF := Lib.hid (HFW.out.on HS.out.up)
    have c1 := HF.out.cell (i := s.size) (by have := HN.out; omega)
    go_wp2_with fail
    go_ret
    exact ⟨_, rfl, HPO.out.symm, HS.out.up⟩
end Go.Proofs.YtpiflikblpfgoaaDoor
