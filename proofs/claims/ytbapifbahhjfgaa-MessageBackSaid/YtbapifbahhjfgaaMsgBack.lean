/- The law MessageBack, walked. -/
import Derived.Test.YtbapifbahhjfgaaMsgHeavy
import Derived.Test.YtbapifbahhjfgaaMsgKnown
namespace Go.Proofs.Ytbapifbahhjfgaa
open Go.RowKit

/-- the load of a row, guarded or not -/
theorem wpList_load_row_w {P : Program} {ops : Array Oper} {rest : List Oper} {o : Oper} {a : Act} {w : World} {Q : Exit → Act → World → Prop} (hw : Region.wanted o (yielded ops a.tmps) = true) (ty : TypeId) (x : Operand) (ho : o.op = .load ty x)
    (g : Nat) (hx : a.eval x = .pointer (some ⟨g, 0, none⟩)) (t : TypeId) (cs : Array Value) (fr : Nat × Nat) (d : TypeDesc) (hg : w.heap[g]? = some (.cells cs t fr))
    (hu : P.underlying ty = some d) (hd : (match d with | .struct _ | .array _ _ => true | _ => false) = true) (hi : (P.info? ty).map (·.size) = some cs.size)
    (h : wpList P ops Q rest (a.put o.dst (.agg cs)) w) : wpList P ops Q (o :: rest) a w :=
  wpList_step fun K hK => by
    rw [if_pos hw]
    exact wp_load_row ty x ho g hx t cs fr d hg hu hd hi (hK _ _ h)

/-- two messages that lie in memory, with their entries -/
def BK (W : World) (g : Nat) (m k : Msg) (A B : Option Addr) (c d : Nat) : Prop := MB W g m (.slice A m.ents.length c) ∧ MB W (g + 1) k (.slice B k.ents.length d) ∧ EArg W W.heap.size A m.ents ∧ EArg W W.heap.size B k.ents
theorem BK.below {w w' : World} {g : Nat} {m k : Msg} {A B : Option Addr} {c d : Nat} (h : BK w g m k A B c d) (hb : Below w.heap.size w w') : BK w' g m k A B c d := ⟨h.1.below hb, h.2.1.below hb, h.2.2.1.on hb, h.2.2.2.on hb⟩

theorem extract_bs (l : List UInt8) (k : Nat) : (bs l).extract 0 k = bs (l.take k) := by
  apply ByteArray.ext
  show ((bs l).extract 0 k).data = (l.take k).toArray
  rw [ByteArray.data_extract]
  apply Array.ext'
  simp [bs]
theorem append_bs (l : List UInt8) (t : ByteArray) : bs l ++ t = bs (l ++ t.data.toList) := by
  apply ByteArray.ext
  rw [ByteArray.data_append]
  apply Array.ext'
  simp [bs]

theorem back_facts (m : Msg) (hc : m.check = 0) (ho : m.op < 256) : ∃ s, m.out = .tuple #[.string s, .int .i64 0] ∧ s.size ≤ 20000 ∧ (decode s).1.Eqv m ∧ (decode s).2 = (0, 0) ∧ (∀ more : ByteArray, more = ⟨#[]⟩ → (decode (s ++ more)).2.1 = 0) ∧ (∀ more : ByteArray, more ≠ ⟨#[]⟩ → (decode (s ++ more)).2.1 = 7) ∧
    (∀ k, k < s.size → (decode (s.extract 0 k)).2.1 ≠ 0) ∧ s = bs m.form := by
  have hf := (check_ok m hc).fit ho
  refine ⟨bs m.form, ?_, ?_, (decode_form m hc ho).1, (decode_form m hc ho).2, fun more hm => ?_, fun more hm => ?_, fun k hk => ?_, rfl⟩
  · unfold Msg.out; rw [if_pos hc]
  · rw [bs_sz]; exact form_len m (check_ok m hc)
  · rw [hm, append_bs, show (⟨#[]⟩ : ByteArray).data.toList = [] from rfl, List.append_nil, (decode_form m hc ho).2]
  · rw [append_bs, decode_more m hf _ (fun h => hm (by apply ByteArray.ext; apply Array.ext'; rw [h]))]
  · rw [extract_bs]; exact decode_cut m hc ho k (by rwa [bs_sz] at hk)

theorem nonempty_str {b : ByteArray} (h : ¬ b = ⟨#[]⟩) : b.toList.isEmpty = false := by
  rw [List.isEmpty_eq_false_iff]
  refine fun e => h (toList_inj (e.trans ?_))
  exact (ByteArray.toList_eq ⟨#[]⟩).symm

theorem out_is (k : Msg) : ∃ (t : ByteArray) (f : Nat), k.out = .tuple #[.string t, .int .i64 f] ∧ f = k.check ∧ (f = 0 → t = bs k.form) ∧ (f ≠ 0 → t = ⟨#[]⟩) := by
  unfold Msg.out
  by_cases h : k.check = 0
  · rw [if_pos h]; exact ⟨_, 0, rfl, h.symm, fun _ => rfl, fun e => absurd rfl e⟩
  · rw [if_neg h]; exact ⟨_, k.check, rfl, rfl, fun e => absurd e h, fun _ => rfl⟩

set_option maxRecDepth 100000 in
set_option maxHeartbeats 16000000 in
theorem messageBack_walk (m k : Msg) (A B : Option Addr) (c d : Nat) (cut : Int) (more : ByteArray) (w : World) (ha : EArg w w.heap.size A m.ents) (hb : EArg w w.heap.size B k.ents)
    (hn : m.ents.length ≤ 9223372036854775807) (hn2 : k.ents.length ≤ 9223372036854775807) (hk : m.kind < 256) (hk2 : k.kind < 256) (ho : m.op < 256) (ho2 : k.op < 256) :
    Calls Try.prog 4 #[m.val (.slice A m.ents.length c), k.val (.slice B k.ents.length d), .int .i64 cut, .string more] w fun e w' => e = .returned (.bool true) ∧ Below w.heap.size w w' := by
  have hm : BK ((w.alloc (.cells (m.cells (.slice A m.ents.length c)).toArray TM)).alloc (.cells (k.cells (.slice B k.ents.length d)).toArray TM)) w.heap.size m k A B c d ∧ Below w.heap.size w ((w.alloc (.cells (m.cells (.slice A m.ents.length c)).toArray TM)).alloc (.cells (k.cells (.slice B k.ents.length d)).toArray TM)) := by
    have h1 : MB (w.alloc (.cells (m.cells (.slice A m.ents.length c)).toArray TM)) w.heap.size m (.slice A m.ents.length c) := heap_alloc_new w _
    have b1 := below_new w (.cells (m.cells (.slice A m.ents.length c)).toArray TM)
    have b2 := below_new (w.alloc (.cells (m.cells (.slice A m.ents.length c)).toArray TM)) (.cells (k.cells (.slice B k.ents.length d)).toArray TM)
    have h2 := heap_alloc_new (w.alloc (.cells (m.cells (.slice A m.ents.length c)).toArray TM)) (.cells (k.cells (.slice B k.ents.length d)).toArray TM)
    rw [World.size_alloc] at h2
    exact ⟨⟨h1.below b2, h2, (ha.on b1).on b2, (hb.on b1).on b2⟩, below_then b1 b2 (Nat.le_refl _)⟩
  have HM := Lib.hid hm.1; have HB := Lib.hid hm.2
  clear hm ha hb
  simp only [Msg.val]
  go_enter Try.func4, Try.ntmps4
  go_wp2_with fail
  change Calls _ _ _ ((w.alloc (.cells (m.cells (.slice A m.ents.length c)).toArray TM)).alloc (.cells (k.cells (.slice B k.ents.length d)).toArray TM)) _
  generalize (w.alloc (.cells (m.cells (.slice A m.ents.length c)).toArray TM)).alloc (.cells (k.cells (.slice B k.ents.length d)).toArray TM) = W0 at *
  generalize Value.agg (m.cells (.slice A m.ents.length c)).toArray = V1
  generalize Value.agg (k.cells (.slice B k.ents.length d)).toArray = V2
  obtain ⟨g, hg⟩ : ∃ g, w.heap.size = g := ⟨_, rfl⟩
  have HG := Lib.hid hg
  rw [hg] at HM ⊢
  clear hg
  refine (works_any W0).mono ?_
  rintro e w1 ⟨rfl, hb1⟩
  have HM1 := Lib.hid (HM.out.below hb1); have HB1 := Lib.hid (below_then HB.out hb1 (Nat.le_refl _))
  clear hb1 HM HB
  go_wp2_with (refine wpList_load_row_w (by rfl) TM (.tmp 4) rfl g rfl TM _ (0, 0) _ HM1.out.1 Try.underlying28 rfl (by kernel_rfl) ?_)
  refine (heavy_any m A c w1 HM1.out.2.2.1 hn).mono ?_
  rintro e w2 ⟨hh, hb2⟩
  have HM2 := Lib.hid (HM1.out.below hb2); have HB2 := Lib.hid (below_then HB1.out hb2 (Nat.le_refl _))
  clear hb2 HM1 HB1
  rcases hh with rfl | ⟨rfl, -⟩
  · go_wp2_with fail
    go_ret
    exact ⟨rfl, HB2.out⟩
  go_wp2_with (refine wpList_load_row_w (by rfl) TM (.tmp 5) rfl (g + 1) rfl TM _ (0, 0) _ HM2.out.2.1 Try.underlying28 rfl (by kernel_rfl) ?_)
  refine (heavy_any k B d w2 HM2.out.2.2.2 hn2).mono ?_
  rintro e w3 ⟨hh, hb3⟩
  have HM3 := Lib.hid (HM2.out.below hb3); have HB3 := Lib.hid (below_then HB2.out hb3 (Nat.le_refl _))
  clear hb3 HM2 HB2
  rcases hh with rfl | ⟨rfl, -⟩
  · go_wp2_with fail
    go_ret
    exact ⟨rfl, HB3.out⟩
  by_cases hmore : 4096 < more.size
  · have hm2 : (4096 : Int) < more.size := by omega
    go_wp2_with fail
    go_ret
    exact ⟨rfl, HB3.out⟩
  have hm2 : (more.size : Int) ≤ 4096 := by omega
  go_wp2_with (refine wpList_load_row_w (by rfl) TM (.tmp 4) rfl g rfl TM _ (0, 0) _ HM3.out.1 Try.underlying28 rfl (by kernel_rfl) ?_)
  refine (encode_any m A c w3 HM3.out.2.2.1 hn hk ho).mono ?_
  rintro e w4 ⟨rfl, hb4⟩
  have HM4 := Lib.hid (HM3.out.below hb4); have HB4 := Lib.hid (below_then HB3.out hb4 (Nat.le_refl _))
  clear hb4 HM3 HB3
  obtain ⟨s, f, hs, hf, hfs, hfn⟩ := out_is m
  rw [hs]
  have HF := Lib.hid hf; have HFS := Lib.hid hfs; have HFN := Lib.hid hfn
  clear hs hf hfs hfn
  go_wp2_with (refine wpList_load_row_w (by rfl) TM (.tmp 5) rfl (g + 1) rfl TM _ (0, 0) _ HM4.out.2.1 Try.underlying28 rfl (by kernel_rfl) ?_)
  refine (encode_any k B d w4 HM4.out.2.2.2 hn2 hk2 ho2).mono ?_
  rintro e w5 ⟨rfl, hb5⟩
  have HM5 := Lib.hid (HM4.out.below hb5); have HB5 := Lib.hid (below_then HB4.out hb5 (Nat.le_refl _))
  clear hb5 HM4 HB4
  obtain ⟨t, f2, ht, hf2, hft, -⟩ := out_is k
  rw [ht]
  have HF2 := Lib.hid hf2; have HFT := Lib.hid hft
  clear ht hf2 hft hmore
  generalize Value.agg (m.cells (.slice A m.ents.length c)).toArray = V3
  generalize Value.agg (k.cells (.slice B k.ents.length d)).toArray = V4
  by_cases hf0 : f = 0
  · obtain ⟨s', hs', hz, hx, hsp, hme, hmo, hcu, he'⟩ := back_facts m (HF.out.symm.trans hf0) ho
    obtain rfl : s = s' := (HFS.out hf0).trans he'.symm
    have HSM := Lib.hid he'
    clear he'
    subst hf0
    have HX := Lib.hid hx; have HMO := Lib.hid hmo; have HME := Lib.hid hme; have HCU := Lib.hid hcu; have HZ := Lib.hid hz
    clear hs' hx hmo hme hcu HFS HFN
    go_wp2_with fail
    have hD := decode_any s w5 (by omega)
    rw [hsp] at hD
    refine hD.mono ?_
    rintro e w6 ⟨A6, c6, rfl, he, hb6⟩
    have HE6 := Lib.hid he; have HM6 := Lib.hid (HM5.out.below hb6); have HB6 := Lib.hid (below_then HB5.out hb6 (Nat.le_refl _))
    have HDX := Lib.hid (show (decode s).1.Eqv m from HX.out)
    clear hD he hb6 HM5 HB5 hsp HX
    generalize (decode s).1 = x at *
    have hR := raw_facts w6
    have HMr := Lib.hid hR.1; have HSp := Lib.hid hR.2
    clear hR
    obtain ⟨hX, hS, hB⟩ := two_facts w6 (x.cells (.slice A6 x.ents.length c6)).toArray 0 0
    have HX7 := Lib.hid hX; have HS7 := Lib.hid hS; have HM7 := Lib.hid (HM6.out.below hB); have HB7 := Lib.hid (below_then HB6.out hB (Nat.le_refl _)); have HE7 := Lib.hid (HE6.out.on hB)
    have hlo : w.heap.size ≤ w6.heap.size := HB6.out.size
    have HLO := Lib.hid hlo
    obtain ⟨p0, p1⟩ := spot_cells hS
    clear hX hS hB HM6 HB6 HE6 hlo
    go_wp2_with (first | (refine wpList_store_row rfl TM (.tmp 13) (.tmp 45) rfl w6.heap.size (x.cells (.slice A6 x.ents.length c6)).toArray rfl rfl TM (zeroMsg.cells A0).toArray HMr.out (by kernel_rfl) rfl (cells_one x _ _ _) ?_) | (refine wpList_store_row rfl TSp (.tmp 14) (.tmp 46) rfl (w6.heap.size + 1) #[.int .i64 0, .int .i64 0] rfl rfl TSp #[.int .i64 0, .int .i64 0] ((setRow_other _ _ _ _ (by omega)).trans HSp.out) (by kernel_rfl) rfl (spot_one 0 0) ?_; change wpList _ _ _ _ _ (two w6 (x.cells (.slice A6 x.ents.length c6)).toArray 0 0); generalize two w6 (x.cells (.slice A6 x.ents.length c6)).toArray 0 0 = X7 at HX7 HS7 HM7 HB7 HE7 p0 p1 ⊢) | (refine wpList_load_row_w (by rfl) TM (.tmp 13) rfl w6.heap.size rfl TM _ (0, 0) _ HX7.out Try.underlying28 rfl (by kernel_rfl) ?_) | (refine wpList_load_row_w (by rfl) TM (.tmp 4) rfl g rfl TM _ (0, 0) _ HM7.out.1 Try.underlying28 rfl (by kernel_rfl) ?_))
    clear HMr HSp
    generalize w6.heap.size = g6 at *
    refine (same_any x m A6 A c6 c X7 HE7.out HM7.out.2.2.1 (by rw [HDX.out.ents]; exact hn) hn).mono ?_
    rintro e w8 ⟨hsame, hb8⟩
    obtain rfl : e = .returned (.bool true) := hsame.elim And.left (fun h => absurd HDX.out h.2)
    have HS8 := Lib.hid (cell_block HS7.out hb8); have HM8 := Lib.hid (HM7.out.below hb8); have HB8 := Lib.hid (below_then HB7.out hb8 (Nat.le_refl _))
    clear hsame hb8 HX7 HS7 HM7 HB7 HE7 p0 p1
    generalize Value.agg (m.cells (.slice A m.ents.length c)).toArray = V5
    generalize Value.agg (x.cells (.slice A6 x.ents.length c6)).toArray = V6
    by_cases hf2 : f2 = 0
    · subst hf2
      have hk0 : k.check = 0 := HF2.out.symm
      have hft := HFT.out rfl
      by_cases hE : m.Eqv k
      · have hst : s = t := by rw [HSM.out, hft, hE.form]
        have h1 := str_eq hst
        have HEq := Lib.hid hE
        clear hE hst hk0 hft HFT
        go_wp2_with (first | (refine wpList_load_row_w (by rfl) TM (.tmp 4) rfl g rfl TM _ (0, 0) _ HM8.out.1 Try.underlying28 rfl (by kernel_rfl) ?_) | (refine wpList_load_row_w (by rfl) TM (.tmp 5) rfl (g + 1) rfl TM _ (0, 0) _ HM8.out.2.1 Try.underlying28 rfl (by kernel_rfl) ?_))
        refine (same_any m k A B c d w8 HM8.out.2.2.1 HM8.out.2.2.2 hn hn2).mono ?_
        rintro e w8b ⟨hsame, hb8⟩
        obtain rfl : e = .returned (.bool true) := hsame.elim And.left (fun h => absurd HEq.out h.2)
        have HS8b := Lib.hid (cell_block HS8.out hb8); have HB8b := Lib.hid (below_then HB8.out hb8 (Nat.le_refl _))
        clear hsame hb8 HS8 HB8 HM8
        generalize Value.agg (m.cells (.slice A m.ents.length c)).toArray = V7
        generalize Value.agg (k.cells (.slice B k.ents.length d)).toArray = V8
        clear h1
        go_wp2_with fail
        refine (decode_any (s ++ more) w8b (by rw [ByteArray.size_append]; have := HZ.out; omega)).mono ?_
        rintro e w9 ⟨A9, c9, rfl, -, hb9⟩
        have HS9 := Lib.hid (cell_block HS8b.out hb9); have HB9 := Lib.hid (below_then HB8b.out hb9 (Nat.le_refl _))
        have HME' := Lib.hid (HME.out more); have HMO' := Lib.hid (HMO.out more)
        clear hb9 HS8b HB8b HME HMO
        generalize (decode (s ++ more)).1 = x9 at *
        generalize (decode (s ++ more)).2.1 = y at *
        generalize (decode (s ++ more)).2.2 = z at *
        by_cases hmm : more = ⟨#[]⟩
        · have hy := HME'.out hmm
          subst hmm hy
          clear HME' HMO'
          have hS := setRow_heap _ _ _ #[.int .i64 0, .int .i64 z] _ _ HS9.out
          obtain ⟨p0, p1⟩ := spot_cells hS
          have HS10 := Lib.hid hS
          have HB10 := Lib.hid (HB9.out.trans (below_setRow w9 (g6 + 1) #[.int .i64 0, .int .i64 z] (by have := HLO.out; omega)))
          clear hS HB9
          by_cases hc1 : cut < 0
          · go_wp2_with (refine wpList_store_row rfl TSp (.tmp 14) (.tmp 75) rfl (g6 + 1) #[.int .i64 0, .int .i64 z] rfl rfl TSp #[.int .i64 0, .int .i64 0] HS9.out (by kernel_rfl) rfl (spot_one _ _) ?_)
            go_ret
            exact ⟨rfl, HB10.out⟩
          by_cases hc2 : (s.size : Int) ≤ cut
          · go_wp2_with (refine wpList_store_row rfl TSp (.tmp 14) (.tmp 75) rfl (g6 + 1) #[.int .i64 0, .int .i64 z] rfl rfl TSp #[.int .i64 0, .int .i64 0] HS9.out (by kernel_rfl) rfl (spot_one _ _) ?_)
            go_ret
            exact ⟨rfl, HB10.out⟩
          obtain ⟨n, rfl⟩ : ∃ n : Nat, cut = n := ⟨cut.toNat, by omega⟩
          have hns : n < s.size := by omega
          have hcl : (n : Int) < s.size := by omega
          have hc0 : (0 : Int) ≤ n := by omega
          have HNS := Lib.hid hns
          clear hc1 hc2 hns
          go_wp2_with (refine wpList_store_row rfl TSp (.tmp 14) (.tmp 75) rfl (g6 + 1) #[.int .i64 0, .int .i64 z] rfl rfl TSp #[.int .i64 0, .int .i64 0] HS9.out (by kernel_rfl) rfl (spot_one _ _) ?_)
          clear p0 p1
          generalize w9.setRow (g6 + 1) #[.int .i64 0, .int .i64 z] = W10 at *
          refine (decode_any (s.extract 0 n) W10 (by rw [ByteArray.size_extract]; have := HZ.out; omega)).mono ?_
          rintro e w11 ⟨A11, c11, rfl, -, hb11⟩
          have HS11 := Lib.hid (cell_block HS10.out hb11); have HB11 := Lib.hid (below_then HB10.out hb11 (Nat.le_refl _))
          have hy3 := HCU.out n HNS.out
          clear hb11 HS10 HB10 HCU
          generalize (decode (s.extract 0 n)).1 = x11 at *
          generalize (decode (s.extract 0 n)).2.1 = y3 at *
          generalize (decode (s.extract 0 n)).2.2 = z3 at *
          have hy4 : ((y3 : Int) != 0) = true := by rw [bne_iff_ne]; omega
          have hS := setRow_heap _ _ _ #[.int .i64 y3, .int .i64 z3] _ _ HS11.out
          obtain ⟨p0, p1⟩ := spot_cells hS
          have HB12 := Lib.hid (HB11.out.trans (below_setRow w11 (g6 + 1) #[.int .i64 y3, .int .i64 z3] (by have := HLO.out; omega)))
          clear hS HB11
          go_wp2_with (refine wpList_store_row rfl TSp (.tmp 14) (.tmp 96) rfl (g6 + 1) #[.int .i64 y3, .int .i64 z3] rfl rfl TSp #[.int .i64 0, .int .i64 z] HS11.out (by kernel_rfl) rfl (spot_one _ _) ?_)
          go_ret
          exact ⟨rfl, HB12.out⟩
        · have hy := HMO'.out hmm
          subst hy
          have hem := nonempty_str hmm
          clear HME' HMO' hmm
          have hS := setRow_heap _ _ _ #[.int .i64 7, .int .i64 z] _ _ HS9.out
          obtain ⟨p0, p1⟩ := spot_cells hS
          have HS10 := Lib.hid hS
          have HB10 := Lib.hid (HB9.out.trans (below_setRow w9 (g6 + 1) #[.int .i64 7, .int .i64 z] (by have := HLO.out; omega)))
          clear hS HB9
          by_cases hc1 : cut < 0
          · go_wp2_with (refine wpList_store_row rfl TSp (.tmp 14) (.tmp 75) rfl (g6 + 1) #[.int .i64 7, .int .i64 z] rfl rfl TSp #[.int .i64 0, .int .i64 0] HS9.out (by kernel_rfl) rfl (spot_one _ _) ?_)
            go_ret
            exact ⟨rfl, HB10.out⟩
          by_cases hc2 : (s.size : Int) ≤ cut
          · go_wp2_with (refine wpList_store_row rfl TSp (.tmp 14) (.tmp 75) rfl (g6 + 1) #[.int .i64 7, .int .i64 z] rfl rfl TSp #[.int .i64 0, .int .i64 0] HS9.out (by kernel_rfl) rfl (spot_one _ _) ?_)
            go_ret
            exact ⟨rfl, HB10.out⟩
          obtain ⟨n, rfl⟩ : ∃ n : Nat, cut = n := ⟨cut.toNat, by omega⟩
          have hns : n < s.size := by omega
          have hcl : (n : Int) < s.size := by omega
          have hc0 : (0 : Int) ≤ n := by omega
          have HNS := Lib.hid hns
          clear hc1 hc2 hns
          go_wp2_with (refine wpList_store_row rfl TSp (.tmp 14) (.tmp 75) rfl (g6 + 1) #[.int .i64 7, .int .i64 z] rfl rfl TSp #[.int .i64 0, .int .i64 0] HS9.out (by kernel_rfl) rfl (spot_one _ _) ?_)
          clear p0 p1
          generalize w9.setRow (g6 + 1) #[.int .i64 7, .int .i64 z] = W10 at *
          refine (decode_any (s.extract 0 n) W10 (by rw [ByteArray.size_extract]; have := HZ.out; omega)).mono ?_
          rintro e w11 ⟨A11, c11, rfl, -, hb11⟩
          have HS11 := Lib.hid (cell_block HS10.out hb11); have HB11 := Lib.hid (below_then HB10.out hb11 (Nat.le_refl _))
          have hy3 := HCU.out n HNS.out
          clear hb11 HS10 HB10 HCU
          generalize (decode (s.extract 0 n)).1 = x11 at *
          generalize (decode (s.extract 0 n)).2.1 = y3 at *
          generalize (decode (s.extract 0 n)).2.2 = z3 at *
          have hy4 : ((y3 : Int) != 0) = true := by rw [bne_iff_ne]; omega
          have hS := setRow_heap _ _ _ #[.int .i64 y3, .int .i64 z3] _ _ HS11.out
          obtain ⟨p0, p1⟩ := spot_cells hS
          have HB12 := Lib.hid (HB11.out.trans (below_setRow w11 (g6 + 1) #[.int .i64 y3, .int .i64 z3] (by have := HLO.out; omega)))
          clear hS HB11
          go_wp2_with (refine wpList_store_row rfl TSp (.tmp 14) (.tmp 96) rfl (g6 + 1) #[.int .i64 y3, .int .i64 z3] rfl rfl TSp #[.int .i64 7, .int .i64 z] HS11.out (by kernel_rfl) rfl (spot_one _ _) ?_)
          go_ret
          exact ⟨rfl, HB12.out⟩
      · have hst : ¬ s = t := fun e => hE (form_inj m k HF.out.symm hk0 ho ho2 (by rw [HSM.out, hft] at e; exact congrArg (fun b : ByteArray => b.data.toList) e))
        have h1 := str_ne hst
        have HEq := Lib.hid hE
        clear hE hst hk0 hft HFT
        go_wp2_with (first | (refine wpList_load_row_w (by rfl) TM (.tmp 4) rfl g rfl TM _ (0, 0) _ HM8.out.1 Try.underlying28 rfl (by kernel_rfl) ?_) | (refine wpList_load_row_w (by rfl) TM (.tmp 5) rfl (g + 1) rfl TM _ (0, 0) _ HM8.out.2.1 Try.underlying28 rfl (by kernel_rfl) ?_))
        refine (same_any m k A B c d w8 HM8.out.2.2.1 HM8.out.2.2.2 hn hn2).mono ?_
        rintro e w8b ⟨hsame, hb8⟩
        obtain rfl : e = .returned (.bool false) := hsame.elim (fun h => absurd h.2 HEq.out) And.left
        have HS8b := Lib.hid (cell_block HS8.out hb8); have HB8b := Lib.hid (below_then HB8.out hb8 (Nat.le_refl _))
        clear hsame hb8 HS8 HB8 HM8
        generalize Value.agg (m.cells (.slice A m.ents.length c)).toArray = V7
        generalize Value.agg (k.cells (.slice B k.ents.length d)).toArray = V8
        clear h1
        go_wp2_with fail
        refine (decode_any (s ++ more) w8b (by rw [ByteArray.size_append]; have := HZ.out; omega)).mono ?_
        rintro e w9 ⟨A9, c9, rfl, -, hb9⟩
        have HS9 := Lib.hid (cell_block HS8b.out hb9); have HB9 := Lib.hid (below_then HB8b.out hb9 (Nat.le_refl _))
        have HME' := Lib.hid (HME.out more); have HMO' := Lib.hid (HMO.out more)
        clear hb9 HS8b HB8b HME HMO
        generalize (decode (s ++ more)).1 = x9 at *
        generalize (decode (s ++ more)).2.1 = y at *
        generalize (decode (s ++ more)).2.2 = z at *
        by_cases hmm : more = ⟨#[]⟩
        · have hy := HME'.out hmm
          subst hmm hy
          clear HME' HMO'
          have hS := setRow_heap _ _ _ #[.int .i64 0, .int .i64 z] _ _ HS9.out
          obtain ⟨p0, p1⟩ := spot_cells hS
          have HS10 := Lib.hid hS
          have HB10 := Lib.hid (HB9.out.trans (below_setRow w9 (g6 + 1) #[.int .i64 0, .int .i64 z] (by have := HLO.out; omega)))
          clear hS HB9
          by_cases hc1 : cut < 0
          · go_wp2_with (refine wpList_store_row rfl TSp (.tmp 14) (.tmp 75) rfl (g6 + 1) #[.int .i64 0, .int .i64 z] rfl rfl TSp #[.int .i64 0, .int .i64 0] HS9.out (by kernel_rfl) rfl (spot_one _ _) ?_)
            go_ret
            exact ⟨rfl, HB10.out⟩
          by_cases hc2 : (s.size : Int) ≤ cut
          · go_wp2_with (refine wpList_store_row rfl TSp (.tmp 14) (.tmp 75) rfl (g6 + 1) #[.int .i64 0, .int .i64 z] rfl rfl TSp #[.int .i64 0, .int .i64 0] HS9.out (by kernel_rfl) rfl (spot_one _ _) ?_)
            go_ret
            exact ⟨rfl, HB10.out⟩
          obtain ⟨n, rfl⟩ : ∃ n : Nat, cut = n := ⟨cut.toNat, by omega⟩
          have hns : n < s.size := by omega
          have hcl : (n : Int) < s.size := by omega
          have hc0 : (0 : Int) ≤ n := by omega
          have HNS := Lib.hid hns
          clear hc1 hc2 hns
          go_wp2_with (refine wpList_store_row rfl TSp (.tmp 14) (.tmp 75) rfl (g6 + 1) #[.int .i64 0, .int .i64 z] rfl rfl TSp #[.int .i64 0, .int .i64 0] HS9.out (by kernel_rfl) rfl (spot_one _ _) ?_)
          clear p0 p1
          generalize w9.setRow (g6 + 1) #[.int .i64 0, .int .i64 z] = W10 at *
          refine (decode_any (s.extract 0 n) W10 (by rw [ByteArray.size_extract]; have := HZ.out; omega)).mono ?_
          rintro e w11 ⟨A11, c11, rfl, -, hb11⟩
          have HS11 := Lib.hid (cell_block HS10.out hb11); have HB11 := Lib.hid (below_then HB10.out hb11 (Nat.le_refl _))
          have hy3 := HCU.out n HNS.out
          clear hb11 HS10 HB10 HCU
          generalize (decode (s.extract 0 n)).1 = x11 at *
          generalize (decode (s.extract 0 n)).2.1 = y3 at *
          generalize (decode (s.extract 0 n)).2.2 = z3 at *
          have hy4 : ((y3 : Int) != 0) = true := by rw [bne_iff_ne]; omega
          have hS := setRow_heap _ _ _ #[.int .i64 y3, .int .i64 z3] _ _ HS11.out
          obtain ⟨p0, p1⟩ := spot_cells hS
          have HB12 := Lib.hid (HB11.out.trans (below_setRow w11 (g6 + 1) #[.int .i64 y3, .int .i64 z3] (by have := HLO.out; omega)))
          clear hS HB11
          go_wp2_with (refine wpList_store_row rfl TSp (.tmp 14) (.tmp 96) rfl (g6 + 1) #[.int .i64 y3, .int .i64 z3] rfl rfl TSp #[.int .i64 0, .int .i64 z] HS11.out (by kernel_rfl) rfl (spot_one _ _) ?_)
          go_ret
          exact ⟨rfl, HB12.out⟩
        · have hy := HMO'.out hmm
          subst hy
          have hem := nonempty_str hmm
          clear HME' HMO' hmm
          have hS := setRow_heap _ _ _ #[.int .i64 7, .int .i64 z] _ _ HS9.out
          obtain ⟨p0, p1⟩ := spot_cells hS
          have HS10 := Lib.hid hS
          have HB10 := Lib.hid (HB9.out.trans (below_setRow w9 (g6 + 1) #[.int .i64 7, .int .i64 z] (by have := HLO.out; omega)))
          clear hS HB9
          by_cases hc1 : cut < 0
          · go_wp2_with (refine wpList_store_row rfl TSp (.tmp 14) (.tmp 75) rfl (g6 + 1) #[.int .i64 7, .int .i64 z] rfl rfl TSp #[.int .i64 0, .int .i64 0] HS9.out (by kernel_rfl) rfl (spot_one _ _) ?_)
            go_ret
            exact ⟨rfl, HB10.out⟩
          by_cases hc2 : (s.size : Int) ≤ cut
          · go_wp2_with (refine wpList_store_row rfl TSp (.tmp 14) (.tmp 75) rfl (g6 + 1) #[.int .i64 7, .int .i64 z] rfl rfl TSp #[.int .i64 0, .int .i64 0] HS9.out (by kernel_rfl) rfl (spot_one _ _) ?_)
            go_ret
            exact ⟨rfl, HB10.out⟩
          obtain ⟨n, rfl⟩ : ∃ n : Nat, cut = n := ⟨cut.toNat, by omega⟩
          have hns : n < s.size := by omega
          have hcl : (n : Int) < s.size := by omega
          have hc0 : (0 : Int) ≤ n := by omega
          have HNS := Lib.hid hns
          clear hc1 hc2 hns
          go_wp2_with (refine wpList_store_row rfl TSp (.tmp 14) (.tmp 75) rfl (g6 + 1) #[.int .i64 7, .int .i64 z] rfl rfl TSp #[.int .i64 0, .int .i64 0] HS9.out (by kernel_rfl) rfl (spot_one _ _) ?_)
          clear p0 p1
          generalize w9.setRow (g6 + 1) #[.int .i64 7, .int .i64 z] = W10 at *
          refine (decode_any (s.extract 0 n) W10 (by rw [ByteArray.size_extract]; have := HZ.out; omega)).mono ?_
          rintro e w11 ⟨A11, c11, rfl, -, hb11⟩
          have HS11 := Lib.hid (cell_block HS10.out hb11); have HB11 := Lib.hid (below_then HB10.out hb11 (Nat.le_refl _))
          have hy3 := HCU.out n HNS.out
          clear hb11 HS10 HB10 HCU
          generalize (decode (s.extract 0 n)).1 = x11 at *
          generalize (decode (s.extract 0 n)).2.1 = y3 at *
          generalize (decode (s.extract 0 n)).2.2 = z3 at *
          have hy4 : ((y3 : Int) != 0) = true := by rw [bne_iff_ne]; omega
          have hS := setRow_heap _ _ _ #[.int .i64 y3, .int .i64 z3] _ _ HS11.out
          obtain ⟨p0, p1⟩ := spot_cells hS
          have HB12 := Lib.hid (HB11.out.trans (below_setRow w11 (g6 + 1) #[.int .i64 y3, .int .i64 z3] (by have := HLO.out; omega)))
          clear hS HB11
          go_wp2_with (refine wpList_store_row rfl TSp (.tmp 14) (.tmp 96) rfl (g6 + 1) #[.int .i64 y3, .int .i64 z3] rfl rfl TSp #[.int .i64 7, .int .i64 z] HS11.out (by kernel_rfl) rfl (spot_one _ _) ?_)
          go_ret
          exact ⟨rfl, HB12.out⟩
    · have hf3 : (f2 : Int) ≠ 0 := by omega
      go_wp2_with fail
      refine (decode_any (s ++ more) w8 (by rw [ByteArray.size_append]; have := HZ.out; omega)).mono ?_
      rintro e w9 ⟨A9, c9, rfl, -, hb9⟩
      have HS9 := Lib.hid (cell_block HS8.out hb9); have HB9 := Lib.hid (below_then HB8.out hb9 (Nat.le_refl _))
      have HME' := Lib.hid (HME.out more); have HMO' := Lib.hid (HMO.out more)
      clear hb9 HS8 HB8 HME HMO
      generalize (decode (s ++ more)).1 = x9 at *
      generalize (decode (s ++ more)).2.1 = y at *
      generalize (decode (s ++ more)).2.2 = z at *
      by_cases hmm : more = ⟨#[]⟩
      · have hy := HME'.out hmm
        subst hmm hy
        clear HME' HMO'
        have hS := setRow_heap _ _ _ #[.int .i64 0, .int .i64 z] _ _ HS9.out
        obtain ⟨p0, p1⟩ := spot_cells hS
        have HS10 := Lib.hid hS
        have HB10 := Lib.hid (HB9.out.trans (below_setRow w9 (g6 + 1) #[.int .i64 0, .int .i64 z] (by have := HLO.out; omega)))
        clear hS HB9
        by_cases hc1 : cut < 0
        · go_wp2_with (refine wpList_store_row rfl TSp (.tmp 14) (.tmp 75) rfl (g6 + 1) #[.int .i64 0, .int .i64 z] rfl rfl TSp #[.int .i64 0, .int .i64 0] HS9.out (by kernel_rfl) rfl (spot_one _ _) ?_)
          go_ret
          exact ⟨rfl, HB10.out⟩
        by_cases hc2 : (s.size : Int) ≤ cut
        · go_wp2_with (refine wpList_store_row rfl TSp (.tmp 14) (.tmp 75) rfl (g6 + 1) #[.int .i64 0, .int .i64 z] rfl rfl TSp #[.int .i64 0, .int .i64 0] HS9.out (by kernel_rfl) rfl (spot_one _ _) ?_)
          go_ret
          exact ⟨rfl, HB10.out⟩
        obtain ⟨n, rfl⟩ : ∃ n : Nat, cut = n := ⟨cut.toNat, by omega⟩
        have hns : n < s.size := by omega
        have hcl : (n : Int) < s.size := by omega
        have hc0 : (0 : Int) ≤ n := by omega
        have HNS := Lib.hid hns
        clear hc1 hc2 hns
        go_wp2_with (refine wpList_store_row rfl TSp (.tmp 14) (.tmp 75) rfl (g6 + 1) #[.int .i64 0, .int .i64 z] rfl rfl TSp #[.int .i64 0, .int .i64 0] HS9.out (by kernel_rfl) rfl (spot_one _ _) ?_)
        clear p0 p1
        generalize w9.setRow (g6 + 1) #[.int .i64 0, .int .i64 z] = W10 at *
        refine (decode_any (s.extract 0 n) W10 (by rw [ByteArray.size_extract]; have := HZ.out; omega)).mono ?_
        rintro e w11 ⟨A11, c11, rfl, -, hb11⟩
        have HS11 := Lib.hid (cell_block HS10.out hb11); have HB11 := Lib.hid (below_then HB10.out hb11 (Nat.le_refl _))
        have hy3 := HCU.out n HNS.out
        clear hb11 HS10 HB10 HCU
        generalize (decode (s.extract 0 n)).1 = x11 at *
        generalize (decode (s.extract 0 n)).2.1 = y3 at *
        generalize (decode (s.extract 0 n)).2.2 = z3 at *
        have hy4 : ((y3 : Int) != 0) = true := by rw [bne_iff_ne]; omega
        have hS := setRow_heap _ _ _ #[.int .i64 y3, .int .i64 z3] _ _ HS11.out
        obtain ⟨p0, p1⟩ := spot_cells hS
        have HB12 := Lib.hid (HB11.out.trans (below_setRow w11 (g6 + 1) #[.int .i64 y3, .int .i64 z3] (by have := HLO.out; omega)))
        clear hS HB11
        go_wp2_with (refine wpList_store_row rfl TSp (.tmp 14) (.tmp 96) rfl (g6 + 1) #[.int .i64 y3, .int .i64 z3] rfl rfl TSp #[.int .i64 0, .int .i64 z] HS11.out (by kernel_rfl) rfl (spot_one _ _) ?_)
        go_ret
        exact ⟨rfl, HB12.out⟩
      · have hy := HMO'.out hmm
        subst hy
        have hem := nonempty_str hmm
        clear HME' HMO' hmm
        have hS := setRow_heap _ _ _ #[.int .i64 7, .int .i64 z] _ _ HS9.out
        obtain ⟨p0, p1⟩ := spot_cells hS
        have HS10 := Lib.hid hS
        have HB10 := Lib.hid (HB9.out.trans (below_setRow w9 (g6 + 1) #[.int .i64 7, .int .i64 z] (by have := HLO.out; omega)))
        clear hS HB9
        by_cases hc1 : cut < 0
        · go_wp2_with (refine wpList_store_row rfl TSp (.tmp 14) (.tmp 75) rfl (g6 + 1) #[.int .i64 7, .int .i64 z] rfl rfl TSp #[.int .i64 0, .int .i64 0] HS9.out (by kernel_rfl) rfl (spot_one _ _) ?_)
          go_ret
          exact ⟨rfl, HB10.out⟩
        by_cases hc2 : (s.size : Int) ≤ cut
        · go_wp2_with (refine wpList_store_row rfl TSp (.tmp 14) (.tmp 75) rfl (g6 + 1) #[.int .i64 7, .int .i64 z] rfl rfl TSp #[.int .i64 0, .int .i64 0] HS9.out (by kernel_rfl) rfl (spot_one _ _) ?_)
          go_ret
          exact ⟨rfl, HB10.out⟩
        obtain ⟨n, rfl⟩ : ∃ n : Nat, cut = n := ⟨cut.toNat, by omega⟩
        have hns : n < s.size := by omega
        have hcl : (n : Int) < s.size := by omega
        have hc0 : (0 : Int) ≤ n := by omega
        have HNS := Lib.hid hns
        clear hc1 hc2 hns
        go_wp2_with (refine wpList_store_row rfl TSp (.tmp 14) (.tmp 75) rfl (g6 + 1) #[.int .i64 7, .int .i64 z] rfl rfl TSp #[.int .i64 0, .int .i64 0] HS9.out (by kernel_rfl) rfl (spot_one _ _) ?_)
        clear p0 p1
        generalize w9.setRow (g6 + 1) #[.int .i64 7, .int .i64 z] = W10 at *
        refine (decode_any (s.extract 0 n) W10 (by rw [ByteArray.size_extract]; have := HZ.out; omega)).mono ?_
        rintro e w11 ⟨A11, c11, rfl, -, hb11⟩
        have HS11 := Lib.hid (cell_block HS10.out hb11); have HB11 := Lib.hid (below_then HB10.out hb11 (Nat.le_refl _))
        have hy3 := HCU.out n HNS.out
        clear hb11 HS10 HB10 HCU
        generalize (decode (s.extract 0 n)).1 = x11 at *
        generalize (decode (s.extract 0 n)).2.1 = y3 at *
        generalize (decode (s.extract 0 n)).2.2 = z3 at *
        have hy4 : ((y3 : Int) != 0) = true := by rw [bne_iff_ne]; omega
        have hS := setRow_heap _ _ _ #[.int .i64 y3, .int .i64 z3] _ _ HS11.out
        obtain ⟨p0, p1⟩ := spot_cells hS
        have HB12 := Lib.hid (HB11.out.trans (below_setRow w11 (g6 + 1) #[.int .i64 y3, .int .i64 z3] (by have := HLO.out; omega)))
        clear hS HB11
        go_wp2_with (refine wpList_store_row rfl TSp (.tmp 14) (.tmp 96) rfl (g6 + 1) #[.int .i64 y3, .int .i64 z3] rfl rfl TSp #[.int .i64 7, .int .i64 z] HS11.out (by kernel_rfl) rfl (spot_one _ _) ?_)
        go_ret
        exact ⟨rfl, HB12.out⟩
  · have hf1 : (f : Int) ≠ 0 := by omega
    obtain rfl := HFN.out hf0
    go_wp2_with fail
    go_ret
    exact ⟨rfl, HB5.out⟩

end Go.Proofs.Ytbapifbahhjfgaa
