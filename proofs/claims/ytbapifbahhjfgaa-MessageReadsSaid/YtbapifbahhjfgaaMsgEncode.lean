/- message.Encode: a message's bytes. -/
import Derived.Test.YtbapifbahhjfgaaMsgForm
import Derived.Test.YtbapifbahhjfgaaBuf
import Derived.Deep.RegionHeld3
namespace Go.Proofs.Ytbapifbahhjfgaa
open Go.RowKit

/-- 'append(b, s...)' at one operation -/
theorem wp_append_obuf {P : Program} {w : World} {o : Oper} {a : Act} {next : Act → World → Prop} {Q : Exit → Act → World → Prop} (sl x : Operand) (t u : TypeId)
    (ho : o.op = .call { callee := .builtin .append, args := #[sl, x], argTypes := #[t, u] })
    (base : Nat) (i : TypeInfo) (ht : P.underlying t = some (.slice 5)) (hu : P.underlying u = some .string) (hi : P.info? 5 = some i) (hz : i.zero = some (.int .u8 0))
    (hsize : i.size = 1) (hby : i.bytes = 1)
    (v : Value) (l : List UInt8) (hs : a.eval sl = v) (hown : OBuf w base v l) (s : ByteArray) (hx : a.eval x = .string s)
    (hbytes : l.length + s.size ≤ 140737488355328) (hbase : base ≤ w.heap.size)
    (h : ∀ v' w', OBuf w' base v' (l ++ s.data.toList) → w.grownBy w' v.ownBlock → next (a.put o.dst v') w') : Oper.wp P o a w next Q := by
  obtain ⟨v', w', hr, h2, h3⟩ := run_append_obuf (P := P) w base t u o.type i ht hu hi hz hsize hby v l hown s hbytes hbase
  unfold Oper.wp execOp
  simp only [ho, resolve, invoke, builtin, Sem.run_bind, Sem.run_pure, Result.andThen_ok, List.map_toArray, List.map_cons, List.map_nil, hs, hx, hr]
  exact h v' w' h2 h3

theorem MB.grown {w w' : World} {g : Nat} {m : Msg} {A : Value} {row : Option Nat} (h : MB w g m A) (hg : w.grownBy w' row) (hne : some g ≠ row) : MB w' g m A := (hg.block g (lt_of_block h) hne).trans h

/-- what Encode gives back -/
def Msg.out (m : Msg) : Value := if m.check = 0 then .tuple #[.string (bs m.form), .int .i64 0] else .tuple #[.string ⟨#[]⟩, .int .i64 (m.check : Nat)]

set_option maxRecDepth 100000 in
set_option maxHeartbeats 16000000 in
theorem encode_any (m : Msg) (A : Option Addr) (c : Nat) (w : World) (ha : EArg w w.heap.size A m.ents) (hn : m.ents.length ≤ 9223372036854775807) (hk : m.kind < 256) (ho : m.op < 256) :
    Calls Try.prog 13 #[m.val (.slice A m.ents.length c)] w fun e w' => e = .returned m.out ∧ Below w.heap.size w w' := by
  obtain ⟨i0, hi0, hz0, hz1, hz2⟩ := info_u8'
  have hm0 := heap_alloc_new w (.cells (m.cells (.slice A m.ents.length c)).toArray TM)
  have hM : MB (w.alloc (.cells (m.cells (.slice A m.ents.length c)).toArray TM)) w.heap.size m (.slice A m.ents.length c) := hm0
  have hB0 := below_new w (.cells (m.cells (.slice A m.ents.length c)).toArray TM)
  have HCK := Lib.hid (check_any m A c (w.alloc (.cells (m.cells (.slice A m.ents.length c)).toArray TM)) (ha.on hB0) hn hk)
  have HM := Lib.hid hM; have HB0 := Lib.hid hB0; have HA := Lib.hid ha
  have hg0 : (w.alloc (.cells (m.cells (.slice A m.ents.length c)).toArray TM)).heap[w.heap.size]? = some (.cells (m.cells (.slice A m.ents.length c)).toArray TM (0, 0)) := hm0
  have H0 := Lib.hid hg0
  clear hM hm0 hB0 ha hg0
  simp only [Msg.val, Msg.cells] at H0 HCK ⊢
  go_enter Try.func13, Try.ntmps13
  go_wp2_with (refine wpList_load_row rfl TM (.tmp 1) rfl w.heap.size rfl TM _ (0, 0) _ H0.out Try.underlying28 rfl (by kernel_rfl) ?_)
  refine HCK.out.mono ?_
  rintro e w1 ⟨rfl, hb1⟩
  have HM1 := Lib.hid (MB.below HM.out hb1)
  have HB1 := Lib.hid (below_then HB0.out hb1 (Nat.le_refl _))
  clear hb1 HM HB0 H0 HCK
  obtain ⟨g, hg⟩ : ∃ g, w.heap.size = g := ⟨_, rfl⟩
  have HG := Lib.hid hg
  rw [hg] at HM1 ⊢
  clear hg
  generalize Value.agg #[.int .u8 m.kind, .int .i64 (m.n 0), .int .i64 (m.n 1), .int .i64 (m.n 2), .int .i64 (m.n 3), .int .i64 (m.n 4), .int .i64 (m.n 5), .int .i64 (m.n 6), .bool m.good, .slice A m.ents.length c, .int .i64 (m.n 7), .int .i64 (m.n 8), .string m.data, .int .i64 (m.n 9), .int .i64 (m.n 10), .int .i64 (m.n 11), .int .i64 (m.n 12), .int .i64 (m.n 13), .int .i64 (m.n 14), .int .u8 m.op, .int .i64 m.err, .int .i64 m.leader] = V
  by_cases hc : m.check = 0
  · have hok := check_ok m hc
    have hout : m.out = .tuple #[.string (bs m.form), .int .i64 0] := by unfold Msg.out; rw [if_pos hc]
    rw [hc]
    have c0 := HM1.out.cell 0 _ rfl
    have hconv := fun w s => Lib.run_convert_string_bytes (P := Try.prog) w 9 43 5 s Try.underlying9 Try.underlying43 Try.underlying5
    have HOK := Lib.hid hok; have HOUT := Lib.hid hout
    clear hc hok hout
    go_wp2_with fail
    refine (wireU8_any _ _ (by omega) (by omega)).mono ?_
    rintro e w2 ⟨rfl, hb2⟩
    simp only [Int.toNat_natCast]
    have HM2 := Lib.hid (MB.below HM1.out hb2)
    have HB2 := Lib.hid (below_then HB1.out hb2 (Nat.le_refl _))
    clear hb2 HM1 HB1 c0
    go_wp2_with fail
    have hgw : g + 1 ≤ w2.heap.size := by have := lt_of_block HM2.out; omega
    have ho1 := OBuf.new (base := g + 1) w2 (bs (WM.be 1 m.kind)) hgw
    rw [bs_list] at ho1
    have hbW := HB2.out.trans ((below_bytesWorld w2 (bs (WM.be 1 m.kind))).mono HB2.out.size)
    have hmW := MB.below HM2.out (below_bytesWorld w2 (bs (WM.be 1 m.kind)))
    generalize Lib.bytesWorld w2 5 (bs (WM.be 1 m.kind)) = W at ho1 hbW hmW ⊢
    generalize (Value.slice (some ⟨w2.heap.size, 0, none⟩) (bs (WM.be 1 m.kind)).size (grownCap w2 (bs (WM.be 1 m.kind)).size 0 5)) = v0 at ho1 ⊢
    clear hconv HM2 HB2 hgw
    refine (numbers_any _ _).mono ?_
    rintro e w3 ⟨rfl, hb3⟩
    have HM3 := Lib.hid (MB.below hmW hb3)
    have HB3 := Lib.hid (below_then hbW hb3 (Nat.le_refl _))
    have HO3 := Lib.hid (OBuf.below ho1 hb3)
    clear hb3 hmW hbW ho1
    obtain ⟨pa, hpa⟩ : ∃ pa, ptrs g = pa := ⟨_, rfl⟩
    have HPA := Lib.hid hpa
    rw [hpa]
    clear hpa
    go_wp2_with fail
    go_loopw [5, 24] (fun v i wr => ∃ k : Nat, k ≤ 15 ∧ i = .int .i64 k ∧ Hid (OBuf wr (g + 1) v (WM.be 1 m.kind ++ nsForm m k)) ∧ Hid (Below w.heap.size w wr) ∧ Hid (MB wr g m (.slice A m.ents.length c))) (fun _ i _ => 15 - (intOf i).toNat)
    case atStart => exact ⟨0, by omega, rfl, Lib.hid (by simpa [nsForm] using HO3.out), HB3, HM3⟩
    case round =>
      obtain ⟨k, hk15, rfl, HO, HB, HMk⟩ := hrel
      by_cases hlt : k < 15
      · have hidx := ptr_at g k hlt
        rw [HPA.out] at hidx
        have hcell := num_cell HMk.out k hlt
        have hlt2 : (k : Int) < 15 := by omega
        obtain ⟨hx0, hx1⟩ := HOK.out.n k hlt
        have hsn := nsForm_succ m k
        have hln := nsForm_len m k
        have hgz := lt_of_block HMk.out
        generalize offs.getD k 0 = o at *
        generalize m.n k = x at *
        have hwx : IntKind.u64.wrap x = x := IntWalk.u64_in _ (by omega)
        have HSN := Lib.hid hsn
        have hl2 : (WM.be 1 m.kind ++ nsForm m k).length ≤ 200 := by rw [List.length_append, WM.be_len]; omega
        clear hsn hln HM3 HB3 HO3
        go_wp2_with fail
        refine (wireU64_any x _ hx0 (by omega)).mono ?_
        rintro e w4 ⟨rfl, hb4⟩
        have hO4 := OBuf.below HO.out hb4
        have HM4 := Lib.hid (MB.below HMk.out hb4)
        have hB4 := below_then HB.out hb4 (Nat.le_refl _)
        have hg4 : g + 1 ≤ w4.heap.size := by have := hb4.size; omega
        have HB4 := Lib.hid hB4
        have hz8 := bs_size (WM.be 8 x.toNat)
        rw [WM.be_len] at hz8
        have HZ8 := Lib.hid hz8
        clear hb4 hB4 hz8 HO HMk HB hwx hidx hcell
        go_wp2_with (at_builtin; refine wpList_append_obuf rfl (.tmp 27) (.tmp 32) 43 9 rfl (g + 1) i0 Try.underlying43 Try.underlying9 hi0 hz0 hz1 hz2 u5 _ rfl hO4 (bs (WM.be 8 x.toNat)) rfl (by rw [HZ8.out]; omega) hg4 ?_; intro v5 w5 ho5 hg5)
        have hne5 : some g ≠ u5.ownBlock := fun e => by have := (OBuf.lt hO4 g e.symm).1; omega
        refine ⟨⟨k + 1, by omega, by go_num, ?_, Lib.hid (HB4.out.grown hg5 HB4.out.size (fun j e => by have := (OBuf.lt hO4 j e).1; have := HG.out; omega)), Lib.hid (MB.grown HM4.out hg5 hne5)⟩, by simp [intOf]; omega⟩
        rw [HSN.out, ← List.append_assoc]
        rw [bs_list] at ho5
        exact Lib.hid ho5
      · obtain rfl : k = 15 := by omega
        have hge : ¬ (((15 : Nat) : Int) < 15) := by omega
        clear hlt hk15 HM3 HB3 HO3
        have hgz := lt_of_block HMk.out
        have hok := HOK.out
        have q1 := hok.err
        have q2 := hok.leader
        have hwe : IntKind.u32.wrap m.err = m.err := IntWalk.u32_in _ (by omega)
        have hwl : IntKind.u8.wrap m.leader = m.leader := IntWalk.u8_in _ (by omega)
        clear hok
        go_wp2_with fail
        have HMd : Hid (MB wr.drew g m (.slice A m.ents.length c)) := HMk
        have HOd : Hid (OBuf wr.drew (g + 1) u5 (WM.be 1 m.kind ++ nsForm m 15)) := HO
        have HBd : Hid (Below w.heap.size w wr.drew) := Lib.hid HB.out.drew
        clear HMk HO HB
        obtain ⟨gb, hgb⟩ : ∃ gb : Nat, (if m.good = true then 1 else 0) = gb := ⟨_, rfl⟩
        have HGB := Lib.hid hgb
        clear hgb
        have e1 := bs_size (WM.be 1 gb)
        have e2 := bs_size (WM.be 1 m.op)
        have e3 := bs_size (WM.be 4 m.err.toNat)
        have e4 := bs_size (WM.be 1 m.leader.toNat)
        rw [WM.be_len] at e1 e2 e3 e4
        refine wp_region_any (by kernel_rfl) ?_
        change wpAny _ _ _ _ _ _ _ wr.drew
        refine wpAny_of_held (S := (fun w' => w'.cell? ⟨g, 8, none⟩ = some (.bool m.good) ∧ w'.cell? ⟨g, 19, none⟩ = some (.int .u8 m.op) ∧ w'.cell? ⟨g, 20, none⟩ = some (.int .i64 m.err) ∧ w'.cell? ⟨g, 21, none⟩ = some (.int .i64 m.leader))) _ _ _ _ ?_
        have hHeld := (show wr.drew.cell? ⟨g, 8, none⟩ = some (.bool m.good) ∧ wr.drew.cell? ⟨g, 19, none⟩ = some (.int .u8 m.op) ∧ wr.drew.cell? ⟨g, 20, none⟩ = some (.int .i64 m.err) ∧ wr.drew.cell? ⟨g, 21, none⟩ = some (.int .i64 m.leader) from ⟨HMd.out.cell 8 _ rfl, HMd.out.cell 19 _ rfl, HMd.out.cell 20 _ rfl, HMd.out.cell 21 _ rfl⟩)
        refine wpAnyH_take (i := 0) (v := ?_) (by simp only [List.getElem?_toArray, List.getElem?_cons_succ, List.getElem?_cons_zero]; rfl) (by kernel_rfl) (by kernel_rfl) (by kernel_rfl) (by exact fun _ _ _ h => h) (Or.inl ⟨by rfl, ?_⟩) (by assumption) ?_
        rotate_left
        · (intro w hSw; (try clear hHeld); (try dsimp only at hSw); (try go_split_ands); go_simp)
          try with_reducible rfl
        try simp only [Act.put, List.setIfInBounds_toArray, List.set_cons_zero, List.set_cons_succ]
        refine wpAnyH_take (i := 1) (v := ?_) (by simp only [List.getElem?_toArray, List.getElem?_cons_succ, List.getElem?_cons_zero]; rfl) (by kernel_rfl) (by kernel_rfl) (by kernel_rfl) (by exact fun _ _ _ h => h) (Or.inl ⟨by rfl, ?_⟩) (by assumption) ?_
        rotate_left
        · (intro w hSw; (try clear hHeld); (try dsimp only at hSw); (try go_split_ands); go_simp)
          try with_reducible rfl
        try simp only [Act.put, List.setIfInBounds_toArray, List.set_cons_zero, List.set_cons_succ]
        refine wpAnyH_take (i := 2) (v := ?_) (by simp only [List.getElem?_toArray, List.getElem?_cons_succ, List.getElem?_cons_zero]; rfl) (by kernel_rfl) (by kernel_rfl) (by kernel_rfl) (by exact fun _ _ _ h => h) (Or.inl ⟨by rfl, ?_⟩) (by assumption) ?_
        rotate_left
        · (intro w hSw; (try clear hHeld); (try dsimp only at hSw); (try go_split_ands); go_simp)
          try with_reducible rfl
        try simp only [Act.put, List.setIfInBounds_toArray, List.set_cons_zero, List.set_cons_succ]
        refine wpAnyH_take (i := 4) (v := ?_) (by simp only [List.getElem?_toArray, List.getElem?_cons_succ, List.getElem?_cons_zero]; rfl) (by kernel_rfl) (by kernel_rfl) (by kernel_rfl) (by exact fun _ _ _ h => h) (Or.inl ⟨by rfl, ?_⟩) (by assumption) ?_
        rotate_left
        · (intro w hSw; (try clear hHeld); (try dsimp only at hSw); (try go_split_ands); go_simp)
          try with_reducible rfl
        try simp only [Act.put, List.setIfInBounds_toArray, List.set_cons_zero, List.set_cons_succ]
        refine wpAnyH_take (i := 5) (v := ?_) (by simp only [List.getElem?_toArray, List.getElem?_cons_succ, List.getElem?_cons_zero]; rfl) (by kernel_rfl) (by kernel_rfl) (by kernel_rfl) (by exact fun _ _ _ h => h) (Or.inl ⟨by rfl, ?_⟩) (by assumption) ?_
        rotate_left
        · (intro w hSw; (try clear hHeld); (try dsimp only at hSw); (try go_split_ands); go_simp)
          try with_reducible rfl
        try simp only [Act.put, List.setIfInBounds_toArray, List.set_cons_zero, List.set_cons_succ]
        refine wpAnyH_take (i := 8) (v := ?_) (by simp only [List.getElem?_toArray, List.getElem?_cons_succ, List.getElem?_cons_zero]; rfl) (by kernel_rfl) (by kernel_rfl) (by kernel_rfl) (by exact fun _ _ _ h => h) (Or.inl ⟨by rfl, ?_⟩) (by assumption) ?_
        rotate_left
        · (intro w hSw; (try clear hHeld); (try dsimp only at hSw); (try go_split_ands); go_simp)
          try with_reducible rfl
        try simp only [Act.put, List.setIfInBounds_toArray, List.set_cons_zero, List.set_cons_succ]
        refine wpAnyH_take (i := 9) (v := ?_) (by simp only [List.getElem?_toArray, List.getElem?_cons_succ, List.getElem?_cons_zero]; rfl) (by kernel_rfl) (by kernel_rfl) (by kernel_rfl) (by exact fun _ _ _ h => h) (Or.inl ⟨by rfl, ?_⟩) (by assumption) ?_
        rotate_left
        · (intro w hSw; (try clear hHeld); (try dsimp only at hSw); (try go_split_ands); go_simp)
          try with_reducible rfl
        try simp only [Act.put, List.setIfInBounds_toArray, List.set_cons_zero, List.set_cons_succ]
        refine wpAnyH_take (i := 10) (v := ?_) (by simp only [List.getElem?_toArray, List.getElem?_cons_succ, List.getElem?_cons_zero]; rfl) (by kernel_rfl) (by kernel_rfl) (by kernel_rfl) (by exact fun _ _ _ h => h) (Or.inl ⟨by rfl, ?_⟩) (by assumption) ?_
        rotate_left
        · (intro w hSw; (try clear hHeld); (try dsimp only at hSw); (try go_split_ands); go_simp)
          try with_reducible rfl
        try simp only [Act.put, List.setIfInBounds_toArray, List.set_cons_zero, List.set_cons_succ]
        refine wpAnyH_take (i := 13) (v := ?_) (by simp only [List.getElem?_toArray, List.getElem?_cons_succ, List.getElem?_cons_zero]; rfl) (by kernel_rfl) (by kernel_rfl) (by kernel_rfl) (by exact fun _ _ _ h => h) (Or.inl ⟨by rfl, ?_⟩) (by assumption) ?_
        rotate_left
        · (intro w hSw; (try clear hHeld); (try dsimp only at hSw); (try go_split_ands); go_simp)
          try with_reducible rfl
        try simp only [Act.put, List.setIfInBounds_toArray, List.set_cons_zero, List.set_cons_succ]
        refine wpAnyH_take (i := 14) (v := ?_) (by simp only [List.getElem?_toArray, List.getElem?_cons_succ, List.getElem?_cons_zero]; rfl) (by kernel_rfl) (by kernel_rfl) (by kernel_rfl) (by exact fun _ _ _ h => h) (Or.inl ⟨by rfl, ?_⟩) (by assumption) ?_
        rotate_left
        · (intro w hSw; (try clear hHeld); (try dsimp only at hSw); (try go_split_ands); go_simp)
          try with_reducible rfl
        try simp only [Act.put, List.setIfInBounds_toArray, List.set_cons_zero, List.set_cons_succ]
        refine wpAnyH_take (i := 15) (v := ?_) (by simp only [List.getElem?_toArray, List.getElem?_cons_succ, List.getElem?_cons_zero]; rfl) (by kernel_rfl) (by kernel_rfl) (by kernel_rfl) (by exact fun _ _ _ h => h) (Or.inl ⟨by rfl, ?_⟩) (by assumption) ?_
        rotate_left
        · (intro w hSw; (try clear hHeld); (try dsimp only at hSw); (try go_split_ands); go_simp)
          try with_reducible rfl
        try simp only [Act.put, List.setIfInBounds_toArray, List.set_cons_zero, List.set_cons_succ]
        refine wpAnyH_ready (rs := [3]) (by kernel_rfl) (by simp) ?_
        refine AllReadyH.cons (by simp only [List.getElem?_toArray, List.getElem?_cons_succ, List.getElem?_cons_zero]; rfl) (fun K hK => ?_) AllReadyH.nil
        go_simp
        refine (wireBool_any _ _).mono ?_
        rintro e w6 ⟨rfl, hb6⟩
        rw [HGB.out]
        have HM6 := Lib.hid (MB.below HMd.out hb6)
        have HO6 := Lib.hid (OBuf.below HOd.out hb6)
        have HB6 := Lib.hid (below_then HBd.out hb6 (Nat.le_refl _))
        clear hb6
        simp only [Int.toNat_natCast]
        refine hK.out _ _ ⟨HM6.out.cell 8 _ rfl, HM6.out.cell 19 _ rfl, HM6.out.cell 20 _ rfl, HM6.out.cell 21 _ rfl⟩ (fun hHeld => ?_)
        clear hK K
        try simp only [Act.put, List.setIfInBounds_toArray, List.set_cons_zero, List.set_cons_succ]
        refine wpAnyH_ready (rs := [6]) (by kernel_rfl) (by simp) ?_
        refine AllReadyH.cons (by simp only [List.getElem?_toArray, List.getElem?_cons_succ, List.getElem?_cons_zero]; rfl) (fun K hK => ?_) AllReadyH.nil
        go_simp
        refine (wireU8_any _ _ (by omega) (by omega)).mono ?_
        rintro e w7 ⟨rfl, hb7⟩
        have HM7 := Lib.hid (MB.below HM6.out hb7)
        have HO7 := Lib.hid (OBuf.below HO6.out hb7)
        have HB7 := Lib.hid (below_then HB6.out hb7 (Nat.le_refl _))
        clear hb7
        simp only [Int.toNat_natCast]
        refine hK.out _ _ ⟨HM7.out.cell 8 _ rfl, HM7.out.cell 19 _ rfl, HM7.out.cell 20 _ rfl, HM7.out.cell 21 _ rfl⟩ (fun hHeld => ?_)
        clear hK K
        try simp only [Act.put, List.setIfInBounds_toArray, List.set_cons_zero, List.set_cons_succ]
        refine wpAnyH_take (i := 7) (v := ?_) (by simp only [List.getElem?_toArray, List.getElem?_cons_succ, List.getElem?_cons_zero]; rfl) (by kernel_rfl) (by kernel_rfl) (by kernel_rfl) (by exact fun _ _ _ h => h) (Or.inl ⟨by rfl, ?_⟩) (by assumption) ?_
        rotate_left
        · (intro w hSw; (try clear hHeld); (try dsimp only at hSw); (try go_split_ands); go_simp)
          try with_reducible rfl
        try simp only [Act.put, List.setIfInBounds_toArray, List.set_cons_zero, List.set_cons_succ]
        refine wpAnyH_ready (rs := [11]) (by kernel_rfl) (by simp) ?_
        refine AllReadyH.cons (by simp only [List.getElem?_toArray, List.getElem?_cons_succ, List.getElem?_cons_zero]; rfl) (fun K hK => ?_) AllReadyH.nil
        go_simp
        refine (wireU32_any _ _ (by omega) (by omega)).mono ?_
        rintro e w8 ⟨rfl, hb8⟩
        have HM8 := Lib.hid (MB.below HM7.out hb8)
        have HO8 := Lib.hid (OBuf.below HO7.out hb8)
        have HB8 := Lib.hid (below_then HB7.out hb8 (Nat.le_refl _))
        clear hb8
        simp only [Int.toNat_natCast]
        refine hK.out _ _ ⟨HM8.out.cell 8 _ rfl, HM8.out.cell 19 _ rfl, HM8.out.cell 20 _ rfl, HM8.out.cell 21 _ rfl⟩ (fun hHeld => ?_)
        clear hK K
        try simp only [Act.put, List.setIfInBounds_toArray, List.set_cons_zero, List.set_cons_succ]
        refine wpAnyH_take (i := 12) (v := ?_) (by simp only [List.getElem?_toArray, List.getElem?_cons_succ, List.getElem?_cons_zero]; rfl) (by kernel_rfl) (by kernel_rfl) (by kernel_rfl) (by exact fun _ _ _ h => h) (Or.inl ⟨by rfl, ?_⟩) (by assumption) ?_
        rotate_left
        · (intro w hSw; (try clear hHeld); (try dsimp only at hSw); (try go_split_ands); go_simp)
          try with_reducible rfl
        try simp only [Act.put, List.setIfInBounds_toArray, List.set_cons_zero, List.set_cons_succ]
        refine wpAnyH_ready (rs := [16]) (by kernel_rfl) (by simp) ?_
        refine AllReadyH.cons (by simp only [List.getElem?_toArray, List.getElem?_cons_succ, List.getElem?_cons_zero]; rfl) (fun K hK => ?_) AllReadyH.nil
        go_simp
        refine (wireU8_any _ _ (by omega) (by omega)).mono ?_
        rintro e w9 ⟨rfl, hb9⟩
        have HM9 := Lib.hid (MB.below HM8.out hb9)
        have HO9 := Lib.hid (OBuf.below HO8.out hb9)
        have HB9 := Lib.hid (below_then HB8.out hb9 (Nat.le_refl _))
        clear hb9
        simp only [Int.toNat_natCast]
        refine hK.out _ _ ⟨HM9.out.cell 8 _ rfl, HM9.out.cell 19 _ rfl, HM9.out.cell 20 _ rfl, HM9.out.cell 21 _ rfl⟩ (fun hHeld => ?_)
        clear hK K
        try simp only [Act.put, List.setIfInBounds_toArray, List.set_cons_zero, List.set_cons_succ]
        refine wpAnyH_take (i := 17) (v := ?_) (by simp only [List.getElem?_toArray, List.getElem?_cons_succ, List.getElem?_cons_zero]; rfl) (by kernel_rfl) (by kernel_rfl) (by kernel_rfl) (by exact fun _ _ _ h => h) (Or.inl ⟨by rfl, ?_⟩) (by assumption) ?_
        rotate_left
        · (intro w hSw; (try clear hHeld); (try dsimp only at hSw); (try go_split_ands); go_simp)
          try with_reducible rfl
        try simp only [Act.put, List.setIfInBounds_toArray, List.set_cons_zero, List.set_cons_succ]
        have hg9 : g + 1 ≤ w9.heap.size := lt_of_block HM9.out
        have hl15 := nsForm_len m 15
        refine wpAnyH_ready (rs := [18]) (by kernel_rfl) (by simp) ?_
        refine AllReadyH.cons (by simp only [List.getElem?_toArray, List.getElem?_cons_succ, List.getElem?_cons_zero]; rfl) (fun K hK => ?_) AllReadyH.nil
        rw [if_pos (by rfl)]
        refine wp_append_obuf (.tmp 35) (.tmp 52) 43 9 rfl (g + 1) i0 Try.underlying43 Try.underlying9 hi0 hz0 hz1 hz2 u5 _ rfl HO9.out _ rfl (by simp only [ByteArray.size_append, e1, e2, e3, e4, List.length_append, WM.be_len, hl15]; omega) hg9 ?_
        intro v5 w10 ho10 hg10
        have hne10 : some g ≠ u5.ownBlock := (fun e => by have := (OBuf.lt HO9.out g e.symm).1; omega)
        have HM10 := Lib.hid (MB.grown HM9.out hg10 hne10)
        have HB10 := Lib.hid (HB9.out.grown hg10 HB9.out.size (fun j e => by have := (OBuf.lt HO9.out j e).1; have := HG.out; omega))
        rw [bs_append, bs_append, bs_append, bs_list, ← HGB.out] at ho10
        have HO10 : Hid (OBuf w10 (g + 1) v5 (WM.be 1 m.kind ++ nsForm m 15 ++ midForm m)) := Lib.hid ho10
        clear hg10 ho10
        refine hK.out _ _ ⟨HM10.out.cell 8 _ rfl, HM10.out.cell 19 _ rfl, HM10.out.cell 20 _ rfl, HM10.out.cell 21 _ rfl⟩ (fun hHeld => ?_)
        clear hK K
        try simp only [Act.put, List.setIfInBounds_toArray, List.set_cons_zero, List.set_cons_succ]
        refine wpAnyH_take (i := 19) (v := ?_) (by simp only [List.getElem?_toArray, List.getElem?_cons_succ, List.getElem?_cons_zero]; rfl) (by kernel_rfl) (by kernel_rfl) (by kernel_rfl) (by exact fun _ _ _ h => h) (Or.inl ⟨by rfl, ?_⟩) (by assumption) ?_
        rotate_left
        · (intro w hSw; (try clear hHeld); (try dsimp only at hSw); (try go_split_ands); go_simp)
          try with_reducible rfl
        try simp only [Act.put, List.setIfInBounds_toArray, List.set_cons_zero, List.set_cons_succ]
        refine wpAnyH_done (by kernel_rfl) ?_ _
        clear hHeld e1 e2 e3 e4 hwe hwl HO9 HM9 HB9 HO8 HM8 HB8 HO7 HM7 HB7 HO6 HM6 HB6 HOd HMd HBd
        have c12 := HM10.out.cell 12 _ rfl
        have hd := HOK.out.data
        have hne := HOK.out.ents
        have hm7 := midForm_len m
        have hll : (WM.be 1 m.kind ++ nsForm m 15 ++ midForm m).length = 128 := by simp only [List.length_append, WM.be_len, hl15, hm7]
        have HL := Lib.hid hll
        clear hl15 hm7 hll q1 q2 hgz hge hg9
        go_wp2_with fail
        refine (wireText_any _ _ (by omega)).mono ?_
        rintro e w11 ⟨rfl, hb11⟩
        have HM11 := Lib.hid (MB.below HM10.out hb11)
        have HO11 := Lib.hid (OBuf.below HO10.out hb11)
        have HB11 := Lib.hid (below_then HB10.out hb11 (Nat.le_refl _))
        clear hb11 HM10 HO10 HB10 c12
        have c9 := HM11.out.cell 9 _ rfl
        have hwn : IntKind.u8.wrap (m.ents.length : Int) = m.ents.length := IntWalk.u8_in _ (by omega)
        have et := bs_size (WM.text m.data.data.toList)
        rw [text_len] at et
        obtain ⟨T, hT⟩ : ∃ T, bs (WM.text m.data.data.toList) = T := ⟨_, rfl⟩
        rw [hT] at et
        simp only [hT]
        have HT := Lib.hid hT
        clear hT
        have et2 : T.size ≤ 3504 := by omega
        have et3 : T.size + 1 ≤ 9223372036854775807 := by omega
        clear et
        go_wp2_with fail
        refine (wireU8_any _ _ (by omega) (by omega)).mono ?_
        rintro e w12 ⟨rfl, hb12⟩
        simp only [Int.toNat_natCast]
        have HM12 := Lib.hid (MB.below HM11.out hb12)
        have HO12 := Lib.hid (OBuf.below HO11.out hb12)
        have HB12 := Lib.hid (below_then HB11.out hb12 (Nat.le_refl _))
        clear hb12 HM11 HO11 HB11 c9
        have en := bs_size (WM.be 1 m.ents.length)
        rw [WM.be_len] at en
        have hg12 : g + 1 ≤ w12.heap.size := lt_of_block HM12.out
        have hO12 := HO12.out
        go_wp2_with (at_builtin; refine wpList_append_obuf rfl (.tmp 60) (.tmp 67) 43 9 rfl (g + 1) i0 Try.underlying43 Try.underlying9 hi0 hz0 hz1 hz2 v5 _ rfl hO12 _ rfl (by rw [HL.out, ByteArray.size_append, en]; omega) hg12 ?_; intro v13 w13 ho13 hg13; have hne13 : some g ≠ v5.ownBlock := (fun e => by have := (OBuf.lt hO12 g e.symm).1; omega); have HM13 := Lib.hid (MB.grown HM12.out hg13 hne13); have HB13 := Lib.hid (HB12.out.grown hg13 HB12.out.size (fun j e => by have := (OBuf.lt hO12 j e).1; have := HG.out; omega)); have c13 := HM13.out.cell 9 _ rfl)
        obtain ⟨H, hH⟩ : ∃ H, WM.be 1 m.kind ++ nsForm m 15 ++ midForm m ++ (T ++ bs (WM.be 1 m.ents.length)).data.toList = H := ⟨_, rfl⟩
        have hHf : m.form = H ++ esForm m.ents := by
          rw [← hH, ← HT.out, bs_append, bs_list]
          rfl
        have hHl : H.length ≤ 4000 := by
          rw [← hH, List.length_append, HL.out]
          have : (T ++ bs (WM.be 1 m.ents.length)).data.toList.length = (T ++ bs (WM.be 1 m.ents.length)).size := rfl
          rw [this, ByteArray.size_append, en]; omega
        rw [hH] at ho13
        have HO13 := Lib.hid ho13; have HHF := Lib.hid hHf
        clear hHeld ho13 hHf hH hg13 hO12 hne13 HO12 HM12 HB12 HL en hg12 c13 hwn HM13 HPA HGB
        go_loopw [5, 72] (fun v i wr => ∃ k : Nat, k ≤ m.ents.length ∧ i = .int .i64 k ∧ Hid (OBuf wr (g + 1) v (H ++ esForm (m.ents.take k))) ∧ Hid (Below w.heap.size w wr)) (fun _ i _ => m.ents.length - (intOf i).toNat)
        case atStart => exact ⟨0, by omega, rfl, Lib.hid (by simpa [esForm] using HO13.out), HB13⟩
        case round =>
          obtain ⟨k, hkl, rfl, HO, HB⟩ := hrel
          by_cases hlt : k < m.ents.length
          · obtain ⟨ad, hA, hadb, h1, h2⟩ := (HA.out.below HB.out (Nat.le_refl _)) k hlt
            obtain ⟨y0, y1, y2⟩ := HOK.out.each _ (List.getElem_mem hlt)
            have hsn := esForm_snoc m.ents k hlt
            have hen := esForm_len (m.ents.take k) (fun x hx => (HOK.out.each x (List.mem_of_mem_take hx)).2.2)
            rw [List.length_take] at hen
            subst hA
            have hlt2 : (k : Int) < m.ents.length := by omega
            have hgk : g + 1 ≤ wr.heap.size := by have := HB.out.size; have := HG.out; have hb := World.block_lt_of_cell? wr _ h1; obtain ⟨g0, _, _, _, e, hb2, hh, _⟩ := HO.out; have := lt_of_block hh; omega
            generalize m.ents[k] = en at *
            obtain ⟨t, d⟩ := en
            simp only [] at h1 h2 y0 y1 y2 hsn
            have hwt : IntKind.u64.wrap t = t := IntWalk.u64_in _ (by omega)
            have hz8 := bs_size (WM.be 8 t.toNat)
            rw [WM.be_len] at hz8
            have hzt := bs_size (WM.text d.data.toList)
            rw [text_len] at hzt
            obtain ⟨D, hD⟩ : ∃ D, bs (WM.text d.data.toList) = D := ⟨_, rfl⟩
            rw [hD] at hzt
            have HD := Lib.hid hD; have HZT := Lib.hid hzt
            have hz9 : 8 + D.size ≤ 9223372036854775807 := by omega
            have HSN := Lib.hid hsn
            have hlen : (H ++ esForm (m.ents.take k)).length ≤ 20000 := by rw [List.length_append]; omega
            clear hD hzt hsn hen HA
            go_wp2_with fail
            refine (wireText_any _ _ (by omega)).mono ?_
            rintro e w20 ⟨rfl, hb20⟩
            rw [HD.out]
            have hal := below_new wr (.cells #[.int .i64 t, .string d] TE)
            have HB20 := Lib.hid (below_then (below_then HB.out hal (Nat.le_refl _)) hb20 (Nat.le_refl _))
            have HO20 := Lib.hid (OBuf.below (OBuf.below HO.out hal) hb20)
            have hgk2 : g + 1 ≤ w20.heap.size := by have := Nat.le_trans hal.size hb20.size; omega
            have hct : w20.cell? ⟨wr.heap.size, 0, none⟩ = some (.int .i64 t) := (hb20.cell (p := ⟨wr.heap.size, 0, none⟩) (by show wr.heap.size < (wr.alloc _).heap.size; simp)).trans (cell_of_row _ _ 0 _ _ _ (heap_alloc_new wr _))
            clear hal hb20 HO HB h1 h2
            generalize wr.heap.size = q at hct ⊢
            go_wp2_with fail
            refine (wireU64_any t _ y0 (by omega)).mono ?_
            rintro e w21 ⟨rfl, hb21⟩
            have HB21 := Lib.hid (below_then HB20.out hb21 (Nat.le_refl _))
            have hO21 := OBuf.below HO20.out hb21
            have hg21 : g + 1 ≤ w21.heap.size := by have := hb21.size; omega
            clear hb21 HB20 HO20 hct
            go_wp2_with (at_builtin; refine wpList_append_obuf rfl (.tmp 82) (.tmp 88) 43 9 rfl (g + 1) i0 Try.underlying43 Try.underlying9 hi0 hz0 hz1 hz2 u5 _ rfl hO21 _ rfl (by rw [ByteArray.size_append, hz8, HZT.out]; omega) hg21 ?_; intro v22 w22 ho22 hg22)
            refine ⟨⟨k + 1, by omega, by go_num, ?_, Lib.hid (HB21.out.grown hg22 HB21.out.size (fun j e => by have := (OBuf.lt hO21 j e).1; have := HG.out; omega))⟩, by simp [intOf]; omega⟩
            rw [HSN.out, ← List.append_assoc]
            rw [← HD.out, bs_append, bs_list] at ho22
            exact Lib.hid ho22
          · have hge : ¬ ((k : Int) < m.ents.length) := by omega
            have hto := HO.out
            rw [List.take_of_length_le (by omega), ← HHF.out] at hto
            have hstr := hto.str 43 9 5 Try.underlying43 Try.underlying5 Try.underlying9
            have hstr2 : (convert 43 9 u5).run Try.prog wr = .ok (.string (bs m.form)) wr := hstr
            clear hstr hto HO HHF
            go_wp2_with fail
            go_ret2
            exact ⟨by rw [HOUT.out]; rfl, HB.out⟩
  · have hout : m.out = .tuple #[.string ⟨#[]⟩, .int .i64 (m.check : Nat)] := by unfold Msg.out; rw [if_neg hc]
    have hne : ((m.check : Int) != 0) = true := by rw [bne_iff_ne]; omega
    have HOUT := Lib.hid hout
    clear hout
    go_wp2_with fail
    go_ret2
    exact ⟨by rw [HOUT.out]; rfl, HB1.out⟩

end Go.Proofs.Ytbapifbahhjfgaa
