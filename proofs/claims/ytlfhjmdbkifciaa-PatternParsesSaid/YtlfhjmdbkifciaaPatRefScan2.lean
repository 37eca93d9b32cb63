/- The document's Scan. -/
import Derived.Test.YtlfhjmdbkifciaaPatRefScan
namespace Go.Proofs.Ytlfhjmdbkifciaa
open Go.RowKit PM

structure RS (w wr : World) (v8 : Value) (out : List UInt8) (v9 : Value) (pl : List Nat) : Prop where
  out : wr.ownsRow w.heap.size TU8 1 v8 out.length (Lib.byteCells out)
  pl : wr.ownsRow w.heap.size TI 1 v9 pl.length (intC pl)
  up : Below w.heap.size w wr
theorem RS.on {w wr w' : World} {v8 v9 : Value} {out : List UInt8} {pl : List Nat} (h : RS w wr v8 out v9 pl) (hb : Below wr.heap.size wr w') : RS w w' v8 out v9 pl :=
  ⟨h.out.kept (grown_below hb none) (Classical.em _), h.pl.kept (grown_below hb none) (Classical.em _), below_then h.up hb (Nat.le_refl _)⟩
theorem RS.appOut {w wr w' : World} {v8 v8' v9 : Value} {out : List UInt8} {pl : List Nat} {c : UInt8} (h : RS w wr v8 out v9 pl) (hown : w'.ownsRow w.heap.size TU8 1 v8' (out.length + 1) (Lib.byteCells out ++ [.int .u8 c.toNat])) (hg : wr.grownBy w' v8.ownBlock) : RS w w' v8' (out ++ [c]) v9 pl :=
  ⟨by rw [List.length_append, List.length_singleton, Lib.byteCells_append]; exact hown, h.pl.kept hg (own_apart h.pl h.out (by decide)), h.up.grown hg h.up.size (fun k hk => (h.out.lt k hk).1)⟩
theorem RS.appPl {w wr w' : World} {v8 v9 v9' : Value} {out : List UInt8} {pl : List Nat} {n : Nat} (h : RS w wr v8 out v9 pl) (hown : w'.ownsRow w.heap.size TI 1 v9' (pl.length + 1) (intC pl ++ [.int .i64 n])) (hg : wr.grownBy w' v9.ownBlock) : RS w w' v8 out v9' (pl ++ [n]) :=
  ⟨h.out.kept hg (own_apart h.out h.pl (by decide)), by rw [List.length_append, List.length_singleton]; simpa [intC] using hown, h.up.grown hg h.up.size (fun k hk => (h.pl.lt k hk).1)⟩

theorem results_tmp4 {fn : Func} {p1 p2 p3 p4 : Tmp} (h : fn.results = #[.tmp p1, .tmp p2, .tmp p3, .tmp p4]) (tmps : Array Value) (W : World) : (results fn tmps).run Try.prog W = .ok (.tuple #[tmps.getD p1 undef, tmps.getD p2 undef, tmps.getD p3 undef, tmps.getD p4 undef]) W := by
  simp [results, h]

def RScanIs (w : World) (r : Sc) (e : Ending) (w' : World) : Prop :=
  match r with
  | .ok out pl => ∃ v, e = .returned (.tuple #[.string (bs out), v, .int .i64 (pl.getLastD 0 + 1 : Nat), .bool true]) ∧ w'.ownsRow w.heap.size TI 1 v pl.length (intC pl) ∧ Below w.heap.size w w'
  | .wrong k => e = .returned (.tuple #[.string ⟨#[]⟩, .slice none 0 0, .int .i64 (k : Nat), .bool false]) ∧ Below w.heap.size w w'
  | .long _ => False

set_option maxRecDepth 100000 in
set_option maxHeartbeats 4000000 in
theorem rscan_any (s : ByteArray) (a : Nat) (w : World) (hs : s.size ≤ 100000000) (_ha : a ≤ s.size) :
    Calls Try.prog 42 #[.string s, .int .i64 a] w (RScanIs w (scan (-1) s.data.toList a)) := by
  obtain ⟨i0, hi, hz0, hz1, hz2⟩ := info_parts info_u8
  obtain ⟨i1, hj, hy0, hy1, hy2⟩ := info_parts info_int
  have HI : Hid (Try.prog.info? TU8 = some i0 ∧ i0.zero = some (.int .u8 0) ∧ i0.size = 1 ∧ i0.bytes = 1) := Lib.hid ⟨hi, hz0, hz1, hz2⟩
  have HJ : Hid (Try.prog.info? TI = some i1 ∧ i1.zero = some (.int .i64 0) ∧ i1.size = 1 ∧ i1.bytes = 8) := Lib.hid ⟨hj, hy0, hy1, hy2⟩
  clear hi hz0 hz1 hz2 hj hy0 hy1 hy2
  obtain ⟨r, hr⟩ : ∃ r, scan (-1) s.data.toList a = r := ⟨_, rfl⟩
  rw [hr]
  unfold scan at hr
  rcases hh : s.data.toList[a]? with _ | c
  · rw [if_neg (by rw [drop_none hh]; simp)] at hr
    subst hr
    have hla := byte_none s a hh
    have j1 : decide (s.size ≤ a) = true := by simp; omega
    clear hh
    go_enter Try.func42, Try.ntmps42
    go_wp2_with fail
    exact bodyPost_ret (results_tmp4 rfl _ _) rfl ⟨rfl, Below.refl _ _⟩
  obtain ⟨hla, rfl⟩ := byte_at s a c hh
  have j1 : decide (s.size ≤ a) = false := by simp; omega
  have hla2 : (a : Int) < s.size := by omega
  by_cases h34 : s[a] = 34
  case neg =>
    rw [if_neg (by rw [drop_some hh]; simpa using h34)] at hr
    subst hr
    have j2 : ((s[a].toNat : Int) != 34) = true := nby h34 34 rfl
    clear hh h34
    go_enter Try.func42, Try.ntmps42
    go_wp2_with fail
    exact bodyPost_ret (results_tmp4 rfl _ _) rfl ⟨rfl, Below.refl _ _⟩
  rw [if_pos (by rw [drop_some hh, h34]; rfl)] at hr
  have j2 : ((s[a].toNat : Int) != 34) = false := by rw [h34]; rfl
  have HR := Lib.hid hr
  have HS0 : Hid (RS w w (.slice none 0 0) [] (.slice none 0 0) []) := Lib.hid ⟨World.ownsRow_nil _ _ _ _, World.ownsRow_nil _ _ _ _, Below.refl _ _⟩
  clear hh h34 hr
  go_enter Try.func42, Try.ntmps42
  go_wp2_with fail
  go_loopg [1, 8, 9] (s.size + 1) (fun k v1 v8 v9 wr => ∃ (a : Nat) (out : List UInt8) (pl : List Nat), v1 = .int .i64 a ∧ a ≤ s.size ∧ s.size - a < k ∧ out.length ≤ a ∧ pl.length ≤ a ∧ Hid (scanL (-1) k (s.data.toList.drop a) a out pl = r) ∧ Hid (RS w wr v8 out v9 pl))
  case atStart => exact ⟨a + 1, [], [], by go_num, hla, by omega, by simp, by simp, HR, HS0⟩
  case round =>
    clear HS0 HR
    obtain ⟨b, out, pl, rfl, hal, hak, hol, hpl, HR, HQ⟩ := hrel
    obtain ⟨k, rfl⟩ : ∃ k, gk = k + 1 := ⟨gk - 1, by omega⟩
    have hr := HR.out
    simp only [scanL] at hr
    rw [if_neg (by intro h; omega)] at hr
    have HR1 := Lib.hid hr
    clear hr HR
    have hai : (b : Int) ≤ 100000000 := by omega
    have hb0 : (0 : Int) ≤ b := by omega
    go_upto_region 7 with (refine wpList_append_own _ rfl (.tmp 26) (.tmp 28) TIs rfl w.heap.size TI i1 (.int .i64 0) 1 8 Try.underlying72 HJ.out.1 HJ.out.2.1 HJ.out.2.2.1 HJ.out.2.2.2 rfl (by decide) _ _ _ rfl (HQ.out.pl.alloc _) ⟨wr.heap.size, 0, none⟩ 1 1 [.int .i64 b] rfl rfl (World.news_of_block (heap_alloc_new wr _)) (by intro u hu; simp at hu; subst hu; rfl) (by unfold maxLen; omega) (by omega) (by have := HQ.out.up.size; simp; omega) ?_; intro v9' w2 hown hgrow _)
    have HQ2 := Lib.hid ((HQ.out.on (below_new wr _)).appPl (n := b) hown hgrow)
    clear hown hgrow HQ
    obtain ⟨ao, cap, hv8⟩ := own_form HQ2.out.out
    subst hv8
    have hr := HR1.out
    rcases hn : s.data.toList[b]? with _ | c
    · have hlb := byte_none s b hn
      have k1 : decide ((b : Int) < s.size) = false := by simp; omega
      have k2 : decide (b < s.size) = false := by simp; omega
      rw [if_neg (by rw [drop_none hn]; simp), st_none hn] at hr
      try simp only [] at hr
      subst hr
      have HST := Lib.hid (st_none hn)
      clear hn HR1
      go_wp2_with fail
      refine (byteAt_any s b w2 hs hal).mono ?_
      rintro e w3 ⟨rfl, hb3⟩
      have HU := Lib.hid (below_then HQ2.out.up hb3 (Nat.le_refl _))
      rw [HST.out]
      simp only [byteV]
      clear hb3 HQ2
      go_wp2_with fail
      exact bodyPost_ret (results_tmp4 rfl _ _) rfl ⟨rfl, HU.out⟩
    · obtain ⟨hlb, rfl⟩ := byte_at s b c hn
      have k1 : (b : Int) < s.size := by omega
      by_cases h34 : s[b] = 34
      · have k3 : ((s[b].toNat : Int) == 34) = true := by rw [h34]; rfl
        rw [if_pos (by rw [drop_some hn, h34]; rfl)] at hr
        subst hr
        have hcv := conv_own HQ2.out.out
        clear hn HR1 h34
        go_wp2_with fail
        exact bodyPost_ret (results_tmp4 rfl _ _) rfl ⟨v9', by simp, HQ2.out.pl, HQ2.out.up⟩
      · have k3 : ((s[b].toNat : Int) == 34) = false := by rw [beq_eq_false_iff_ne]; exact fun e => h34 (u8_eq (by have : (34 : UInt8).toNat = 34 := rfl; omega))
        rw [if_neg (by rw [drop_some hn]; simpa using h34)] at hr
        clear hn HR1 h34
        go_wp2_with fail
        refine (byteAt_any s b w2 hs hal).mono ?_
        rintro e w3 ⟨rfl, hb3⟩
        have HQ3 := Lib.hid (HQ2.out.on hb3)
        clear hb3 HQ2
        rcases hst : PM.step (s.data.toList.drop b) with ⟨x, n⟩ | j
        · rw [hst] at hr
          simp only [] at hr
          have hp := step_pos hst
          rw [List.length_drop] at hp
          have hp2 : s.data.toList.length = s.size := rfl
          have HR2 : Hid (scanL (-1) k (s.data.toList.drop (b + n)) (b + n) (out ++ [x]) (pl ++ [b]) = r) := Lib.hid (by rw [← List.drop_drop]; exact hr)
          obtain ⟨m, hm⟩ : ∃ m, b + n = m := ⟨_, rfl⟩
          simp only [byteV]
          rw [hm] at HR2 ⊢
          have hmb : m ≤ s.size := by omega
          have hmb2 : b < m := by omega
          clear hr hst hp hp2 hm
          go_wp2_with (refine wpList_append_own _ rfl (.tmp 55) (.tmp 57) 42 rfl w.heap.size TU8 i0 (.int .u8 0) 1 1 Try.underlying42 HI.out.1 HI.out.2.1 HI.out.2.2.1 HI.out.2.2.2 rfl (by decide) _ _ _ rfl (HQ3.out.out.alloc _) ⟨w3.heap.size, 0, none⟩ 1 1 [.int .u8 x.toNat] rfl rfl (World.news_of_block (heap_alloc_new w3 _)) (by intro u hu; simp at hu; subst hu; rfl) (by unfold maxLen; omega) (by omega) (by have := HQ3.out.up.size; simp; omega) ?_; intro v8' w9 hown9 hgrow9 _)
          have HQ9 := Lib.hid ((HQ3.out.on (below_new w3 _)).appOut (c := x) hown9 hgrow9)
          clear hown9 hgrow9 HQ3
          go_wp2_with fail
          go_roundg k
          case measure => omega
          case rel => exact ⟨m, out ++ [x], pl ++ [b], rfl, hmb, by omega, by simp; omega, by simp; omega, HR2, HQ9⟩
        · rw [hst] at hr
          simp only [] at hr
          subst hr
          have HU := Lib.hid HQ3.out.up
          simp only [byteV]
          clear hst HQ3
          go_wp2_with fail
          exact bodyPost_ret (results_tmp4 rfl _ _) rfl ⟨rfl, HU.out⟩
end Go.Proofs.Ytlfhjmdbkifciaa
