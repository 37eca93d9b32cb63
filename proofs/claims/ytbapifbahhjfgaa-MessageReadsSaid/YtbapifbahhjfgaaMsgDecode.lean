/- message.Decode. -/
import Derived.Test.YtbapifbahhjfgaaMsgDec
namespace Go.Proofs.Ytbapifbahhjfgaa
open Go.RowKit

/-- the message after so many numbers -/
def msgN (l : List UInt8) (k : Nat) : Msg := { zeroMsg with kind := (WM.num l 1 (.ok 0)).1, n := (numsR l k (st1 l)).1 }
def A0 : Value := .slice none 0 0

theorem wrap_and (x : Nat) (hx : x < 18446744073709551616) : wrap64 (bits BinOp.and IntKind.u64 (x : Int) 9223372036854775807) = ((x % p63 : Nat) : Int) := by
  rw [and63 x hx]
  have := mod63 x
  unfold wrap64
  omega

theorem wrap_and2 (x : Nat) (hx : x < 18446744073709551616) : IntKind.i64.wrap (bits BinOp.and IntKind.u64 (x : Int) 9223372036854775807) = ((x % p63 : Nat) : Int) := by
  rw [and63 x hx]
  have := mod63 x
  exact IntWalk.i64_in _ (by omega)
theorem info_entry : (Try.prog.info? TE).map (fun i => (i.zero, i.size, i.bytes)) = some (some (.agg #[.int .i64 0, .string ByteArray.empty]), 2, 24) := by kernel_rfl
theorem info_ent : ∃ i, Try.prog.info? TE = some i ∧ i.zero = some (.agg #[.int .i64 0, .string ByteArray.empty]) ∧ i.size = 2 ∧ i.bytes = 24 := info_parts info_entry

/-- entries' cells -/
def eCells (l : List (Int × ByteArray)) : List Value := l.flatMap fun e => [.int .i64 e.1, .string e.2]
theorem eCells_snoc (l : List (Int × ByteArray)) (e : Int × ByteArray) : eCells (l ++ [e]) = eCells l ++ [.int .i64 e.1, .string e.2] := by simp [eCells]

theorem two_new (W : World) (a b : Value) (T : TypeId) : ∀ j u, [a, b][j]? = some u → (W.alloc (.cells #[a, b] T)).cell? ((⟨W.heap.size, 0, none⟩ : Addr).add j) = some u := by
  intro j u hj
  have hadd : (⟨W.heap.size, 0, none⟩ : Addr).add j = ⟨W.heap.size, j, none⟩ := by unfold Addr.add; split <;> simp_all
  rw [hadd, cell_of_row _ _ j _ _ _ (heap_alloc_new W _)]
  simpa using hj
theorem two_one (a : Int) (b : ByteArray) : ∀ u ∈ [Value.int .i64 a, .string b], u.oneCell' = true := by
  intro u hu
  simp at hu
  rcases hu with rfl | rfl <;> rfl
theorem own_ne {w : World} {gr : Nat} {e : TypeId} {size : Nat} {v : Value} {n : Nat} {xs : List Value} (h : w.ownsRow (gr + 1) e size v n xs) : v.ownBlock = none ∨ v.ownBlock ≠ some gr :=
  Or.inr (fun e => by have := (h.lt _ e).1; omega)
theorem own_ne2 {w : World} {B g : Nat} {e : TypeId} {size : Nat} {v : Value} {n : Nat} {xs : List Value} (h : w.ownsRow B e size v n xs) (hg : g < B) : v.ownBlock = none ∨ v.ownBlock ≠ some g :=
  Or.inr (fun e => by have := (h.lt _ e).1; omega)
theorem own_succ {w : World} {base : Nat} {e : TypeId} {size : Nat} {v : Value} {k : Nat} {xs : List Value} (h : w.ownsRow base e size v (k + 1) xs) : ∃ g cap, v = .slice (some ⟨g, 0, none⟩) (k + 1) cap := by
  rcases h.2 with ⟨rfl, h0⟩ | ⟨g, cap, cur, rfl, _⟩
  · cases h0
  · exact ⟨_, _, rfl⟩
theorem grown_set9 (w : World) (g : Nat) (v : Value) : w.grownBy (w.setCell ⟨g, 9, none⟩ v) (some g) := ⟨rfl, rfl, rfl, by simp, fun k _ hk => Below.heap_setCell _ _ _ _ (fun e => hk (by rw [e]))⟩
theorem DS.other {w wr w' : World} {g gr : Nat} {s : ByteArray} {m : Msg} {A : Value} {st : WM.St} {row : Option Nat} (h : DS w g gr s wr m A st) (hgr : g + 2 ≤ gr) (hwg : w.heap.size = g) (hg : wr.grownBy w' row) (hrow : ∀ j, row = some j → gr + 1 ≤ j) : DS w g gr s w' m A st :=
  ⟨h.1.grown hg (fun e => by have := hrow g e.symm; omega), (hg.block (g + 1) (lt_of_block h.2.1) (fun e => by have := hrow _ e.symm; omega)).trans h.2.1, h.2.2.1.grown hg (fun e => by have := hrow _ e.symm; omega), h.2.2.2.grown hg h.2.2.2.size (fun k e => by have := hrow k e; omega)⟩

theorem cells_one (m : Msg) (A : Option Addr) (n c : Nat) : (m.cells (.slice A n c)).toArray.all (·.oneCell') = true := by simp [Msg.cells, Value.oneCell']
theorem spot_one (a b : Int) : (#[Value.int .i64 a, .int .i64 b] : Array Value).all (·.oneCell') = true := by simp [Value.oneCell']

theorem results_rows {fn : Func} (h : fn.results = #[.cell 2 TM, .cell 3 TSp]) (tmps : Array Value) (W : World) (g1 g2 : Nat) (cs1 cs2 : Array Value) (h1 : tmps.getD 2 undef = .pointer (some ⟨g1, 0, none⟩)) (h2 : tmps.getD 3 undef = .pointer (some ⟨g2, 0, none⟩))
    (b1 : W.heap[g1]? = some (.cells cs1 TM (0, 0))) (b2 : W.heap[g2]? = some (.cells cs2 TSp (0, 0))) (s1 : (Try.prog.info? TM).map (·.size) = some cs1.size) (s2 : (Try.prog.info? TSp).map (·.size) = some cs2.size) :
    (results fn tmps).run Try.prog W = .ok (.tuple #[.agg cs1, .agg cs2]) W := by
  have h1' : tmps[2]?.getD undef = .pointer (some ⟨g1, 0, none⟩) := by simpa using h1
  have h2' : tmps[3]?.getD undef = .pointer (some ⟨g2, 0, none⟩) := by simpa using h2
  have r1 := run_loadVar_row W g1 TM TM cs1 (0, 0) _ b1 Try.underlying28 rfl s1
  have r2 := run_loadVar_row W g2 TSp TSp cs2 (0, 0) _ b2 Try.underlying30 rfl s2
  simp [results, h, h1', h2', asAddr, r1, r2]

theorem below_setRow {B : Nat} (w : World) (g : Nat) (cs : Array Value) (hg : B ≤ g) : Below B w (w.setRow g cs) := ⟨rfl, rfl, rfl, by simp, fun k hk => setRow_other _ _ _ _ (by omega)⟩

theorem eCells_at : ∀ (l : List (Int × ByteArray)) (k : Nat) (hk : k < l.length), (eCells l)[k * 2]? = some (.int .i64 l[k].1) ∧ (eCells l)[k * 2 + 1]? = some (.string l[k].2)
  | x :: l, 0, _ => by simp [eCells]
  | x :: l, k + 1, hk => by
    have := eCells_at l k (by simpa using hk)
    have e : (k + 1) * 2 = k * 2 + 1 + 1 := by omega
    simp only [eCells, List.flatMap_cons, List.cons_append, List.nil_append, e, List.getElem?_cons_succ, List.getElem_cons_succ] at this ⊢
    exact this

theorem EArg.row {w : World} {A : Option Addr} {l : List (Int × ByteArray)} {g : Nat} (h : EArg w w.heap.size A l) (hlo : ∀ ad, A = some ad → g < ad.block) (cs : Array Value) : EArg (w.setRow g cs) (w.setRow g cs).heap.size A l := fun k hk => by
  obtain ⟨ad, e, hl, h1, h2⟩ := h k hk
  have hlo' := hlo ad e
  refine ⟨ad, e, by simpa using hl, (World.cell?_of_block (setRow_other _ _ _ _ (by rw [block_add]; omega))).trans h1, (World.cell?_of_block (setRow_other _ _ _ _ ?_)).trans h2⟩
  show (ad.add (k * 2)).block ≠ g
  rw [block_add]; omega

/-- an own slice of entries, seen as one that came in -/
theorem own_entries {w : World} {base : Nat} {v : Value} {l : List (Int × ByteArray)} {k : Nat} (hl : l.length = k) (h : w.ownsRow base TE 2 v k (eCells l)) : ∃ A c, v = .slice A k c ∧ EArg w w.heap.size A l ∧ (∀ ad, A = some ad → base ≤ ad.block) := by
  have hc := fun g (hg : v.ownBlock = some g) => h.cells hg
  have hlt := h.lt
  rcases h.2 with ⟨rfl, h0⟩ | ⟨g, cap, cur, rfl, hb, hg, _⟩
  · exact ⟨none, 0, by rw [h0], fun j hj => by omega, fun ad e => by cases e⟩
  · refine ⟨_, _, rfl, fun j hj => ⟨_, rfl, lt_of_block hg, ?_, ?_⟩, fun ad e => by cases e; exact hb⟩
    · exact hc g rfl _ _ (eCells_at l j hj).1
    · have h2 := hc g rfl _ _ (eCells_at l j hj).2
      have e1 : (⟨g, 0, none⟩ : Addr).add (j * 2 + 1) = ⟨g, j * 2 + 1, none⟩ := by unfold Addr.add; split <;> simp_all
      have e2 : (⟨g, 0, none⟩ : Addr).add (j * 2) = ⟨g, j * 2, none⟩ := by unfold Addr.add; split <;> simp_all
      rw [e1] at h2
      rw [e2]
      exact h2

set_option maxRecDepth 100000 in
set_option maxHeartbeats 16000000 in
theorem decode_any (s : ByteArray) (w : World) (hs : s.size ≤ 4611686018427387904) :
    Calls Try.prog 9 #[.string s] w fun e w' => ∃ A c, e = .returned (.tuple #[(decode s).1.val (.slice A (decode s).1.ents.length c), .agg #[.int .i64 (decode s).2.1, .int .i64 (decode s).2.2]]) ∧
      EArg w' w'.heap.size A (decode s).1.ents ∧ Below w.heap.size w w' := by
  obtain ⟨i0, hi0, hz0, hz1, hz2⟩ := info_ent
  go_enter Try.func9, Try.ntmps9
  go_wp2_with fail
  have hz : MB (w.alloc (.cells (zeroMsg.cells A0).toArray TM)) w.heap.size zeroMsg A0 := heap_alloc_new w _
  have hM := hz.below (below_new (w.alloc (.cells (zeroMsg.cells A0).toArray TM)) (.cells #[.int .i64 0, .int .i64 0] TSp))
  have hS : ((w.alloc (.cells (zeroMsg.cells A0).toArray TM)).alloc (.cells #[.int .i64 0, .int .i64 0] TSp)).heap[w.heap.size + 1]? = some (.cells #[.int .i64 0, .int .i64 0] TSp (0, 0)) := by
    have := heap_alloc_new (w.alloc (.cells (zeroMsg.cells A0).toArray TM)) (.cells #[.int .i64 0, .int .i64 0] TSp)
    rwa [World.size_alloc] at this
  have hB : Below w.heap.size w ((w.alloc (.cells (zeroMsg.cells A0).toArray TM)).alloc (.cells #[.int .i64 0, .int .i64 0] TSp)) := ((Below.refl _ w).alloc (Nat.le_refl _) _).alloc (by simp) _
  have hN := new_any s ((w.alloc (.cells (zeroMsg.cells A0).toArray TM)).alloc (.cells #[.int .i64 0, .int .i64 0] TSp)) (w.heap.size + 2) (by simp)
  refine hN.mono ?_
  rintro e w1 ⟨gr, rfl, hgr, hr, hb1⟩
  obtain ⟨g, hg⟩ : ∃ g, w.heap.size = g := ⟨_, rfl⟩
  have HG := Lib.hid hg
  rw [hg] at hgr
  have HD1 : Hid (DS w g gr s w1 zeroMsg A0 (.ok 0)) := Lib.hid ⟨by rw [← hg]; exact hM.below hb1, by rw [← hg]; exact (hb1.block _ (lt_of_block hS)).trans hS, hr, below_then hB hb1 (Nat.le_refl _)⟩
  clear hz hM hS hB hb1 hr hN
  rw [hg]
  clear hg
  go_wp2_with fail
  refine (rdU8_any gr s _ w1 HD1.out.2.2.1 hs).mono ?_
  rintro e w2 ⟨rfl, hr2, hg2⟩
  have HD2 : Hid (DS w g gr s w2 zeroMsg A0 (st1 s.data.toList)) := Lib.hid (HD1.out.read hgr HG.out hr2 hg2)
  have hc0 := HD2.out.1.cell 0 _ rfl
  have hf0 := HD2.out.frozen 0
  clear hr2 hg2 HD1
  obtain ⟨kd, hkd⟩ : ∃ kd, (WM.num s.data.toList 1 (.ok 0)).1 = kd := ⟨_, rfl⟩
  have HD3 : Hid (DS w g gr s (w2.setCell ⟨g, 0, none⟩ (.int .u8 (kd : Nat))) (msgN s.data.toList 0) A0 (st1 s.data.toList)) := Lib.hid (HD2.out.set hgr HG.out 0 _ (by rw [← hkd]; rfl))
  rw [hkd]
  clear HD2 hkd
  go_wp2_with fail
  clear hc0 hf0
  generalize w2.setCell ⟨g, 0, none⟩ (.int .u8 (kd : Nat)) = W2 at HD3 ⊢
  refine (numbers_any _ _).mono ?_
  rintro e w3 ⟨rfl, hb3⟩
  have HD4 := Lib.hid (HD3.out.below HG.out hb3)
  clear hb3 HD3
  obtain ⟨pa, hpa⟩ : ∃ pa, ptrs g = pa := ⟨_, rfl⟩
  have HPA := Lib.hid hpa
  rw [hpa]
  clear hpa
  go_wp2_with fail
  go_loopw [17] (fun i wr => ∃ k : Nat, k ≤ 15 ∧ i = .int .i64 k ∧ Hid (DS w g gr s wr (msgN s.data.toList k) A0 (numsR s.data.toList k (st1 s.data.toList)).2)) (fun i _ => 15 - (intOf i).toNat)
  case atStart => exact ⟨0, by omega, rfl, HD4⟩
  case round =>
    obtain ⟨k, hk15, rfl, HD⟩ := hrel
    by_cases hlt : k < 15
    · have hidx := ptr_at g k hlt
      obtain ⟨o, ho⟩ : ∃ o, offs.getD k 0 = o := ⟨_, rfl⟩
      rw [HPA.out, ho] at hidx
      have HOo := Lib.hid ho
      clear ho
      have hlt2 : (k : Int) < 15 := by omega
      have hx := num_lt s.data.toList 8 (numsR s.data.toList k (st1 s.data.toList)).2
      go_wp2_with fail
      refine (rdU64_any gr s _ wr HD.out.2.2.1 hs).mono ?_
      rintro e w5 ⟨rfl, hr5, hg5⟩
      have HD5 := Lib.hid (HD.out.read hgr HG.out hr5 hg5)
      have hcell := num_cell HD5.out.1 k hlt
      have hfro := HD5.out.frozen (offs.getD k 0)
      have hset := HD5.out.set hgr HG.out (offs.getD k 0) _ (set_num (msgN s.data.toList k) A0 k ((((WM.num s.data.toList 8 (numsR s.data.toList k (st1 s.data.toList)).2).1 % p63 : Nat) : Int)) hlt)
      have hset2 : DS w g gr s (w5.setCell ⟨g, offs.getD k 0, none⟩ (.int .i64 (((WM.num s.data.toList 8 (numsR s.data.toList k (st1 s.data.toList)).2).1 % p63 : Nat) : Int))) (msgN s.data.toList (k + 1)) A0 (numsR s.data.toList (k + 1) (st1 s.data.toList)).2 := hset
      rw [HOo.out] at hcell hfro hset2
      have HSET := Lib.hid hset2
      clear hset hset2 hr5 hg5 HD HD5 hidx HD4
      generalize (WM.num s.data.toList 8 (numsR s.data.toList k (st1 s.data.toList)).2).1 = x at *
      have HWA := Lib.hid (wrap_and x (by simpa using hx))
      generalize (msgN s.data.toList k).n k = y at hcell
      clear hx
      go_wp2_with fail
      refine ⟨⟨k + 1, by omega, by go_num, ?_⟩, by simp [intOf]; omega⟩
      rw [HWA.out]
      exact HSET
    · obtain rfl : k = 15 := by omega
      have hge : ¬ (((15 : Nat) : Int) < 15) := by omega
      clear hlt hk15 HD4
      go_wp2_with fail
      have HD10 : Hid (DS w g gr s wr (msgN s.data.toList 15) A0 (st2 s.data.toList)) := HD
      clear HD
      have hq4 := num_lt s.data.toList 1 (st3 s.data.toList)
      have hq5 := num_lt s.data.toList 4 (st4 s.data.toList)
      have hq6 := num_lt s.data.toList 1 (st5 s.data.toList)
      obtain ⟨gd, hgd⟩ : ∃ gd, (WM.bool s.data.toList (st2 s.data.toList)).1 = gd := ⟨_, rfl⟩
      obtain ⟨op, hop⟩ : ∃ op, (WM.num s.data.toList 1 (st3 s.data.toList)).1 = op := ⟨_, rfl⟩
      obtain ⟨er, her⟩ : ∃ er, (WM.num s.data.toList 4 (st4 s.data.toList)).1 = er := ⟨_, rfl⟩
      obtain ⟨le, hle⟩ : ∃ le, (WM.num s.data.toList 1 (st5 s.data.toList)).1 = le := ⟨_, rfl⟩
      rw [hop] at hq4
      rw [her] at hq5
      rw [hle] at hq6
      have hq4' : op < 256 := by simpa using hq4
      have hq5' : er < 4294967296 := by simpa using hq5
      have hq6' : le < 256 := by simpa using hq6
      have HGD := Lib.hid hgd; have HOP := Lib.hid hop; have HER := Lib.hid her; have HLE := Lib.hid hle
      clear hgd hop her hle hq4 hq5 hq6
      refine (rdBool_any gr s _ wr HD10.out.2.2.1 hs).mono ?_
      rintro e w11 ⟨rfl, hr11, hg11⟩
      have HD11 : Hid (DS w g gr s w11 (msgN s.data.toList 15) A0 (st3 s.data.toList)) := Lib.hid (HD10.out.read hgr HG.out hr11 hg11)
      clear hr11 hg11 HD10
      rw [HGD.out]
      go_wp2_with fail
      refine (rdU8_any gr s _ w11 HD11.out.2.2.1 hs).mono ?_
      rintro e w12 ⟨rfl, hr12, hg12⟩
      have HD12 : Hid (DS w g gr s w12 (msgN s.data.toList 15) A0 (st4 s.data.toList)) := Lib.hid (HD11.out.read hgr HG.out hr12 hg12)
      clear hr12 hg12 HD11
      rw [HOP.out]
      go_wp2_with fail
      refine (rdU32_any gr s _ w12 HD12.out.2.2.1 hs).mono ?_
      rintro e w13 ⟨rfl, hr13, hg13⟩
      have HD13 : Hid (DS w g gr s w13 (msgN s.data.toList 15) A0 (st5 s.data.toList)) := Lib.hid (HD12.out.read hgr HG.out hr13 hg13)
      clear hr13 hg13 HD12
      rw [HER.out]
      go_wp2_with fail
      refine (rdU8_any gr s _ w13 HD13.out.2.2.1 hs).mono ?_
      rintro e w14 ⟨rfl, hr14, hg14⟩
      have HD14 : Hid (DS w g gr s w14 (msgN s.data.toList 15) A0 (st6 s.data.toList)) := Lib.hid (HD13.out.read hgr HG.out hr14 hg14)
      clear hr14 hg14 HD13
      rw [HLE.out]
      have c8 := HD14.out.1.cell 8 _ rfl
      have c19 := HD14.out.1.cell 19 _ rfl
      have c20 := HD14.out.1.cell 20 _ rfl
      have c21 := HD14.out.1.cell 21 _ rfl
      have f8 := HD14.out.frozen 8
      have f19 := HD14.out.frozen 19
      have f20 := HD14.out.frozen 20
      have f21 := HD14.out.frozen 21
      have d8 := HD14.out.set (m' := { msgN s.data.toList 15 with good := gd }) (A' := A0) hgr HG.out 8 (.bool gd) rfl
      have d19 := d8.set (m' := { msgN s.data.toList 15 with good := gd, op := op }) (A' := A0) hgr HG.out 19 (.int .u8 (op : Nat)) rfl
      have d20 := d19.set (m' := { msgN s.data.toList 15 with good := gd, op := op, err := (er : Nat) }) (A' := A0) hgr HG.out 20 (.int .i64 (er : Nat)) rfl
      have d21 := d20.set (m' := { msgN s.data.toList 15 with good := gd, op := op, err := (er : Nat), leader := (le : Nat) }) (A' := A0) hgr HG.out 21 (.int .i64 (le : Nat)) rfl
      have HD15 := Lib.hid d21
      clear d8 d19 d20 d21 HD14
      go_wp2_with fail
      clear c8 c19 c20 c21 f8 f19 f20 f21
      obtain ⟨MH, hMH⟩ : ∃ MH, ({ msgN s.data.toList 15 with good := gd, op := op, err := (er : Nat), leader := (le : Nat) } : Msg) = MH := ⟨_, rfl⟩
      rw [hMH] at HD15
      have HMH := Lib.hid hMH
      clear hMH
      generalize (((w14.setCell ⟨g, 8, none⟩ (.bool gd)).setCell ⟨g, 19, none⟩ (.int .u8 (op : Nat))).setCell ⟨g, 20, none⟩ (.int .i64 (er : Nat))).setCell ⟨g, 21, none⟩ (.int .i64 (le : Nat)) = W15 at HD15 ⊢
      refine (rdText_any gr 3500 s _ W15 HD15.out.2.2.1 hs).mono ?_
      rintro e w16 ⟨rfl, hr16, hg16⟩
      have HD16 : Hid (DS w g gr s w16 MH A0 (st7 s.data.toList)) := Lib.hid (HD15.out.read hgr HG.out hr16 hg16)
      clear hr16 hg16 HD15
      obtain ⟨T, hT⟩ : ∃ T, bs (WM.textR s.data.toList 3500 (st6 s.data.toList)).1 = T := ⟨_, rfl⟩
      rw [show bs (WM.textR s.data.toList 3500 (st6 s.data.toList)).1 = T from hT]
      have HT := Lib.hid hT
      clear hT
      have c12 := HD16.out.1.cell 12 _ rfl
      have f12 := HD16.out.frozen 12
      have HD17 := Lib.hid (HD16.out.set (m' := { MH with data := T }) (A' := A0) hgr HG.out 12 (.string T) rfl)
      clear HD16
      go_wp2_with fail
      clear c12 f12
      generalize w16.setCell ⟨g, 12, none⟩ (.string T) = W17 at HD17 ⊢
      have hq8 := num_lt s.data.toList 1 (st7 s.data.toList)
      refine (rdU8_any gr s _ W17 HD17.out.2.2.1 hs).mono ?_
      rintro e w18 ⟨rfl, hr18, hg18⟩
      have HD18 : Hid (DS w g gr s w18 { MH with data := T } A0 (st8 s.data.toList)) := Lib.hid (HD17.out.read hgr HG.out hr18 hg18)
      clear hr18 hg18 HD17
      obtain ⟨cn, hcn⟩ : ∃ cn, (WM.num s.data.toList 1 (st7 s.data.toList)).1 = cn := ⟨_, rfl⟩
      rw [hcn]
      rw [hcn] at hq8
      have hq8' : cn < 256 := by simpa using hq8
      have HCN := Lib.hid hcn
      clear hcn hq8
      obtain ⟨MD, hMD⟩ : ∃ MD, ({ MH with data := T } : Msg) = MD := ⟨_, rfl⟩
      rw [hMD] at HD18
      have HMD := Lib.hid hMD
      clear hMD
      by_cases h4 : cn ≤ 4
      · have h4i : (cn : Int) ≤ 4 := by omega
        go_wp2_with fail
        go_loopw [49] (fun i wr => ∃ (k : Nat) (v : Value), k ≤ cn ∧ i = .int .i64 k ∧ Hid (DS w g gr s wr MD v (entsR s.data.toList k (st8 s.data.toList)).2) ∧ Hid (World.ownsRow wr (gr + 1) TE 2 v k (eCells (entsR s.data.toList k (st8 s.data.toList)).1))) (fun i _ => cn - (intOf i).toNat)
        case atStart => exact ⟨0, A0, by omega, rfl, HD18, Lib.hid (World.ownsRow_nil _ _ _ _)⟩
        case round =>
          obtain ⟨k, u9, hk4, rfl, HD, HO⟩ := hrel
          clear HD18
          by_cases hlt : k < cn
          · have hlt2 : (k : Int) < cn := by omega
            have hx := num_lt s.data.toList 8 (entsR s.data.toList k (st8 s.data.toList)).2
            have hsn1 : (entsR s.data.toList (k + 1) (st8 s.data.toList)).1 = (entsR s.data.toList k (st8 s.data.toList)).1 ++ [((((WM.num s.data.toList 8 (entsR s.data.toList k (st8 s.data.toList)).2).1 % p63 : Nat) : Int), bs (WM.textR s.data.toList 3500 (WM.num s.data.toList 8 (entsR s.data.toList k (st8 s.data.toList)).2).2).1)] := rfl
            have hsn2 : (entsR s.data.toList (k + 1) (st8 s.data.toList)).2 = (WM.textR s.data.toList 3500 (WM.num s.data.toList 8 (entsR s.data.toList k (st8 s.data.toList)).2).2).2 := rfl
            have HSN1 := Lib.hid hsn1; have HSN2 := Lib.hid hsn2
            clear hsn1 hsn2
            generalize (entsR s.data.toList k (st8 s.data.toList)).1 = el at *
            generalize (entsR s.data.toList k (st8 s.data.toList)).2 = stk at *
            obtain ⟨x, hxe⟩ : ∃ x, (WM.num s.data.toList 8 stk).1 = x := ⟨_, rfl⟩
            obtain ⟨tx, htx⟩ : ∃ tx, bs (WM.textR s.data.toList 3500 (WM.num s.data.toList 8 stk).2).1 = tx := ⟨_, rfl⟩
            rw [hxe, htx] at HSN1
            rw [hxe] at hx
            have HWA := Lib.hid (wrap_and2 x (by simpa using hx))
            obtain ⟨y, hy⟩ : ∃ y : Int, ((x % p63 : Nat) : Int) = y := ⟨_, rfl⟩
            rw [hy] at HSN1 HWA
            clear hy
            have HX := Lib.hid hxe; have HTX := Lib.hid htx
            clear hxe htx hx
            have HE0 : Hid (DS w g gr s wr.drew MD u9 stk) := Lib.hid HD.out.drew
            have HQ0 : Hid (World.ownsRow wr.drew (gr + 1) TE 2 u9 k (eCells el)) := HO
            clear HD HO
            have hcA := HE0.out.1.cell 9 _ rfl
            have hkk : k < 5 := by omega
            go_wp2_with fail
            refine wp_region_any (by kernel_rfl) ?_
            change wpAny _ _ _ _ _ _ _ wr.drew
            refine wpAny_take (i := 0) (v := ?_) (by simp only [List.getElem?_toArray, List.getElem?_cons_succ, List.getElem?_cons_zero]; rfl) (by kernel_rfl) (by kernel_rfl) (by kernel_rfl) (by exact fun _ _ _ h => h) (Or.inl ⟨by rfl, ?_⟩) ?_
            rotate_left
            · (intro w; go_simp)
              try with_reducible rfl
            try simp only [Act.put, List.setIfInBounds_toArray, List.set_cons_zero, List.set_cons_succ]
            refine wpAny_take (i := 2) (v := ?_) (by simp only [List.getElem?_toArray, List.getElem?_cons_succ, List.getElem?_cons_zero]; rfl) (by kernel_rfl) (by kernel_rfl) (by kernel_rfl) (by exact fun _ _ _ h => h) (Or.inl ⟨by rfl, ?_⟩) ?_
            rotate_left
            · (intro w; go_simp)
              try with_reducible rfl
            try simp only [Act.put, List.setIfInBounds_toArray, List.set_cons_zero, List.set_cons_succ]
            refine wpAny_take (i := 6) (v := ?_) (by simp only [List.getElem?_toArray, List.getElem?_cons_succ, List.getElem?_cons_zero]; rfl) (by kernel_rfl) (by kernel_rfl) (by kernel_rfl) (by exact fun _ _ _ h => h) (Or.inl ⟨by rfl, ?_⟩) ?_
            rotate_left
            · (intro w; go_simp)
              try with_reducible rfl
            try simp only [Act.put, List.setIfInBounds_toArray, List.set_cons_zero, List.set_cons_succ]
            refine wpAny_ready (rs := [1, 3]) (by kernel_rfl) (by simp) ?_
            refine (AllReady.cons (by simp only [List.getElem?_toArray, List.getElem?_cons_succ, List.getElem?_cons_zero]; rfl) (fun K hK => ?_) (AllReady.cons (by simp only [List.getElem?_toArray, List.getElem?_cons_succ, List.getElem?_cons_zero]; rfl) (fun K hK => ?_) AllReady.nil))
            · go_simp
              refine hK _ _ ?_
              clear hK K
              try simp only [Act.put, List.setIfInBounds_toArray, List.set_cons_zero, List.set_cons_succ]
              refine wpAny_ready (rs := [3]) (by kernel_rfl) (by simp) ?_
              refine (AllReady.cons (by simp only [List.getElem?_toArray, List.getElem?_cons_succ, List.getElem?_cons_zero]; rfl) (fun K hK => ?_) AllReady.nil)
              go_simp
              refine (rdU64_any gr s _ (wr.drew) HE0.out.2.2.1 hs).mono ?_
              rintro e w1a ⟨rfl, hrr, hgg⟩
              have HE1 := Lib.hid (HE0.out.read hgr HG.out hrr hgg)
              have HQ1 := Lib.hid (World.ownsRow.kept HQ0.out hgg (own_ne HQ0.out))
              clear hrr hgg
              rw [HX.out]
              try clear hcA
              simp only []
              refine hK _ _ ?_
              clear hK K
              try simp only [Act.put, List.setIfInBounds_toArray, List.set_cons_zero, List.set_cons_succ]
              refine wpAny_take (i := 4) (v := ?_) (by simp only [List.getElem?_toArray, List.getElem?_cons_succ, List.getElem?_cons_zero]; rfl) (by kernel_rfl) (by kernel_rfl) (by kernel_rfl) (by exact fun _ _ _ h => h) (Or.inl ⟨by rfl, ?_⟩) ?_
              rotate_left
              · (intro w; go_simp)
                try with_reducible rfl
              try simp only [Act.put, List.setIfInBounds_toArray, List.set_cons_zero, List.set_cons_succ]
              refine wpAny_take (i := 5) (v := ?_) (by simp only [List.getElem?_toArray, List.getElem?_cons_succ, List.getElem?_cons_zero]; rfl) (by kernel_rfl) (by kernel_rfl) (by kernel_rfl) (by exact fun _ _ _ h => h) (Or.inl ⟨by rfl, ?_⟩) ?_
              rotate_left
              · (intro w; go_simp)
                try with_reducible rfl
              try simp only [Act.put, List.setIfInBounds_toArray, List.set_cons_zero, List.set_cons_succ]
              rw [HWA.out]
              refine wpAny_ready (rs := [7]) (by kernel_rfl) (by simp) ?_
              refine (AllReady.cons (by simp only [List.getElem?_toArray, List.getElem?_cons_succ, List.getElem?_cons_zero]; rfl) (fun K hK => ?_) AllReady.nil)
              go_simp
              refine (rdText_any gr 3500 s _ (w1a) HE1.out.2.2.1 hs).mono ?_
              rintro e w2a ⟨rfl, hrr, hgg⟩
              have HE2 := Lib.hid (HE1.out.read hgr HG.out hrr hgg)
              have HQ2 := Lib.hid (World.ownsRow.kept HQ1.out hgg (own_ne HQ1.out))
              clear hrr hgg
              rw [HTX.out]
              try clear hcA
              simp only []
              refine hK _ _ ?_
              clear hK K
              try simp only [Act.put, List.setIfInBounds_toArray, List.set_cons_zero, List.set_cons_succ]
              refine wpAny_take (i := 8) (v := ?_) (by simp only [List.getElem?_toArray, List.getElem?_cons_succ, List.getElem?_cons_zero]; rfl) (by kernel_rfl) (by kernel_rfl) (by kernel_rfl) (by exact fun _ _ _ h => h) (Or.inl ⟨by rfl, ?_⟩) ?_
              rotate_left
              · (intro w; go_simp)
                try with_reducible rfl
              try simp only [Act.put, List.setIfInBounds_toArray, List.set_cons_zero, List.set_cons_succ]
              refine wpAny_ready (rs := [9]) (by kernel_rfl) (by simp) ?_
              refine (AllReady.cons (by simp only [List.getElem?_toArray, List.getElem?_cons_succ, List.getElem?_cons_zero]; rfl) (fun K hK => ?_) AllReady.nil)
              go_simp
              refine hK _ _ ?_
              clear hK K
              try simp only [Act.put, List.setIfInBounds_toArray, List.set_cons_zero, List.set_cons_succ]
              have HE3 : Hid (DS w g gr s (w2a.alloc (.cells #[.int .i64 y, .string tx] TE)) MD u9 _) := Lib.hid (HE2.out.below HG.out (below_new w2a _))
              have HQ3 : Hid (World.ownsRow (w2a.alloc (.cells #[.int .i64 y, .string tx] TE)) (gr + 1) TE 2 u9 k (eCells el)) := Lib.hid (World.ownsRow.alloc HQ2.out _)
              try clear hcA
              refine wpAny_ready (rs := [10]) (by kernel_rfl) (by simp) ?_
              refine (AllReady.cons (by simp only [List.getElem?_toArray, List.getElem?_cons_succ, List.getElem?_cons_zero]; rfl) (fun K hK => ?_) AllReady.nil)
              rw [if_pos (by rfl)]
              refine wp_append_own _ (.tmp 52) (.tmp 60) 23 rfl (gr + 1) TE i0 (.agg #[.int .i64 0, .string ByteArray.empty]) 2 24 Try.underlying23 hi0 hz0 hz1 hz2 rfl (by decide) u9 k _ rfl HQ3.out ⟨w2a.heap.size, 0, none⟩ 1 1 [.int .i64 y, .string tx] rfl rfl (two_new _ _ _ _) (two_one _ _) (by unfold maxLen; omega) (by omega) HE3.out.2.2.1.lt ?_
              intro v' w4b hown' hgrow _
              obtain ⟨gq, cq, rfl⟩ := own_succ hown'
              have HE4 := Lib.hid (HE3.out.other hgr HG.out hgrow (fun j e => (World.ownsRow.lt HQ3.out j e).1))
              have HQ4 : Hid (World.ownsRow w4b (gr + 1) TE 2 (.slice (some ⟨gq, 0, none⟩) (k + 1) cq) (k + 1) (eCells (el ++ [(y, tx)]))) := Lib.hid (by rw [eCells_snoc]; exact hown')
              have hc9 := HE4.out.1.cell 9 _ rfl
              have hf9 := HE4.out.frozen 9
              clear hown' hgrow
              refine hK _ _ ?_
              clear hK K
              try simp only [Act.put, List.setIfInBounds_toArray, List.set_cons_zero, List.set_cons_succ]
              refine wpAny_take (i := 11) (v := ?_) (by simp only [List.getElem?_toArray, List.getElem?_cons_succ, List.getElem?_cons_zero]; rfl) (by kernel_rfl) (by kernel_rfl) (by kernel_rfl) (by exact fun _ _ _ h => h) (Or.inl ⟨by rfl, ?_⟩) ?_
              rotate_left
              · (intro w; go_simp)
                try with_reducible rfl
              try simp only [Act.put, List.setIfInBounds_toArray, List.set_cons_zero, List.set_cons_succ]
              refine wpAny_ready (rs := [12]) (by kernel_rfl) (by simp) ?_
              refine (AllReady.cons (by simp only [List.getElem?_toArray, List.getElem?_cons_succ, List.getElem?_cons_zero]; rfl) (fun K hK => ?_) AllReady.nil)
              go_simp
              refine hK _ _ ?_
              clear hK K
              try simp only [Act.put, List.setIfInBounds_toArray, List.set_cons_zero, List.set_cons_succ]
              refine wpAny_done (by kernel_rfl) ?_ _
              clear hc9 hf9
              have HEf := Lib.hid (HE4.out.set (m' := MD) (A' := .slice (some ⟨gq, 0, none⟩) (k + 1) cq) hgr HG.out 9 (.slice (some ⟨gq, 0, none⟩) (k + 1) cq) rfl)
              have HQf := Lib.hid (World.ownsRow.kept HQ4.out (grown_set9 w4b g (.slice (some ⟨gq, 0, none⟩) (k + 1) cq)) (own_ne2 HQ4.out (by omega)))
              go_wp2_with fail
              exact ⟨⟨k + 1, .slice (some ⟨gq, 0, none⟩) (k + 1) cq, by omega, by go_num, by rw [HSN2.out]; exact HEf, by rw [HSN1.out]; exact HQf⟩, by simp [intOf]; omega⟩
            · go_simp
              refine (rdU64_any gr s _ (wr.drew) HE0.out.2.2.1 hs).mono ?_
              rintro e w1a ⟨rfl, hrr, hgg⟩
              have HE1 := Lib.hid (HE0.out.read hgr HG.out hrr hgg)
              have HQ1 := Lib.hid (World.ownsRow.kept HQ0.out hgg (own_ne HQ0.out))
              clear hrr hgg
              rw [HX.out]
              try clear hcA
              have hcA := HE1.out.1.cell 9 _ rfl
              simp only []
              refine hK _ _ ?_
              clear hK K
              try simp only [Act.put, List.setIfInBounds_toArray, List.set_cons_zero, List.set_cons_succ]
              refine wpAny_take (i := 4) (v := ?_) (by simp only [List.getElem?_toArray, List.getElem?_cons_succ, List.getElem?_cons_zero]; rfl) (by kernel_rfl) (by kernel_rfl) (by kernel_rfl) (by exact fun _ _ _ h => h) (Or.inl ⟨by rfl, ?_⟩) ?_
              rotate_left
              · (intro w; go_simp)
                try with_reducible rfl
              try simp only [Act.put, List.setIfInBounds_toArray, List.set_cons_zero, List.set_cons_succ]
              refine wpAny_take (i := 5) (v := ?_) (by simp only [List.getElem?_toArray, List.getElem?_cons_succ, List.getElem?_cons_zero]; rfl) (by kernel_rfl) (by kernel_rfl) (by kernel_rfl) (by exact fun _ _ _ h => h) (Or.inl ⟨by rfl, ?_⟩) ?_
              rotate_left
              · (intro w; go_simp)
                try with_reducible rfl
              try simp only [Act.put, List.setIfInBounds_toArray, List.set_cons_zero, List.set_cons_succ]
              rw [HWA.out]
              refine wpAny_ready (rs := [1, 7]) (by kernel_rfl) (by simp) ?_
              refine (AllReady.cons (by simp only [List.getElem?_toArray, List.getElem?_cons_succ, List.getElem?_cons_zero]; rfl) (fun K hK => ?_) (AllReady.cons (by simp only [List.getElem?_toArray, List.getElem?_cons_succ, List.getElem?_cons_zero]; rfl) (fun K hK => ?_) AllReady.nil))
              · go_simp
                refine hK _ _ ?_
                clear hK K
                try simp only [Act.put, List.setIfInBounds_toArray, List.set_cons_zero, List.set_cons_succ]
                refine wpAny_ready (rs := [7]) (by kernel_rfl) (by simp) ?_
                refine (AllReady.cons (by simp only [List.getElem?_toArray, List.getElem?_cons_succ, List.getElem?_cons_zero]; rfl) (fun K hK => ?_) AllReady.nil)
                go_simp
                refine (rdText_any gr 3500 s _ (w1a) HE1.out.2.2.1 hs).mono ?_
                rintro e w2a ⟨rfl, hrr, hgg⟩
                have HE2 := Lib.hid (HE1.out.read hgr HG.out hrr hgg)
                have HQ2 := Lib.hid (World.ownsRow.kept HQ1.out hgg (own_ne HQ1.out))
                clear hrr hgg
                rw [HTX.out]
                try clear hcA
                simp only []
                refine hK _ _ ?_
                clear hK K
                try simp only [Act.put, List.setIfInBounds_toArray, List.set_cons_zero, List.set_cons_succ]
                refine wpAny_take (i := 8) (v := ?_) (by simp only [List.getElem?_toArray, List.getElem?_cons_succ, List.getElem?_cons_zero]; rfl) (by kernel_rfl) (by kernel_rfl) (by kernel_rfl) (by exact fun _ _ _ h => h) (Or.inl ⟨by rfl, ?_⟩) ?_
                rotate_left
                · (intro w; go_simp)
                  try with_reducible rfl
                try simp only [Act.put, List.setIfInBounds_toArray, List.set_cons_zero, List.set_cons_succ]
                refine wpAny_ready (rs := [9]) (by kernel_rfl) (by simp) ?_
                refine (AllReady.cons (by simp only [List.getElem?_toArray, List.getElem?_cons_succ, List.getElem?_cons_zero]; rfl) (fun K hK => ?_) AllReady.nil)
                go_simp
                refine hK _ _ ?_
                clear hK K
                try simp only [Act.put, List.setIfInBounds_toArray, List.set_cons_zero, List.set_cons_succ]
                have HE3 : Hid (DS w g gr s (w2a.alloc (.cells #[.int .i64 y, .string tx] TE)) MD u9 _) := Lib.hid (HE2.out.below HG.out (below_new w2a _))
                have HQ3 : Hid (World.ownsRow (w2a.alloc (.cells #[.int .i64 y, .string tx] TE)) (gr + 1) TE 2 u9 k (eCells el)) := Lib.hid (World.ownsRow.alloc HQ2.out _)
                try clear hcA
                refine wpAny_ready (rs := [10]) (by kernel_rfl) (by simp) ?_
                refine (AllReady.cons (by simp only [List.getElem?_toArray, List.getElem?_cons_succ, List.getElem?_cons_zero]; rfl) (fun K hK => ?_) AllReady.nil)
                rw [if_pos (by rfl)]
                refine wp_append_own _ (.tmp 52) (.tmp 60) 23 rfl (gr + 1) TE i0 (.agg #[.int .i64 0, .string ByteArray.empty]) 2 24 Try.underlying23 hi0 hz0 hz1 hz2 rfl (by decide) u9 k _ rfl HQ3.out ⟨w2a.heap.size, 0, none⟩ 1 1 [.int .i64 y, .string tx] rfl rfl (two_new _ _ _ _) (two_one _ _) (by unfold maxLen; omega) (by omega) HE3.out.2.2.1.lt ?_
                intro v' w4b hown' hgrow _
                obtain ⟨gq, cq, rfl⟩ := own_succ hown'
                have HE4 := Lib.hid (HE3.out.other hgr HG.out hgrow (fun j e => (World.ownsRow.lt HQ3.out j e).1))
                have HQ4 : Hid (World.ownsRow w4b (gr + 1) TE 2 (.slice (some ⟨gq, 0, none⟩) (k + 1) cq) (k + 1) (eCells (el ++ [(y, tx)]))) := Lib.hid (by rw [eCells_snoc]; exact hown')
                have hc9 := HE4.out.1.cell 9 _ rfl
                have hf9 := HE4.out.frozen 9
                clear hown' hgrow
                refine hK _ _ ?_
                clear hK K
                try simp only [Act.put, List.setIfInBounds_toArray, List.set_cons_zero, List.set_cons_succ]
                refine wpAny_take (i := 11) (v := ?_) (by simp only [List.getElem?_toArray, List.getElem?_cons_succ, List.getElem?_cons_zero]; rfl) (by kernel_rfl) (by kernel_rfl) (by kernel_rfl) (by exact fun _ _ _ h => h) (Or.inl ⟨by rfl, ?_⟩) ?_
                rotate_left
                · (intro w; go_simp)
                  try with_reducible rfl
                try simp only [Act.put, List.setIfInBounds_toArray, List.set_cons_zero, List.set_cons_succ]
                refine wpAny_ready (rs := [12]) (by kernel_rfl) (by simp) ?_
                refine (AllReady.cons (by simp only [List.getElem?_toArray, List.getElem?_cons_succ, List.getElem?_cons_zero]; rfl) (fun K hK => ?_) AllReady.nil)
                go_simp
                refine hK _ _ ?_
                clear hK K
                try simp only [Act.put, List.setIfInBounds_toArray, List.set_cons_zero, List.set_cons_succ]
                refine wpAny_done (by kernel_rfl) ?_ _
                clear hc9 hf9
                have HEf := Lib.hid (HE4.out.set (m' := MD) (A' := .slice (some ⟨gq, 0, none⟩) (k + 1) cq) hgr HG.out 9 (.slice (some ⟨gq, 0, none⟩) (k + 1) cq) rfl)
                have HQf := Lib.hid (World.ownsRow.kept HQ4.out (grown_set9 w4b g (.slice (some ⟨gq, 0, none⟩) (k + 1) cq)) (own_ne2 HQ4.out (by omega)))
                go_wp2_with fail
                exact ⟨⟨k + 1, .slice (some ⟨gq, 0, none⟩) (k + 1) cq, by omega, by go_num, by rw [HSN2.out]; exact HEf, by rw [HSN1.out]; exact HQf⟩, by simp [intOf]; omega⟩
              · go_simp
                refine (rdText_any gr 3500 s _ (w1a) HE1.out.2.2.1 hs).mono ?_
                rintro e w2a ⟨rfl, hrr, hgg⟩
                have HE2 := Lib.hid (HE1.out.read hgr HG.out hrr hgg)
                have HQ2 := Lib.hid (World.ownsRow.kept HQ1.out hgg (own_ne HQ1.out))
                clear hrr hgg
                rw [HTX.out]
                try clear hcA
                have hcA := HE2.out.1.cell 9 _ rfl
                simp only []
                refine hK _ _ ?_
                clear hK K
                try simp only [Act.put, List.setIfInBounds_toArray, List.set_cons_zero, List.set_cons_succ]
                refine wpAny_take (i := 8) (v := ?_) (by simp only [List.getElem?_toArray, List.getElem?_cons_succ, List.getElem?_cons_zero]; rfl) (by kernel_rfl) (by kernel_rfl) (by kernel_rfl) (by exact fun _ _ _ h => h) (Or.inl ⟨by rfl, ?_⟩) ?_
                rotate_left
                · (intro w; go_simp)
                  try with_reducible rfl
                try simp only [Act.put, List.setIfInBounds_toArray, List.set_cons_zero, List.set_cons_succ]
                refine wpAny_ready (rs := [1, 9]) (by kernel_rfl) (by simp) ?_
                refine (AllReady.cons (by simp only [List.getElem?_toArray, List.getElem?_cons_succ, List.getElem?_cons_zero]; rfl) (fun K hK => ?_) (AllReady.cons (by simp only [List.getElem?_toArray, List.getElem?_cons_succ, List.getElem?_cons_zero]; rfl) (fun K hK => ?_) AllReady.nil))
                · go_simp
                  refine hK _ _ ?_
                  clear hK K
                  try simp only [Act.put, List.setIfInBounds_toArray, List.set_cons_zero, List.set_cons_succ]
                  refine wpAny_ready (rs := [9]) (by kernel_rfl) (by simp) ?_
                  refine (AllReady.cons (by simp only [List.getElem?_toArray, List.getElem?_cons_succ, List.getElem?_cons_zero]; rfl) (fun K hK => ?_) AllReady.nil)
                  go_simp
                  refine hK _ _ ?_
                  clear hK K
                  try simp only [Act.put, List.setIfInBounds_toArray, List.set_cons_zero, List.set_cons_succ]
                  have HE3 : Hid (DS w g gr s (w2a.alloc (.cells #[.int .i64 y, .string tx] TE)) MD u9 _) := Lib.hid (HE2.out.below HG.out (below_new w2a _))
                  have HQ3 : Hid (World.ownsRow (w2a.alloc (.cells #[.int .i64 y, .string tx] TE)) (gr + 1) TE 2 u9 k (eCells el)) := Lib.hid (World.ownsRow.alloc HQ2.out _)
                  try clear hcA
                  refine wpAny_ready (rs := [10]) (by kernel_rfl) (by simp) ?_
                  refine (AllReady.cons (by simp only [List.getElem?_toArray, List.getElem?_cons_succ, List.getElem?_cons_zero]; rfl) (fun K hK => ?_) AllReady.nil)
                  rw [if_pos (by rfl)]
                  refine wp_append_own _ (.tmp 52) (.tmp 60) 23 rfl (gr + 1) TE i0 (.agg #[.int .i64 0, .string ByteArray.empty]) 2 24 Try.underlying23 hi0 hz0 hz1 hz2 rfl (by decide) u9 k _ rfl HQ3.out ⟨w2a.heap.size, 0, none⟩ 1 1 [.int .i64 y, .string tx] rfl rfl (two_new _ _ _ _) (two_one _ _) (by unfold maxLen; omega) (by omega) HE3.out.2.2.1.lt ?_
                  intro v' w4b hown' hgrow _
                  obtain ⟨gq, cq, rfl⟩ := own_succ hown'
                  have HE4 := Lib.hid (HE3.out.other hgr HG.out hgrow (fun j e => (World.ownsRow.lt HQ3.out j e).1))
                  have HQ4 : Hid (World.ownsRow w4b (gr + 1) TE 2 (.slice (some ⟨gq, 0, none⟩) (k + 1) cq) (k + 1) (eCells (el ++ [(y, tx)]))) := Lib.hid (by rw [eCells_snoc]; exact hown')
                  have hc9 := HE4.out.1.cell 9 _ rfl
                  have hf9 := HE4.out.frozen 9
                  clear hown' hgrow
                  refine hK _ _ ?_
                  clear hK K
                  try simp only [Act.put, List.setIfInBounds_toArray, List.set_cons_zero, List.set_cons_succ]
                  refine wpAny_take (i := 11) (v := ?_) (by simp only [List.getElem?_toArray, List.getElem?_cons_succ, List.getElem?_cons_zero]; rfl) (by kernel_rfl) (by kernel_rfl) (by kernel_rfl) (by exact fun _ _ _ h => h) (Or.inl ⟨by rfl, ?_⟩) ?_
                  rotate_left
                  · (intro w; go_simp)
                    try with_reducible rfl
                  try simp only [Act.put, List.setIfInBounds_toArray, List.set_cons_zero, List.set_cons_succ]
                  refine wpAny_ready (rs := [12]) (by kernel_rfl) (by simp) ?_
                  refine (AllReady.cons (by simp only [List.getElem?_toArray, List.getElem?_cons_succ, List.getElem?_cons_zero]; rfl) (fun K hK => ?_) AllReady.nil)
                  go_simp
                  refine hK _ _ ?_
                  clear hK K
                  try simp only [Act.put, List.setIfInBounds_toArray, List.set_cons_zero, List.set_cons_succ]
                  refine wpAny_done (by kernel_rfl) ?_ _
                  clear hc9 hf9
                  have HEf := Lib.hid (HE4.out.set (m' := MD) (A' := .slice (some ⟨gq, 0, none⟩) (k + 1) cq) hgr HG.out 9 (.slice (some ⟨gq, 0, none⟩) (k + 1) cq) rfl)
                  have HQf := Lib.hid (World.ownsRow.kept HQ4.out (grown_set9 w4b g (.slice (some ⟨gq, 0, none⟩) (k + 1) cq)) (own_ne2 HQ4.out (by omega)))
                  go_wp2_with fail
                  exact ⟨⟨k + 1, .slice (some ⟨gq, 0, none⟩) (k + 1) cq, by omega, by go_num, by rw [HSN2.out]; exact HEf, by rw [HSN1.out]; exact HQf⟩, by simp [intOf]; omega⟩
                · go_simp
                  refine hK _ _ ?_
                  clear hK K
                  try simp only [Act.put, List.setIfInBounds_toArray, List.set_cons_zero, List.set_cons_succ]
                  have HE3 : Hid (DS w g gr s (w2a.alloc (.cells #[.int .i64 y, .string tx] TE)) MD u9 _) := Lib.hid (HE2.out.below HG.out (below_new w2a _))
                  have HQ3 : Hid (World.ownsRow (w2a.alloc (.cells #[.int .i64 y, .string tx] TE)) (gr + 1) TE 2 u9 k (eCells el)) := Lib.hid (World.ownsRow.alloc HQ2.out _)
                  try clear hcA
                  have hcA := HE3.out.1.cell 9 _ rfl
                  refine wpAny_ready (rs := [1]) (by kernel_rfl) (by simp) ?_
                  refine (AllReady.cons (by simp only [List.getElem?_toArray, List.getElem?_cons_succ, List.getElem?_cons_zero]; rfl) (fun K hK => ?_) AllReady.nil)
                  go_simp
                  refine hK _ _ ?_
                  clear hK K
                  try simp only [Act.put, List.setIfInBounds_toArray, List.set_cons_zero, List.set_cons_succ]
                  refine wpAny_ready (rs := [10]) (by kernel_rfl) (by simp) ?_
                  refine (AllReady.cons (by simp only [List.getElem?_toArray, List.getElem?_cons_succ, List.getElem?_cons_zero]; rfl) (fun K hK => ?_) AllReady.nil)
                  rw [if_pos (by rfl)]
                  refine wp_append_own _ (.tmp 52) (.tmp 60) 23 rfl (gr + 1) TE i0 (.agg #[.int .i64 0, .string ByteArray.empty]) 2 24 Try.underlying23 hi0 hz0 hz1 hz2 rfl (by decide) u9 k _ rfl HQ3.out ⟨w2a.heap.size, 0, none⟩ 1 1 [.int .i64 y, .string tx] rfl rfl (two_new _ _ _ _) (two_one _ _) (by unfold maxLen; omega) (by omega) HE3.out.2.2.1.lt ?_
                  intro v' w4b hown' hgrow _
                  obtain ⟨gq, cq, rfl⟩ := own_succ hown'
                  have HE4 := Lib.hid (HE3.out.other hgr HG.out hgrow (fun j e => (World.ownsRow.lt HQ3.out j e).1))
                  have HQ4 : Hid (World.ownsRow w4b (gr + 1) TE 2 (.slice (some ⟨gq, 0, none⟩) (k + 1) cq) (k + 1) (eCells (el ++ [(y, tx)]))) := Lib.hid (by rw [eCells_snoc]; exact hown')
                  have hc9 := HE4.out.1.cell 9 _ rfl
                  have hf9 := HE4.out.frozen 9
                  clear hown' hgrow
                  refine hK _ _ ?_
                  clear hK K
                  try simp only [Act.put, List.setIfInBounds_toArray, List.set_cons_zero, List.set_cons_succ]
                  refine wpAny_take (i := 11) (v := ?_) (by simp only [List.getElem?_toArray, List.getElem?_cons_succ, List.getElem?_cons_zero]; rfl) (by kernel_rfl) (by kernel_rfl) (by kernel_rfl) (by exact fun _ _ _ h => h) (Or.inl ⟨by rfl, ?_⟩) ?_
                  rotate_left
                  · (intro w; go_simp)
                    try with_reducible rfl
                  try simp only [Act.put, List.setIfInBounds_toArray, List.set_cons_zero, List.set_cons_succ]
                  refine wpAny_ready (rs := [12]) (by kernel_rfl) (by simp) ?_
                  refine (AllReady.cons (by simp only [List.getElem?_toArray, List.getElem?_cons_succ, List.getElem?_cons_zero]; rfl) (fun K hK => ?_) AllReady.nil)
                  go_simp
                  refine hK _ _ ?_
                  clear hK K
                  try simp only [Act.put, List.setIfInBounds_toArray, List.set_cons_zero, List.set_cons_succ]
                  refine wpAny_done (by kernel_rfl) ?_ _
                  clear hc9 hf9
                  have HEf := Lib.hid (HE4.out.set (m' := MD) (A' := .slice (some ⟨gq, 0, none⟩) (k + 1) cq) hgr HG.out 9 (.slice (some ⟨gq, 0, none⟩) (k + 1) cq) rfl)
                  have HQf := Lib.hid (World.ownsRow.kept HQ4.out (grown_set9 w4b g (.slice (some ⟨gq, 0, none⟩) (k + 1) cq)) (own_ne2 HQ4.out (by omega)))
                  go_wp2_with fail
                  exact ⟨⟨k + 1, .slice (some ⟨gq, 0, none⟩) (k + 1) cq, by omega, by go_num, by rw [HSN2.out]; exact HEf, by rw [HSN1.out]; exact HQf⟩, by simp [intOf]; omega⟩
          · have hkc : k = cn := by omega
            have HKC := Lib.hid hkc
            have hge : ¬ ((k : Int) < cn) := by omega
            clear hlt hk4 hkc
            have hcnt : cnt s.data.toList = cn := HCN.out
            have hkm : k = min (cnt s.data.toList) 4 := by rw [hcnt]; have := HKC.out; omega
            have hk4 : k ≤ 4 := by have := HKC.out; omega
            have hents : (entsR s.data.toList k (st8 s.data.toList)).1 = (rawMsg s.data.toList).ents := by rw [hkm]; rfl
            have hlen : (rawMsg s.data.toList).ents.length = k := by rw [← hents]; exact entsR_len _ _ _
            have hend : (entsR s.data.toList k (st8 s.data.toList)).2 = rawEnd s.data.toList := by rw [hkm]; rfl
            rw [hents] at HO
            rw [hend] at HD
            obtain ⟨A, cc, rfl, hea, hlo⟩ := own_entries hlen HO.out
            have HLO := Lib.hid hlo
            clear hlo
            have hcells : MD.cells (.slice A k cc) = (rawMsg s.data.toList).cells (.slice A k cc) := by
              rw [← HMD.out, ← HMH.out, ← HGD.out, ← HOP.out, ← HER.out, ← HLE.out, ← HT.out]; rfl
            have hmb := HD.out.1
            unfold MB at hmb
            rw [hcells] at hmb
            have HDR : Hid (DS w g gr s wr (rawMsg s.data.toList) (.slice A k cc) (rawEnd s.data.toList)) := Lib.hid ⟨hmb, HD.out.2⟩
            have HEA := Lib.hid hea
            have HLN := Lib.hid hlen
            clear hcnt hkm hents hlen hend hcells hmb hea HD HO HKC HMD HMH HGD HOP HER HLE HT HCN HPA
            have hk1 := num_lt s.data.toList 1 (.ok 0)
            have hk2 := num_lt s.data.toList 1 (st3 s.data.toList)
            have HK : Hid ((rawMsg s.data.toList).kind < 256 ∧ (rawMsg s.data.toList).op < 256) := Lib.hid ⟨by simpa [rawMsg] using hk1, by simpa [rawMsg] using hk2⟩
            clear hk1 hk2
            go_wp2_with fail
            refine (rdEnd_any gr s _ wr HDR.out.2.2.1 hs).mono ?_
            rintro e w20 ⟨rfl, hb20⟩
            have HD20 := Lib.hid (HDR.out.below HG.out hb20)
            have HEA20 := Lib.hid (HEA.out.on hb20)
            clear hb20 HDR HEA
            have hdec : decode s = if (endOf s (rawEnd s.data.toList)).1 ≠ 0 then (zeroMsg, endOf s (rawEnd s.data.toList)) else if (rawMsg s.data.toList).check ≠ 0 ∨ (rawMsg s.data.toList).form ≠ s.data.toList then (zeroMsg, 7, 0) else (rawMsg s.data.toList, 0, 0) := rfl
            generalize endOf s (rawEnd s.data.toList) = ep at *
            obtain ⟨ee, pp⟩ := ep
            simp only [] at hdec ⊢
            have HDEC := Lib.hid hdec
            clear hdec
            have hal := below_new w20 (.cells #[.int .i64 (ee : Nat), .int .i64 (pp : Nat)] TSp)
            have HD21 := Lib.hid (HD20.out.below HG.out hal)
            have HEA21 := Lib.hid (HEA20.out.on hal)
            have hbox : (w20.alloc (.cells #[.int .i64 (ee : Nat), .int .i64 (pp : Nat)] TSp)).heap[w20.heap.size]? = some (.cells #[.int .i64 (ee : Nat), .int .i64 (pp : Nat)] TSp (0, 0)) := heap_alloc_new w20 _
            have HBX := Lib.hid hbox
            have hqg := lt_of_block HD20.out.1
            clear hal hbox HD20 HEA20
            by_cases he : ee = 0
            · subst he
              have hm21 := HD21.out.1
              unfold MB at hm21
              have HM21 := Lib.hid hm21
              clear hm21
              go_wp2_with (refine wpList_load_row rfl TM (.tmp 2) rfl g rfl TM _ (0, 0) _ HM21.out Try.underlying28 rfl (by kernel_rfl) ?_)
              have hen := encode_any (rawMsg s.data.toList) A cc _ HEA21.out (by rw [HLN.out]; omega) HK.out.1 HK.out.2
              rw [HLN.out] at hen
              have HEN := Lib.hid hen
              clear hen
              generalize w20.alloc (.cells #[.int .i64 ((0 : Nat) : Int), .int .i64 (pp : Nat)] TSp) = W21 at *
              refine HEN.out.mono ?_
              rintro e w22 ⟨rfl, hb22⟩
              have HD22 := Lib.hid (HD21.out.below HG.out hb22)
              have heo := EArg.on HEA21.out hb22
              have HEA22 := Lib.hid heo
              clear hb22 HD21 HEN heo HEA21 HM21 HBX
              have hdec := HDEC.out
              rw [if_neg (by simp)] at hdec
              have HDC := Lib.hid hdec
              clear hdec HDEC
              have hm22 := HD22.out.1
              unfold MB at hm22
              have hs22 := HD22.out.2.1
              have HM22 := Lib.hid hm22; have HS22 := Lib.hid hs22
              have hlt22 := lt_of_block hm22
              clear hm22 hs22
              by_cases hck : (rawMsg s.data.toList).check = 0
              · have hout : (rawMsg s.data.toList).out = .tuple #[.string (bs (rawMsg s.data.toList).form), .int .i64 0] := by unfold Msg.out; rw [if_pos hck]
                rw [hout]
                by_cases hfm : (rawMsg s.data.toList).form = s.data.toList
                · have hdec := HDC.out
                  rw [if_neg (by rintro (h | h) <;> first | exact h hck | exact h hfm)] at hdec
                  have HDD := Lib.hid hdec
                  have hbs : bs (rawMsg s.data.toList).form = s := by rw [hfm]; rfl
                  rw [hbs]
                  have e1 := str_eq (a := s) rfl
                  have hS2 : (w22.setRow g ((rawMsg s.data.toList).cells (.slice A k cc)).toArray).heap[g + 1]? = some (.cells #[.int .i64 0, .int .i64 0] TSp (0, 0)) := (setRow_other _ _ _ _ (by omega)).trans HS22.out
                  have HS2 := Lib.hid hS2
                  clear hdec HDC hbs hS2 hck hfm hout
                  go_wp2_with (first
                    | (refine wpList_load_row rfl TM (.tmp 2) rfl g rfl TM _ (0, 0) _ HM22.out Try.underlying28 rfl (by kernel_rfl) ?_)
                    | (refine wpList_store_row rfl TM (.tmp 2) (.tmp 85) rfl g ((rawMsg s.data.toList).cells (.slice A k cc)).toArray rfl rfl TM _ HM22.out (by kernel_rfl) rfl (cells_one _ _ _ _) ?_)
                    | (refine wpList_store_row rfl TSp (.tmp 3) (.tmp 86) rfl (g + 1) #[.int .i64 0, .int .i64 0] rfl rfl TSp _ HS2.out (by kernel_rfl) rfl (spot_one _ _) ?_))
                  refine bodyPost_ret (results_rows rfl _ _ g (g + 1) ((rawMsg s.data.toList).cells (.slice A k cc)).toArray #[.int .i64 0, .int .i64 0] rfl rfl ((setRow_other _ _ _ _ (by omega)).trans (setRow_heap _ _ _ _ _ _ HM22.out)) (setRow_heap _ _ _ _ _ _ HS2.out) (by kernel_rfl) (by kernel_rfl)) rfl ?_
                  have hBF := ((HD22.out.2.2.2).trans (below_setRow w22 g ((rawMsg s.data.toList).cells (.slice A k cc)).toArray (by have := HG.out; omega))).trans (below_setRow _ (g + 1) #[.int .i64 0, .int .i64 0] (by have := HG.out; omega))
                  refine ⟨A, cc, ?_, ?_, hBF⟩
                  · rw [HDD.out, HLN.out]; rfl
                  · rw [HDD.out]
                    exact (EArg.row (EArg.row HEA22.out (fun ad e => by have := HLO.out ad e; omega) _) (fun ad e => by have := HLO.out ad e; omega) _)
                · have hdec := HDC.out
                  rw [if_pos (Or.inr hfm)] at hdec
                  have HDD := Lib.hid hdec
                  have e1 := str_ne (a := bs (rawMsg s.data.toList).form) (b := s) (fun h => hfm (by have h2 := congrArg (fun b : ByteArray => b.data.toList) h; simpa only [bs_list] using h2))
                  clear hdec HDC hck hfm hout
                  have hS2 : (w22.setRow g (zeroMsg.cells A0).toArray).heap[g + 1]? = some (.cells #[.int .i64 0, .int .i64 0] TSp (0, 0)) := (setRow_other _ _ _ _ (by omega)).trans HS22.out
                  have HS2 := Lib.hid hS2
                  clear hS2
                  go_wp2_with (first
                    | (refine wpList_store_row rfl TM (.tmp 2) (.tmp 83) rfl g (zeroMsg.cells A0).toArray rfl rfl TM _ HM22.out (by kernel_rfl) rfl (cells_one _ _ _ _) ?_)
                    | (refine wpList_store_row rfl TSp (.tmp 3) (.tmp 84) rfl (g + 1) #[.int .i64 7, .int .i64 0] rfl rfl TSp _ HS2.out (by kernel_rfl) rfl (spot_one _ _) ?_))
                  refine bodyPost_ret (results_rows rfl _ _ g (g + 1) (zeroMsg.cells A0).toArray #[.int .i64 7, .int .i64 0] rfl rfl ((setRow_other _ _ _ _ (by omega)).trans (setRow_heap _ _ _ _ _ _ HM22.out)) (setRow_heap _ _ _ _ _ _ HS2.out) (by kernel_rfl) (by kernel_rfl)) rfl ?_
                  have hBF := ((HD22.out.2.2.2).trans (below_setRow w22 g (zeroMsg.cells A0).toArray (by have := HG.out; omega))).trans (below_setRow _ (g + 1) #[.int .i64 7, .int .i64 0] (by have := HG.out; omega))
                  exact ⟨none, 0, by rw [HDD.out]; rfl, by rw [HDD.out]; exact fun j hj => absurd hj (Nat.not_lt_zero _), hBF⟩
              · have hout : (rawMsg s.data.toList).out = .tuple #[.string ⟨#[]⟩, .int .i64 ((rawMsg s.data.toList).check : Nat)] := by unfold Msg.out; rw [if_neg hck]
                rw [hout]
                have hdec := HDC.out
                rw [if_pos (Or.inl hck)] at hdec
                have HDD := Lib.hid hdec
                obtain ⟨ck, hcke⟩ : ∃ ck, (rawMsg s.data.toList).check = ck := ⟨_, rfl⟩
                rw [hcke] at hck ⊢
                have e1 : ((ck : Int) != 0) = true := by rw [bne_iff_ne]; omega
                clear hdec HDC hck hout hcke
                have hS2 : (w22.setRow g (zeroMsg.cells A0).toArray).heap[g + 1]? = some (.cells #[.int .i64 0, .int .i64 0] TSp (0, 0)) := (setRow_other _ _ _ _ (by omega)).trans HS22.out
                have HS2 := Lib.hid hS2
                clear hS2
                go_wp2_with (first
                  | (refine wpList_store_row rfl TM (.tmp 2) (.tmp 83) rfl g (zeroMsg.cells A0).toArray rfl rfl TM _ HM22.out (by kernel_rfl) rfl (cells_one _ _ _ _) ?_)
                  | (refine wpList_store_row rfl TSp (.tmp 3) (.tmp 84) rfl (g + 1) #[.int .i64 7, .int .i64 0] rfl rfl TSp _ HS2.out (by kernel_rfl) rfl (spot_one _ _) ?_))
                refine bodyPost_ret (results_rows rfl _ _ g (g + 1) (zeroMsg.cells A0).toArray #[.int .i64 7, .int .i64 0] rfl rfl ((setRow_other _ _ _ _ (by omega)).trans (setRow_heap _ _ _ _ _ _ HM22.out)) (setRow_heap _ _ _ _ _ _ HS2.out) (by kernel_rfl) (by kernel_rfl)) rfl ?_
                have hBF := ((HD22.out.2.2.2).trans (below_setRow w22 g (zeroMsg.cells A0).toArray (by have := HG.out; omega))).trans (below_setRow _ (g + 1) #[.int .i64 7, .int .i64 0] (by have := HG.out; omega))
                exact ⟨none, 0, by rw [HDD.out]; rfl, by rw [HDD.out]; exact fun j hj => absurd hj (Nat.not_lt_zero _), hBF⟩
            · have he1 : ((ee : Int) != 0) = true := by rw [bne_iff_ne]; omega
              have hdec := HDEC.out
              rw [if_pos he] at hdec
              have HDC := Lib.hid hdec
              clear hdec HDEC
              have hm21 := HD21.out.1
              unfold MB at hm21
              have hs21 := HD21.out.2.1
              have HM21 := Lib.hid hm21; have HS21 := Lib.hid hs21
              have hlt21 := lt_of_block hm21
              clear hm21 hs21
              go_wp2_with fail
              change Code.wp _ _ _ _ (w20.alloc (.cells #[.int .i64 (ee : Nat), .int .i64 (pp : Nat)] TSp))
              generalize w20.heap.size = q at *
              generalize w20.alloc (.cells #[.int .i64 (ee : Nat), .int .i64 (pp : Nat)] TSp) = W21 at *
              have hS2 : (W21.drew.setRow g (zeroMsg.cells A0).toArray).heap[g + 1]? = some (.cells #[.int .i64 0, .int .i64 0] TSp (0, 0)) := (setRow_other _ _ _ _ (by omega)).trans HS21.out
              have HS2 := Lib.hid hS2
              clear hS2
              refine wp_region_any (by kernel_rfl) ?_
              change wpAny _ _ _ _ _ _ _ W21.drew
              refine wpAny_take (i := 0) (v := ?_) (by simp only [List.getElem?_toArray, List.getElem?_cons_succ, List.getElem?_cons_zero]; rfl) (by kernel_rfl) (by kernel_rfl) (by kernel_rfl) (by exact fun _ _ _ h => h) (Or.inl ⟨by rfl, ?_⟩) ?_
              rotate_left
              · (intro w; go_simp)
                try with_reducible rfl
              try simp only [Act.put, List.setIfInBounds_toArray, List.set_cons_zero, List.set_cons_succ]
              have hX2 : (W21.drew.setRow g (zeroMsg.cells A0).toArray).heap[q]? = some (.cells #[.int .i64 (ee : Nat), .int .i64 (pp : Nat)] TSp (0, 0)) := (setRow_other _ _ _ _ (by omega)).trans HBX.out
              have HX2 := Lib.hid hX2
              clear hX2
              refine wpAny_ready (rs := [1, 2]) (by kernel_rfl) (by simp) ?_
              refine (AllReady.cons (by simp only [List.getElem?_toArray, List.getElem?_cons_succ, List.getElem?_cons_zero]; rfl) (fun K hK => ?_) (AllReady.cons (by simp only [List.getElem?_toArray, List.getElem?_cons_succ, List.getElem?_cons_zero]; rfl) (fun K hK => ?_) AllReady.nil))
              · rw [if_pos (by rfl)]
                refine wp_load_row TSp (.tmp 8) rfl q rfl TSp #[.int .i64 (ee : Nat), .int .i64 (pp : Nat)] (0, 0) _ HBX.out Try.underlying30 rfl (by kernel_rfl) ?_
                refine hK _ _ ?_
                clear hK K
                try simp only [Act.put, List.setIfInBounds_toArray, List.set_cons_zero, List.set_cons_succ]
                refine wpAny_ready (rs := [2]) (by kernel_rfl) (by simp) ?_
                refine (AllReady.cons (by simp only [List.getElem?_toArray, List.getElem?_cons_succ, List.getElem?_cons_zero]; rfl) (fun K hK => ?_) AllReady.nil)
                rw [if_pos (by rfl)]
                refine wp_store_row TM (.tmp 2) (.tmp 69) rfl g (zeroMsg.cells A0).toArray rfl rfl TM _ HM21.out (by kernel_rfl) rfl (cells_one _ _ _ _) ?_
                refine hK _ _ ?_
                clear hK K
                try simp only [Act.put, List.setIfInBounds_toArray, List.set_cons_zero, List.set_cons_succ]
                refine wpAny_ready (rs := [3]) (by kernel_rfl) (by simp) ?_
                refine (AllReady.cons (by simp only [List.getElem?_toArray, List.getElem?_cons_succ, List.getElem?_cons_zero]; rfl) (fun K hK => ?_) AllReady.nil)
                rw [if_pos (by rfl)]
                refine wp_store_row TSp (.tmp 3) (.tmp 70) rfl (g + 1) #[.int .i64 (ee : Nat), .int .i64 (pp : Nat)] rfl rfl TSp _ HS2.out (by kernel_rfl) rfl (spot_one _ _) ?_
                refine hK _ _ ?_
                clear hK K
                try simp only [Act.put, List.setIfInBounds_toArray, List.set_cons_zero, List.set_cons_succ]
                refine wpAny_done (by kernel_rfl) ?_ _
                go_wp2_with fail
                refine bodyPost_ret (results_rows rfl _ _ g (g + 1) (zeroMsg.cells A0).toArray #[.int .i64 (ee : Nat), .int .i64 (pp : Nat)] rfl rfl ((setRow_other _ _ _ _ (by omega)).trans (setRow_heap _ _ _ _ _ _ HM21.out)) (setRow_heap _ _ _ _ _ _ HS2.out) (by kernel_rfl) (by kernel_rfl)) rfl ?_
                have hBF := ((HD21.out.2.2.2.drew).trans (below_setRow W21.drew g (zeroMsg.cells A0).toArray (by have := HG.out; omega))).trans (below_setRow _ (g + 1) #[.int .i64 (ee : Nat), .int .i64 (pp : Nat)] (by have := HG.out; omega))
                exact ⟨none, 0, by rw [HDC.out]; rfl, by rw [HDC.out]; exact fun j hj => absurd hj (Nat.not_lt_zero _), hBF⟩
              · rw [if_pos (by rfl)]
                refine wp_store_row TM (.tmp 2) (.tmp 69) rfl g (zeroMsg.cells A0).toArray rfl rfl TM _ HM21.out (by kernel_rfl) rfl (cells_one _ _ _ _) ?_
                refine hK _ _ ?_
                clear hK K
                try simp only [Act.put, List.setIfInBounds_toArray, List.set_cons_zero, List.set_cons_succ]
                refine wpAny_ready (rs := [1]) (by kernel_rfl) (by simp) ?_
                refine (AllReady.cons (by simp only [List.getElem?_toArray, List.getElem?_cons_succ, List.getElem?_cons_zero]; rfl) (fun K hK => ?_) AllReady.nil)
                rw [if_pos (by rfl)]
                refine wp_load_row TSp (.tmp 8) rfl q rfl TSp #[.int .i64 (ee : Nat), .int .i64 (pp : Nat)] (0, 0) _ HX2.out Try.underlying30 rfl (by kernel_rfl) ?_
                refine hK _ _ ?_
                clear hK K
                try simp only [Act.put, List.setIfInBounds_toArray, List.set_cons_zero, List.set_cons_succ]
                refine wpAny_ready (rs := [3]) (by kernel_rfl) (by simp) ?_
                refine (AllReady.cons (by simp only [List.getElem?_toArray, List.getElem?_cons_succ, List.getElem?_cons_zero]; rfl) (fun K hK => ?_) AllReady.nil)
                rw [if_pos (by rfl)]
                refine wp_store_row TSp (.tmp 3) (.tmp 70) rfl (g + 1) #[.int .i64 (ee : Nat), .int .i64 (pp : Nat)] rfl rfl TSp _ HS2.out (by kernel_rfl) rfl (spot_one _ _) ?_
                refine hK _ _ ?_
                clear hK K
                try simp only [Act.put, List.setIfInBounds_toArray, List.set_cons_zero, List.set_cons_succ]
                refine wpAny_done (by kernel_rfl) ?_ _
                go_wp2_with fail
                refine bodyPost_ret (results_rows rfl _ _ g (g + 1) (zeroMsg.cells A0).toArray #[.int .i64 (ee : Nat), .int .i64 (pp : Nat)] rfl rfl ((setRow_other _ _ _ _ (by omega)).trans (setRow_heap _ _ _ _ _ _ HM21.out)) (setRow_heap _ _ _ _ _ _ HS2.out) (by kernel_rfl) (by kernel_rfl)) rfl ?_
                have hBF := ((HD21.out.2.2.2.drew).trans (below_setRow W21.drew g (zeroMsg.cells A0).toArray (by have := HG.out; omega))).trans (below_setRow _ (g + 1) #[.int .i64 (ee : Nat), .int .i64 (pp : Nat)] (by have := HG.out; omega))
                exact ⟨none, 0, by rw [HDC.out]; rfl, by rw [HDC.out]; exact fun j hj => absurd hj (Nat.not_lt_zero _), hBF⟩
      · have h4i : ¬ (cn : Int) ≤ 4 := by omega
        go_wp2_with fail
        go_loopw [49] (fun i wr => ∃ (k : Nat) (v : Value), k ≤ 4 ∧ i = .int .i64 k ∧ Hid (DS w g gr s wr MD v (entsR s.data.toList k (st8 s.data.toList)).2) ∧ Hid (World.ownsRow wr (gr + 1) TE 2 v k (eCells (entsR s.data.toList k (st8 s.data.toList)).1))) (fun i _ => 4 - (intOf i).toNat)
        case atStart => exact ⟨0, A0, by omega, rfl, HD18, Lib.hid (World.ownsRow_nil _ _ _ _)⟩
        case round =>
          obtain ⟨k, u9, hk4, rfl, HD, HO⟩ := hrel
          clear HD18
          by_cases hlt : k < 4
          · have hlt2 : (k : Int) < 4 := by omega
            have hx := num_lt s.data.toList 8 (entsR s.data.toList k (st8 s.data.toList)).2
            have hsn1 : (entsR s.data.toList (k + 1) (st8 s.data.toList)).1 = (entsR s.data.toList k (st8 s.data.toList)).1 ++ [((((WM.num s.data.toList 8 (entsR s.data.toList k (st8 s.data.toList)).2).1 % p63 : Nat) : Int), bs (WM.textR s.data.toList 3500 (WM.num s.data.toList 8 (entsR s.data.toList k (st8 s.data.toList)).2).2).1)] := rfl
            have hsn2 : (entsR s.data.toList (k + 1) (st8 s.data.toList)).2 = (WM.textR s.data.toList 3500 (WM.num s.data.toList 8 (entsR s.data.toList k (st8 s.data.toList)).2).2).2 := rfl
            have HSN1 := Lib.hid hsn1; have HSN2 := Lib.hid hsn2
            clear hsn1 hsn2
            generalize (entsR s.data.toList k (st8 s.data.toList)).1 = el at *
            generalize (entsR s.data.toList k (st8 s.data.toList)).2 = stk at *
            obtain ⟨x, hxe⟩ : ∃ x, (WM.num s.data.toList 8 stk).1 = x := ⟨_, rfl⟩
            obtain ⟨tx, htx⟩ : ∃ tx, bs (WM.textR s.data.toList 3500 (WM.num s.data.toList 8 stk).2).1 = tx := ⟨_, rfl⟩
            rw [hxe, htx] at HSN1
            rw [hxe] at hx
            have HWA := Lib.hid (wrap_and2 x (by simpa using hx))
            obtain ⟨y, hy⟩ : ∃ y : Int, ((x % p63 : Nat) : Int) = y := ⟨_, rfl⟩
            rw [hy] at HSN1 HWA
            clear hy
            have HX := Lib.hid hxe; have HTX := Lib.hid htx
            clear hxe htx hx
            have HE0 : Hid (DS w g gr s wr.drew MD u9 stk) := Lib.hid HD.out.drew
            have HQ0 : Hid (World.ownsRow wr.drew (gr + 1) TE 2 u9 k (eCells el)) := HO
            clear HD HO
            have hcA := HE0.out.1.cell 9 _ rfl
            have hkk : k < 5 := by omega
            go_wp2_with fail
            refine wp_region_any (by kernel_rfl) ?_
            change wpAny _ _ _ _ _ _ _ wr.drew
            refine wpAny_take (i := 0) (v := ?_) (by simp only [List.getElem?_toArray, List.getElem?_cons_succ, List.getElem?_cons_zero]; rfl) (by kernel_rfl) (by kernel_rfl) (by kernel_rfl) (by exact fun _ _ _ h => h) (Or.inl ⟨by rfl, ?_⟩) ?_
            rotate_left
            · (intro w; go_simp)
              try with_reducible rfl
            try simp only [Act.put, List.setIfInBounds_toArray, List.set_cons_zero, List.set_cons_succ]
            refine wpAny_take (i := 2) (v := ?_) (by simp only [List.getElem?_toArray, List.getElem?_cons_succ, List.getElem?_cons_zero]; rfl) (by kernel_rfl) (by kernel_rfl) (by kernel_rfl) (by exact fun _ _ _ h => h) (Or.inl ⟨by rfl, ?_⟩) ?_
            rotate_left
            · (intro w; go_simp)
              try with_reducible rfl
            try simp only [Act.put, List.setIfInBounds_toArray, List.set_cons_zero, List.set_cons_succ]
            refine wpAny_take (i := 6) (v := ?_) (by simp only [List.getElem?_toArray, List.getElem?_cons_succ, List.getElem?_cons_zero]; rfl) (by kernel_rfl) (by kernel_rfl) (by kernel_rfl) (by exact fun _ _ _ h => h) (Or.inl ⟨by rfl, ?_⟩) ?_
            rotate_left
            · (intro w; go_simp)
              try with_reducible rfl
            try simp only [Act.put, List.setIfInBounds_toArray, List.set_cons_zero, List.set_cons_succ]
            refine wpAny_ready (rs := [1, 3]) (by kernel_rfl) (by simp) ?_
            refine (AllReady.cons (by simp only [List.getElem?_toArray, List.getElem?_cons_succ, List.getElem?_cons_zero]; rfl) (fun K hK => ?_) (AllReady.cons (by simp only [List.getElem?_toArray, List.getElem?_cons_succ, List.getElem?_cons_zero]; rfl) (fun K hK => ?_) AllReady.nil))
            · go_simp
              refine hK _ _ ?_
              clear hK K
              try simp only [Act.put, List.setIfInBounds_toArray, List.set_cons_zero, List.set_cons_succ]
              refine wpAny_ready (rs := [3]) (by kernel_rfl) (by simp) ?_
              refine (AllReady.cons (by simp only [List.getElem?_toArray, List.getElem?_cons_succ, List.getElem?_cons_zero]; rfl) (fun K hK => ?_) AllReady.nil)
              go_simp
              refine (rdU64_any gr s _ (wr.drew) HE0.out.2.2.1 hs).mono ?_
              rintro e w1a ⟨rfl, hrr, hgg⟩
              have HE1 := Lib.hid (HE0.out.read hgr HG.out hrr hgg)
              have HQ1 := Lib.hid (World.ownsRow.kept HQ0.out hgg (own_ne HQ0.out))
              clear hrr hgg
              rw [HX.out]
              try clear hcA
              simp only []
              refine hK _ _ ?_
              clear hK K
              try simp only [Act.put, List.setIfInBounds_toArray, List.set_cons_zero, List.set_cons_succ]
              refine wpAny_take (i := 4) (v := ?_) (by simp only [List.getElem?_toArray, List.getElem?_cons_succ, List.getElem?_cons_zero]; rfl) (by kernel_rfl) (by kernel_rfl) (by kernel_rfl) (by exact fun _ _ _ h => h) (Or.inl ⟨by rfl, ?_⟩) ?_
              rotate_left
              · (intro w; go_simp)
                try with_reducible rfl
              try simp only [Act.put, List.setIfInBounds_toArray, List.set_cons_zero, List.set_cons_succ]
              refine wpAny_take (i := 5) (v := ?_) (by simp only [List.getElem?_toArray, List.getElem?_cons_succ, List.getElem?_cons_zero]; rfl) (by kernel_rfl) (by kernel_rfl) (by kernel_rfl) (by exact fun _ _ _ h => h) (Or.inl ⟨by rfl, ?_⟩) ?_
              rotate_left
              · (intro w; go_simp)
                try with_reducible rfl
              try simp only [Act.put, List.setIfInBounds_toArray, List.set_cons_zero, List.set_cons_succ]
              rw [HWA.out]
              refine wpAny_ready (rs := [7]) (by kernel_rfl) (by simp) ?_
              refine (AllReady.cons (by simp only [List.getElem?_toArray, List.getElem?_cons_succ, List.getElem?_cons_zero]; rfl) (fun K hK => ?_) AllReady.nil)
              go_simp
              refine (rdText_any gr 3500 s _ (w1a) HE1.out.2.2.1 hs).mono ?_
              rintro e w2a ⟨rfl, hrr, hgg⟩
              have HE2 := Lib.hid (HE1.out.read hgr HG.out hrr hgg)
              have HQ2 := Lib.hid (World.ownsRow.kept HQ1.out hgg (own_ne HQ1.out))
              clear hrr hgg
              rw [HTX.out]
              try clear hcA
              simp only []
              refine hK _ _ ?_
              clear hK K
              try simp only [Act.put, List.setIfInBounds_toArray, List.set_cons_zero, List.set_cons_succ]
              refine wpAny_take (i := 8) (v := ?_) (by simp only [List.getElem?_toArray, List.getElem?_cons_succ, List.getElem?_cons_zero]; rfl) (by kernel_rfl) (by kernel_rfl) (by kernel_rfl) (by exact fun _ _ _ h => h) (Or.inl ⟨by rfl, ?_⟩) ?_
              rotate_left
              · (intro w; go_simp)
                try with_reducible rfl
              try simp only [Act.put, List.setIfInBounds_toArray, List.set_cons_zero, List.set_cons_succ]
              refine wpAny_ready (rs := [9]) (by kernel_rfl) (by simp) ?_
              refine (AllReady.cons (by simp only [List.getElem?_toArray, List.getElem?_cons_succ, List.getElem?_cons_zero]; rfl) (fun K hK => ?_) AllReady.nil)
              go_simp
              refine hK _ _ ?_
              clear hK K
              try simp only [Act.put, List.setIfInBounds_toArray, List.set_cons_zero, List.set_cons_succ]
              have HE3 : Hid (DS w g gr s (w2a.alloc (.cells #[.int .i64 y, .string tx] TE)) MD u9 _) := Lib.hid (HE2.out.below HG.out (below_new w2a _))
              have HQ3 : Hid (World.ownsRow (w2a.alloc (.cells #[.int .i64 y, .string tx] TE)) (gr + 1) TE 2 u9 k (eCells el)) := Lib.hid (World.ownsRow.alloc HQ2.out _)
              try clear hcA
              refine wpAny_ready (rs := [10]) (by kernel_rfl) (by simp) ?_
              refine (AllReady.cons (by simp only [List.getElem?_toArray, List.getElem?_cons_succ, List.getElem?_cons_zero]; rfl) (fun K hK => ?_) AllReady.nil)
              rw [if_pos (by rfl)]
              refine wp_append_own _ (.tmp 52) (.tmp 60) 23 rfl (gr + 1) TE i0 (.agg #[.int .i64 0, .string ByteArray.empty]) 2 24 Try.underlying23 hi0 hz0 hz1 hz2 rfl (by decide) u9 k _ rfl HQ3.out ⟨w2a.heap.size, 0, none⟩ 1 1 [.int .i64 y, .string tx] rfl rfl (two_new _ _ _ _) (two_one _ _) (by unfold maxLen; omega) (by omega) HE3.out.2.2.1.lt ?_
              intro v' w4b hown' hgrow _
              obtain ⟨gq, cq, rfl⟩ := own_succ hown'
              have HE4 := Lib.hid (HE3.out.other hgr HG.out hgrow (fun j e => (World.ownsRow.lt HQ3.out j e).1))
              have HQ4 : Hid (World.ownsRow w4b (gr + 1) TE 2 (.slice (some ⟨gq, 0, none⟩) (k + 1) cq) (k + 1) (eCells (el ++ [(y, tx)]))) := Lib.hid (by rw [eCells_snoc]; exact hown')
              have hc9 := HE4.out.1.cell 9 _ rfl
              have hf9 := HE4.out.frozen 9
              clear hown' hgrow
              refine hK _ _ ?_
              clear hK K
              try simp only [Act.put, List.setIfInBounds_toArray, List.set_cons_zero, List.set_cons_succ]
              refine wpAny_take (i := 11) (v := ?_) (by simp only [List.getElem?_toArray, List.getElem?_cons_succ, List.getElem?_cons_zero]; rfl) (by kernel_rfl) (by kernel_rfl) (by kernel_rfl) (by exact fun _ _ _ h => h) (Or.inl ⟨by rfl, ?_⟩) ?_
              rotate_left
              · (intro w; go_simp)
                try with_reducible rfl
              try simp only [Act.put, List.setIfInBounds_toArray, List.set_cons_zero, List.set_cons_succ]
              refine wpAny_ready (rs := [12]) (by kernel_rfl) (by simp) ?_
              refine (AllReady.cons (by simp only [List.getElem?_toArray, List.getElem?_cons_succ, List.getElem?_cons_zero]; rfl) (fun K hK => ?_) AllReady.nil)
              go_simp
              refine hK _ _ ?_
              clear hK K
              try simp only [Act.put, List.setIfInBounds_toArray, List.set_cons_zero, List.set_cons_succ]
              refine wpAny_done (by kernel_rfl) ?_ _
              clear hc9 hf9
              have HEf := Lib.hid (HE4.out.set (m' := MD) (A' := .slice (some ⟨gq, 0, none⟩) (k + 1) cq) hgr HG.out 9 (.slice (some ⟨gq, 0, none⟩) (k + 1) cq) rfl)
              have HQf := Lib.hid (World.ownsRow.kept HQ4.out (grown_set9 w4b g (.slice (some ⟨gq, 0, none⟩) (k + 1) cq)) (own_ne2 HQ4.out (by omega)))
              go_wp2_with fail
              exact ⟨⟨k + 1, .slice (some ⟨gq, 0, none⟩) (k + 1) cq, by omega, by go_num, by rw [HSN2.out]; exact HEf, by rw [HSN1.out]; exact HQf⟩, by simp [intOf]; omega⟩
            · go_simp
              refine (rdU64_any gr s _ (wr.drew) HE0.out.2.2.1 hs).mono ?_
              rintro e w1a ⟨rfl, hrr, hgg⟩
              have HE1 := Lib.hid (HE0.out.read hgr HG.out hrr hgg)
              have HQ1 := Lib.hid (World.ownsRow.kept HQ0.out hgg (own_ne HQ0.out))
              clear hrr hgg
              rw [HX.out]
              try clear hcA
              have hcA := HE1.out.1.cell 9 _ rfl
              simp only []
              refine hK _ _ ?_
              clear hK K
              try simp only [Act.put, List.setIfInBounds_toArray, List.set_cons_zero, List.set_cons_succ]
              refine wpAny_take (i := 4) (v := ?_) (by simp only [List.getElem?_toArray, List.getElem?_cons_succ, List.getElem?_cons_zero]; rfl) (by kernel_rfl) (by kernel_rfl) (by kernel_rfl) (by exact fun _ _ _ h => h) (Or.inl ⟨by rfl, ?_⟩) ?_
              rotate_left
              · (intro w; go_simp)
                try with_reducible rfl
              try simp only [Act.put, List.setIfInBounds_toArray, List.set_cons_zero, List.set_cons_succ]
              refine wpAny_take (i := 5) (v := ?_) (by simp only [List.getElem?_toArray, List.getElem?_cons_succ, List.getElem?_cons_zero]; rfl) (by kernel_rfl) (by kernel_rfl) (by kernel_rfl) (by exact fun _ _ _ h => h) (Or.inl ⟨by rfl, ?_⟩) ?_
              rotate_left
              · (intro w; go_simp)
                try with_reducible rfl
              try simp only [Act.put, List.setIfInBounds_toArray, List.set_cons_zero, List.set_cons_succ]
              rw [HWA.out]
              refine wpAny_ready (rs := [1, 7]) (by kernel_rfl) (by simp) ?_
              refine (AllReady.cons (by simp only [List.getElem?_toArray, List.getElem?_cons_succ, List.getElem?_cons_zero]; rfl) (fun K hK => ?_) (AllReady.cons (by simp only [List.getElem?_toArray, List.getElem?_cons_succ, List.getElem?_cons_zero]; rfl) (fun K hK => ?_) AllReady.nil))
              · go_simp
                refine hK _ _ ?_
                clear hK K
                try simp only [Act.put, List.setIfInBounds_toArray, List.set_cons_zero, List.set_cons_succ]
                refine wpAny_ready (rs := [7]) (by kernel_rfl) (by simp) ?_
                refine (AllReady.cons (by simp only [List.getElem?_toArray, List.getElem?_cons_succ, List.getElem?_cons_zero]; rfl) (fun K hK => ?_) AllReady.nil)
                go_simp
                refine (rdText_any gr 3500 s _ (w1a) HE1.out.2.2.1 hs).mono ?_
                rintro e w2a ⟨rfl, hrr, hgg⟩
                have HE2 := Lib.hid (HE1.out.read hgr HG.out hrr hgg)
                have HQ2 := Lib.hid (World.ownsRow.kept HQ1.out hgg (own_ne HQ1.out))
                clear hrr hgg
                rw [HTX.out]
                try clear hcA
                simp only []
                refine hK _ _ ?_
                clear hK K
                try simp only [Act.put, List.setIfInBounds_toArray, List.set_cons_zero, List.set_cons_succ]
                refine wpAny_take (i := 8) (v := ?_) (by simp only [List.getElem?_toArray, List.getElem?_cons_succ, List.getElem?_cons_zero]; rfl) (by kernel_rfl) (by kernel_rfl) (by kernel_rfl) (by exact fun _ _ _ h => h) (Or.inl ⟨by rfl, ?_⟩) ?_
                rotate_left
                · (intro w; go_simp)
                  try with_reducible rfl
                try simp only [Act.put, List.setIfInBounds_toArray, List.set_cons_zero, List.set_cons_succ]
                refine wpAny_ready (rs := [9]) (by kernel_rfl) (by simp) ?_
                refine (AllReady.cons (by simp only [List.getElem?_toArray, List.getElem?_cons_succ, List.getElem?_cons_zero]; rfl) (fun K hK => ?_) AllReady.nil)
                go_simp
                refine hK _ _ ?_
                clear hK K
                try simp only [Act.put, List.setIfInBounds_toArray, List.set_cons_zero, List.set_cons_succ]
                have HE3 : Hid (DS w g gr s (w2a.alloc (.cells #[.int .i64 y, .string tx] TE)) MD u9 _) := Lib.hid (HE2.out.below HG.out (below_new w2a _))
                have HQ3 : Hid (World.ownsRow (w2a.alloc (.cells #[.int .i64 y, .string tx] TE)) (gr + 1) TE 2 u9 k (eCells el)) := Lib.hid (World.ownsRow.alloc HQ2.out _)
                try clear hcA
                refine wpAny_ready (rs := [10]) (by kernel_rfl) (by simp) ?_
                refine (AllReady.cons (by simp only [List.getElem?_toArray, List.getElem?_cons_succ, List.getElem?_cons_zero]; rfl) (fun K hK => ?_) AllReady.nil)
                rw [if_pos (by rfl)]
                refine wp_append_own _ (.tmp 52) (.tmp 60) 23 rfl (gr + 1) TE i0 (.agg #[.int .i64 0, .string ByteArray.empty]) 2 24 Try.underlying23 hi0 hz0 hz1 hz2 rfl (by decide) u9 k _ rfl HQ3.out ⟨w2a.heap.size, 0, none⟩ 1 1 [.int .i64 y, .string tx] rfl rfl (two_new _ _ _ _) (two_one _ _) (by unfold maxLen; omega) (by omega) HE3.out.2.2.1.lt ?_
                intro v' w4b hown' hgrow _
                obtain ⟨gq, cq, rfl⟩ := own_succ hown'
                have HE4 := Lib.hid (HE3.out.other hgr HG.out hgrow (fun j e => (World.ownsRow.lt HQ3.out j e).1))
                have HQ4 : Hid (World.ownsRow w4b (gr + 1) TE 2 (.slice (some ⟨gq, 0, none⟩) (k + 1) cq) (k + 1) (eCells (el ++ [(y, tx)]))) := Lib.hid (by rw [eCells_snoc]; exact hown')
                have hc9 := HE4.out.1.cell 9 _ rfl
                have hf9 := HE4.out.frozen 9
                clear hown' hgrow
                refine hK _ _ ?_
                clear hK K
                try simp only [Act.put, List.setIfInBounds_toArray, List.set_cons_zero, List.set_cons_succ]
                refine wpAny_take (i := 11) (v := ?_) (by simp only [List.getElem?_toArray, List.getElem?_cons_succ, List.getElem?_cons_zero]; rfl) (by kernel_rfl) (by kernel_rfl) (by kernel_rfl) (by exact fun _ _ _ h => h) (Or.inl ⟨by rfl, ?_⟩) ?_
                rotate_left
                · (intro w; go_simp)
                  try with_reducible rfl
                try simp only [Act.put, List.setIfInBounds_toArray, List.set_cons_zero, List.set_cons_succ]
                refine wpAny_ready (rs := [12]) (by kernel_rfl) (by simp) ?_
                refine (AllReady.cons (by simp only [List.getElem?_toArray, List.getElem?_cons_succ, List.getElem?_cons_zero]; rfl) (fun K hK => ?_) AllReady.nil)
                go_simp
                refine hK _ _ ?_
                clear hK K
                try simp only [Act.put, List.setIfInBounds_toArray, List.set_cons_zero, List.set_cons_succ]
                refine wpAny_done (by kernel_rfl) ?_ _
                clear hc9 hf9
                have HEf := Lib.hid (HE4.out.set (m' := MD) (A' := .slice (some ⟨gq, 0, none⟩) (k + 1) cq) hgr HG.out 9 (.slice (some ⟨gq, 0, none⟩) (k + 1) cq) rfl)
                have HQf := Lib.hid (World.ownsRow.kept HQ4.out (grown_set9 w4b g (.slice (some ⟨gq, 0, none⟩) (k + 1) cq)) (own_ne2 HQ4.out (by omega)))
                go_wp2_with fail
                exact ⟨⟨k + 1, .slice (some ⟨gq, 0, none⟩) (k + 1) cq, by omega, by go_num, by rw [HSN2.out]; exact HEf, by rw [HSN1.out]; exact HQf⟩, by simp [intOf]; omega⟩
              · go_simp
                refine (rdText_any gr 3500 s _ (w1a) HE1.out.2.2.1 hs).mono ?_
                rintro e w2a ⟨rfl, hrr, hgg⟩
                have HE2 := Lib.hid (HE1.out.read hgr HG.out hrr hgg)
                have HQ2 := Lib.hid (World.ownsRow.kept HQ1.out hgg (own_ne HQ1.out))
                clear hrr hgg
                rw [HTX.out]
                try clear hcA
                have hcA := HE2.out.1.cell 9 _ rfl
                simp only []
                refine hK _ _ ?_
                clear hK K
                try simp only [Act.put, List.setIfInBounds_toArray, List.set_cons_zero, List.set_cons_succ]
                refine wpAny_take (i := 8) (v := ?_) (by simp only [List.getElem?_toArray, List.getElem?_cons_succ, List.getElem?_cons_zero]; rfl) (by kernel_rfl) (by kernel_rfl) (by kernel_rfl) (by exact fun _ _ _ h => h) (Or.inl ⟨by rfl, ?_⟩) ?_
                rotate_left
                · (intro w; go_simp)
                  try with_reducible rfl
                try simp only [Act.put, List.setIfInBounds_toArray, List.set_cons_zero, List.set_cons_succ]
                refine wpAny_ready (rs := [1, 9]) (by kernel_rfl) (by simp) ?_
                refine (AllReady.cons (by simp only [List.getElem?_toArray, List.getElem?_cons_succ, List.getElem?_cons_zero]; rfl) (fun K hK => ?_) (AllReady.cons (by simp only [List.getElem?_toArray, List.getElem?_cons_succ, List.getElem?_cons_zero]; rfl) (fun K hK => ?_) AllReady.nil))
                · go_simp
                  refine hK _ _ ?_
                  clear hK K
                  try simp only [Act.put, List.setIfInBounds_toArray, List.set_cons_zero, List.set_cons_succ]
                  refine wpAny_ready (rs := [9]) (by kernel_rfl) (by simp) ?_
                  refine (AllReady.cons (by simp only [List.getElem?_toArray, List.getElem?_cons_succ, List.getElem?_cons_zero]; rfl) (fun K hK => ?_) AllReady.nil)
                  go_simp
                  refine hK _ _ ?_
                  clear hK K
                  try simp only [Act.put, List.setIfInBounds_toArray, List.set_cons_zero, List.set_cons_succ]
                  have HE3 : Hid (DS w g gr s (w2a.alloc (.cells #[.int .i64 y, .string tx] TE)) MD u9 _) := Lib.hid (HE2.out.below HG.out (below_new w2a _))
                  have HQ3 : Hid (World.ownsRow (w2a.alloc (.cells #[.int .i64 y, .string tx] TE)) (gr + 1) TE 2 u9 k (eCells el)) := Lib.hid (World.ownsRow.alloc HQ2.out _)
                  try clear hcA
                  refine wpAny_ready (rs := [10]) (by kernel_rfl) (by simp) ?_
                  refine (AllReady.cons (by simp only [List.getElem?_toArray, List.getElem?_cons_succ, List.getElem?_cons_zero]; rfl) (fun K hK => ?_) AllReady.nil)
                  rw [if_pos (by rfl)]
                  refine wp_append_own _ (.tmp 52) (.tmp 60) 23 rfl (gr + 1) TE i0 (.agg #[.int .i64 0, .string ByteArray.empty]) 2 24 Try.underlying23 hi0 hz0 hz1 hz2 rfl (by decide) u9 k _ rfl HQ3.out ⟨w2a.heap.size, 0, none⟩ 1 1 [.int .i64 y, .string tx] rfl rfl (two_new _ _ _ _) (two_one _ _) (by unfold maxLen; omega) (by omega) HE3.out.2.2.1.lt ?_
                  intro v' w4b hown' hgrow _
                  obtain ⟨gq, cq, rfl⟩ := own_succ hown'
                  have HE4 := Lib.hid (HE3.out.other hgr HG.out hgrow (fun j e => (World.ownsRow.lt HQ3.out j e).1))
                  have HQ4 : Hid (World.ownsRow w4b (gr + 1) TE 2 (.slice (some ⟨gq, 0, none⟩) (k + 1) cq) (k + 1) (eCells (el ++ [(y, tx)]))) := Lib.hid (by rw [eCells_snoc]; exact hown')
                  have hc9 := HE4.out.1.cell 9 _ rfl
                  have hf9 := HE4.out.frozen 9
                  clear hown' hgrow
                  refine hK _ _ ?_
                  clear hK K
                  try simp only [Act.put, List.setIfInBounds_toArray, List.set_cons_zero, List.set_cons_succ]
                  refine wpAny_take (i := 11) (v := ?_) (by simp only [List.getElem?_toArray, List.getElem?_cons_succ, List.getElem?_cons_zero]; rfl) (by kernel_rfl) (by kernel_rfl) (by kernel_rfl) (by exact fun _ _ _ h => h) (Or.inl ⟨by rfl, ?_⟩) ?_
                  rotate_left
                  · (intro w; go_simp)
                    try with_reducible rfl
                  try simp only [Act.put, List.setIfInBounds_toArray, List.set_cons_zero, List.set_cons_succ]
                  refine wpAny_ready (rs := [12]) (by kernel_rfl) (by simp) ?_
                  refine (AllReady.cons (by simp only [List.getElem?_toArray, List.getElem?_cons_succ, List.getElem?_cons_zero]; rfl) (fun K hK => ?_) AllReady.nil)
                  go_simp
                  refine hK _ _ ?_
                  clear hK K
                  try simp only [Act.put, List.setIfInBounds_toArray, List.set_cons_zero, List.set_cons_succ]
                  refine wpAny_done (by kernel_rfl) ?_ _
                  clear hc9 hf9
                  have HEf := Lib.hid (HE4.out.set (m' := MD) (A' := .slice (some ⟨gq, 0, none⟩) (k + 1) cq) hgr HG.out 9 (.slice (some ⟨gq, 0, none⟩) (k + 1) cq) rfl)
                  have HQf := Lib.hid (World.ownsRow.kept HQ4.out (grown_set9 w4b g (.slice (some ⟨gq, 0, none⟩) (k + 1) cq)) (own_ne2 HQ4.out (by omega)))
                  go_wp2_with fail
                  exact ⟨⟨k + 1, .slice (some ⟨gq, 0, none⟩) (k + 1) cq, by omega, by go_num, by rw [HSN2.out]; exact HEf, by rw [HSN1.out]; exact HQf⟩, by simp [intOf]; omega⟩
                · go_simp
                  refine hK _ _ ?_
                  clear hK K
                  try simp only [Act.put, List.setIfInBounds_toArray, List.set_cons_zero, List.set_cons_succ]
                  have HE3 : Hid (DS w g gr s (w2a.alloc (.cells #[.int .i64 y, .string tx] TE)) MD u9 _) := Lib.hid (HE2.out.below HG.out (below_new w2a _))
                  have HQ3 : Hid (World.ownsRow (w2a.alloc (.cells #[.int .i64 y, .string tx] TE)) (gr + 1) TE 2 u9 k (eCells el)) := Lib.hid (World.ownsRow.alloc HQ2.out _)
                  try clear hcA
                  have hcA := HE3.out.1.cell 9 _ rfl
                  refine wpAny_ready (rs := [1]) (by kernel_rfl) (by simp) ?_
                  refine (AllReady.cons (by simp only [List.getElem?_toArray, List.getElem?_cons_succ, List.getElem?_cons_zero]; rfl) (fun K hK => ?_) AllReady.nil)
                  go_simp
                  refine hK _ _ ?_
                  clear hK K
                  try simp only [Act.put, List.setIfInBounds_toArray, List.set_cons_zero, List.set_cons_succ]
                  refine wpAny_ready (rs := [10]) (by kernel_rfl) (by simp) ?_
                  refine (AllReady.cons (by simp only [List.getElem?_toArray, List.getElem?_cons_succ, List.getElem?_cons_zero]; rfl) (fun K hK => ?_) AllReady.nil)
                  rw [if_pos (by rfl)]
                  refine wp_append_own _ (.tmp 52) (.tmp 60) 23 rfl (gr + 1) TE i0 (.agg #[.int .i64 0, .string ByteArray.empty]) 2 24 Try.underlying23 hi0 hz0 hz1 hz2 rfl (by decide) u9 k _ rfl HQ3.out ⟨w2a.heap.size, 0, none⟩ 1 1 [.int .i64 y, .string tx] rfl rfl (two_new _ _ _ _) (two_one _ _) (by unfold maxLen; omega) (by omega) HE3.out.2.2.1.lt ?_
                  intro v' w4b hown' hgrow _
                  obtain ⟨gq, cq, rfl⟩ := own_succ hown'
                  have HE4 := Lib.hid (HE3.out.other hgr HG.out hgrow (fun j e => (World.ownsRow.lt HQ3.out j e).1))
                  have HQ4 : Hid (World.ownsRow w4b (gr + 1) TE 2 (.slice (some ⟨gq, 0, none⟩) (k + 1) cq) (k + 1) (eCells (el ++ [(y, tx)]))) := Lib.hid (by rw [eCells_snoc]; exact hown')
                  have hc9 := HE4.out.1.cell 9 _ rfl
                  have hf9 := HE4.out.frozen 9
                  clear hown' hgrow
                  refine hK _ _ ?_
                  clear hK K
                  try simp only [Act.put, List.setIfInBounds_toArray, List.set_cons_zero, List.set_cons_succ]
                  refine wpAny_take (i := 11) (v := ?_) (by simp only [List.getElem?_toArray, List.getElem?_cons_succ, List.getElem?_cons_zero]; rfl) (by kernel_rfl) (by kernel_rfl) (by kernel_rfl) (by exact fun _ _ _ h => h) (Or.inl ⟨by rfl, ?_⟩) ?_
                  rotate_left
                  · (intro w; go_simp)
                    try with_reducible rfl
                  try simp only [Act.put, List.setIfInBounds_toArray, List.set_cons_zero, List.set_cons_succ]
                  refine wpAny_ready (rs := [12]) (by kernel_rfl) (by simp) ?_
                  refine (AllReady.cons (by simp only [List.getElem?_toArray, List.getElem?_cons_succ, List.getElem?_cons_zero]; rfl) (fun K hK => ?_) AllReady.nil)
                  go_simp
                  refine hK _ _ ?_
                  clear hK K
                  try simp only [Act.put, List.setIfInBounds_toArray, List.set_cons_zero, List.set_cons_succ]
                  refine wpAny_done (by kernel_rfl) ?_ _
                  clear hc9 hf9
                  have HEf := Lib.hid (HE4.out.set (m' := MD) (A' := .slice (some ⟨gq, 0, none⟩) (k + 1) cq) hgr HG.out 9 (.slice (some ⟨gq, 0, none⟩) (k + 1) cq) rfl)
                  have HQf := Lib.hid (World.ownsRow.kept HQ4.out (grown_set9 w4b g (.slice (some ⟨gq, 0, none⟩) (k + 1) cq)) (own_ne2 HQ4.out (by omega)))
                  go_wp2_with fail
                  exact ⟨⟨k + 1, .slice (some ⟨gq, 0, none⟩) (k + 1) cq, by omega, by go_num, by rw [HSN2.out]; exact HEf, by rw [HSN1.out]; exact HQf⟩, by simp [intOf]; omega⟩
          · have hkc : k = 4 := by omega
            have HKC := Lib.hid hkc
            have hge : ¬ ((k : Int) < 4) := by omega
            clear hlt hk4 hkc
            have hcnt : cnt s.data.toList = cn := HCN.out
            have hkm : k = min (cnt s.data.toList) 4 := by rw [hcnt]; have := HKC.out; omega
            have hk4 : k ≤ 4 := by have := HKC.out; omega
            have hents : (entsR s.data.toList k (st8 s.data.toList)).1 = (rawMsg s.data.toList).ents := by rw [hkm]; rfl
            have hlen : (rawMsg s.data.toList).ents.length = k := by rw [← hents]; exact entsR_len _ _ _
            have hend : (entsR s.data.toList k (st8 s.data.toList)).2 = rawEnd s.data.toList := by rw [hkm]; rfl
            rw [hents] at HO
            rw [hend] at HD
            obtain ⟨A, cc, rfl, hea, hlo⟩ := own_entries hlen HO.out
            have HLO := Lib.hid hlo
            clear hlo
            have hcells : MD.cells (.slice A k cc) = (rawMsg s.data.toList).cells (.slice A k cc) := by
              rw [← HMD.out, ← HMH.out, ← HGD.out, ← HOP.out, ← HER.out, ← HLE.out, ← HT.out]; rfl
            have hmb := HD.out.1
            unfold MB at hmb
            rw [hcells] at hmb
            have HDR : Hid (DS w g gr s wr (rawMsg s.data.toList) (.slice A k cc) (rawEnd s.data.toList)) := Lib.hid ⟨hmb, HD.out.2⟩
            have HEA := Lib.hid hea
            have HLN := Lib.hid hlen
            clear hcnt hkm hents hlen hend hcells hmb hea HD HO HKC HMD HMH HGD HOP HER HLE HT HCN HPA
            have hk1 := num_lt s.data.toList 1 (.ok 0)
            have hk2 := num_lt s.data.toList 1 (st3 s.data.toList)
            have HK : Hid ((rawMsg s.data.toList).kind < 256 ∧ (rawMsg s.data.toList).op < 256) := Lib.hid ⟨by simpa [rawMsg] using hk1, by simpa [rawMsg] using hk2⟩
            clear hk1 hk2
            go_wp2_with fail
            refine (rdEnd_any gr s _ wr HDR.out.2.2.1 hs).mono ?_
            rintro e w20 ⟨rfl, hb20⟩
            have HD20 := Lib.hid (HDR.out.below HG.out hb20)
            have HEA20 := Lib.hid (HEA.out.on hb20)
            clear hb20 HDR HEA
            have hdec : decode s = if (endOf s (rawEnd s.data.toList)).1 ≠ 0 then (zeroMsg, endOf s (rawEnd s.data.toList)) else if (rawMsg s.data.toList).check ≠ 0 ∨ (rawMsg s.data.toList).form ≠ s.data.toList then (zeroMsg, 7, 0) else (rawMsg s.data.toList, 0, 0) := rfl
            generalize endOf s (rawEnd s.data.toList) = ep at *
            obtain ⟨ee, pp⟩ := ep
            simp only [] at hdec ⊢
            have HDEC := Lib.hid hdec
            clear hdec
            have hal := below_new w20 (.cells #[.int .i64 (ee : Nat), .int .i64 (pp : Nat)] TSp)
            have HD21 := Lib.hid (HD20.out.below HG.out hal)
            have HEA21 := Lib.hid (HEA20.out.on hal)
            have hbox : (w20.alloc (.cells #[.int .i64 (ee : Nat), .int .i64 (pp : Nat)] TSp)).heap[w20.heap.size]? = some (.cells #[.int .i64 (ee : Nat), .int .i64 (pp : Nat)] TSp (0, 0)) := heap_alloc_new w20 _
            have HBX := Lib.hid hbox
            have hqg := lt_of_block HD20.out.1
            clear hal hbox HD20 HEA20
            by_cases he : ee = 0
            · subst he
              have hm21 := HD21.out.1
              unfold MB at hm21
              have HM21 := Lib.hid hm21
              clear hm21
              go_wp2_with (refine wpList_load_row rfl TM (.tmp 2) rfl g rfl TM _ (0, 0) _ HM21.out Try.underlying28 rfl (by kernel_rfl) ?_)
              have hen := encode_any (rawMsg s.data.toList) A cc _ HEA21.out (by rw [HLN.out]; omega) HK.out.1 HK.out.2
              rw [HLN.out] at hen
              have HEN := Lib.hid hen
              clear hen
              generalize w20.alloc (.cells #[.int .i64 ((0 : Nat) : Int), .int .i64 (pp : Nat)] TSp) = W21 at *
              refine HEN.out.mono ?_
              rintro e w22 ⟨rfl, hb22⟩
              have HD22 := Lib.hid (HD21.out.below HG.out hb22)
              have heo := EArg.on HEA21.out hb22
              have HEA22 := Lib.hid heo
              clear hb22 HD21 HEN heo HEA21 HM21 HBX
              have hdec := HDEC.out
              rw [if_neg (by simp)] at hdec
              have HDC := Lib.hid hdec
              clear hdec HDEC
              have hm22 := HD22.out.1
              unfold MB at hm22
              have hs22 := HD22.out.2.1
              have HM22 := Lib.hid hm22; have HS22 := Lib.hid hs22
              have hlt22 := lt_of_block hm22
              clear hm22 hs22
              by_cases hck : (rawMsg s.data.toList).check = 0
              · have hout : (rawMsg s.data.toList).out = .tuple #[.string (bs (rawMsg s.data.toList).form), .int .i64 0] := by unfold Msg.out; rw [if_pos hck]
                rw [hout]
                by_cases hfm : (rawMsg s.data.toList).form = s.data.toList
                · have hdec := HDC.out
                  rw [if_neg (by rintro (h | h) <;> first | exact h hck | exact h hfm)] at hdec
                  have HDD := Lib.hid hdec
                  have hbs : bs (rawMsg s.data.toList).form = s := by rw [hfm]; rfl
                  rw [hbs]
                  have e1 := str_eq (a := s) rfl
                  have hS2 : (w22.setRow g ((rawMsg s.data.toList).cells (.slice A k cc)).toArray).heap[g + 1]? = some (.cells #[.int .i64 0, .int .i64 0] TSp (0, 0)) := (setRow_other _ _ _ _ (by omega)).trans HS22.out
                  have HS2 := Lib.hid hS2
                  clear hdec HDC hbs hS2 hck hfm hout
                  go_wp2_with (first
                    | (refine wpList_load_row rfl TM (.tmp 2) rfl g rfl TM _ (0, 0) _ HM22.out Try.underlying28 rfl (by kernel_rfl) ?_)
                    | (refine wpList_store_row rfl TM (.tmp 2) (.tmp 85) rfl g ((rawMsg s.data.toList).cells (.slice A k cc)).toArray rfl rfl TM _ HM22.out (by kernel_rfl) rfl (cells_one _ _ _ _) ?_)
                    | (refine wpList_store_row rfl TSp (.tmp 3) (.tmp 86) rfl (g + 1) #[.int .i64 0, .int .i64 0] rfl rfl TSp _ HS2.out (by kernel_rfl) rfl (spot_one _ _) ?_))
                  refine bodyPost_ret (results_rows rfl _ _ g (g + 1) ((rawMsg s.data.toList).cells (.slice A k cc)).toArray #[.int .i64 0, .int .i64 0] rfl rfl ((setRow_other _ _ _ _ (by omega)).trans (setRow_heap _ _ _ _ _ _ HM22.out)) (setRow_heap _ _ _ _ _ _ HS2.out) (by kernel_rfl) (by kernel_rfl)) rfl ?_
                  have hBF := ((HD22.out.2.2.2).trans (below_setRow w22 g ((rawMsg s.data.toList).cells (.slice A k cc)).toArray (by have := HG.out; omega))).trans (below_setRow _ (g + 1) #[.int .i64 0, .int .i64 0] (by have := HG.out; omega))
                  refine ⟨A, cc, ?_, ?_, hBF⟩
                  · rw [HDD.out, HLN.out]; rfl
                  · rw [HDD.out]
                    exact (EArg.row (EArg.row HEA22.out (fun ad e => by have := HLO.out ad e; omega) _) (fun ad e => by have := HLO.out ad e; omega) _)
                · have hdec := HDC.out
                  rw [if_pos (Or.inr hfm)] at hdec
                  have HDD := Lib.hid hdec
                  have e1 := str_ne (a := bs (rawMsg s.data.toList).form) (b := s) (fun h => hfm (by have h2 := congrArg (fun b : ByteArray => b.data.toList) h; simpa only [bs_list] using h2))
                  clear hdec HDC hck hfm hout
                  have hS2 : (w22.setRow g (zeroMsg.cells A0).toArray).heap[g + 1]? = some (.cells #[.int .i64 0, .int .i64 0] TSp (0, 0)) := (setRow_other _ _ _ _ (by omega)).trans HS22.out
                  have HS2 := Lib.hid hS2
                  clear hS2
                  go_wp2_with (first
                    | (refine wpList_store_row rfl TM (.tmp 2) (.tmp 83) rfl g (zeroMsg.cells A0).toArray rfl rfl TM _ HM22.out (by kernel_rfl) rfl (cells_one _ _ _ _) ?_)
                    | (refine wpList_store_row rfl TSp (.tmp 3) (.tmp 84) rfl (g + 1) #[.int .i64 7, .int .i64 0] rfl rfl TSp _ HS2.out (by kernel_rfl) rfl (spot_one _ _) ?_))
                  refine bodyPost_ret (results_rows rfl _ _ g (g + 1) (zeroMsg.cells A0).toArray #[.int .i64 7, .int .i64 0] rfl rfl ((setRow_other _ _ _ _ (by omega)).trans (setRow_heap _ _ _ _ _ _ HM22.out)) (setRow_heap _ _ _ _ _ _ HS2.out) (by kernel_rfl) (by kernel_rfl)) rfl ?_
                  have hBF := ((HD22.out.2.2.2).trans (below_setRow w22 g (zeroMsg.cells A0).toArray (by have := HG.out; omega))).trans (below_setRow _ (g + 1) #[.int .i64 7, .int .i64 0] (by have := HG.out; omega))
                  exact ⟨none, 0, by rw [HDD.out]; rfl, by rw [HDD.out]; exact fun j hj => absurd hj (Nat.not_lt_zero _), hBF⟩
              · have hout : (rawMsg s.data.toList).out = .tuple #[.string ⟨#[]⟩, .int .i64 ((rawMsg s.data.toList).check : Nat)] := by unfold Msg.out; rw [if_neg hck]
                rw [hout]
                have hdec := HDC.out
                rw [if_pos (Or.inl hck)] at hdec
                have HDD := Lib.hid hdec
                obtain ⟨ck, hcke⟩ : ∃ ck, (rawMsg s.data.toList).check = ck := ⟨_, rfl⟩
                rw [hcke] at hck ⊢
                have e1 : ((ck : Int) != 0) = true := by rw [bne_iff_ne]; omega
                clear hdec HDC hck hout hcke
                have hS2 : (w22.setRow g (zeroMsg.cells A0).toArray).heap[g + 1]? = some (.cells #[.int .i64 0, .int .i64 0] TSp (0, 0)) := (setRow_other _ _ _ _ (by omega)).trans HS22.out
                have HS2 := Lib.hid hS2
                clear hS2
                go_wp2_with (first
                  | (refine wpList_store_row rfl TM (.tmp 2) (.tmp 83) rfl g (zeroMsg.cells A0).toArray rfl rfl TM _ HM22.out (by kernel_rfl) rfl (cells_one _ _ _ _) ?_)
                  | (refine wpList_store_row rfl TSp (.tmp 3) (.tmp 84) rfl (g + 1) #[.int .i64 7, .int .i64 0] rfl rfl TSp _ HS2.out (by kernel_rfl) rfl (spot_one _ _) ?_))
                refine bodyPost_ret (results_rows rfl _ _ g (g + 1) (zeroMsg.cells A0).toArray #[.int .i64 7, .int .i64 0] rfl rfl ((setRow_other _ _ _ _ (by omega)).trans (setRow_heap _ _ _ _ _ _ HM22.out)) (setRow_heap _ _ _ _ _ _ HS2.out) (by kernel_rfl) (by kernel_rfl)) rfl ?_
                have hBF := ((HD22.out.2.2.2).trans (below_setRow w22 g (zeroMsg.cells A0).toArray (by have := HG.out; omega))).trans (below_setRow _ (g + 1) #[.int .i64 7, .int .i64 0] (by have := HG.out; omega))
                exact ⟨none, 0, by rw [HDD.out]; rfl, by rw [HDD.out]; exact fun j hj => absurd hj (Nat.not_lt_zero _), hBF⟩
            · have he1 : ((ee : Int) != 0) = true := by rw [bne_iff_ne]; omega
              have hdec := HDEC.out
              rw [if_pos he] at hdec
              have HDC := Lib.hid hdec
              clear hdec HDEC
              have hm21 := HD21.out.1
              unfold MB at hm21
              have hs21 := HD21.out.2.1
              have HM21 := Lib.hid hm21; have HS21 := Lib.hid hs21
              have hlt21 := lt_of_block hm21
              clear hm21 hs21
              go_wp2_with fail
              change Code.wp _ _ _ _ (w20.alloc (.cells #[.int .i64 (ee : Nat), .int .i64 (pp : Nat)] TSp))
              generalize w20.heap.size = q at *
              generalize w20.alloc (.cells #[.int .i64 (ee : Nat), .int .i64 (pp : Nat)] TSp) = W21 at *
              have hS2 : (W21.drew.setRow g (zeroMsg.cells A0).toArray).heap[g + 1]? = some (.cells #[.int .i64 0, .int .i64 0] TSp (0, 0)) := (setRow_other _ _ _ _ (by omega)).trans HS21.out
              have HS2 := Lib.hid hS2
              clear hS2
              refine wp_region_any (by kernel_rfl) ?_
              change wpAny _ _ _ _ _ _ _ W21.drew
              refine wpAny_take (i := 0) (v := ?_) (by simp only [List.getElem?_toArray, List.getElem?_cons_succ, List.getElem?_cons_zero]; rfl) (by kernel_rfl) (by kernel_rfl) (by kernel_rfl) (by exact fun _ _ _ h => h) (Or.inl ⟨by rfl, ?_⟩) ?_
              rotate_left
              · (intro w; go_simp)
                try with_reducible rfl
              try simp only [Act.put, List.setIfInBounds_toArray, List.set_cons_zero, List.set_cons_succ]
              have hX2 : (W21.drew.setRow g (zeroMsg.cells A0).toArray).heap[q]? = some (.cells #[.int .i64 (ee : Nat), .int .i64 (pp : Nat)] TSp (0, 0)) := (setRow_other _ _ _ _ (by omega)).trans HBX.out
              have HX2 := Lib.hid hX2
              clear hX2
              refine wpAny_ready (rs := [1, 2]) (by kernel_rfl) (by simp) ?_
              refine (AllReady.cons (by simp only [List.getElem?_toArray, List.getElem?_cons_succ, List.getElem?_cons_zero]; rfl) (fun K hK => ?_) (AllReady.cons (by simp only [List.getElem?_toArray, List.getElem?_cons_succ, List.getElem?_cons_zero]; rfl) (fun K hK => ?_) AllReady.nil))
              · rw [if_pos (by rfl)]
                refine wp_load_row TSp (.tmp 8) rfl q rfl TSp #[.int .i64 (ee : Nat), .int .i64 (pp : Nat)] (0, 0) _ HBX.out Try.underlying30 rfl (by kernel_rfl) ?_
                refine hK _ _ ?_
                clear hK K
                try simp only [Act.put, List.setIfInBounds_toArray, List.set_cons_zero, List.set_cons_succ]
                refine wpAny_ready (rs := [2]) (by kernel_rfl) (by simp) ?_
                refine (AllReady.cons (by simp only [List.getElem?_toArray, List.getElem?_cons_succ, List.getElem?_cons_zero]; rfl) (fun K hK => ?_) AllReady.nil)
                rw [if_pos (by rfl)]
                refine wp_store_row TM (.tmp 2) (.tmp 69) rfl g (zeroMsg.cells A0).toArray rfl rfl TM _ HM21.out (by kernel_rfl) rfl (cells_one _ _ _ _) ?_
                refine hK _ _ ?_
                clear hK K
                try simp only [Act.put, List.setIfInBounds_toArray, List.set_cons_zero, List.set_cons_succ]
                refine wpAny_ready (rs := [3]) (by kernel_rfl) (by simp) ?_
                refine (AllReady.cons (by simp only [List.getElem?_toArray, List.getElem?_cons_succ, List.getElem?_cons_zero]; rfl) (fun K hK => ?_) AllReady.nil)
                rw [if_pos (by rfl)]
                refine wp_store_row TSp (.tmp 3) (.tmp 70) rfl (g + 1) #[.int .i64 (ee : Nat), .int .i64 (pp : Nat)] rfl rfl TSp _ HS2.out (by kernel_rfl) rfl (spot_one _ _) ?_
                refine hK _ _ ?_
                clear hK K
                try simp only [Act.put, List.setIfInBounds_toArray, List.set_cons_zero, List.set_cons_succ]
                refine wpAny_done (by kernel_rfl) ?_ _
                go_wp2_with fail
                refine bodyPost_ret (results_rows rfl _ _ g (g + 1) (zeroMsg.cells A0).toArray #[.int .i64 (ee : Nat), .int .i64 (pp : Nat)] rfl rfl ((setRow_other _ _ _ _ (by omega)).trans (setRow_heap _ _ _ _ _ _ HM21.out)) (setRow_heap _ _ _ _ _ _ HS2.out) (by kernel_rfl) (by kernel_rfl)) rfl ?_
                have hBF := ((HD21.out.2.2.2.drew).trans (below_setRow W21.drew g (zeroMsg.cells A0).toArray (by have := HG.out; omega))).trans (below_setRow _ (g + 1) #[.int .i64 (ee : Nat), .int .i64 (pp : Nat)] (by have := HG.out; omega))
                exact ⟨none, 0, by rw [HDC.out]; rfl, by rw [HDC.out]; exact fun j hj => absurd hj (Nat.not_lt_zero _), hBF⟩
              · rw [if_pos (by rfl)]
                refine wp_store_row TM (.tmp 2) (.tmp 69) rfl g (zeroMsg.cells A0).toArray rfl rfl TM _ HM21.out (by kernel_rfl) rfl (cells_one _ _ _ _) ?_
                refine hK _ _ ?_
                clear hK K
                try simp only [Act.put, List.setIfInBounds_toArray, List.set_cons_zero, List.set_cons_succ]
                refine wpAny_ready (rs := [1]) (by kernel_rfl) (by simp) ?_
                refine (AllReady.cons (by simp only [List.getElem?_toArray, List.getElem?_cons_succ, List.getElem?_cons_zero]; rfl) (fun K hK => ?_) AllReady.nil)
                rw [if_pos (by rfl)]
                refine wp_load_row TSp (.tmp 8) rfl q rfl TSp #[.int .i64 (ee : Nat), .int .i64 (pp : Nat)] (0, 0) _ HX2.out Try.underlying30 rfl (by kernel_rfl) ?_
                refine hK _ _ ?_
                clear hK K
                try simp only [Act.put, List.setIfInBounds_toArray, List.set_cons_zero, List.set_cons_succ]
                refine wpAny_ready (rs := [3]) (by kernel_rfl) (by simp) ?_
                refine (AllReady.cons (by simp only [List.getElem?_toArray, List.getElem?_cons_succ, List.getElem?_cons_zero]; rfl) (fun K hK => ?_) AllReady.nil)
                rw [if_pos (by rfl)]
                refine wp_store_row TSp (.tmp 3) (.tmp 70) rfl (g + 1) #[.int .i64 (ee : Nat), .int .i64 (pp : Nat)] rfl rfl TSp _ HS2.out (by kernel_rfl) rfl (spot_one _ _) ?_
                refine hK _ _ ?_
                clear hK K
                try simp only [Act.put, List.setIfInBounds_toArray, List.set_cons_zero, List.set_cons_succ]
                refine wpAny_done (by kernel_rfl) ?_ _
                go_wp2_with fail
                refine bodyPost_ret (results_rows rfl _ _ g (g + 1) (zeroMsg.cells A0).toArray #[.int .i64 (ee : Nat), .int .i64 (pp : Nat)] rfl rfl ((setRow_other _ _ _ _ (by omega)).trans (setRow_heap _ _ _ _ _ _ HM21.out)) (setRow_heap _ _ _ _ _ _ HS2.out) (by kernel_rfl) (by kernel_rfl)) rfl ?_
                have hBF := ((HD21.out.2.2.2.drew).trans (below_setRow W21.drew g (zeroMsg.cells A0).toArray (by have := HG.out; omega))).trans (below_setRow _ (g + 1) #[.int .i64 (ee : Nat), .int .i64 (pp : Nat)] (by have := HG.out; omega))
                exact ⟨none, 0, by rw [HDC.out]; rfl, by rw [HDC.out]; exact fun j hj => absurd hj (Nat.not_lt_zero _), hBF⟩

end Go.Proofs.Ytbapifbahhjfgaa
