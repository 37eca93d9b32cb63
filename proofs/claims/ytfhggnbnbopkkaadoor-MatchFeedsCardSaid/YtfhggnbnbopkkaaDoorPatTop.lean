/- A pattern's tree: the walk of Tree, with its deferred closure. -/
import Derived.Test.YtfhggnbnbopkkaaDoorPatGlob
import Derived.Recover
import Derived.Defers
namespace Go.Proofs.YtfhggnbnbopkkaaDoor
open Go.RowKit PM
attribute [local go_sem] nodeC

def spotC (e k : Nat) : Array Value := #[.int .i64 e, .int .i64 k]

theorem assert_wrong (k : Int) (w : World) : (Instr.typeAssert (.iface TWr (.int .i64 k)) 20 TWr true).run Tryd.prog w = .ok (.tuple #[.int .i64 k, .bool true]) w := by
  kernel_rfl
theorem assert_none (w : World) : (Instr.typeAssert .nilIface 20 TWr true).run Tryd.prog w = .ok (.tuple #[.int .i64 0, .bool false]) w := by
  kernel_rfl

set_option maxRecDepth 100000 in
set_option maxHeartbeats 4000000 in
theorem treeCatch_some (b : Nat) (k : Nat) (old : Array Value) (w : World) (hb : w.heap[b]? = some (.cells old TN (0, 0))) (hs : w.heap[b + 1]? = some (.cells (spotC 0 0) TSp (0, 0))) (ho : old.size = 6) :
    CallsD Tryd.prog 51 #[.pointer (some ⟨b, 0, none⟩), .pointer (some ⟨b + 1, 0, none⟩)] (.panicking (wrongP k)) w fun e u' w' =>
      e = .returned (.tuple #[]) ∧ u' = .panicking [{ v := .iface TWr (.int .i64 k), recovered := true }] ∧ w' = (w.setRow b zN).setRow (b + 1) (spotC 6 k) := by
  refine callsD_of_wpS Tryd.func51 rfl fun c₀ cs hu => ?_
  unfold wrongP at hu
  have hta := assert_wrong k
  apply wpS_seq
  apply wpS_region
  simp [wpOpsS, go_sem, recoverD, hu, Tryd.ntmps51, Exit.thenS, hta]
  refine wpS_of_wp ?_
  simp only [Array.replicate_succ, Array.replicate_zero, List.push_toArray, List.append_toArray, List.nil_append, List.cons_append, List.setIfInBounds_toArray, List.set_cons_zero, List.set_cons_succ]
  have h2 : (w.setRow b zN).heap[b + 1]? = some (.cells (spotC 0 0) TSp (0, 0)) := (setRow_other _ _ _ _ (by omega)).trans hs
  obtain ⟨c0, c1, c2, c3, c4, c5, rfl⟩ : ∃ c0 c1 c2 c3 c4 c5, old = #[c0, c1, c2, c3, c4, c5] := by
    match old, ho with
    | ⟨[c0, c1, c2, c3, c4, c5]⟩, _ => exact ⟨c0, c1, c2, c3, c4, c5, rfl⟩
  have HB := Lib.hid hb; have HS := Lib.hid h2; have HU := Lib.hid hu
  clear hb hs h2 hu ho hta
  go_wp2_with (first | (refine wpList_store_row rfl TN (.tmp 0) (.tmp 10) rfl b zN rfl rfl TN _ HB.out (by kernel_rfl) rfl (by simp [zN, Value.oneCell']) ?_; change wpList _ _ _ _ _ (w.setRow b zN)) | (refine wpList_store_row rfl TSp (.tmp 1) (.tmp 12) rfl (b + 1) (spotC 6 k) rfl rfl TSp (spotC 0 0) HS.out (by kernel_rfl) rfl (by simp [spotC, Value.oneCell']) ?_))
  simp [bodyPostS, results, Tryd.results51, go_sem]

set_option maxRecDepth 100000 in
set_option maxHeartbeats 4000000 in
theorem treeCatch_idle (b : Nat) (w : World) :
    CallsD Tryd.prog 51 #[.pointer (some ⟨b, 0, none⟩), .pointer (some ⟨b + 1, 0, none⟩)] .returning w fun e u' w' => e = .returned (.tuple #[]) ∧ u' = .returning ∧ w' = w := by
  refine callsD_of_wpS Tryd.func51 rfl fun c₀ cs hu => ?_
  have hta := assert_none
  apply wpS_seq
  apply wpS_region
  simp [wpOpsS, go_sem, recoverD, hu, Tryd.ntmps51, Exit.thenS, hta]
  refine wpS_of_wp ?_
  simp only [Array.replicate_succ, Array.replicate_zero, List.push_toArray, List.append_toArray, List.nil_append, List.cons_append, List.setIfInBounds_toArray, List.set_cons_zero, List.set_cons_succ]
  clear hta
  have HU := Lib.hid hu
  clear hu
  go_wp2_with fail
  have hu := HU.out
  cases c₀
  simp_all [bodyPostS, results, Tryd.results51, go_sem]

/-- what Tree tells -/
def spotV (e k : Nat) : Value := .agg (spotC e k)
def TreeIs (w : World) (r : TR) (e : Ending) (w' : World) : Prop :=
  match r with
  | .ok t => ∃ K, e = .returned (.tuple #[nodeV t K, spotV 0 0]) ∧ IsT w' (fun b => w.heap.size ≤ b) K t ∧ Below w.heap.size w w'
  | .arg => e = .returned (.tuple #[.agg zN, spotV 2 0]) ∧ Below w.heap.size w w'
  | .long => e = .returned (.tuple #[.agg zN, spotV 3 64]) ∧ Below w.heap.size w w'
  | .bad k => e = .returned (.tuple #[.agg zN, spotV 6 k]) ∧ Below w.heap.size w w'

theorem results_rows2 {fn : Func} {p1 p2 : Tmp} {t1 t2 : TypeId} (h : fn.results = #[.cell p1 t1, .cell p2 t2]) (tmps : Array Value) (W : World) (b1 b2 : Nat) (X Y : Value)
    (h1 : tmps.getD p1 undef = .pointer (some ⟨b1, 0, none⟩)) (h2 : tmps.getD p2 undef = .pointer (some ⟨b2, 0, none⟩)) (l1 : (loadVar t1 ⟨b1, 0, none⟩).run Tryd.prog W = .ok X W) (l2 : (loadVar t2 ⟨b2, 0, none⟩).run Tryd.prog W = .ok Y W) :
    (results fn tmps).run Tryd.prog W = .ok (.tuple #[X, Y]) W := by
  have h1' : tmps[p1]?.getD undef = .pointer (some ⟨b1, 0, none⟩) := by simpa using h1
  have h2' : tmps[p2]?.getD undef = .pointer (some ⟨b2, 0, none⟩) := by simpa using h2
  simp [results, h, h1', h2', asAddr, l1, l2]

set_option maxRecDepth 100000 in
theorem size_info (X : Array Value) (h : X.size = 6) : (Tryd.prog.info? TN).map (·.size) = some X.size := by rw [h]; kernel_rfl
set_option maxRecDepth 100000 in
theorem size_info2 (Y : Array Value) (h : Y.size = 2) : (Tryd.prog.info? TSp).map (·.size) = some Y.size := by rw [h]; kernel_rfl
theorem load_node (W : World) (b : Nat) (X : Array Value) (h : W.heap[b]? = some (.cells X TN (0, 0))) (hX : X.size = 6) : (loadVar TN ⟨b, 0, none⟩).run Tryd.prog W = .ok (.agg X) W := run_loadVar_row W b TN TN X (0, 0) _ h Tryd.underlying66 rfl (size_info X hX)
theorem load_spot (W : World) (b : Nat) (X : Array Value) (h : W.heap[b]? = some (.cells X TSp (0, 0))) (hX : X.size = 2) : (loadVar TSp ⟨b, 0, none⟩).run Tryd.prog W = .ok (.agg X) W := run_loadVar_row W b TSp TSp X (0, 0) _ h Tryd.underlying68 rfl (size_info2 X hX)

/-- the deferred closure of Tree -/
def treeD (b : Nat) : Deferred := { target := .fn (.func 51) #[.pointer (some ⟨b, 0, none⟩), .pointer (some ⟨b + 1, 0, none⟩)], args := #[] }

theorem tree_door {W : World} {R : Ending → World → Prop} {tmps : Array Value} {X Y : Array Value} (b : Nat) (h2 : tmps.getD 2 undef = .pointer (some ⟨b, 0, none⟩)) (h3 : tmps.getD 3 undef = .pointer (some ⟨b + 1, 0, none⟩))
    (hX : W.heap[b]? = some (.cells X TN (0, 0))) (hX6 : X.size = 6) (hY : W.heap[b + 1]? = some (.cells Y TSp (0, 0))) (hY2 : Y.size = 2) (hR : R (.returned (.tuple #[.agg X, .agg Y])) W) :
    bodyPostD Tryd.prog Tryd.f34 R .ret { tmps := tmps, defers := [treeD b] } W := by
  refine leaves_cons (f := 51) (args := #[.pointer (some ⟨b, 0, none⟩), .pointer (some ⟨b + 1, 0, none⟩)]) (by simp) (by simp [go_sem]) ?_
  refine (treeCatch_idle b W).mono ?_
  rintro e u' w'' ⟨rfl, rfl, rfl⟩
  exact ⟨_, results_rows2 rfl _ _ b (b + 1) _ _ h2 h3 (load_node _ b X hX hX6) (load_spot _ (b + 1) Y hY hY2), hR⟩

theorem tree_door_bad {W : World} {R : Ending → World → Prop} {tmps : Array Value} {X : Array Value} (b k : Nat) (h2 : tmps.getD 2 undef = .pointer (some ⟨b, 0, none⟩)) (h3 : tmps.getD 3 undef = .pointer (some ⟨b + 1, 0, none⟩))
    (hX : W.heap[b]? = some (.cells X TN (0, 0))) (hX6 : X.size = 6) (hY : W.heap[b + 1]? = some (.cells (spotC 0 0) TSp (0, 0))) (hR : R (.returned (.tuple #[.agg zN, spotV 6 k])) ((W.setRow b zN).setRow (b + 1) (spotC 6 k))) :
    bodyPostD Tryd.prog Tryd.f34 R (.panic (wrongP k)) { tmps := tmps, defers := [treeD b] } W := by
  refine leaves_cons (f := 51) (args := #[.pointer (some ⟨b, 0, none⟩), .pointer (some ⟨b + 1, 0, none⟩)]) (by simp) (by simp [go_sem]) ?_
  refine (treeCatch_some b k X W hX hY hX6).mono ?_
  rintro e u' w'' ⟨rfl, rfl, rfl⟩
  have e1 := setRow_heap _ _ _ zN _ _ hX
  have e2 : ((W.setRow b zN).setRow (b + 1) (spotC 6 k)).heap[b]? = some (.cells zN TN (0, 0)) := (setRow_other _ _ _ _ (by omega)).trans e1
  have e3 : ((W.setRow b zN).setRow (b + 1) (spotC 6 k)).heap[b + 1]? = some (.cells (spotC 6 k) TSp (0, 0)) := setRow_heap _ _ _ _ _ _ ((setRow_other _ _ _ _ (by omega)).trans hY)
  exact ⟨_, results_rows2 rfl _ _ b (b + 1) _ _ h2 h3 (load_node _ b zN e2 rfl) (load_spot _ (b + 1) (spotC 6 k) e3 rfl), hR⟩

abbrev TPat : TypeId := 32

/-- what Tree holds -/
structure TS (kind : Int) (s : ByteArray) (w wr : World) (X : Array Value) : Prop where
  box : wr.heap[w.heap.size]? = some (.cells #[.int .i64 kind, .string s] TPat (0, 0))
  res : wr.heap[w.heap.size + 1]? = some (.cells X TN (0, 0))
  spot : wr.heap[w.heap.size + 1 + 1]? = some (.cells (spotC 0 0) TSp (0, 0))
  up : Below w.heap.size w wr
theorem TS.on {kind : Int} {s : ByteArray} {w wr w' : World} {X : Array Value} (h : TS kind s w wr X) (hb : Below wr.heap.size wr w') : TS kind s w w' X :=
  ⟨(hb.block _ (lt_of_block h.box)).trans h.box, (hb.block _ (lt_of_block h.res)).trans h.res, (hb.block _ (lt_of_block h.spot)).trans h.spot, below_then h.up hb (Nat.le_refl _)⟩
theorem TS.far {kind : Int} {s : ByteArray} {w wr w' : World} {X : Array Value} (h : TS kind s w wr X) (hb : Below (w.heap.size + 3) wr w') : TS kind s w w' X :=
  ⟨(hb.block _ (by omega)).trans h.box, (hb.block _ (by omega)).trans h.res, (hb.block _ (by omega)).trans h.spot, h.up.trans (hb.mono (by omega))⟩
theorem TS.put {kind : Int} {s : ByteArray} {w wr : World} {X : Array Value} (h : TS kind s w wr X) (Y : Array Value) : TS kind s w (wr.setRow (w.heap.size + 1) Y) Y :=
  ⟨(setRow_other _ _ _ _ (by omega)).trans h.box, setRow_heap _ _ _ _ _ _ h.res, (setRow_other _ _ _ _ (by omega)).trans h.spot, h.up.trans ⟨rfl, rfl, rfl, by simp, fun k hk => setRow_other _ _ _ _ (by omega)⟩⟩
theorem TS.putS {kind : Int} {s : ByteArray} {w wr : World} {X : Array Value} (h : TS kind s w wr X) : TS kind s w (wr.setRow (w.heap.size + 1 + 1) (spotC 0 0)) X :=
  ⟨(setRow_other _ _ _ _ (by omega)).trans h.box, (setRow_other _ _ _ _ (by omega)).trans h.res, setRow_heap _ _ _ _ _ _ h.spot, h.up.trans ⟨rfl, rfl, rfl, by simp, fun k hk => setRow_other _ _ _ _ (by omega)⟩⟩
theorem TS.bad {kind : Int} {s : ByteArray} {w wr : World} {X : Array Value} (h : TS kind s w wr X) (k : Nat) : Below w.heap.size w ((wr.setRow (w.heap.size + 1) zN).setRow (w.heap.size + 1 + 1) (spotC 6 k)) :=
  (h.put zN).up.trans ⟨rfl, rfl, rfl, by simp, fun k hk => setRow_other _ _ _ _ (by omega)⟩
theorem TS.c0 {kind : Int} {s : ByteArray} {w wr : World} {X : Array Value} (h : TS kind s w wr X) : wr.cell? ⟨w.heap.size, 0, none⟩ = some (.int .i64 kind) := by rw [cell_of_row wr _ 0 _ _ _ h.box]; rfl
theorem TS.c1 {kind : Int} {s : ByteArray} {w wr : World} {X : Array Value} (h : TS kind s w wr X) : wr.cell? ⟨w.heap.size, 1, none⟩ = some (.string s) := by rw [cell_of_row wr _ 1 _ _ _ h.box]; rfl

/-- a tree handed back: its node stored, and the spot -/
theorem TS.done {kind : Int} {s : ByteArray} {w wr : World} {X : Array Value} {t : T} {K : Value} (h : TS kind s w wr X) (hK : IsT wr (fun b => w.heap.size + 3 ≤ b) K t) :
    TreeIs w (.ok t) (.returned (.tuple #[.agg (nodeC t K).toArray, .agg (spotC 0 0)])) ((wr.setRow (w.heap.size + 1) (nodeC t K).toArray).setRow (w.heap.size + 1 + 1) (spotC 0 0)) := by
  refine ⟨K, rfl, ?_, (h.put _).putS.up⟩
  refine (((hK.grown (grown_row wr (w.heap.size + 1) _) (fun b hb e => by cases e; omega)).grown (grown_row _ (w.heap.size + 1 + 1) _) (fun b hb e => by cases e; omega))).imp fun b hb _ => by omega

theorem spot_all : (spotC 0 0).all (·.oneCell') = true := by simp [spotC, Value.oneCell']
theorem spotV_all : #[Value.int IntKind.i64 0, Value.int IntKind.i64 0] = spotC 0 0 := rfl

/-- how it begins -/
def treeW (kind : Int) (s : ByteArray) (w : World) : World := ((w.alloc (.cells #[.int .i64 kind, .string s] TPat)).alloc (.cells zN TN)).alloc (.cells (spotC 0 0) TSp)
theorem treeW_facts (kind : Int) (s : ByteArray) (w : World) : TS kind s w (treeW kind s w) zN ∧ (treeW kind s w).heap.size = w.heap.size + 3 := by
  have b1 := below_new w (.cells #[.int .i64 kind, .string s] TPat)
  have b2 := below_new (w.alloc (.cells #[.int .i64 kind, .string s] TPat)) (.cells zN TN)
  have b3 := below_new ((w.alloc (.cells #[.int .i64 kind, .string s] TPat)).alloc (.cells zN TN)) (.cells (spotC 0 0) TSp)
  have h1 := heap_alloc_new w (.cells #[.int .i64 kind, .string s] TPat)
  have h2 := heap_alloc_new (w.alloc (.cells #[.int .i64 kind, .string s] TPat)) (.cells zN TN)
  have h3 := heap_alloc_new ((w.alloc (.cells #[.int .i64 kind, .string s] TPat)).alloc (.cells zN TN)) (.cells (spotC 0 0) TSp)
  simp only [World.size_alloc] at b2 b3 h2 h3
  refine ⟨⟨(b3.block _ (by omega)).trans ((b2.block _ (by omega)).trans h1), (b3.block _ (by omega)).trans h2, h3, ?_⟩, by simp [treeW]⟩
  exact (b1.trans (b2.mono (by omega))).trans (b3.mono (by omega))

/-- .. and how it ends where nothing is made -/
theorem treeE_facts (kind : Int) (s : ByteArray) (w : World) (Y : Array Value) :
    (((w.alloc (.cells #[.int .i64 kind, .string s] TPat)).alloc (.cells zN TN)).alloc (.cells Y TSp)).heap[w.heap.size + 1]? = some (.cells zN TN (0, 0)) ∧
    (((w.alloc (.cells #[.int .i64 kind, .string s] TPat)).alloc (.cells zN TN)).alloc (.cells Y TSp)).heap[w.heap.size + 1 + 1]? = some (.cells Y TSp (0, 0)) ∧
    Below w.heap.size w (((w.alloc (.cells #[.int .i64 kind, .string s] TPat)).alloc (.cells zN TN)).alloc (.cells Y TSp)) := by
  have b1 := below_new w (.cells #[.int .i64 kind, .string s] TPat)
  have b2 := below_new (w.alloc (.cells #[.int .i64 kind, .string s] TPat)) (.cells zN TN)
  have b3 := below_new ((w.alloc (.cells #[.int .i64 kind, .string s] TPat)).alloc (.cells zN TN)) (.cells Y TSp)
  have h2 := heap_alloc_new (w.alloc (.cells #[.int .i64 kind, .string s] TPat)) (.cells zN TN)
  have h3 := heap_alloc_new ((w.alloc (.cells #[.int .i64 kind, .string s] TPat)).alloc (.cells zN TN)) (.cells Y TSp)
  simp only [World.size_alloc] at b2 b3 h2 h3
  exact ⟨(b3.block _ (by omega)).trans h2, h3, (b1.trans (b2.mono (by omega))).trans (b3.mono (by omega))⟩

set_option maxRecDepth 100000 in
set_option maxHeartbeats 8000000 in
theorem tree_any (kind : Int) (s : ByteArray) (w : World) (hs : s.size ≤ 9223372036854775807) :
    Calls Tryd.prog 34 #[.agg #[.int .i64 kind, .string s]] w (TreeIs w (tree kind s.data.toList)) := by
  have hmf : ∀ (fn : Fn) (first cap : Array Value) (w : World), (Instr.makeFunc fn first cap).run Tryd.prog w = .ok (.func fn first cap) w := fun _ _ _ _ => rfl
  obtain ⟨r, hr⟩ : ∃ r, tree kind s.data.toList = r := ⟨_, rfl⟩
  rw [hr]
  have HR := Lib.hid hr
  obtain ⟨hT, hsz⟩ := treeW_facts kind s w
  have HT := Lib.hid hT; have HSZ := Lib.hid hsz
  have c0 := hT.c0; have c1 := hT.c1
  clear hr hT hsz
  by_cases hk : kind < 1 ∨ 3 < kind
  · have hr := HR.out
    unfold tree at hr
    rw [if_pos hk] at hr
    subst hr
    have hd : (decide (kind < 1) = true) ∨ (decide (kind < 1) = false ∧ decide (3 < kind) = true) := by
      by_cases h : kind < 1
      · exact .inl (by simpa using h)
      · exact .inr ⟨by simpa using h, by simp; omega⟩
    have HE := Lib.hid (treeE_facts kind s w (spotC 2 0))
    clear HR hk c0 c1 HT HSZ
    rcases hd with h1 | ⟨h1, h2⟩
    all_goals
      go_enter_defers Tryd.func34, Tryd.ntmps34
      go_wp2_with fail
      exact tree_door (X := zN) (Y := spotC 2 0) (w.heap.size + 1) rfl rfl HE.out.1 rfl HE.out.2.1 rfl ⟨rfl, HE.out.2.2⟩
  have hk1 : decide (kind < 1) = false := by simp; omega
  have hk2 : decide (3 < kind) = false := by simp; omega
  by_cases hl : 64 < s.size
  · have hr := HR.out
    unfold tree at hr
    rw [if_neg hk, if_pos (show 64 < s.data.toList.length from hl)] at hr
    subst hr
    have hl2 : (64 : Int) < s.size := by omega
    have HE := Lib.hid (treeE_facts kind s w (spotC 3 64))
    clear HR hk c0 c1 HT HSZ
    go_enter_defers Tryd.func34, Tryd.ntmps34
    go_wp2_with fail
    exact tree_door (X := zN) (Y := spotC 3 64) (w.heap.size + 1) rfl rfl HE.out.1 rfl HE.out.2.1 rfl ⟨rfl, HE.out.2.2⟩
  have hl2 : (s.size : Int) ≤ 64 := by omega
  by_cases e1 : kind = 1
  · subst e1
    have hr := HR.out
    unfold tree at hr
    rw [if_neg hk, if_neg (show ¬ 64 < s.data.toList.length from hl), if_pos rfl] at hr
    have HR1 := Lib.hid hr
    clear hr HR hk hk1 hk2
    go_enter_defers Tryd.func34, Tryd.ntmps34
    go_wp2_with fail
    clear c0 c1
    change Code.wp _ _ _ _ (treeW 1 s w)
    generalize treeW 1 s w = W0 at *
    have hK0 : Kids W0 (w.heap.size + 3) (.slice none 0 0) [] := Kids.nil _ _
    have HK0 := Lib.hid hK0
    clear hK0
    go_loopg [7, 58] (s.size + 1) (fun k v7 v58 wr => ∃ (i : Nat) (ps : List (T × Value)), v58 = .int .i64 i ∧ i ≤ s.size ∧ s.size + 1 - i ≤ k ∧ ps.length ≤ i ∧ Hid (ps.map (·.1) = (s.data.toList.take i).map fun c => one c.toNat) ∧ w.heap.size + 3 ≤ wr.heap.size ∧ Hid (Kids wr (w.heap.size + 3) v7 ps) ∧ Hid (TS 1 s w wr zN))
    case atStart => exact ⟨0, [], rfl, by omega, by omega, by simp, Lib.hid (by simp), by rw [HSZ.out]; exact Nat.le_refl _, HK0, HT⟩
    case round =>
      clear HK0 HT HSZ
      obtain ⟨i, ps, rfl, hil, hik, hpl, HP, hwr, HK, HT⟩ := hrel
      have c1 := HT.out.c1
      by_cases hi : i < s.size
      · have hi2 : (i : Int) < s.size := by omega
        have hi0 : (0 : Int) ≤ i := by omega
        have HP2 : Hid (ps.map (·.1) ++ [one s[i].toNat] = (s.data.toList.take (i + 1)).map fun c => one c.toNat) := Lib.hid (by
          rw [HP.out, List.take_succ_eq_append_getElem (show i < s.data.toList.length from hi), List.map_append]; rfl)
        go_wp2_with fail
        refine (one_any s[i].toNat s[i].toNat_lt wr).mono ?_
        rintro e w2 ⟨rfl, hb⟩
        have HIS := Lib.hid (HK.out.far hwr (show IsT w2 (fun b => wr.heap.size ≤ b) (.slice none 0 0) (one s[i].toNat) from IsT.nil _ _))
        have HK2 := Lib.hid (HK.out.on hb)
        have HT2 := Lib.hid (HT.out.on hb)
        have hsz2 : w.heap.size + 3 ≤ w2.heap.size := Nat.le_trans hwr hb.size
        clear hb HK HT c1
        simp only [nodeV]
        go_wp2_with (refine wpList_append_node rfl (.tmp 61) (.tmp 67) rfl (w.heap.size + 3) _ ps rfl HK2.out (one s[i].toNat) (.slice none 0 0) _ rfl rfl HIS.out (by omega) hsz2 ?_; intro v' w9 hk9 hb9 hsz9)
        have HK9 := Lib.hid hk9
        have HT9 := Lib.hid (HT2.out.far hb9)
        have hsz10 : w.heap.size + 3 ≤ w9.heap.size := by omega
        clear hk9 hb9 hsz9
        go_wp2_with fail
        go_roundg (gk - 1)
        case measure => omega
        case rel => exact ⟨i + 1, ps ++ [(one s[i].toNat, .slice none 0 0)], by go_num, by omega, by omega, by simp; omega, Lib.hid (by rw [List.map_append]; exact HP2.out), hsz10, HK9, HT9⟩
      · obtain rfl : i = s.size := by omega
        have hex : ¬ ((s.size : Int) < s.size) := by omega
        have hp := HP.out
        rw [List.take_of_length_le (show s.data.toList.length ≤ s.size from Nat.le_refl _)] at hp
        go_wp2_with fail
        obtain ⟨t, ht⟩ : ∃ t, joined 3 (ps.map (·.1)) = t := ⟨_, rfl⟩
        have hJ := joined_any 3 (w.heap.size + 3) _ ps wr HK.out (by omega)
        rw [ht] at hJ
        have HRE : Hid (TR.ok t = r) := Lib.hid (by rw [← ht, hp]; exact HR1.out)
        clear ht hp HP
        refine hJ.mono ?_
        rintro e w3 ⟨K3, rfl, hK3, hb3⟩
        have hT3 := HT.out.on hb3
        have HT3 := Lib.hid hT3
        have HD := Lib.hid (hT3.done hK3)
        have HA := Lib.hid (node_all hK3)
        have HP3 := Lib.hid (hT3.put (nodeC t K3).toArray)
        have HPS := Lib.hid (hT3.put (nodeC t K3).toArray).putS
        clear hK3 hb3 HT hJ hT3 HK c1
        go_wp2_with (first | (refine wpList_store_row rfl TN (.tmp 2) (.tmp 71) rfl (w.heap.size + 1) (nodeC t K3).toArray rfl rfl TN zN HT3.out.res (by kernel_rfl) rfl HA.out ?_; change wpList _ _ _ _ _ (w3.setRow (w.heap.size + 1) (nodeC t K3).toArray)) | (refine wpList_store_row rfl TSp (.tmp 3) (.tmp 72) rfl (w.heap.size + 1 + 1) (spotC 0 0) rfl rfl TSp (spotC 0 0) HP3.out.spot (by kernel_rfl) rfl spot_all ?_))
        refine tree_door (X := (nodeC t K3).toArray) (Y := spotC 0 0) (w.heap.size + 1) rfl rfl HPS.out.res rfl HPS.out.spot rfl ?_
        rw [← HRE.out]
        exact HD.out
  by_cases e2 : kind = 2
  · subst e2
    have hr := HR.out
    unfold tree at hr
    rw [if_neg hk, if_neg (show ¬ 64 < s.data.toList.length from hl), if_neg (by decide), if_pos rfl] at hr
    have HR1 := Lib.hid hr
    clear hr HR hk hk1 hk2 e1
    go_enter_defers Tryd.func34, Tryd.ntmps34
    go_wp2_with fail
    clear c0 c1
    change Calls _ _ _ (treeW 2 s w) _
    generalize treeW 2 s w = W0 at *
    refine (glob_any s W0 (by omega)).mono ?_
    rintro e w3 hm
    have hr := HR1.out
    rcases hg : globL s.data.toList with _ | l
    · rw [hg] at hm hr
      obtain ⟨rfl, hb⟩ := hm
      try simp only [] at hr
      subst hr
      have HT3 := Lib.hid (HT.out.on hb)
      clear hb HT HR1 hg HSZ
      go_wp2_with fail
      exact tree_door_bad (X := zN) (w.heap.size + 1) s.size rfl rfl HT3.out.res rfl HT3.out.spot ⟨rfl, HT3.out.bad _⟩
    · rw [hg] at hm hr
      obtain ⟨K3, rfl, hK3, hb⟩ := hm
      try simp only [] at hr
      obtain ⟨t, ht⟩ : ∃ t, joined 3 l = t := ⟨_, rfl⟩
      rw [ht] at hr hK3 ⊢
      have HRE := Lib.hid hr
      have hT3 := HT.out.on hb
      have hK4 : IsT w3 (fun b => w.heap.size + 3 ≤ b) K3 t := hK3.imp fun b hb _ => by have := HSZ.out; omega
      have HT3 := Lib.hid hT3
      have HD := Lib.hid (hT3.done hK4)
      have HA := Lib.hid (node_all hK3)
      have HP3 := Lib.hid (hT3.put (nodeC t K3).toArray)
      have HPS := Lib.hid (hT3.put (nodeC t K3).toArray).putS
      clear hK3 hb HT hT3 hK4 hr ht HR1 hg HSZ
      go_wp2_with (first | (refine wpList_store_row rfl TN (.tmp 2) (.tmp 32) rfl (w.heap.size + 1) (nodeC t K3).toArray rfl rfl TN zN HT3.out.res (by kernel_rfl) rfl HA.out ?_; change wpList _ _ _ _ _ (w3.setRow (w.heap.size + 1) (nodeC t K3).toArray)) | (refine wpList_store_row rfl TSp (.tmp 3) (.tmp 33) rfl (w.heap.size + 1 + 1) (spotC 0 0) rfl rfl TSp (spotC 0 0) HP3.out.spot (by kernel_rfl) rfl spot_all ?_))
      refine tree_door (X := (nodeC t K3).toArray) (Y := spotC 0 0) (w.heap.size + 1) rfl rfl HPS.out.res rfl HPS.out.spot rfl ?_
      rw [← HRE.out]
      exact HD.out
  have e3 : kind = 3 := by omega
  subst e3
  have hr := HR.out
  unfold tree at hr
  rw [if_neg hk, if_neg (show ¬ 64 < s.data.toList.length from hl), if_neg (by decide), if_neg (by decide)] at hr
  have HR1 := Lib.hid hr
  clear hr HR hk hk1 hk2 e1 e2
  go_enter_defers Tryd.func34, Tryd.ntmps34
  go_wp2_with fail
  clear c0 c1
  have hg0 : RG ((treeW 3 s w).alloc (.cells #[.string s, .int .i64 ((0 : Nat) : Int)] TRg)) (w.heap.size + 3) s 0 := by
    have := heap_alloc_new (treeW 3 s w) (.cells #[.string s, .int .i64 ((0 : Nat) : Int)] TRg)
    rw [HSZ.out] at this; exact this
  have HG0 := Lib.hid hg0
  have HT1 := Lib.hid (HT.out.on (below_new _ (.cells #[.string s, .int .i64 ((0 : Nat) : Int)] TRg)))
  have HS1 : Hid (((treeW 3 s w).alloc (.cells #[.string s, .int .i64 ((0 : Nat) : Int)] TRg)).heap.size = w.heap.size + 3 + 1) := Lib.hid (by rw [World.size_alloc, HSZ.out])
  clear hg0 HT HSZ
  change Calls _ _ _ ((treeW 3 s w).alloc (.cells #[.string s, .int .i64 ((0 : Nat) : Int)] TRg)) _
  generalize (treeW 3 s w).alloc (.cells #[.string s, .int .i64 ((0 : Nat) : Int)] TRg) = W0 at *
  refine (either_any (w.heap.size + 3) s W0 HG0.out (by omega)).mono ?_
  rintro e w3 hm
  have hr := HR1.out
  have hgB : ∀ k, w.heap.size + 3 ≠ k → k < W0.heap.size → k < w.heap.size + 3 := fun k hk hl => by rw [HS1.out] at hl; omega
  rcases hal : alts (3 * s.size + 3) s.data.toList 0 [] with ⟨x, n⟩ | ⟨k'⟩
  case bad =>
    rw [hal] at hm
    rw [show alts (3 * s.data.toList.length + 3) s.data.toList 0 [] = .bad k' from hal] at hr
    obtain ⟨rfl, hup⟩ := hm
    try simp only [] at hr
    subst hr
    have HT3 := Lib.hid (HT1.out.far (show Below (w.heap.size + 3) W0 w3 from ⟨hup.os, hup.tape, hup.output, hup.size, fun k hk => hup.block k (by rw [HS1.out]; omega) (by simp; omega)⟩))
    clear hup HT1 HR1 HG0 HS1 hal hgB
    go_wp2_with fail
    exact tree_door_bad (X := zN) (w.heap.size + 1) k' rfl rfl HT3.out.res rfl HT3.out.spot ⟨rfl, HT3.out.bad _⟩
  case ok =>
  rw [hal] at hm
  rw [show alts (3 * s.data.toList.length + 3) s.data.toList 0 [] = .ok x n from hal] at hr
  obtain ⟨K, rfl, hK, hrg, hup⟩ := hm
  obtain ⟨-, hns, -⟩ := (read_pos s.data.toList (3 * s.size + 3)).1 _ _ _ _ hal (Nat.zero_le _)
  have hnl : n ≤ s.size := hns
  have hni : (n : Int) ≤ 64 := by omega
  have hT3 := HT1.out.far (show Below (w.heap.size + 3) W0 w3 from ⟨hup.os, hup.tape, hup.output, hup.size, fun k hk => hup.block k (by rw [HS1.out]; omega) (by simp; omega)⟩)
  have hK3 : IsT w3 (fun b => w.heap.size + 4 ≤ b) K x := hK.imp fun b hb _ => by rw [HS1.out] at hb; omega
  have HT3 := Lib.hid hT3
  have HK3 := Lib.hid hK3
  have HA := Lib.hid (node_all hK)
  have hP3 := hT3.put (nodeC x K).toArray
  have HP3 := Lib.hid hP3
  have hg4 : RG (w3.setRow (w.heap.size + 1) (nodeC x K).toArray) (w.heap.size + 3) s n := (setRow_other _ _ _ _ (by omega)).trans hrg
  have HG4 := Lib.hid hg4
  have HK4 := Lib.hid (hK3.grown (grown_row w3 (w.heap.size + 1) (nodeC x K).toArray) (fun b hb e => by cases e; omega))
  have HR2 := Lib.hid hr
  clear hr hup HT1 HR1 HG0 HS1 hal hgB hK hrg hns hT3 hK3 hP3 hg4
  go_wp2_with (refine wpList_store_row rfl TN (.tmp 2) (.tmp 41) rfl (w.heap.size + 1) (nodeC x K).toArray rfl rfl TN zN HT3.out.res (by kernel_rfl) rfl HA.out ?_)
  change Calls _ _ _ (w3.setRow (w.heap.size + 1) (nodeC x K).toArray) _
  generalize w3.setRow (w.heap.size + 1) (nodeC x K).toArray = W4 at *
  clear HT3 HK3
  refine (next_any (w.heap.size + 3) s n W4 HG4.out (by omega)).mono ?_
  rintro e w5 ⟨rfl, hb⟩
  have hP5 := HP3.out.on hb
  have hK5 := HK4.out.on hb
  have hg5 := HG4.out.on hb
  have HP5 := Lib.hid hP5; have HK5 := Lib.hid hK5
  have c1 := hg5.c1
  clear hP5 hK5 hg5 hb HP3 HK4 HG4
  have hr := HR2.out
  cases hn : s.data.toList[n]? with
  | some c =>
    have hla := (byte_at s n c hn).1
    try simp only [] at hr
    rw [if_pos (show n < s.data.toList.length from hla)] at hr
    subst hr
    simp only [nextV, hn]
    clear HR2 hn
    go_wp2_with fail
    exact tree_door_bad (X := (nodeC x K).toArray) (w.heap.size + 1) n rfl rfl HP5.out.res rfl HP5.out.spot ⟨rfl, HP5.out.bad _⟩
  | none =>
    have hla := byte_none s n hn
    try simp only [] at hr
    rw [if_neg (show ¬ n < s.data.toList.length from by show ¬ n < s.size; omega)] at hr
    have HRE := Lib.hid hr
    simp only [nextV, hn]
    have hD := HP5.out.done (HK5.out.imp fun b hb _ => by omega)
    have HD := Lib.hid hD
    have HP6 := Lib.hid (HP5.out.put (nodeC x K).toArray)
    have HP7 := Lib.hid (HP5.out.put (nodeC x K).toArray).putS
    clear HR2 hn hr hD c1
    go_wp2_with (first | (refine wpList_load_row rfl TN (.tmp 2) rfl (w.heap.size + 1) rfl TN _ (0, 0) _ HP5.out.res Tryd.underlying66 rfl (by kernel_rfl) ?_) | (refine wpList_store_row rfl TN (.tmp 2) (.tmp 53) rfl (w.heap.size + 1) (nodeC x K).toArray rfl rfl TN (nodeC x K).toArray HP5.out.res (by kernel_rfl) rfl HA.out ?_; change wpList _ _ _ _ _ (w5.setRow (w.heap.size + 1) (nodeC x K).toArray)) | (refine wpList_store_row rfl TSp (.tmp 3) (.tmp 54) rfl (w.heap.size + 1 + 1) (spotC 0 0) rfl rfl TSp (spotC 0 0) HP6.out.spot (by kernel_rfl) rfl spot_all ?_))
    refine tree_door (X := (nodeC x K).toArray) (Y := spotC 0 0) (w.heap.size + 1) rfl rfl HP7.out.res rfl HP7.out.spot rfl ?_
    rw [← HRE.out]
    exact HD.out

end Go.Proofs.YtfhggnbnbopkkaaDoor
