/- The document's reading of trees: what its functions tell. -/
import Derived.Test.YtpiflikblpfgoaaDoorPatRefMem
namespace Go.Proofs.YtpiflikblpfgoaaDoor
open Go.RowKit PM

/-- what a call of the document's that reads a tree tells -/
def RefIs (w : World) (r : R T) (e : Ending) (w' : World) : Prop :=
  match r with
  | .ok t n => ∃ K, e = .returned (.tuple #[nodeV t K, .int .i64 n, .bool true]) ∧ IsT w' (fun b => w.heap.size ≤ b) K t ∧ Below w.heap.size w w'
  | .bad k => e = .returned (.tuple #[.agg zN, .int .i64 k, .bool false]) ∧ Below w.heap.size w w'
theorem refIs_bad {w w' : World} {k : Nat} {e : Ending} (h : e = .returned (.tuple #[.agg zN, .int .i64 k, .bool false])) (hb : Below w.heap.size w w') : RefIs w (.bad k) e w' := ⟨h, hb⟩
theorem refIs_ok {w w' : World} {t : T} {n : Nat} {K : Value} {e : Ending} (h : e = .returned (.tuple #[nodeV t K, .int .i64 n, .bool true])) (h1 : IsT w' (fun b => w.heap.size ≤ b) K t) (hb : Below w.heap.size w w') : RefIs w (.ok t n) e w' := ⟨K, h, h1, hb⟩

theorem results_rtt {fn : Func} {p1 p2 p3 : Tmp} {t1 : TypeId} (h : fn.results = #[.cell p1 t1, .tmp p2, .tmp p3]) (tmps : Array Value) (W : World) (b : Nat) (X Y Z : Value)
    (h1 : tmps.getD p1 undef = .pointer (some ⟨b, 0, none⟩)) (h2 : tmps.getD p2 undef = Y) (h3 : tmps.getD p3 undef = Z) (l1 : (loadVar t1 ⟨b, 0, none⟩).run Tryd.prog W = .ok X W) :
    (results fn tmps).run Tryd.prog W = .ok (.tuple #[X, Y, Z]) W := by
  have h1' : tmps[p1]?.getD undef = .pointer (some ⟨b, 0, none⟩) := by simpa using h1
  have h2' : tmps[p2]?.getD undef = Y := by simpa using h2
  have h3' : tmps[p3]?.getD undef = Z := by simpa using h3
  simp [results, h, h1', h2', h3', asAddr, l1]

/-- a node lies there -/
structure NodAt (W : World) (B : Nat) (t : T) (K : Value) : Prop where
  node : W.heap[B]? = some (.cells (nodeC t K).toArray TN (0, 0))
theorem NodAt.on {W W' : World} {B : Nat} {t : T} {K : Value} (h : NodAt W B t K) (hb : Below W.heap.size W W') : NodAt W' B t K := ⟨(hb.block _ (lt_of_block h.node)).trans h.node⟩
theorem NodAt.cells {W : World} {B : Nat} {t : T} {K : Value} (h : NodAt W B t K) : W.cell? ⟨B, 0, none⟩ = some (.int .i64 t.op) ∧ W.cell? ⟨B, 1, none⟩ = some (.int .u64 (word t.set 0)) ∧ W.cell? ⟨B, 2, none⟩ = some (.int .u64 (word t.set 1)) ∧
    W.cell? ⟨B, 3, none⟩ = some (.int .u64 (word t.set 2)) ∧ W.cell? ⟨B, 4, none⟩ = some (.int .u64 (word t.set 3)) ∧ W.cell? ⟨B, 5, none⟩ = some K := by
  refine ⟨?_, ?_, ?_, ?_, ?_, ?_⟩ <;> (rw [cell_of_row _ _ _ _ _ _ h.node]; rfl)
theorem NodAt.made (w : World) (t : T) (K : Value) : NodAt (w.alloc (.cells #[.int .i64 t.op, .int .u64 (word t.set 0), .int .u64 (word t.set 1), .int .u64 (word t.set 2), .int .u64 (word t.set 3), K] TN)) w.heap.size t K := ⟨heap_alloc_new w _⟩

/-- a node stored into the result's block -/
theorem GS.put {w wr : World} {v : Value} {ps : List (T × Value)} {t : T} {K : Value} (h : GS w wr v ps) (hK : IsT wr (fun b => w.heap.size + 1 ≤ b) K t) (Y : Array Value) :
    IsT (wr.setRow w.heap.size Y) (fun b => w.heap.size ≤ b) K t ∧ Below w.heap.size w (wr.setRow w.heap.size Y) :=
  ⟨(hK.grown (grown_row wr w.heap.size _) (fun b hb e => by cases e; omega)).imp fun b hb _ => by omega, h.up.trans (below_rowB _ _ _ _ (Nat.le_refl _))⟩
theorem GS.bad {w wr : World} {v : Value} {ps : List (T × Value)} (h : GS w wr v ps) (Y : Array Value) : Below w.heap.size w (wr.setRow w.heap.size Y) := h.up.trans (below_rowB _ _ _ _ (Nat.le_refl _))

theorem alts_end {s : List UInt8} : ∀ (f a : Nat) (acc : List T) {t : T} {n : Nat}, alts f s a acc = .ok t n → a ≤ s.length → s[n]? = none ∨ s[n]? = some 41
  | 0, a, acc, t, n, h, _ => by simp [alts] at h
  | f + 1, a, acc, t, n, h, ha => by
    simp only [alts] at h
    cases hr : row f s a [] with
    | bad k => rw [hr] at h; cases h
    | ok x m =>
      rw [hr] at h
      obtain ⟨h1, h2, h3⟩ := (read_pos s f).2.1 _ _ _ _ hr ha
      simp only [] at h
      split at h
      · rename_i hb
        exact alts_end f _ _ h (by have := (List.getElem?_eq_some_iff.1 hb).1; omega)
      · rename_i hb
        cases h
        rcases h3 with h3 | h3 | h3
        · exact .inl h3
        · exact absurd h3 hb
        · exact .inr h3

def RAltsC (f : Nat) : Prop := ∀ (s : ByteArray) (a : Nat) (w : World), a ≤ s.size → s.size ≤ 100000 → 3 * (s.size - a) + 3 ≤ f →
  Calls Tryd.prog 29 #[.string s, .int .i64 a] w (RefIs w (alts f s.data.toList a []))
def RRowC (f : Nat) : Prop := ∀ (s : ByteArray) (a : Nat) (w : World), a ≤ s.size → s.size ≤ 100000 → 3 * (s.size - a) + 2 ≤ f →
  Calls Tryd.prog 44 #[.string s, .int .i64 a] w (RefIs w (row f s.data.toList a []))
def RAtomC (f : Nat) : Prop := ∀ (s : ByteArray) (a : Nat) (w : World), a < s.size → s.size ≤ 100000 → 3 * (s.size - a) + 1 ≤ f →
  Calls Tryd.prog 51 #[.string s, .int .i64 a] w (RefIs w (atom f s.data.toList a))

attribute [local go_sem] nodeC

theorem gs_start (w : World) : GS w (w.alloc (.cells zN TN)) (.slice none 0 0) [] := ⟨Kids.nil _ _, heap_alloc_new w _, below_new w _⟩

/-- a place's byte: the end, or one that is something or not -/
theorem at_three (s : ByteArray) (m : Nat) (x : UInt8) (n : Int) (hx : (x.toNat : Int) = n) (hm : m ≤ s.size) :
    (s.size ≤ m ∧ ((m : Int) == (s.size : Int)) = true ∧ ¬ s.data.toList[m]? = some x) ∨
    (∃ h : m < s.size, ((m : Int) == (s.size : Int)) = false ∧ ((s[m].toNat : Int) != n) = false ∧ s.data.toList[m]? = some x) ∨
    (∃ h : m < s.size, ((m : Int) == (s.size : Int)) = false ∧ ((s[m].toNat : Int) != n) = true ∧ ¬ s.data.toList[m]? = some x) := by
  rcases byte_three s.data.toList m x n hx with ⟨h1, h2⟩ | ⟨c, h1, h2, h3⟩ | ⟨c, h1, h2, h3⟩
  · have := byte_none s m h1
    exact .inl ⟨by omega, by rw [beq_iff_eq]; omega, h2⟩
  · obtain ⟨hl, rfl⟩ := byte_at s m c h1
    exact .inr (.inl ⟨hl, by rw [beq_eq_false_iff_ne]; omega, by rw [bne, h2]; rfl, h3⟩)
  · obtain ⟨hl, rfl⟩ := byte_at s m c h1
    exact .inr (.inr ⟨hl, by rw [beq_eq_false_iff_ne]; omega, by rw [bne, h2]; rfl, h3⟩)

set_option maxRecDepth 100000 in
set_option maxHeartbeats 8000000 in
theorem ralts_step (F : Nat) (ih : ∀ f, f < F → RRowC f) : RAltsC F := by
  intro s a w ha hs hF
  obtain ⟨r, hr⟩ : ∃ r, alts F s.data.toList a [] = r := ⟨_, rfl⟩
  rw [hr]
  have HR := Lib.hid hr; have IH := Lib.hid ih; have H0 := Lib.hid (gs_start w)
  clear hr ih
  go_enter Tryd.func29, Tryd.ntmps29
  go_wp2_with fail
  change Code.wp _ _ _ _ (w.alloc (.cells zN TN))
  generalize w.alloc (.cells zN TN) = W0 at *
  go_loopg [1, 7] F (fun k v1 v7 wr => ∃ (b : Nat) (ps : List (T × Value)), v1 = .int .i64 b ∧ b ≤ s.size ∧ ps.length ≤ b ∧ 3 * (s.size - b) + 3 ≤ k ∧ k ≤ F ∧ Hid (alts k s.data.toList b (ps.map (·.1)) = r) ∧ Hid (GS w wr v7 ps))
  case atStart => exact ⟨a, [], rfl, ha, by simp, hF, Nat.le_refl _, HR, H0⟩
  case round =>
    clear H0 HR ha hF
    obtain ⟨b, ps, rfl, hbs, hpl, hk1, hk2, HR, HG⟩ := hrel
    obtain ⟨k, rfl⟩ : ∃ k, gk = k + 1 := ⟨gk - 1, by omega⟩
    have hr := HR.out
    simp only [alts] at hr
    have HR1 := Lib.hid hr
    clear hr HR
    go_wp2_with fail
    refine (IH.out k (by omega) s b wr hbs hs (by omega)).mono ?_
    rintro e w1 hm
    have hr := HR1.out
    rcases hrow : row k s.data.toList b [] with ⟨y, m⟩ | ⟨k'⟩
    case bad =>
      rw [hrow] at hm hr
      obtain ⟨rfl, hb⟩ := hm
      subst hr
      have HG1 := Lib.hid ((HG.out.on hb).on (below_new w1 (.cells zN TN)))
      clear hb HG HR1 hrow
      simp only [zN] at HG1 ⊢
      go_wp2_with (refine wpList_store_row rfl TN (.tmp 4) (.tmp 20) rfl w.heap.size zN rfl rfl TN zN HG1.out.res (by kernel_rfl) rfl (by simp [zN, Value.oneCell']) ?_)
      exact bodyPost_ret (v := .tuple #[.agg zN, .int .i64 k', .bool false]) (results_rtt rfl _ _ w.heap.size _ _ _ rfl rfl rfl (load_node _ _ zN (setRow_heap _ _ _ _ _ _ HG1.out.res) rfl)) rfl (refIs_bad rfl (HG1.out.bad _))
    case ok =>
    rw [hrow] at hm hr
    obtain ⟨K, rfl, hK, hb⟩ := hm
    obtain ⟨A, c, rfl⟩ := hK.slice
    obtain ⟨hbm, hms, -⟩ := (read_pos s.data.toList k).2.1 _ _ _ _ hrow hbs
    have hml : m ≤ s.size := hms
    have HG1 := Lib.hid (HG.out.on hb)
    have HR2 := Lib.hid (show (if s.data.toList[m]? = some 124 then alts k s.data.toList (m + 1) (ps.map (·.1) ++ [y]) else .ok (joined 4 (ps.map (·.1) ++ [y])) m) = r from hr)
    have hsz : w.heap.size + 1 ≤ wr.heap.size := lt_of_block HG.out.res
    have HK := Lib.hid (HG.out.kids.far hsz hK)
    clear hb hK HG hr HR1 hrow hms hsz
    simp only [nodeV]
    go_upto_region 5 with (fail)
    have hN := NodAt.made w1 y (.slice A y.kids.length c)
    have hAB := below_new w1 (.cells #[.int .i64 y.op, .int .u64 (word y.set 0), .int .u64 (word y.set 1), .int .u64 (word y.set 2), .int .u64 (word y.set 3), .slice A y.kids.length c] TN)
    have HG2 := Lib.hid (HG1.out.on hAB)
    have HK2 := Lib.hid (HK.out.on hAB)
    obtain ⟨k0, k1, k2, k3, k4, k5⟩ := hN.cells
    clear hN hAB HG1 HK
    generalize w1.alloc (.cells #[.int .i64 y.op, .int .u64 (word y.set 0), .int .u64 (word y.set 1), .int .u64 (word y.set 2), .int .u64 (word y.set 3), .slice A y.kids.length c] TN) = w2 at *
    generalize w1.heap.size = B8 at *
    have hszw : w.heap.size + 1 ≤ w2.heap.size := lt_of_block HG2.out.res
    have hmi : (m : Int) ≤ 100000 := by omega
    have hmi0 : (0 : Int) ≤ m := by omega
    obtain ⟨qs, hqs⟩ : ∃ qs, ps ++ [(y, Value.slice A y.kids.length c)] = qs := ⟨_, rfl⟩
    have hpl2 : qs.length ≤ m + 1 := by rw [← hqs]; simp; omega
    have HR3 := Lib.hid (show (if s.data.toList[m]? = some 124 then alts k s.data.toList (m + 1) (qs.map (·.1)) else .ok (joined 4 (qs.map (·.1))) m) = r by rw [← hqs]; simpa using HR2.out)
    have HQS := Lib.hid hqs
    clear HR2 hqs
    rcases at_three s m 124 124 rfl hml with ⟨-, h2, h3⟩ | ⟨hl, h1, h2, h3⟩ | ⟨hl, h1, h2, h3⟩
    case inr.inl =>
      have hr := HR3.out
      rw [if_pos h3] at hr
      have HR4 := Lib.hid hr
      have hli : (m : Int) < s.size := by omega
      clear hr h3 HR3
      go_wp2_with (refine wpList_append_node rfl (.tmp 22) (.tmp 24) rfl (w.heap.size + 1) _ ps rfl HG2.out.kids y (.slice A y.kids.length c) _ rfl rfl HK2.out (by omega) hszw ?_; intro v' w5 hk hb hsz5; have HG3 := Lib.hid (HG2.out.app hk hb); rw [HQS.out] at HG3; clear k0 k1 k2 k3 k4 k5 hk hb hsz5 HK2 HG2 HQS)
      go_roundg k
      case measure => omega
      case rel => exact ⟨m + 1, qs, by go_num, by omega, by omega, by omega, by omega, HR4, HG3⟩
    all_goals
      have hr := HR3.out
      rw [if_neg h3] at hr
      obtain ⟨t, ht⟩ : ∃ t, joined 4 (qs.map (·.1)) = t := ⟨_, rfl⟩
      have hJ := fun v' w5 hk => rover_any 4 (w.heap.size + 1) v' qs w5 hk (by omega)
      rw [ht] at hJ hr
      have HRE := Lib.hid hr; have HJ := Lib.hid hJ
      try have hli : (m : Int) < s.size := by omega
      clear hr ht h3 HR3 hJ
      go_wp2_with (refine wpList_append_node rfl (.tmp 22) (.tmp 24) rfl (w.heap.size + 1) _ ps rfl HG2.out.kids y (.slice A y.kids.length c) _ rfl rfl HK2.out (by omega) hszw ?_; intro v' w5 hk hb hsz5; have HG3 := Lib.hid (HG2.out.app hk hb); rw [HQS.out] at HG3; clear k0 k1 k2 k3 k4 k5 hk hb hsz5 HK2 HG2 HQS)
      refine (HJ.out _ _ HG3.out.kids).mono ?_
      rintro e w6 ⟨K3, rfl, hK3, hb3⟩
      have HG4 := Lib.hid (HG3.out.on hb3)
      have HD := Lib.hid (HG4.out.put hK3 (nodeC t K3).toArray)
      have HA := Lib.hid (node_all hK3)
      clear hK3 hb3 HG3 HJ
      go_wp2_with (refine wpList_store_row rfl TN (.tmp 4) (.tmp 37) rfl w.heap.size (nodeC t K3).toArray rfl rfl TN zN HG4.out.res (by kernel_rfl) rfl HA.out ?_)
      exact bodyPost_ret (v := .tuple #[.agg (nodeC t K3).toArray, .int .i64 m, .bool true]) (results_rtt rfl _ _ w.heap.size _ _ _ rfl rfl rfl (load_node _ _ _ (setRow_heap _ _ _ _ _ _ HG4.out.res) rfl)) rfl (by rw [← HRE.out]; exact refIs_ok rfl HD.out.1 HD.out.2)
end Go.Proofs.YtpiflikblpfgoaaDoor
