/- Regular texts: alternatives, parts, atoms: the walks of the three that call one another. -/
import Derived.Test.YtfhggnbnbopkkaaDoorPatClass
namespace Go.Proofs.YtfhggnbnbopkkaaDoor
open Go.RowKit PM

/-- a fresh node's cells -/
def zN : Array Value := #[.int .i64 0, .int .u64 0, .int .u64 0, .int .u64 0, .int .u64 0, .slice none 0 0]

theorem node_all {w : World} {p : Nat → Prop} {K : Value} {t : T} (h : IsT w p K t) : (nodeC t K).toArray.all (·.oneCell') = true := by
  have := h.one
  simp only [nodeC, List.all_toArray, List.all_cons, List.all_nil, this]
  rfl

theorem Kids.fresh {w : World} {B : Nat} {t : T} {K : Value} (hK : IsT w (fun b => B ≤ b) K t) (hB : B ≤ w.heap.size) : Kids (w.alloc (.cells (nodeC t K).toArray TN)) B (.slice (some ⟨w.heap.size, 0, none⟩) 1 1) [(t, K)] := by
  refine ⟨⟨by simp [rowC, nodeC_len], .inr ⟨w.heap.size, 1, (nodeC t K).toArray, rfl, hB, heap_alloc_new w _, Nat.le_refl _, by decide, rfl, by simp [rowC, nodeC]⟩⟩, fun q hq => ?_⟩
  rw [List.mem_singleton] at hq
  subst hq
  exact hK.keep (by simp) (fun b _ hl => heap_alloc_old w _ hl) (fun b hb hl => ⟨hb, by simp [Value.ownBlock]; omega⟩)

/-- the node of one kid -/
theorem IsT.over {w : World} {B : Nat} {t : T} {K : Value} (hK : IsT w (fun b => B ≤ b) K t) (hB : B ≤ w.heap.size) (op : Nat) : IsT (w.alloc (.cells (nodeC t K).toArray TN)) (fun b => B ≤ b) (.slice (some ⟨w.heap.size, 0, none⟩) 1 1) (over op t) :=
  (Kids.fresh hK hB).node op noSet

/-- what is held while alternatives or parts are read -/
structure PS (w : World) (g : Nat) (s : ByteArray) (wr : World) (n : Nat) (v : Value) (ps : List (T × Value)) : Prop where
  rg : RG wr g s n
  kids : Kids wr (w.heap.size + 1) v ps
  res : wr.heap[w.heap.size]? = some (.cells zN TN (0, 0))
  up : w.grownBy wr (some g)

theorem PS.on {w : World} {g : Nat} {s : ByteArray} {wr w' : World} {n : Nat} {v : Value} {ps : List (T × Value)} (h : PS w g s wr n v ps) (hb : Below wr.heap.size wr w') : PS w g s w' n v ps :=
  ⟨h.rg.on hb, h.kids.on hb, (hb.block _ (lt_of_block h.res)).trans h.res, grown_trans h.up (grown_below hb _)⟩
theorem PS.go {w : World} {g : Nat} {s : ByteArray} {wr w' : World} {a b : Nat} {v : Value} {ps : List (T × Value)} (h : PS w g s wr a v ps) (hg : g < w.heap.size) (hr : RG w' g s b) (hb : wr.grownBy w' (some g)) : PS w g s w' b v ps :=
  ⟨hr, h.kids.grown hb (fun k e => by cases e; omega), (hb.block _ (lt_of_block h.res) (by simp; omega)).trans h.res, grown_trans h.up hb⟩
theorem PS.step {w : World} {g : Nat} {s : ByteArray} {wr : World} {a : Nat} {v : Value} {ps : List (T × Value)} (h : PS w g s wr a v ps) (hg : g < w.heap.size) (b : Nat) : PS w g s (wr.setCell ⟨g, 1, none⟩ (.int .i64 b)) b v ps :=
  h.go hg (h.rg.set b) (RG.setB _ _ _)
theorem PS.app {w : World} {g : Nat} {s : ByteArray} {wr w' : World} {n : Nat} {v v' : Value} {ps qs : List (T × Value)} (h : PS w g s wr n v ps) (hg : g < w.heap.size) (hk : Kids w' (w.heap.size + 1) v' qs) (hb : Below (w.heap.size + 1) wr w') : PS w g s w' n v' qs :=
  ⟨(hb.block g (by omega)).trans h.rg, hk, (hb.block _ (by omega)).trans h.res, ⟨hb.os.trans h.up.os, hb.tape.trans h.up.tape, hb.output.trans h.up.output, Nat.le_trans h.up.size hb.size, fun k hk hne => (hb.block k (by omega)).trans (h.up.block k hk hne)⟩⟩

/-- a node handed back -/
theorem PS.done {w : World} {g : Nat} {s : ByteArray} {wr w' : World} {n : Nat} {v : Value} {ps : List (T × Value)} {t : T} {K : Value} (h : PS w g s wr n v ps) (hg : g < w.heap.size) (hb : Below wr.heap.size wr w') (_hK : IsT w' (fun b => w.heap.size ≤ b) K t)
    (hne : IsT w' (fun b => w.heap.size + 1 ≤ b) K t) : ReadIs g s w (.ok t n) (.returned (nodeV t K)) (w'.setRow w.heap.size (nodeC t K).toArray) := by
  have h' := h.on hb
  have hw := h'.up.size
  refine readIs_ok (t := t) (K := K) rfl ?_ ?_ ?_
  · exact (hne.grown (grown_row w' w.heap.size _) (fun b hb e => by cases e; omega)).imp fun b hb _ => by omega
  · exact h'.rg.moved (grown_row w' w.heap.size _) (by simp; omega)
  · exact ⟨h'.up.os, h'.up.tape, h'.up.output, by simp; omega, fun k hk hne => ((grown_row w' w.heap.size _).block k (by omega) (by simp; omega)).trans (h'.up.block k hk hne)⟩

theorem Kids.far {w w' : World} {B : Nat} {v : Value} {ps : List (T × Value)} {t : T} {K : Value} (h : Kids w B v ps) (hB : B ≤ w.heap.size) (hK : IsT w' (fun b => w.heap.size ≤ b) K t) : IsT w' (fun b => B ≤ b ∧ v.ownBlock ≠ some b) K t :=
  hK.imp fun b hb _ => ⟨by omega, fun e => by have := (h.own.lt b e).2; omega⟩

def AltsC (f : Nat) : Prop := ∀ (g : Nat) (s : ByteArray) (a : Nat) (w : World), RG w g s a → a ≤ s.size → s.size ≤ 100000 → 3 * (s.size - a) + 3 ≤ f →
  Calls Tryd.prog 53 #[.pointer (some ⟨g, 0, none⟩)] w (ReadIs g s w (alts f s.data.toList a []))
def RowC (f : Nat) : Prop := ∀ (g : Nat) (s : ByteArray) (a : Nat) (w : World), RG w g s a → a ≤ s.size → s.size ≤ 100000 → 3 * (s.size - a) + 2 ≤ f →
  Calls Tryd.prog 68 #[.pointer (some ⟨g, 0, none⟩)] w (ReadIs g s w (row f s.data.toList a []))
def AtomC (f : Nat) : Prop := ∀ (g : Nat) (s : ByteArray) (a : Nat) (w : World), RG w g s a → a < s.size → s.size ≤ 100000 → 3 * (s.size - a) + 1 ≤ f →
  Calls Tryd.prog 70 #[.pointer (some ⟨g, 0, none⟩)] w (ReadIs g s w (atom f s.data.toList a))

attribute [local go_sem] nodeC

set_option maxRecDepth 100000 in
set_option maxHeartbeats 8000000 in
theorem either_step (F : Nat) (ih : ∀ f, f < F → RowC f) : AltsC F := by
  intro g s a w h ha hs hF
  obtain ⟨f, rfl⟩ : ∃ f, F = f + 1 := ⟨F - 1, by omega⟩
  have hg := h.lt
  have hb0 := below_new w (.cells zN TN)
  have hR0 := h.on hb0
  have hZ0 : (w.alloc (.cells zN TN)).heap[w.heap.size]? = some (.cells zN TN (0, 0)) := heap_alloc_new w _
  obtain ⟨r, hr⟩ : ∃ r, alts (f + 1) s.data.toList a [] = r := ⟨_, rfl⟩
  rw [hr]
  have HR := Lib.hid hr; have HB := Lib.hid hb0; have HZ := Lib.hid hZ0; have HRG := Lib.hid hR0; have HG := Lib.hid hg
  have IH := Lib.hid ih
  clear h hb0 hR0 hZ0 hr hg ih
  go_enter Tryd.func53, Tryd.ntmps53
  go_wp2_with fail
  change Calls _ _ _ (w.alloc (.cells zN TN)) _
  have hsz : (w.alloc (.cells zN TN)).heap.size = w.heap.size + 1 := by simp
  have HSZ := Lib.hid hsz
  clear hsz
  generalize w.alloc (.cells zN TN) = W0 at *
  refine (IH.out f (by omega) g s a W0 HRG.out ha hs (by omega)).mono ?_
  rintro e w1 hm
  have hr := HR.out
  simp only [alts] at hr
  rcases hrow : row f s.data.toList a [] with ⟨x, n⟩ | ⟨k'⟩
  case bad =>
    rw [hrow] at hm hr
    obtain ⟨rfl, hup⟩ := hm
    subst hr
    have HUP := Lib.hid (grown_trans (grown_below HB.out _) hup)
    clear hup HR HRG HZ HB hrow
    go_wp2_with fail
    exact ⟨rfl, readIs_bad rfl HUP.out⟩
  case ok =>
  rw [hrow] at hm hr
  obtain ⟨K, rfl, hK, hrg, hup⟩ := hm
  have hpos := (read_pos s.data.toList f).2.1 _ _ _ _ hrow ha
  obtain ⟨han, hns, -⟩ := hpos
  have hnl : n ≤ s.size := hns
  have hKB : IsT w1 (fun b => w.heap.size + 1 ≤ b) K x := by rw [HSZ.out] at hK; exact hK
  have hsz1 : w.heap.size + 1 ≤ w1.heap.size := by have := hup.size; rw [HSZ.out] at this; exact this
  have hbn := below_new w1 (.cells (nodeC x K).toArray TN)
  have hPS : PS w g s (w1.alloc (.cells (nodeC x K).toArray TN)) n (.slice (some ⟨w1.heap.size, 0, none⟩) 1 1) [(x, K)] :=
    ⟨hrg.on hbn, Kids.fresh hKB hsz1, (hbn.block _ (by omega)).trans ((hup.block _ (by rw [HSZ.out]; omega) (by have := HG.out; simp; omega)).trans HZ.out), grown_trans (grown_trans (grown_below HB.out _) hup) (grown_below hbn _)⟩
  have HPS := Lib.hid hPS
  have HR2 := Lib.hid (show (if s.data.toList[n]? = some 124 then alts f s.data.toList (n + 1) [x] else .ok (joined 4 [x]) n) = r from hr)
  clear hPS hr HR HRG HZ HB hrow hK hKB hbn hns hrg hup
  simp only [nodeV]
  go_wp2_with fail
  have hn1 : n + 1 ≤ 100001 := by omega
  go_loopg [3] f (fun k v3 wr => ∃ (n : Nat) (ps : List (T × Value)), n ≤ s.size ∧ ps.length ≤ n + 1 ∧ 3 * (s.size - n) ≤ k ∧ k ≤ f ∧ Hid ((if s.data.toList[n]? = some 124 then alts k s.data.toList (n + 1) (ps.map (·.1)) else .ok (joined 4 (ps.map (·.1))) n) = r) ∧ Hid (PS w g s wr n v3 ps))
  case atStart => exact ⟨n, [(x, K)], hnl, by simp, by omega, Nat.le_refl _, HR2, HPS⟩
  case round =>
    clear HPS HR2 hn1 hnl han hsz1 hF ha
    obtain ⟨n, ps, hnl, hpl, hk1, hk2, HR, HP⟩ := hrel
    have hni : (n : Int) ≤ 100000 := by omega
    go_wp2_with fail
    refine (next_any g s n wr HP.out.rg (by omega)).mono ?_
    rintro e w2 ⟨rfl, hb⟩
    have HP2 := Lib.hid (HP.out.on hb)
    clear hb HP
    rcases byte_three s.data.toList n 124 124 rfl with ⟨hn, hn2⟩ | ⟨c, hn, hj, hn2⟩ | ⟨c, hn, hj, hn2⟩
    case inr.inl =>
      have hnla := (byte_at s n c hn).1
      have hr := HR.out
      rw [if_pos hn2] at hr
      obtain ⟨k, rfl⟩ : ∃ k, gk = k + 1 := ⟨gk - 1, by omega⟩
      simp only [alts] at hr
      have HR2 := Lib.hid hr
      simp only [nextV, hn]
      have c1 := HP2.out.rg.c1; have f1 := HP2.out.rg.f1
      have hj2 : ((c.toNat : Int) != 124) = false := by rw [bne, hj]; rfl
      have HP3 := Lib.hid (HP2.out.step HG.out (n + 1))
      clear hr HR hn hn2 HP2
      go_wp2_with fail
      clear c1 f1 hj hj2
      refine (IH.out k (by omega) g s (n + 1) _ HP3.out.rg (by omega) hs (by omega)).mono ?_
      rintro e w4 hm
      have hr := HR2.out
      rcases hrow : row k s.data.toList (n + 1) [] with ⟨y, m⟩ | ⟨k'⟩
      case bad =>
        rw [hrow] at hm hr
        obtain ⟨rfl, hup⟩ := hm
        subst hr
        have HUP := Lib.hid (grown_trans HP3.out.up hup)
        clear hup HR2 HP3 hrow
        go_wp2_with fail
        exact ⟨rfl, readIs_bad rfl HUP.out⟩
      case ok =>
      rw [hrow] at hm hr
      obtain ⟨K2, rfl, hK, hrg, hup⟩ := hm
      obtain ⟨hnm, hms, -⟩ := (read_pos s.data.toList k).2.1 _ _ _ _ hrow (show n + 1 ≤ s.data.toList.length from hnla)
      have hml : m ≤ s.size := hms
      have hszw : w.heap.size + 1 ≤ (w2.setCell ⟨g, 1, none⟩ (.int .i64 (↑(n + 1) : Int))).heap.size := lt_of_block HP3.out.res
      have HKF := Lib.hid (HP3.out.kids.far hszw hK)
      have HP4 := Lib.hid (HP3.out.go HG.out hrg hup)
      have HR3 := Lib.hid (show (if s.data.toList[m]? = some 124 then alts k s.data.toList (m + 1) (ps.map (·.1) ++ [y]) else .ok (joined 4 (ps.map (·.1) ++ [y])) m) = r from hr)
      have hsz4 : w.heap.size + 1 ≤ w4.heap.size := lt_of_block HP4.out.res
      clear hr HR2 HP3 hrow hK hrg hup hms hszw
      simp only [nodeV]
      go_wp2_with (refine wpList_append_node rfl (.tmp 29) (.tmp 32) rfl (w.heap.size + 1) _ ps rfl HP4.out.kids y K2 _ rfl rfl HKF.out (by omega) hsz4 ?_; intro v' w5 hk hb hsz5)
      have HP5 := Lib.hid (HP4.out.app HG.out hk hb)
      clear hk hb HP4 HKF hsz5
      go_wp2_with fail
      go_roundg k
      case measure => omega
      case rel => exact ⟨m, ps ++ [(y, K2)], hml, by simp; omega, by omega, by omega, by simpa using HR3, HP5⟩
    all_goals
      have hr := HR.out
      rw [if_neg hn2] at hr
      have HR5 := Lib.hid hr
      clear hr
      simp only [nextV, hn]
      have hj2 : True := trivial
      try have hj2 : ((c.toNat : Int) != 124) = true := by rw [bne, hj]; rfl
      clear HR hn hn2
      go_wp2_with fail
      try clear hj
      clear hj2
      have hr := HR5.out
      clear HR5
      have hsz2 : w.heap.size + 1 ≤ w2.heap.size := lt_of_block HP2.out.res
      obtain ⟨t, ht⟩ : ∃ t, joined 4 (ps.map (·.1)) = t := ⟨_, rfl⟩
      have hJ := joined_any 4 (w.heap.size + 1) _ ps w2 HP2.out.kids (by omega)
      rw [ht] at hJ hr
      have HRE := Lib.hid hr
      clear hr ht
      refine hJ.mono ?_
      rintro e w3 ⟨K3, rfl, hK3, hb3⟩
      have HD := Lib.hid (HP2.out.done HG.out hb3 (hK3.imp fun b hb _ => by omega) hK3)
      have HA := Lib.hid (node_all hK3)
      have HZ := Lib.hid ((HP2.out.on hb3).res)
      clear hK3 hb3 HP2 hsz2 hJ
      go_wp2_with (refine wpList_store_row rfl TN (.tmp 2) (.tmp 21) rfl w.heap.size (nodeC t K3).toArray rfl rfl TN zN HZ.out (by kernel_rfl) rfl HA.out ?_)
      exact bodyPost_ret (results_cell_row rfl _ _ w.heap.size TN (nodeC t K3).toArray (0, 0) _ rfl (setRow_heap _ _ _ _ _ _ HZ.out) Tryd.underlying66 rfl (by kernel_rfl)) rfl (by have h := HD.out; rw [HRE.out] at h; exact h)
end Go.Proofs.YtfhggnbnbopkkaaDoor
