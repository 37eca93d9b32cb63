/- The document's Fits: does a tree fit the whole of a text? -/
import Derived.Test.YtpiflikblpfgoaaDoorNfaRefEnds
namespace Go.Proofs.YtpiflikblpfgoaaDoor
open Go.RowKit PM

set_option maxRecDepth 100000 in
set_option maxHeartbeats 8000000 in
theorem fits_any (s : ByteArray) (hs : s.size ≤ 1000000) {kind : Int} {l : List UInt8} {t : T} (ht : tree kind l = .ok t) (p : Nat → Prop) (K : Value) (w : World) (hK : IsT w p K t) :
    Calls Tryd.prog 15 #[nodeV t K, .string s] w fun e w' => e = .returned (.bool (fitsB t s.data.toList)) ∧ Below w.heap.size w w' := by
  have hC : ∀ W b c g, Below w.heap.size w W → BF W b (s.size + 1) g → Calls Tryd.prog 30 #[nodeV t K, .string s, .slice (some ⟨b, 0, none⟩) (s.size + 1) c] W (EndsIs s t g W) := fun W b c g hW hg => ends_any s hs 100 (by omega) t (tree_ok ht).1 _ _ W b c g (hK.on hW) hg
  obtain ⟨A, ca, rfl⟩ := hK.slice
  simp only [nodeV, nodeC] at hC
  simp only [nodeV, nodeC]
  generalize word t.set 0 = x0 at *
  generalize word t.set 1 = x1 at *
  generalize word t.set 2 = x2 at *
  generalize word t.set 3 = x3 at *
  generalize t.op = op at *
  generalize t.kids.length = m at *
  have hST : ∀ W, Calls Tryd.prog 31 #[.string s] W fun e w' => e = .returned (.slice (some ⟨W.heap.size, 0, none⟩) (s.size + 1) (s.size + 1)) ∧ BF w' W.heap.size (s.size + 1) (fun j => decide (j = 0)) ∧ Below W.heap.size W w' := fun W => start_any s W hs
  obtain ⟨n, hn⟩ : ∃ n, n = s.size + 1 := ⟨_, rfl⟩
  unfold EndsIs at hC
  rw [← hn] at hC hST
  have HN := Lib.hid hn
  have hlt : (s.size : Int) < n := by omega
  have HC := Lib.hid hC; have HST := Lib.hid hST; have HT := Lib.hid ht
  have HS := Lib.hid (EmS.start w #[.int .i64 op, .int .u64 x0, .int .u64 x1, .int .u64 x2, .int .u64 x3, .slice A m ca])
  clear hC hST hK hn ht
  go_enter Tryd.func15, Tryd.ntmps15
  go_upto_region 1 with (fail)
  change Code.wp _ _ _ _ _
  generalize w.alloc (.cells #[.int .i64 op, .int .u64 x0, .int .u64 x1, .int .u64 x2, .int .u64 x3, .slice A m ca] TN) = W0 at *
  obtain ⟨a0, a1, a2, a3, a4, a5⟩ := HS.out.six
  have HUD : Hid (Below w.heap.size w W0.drew) := Lib.hid (below_then HS.out.up ⟨rfl, rfl, rfl, Nat.le_refl _, fun _ _ => rfl⟩ (Nat.le_refl _))
  go_region_held3 (fun w' => w'.cell? ⟨w.heap.size, 0, none⟩ = some (.int .i64 op) ∧ w'.cell? ⟨w.heap.size, 1, none⟩ = some (.int .u64 x0) ∧ w'.cell? ⟨w.heap.size, 2, none⟩ = some (.int .u64 x1) ∧ w'.cell? ⟨w.heap.size, 3, none⟩ = some (.int .u64 x2) ∧ w'.cell? ⟨w.heap.size, 4, none⟩ = some (.int .u64 x3) ∧ w'.cell? ⟨w.heap.size, 5, none⟩ = some (.slice A m ca))
    (first | exact ⟨a0, a1, a2, a3, a4, a5⟩ | exact ⟨cell_below a0 hb2, cell_below a1 hb2, cell_below a2 hb2, cell_below a3 hb2, cell_below a4 hb2, cell_below a5 hb2⟩ | exact ⟨cell_below a0 hb3, cell_below a1 hb3, cell_below a2 hb3, cell_below a3 hb3, cell_below a4 hb3, cell_below a5 hb3⟩)
    (first
    | (go_at_call 31; refine (HST.out W0.drew).mono ?_; rintro e w2 ⟨rfl, hg, hb⟩; have hb2 : Below W0.heap.size W0 w2 := ⟨hb.os, hb.tape, hb.output, hb.size, fun k hk => hb.block k hk⟩; have HU2 := Lib.hid (below_then HUD.out hb (Nat.le_refl _)); have HG2 := Lib.hid hg; clear hb hg)
    | (go_at_call 30; refine (HC.out w2 _ _ _ HU2.out HG2.out).mono ?_; rintro e w3 ⟨bq, cq, gq, rfl, hg, hp, hb⟩; have hb3 : Below W0.heap.size W0 w3 := below_then hb2 hb (Nat.le_refl _); have HU3 := Lib.hid (below_then HU2.out hb (Nat.le_refl _)); have HG3 := Lib.hid hg; have HP3 := Lib.hid hp; clear hb hg hp))
  all_goals
    have c0 := HG3.out.cell (i := s.size) (by have := HN.out; omega)
    have HV := Lib.hid (show gq s.size = fitsB t s.data.toList from HP3.out.fits HT.out (fun _ => rfl))
    go_wp2_with fail
    go_ret
    exact ⟨by rw [← HV.out]; rfl, HU3.out⟩
end Go.Proofs.YtpiflikblpfgoaaDoor
