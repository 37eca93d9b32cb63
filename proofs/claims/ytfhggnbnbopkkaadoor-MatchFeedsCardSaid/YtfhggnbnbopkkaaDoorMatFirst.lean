/- match.First, match.Keep. -/
import Derived.Test.YtfhggnbnbopkkaaDoorMatNew
import Derived.Test.YtfhggnbnbopkkaaDoorMatStep
import Derived.Laws.ResultCell
namespace Go.Proofs.YtfhggnbnbopkkaaDoor
open Go.RowKit PM

set_option maxRecDepth 100000
abbrev THit : TypeId := 26
def hitC (a p e : Nat) : Array Value := #[.int .i64 a, .int .i64 p, .int .i64 e]
/-- a matcher has taken a byte -/
theorem MaN.stepped {w w' : World} {x : Mx} {arms : List Arm} {buf cur cur' : List UInt8} {neg : Nat → Bool} {R R' : List Rw} {bv : Value} (h : MaN w x arms buf cur neg R bv) (hr : Rows w' x R') (ha : ArmsAt w' arms (fun _ => (cur', false)) R') (ht : TurnsP (Own x R) w w') : MaIs w' x arms buf cur' R' bv := by
  refine ⟨(ht.block x.mb (lt_of_block h.blk) (own_not h.trks h.rows h.blk (by decide))).trans h.blk, own_keep h.buf fun g hg => ?_, h.nets.turns h.trks h.rows ht, hr, ha, h.few⟩
  obtain ⟨cs, h1⟩ := own_typed h.buf hg
  exact ht.block g (lt_of_block h1) (own_not h.trks h.rows h1 (by decide))
theorem own_next {w : World} {x : Mx} {R R' : List Rw} {bv : Value} {B : Nat} (hf : ∀ k, Has R' k → k < w.heap.size → Has R k) (hB : ∀ k, OwnM x R bv k → B ≤ k) (hb : B ≤ w.heap.size) : ∀ k, OwnM x R' bv k → B ≤ k := fun k hk => by
  rcases hk with rfl | hk | rfl | hk
  · exact hB _ (.inl rfl)
  · exact hB _ (.inr (.inl hk))
  · exact hB _ (.inr (.inr (.inl rfl)))
  · by_cases h : k < w.heap.size
    · exact hB _ (.inr (.inr (.inr (hf k hk h))))
    · omega
theorem step_own {x : Mx} {R : List Rw} {bv : Value} {k : Nat} (h : Own x R k) : OwnM x R bv k := .inr (.inr h)
theorem cut_none (n : Nat) : Cut 0 n n false := ⟨fun p hp h => absurd h.1 (by omega), fun h => by cases h⟩
theorem zHit_run (w : World) : (zeroValue THit).run Tryd.prog w = .ok (.agg #[.int .i64 0, .int .i64 0, .int .i64 0]) w := by kernel_rfl
theorem results_first {tmps : Array Value} {W : World} {g a p e : Nat} {b : Bool} (h4 : tmps.getD 4 undef = .pointer (some ⟨g, 0, none⟩)) (h5 : tmps.getD 5 undef = .bool b) (hg : W.heap[g]? = some (.cells (hitC a p e) THit (0, 0))) :
    (results Tryd.f14 tmps).run Tryd.prog W = .ok (.tuple #[.agg (hitC a p e), .bool b]) W := by
  rw [results_cell_tmp (show Tryd.f14.results = #[.cell 4 THit, .tmp 5] from rfl), h4, h5]
  simp [asAddr, run_loadVar_row W g THit THit (hitC a p e) (0, 0) _ hg Tryd.underlying26 rfl (by kernel_rfl)]
theorem box_cells {W : World} {B a p e : Nat} (h : W.heap[B]? = some (.cells (hitC a p e) THit (0, 0))) : W.cell? ⟨B, 0, none⟩ = some (.int .i64 a) ∧ W.cell? ⟨B, 1, none⟩ = some (.int .i64 p) ∧ W.cell? ⟨B, 2, none⟩ = some (.int .i64 e) ∧ ∀ j, W.frozen? ⟨B, j, none⟩ = false :=
  ⟨by rw [cell_of_row _ _ 0 _ _ _ h]; rfl, by rw [cell_of_row _ _ 1 _ _ _ h]; rfl, by rw [cell_of_row _ _ 2 _ _ _ h]; rfl, fun j => frozen_of_row _ _ _ _ _ h⟩
def boxW (W : World) (B : Nat) (a p e : Nat) : World := ((W.setCell ⟨B, 0, none⟩ (.int .i64 a)).setCell ⟨B, 1, none⟩ (.int .i64 p)).setCell ⟨B, 2, none⟩ (.int .i64 e)
theorem box_set {W : World} {B a0 p0 e0 : Nat} (h : W.heap[B]? = some (.cells (hitC a0 p0 e0) THit (0, 0))) (a p e : Nat) : (boxW W B a p e).heap[B]? = some (.cells (hitC a p e) THit (0, 0)) :=
  heap_setCell_same _ B 2 _ _ (.int .i64 e) (heap_setCell_same _ B 1 _ _ (.int .i64 p) (heap_setCell_same _ B 0 _ _ (.int .i64 a) h))
theorem box_below (B : Nat) (W : World) (a p e : Nat) : Below B W (boxW W B a p e) :=
  ⟨rfl, rfl, rfl, by unfold boxW; simp, fun k hk => by
    unfold boxW
    rw [heap_setCell_other _ ⟨B, 2, none⟩ k _ (by show k ≠ B; omega), heap_setCell_other _ ⟨B, 1, none⟩ k _ (by show k ≠ B; omega), heap_setCell_other _ ⟨B, 0, none⟩ k _ (by show k ≠ B; omega)]⟩
/-- what First tells -/
def firstV (o : Option (Nat × Nat × Nat)) : Ending := match o with
  | some (a, p, e) => .returned (.tuple #[.agg (hitC a p e), .bool true])
  | none => .returned (.tuple #[.agg (hitC 0 0 0), .bool false])
def FirstIs (ps : List Pat) (s : List UInt8) (w : World) (e : Ending) (w' : World) : Prop :=
  Below w.heap.size w w' ∧ ((¬ May ps ∧ e = firstV none) ∨ (May ps ∧ ∃ ts, Trees ps ts ∧ e = firstV (first ts s)))
/-- what stands while First goes through a text -/
structure FirS (w wr : World) (x : Mx) (arms : List Arm) (s : List UInt8) (i : Nat) (R : List Rw) : Prop where
  ma : MaIs wr x arms [] (s.take i) R (.slice none 0 0)
  up : Below w.heap.size w wr
  ge : ∀ k, OwnM x R (.slice none 0 0) k → w.heap.size + 1 ≤ k
  box : wr.heap[w.heap.size]? = some (.cells (hitC 0 0 0) THit (0, 0))
  bare : ∀ j, j < i → hitOf (trees arms) (s.take (j + 1)) = none
/-- the step's call in that -/
theorem FirS.step {w wr : World} {x : Mx} {arms : List Arm} {s : ByteArray} {i : Nat} {R : List Rw} (h : FirS w wr x arms s.data.toList i R) (hi : i < s.size) (hl : i ≤ 5000000) :
    Calls Tryd.prog 29 #[.pointer (some ⟨x.mb, 0, none⟩), .int .u8 s[i].toNat, .int .i64 i, .int .i64 0] wr fun e w' => Below w.heap.size w w' ∧ w'.heap[w.heap.size]? = some (.cells (hitC 0 0 0) THit (0, 0)) ∧
      ((∃ a p : Nat, first (trees arms) s.data.toList = some (a, p, i + 1) ∧ e = .returned (.tuple #[.int .i64 a, .int .i64 p, .bool true])) ∨
       (e = .returned (.tuple #[.int .i64 0, .int .i64 0, .bool false]) ∧ ∃ R', FirS w w' x arms s.data.toList (i + 1) R')) := by
  have htk : s.data.toList.take i ++ [s[i]] = s.data.toList.take (i + 1) := by rw [List.take_succ_eq_append_getElem (show i < s.data.toList.length from hi)]; rfl
  have hlen : (s.data.toList.take i).length = i := by rw [List.length_take]; exact Nat.min_eq_left (Nat.le_of_lt hi)
  have hs := step_row x arms R (s.data.toList.take i) s[i] (fun _ => false) 0 (.slice none 0 0) wr h.ma.blk h.ma.nets h.ma.rows h.ma.trks (fun _ => cut_none _) (by rw [hlen]; exact hl) (by decide) h.ma.few
  rw [hlen] at hs
  refine hs.mono ?_
  rintro e w' ⟨R', hr, hrl, ht, hf, hlt, hc⟩
  rw [htk] at hc
  have hB := h.up.size
  have hg1 : w.heap.size + 1 ≤ wr.heap.size := lt_of_block h.box
  have hup : Below w.heap.size w w' := below_turned h.up hB ht fun k hk => by have := h.ge k (step_own hk); omega
  have hbx : w'.heap[w.heap.size]? = some (.cells (hitC 0 0 0) THit (0, 0)) := (ht.block _ (lt_of_block h.box) (fun hk => by have := h.ge _ (step_own hk); omega)).trans h.box
  refine ⟨hup, hbx, ?_⟩
  rcases hc with ⟨a, p, h1, rfl⟩ | ⟨h1, rfl, ha⟩
  · exact .inl ⟨a, p, first_some.2 ⟨Nat.succ_pos _, hi, h1, fun j hj => h.bare j (by omega)⟩, rfl⟩
  · exact .inr ⟨rfl, R', h.ma.stepped hr ha ht, hup, own_next hf h.ge hg1, hbx, fun j hj => by
      rcases Nat.lt_or_ge j i with h2 | h2
      · exact h.bare j h2
      · obtain rfl : j = i := by omega
        exact h1⟩
theorem FirS.done {w wr : World} {x : Mx} {arms : List Arm} {s : List UInt8} {R : List Rw} (h : FirS w wr x arms s s.length R) : first (trees arms) s = none := first_none.2 h.bare
set_option maxHeartbeats 4000000 in
theorem first_any (A : Option Addr) (c : Nat) (ps : List Pat) (s : ByteArray) (w : World) (hA : PIn w A ps) (hT : Tab w) (hn : ps.length ≤ 9223372036854775807) (hs : s.size ≤ 5000000) :
    Calls Tryd.prog 14 #[.slice A ps.length c, .string s] w (FirstIs ps s.data.toList w) := by
  have HA := Lib.hid (hA.on (below_new w (.cells (hitC 0 0 0) THit)))
  have HT := Lib.hid (tab_on hT (below_new w (.cells (hitC 0 0 0) THit)))
  have HB0 := Lib.hid (And.intro (below_new w (.cells (hitC 0 0 0) THit)) (heap_alloc_new w (.cells (hitC 0 0 0) THit)))
  clear hA hT
  have hz := zHit_run
  go_enter Tryd.func14, Tryd.ntmps14
  go_upto_region 1 with (fail)
  change Code.wp _ _ _ _ (w.alloc (.cells (hitC 0 0 0) THit))
  generalize w.alloc (.cells (hitC 0 0 0) THit) = W0 at *
  have HNW := Lib.hid (new_any A c ps W0 HA.out HT.out hn)
  obtain ⟨n, hln⟩ : ∃ n, ps.length = n := ⟨_, rfl⟩
  rw [hln] at HNW ⊢
  obtain ⟨B, hB⟩ : ∃ B, w.heap.size = B := ⟨_, rfl⟩
  have HB := Lib.hid hB
  have hlt0 : B < W0.heap.size := by rw [← hB]; exact lt_of_block HB0.out.2
  rw [hB] at HB0 ⊢
  clear hB hln
  go_wp2_with fail
  refine HNW.out.mono ?_
  rintro e W1 (⟨hno, rfl, hup⟩ | ⟨hmay, x, arms, R, rfl, hma, htr, hup, hge⟩)
  · have HF : Hid (FirstIs ps s.data.toList w (firstV none) W1 ∧ W1.heap[B]? = some (.cells (hitC 0 0 0) THit (0, 0))) := Lib.hid ⟨⟨by rw [HB.out]; exact HB0.out.1.trans (hup.mono (Nat.le_of_lt hlt0)), .inl ⟨hno, rfl⟩⟩, (hup.block _ hlt0).trans HB0.out.2⟩
    clear hno hup HNW
    obtain ⟨k0, k1, k2, kf⟩ := box_cells HF.out.2
    go_wp2_with fail
    refine bodyPost_ret (results_first rfl rfl (box_set HF.out.2 0 0 0)) rfl ⟨HF.out.1.1.trans (by rw [HB.out]; exact (box_below B _ _ _ _)), HF.out.1.2⟩
  · have HS : Hid (FirS w W1 x arms s.data.toList 0 R) := Lib.hid ⟨hma, by rw [HB.out]; exact HB0.out.1.trans (hup.mono (Nat.le_of_lt hlt0)), fun k hk => by have := hge k hk; rw [HB.out]; omega, by rw [HB.out]; exact (hup.block _ hlt0).trans HB0.out.2, fun j hj => absurd hj (Nat.not_lt_zero _)⟩
    have HM := Lib.hid (And.intro hmay htr)
    clear hma htr hup hge hmay HNW
    go_upto_region 5 with (fail)
    go_loopg [22] (s.size + 1) (fun k v22 wr => ∃ (i : Nat) (R : List Rw), v22 = .int .i64 i ∧ i ≤ s.size ∧ s.size + 1 - i ≤ k ∧ Hid (FirS w wr x arms s.data.toList i R))
    case atStart => exact ⟨0, R, rfl, by omega, by omega, HS⟩
    case round =>
      clear HS HA HT HB0 hlt0
      obtain ⟨i, R', rfl, hi, hik, HX⟩ := hrel
      have hi0 : (0 : Int) ≤ i := by omega
      by_cases hlt : i < s.size
      · have hlt1 : (i : Int) < s.size := by omega
        have hi2 : (i : Int) ≤ 5000000 := by omega
        have HC := Lib.hid (HX.out.step hlt (by omega))
        go_wp2_with fail
        refine HC.out.mono ?_
        rintro e W2 ⟨hup, hbx, (⟨a, p, hf, rfl⟩ | ⟨rfl, R2, hs2⟩)⟩
        · have HF := Lib.hid (And.intro hup (And.intro hbx hf))
          have HFI : Hid (FirstIs ps s.data.toList w (firstV (some (a, p, i + 1))) W2) := Lib.hid ⟨hup, .inr ⟨HM.out.1, _, HM.out.2, by rw [hf]⟩⟩
          clear hup hbx hf HC HX
          rw [HB.out] at HF
          obtain ⟨k0, k1, k2, kf⟩ := box_cells HF.out.2.1
          go_wp2_with fail
          refine bodyPost_ret (results_first rfl rfl (box_set HF.out.2.1 a p (i + 1))) rfl ⟨HFI.out.1.trans (by rw [HB.out]; exact (box_below B _ _ _ _)), HFI.out.2⟩
        · have HX2 := Lib.hid hs2
          clear hup hbx HC HX hs2
          go_wp2_with fail
          go_roundg (gk - 1)
          case measure => omega
          case rel => exact ⟨i + 1, R2, by go_num, by omega, by omega, HX2⟩
      · obtain rfl : i = s.size := by omega
        have HF : Hid (FirstIs ps s.data.toList w (firstV none) wr ∧ wr.heap[B]? = some (.cells (hitC 0 0 0) THit (0, 0))) := Lib.hid ⟨⟨HX.out.up, .inr ⟨HM.out.1, _, HM.out.2, by rw [HX.out.done]⟩⟩, by rw [← HB.out]; exact HX.out.box⟩
        clear HX
        obtain ⟨k0, k1, k2, kf⟩ := box_cells HF.out.2
        go_wp2_with fail
        refine bodyPost_ret (results_first rfl rfl (box_set HF.out.2 0 0 0)) rfl ⟨HF.out.1.1.trans (by rw [HB.out]; exact (box_below B _ _ _ _)), HF.out.1.2⟩
/-- of a text its last bytes are kept -/
theorem keep_any (s : ByteArray) (w : World) (hs : s.size ≤ 9223372036854775807) :
    Calls Tryd.prog 16 #[.string s] w fun e w' => e = .returned (.string ⟨(keep s.data.toList).toArray⟩) ∧ w' = w := by
  go_enter Tryd.func16, Tryd.ntmps16
  go_wp2_with fail
  · go_ret
    refine ⟨?_, rfl⟩
    have hk : keep s.data.toList = s.data.toList := keep_short (show s.data.toList.length ≤ 256 by show s.size ≤ 256; omega)
    rw [hk]
    rfl
  · go_ret
    refine ⟨?_, rfl⟩
    have hk : (⟨(keep s.data.toList).toArray⟩ : ByteArray) = s.extract (s.size - 256) s.size := by
      apply ByteArray.ext
      rw [ByteArray.data_extract]
      apply Array.ext'
      show keep s.data.toList = _
      unfold keep keepN
      rw [Array.toList_extract, List.extract_eq_take_drop]
      rw [List.take_of_length_le (by rw [List.length_drop]; show s.size - (s.size - 256) ≤ _; exact Nat.le_refl _)]
      rfl
    rw [hk]
    have e : ((s.size : Int) - 256).toNat = s.size - 256 := by omega
    rw [e]
    rfl
end Go.Proofs.YtfhggnbnbopkkaaDoor
