/- The document's trees of literals and globs. -/
import Derived.Test.YtpiflikblpfgoaaDoorPatRefRead
namespace Go.Proofs.YtpiflikblpfgoaaDoor
open Go.RowKit PM
attribute [local go_sem] nodeC

theorem results_rt {fn : Func} {p1 p2 : Tmp} {t1 : TypeId} (h : fn.results = #[.cell p1 t1, .tmp p2]) (tmps : Array Value) (W : World) (b : Nat) (X Y : Value)
    (h1 : tmps.getD p1 undef = .pointer (some ⟨b, 0, none⟩)) (h2 : tmps.getD p2 undef = Y) (l1 : (loadVar t1 ⟨b, 0, none⟩).run Tryd.prog W = .ok X W) :
    (results fn tmps).run Tryd.prog W = .ok (.tuple #[X, Y]) W := by
  have h1' : tmps[p1]?.getD undef = .pointer (some ⟨b, 0, none⟩) := by simpa using h1
  have h2' : tmps[p2]?.getD undef = Y := by simpa using h2
  simp [results, h, h1', h2', asAddr, l1]

set_option maxRecDepth 100000 in
set_option maxHeartbeats 8000000 in
theorem rliteral_any (s : ByteArray) (w : World) (hs : s.size ≤ 100000) :
    Calls Tryd.prog 26 #[.string s] w (NodeIs w (joined 3 (s.data.toList.map fun c => one c.toNat))) := by
  have H0 := Lib.hid (gs_start w)
  obtain ⟨t, ht⟩ : ∃ t, joined 3 (s.data.toList.map fun c => one c.toNat) = t := ⟨_, rfl⟩
  rw [ht]
  have HT := Lib.hid ht
  clear ht
  go_enter Tryd.func26, Tryd.ntmps26
  go_wp2_with fail
  change Code.wp _ _ _ _ (w.alloc (.cells zN TN))
  generalize w.alloc (.cells zN TN) = W0 at *
  go_loopg [3, 4] (s.size + 1) (fun k v3 v4 wr => ∃ (i : Nat) (ps : List (T × Value)), v4 = .int .i64 i ∧ i ≤ s.size ∧ s.size + 1 - i ≤ k ∧ ps.length ≤ i ∧ Hid (ps.map (·.1) = (s.data.toList.take i).map fun c => one c.toNat) ∧ Hid (GS w wr v3 ps))
  case atStart => exact ⟨0, [], rfl, by omega, by omega, by simp, Lib.hid (by simp), H0⟩
  case round =>
    clear H0
    obtain ⟨i, ps, rfl, hil, hik, hpl, HP, HG⟩ := hrel
    have hlt : w.heap.size + 1 ≤ wr.heap.size := lt_of_block HG.out.res
    by_cases hi : i < s.size
    · have hi2 : (i : Int) < s.size := by omega
      have hi0 : (0 : Int) ≤ i := by omega
      have HP2 : Hid (ps.map (·.1) ++ [one s[i].toNat] = (s.data.toList.take (i + 1)).map fun c => one c.toNat) := Lib.hid (by
        rw [HP.out, List.take_succ_eq_append_getElem (show i < s.data.toList.length from hi), List.map_append]; rfl)
      go_wp2_with fail
      refine (rone_any s[i].toNat s[i].toNat_lt wr).mono ?_
      rintro e w2 ⟨rfl, hb⟩
      have HGX := Lib.hid (HG.out.on hb)
      have HIS := Lib.hid (HG.out.kids.far hlt (show IsT w2 (fun b => wr.heap.size ≤ b) (.slice none 0 0) (one s[i].toNat) from IsT.nil _ _))
      clear hb HG hlt HP
      simp only [nodeV]
      go_wp2_with (refine wpList_append_node rfl (.tmp 11) (.tmp 16) rfl (w.heap.size + 1) _ ps rfl HGX.out.kids (one s[i].toNat) (.slice none 0 0) _ rfl rfl HIS.out (by omega) (lt_of_block HGX.out.res) ?_; intro v' w9 hk9 hb9 hsz9; have HG9 := Lib.hid (HGX.out.app hk9 hb9); clear hk9 hb9 hsz9)
      go_roundg (gk - 1)
      case measure => omega
      case rel => exact ⟨i + 1, ps ++ [(one s[i].toNat, .slice none 0 0)], by go_num, by omega, by omega, by simp; omega, Lib.hid (by rw [List.map_append]; exact HP2.out), HG9⟩
    · obtain rfl : i = s.size := by omega
      have hex : ¬ ((s.size : Int) < s.size) := by omega
      have hp := HP.out
      rw [List.take_of_length_le (show s.data.toList.length ≤ s.size from Nat.le_refl _)] at hp
      have hJ := rover_any 3 (w.heap.size + 1) _ ps wr HG.out.kids (by omega)
      rw [hp, HT.out] at hJ
      have HJ := Lib.hid hJ
      clear hJ hp HP
      go_wp2_with fail
      refine HJ.out.mono ?_
      rintro e w6 ⟨K3, rfl, hK3, hb3⟩
      have HG4 := Lib.hid (HG.out.on hb3)
      have HD := Lib.hid (HG4.out.put hK3 (nodeC t K3).toArray)
      have HA := Lib.hid (node_all hK3)
      clear hK3 hb3 HG HJ
      go_wp2_with (refine wpList_store_row rfl TN (.tmp 2) (.tmp 19) rfl w.heap.size (nodeC t K3).toArray rfl rfl TN zN HG4.out.res (by kernel_rfl) rfl HA.out ?_)
      exact bodyPost_ret (results_cell_row rfl _ _ w.heap.size TN (nodeC t K3).toArray (0, 0) _ rfl (setRow_heap _ _ _ _ _ _ HG4.out.res) Tryd.underlying34 rfl (by kernel_rfl)) rfl ⟨K3, rfl, HD.out.1, HD.out.2⟩

/-- what the document's glob tells -/
def RGlobIs (w : World) (r : Option (List T)) (e : Ending) (w' : World) : Prop :=
  match r with
  | some l => ∃ K, e = .returned (.tuple #[nodeV (joined 3 l) K, .bool true]) ∧ IsT w' (fun b => w.heap.size ≤ b) K (joined 3 l) ∧ Below w.heap.size w w'
  | none => e = .returned (.tuple #[.agg zN, .bool false]) ∧ Below w.heap.size w w'
theorem rglobIs_bad {w w' : World} {e : Ending} (h : e = .returned (.tuple #[.agg zN, .bool false])) (hb : Below w.heap.size w w') : RGlobIs w none e w' := ⟨h, hb⟩
theorem rglobIs_ok {w w' : World} {l : List T} {K : Value} {e : Ending} (h : e = .returned (.tuple #[nodeV (joined 3 l) K, .bool true])) (h1 : IsT w' (fun b => w.heap.size ≤ b) K (joined 3 l)) (hb : Below w.heap.size w w') : RGlobIs w (some l) e w' := ⟨K, h, h1, hb⟩

set_option maxRecDepth 100000 in
set_option maxHeartbeats 8000000 in
theorem rglob_any (s : ByteArray) (w : World) (hs : s.size ≤ 100000) :
    Calls Tryd.prog 27 #[.string s] w (RGlobIs w (globL s.data.toList)) := by
  obtain ⟨r, hr⟩ : ∃ r, globL s.data.toList = r := ⟨_, rfl⟩
  rw [hr]
  have hr0 : globR ([] : List T) (s.data.toList.drop 0) = r := by rw [List.drop_zero, ← hr]; unfold globR; cases globL s.data.toList <;> rfl
  have HR := Lib.hid hr0; have HG := Lib.hid (gs_start w)
  clear hr hr0
  go_enter Tryd.func27, Tryd.ntmps27
  go_wp2_with fail
  change Code.wp _ _ _ _ (w.alloc (.cells zN TN))
  generalize w.alloc (.cells zN TN) = W0 at *
  go_loopg [4, 5] (s.size + 1) (fun k v3 v4 wr => ∃ (i : Nat) (ps : List (T × Value)), v4 = .int .i64 i ∧ i ≤ s.size ∧ s.size + 1 - i ≤ k ∧ ps.length ≤ i ∧ Hid (globR (ps.map (·.1)) (s.data.toList.drop i) = r) ∧ Hid (GS w wr v3 ps))
  case atStart => exact ⟨0, [], rfl, by omega, by omega, by simp, HR, HG⟩
  case round =>
    clear HR HG
    obtain ⟨i, ps, rfl, hil, hik, hpl, HR, HG⟩ := hrel
    have hlt : w.heap.size + 1 ≤ wr.heap.size := lt_of_block HG.out.res
    by_cases hi : i < s.size
    · have hi2 : (i : Int) < s.size := by omega
      have hi0 : (0 : Int) ≤ i := by omega
      have hr := HR.out
      rw [drop_at s i hi] at hr
      by_cases e92 : s[i].toNat = 92
      · have j92 : ((s[i].toNat : Int) == 92) = true := by rw [e92]; rfl
        have hc : s[i] = 92 := u8_eq e92
        rw [hc] at hr
        by_cases hi1 : i + 1 = s.size
        · rw [drop_end s (i + 1) (by omega), globR_bad] at hr
          subst hr
          have j1 : ((i : Int) + 1 == (s.size : Int)) = true := by rw [beq_iff_eq]; omega
          clear HR hlt e92 hc hi1
          go_wp2_with (refine wpList_store_row rfl TN (.tmp 2) (.tmp 23) rfl w.heap.size zN rfl rfl TN zN HG.out.res (by kernel_rfl) rfl (by simp [zN, Value.oneCell']) ?_)
          exact bodyPost_ret (v := .tuple #[.agg zN, .bool false]) (results_rt rfl _ _ w.heap.size _ _ rfl rfl (load_node _ _ zN (setRow_heap _ _ _ _ _ _ HG.out.res) rfl)) rfl (rglobIs_bad rfl (HG.out.bad _))
        · have hi3 : i + 1 < s.size := by omega
          have j1 : ((i : Int) + 1 == (s.size : Int)) = false := by rw [beq_eq_false_iff_ne]; omega
          rw [drop_at s (i + 1) hi3, globR_sign] at hr
          have HR2 := Lib.hid (show globR (ps.map (·.1) ++ [one s[i + 1].toNat]) (s.data.toList.drop (i + 1 + 1)) = r from hr)
          have hi4 : (i : Int) + 1 < s.size := by omega
          have hi5 : (0 : Int) ≤ (i : Int) + 1 := by omega
          clear hr HR hc e92 hi1
          go_wp2_with fail
          refine (rone_any s[i + 1].toNat s[i + 1].toNat_lt wr).mono ?_
          rintro e w2 ⟨rfl, hb⟩
          have HGX := Lib.hid (HG.out.on hb)
          have HIS := Lib.hid (HG.out.kids.far hlt (show IsT w2 (fun b => wr.heap.size ≤ b) (.slice none 0 0) (one s[i + 1].toNat) from IsT.nil _ _))
          clear hb HG j92 j1 hlt
          simp only [nodeV]
          go_wp2_with (refine wpList_append_node rfl (.tmp 36) (.tmp 42) rfl (w.heap.size + 1) _ ps rfl HGX.out.kids (one s[i + 1].toNat) (.slice none 0 0) _ rfl rfl HIS.out (by omega) (lt_of_block HGX.out.res) ?_; intro v' w9 hk9 hb9 hsz9; have HG9 := Lib.hid (HGX.out.app hk9 hb9); clear hk9 hb9 hsz9)
          go_roundg (gk - 1)
          case measure => omega
          case rel => exact ⟨i + 1 + 1, ps ++ [(one s[i + 1].toNat, .slice none 0 0)], by go_num, by omega, by omega, by simp; omega, Lib.hid (by rw [List.map_append]; exact HR2.out), HG9⟩
      have j92 : ((s[i].toNat : Int) == 92) = false := by rw [beq_eq_false_iff_ne]; omega
      have n92 : s[i] ≠ 92 := fun h => e92 (by rw [h]; rfl)
      by_cases e42 : s[i].toNat = 42
      · have j42 : ((s[i].toNat : Int) == 42) = true := by rw [e42]; rfl
        have hc : s[i] = 42 := u8_eq e42
        rw [hc, globR_cons _ _ _ (by decide)] at hr
        have HR2 := Lib.hid (show globR (ps.map (·.1) ++ [over 5 every]) (s.data.toList.drop (i + 1)) = r from hr)
        clear hr HR hc e42 e92 n92
        go_wp2_with fail
        refine (rall_any wr).mono ?_
        rintro e w2 ⟨rfl, hb⟩
        have HG2 := Lib.hid (HG.out.on hb)
        have hIS := IsT.over (show IsT w2 (fun b => wr.heap.size ≤ b) (.slice none 0 0) every from IsT.nil _ _) hb.size 5
        have HIS := Lib.hid (HG.out.kids.far hlt hIS)
        have HGX := Lib.hid (HG2.out.on (below_new w2 (.cells (nodeC every (.slice none 0 0)).toArray TN)))
        have HSZ : Hid ((w2.alloc (.cells (nodeC every (.slice none 0 0)).toArray TN)).heap.size = w2.heap.size + 1) := Lib.hid (by simp)
        clear hIS hb HG HG2 j42 j92 hlt
        simp only [nodeV]
        go_wp2_with (refine wpList_append_node' #[.int .i64 5, .int .u64 0, .int .u64 0, .int .u64 0, .int .u64 0, .slice (some ⟨w2.heap.size, 0, none⟩) 1 1] rfl (.tmp 51) (.tmp 55) rfl (w.heap.size + 1) _ ps rfl HGX.out.kids (over 5 every) (.slice (some ⟨w2.heap.size, 0, none⟩) 1 1) (by have := nodeV_op 5 [every] (.slice (some ⟨w2.heap.size, 0, none⟩) 1 1); unfold nodeV at this; injection this) _ HSZ.out rfl HIS.out (by omega) (lt_of_block HGX.out.res) ?_; intro v' w9 hk9 hb9 hsz9; have HG9 := Lib.hid (HGX.out.app hk9 hb9); clear hk9 hb9 hsz9)
        go_roundg (gk - 1)
        case measure => omega
        case rel => exact ⟨i + 1, ps ++ [(over 5 every, .slice (some ⟨w2.heap.size, 0, none⟩) 1 1)], by go_num, by omega, by omega, by simp; omega, Lib.hid (by rw [List.map_append]; exact HR2.out), HG9⟩
      have j42 : ((s[i].toNat : Int) == 42) = false := by rw [beq_eq_false_iff_ne]; omega
      have n42 : s[i] ≠ 42 := fun h => e42 (by rw [h]; rfl)
      by_cases e63 : s[i].toNat = 63
      · have j63 : ((s[i].toNat : Int) == 63) = true := by rw [e63]; rfl
        have hc : s[i] = 63 := u8_eq e63
        rw [hc, globR_cons _ _ _ (by decide)] at hr
        have HR2 := Lib.hid (show globR (ps.map (·.1) ++ [every]) (s.data.toList.drop (i + 1)) = r from hr)
        clear hr HR hc e63 n42 e42 e92 n92
        go_wp2_with fail
        refine (rall_any wr).mono ?_
        rintro e w2 ⟨rfl, hb⟩
        have HGX := Lib.hid (HG.out.on hb)
        have HIS := Lib.hid (HG.out.kids.far hlt (show IsT w2 (fun b => wr.heap.size ≤ b) (.slice none 0 0) every from IsT.nil _ _))
        clear hb HG j42 j63 j92 hlt
        simp only [nodeV]
        go_wp2_with (refine wpList_append_node rfl (.tmp 62) (.tmp 64) rfl (w.heap.size + 1) _ ps rfl HGX.out.kids (every) (.slice none 0 0) _ rfl rfl HIS.out (by omega) (lt_of_block HGX.out.res) ?_; intro v' w9 hk9 hb9 hsz9; have HG9 := Lib.hid (HGX.out.app hk9 hb9); clear hk9 hb9 hsz9)
        go_roundg (gk - 1)
        case measure => omega
        case rel => exact ⟨i + 1, ps ++ [(every, .slice none 0 0)], by go_num, by omega, by omega, by simp; omega, Lib.hid (by rw [List.map_append]; exact HR2.out), HG9⟩
      have j63 : ((s[i].toNat : Int) == 63) = false := by rw [beq_eq_false_iff_ne]; omega
      have n63 : s[i] ≠ 63 := fun h => e63 (by rw [h]; rfl)
      rw [globR_cons _ _ _ n92] at hr
      have HR2 := Lib.hid (show globR (ps.map (·.1) ++ [one s[i].toNat]) (s.data.toList.drop (i + 1)) = r by rw [← hr]; simp [globOne, n42, n63])
      clear hr HR e42 e63 e92 n42 n63 n92
      go_wp2_with fail
      refine (rone_any s[i].toNat s[i].toNat_lt wr).mono ?_
      rintro e w2 ⟨rfl, hb⟩
      have HGX := Lib.hid (HG.out.on hb)
      have HIS := Lib.hid (HG.out.kids.far hlt (show IsT w2 (fun b => wr.heap.size ≤ b) (.slice none 0 0) (one s[i].toNat) from IsT.nil _ _))
      clear hb HG j42 j63 j92 hlt
      simp only [nodeV]
      go_wp2_with (refine wpList_append_node rfl (.tmp 24) (.tmp 29) rfl (w.heap.size + 1) _ ps rfl HGX.out.kids (one s[i].toNat) (.slice none 0 0) _ rfl rfl HIS.out (by omega) (lt_of_block HGX.out.res) ?_; intro v' w9 hk9 hb9 hsz9; have HG9 := Lib.hid (HGX.out.app hk9 hb9); clear hk9 hb9 hsz9)
      go_roundg (gk - 1)
      case measure => omega
      case rel => exact ⟨i + 1, ps ++ [(one s[i].toNat, .slice none 0 0)], by go_num, by omega, by omega, by simp; omega, Lib.hid (by rw [List.map_append]; exact HR2.out), HG9⟩
    · obtain rfl : i = s.size := by omega
      have hex : ¬ ((s.size : Int) < s.size) := by omega
      have hr := HR.out
      rw [drop_end s s.size (Nat.le_refl _), globR_end] at hr
      subst hr
      obtain ⟨t, ht⟩ : ∃ t, joined 3 (ps.map (·.1)) = t := ⟨_, rfl⟩
      have hJ := rover_any 3 (w.heap.size + 1) _ ps wr HG.out.kids (by omega)
      rw [ht] at hJ
      have HJ := Lib.hid hJ; have HT := Lib.hid ht
      clear ht hJ HR
      go_wp2_with fail
      refine HJ.out.mono ?_
      rintro e w6 ⟨K3, rfl, hK3, hb3⟩
      have HG4 := Lib.hid (HG.out.on hb3)
      have HD := Lib.hid (HG4.out.put hK3 (nodeC t K3).toArray)
      have HA := Lib.hid (node_all hK3)
      clear hK3 hb3 HG HJ
      go_wp2_with (refine wpList_store_row rfl TN (.tmp 2) (.tmp 67) rfl w.heap.size (nodeC t K3).toArray rfl rfl TN zN HG4.out.res (by kernel_rfl) rfl HA.out ?_)
      exact bodyPost_ret (v := .tuple #[.agg (nodeC t K3).toArray, .bool true]) (results_rt rfl _ _ w.heap.size _ _ rfl rfl (load_node _ _ _ (setRow_heap _ _ _ _ _ _ HG4.out.res) rfl)) rfl (rglobIs_ok (K := K3) (by rw [HT.out]; rfl) (by rw [HT.out]; exact HD.out.1) HD.out.2)
end Go.Proofs.YtpiflikblpfgoaaDoor
