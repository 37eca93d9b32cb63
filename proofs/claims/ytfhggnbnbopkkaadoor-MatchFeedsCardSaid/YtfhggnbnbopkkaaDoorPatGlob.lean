/- Globs and literals: the walks that make a row of nodes. -/
import Derived.Test.YtfhggnbnbopkkaaDoorPatAtom
namespace Go.Proofs.YtfhggnbnbopkkaaDoor
open Go.RowKit PM
attribute [local go_sem] nodeC

/-- what is held while a row of nodes is made; the block of the result is there -/
structure GS (w : World) (wr : World) (v : Value) (ps : List (T × Value)) : Prop where
  kids : Kids wr (w.heap.size + 1) v ps
  res : wr.heap[w.heap.size]? = some (.cells zN TN (0, 0))
  up : Below w.heap.size w wr
theorem GS.on {w wr w' : World} {v : Value} {ps : List (T × Value)} (h : GS w wr v ps) (hb : Below wr.heap.size wr w') : GS w w' v ps :=
  ⟨h.kids.on hb, (hb.block _ (lt_of_block h.res)).trans h.res, below_then h.up hb (Nat.le_refl _)⟩
theorem GS.app {w wr w' : World} {v v' : Value} {ps qs : List (T × Value)} (h : GS w wr v ps) (hk : Kids w' (w.heap.size + 1) v' qs) (hb : Below (w.heap.size + 1) wr w') : GS w w' v' qs :=
  ⟨hk, (hb.block _ (by omega)).trans h.res, h.up.trans (hb.mono (by omega))⟩

/-- what a call that makes a glob's node tells -/
def GlobIs (w : World) (n : Nat) (r : Option (List T)) (e : Ending) (w' : World) : Prop :=
  match r with
  | some l => ∃ K, e = .returned (nodeV (joined 3 l) K) ∧ IsT w' (fun b => w.heap.size ≤ b) K (joined 3 l) ∧ Below w.heap.size w w'
  | none => e = .panicked (wrongP n) ∧ Below w.heap.size w w'
theorem globIs_bad {w w' : World} {n : Nat} {e : Ending} (h : e = .panicked (wrongP n)) (hb : Below w.heap.size w w') : GlobIs w n none e w' := ⟨h, hb⟩

theorem GS.done {w wr : World} {v : Value} {ps : List (T × Value)} {t : T} {K : Value} (h : GS w wr v ps) (hK : IsT wr (fun b => w.heap.size + 1 ≤ b) K t) :
    IsT (wr.setRow w.heap.size (nodeC t K).toArray) (fun b => w.heap.size ≤ b) K t ∧ Below w.heap.size w (wr.setRow w.heap.size (nodeC t K).toArray) :=
  ⟨(hK.grown (grown_row wr w.heap.size _) (fun b hb e => by cases e; omega)).imp fun b hb _ => by omega,
    h.up.trans ⟨rfl, rfl, rfl, by simp, fun k hk => setRow_other _ _ _ _ (by omega)⟩⟩

/-- .. its cells written out -/
theorem wpList_append_node' {w : World} {ops : Array Oper} {rest : List Oper} {o : Oper} {a : Act} {Q : Exit → Act → World → Prop} (cs : Array Value) (hgd : o.guard = none) (s x : Operand)
    (ho : o.op = .call { callee := .builtin .append, args := #[s, x], argTypes := #[TNs, TNs] }) (B : Nat) (v : Value) (ps : List (T × Value)) (hs : a.eval s = v) (hk : Kids w B v ps)
    (t : T) (K : Value) (hcs : (nodeC t K).toArray = cs) (ad : Nat) (had : w.heap.size = ad) (hx : a.eval x = .slice (some ⟨ad, 0, none⟩) 1 1) (hK : IsT w (fun b => B ≤ b ∧ v.ownBlock ≠ some b) K t) (hlen : ps.length ≤ 1000000) (hB : B ≤ w.heap.size)
    (h : ∀ v' w', Kids w' B v' (ps ++ [(t, K)]) → Below B w w' → w.heap.size ≤ w'.heap.size → wpList Tryd.prog ops Q rest (a.put o.dst v') w') : wpList Tryd.prog ops Q (o :: rest) a (w.alloc (.cells cs TN)) := by
  subst hcs
  exact wpList_append_node hgd s x ho B v ps hs hk t K ad had hx hK hlen hB h

/-- what is still to come, put behind what there is -/
def globR (acc : List T) (l : List UInt8) : Option (List T) := match globL l with | none => none | some r => some (acc ++ r)

def globOne (c : UInt8) : T := if c = 42 then over 5 every else if c = 63 then every else one c.toNat
theorem globL_cons (c : UInt8) (l : List UInt8) (h : c ≠ 92) : globL (c :: l) = match globL l with | none => none | some r => some (globOne c :: r) := by
  cases l with
  | nil => simp [globL, h, globOne]
  | cons d l => simp only [globL, if_neg h, globOne]; cases globL (d :: l) <;> rfl
theorem globL_sign (d : UInt8) (l : List UInt8) : globL (92 :: d :: l) = match globL l with | none => none | some r => some (one d.toNat :: r) := by
  simp only [globL, if_true]; cases globL l <;> rfl
theorem globR_cons (acc : List T) (c : UInt8) (l : List UInt8) (h : c ≠ 92) : globR acc (c :: l) = globR (acc ++ [globOne c]) l := by
  unfold globR; rw [globL_cons c l h]; cases globL l <;> simp
theorem globR_sign (acc : List T) (d : UInt8) (l : List UInt8) : globR acc (92 :: d :: l) = globR (acc ++ [one d.toNat]) l := by
  unfold globR; rw [globL_sign]; cases globL l <;> simp
theorem globR_end (acc : List T) : globR acc [] = some acc := by simp [globR, globL]
theorem globR_bad (acc : List T) : globR acc [92] = none := by simp [globR, globL]

theorem drop_at (s : ByteArray) (i : Nat) (h : i < s.size) : s.data.toList.drop i = s[i] :: s.data.toList.drop (i + 1) := List.drop_eq_getElem_cons (by simpa using h)
theorem drop_end (s : ByteArray) (i : Nat) (h : s.size ≤ i) : s.data.toList.drop i = [] := List.drop_eq_nil_of_le h

set_option maxRecDepth 100000 in
set_option maxHeartbeats 8000000 in
theorem glob_any (s : ByteArray) (w : World) (hs : s.size ≤ 100000) :
    Calls Tryd.prog 52 #[.string s] w (GlobIs w s.size (globL s.data.toList)) := by
  obtain ⟨r, hr⟩ : ∃ r, globL s.data.toList = r := ⟨_, rfl⟩
  rw [hr]
  have hr0 : globR ([] : List T) (s.data.toList.drop 0) = r := by rw [List.drop_zero, ← hr]; unfold globR; cases globL s.data.toList <;> rfl
  have hG : GS w (w.alloc (.cells zN TN)) (.slice none 0 0) [] := ⟨Kids.nil _ _, heap_alloc_new w _, below_new w _⟩
  have HR := Lib.hid hr0; have HG := Lib.hid hG
  clear hr hr0 hG
  go_enter Tryd.func52, Tryd.ntmps52
  go_wp2_with fail
  change Code.wp _ _ _ _ (w.alloc (.cells zN TN))
  generalize w.alloc (.cells zN TN) = W0 at *
  go_loopg [3, 4] (s.size + 1) (fun k v3 v4 wr => ∃ (i : Nat) (ps : List (T × Value)), v4 = .int .i64 i ∧ i ≤ s.size ∧ s.size + 1 - i ≤ k ∧ ps.length ≤ i ∧ Hid (globR (ps.map (·.1)) (s.data.toList.drop i) = r) ∧ Hid (GS w wr v3 ps))
  case atStart => exact ⟨0, [], rfl, by omega, by omega, by simp, HR, HG⟩
  case round =>
    clear HR HG
    obtain ⟨i, ps, rfl, hil, hik, hpl, HR, HG⟩ := hrel
    have hlt : w.heap.size + 1 ≤ wr.heap.size := lt_of_block HG.out.res
    by_cases hi : i < s.size
    · have hi2 : (i : Int) < s.size := by omega
      have hi0 : (0 : Int) ≤ i := by omega
      have hr := HR.out
      rw [drop_at s i hi] at hr
      by_cases e42 : s[i].toNat = 42
      · have j42 : ((s[i].toNat : Int) == 42) = true := yb e42
        have hc : s[i] = 42 := u8_eq e42
        rw [hc, globR_cons _ _ _ (by decide)] at hr
        have HR2 := Lib.hid (show globR (ps.map (·.1) ++ [over 5 every]) (s.data.toList.drop (i + 1)) = r from hr)
        clear hr HR hc e42
        go_wp2_with fail
        refine (every_any wr).mono ?_
        rintro e w2 ⟨rfl, hb⟩
        have HG2 := Lib.hid (HG.out.on hb)
        have hIS := IsT.over (show IsT w2 (fun b => wr.heap.size ≤ b) (.slice none 0 0) every from IsT.nil _ _) hb.size 5
        have HIS := Lib.hid (HG.out.kids.far hlt hIS)
        have HGX := Lib.hid (HG2.out.on (below_new w2 (.cells (nodeC every (.slice none 0 0)).toArray TN)))
        have HSZ : Hid ((w2.alloc (.cells (nodeC every (.slice none 0 0)).toArray TN)).heap.size = w2.heap.size + 1) := Lib.hid (by simp)
        clear hIS hb HG HG2 j42 hlt
        simp only [nodeV]
        go_wp2_with (refine wpList_append_node' #[.int .i64 5, .int .u64 0, .int .u64 0, .int .u64 0, .int .u64 0, .slice (some ⟨w2.heap.size, 0, none⟩) 1 1] rfl (.tmp 20) (.tmp 24) rfl (w.heap.size + 1) _ ps rfl HGX.out.kids (over 5 every) (.slice (some ⟨w2.heap.size, 0, none⟩) 1 1) (by have := nodeV_op 5 [every] (.slice (some ⟨w2.heap.size, 0, none⟩) 1 1); unfold nodeV at this; injection this) _ HSZ.out rfl HIS.out (by omega) (lt_of_block HGX.out.res) ?_; intro v' w9 hk9 hb9 hsz9)
        have HG9 := Lib.hid (HGX.out.app hk9 hb9)
        clear hk9 hb9 hsz9
        go_wp2_with fail
        go_roundg (gk - 1)
        case measure => omega
        case rel => exact ⟨i + 1, ps ++ [(over 5 every, .slice (some ⟨w2.heap.size, 0, none⟩) 1 1)], by go_num, by omega, by omega, by simp; omega, Lib.hid (by rw [List.map_append]; exact HR2.out), HG9⟩
      have j42 : ((s[i].toNat : Int) == 42) = false := nb e42
      have n42 : s[i] ≠ 42 := fun h => e42 (by rw [h]; rfl)
      by_cases e63 : s[i].toNat = 63
      · have j63 : ((s[i].toNat : Int) == 63) = true := yb e63
        have hc : s[i] = 63 := u8_eq e63
        rw [hc, globR_cons _ _ _ (by decide)] at hr
        have HR2 := Lib.hid (show globR (ps.map (·.1) ++ [every]) (s.data.toList.drop (i + 1)) = r from hr)
        clear hr HR hc e63 n42 e42
        go_wp2_with fail
        refine (every_any wr).mono ?_
        rintro e w2 ⟨rfl, hb⟩
        have HGX := Lib.hid (HG.out.on hb)
        have HIS := Lib.hid (HG.out.kids.far hlt (show IsT w2 (fun b => wr.heap.size ≤ b) (.slice none 0 0) every from IsT.nil _ _))
        clear hb HG j42 j63 hlt
        simp only [nodeV]
        go_wp2_with (refine wpList_append_node rfl (.tmp 26) (.tmp 28) rfl (w.heap.size + 1) _ ps rfl HGX.out.kids (every) (.slice none 0 0) _ rfl rfl HIS.out (by omega) (lt_of_block HGX.out.res) ?_; intro v' w9 hk9 hb9 hsz9)
        have HG9 := Lib.hid (HGX.out.app hk9 hb9)
        clear hk9 hb9 hsz9
        go_wp2_with fail
        go_roundg (gk - 1)
        case measure => omega
        case rel => exact ⟨i + 1, ps ++ [(every, .slice none 0 0)], by go_num, by omega, by omega, by simp; omega, Lib.hid (by rw [List.map_append]; exact HR2.out), HG9⟩
      have j63 : ((s[i].toNat : Int) == 63) = false := nb e63
      have n63 : s[i] ≠ 63 := fun h => e63 (by rw [h]; rfl)
      by_cases e92 : s[i].toNat = 92
      · have j92 : ((s[i].toNat : Int) == 92) = true := yb e92
        have hc : s[i] = 92 := u8_eq e92
        rw [hc] at hr
        by_cases hi1 : i + 1 = s.size
        · rw [drop_end s (i + 1) (by omega), globR_bad] at hr
          subst hr
          have j1 : ((i : Int) + 1 == (s.size : Int)) = true := by rw [beq_iff_eq]; omega
          have HUP := Lib.hid HG.out.up
          clear HR HG hlt e42 e63 e92 n42 n63 hc
          go_wp2_with fail
          exact ⟨rfl, globIs_bad (by rw [← hi1]; simp [wrongP]) HUP.out⟩
        · have hi3 : i + 1 < s.size := by omega
          have j1 : ((i : Int) + 1 == (s.size : Int)) = false := by rw [beq_eq_false_iff_ne]; omega
          rw [drop_at s (i + 1) hi3, globR_sign] at hr
          have HR2 := Lib.hid (show globR (ps.map (·.1) ++ [one s[i + 1].toNat]) (s.data.toList.drop (i + 1 + 1)) = r from hr)
          have hi4 : (i : Int) + 1 < s.size := by omega
          have hi5 : (0 : Int) ≤ (i : Int) + 1 := by omega
          clear hr HR hc e42 e63 e92 n42 n63 hi1
          go_wp2_with fail
          refine (one_any s[i + 1].toNat s[i + 1].toNat_lt wr).mono ?_
          rintro e w2 ⟨rfl, hb⟩
          have HGX := Lib.hid (HG.out.on hb)
          have HIS := Lib.hid (HG.out.kids.far hlt (show IsT w2 (fun b => wr.heap.size ≤ b) (.slice none 0 0) (one s[i + 1].toNat) from IsT.nil _ _))
          clear hb HG j42 j63 j92 j1 hlt
          simp only [nodeV]
          go_wp2_with (refine wpList_append_node rfl (.tmp 38) (.tmp 43) rfl (w.heap.size + 1) _ ps rfl HGX.out.kids (one s[i + 1].toNat) (.slice none 0 0) _ rfl rfl HIS.out (by omega) (lt_of_block HGX.out.res) ?_; intro v' w9 hk9 hb9 hsz9)
          have HG9 := Lib.hid (HGX.out.app hk9 hb9)
          clear hk9 hb9 hsz9
          go_wp2_with fail
          go_roundg (gk - 1)
          case measure => omega
          case rel => exact ⟨i + 1 + 1, ps ++ [(one s[i + 1].toNat, .slice none 0 0)], by go_num, by omega, by omega, by simp; omega, Lib.hid (by rw [List.map_append]; exact HR2.out), HG9⟩
      have j92 : ((s[i].toNat : Int) == 92) = false := nb e92
      have n92 : s[i] ≠ 92 := fun h => e92 (by rw [h]; rfl)
      rw [globR_cons _ _ _ n92] at hr
      have HR2 := Lib.hid (show globR (ps.map (·.1) ++ [one s[i].toNat]) (s.data.toList.drop (i + 1)) = r by rw [← hr]; simp [globOne, n42, n63])
      clear hr HR e42 e63 e92 n42 n63 n92
      go_wp2_with fail
      refine (one_any s[i].toNat s[i].toNat_lt wr).mono ?_
      rintro e w2 ⟨rfl, hb⟩
      have HGX := Lib.hid (HG.out.on hb)
      have HIS := Lib.hid (HG.out.kids.far hlt (show IsT w2 (fun b => wr.heap.size ≤ b) (.slice none 0 0) (one s[i].toNat) from IsT.nil _ _))
      clear hb HG j42 j63 j92 hlt
      simp only [nodeV]
      go_wp2_with (refine wpList_append_node rfl (.tmp 38) (.tmp 43) rfl (w.heap.size + 1) _ ps rfl HGX.out.kids (one s[i].toNat) (.slice none 0 0) _ rfl rfl HIS.out (by omega) (lt_of_block HGX.out.res) ?_; intro v' w9 hk9 hb9 hsz9)
      have HG9 := Lib.hid (HGX.out.app hk9 hb9)
      clear hk9 hb9 hsz9
      go_wp2_with fail
      go_roundg (gk - 1)
      case measure => omega
      case rel => exact ⟨i + 1, ps ++ [(one s[i].toNat, .slice none 0 0)], by go_num, by omega, by omega, by simp; omega, Lib.hid (by rw [List.map_append]; exact HR2.out), HG9⟩
    · obtain rfl : i = s.size := by omega
      have hr := HR.out
      rw [drop_end s _ (Nat.le_refl _), globR_end] at hr
      have hex : ¬ ((s.size : Int) < s.size) := by omega
      clear HR
      go_wp2_with fail
      obtain ⟨t, ht⟩ : ∃ t, joined 3 (ps.map (·.1)) = t := ⟨_, rfl⟩
      have hJ := joined_any 3 (w.heap.size + 1) _ ps wr HG.out.kids (by omega)
      rw [ht] at hJ
      have HT := Lib.hid ht; have HRE := Lib.hid hr
      clear ht hr
      refine hJ.mono ?_
      rintro e w3 ⟨K3, rfl, hK3, hb3⟩
      have HG3 := Lib.hid (HG.out.on hb3)
      have HD := Lib.hid (HG3.out.done hK3)
      have HA := Lib.hid (node_all hK3)
      clear hK3 hb3 HG hJ
      go_wp2_with (refine wpList_store_row rfl TN (.tmp 2) (.tmp 46) rfl w.heap.size (nodeC t K3).toArray rfl rfl TN zN HG3.out.res (by kernel_rfl) rfl HA.out ?_)
      refine bodyPost_ret (results_cell_row rfl _ _ w.heap.size TN (nodeC t K3).toArray (0, 0) _ rfl (setRow_heap _ _ _ _ _ _ HG3.out.res) Tryd.underlying66 rfl (by kernel_rfl)) rfl ?_
      rw [← HRE.out]
      exact ⟨K3, by rw [HT.out]; rfl, by rw [HT.out]; exact HD.out.1, HD.out.2⟩

end Go.Proofs.YtfhggnbnbopkkaaDoor
