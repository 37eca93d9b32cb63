/- MatchFeeds: a matcher tells, piece by piece, what the document does. -/
import Derived.Test.YtfhggnbnbopkkaaDoorRefFirst
import Derived.Test.YtfhggnbnbopkkaaDoorMatAll
import Derived.RegionTactic
import Derived.BigRegion
namespace Go.Proofs.YtfhggnbnbopkkaaDoor
open Go.RowKit PM

set_option maxRecDepth 100000
def rfeedV (x : Nat × Option (Nat × Nat × Nat) × List UInt8) : Ending := match x.2.1 with
  | some (a, p, e) => .returned (.tuple #[.int .i64 x.1, .agg (hitC a p e), .bool true, .string ⟨x.2.2.toArray⟩])
  | none => .returned (.tuple #[.int .i64 x.1, .agg (hitC 0 0 0), .bool false, .string ⟨x.2.2.toArray⟩])
def RFeedIs (ts : List T) (K s : List UInt8) (w : World) (e : Ending) (w' : World) : Prop := e = rfeedV (feed ts K s) ∧ Below w.heap.size w w'
theorem results_rfeed {tmps : Array Value} {W : World} {g a p e : Nat} {n : Nat} {b : Bool} {z : ByteArray} (h4 : tmps.getD 6 undef = .int .i64 n) (h5 : tmps.getD 7 undef = .pointer (some ⟨g, 0, none⟩)) (h6 : tmps.getD 8 undef = .bool b) (h7 : tmps.getD 9 undef = .string z) (hg : W.heap[g]? = some (.cells (hitC a p e) THit (0, 0))) :
    (results Tryd.f22 tmps).run Tryd.prog W = .ok (.tuple #[.int .i64 n, .agg (hitC a p e), .bool b, .string z]) W := by
  have hr : Tryd.f22.results = #[.tmp 6, .cell 7 THit, .tmp 8, .tmp 9] := rfl
  have h4' : tmps[6]?.getD undef = .int .i64 n := by simpa using h4
  have h5' : tmps[7]?.getD undef = .pointer (some ⟨g, 0, none⟩) := by simpa using h5
  have h6' : tmps[8]?.getD undef = .bool b := by simpa using h6
  have h7' : tmps[9]?.getD undef = .string z := by simpa using h7
  simp only [results, hr]
  simp [h4', h5', h6', h7', asAddr, run_loadVar_row W g THit THit (hitC a p e) (0, 0) _ hg Tryd.underlying26 rfl (by kernel_rfl)]
theorem feed_last {ts : List T} {K s : List UInt8} {i : Nat} {k' : List UInt8} {c : UInt8} (h : feed ts K (s.take i) = (i, none, k')) (hc : s[i]? = some c) {a p : Nat} (hh : hitOf ts (keep (k' ++ [c])) = some (a, p)) : feed ts K s = (i + 1, some (a, p, (keep (k' ++ [c])).length), []) := by
  have hi := (List.getElem?_eq_some_iff.1 hc).1
  have h1 := feed_snoc ts (s.take i) K c (by rw [h])
  rw [h, hh, List.length_take, Nat.min_eq_left (Nat.le_of_lt hi)] at h1
  have h2 : s.take (i + 1) = s.take i ++ [c] := by rw [List.take_add_one, hc]; rfl
  rw [← h2] at h1
  have h3 := feed_stop ts (s.take (i + 1)) K (s.drop (i + 1)) (by rw [h1]; simp)
  rw [List.take_append_drop] at h3
  rw [h3, h1]
theorem feed_on {ts : List T} {K s : List UInt8} {i : Nat} {k' : List UInt8} {c : UInt8} (h : feed ts K (s.take i) = (i, none, k')) (hc : s[i]? = some c) (hh : hitOf ts (keep (k' ++ [c])) = none) : feed ts K (s.take (i + 1)) = (i + 1, none, keep (k' ++ [c])) := by
  have hi := (List.getElem?_eq_some_iff.1 hc).1
  have h1 := feed_snoc ts (s.take i) K c (by rw [h])
  rw [h, hh, List.length_take, Nat.min_eq_left (Nat.le_of_lt hi)] at h1
  have h2 : s.take (i + 1) = s.take i ++ [c] := by rw [List.take_add_one, hc]; rfl
  rw [h2, h1]
theorem ext_one {s : ByteArray} {i : Nat} (h : i < s.size) : (s.extract i (i + 1)).data.toList = [s[i]] := by
  rw [ByteArray.data_extract, Array.toList_extract, List.extract_eq_take_drop]
  rw [show i + 1 - i = 1 by omega]
  rw [List.drop_eq_getElem_cons (show i < s.data.toList.length from h)]
  rfl
/-- what is kept, as a text -/
def keepS (s : ByteArray) : ByteArray := ⟨(keep s.data.toList).toArray⟩
theorem keepS_size (s : ByteArray) : (keepS s).size ≤ 256 := by
  show (keep s.data.toList).toArray.size ≤ 256
  rw [List.size_toArray]
  exact keep_len _
theorem keepS_extract (s : ByteArray) : keepS s = s.extract (s.size - 256) s.size := by
  unfold keepS
  apply ByteArray.ext
  rw [ByteArray.data_extract]
  apply Array.ext'
  show keep s.data.toList = _
  unfold keep keepN
  rw [Array.toList_extract, List.extract_eq_take_drop]
  rw [List.take_of_length_le (by rw [List.length_drop]; show s.size - (s.size - 256) ≤ _; exact Nat.le_refl _)]
  rfl
theorem keepS_short {s : ByteArray} (h : s.size ≤ 256) : keepS s = s := by
  unfold keepS
  rw [keep_short (show s.data.toList.length ≤ 256 from h)]
/-- the document's -/
theorem rkeep_any (s : ByteArray) (w : World) (hs : s.size ≤ 9223372036854775807) :
    Calls Tryd.prog 17 #[.string s] w fun e w' => e = .returned (.string (keepS s)) ∧ w' = w := by
  by_cases h : 256 < s.size
  · have HK := Lib.hid (keepS_extract s)
    go_enter Tryd.func17, Tryd.ntmps17
    go_wp2_with fail
    go_ret
    have e : ((s.size : Int) - 256).toNat = s.size - 256 := by omega
    refine ⟨?_, rfl⟩
    rw [HK.out]
    first | rfl | (rw [e]; rfl)
  · have HK := Lib.hid (keepS_short (s := s) (by omega))
    go_enter Tryd.func17, Tryd.ntmps17
    go_wp2_with fail
    go_ret
    exact ⟨by rw [HK.out]; rfl, rfl⟩
theorem rkeep_list (s : ByteArray) (w : World) (hs : s.size ≤ 9223372036854775807) :
    Calls Tryd.prog 17 #[.string s] w fun e w' => e = .returned (.string ⟨(keep s.data.toList).toArray⟩) ∧ w' = w := rkeep_any s w hs
set_option maxHeartbeats 8000000 in
theorem rfeed_any (A : Option Addr) (c : Nat) (ps : List Pat) (K s : ByteArray) (ts : List T) (w : World) (hP : PIn w A ps) (hn : ps.length ≤ 9223372036854775807) (hM : May ps) (hts : Trees ps ts) (hB : Bare ts K.data.toList) (hK : K.size ≤ 256) (hs : s.size ≤ 500) :
    Calls Tryd.prog 22 #[.slice A ps.length c, .string K, .string s] w (RFeedIs ts K.data.toList s.data.toList w) := by
  have HP := Lib.hid hP
  have HM := Lib.hid (And.intro hM hts)
  have HB0 := Lib.hid (And.intro (below_new w (.cells (hitC 0 0 0) THit)) (heap_alloc_new w (.cells (hitC 0 0 0) THit)))
  obtain ⟨n, hpn⟩ : ∃ n, ps.length = n := ⟨_, rfl⟩
  have HN := Lib.hid hpn
  rw [hpn] at hn
  rw [hpn]
  have HKK : Hid (feed ts K.data.toList (s.data.toList.take 0) = (0, none, K.data.toList)) := Lib.hid rfl
  have HBA := Lib.hid hB
  clear hP hpn hM hts hB
  have hz := zHit_run
  go_enter Tryd.func22, Tryd.ntmps22
  go_upto_region 2 with (fail)
  change Code.wp _ _ _ _ (w.alloc (.cells (hitC 0 0 0) THit))
  generalize w.alloc (.cells (hitC 0 0 0) THit) = W0 at *
  obtain ⟨B, hB⟩ : ∃ B, w.heap.size = B := ⟨_, rfl⟩
  have HB := Lib.hid hB
  rw [hB] at HB0 ⊢
  have HS : Hid (Below w.heap.size w W0 ∧ W0.heap[B]? = some (.cells (hitC 0 0 0) THit (0, 0))) := Lib.hid ⟨by rw [hB]; exact HB0.out.1, HB0.out.2⟩
  clear hB HB0
  go_loopg [10, 1] (s.size + 1) (fun k v10 v1 wr => ∃ (i : Nat) (k' : ByteArray), v10 = .int .i64 i ∧ v1 = .string k' ∧ i ≤ s.size ∧ s.size - i < k ∧ k'.size ≤ 256 ∧ Hid (feed ts K.data.toList (s.data.toList.take i) = (i, none, k'.data.toList)) ∧ Hid (Bare ts k'.data.toList) ∧ Hid (Below w.heap.size w wr ∧ wr.heap[B]? = some (.cells (hitC 0 0 0) THit (0, 0))))
  case atStart => exact ⟨0, K, rfl, rfl, by omega, by omega, hK, HKK, HBA, HS⟩
  case round =>
    clear HS HKK HBA
    obtain ⟨i, k', rfl, rfl, hi, hik, hk', HKK, HBA, HX⟩ := hrel
    have hi0 : (0 : Int) ≤ i := by omega
    by_cases hlt : i < s.size
    · have hlt1 : (i : Int) < s.size := by omega
      have hi2 : (i : Int) ≤ 500 := by omega
      have hi3 : i ≤ i + 1 := by omega
      have hi4 : i + 1 ≤ s.size := by omega
      have hsz : (k' ++ s.extract i (i + 1)).size ≤ 9223372036854775807 := by rw [ByteArray.size_append, ByteArray.size_extract]; omega
      have HKE := Lib.hid (rkeep_list (k' ++ s.extract i (i + 1)) wr hsz)
      have hkl : (k' ++ s.extract i (i + 1)).data.toList = k'.data.toList ++ [s[i]] := by rw [ByteArray.data_append, Array.toList_append, ext_one hlt]
      rw [hkl] at HKE
      have hci : s.data.toList[i]? = some s[i] := List.getElem?_eq_getElem (show i < s.data.toList.length from hlt)
      have HCI := Lib.hid hci
      clear hkl hsz hci
      go_wp2_with fail
      refine HKE.out.mono ?_
      rintro e W2 ⟨rfl, rfl⟩
      have hfk := first_kept (c := s[i]) HBA.out
      have hkz := keep_len (k'.data.toList ++ [s[i]])
      have HNX : Hid ((∀ a p, hitOf ts (keep (k'.data.toList ++ [s[i]])) = some (a, p) → feed ts K.data.toList s.data.toList = (i + 1, some (a, p, (keep (k'.data.toList ++ [s[i]])).length), [])) ∧ (hitOf ts (keep (k'.data.toList ++ [s[i]])) = none → feed ts K.data.toList (s.data.toList.take (i + 1)) = (i + 1, none, keep (k'.data.toList ++ [s[i]])) ∧ Bare ts (keep (k'.data.toList ++ [s[i]])))) := Lib.hid
        ⟨fun a p h => feed_last HKK.out HCI.out h, fun h => ⟨feed_on HKK.out HCI.out h, HBA.out.kept h⟩⟩
      obtain ⟨ks, hks⟩ : ∃ ks, keep (k'.data.toList ++ [s[i]]) = ks := ⟨_, rfl⟩
      rw [hks] at hfk hkz HNX HKE ⊢
      clear hks HKE HKK HBA HCI
      obtain ⟨kb, hkb⟩ : ∃ kb : ByteArray, (⟨ks.toArray⟩ : ByteArray) = kb := ⟨_, rfl⟩
      have hkl : kb.data.toList = ks := by rw [← hkb]
      have hkz2 : kb.size ≤ 256 := by rw [← hkb]; show ks.toArray.size ≤ 256; rw [List.size_toArray]; exact hkz
      rw [hkb]
      have HFR := Lib.hid (rfirst_any A c ps kb W2 (HP.out.on HX.out.1) (by rw [HN.out]; exact hn) (by omega))
      rw [HN.out, hkl] at HFR
      go_wp2_with fail
      refine HFR.out.mono ?_
      rintro e W3 ⟨hup, (⟨hno, _⟩ | ⟨_, ts', hts', he⟩)⟩
      · exact absurd HM.out.1 hno
      · rw [hts'.one HM.out.2, hfk] at he
        cases hh : hitOf ts ks with
        | some ap =>
          obtain ⟨a, p⟩ := ap
          rw [hh] at he
          have he2 : e = .returned (.tuple #[.agg #[.int .i64 a, .int .i64 p, .int .i64 ks.length], .bool true]) := he
          subst he2
          have HFD := Lib.hid (HNX.out.1 a p hh)
          have hb := below_new W3 (.cells #[.int .i64 a, .int .i64 p, .int .i64 ks.length] THit)
          have HX4 := Lib.hid (And.intro (below_then (below_then HX.out.1 hup (Nat.le_refl _)) hb (Nat.le_refl _)) (And.intro ((hb.block B (Nat.lt_of_lt_of_le (lt_of_block HX.out.2) hup.size)).trans ((hup.block B (lt_of_block HX.out.2)).trans HX.out.2)) (heap_alloc_new W3 (.cells #[.int .i64 a, .int .i64 p, .int .i64 ks.length] THit))))
          clear he hup hb HX HFR hh hfk HNX hts'
          go_upto_region 7 with (fail)
          change Code.wp _ _ _ _ (W3.alloc (.cells #[.int .i64 a, .int .i64 p, .int .i64 ks.length] THit))
          generalize W3.alloc (.cells #[.int .i64 a, .int .i64 p, .int .i64 ks.length] THit) = W4 at *
          generalize W3.heap.size = b2 at *
          obtain ⟨k0, k1, k2, kf⟩ := box_cells HX4.out.2.1
          obtain ⟨d0, d1, d2, df⟩ := box_cells HX4.out.2.2
          go_region
          change Exit.then _ _ _ _ (boxW W4 B a p ks.length).drew
          go_wp2_with fail
          refine bodyPost_ret (results_rfeed (W := (boxW W4 B a p ks.length).drew) rfl rfl rfl rfl (box_set HX4.out.2.1 a p ks.length)) rfl ⟨by rw [HFD.out]; rfl, ?_⟩
          exact HX4.out.1.trans (by rw [HB.out]; exact ((box_below B W4 a p ks.length).trans ⟨rfl, rfl, rfl, Nat.le_refl _, fun _ _ => rfl⟩))
        | none =>
          rw [hh] at he
          have he2 : e = .returned (.tuple #[.agg #[.int .i64 0, .int .i64 0, .int .i64 0], .bool false]) := he
          subst he2
          have HFD := Lib.hid (HNX.out.2 hh)
          have hb := below_new W3 (.cells #[.int .i64 0, .int .i64 0, .int .i64 0] THit)
          have HX4 := Lib.hid (And.intro (below_then (below_then HX.out.1 hup (Nat.le_refl _)) hb (Nat.le_refl _)) ((hb.block B (Nat.lt_of_lt_of_le (lt_of_block HX.out.2) hup.size)).trans ((hup.block B (lt_of_block HX.out.2)).trans HX.out.2)))
          rw [← hkl] at HFD
          clear he hup hb HX HFR hh hfk HNX hts'
          go_wp2_with fail
          go_roundg (gk - 1)
          case measure => omega
          case rel => exact ⟨i + 1, kb, by go_num, rfl, by omega, by omega, hkz2, Lib.hid HFD.out.1, Lib.hid HFD.out.2, HX4⟩
    · obtain rfl : i = s.size := by omega
      obtain ⟨k0, k1, k2, kf⟩ := box_cells HX.out.2
      have HFD : Hid (feed ts K.data.toList s.data.toList = (s.size, none, k'.data.toList)) := Lib.hid (by have h := HKK.out; rwa [List.take_of_length_le (show s.data.toList.length ≤ s.size from Nat.le_refl _)] at h)
      go_wp2_with fail
      refine bodyPost_ret (results_rfeed rfl rfl rfl rfl (box_set HX.out.2 0 0 0)) rfl ⟨by rw [HFD.out]; rfl, HX.out.1.trans (by rw [HB.out]; exact box_below B _ _ _ _)⟩

theorem neq_hit (a p e : Int) (w : World) : (binOp .neq THit (.agg #[.int .i64 a, .int .i64 p, .int .i64 e]) (.agg #[.int .i64 a, .int .i64 p, .int .i64 e])).run Tryd.prog w = .ok (.bool false) w := by
  rw [run_neq_struct]
  simp [go_sem]
/-- what stands ahead of each piece -/
structure FdI (w wr : World) (x : Mx) (arms : List Arm) (K : List UInt8) (R : List Rw) (bv : Value) : Prop where
  ma : MaIs wr x arms K K R bv
  up : Below w.heap.size w wr
  ge : ∀ k, OwnM x R bv k → w.heap.size ≤ k
  bare : Bare (trees arms) K
  len : K.length ≤ 256
theorem FdI.on {w wr w' : World} {x : Mx} {arms : List Arm} {K : List UInt8} {R : List Rw} {bv : Value} (h : FdI w wr x arms K R bv) (hb : Below wr.heap.size wr w') : FdI w w' x arms K R bv :=
  ⟨h.ma.on hb, below_then h.up hb (Nat.le_refl _), h.ge, h.bare, h.len⟩
theorem FdI.fed {w wr w2 : World} {x : Mx} {arms : List Arm} {K : List UInt8} {R : List Rw} {bv : Value} {s : List UInt8} {e : Ending} (h : FdI w wr x arms K R bv) (hf : FeedIs x arms K R bv s wr e w2) :
    e = feedV (feed (trees arms) K s) ∧ ∃ R' bv', FdI w w2 x arms (feed (trees arms) K s).2.2 R' bv' := by
  obtain ⟨h1, h2, R', bv', h3, h4⟩ := hf
  exact ⟨h1, R', bv', h3, below_turned h.up h.up.size h2 h.ge, MaN.above h4 h.ge h.up.size, feed_bare h.bare, feed_short h.len⟩
/-- both tell the same -/
theorem feed_both (y : Nat × Option (Nat × Nat × Nat) × List UInt8) : ∃ (n : Nat) (ok : Bool) (a p te : Nat), feedV y = .returned (.tuple #[.int .i64 n, .agg #[.int .i64 a, .int .i64 p, .int .i64 te], .bool ok]) ∧ rfeedV y = .returned (.tuple #[.int .i64 n, .agg #[.int .i64 a, .int .i64 p, .int .i64 te], .bool ok, .string ⟨y.2.2.toArray⟩]) := by
  obtain ⟨n, o, k⟩ := y
  cases o with
  | none => exact ⟨n, false, 0, 0, 0, rfl, rfl⟩
  | some f => obtain ⟨a, p, e⟩ := f; exact ⟨n, true, a, p, e, rfl, rfl⟩
theorem catS_mem {l : List ByteArray} {s : ByteArray} (h : s ∈ l) : s.size ≤ (catS l).length := by
  obtain ⟨k, hk, e⟩ := List.mem_iff_getElem.1 h
  have h1 := catS_take ((List.getElem?_eq_getElem hk).trans (by rw [e]))
  have h2 := catS_le l (k + 1)
  rw [h1, List.length_append] at h2
  have : s.data.toList.length = s.size := rfl
  omega
set_option maxHeartbeats 8000000 in
theorem matchFeeds_walk (A : Option Addr) (c : Nat) (ps : List Pat) (B : Option Addr) (d : Nat) (l : List ByteArray) (w : World) (hP : PIn w A ps) (hS : SIn w B l) (hn : ps.length ≤ 9223372036854775807) (hl : l.length ≤ 9223372036854775806) (hs : ∀ s ∈ l, s.size ≤ 140737488355327) (hT : Tab w) :
    Calls Tryd.prog 6 #[.slice A ps.length c, .slice B l.length d] w fun e w' => e = .returned (.bool true) ∧ Below w.heap.size w w' := by
  have HW := Lib.hid (works_any w hT)
  have HI := Lib.hid (And.intro hP (And.intro hS (And.intro hs (And.intro hT (And.intro hn hl)))))
  obtain ⟨n, hpn⟩ : ∃ n, ps.length = n := ⟨_, rfl⟩
  obtain ⟨N, hlN⟩ : ∃ N, l.length = N := ⟨_, rfl⟩
  have HN := Lib.hid (And.intro hpn hlN)
  rw [hlN] at hl
  rw [hpn] at hn
  rw [hpn, hlN]
  clear hP hS hs hT hpn hlN
  go_enter Tryd.func6, Tryd.ntmps6
  go_wp2_with fail
  refine HW.out.mono ?_
  rintro e W1 ⟨rfl, hup⟩
  have H1 := Lib.hid hup
  clear hup HW
  have HN1 := Lib.hid (new_any A c ps W1 (HI.out.1.on H1.out) (tab_on HI.out.2.2.2.1 H1.out) HI.out.2.2.2.2.1)
  rw [HN.out.1] at HN1
  go_wp2_with fail
  refine HN1.out.mono ?_
  rintro e W2 (⟨hno, rfl, hup⟩ | ⟨hmay, x, arms, R, rfl, hma, htr, hup, hge⟩)
  · have H2 := Lib.hid (And.intro (below_then H1.out hup (Nat.le_refl _)) hno)
    clear hno hup HN1
    have HM := Lib.hid (may_any A c ps W2 (HI.out.1.on H2.out.1) HI.out.2.2.2.2.1)
    rw [HN.out.1] at HM
    go_wp2_with fail
    refine HM.out.mono ?_
    rintro e W3 ⟨r, rfl, hr, hup⟩
    have H3 := Lib.hid (below_then H2.out.1 hup (Nat.le_refl _))
    obtain rfl : r = false := by
      cases r with
      | false => rfl
      | true => exact absurd (hr.1 rfl) H2.out.2
    clear hr hup HM
    go_wp2_with fail
    go_ret
    exact ⟨rfl, H3.out⟩
  · have HS2 : Hid (FdI w W2 x arms [] R (.slice none 0 0)) := Lib.hid ⟨hma, below_then H1.out hup (Nat.le_refl _), fun k hk => Nat.le_trans H1.out.size (hge k hk), Bare.nil _, by decide⟩
    have HTR := Lib.hid (And.intro hmay htr)
    clear hma htr hup hge hmay HN1 H1
    have HM := Lib.hid (may_any A c ps W2 (HI.out.1.on HS2.out.up) HI.out.2.2.2.2.1)
    rw [HN.out.1] at HM
    go_wp2_with fail
    refine HM.out.mono ?_
    rintro e W3 ⟨r, rfl, hr, hup⟩
    have HS3 := Lib.hid (HS2.out.on hup)
    obtain rfl : r = true := hr.2 HTR.out.1
    clear hr hup HM HS2
    by_cases hN40 : 40 < N
    · have hN41 : (40 : Int) < N := by omega
      go_wp2_with fail
      go_ret
      exact ⟨rfl, HS3.out.up⟩
    · have hN41 : ¬ (40 : Int) < N := by omega
      have HSU := Lib.hid (sum_any B d l 40 W3 (HI.out.2.1.on HS3.out.up) HI.out.2.2.2.2.2 HI.out.2.2.1 (by decide))
      rw [HN.out.2] at HSU
      go_wp2_with fail
      refine HSU.out.mono ?_
      rintro e W4 ⟨rfl, m, rfl, hm1, hm2⟩
      by_cases hbig : 40 < m
      · have hbig1 : (40 : Int) < m := by omega
        clear hm1 hm2
        go_wp2_with fail
        go_ret
        exact ⟨rfl, HS3.out.up⟩
      · have hbig1 : ¬ (40 : Int) < m := by omega
        have HL : Hid ((catS l).length ≤ 40) := Lib.hid (by rw [hm1 (by omega)]; omega)
        clear hm1 hm2 HSU
        have HD := Lib.hid (deep_any A c ps W4 (HI.out.1.on HS3.out.up) HI.out.2.2.2.2.1)
        rw [HN.out.1] at HD
        go_wp2_with fail
        refine HD.out.mono ?_
        rintro e W5 ⟨r, rfl, hup⟩
        have HS5 := Lib.hid (HS3.out.on hup)
        clear hup HD HS3
        cases r with
        | true =>
          go_wp2_with fail
          go_ret
          exact ⟨rfl, HS5.out.up⟩
        | false =>
          go_upto_region 12 with (fail)
          go_loopg [8, 7] (N + 1) (fun k v8 v7 wr => ∃ (i : Nat) (K : List UInt8) (R' : List Rw) (bv' : Value), v8 = .int .i64 i ∧ v7 = .string ⟨K.toArray⟩ ∧ i ≤ N ∧ N + 1 - i ≤ k ∧ Hid (FdI w wr x arms K R' bv'))
          case atStart => exact ⟨0, [], R, _, rfl, rfl, by omega, by omega, HS5⟩
          case round =>
            clear HS5
            obtain ⟨i, K, R1, bv1, rfl, rfl, hi, hik, HX⟩ := hrel
            have hi0 : (0 : Int) ≤ i := by omega
            by_cases hlt : i < N
            · have hlt1 : (i : Int) < N := by omega
              obtain ⟨s, hsi⟩ : ∃ s, l[i]? = some s := ⟨_, List.getElem?_eq_getElem (by rw [HN.out.2]; exact hlt)⟩
              have hs40 : s.size ≤ 40 := Nat.le_trans (catS_mem (List.mem_of_getElem? hsi)) HL.out
              have HSI := Lib.hid hsi
              obtain ⟨ad, rfl, k0⟩ := (HI.out.2.1.on HX.out.up).at' i s hsi
              clear hsi
              have HFD := Lib.hid (feed_any x arms K R1 bv1 s wr HX.out.ma HX.out.len (by omega))
              go_wp2_with fail
              refine HFD.out.mono ?_
              intro e w2 hfi
              obtain ⟨he, R2, bv2, hwi⟩ := HX.out.fed hfi
              obtain ⟨y, hy⟩ : ∃ y, feed (trees arms) K s.data.toList = y := ⟨_, rfl⟩
              rw [hy] at he hwi
              obtain ⟨nn, ok, a, p, te, hv1, hv2⟩ := feed_both y
              rw [hv1] at he
              subst he
              have HV2 := Lib.hid hv2
              have HBK := Lib.hid (And.intro HX.out.bare HX.out.len)
              have hb1 := below_new w2 (.cells #[.int .i64 a, .int .i64 p, .int .i64 te] THit)
              have HW3 := Lib.hid (And.intro (hwi.on hb1) (heap_alloc_new w2 (.cells #[.int .i64 a, .int .i64 p, .int .i64 te] THit)))
              have HY := Lib.hid hy
              clear hwi hfi hb1 HFD HX hv1 hv2 hy k0
              go_upto_region 15 with (fail)
              change Code.wp _ _ _ _ (w2.alloc (.cells #[.int .i64 a, .int .i64 p, .int .i64 te] THit))
              obtain ⟨b1, hb1⟩ : ∃ b1, w2.heap.size = b1 := ⟨_, rfl⟩
              rw [hb1] at HW3 ⊢
              generalize w2.alloc (.cells #[.int .i64 a, .int .i64 p, .int .i64 te] THit) = W3 at *
              clear hb1
              obtain ⟨ad2, hae, k0⟩ := (HI.out.2.1.on HW3.out.1.up).at' i s HSI.out
              cases hae
              have hKs : (⟨K.toArray⟩ : ByteArray).size ≤ 256 := by
                show K.toArray.size ≤ 256
                rw [List.size_toArray]; exact HBK.out.2
              have HRF := Lib.hid (rfeed_any A c ps ⟨K.toArray⟩ s (trees arms) W3 (HI.out.1.on HW3.out.1.up) HI.out.2.2.2.2.1 HTR.out.1 HTR.out.2 HBK.out.1 hKs (by omega))
              rw [HN.out.1] at HRF
              unfold RFeedIs at HRF
              rw [show (⟨K.toArray⟩ : ByteArray).data.toList = K from rfl, HY.out, HV2.out] at HRF
              obtain ⟨KS, hKS⟩ : ∃ KS : ByteArray, (⟨y.2.2.toArray⟩ : ByteArray) = KS := ⟨_, rfl⟩
              rw [hKS] at HRF
              have HKS := Lib.hid hKS
              clear hKs hKS HV2 HY
              go_wp2_with fail
              refine HRF.out.mono ?_
              rintro e W6 ⟨rfl, hup⟩
              have hb2 := below_new W6 (.cells #[.int .i64 a, .int .i64 p, .int .i64 te] THit)
              have HW7 := Lib.hid (And.intro ((HW3.out.1.on hup).on hb2) (And.intro ((hb2.block b1 (Nat.lt_of_lt_of_le (lt_of_block HW3.out.2) hup.size)).trans ((hup.block b1 (lt_of_block HW3.out.2)).trans HW3.out.2)) (heap_alloc_new W6 (.cells #[.int .i64 a, .int .i64 p, .int .i64 te] THit))))
              clear hup hb2 HRF HW3 k0
              go_upto_region 16 with (fail)
              change Code.wp _ _ _ _ (W6.alloc (.cells #[.int .i64 a, .int .i64 p, .int .i64 te] THit))
              generalize W6.alloc (.cells #[.int .i64 a, .int .i64 p, .int .i64 te] THit) = W7 at *
              generalize W6.heap.size = b2 at *
              obtain ⟨c0, c1, c2, _⟩ := box_cells HW7.out.2.1
              obtain ⟨d0, d1, d2, _⟩ := box_cells HW7.out.2.2
              have hq := neq_hit
              have HBF := Lib.hid (buffer_any W7 HW7.out.1.ma)
              rw [HKS.out] at HBF
              cases ok with
              | true =>
                go_wp2_with fail
                refine HBF.out.mono ?_
                rintro e W8 ⟨rfl, rfl⟩
                have HXE := Lib.hid HW7.out.1
                clear HW7 c0 c1 c2 d0 d1 d2 HBF
                go_wp2_with fail
                go_roundg (gk - 1)
                case measure => omega
                case rel => exact ⟨i + 1, y.2.2, R2, bv2, by go_num, by rw [HKS.out], by omega, by omega, HXE⟩
              | false =>
                go_wp2_with fail
                refine HBF.out.mono ?_
                rintro e W8 ⟨rfl, rfl⟩
                have HXE := Lib.hid HW7.out.1
                clear HW7 c0 c1 c2 d0 d1 d2 HBF
                go_wp2_with fail
                go_roundg (gk - 1)
                case measure => omega
                case rel => exact ⟨i + 1, y.2.2, R2, bv2, by go_num, by rw [HKS.out], by omega, by omega, HXE⟩
            · obtain rfl : i = N := by omega
              go_wp2_with fail
              go_ret
              exact ⟨rfl, HX.out.up⟩
end Go.Proofs.YtfhggnbnbopkkaaDoor
