/- MatchWindow: what a matcher finds is the first match in what is kept, at each byte. -/
import Derived.Test.YtfhggnbnbopkkaaDoorMatKeeps
import Derived.Test.YtfhggnbnbopkkaaDoorMatAll
namespace Go.Proofs.YtfhggnbnbopkkaaDoor
open Go.RowKit PM

set_option maxRecDepth 100000
theorem ext_one {s : ByteArray} {i : Nat} (h : i < s.size) : (s.extract i (i + 1)).data.toList = [s[i]] := by
  rw [ByteArray.data_extract, Array.toList_extract, List.extract_eq_take_drop]
  rw [show i + 1 - i = 1 by omega]
  rw [List.drop_eq_getElem_cons (show i < s.data.toList.length from h)]
  rfl
theorem ext_size {s : ByteArray} {i : Nat} (h : i < s.size) : (s.extract i (i + 1)).size = 1 := by
  rw [ByteArray.size_extract]; omega
theorem keepS_snoc {s : ByteArray} {K : List UInt8} {i : Nat} (h : i < s.size) : keepS ((⟨K.toArray⟩ : ByteArray) ++ s.extract i (i + 1)) = ⟨(keep (K ++ [s[i]])).toArray⟩ := by
  unfold keepS
  rw [ByteArray.data_append, Array.toList_append, ext_one h]
theorem feed_one (ts : List T) (K : List UInt8) (c : UInt8) : feed ts K [c] = (match hitOf ts (keep (K ++ [c])) with
    | some (a, p) => (1, some (a, p, (keep (K ++ [c])).length), [])
    | none => (1, none, keep (K ++ [c]))) := by
  unfold feed
  cases h : hitOf ts (keep (K ++ [c])) <;> rfl
theorem neq_hit (a p e : Int) (w : World) : (binOp .neq THit (.agg #[.int .i64 a, .int .i64 p, .int .i64 e]) (.agg #[.int .i64 a, .int .i64 p, .int .i64 e])).run Tryd.prog w = .ok (.bool false) w := by
  rw [run_neq_struct]
  simp [go_sem]
/-- what stands at each byte -/
structure WinI (w wr : World) (x : Mx) (arms : List Arm) (K : List UInt8) (R : List Rw) (bv : Value) : Prop where
  ma : MaIs wr x arms K K R bv
  up : Below w.heap.size w wr
  ge : ∀ k, OwnM x R bv k → w.heap.size ≤ k
  bare : Bare (trees arms) K
  len : K.length ≤ 256
theorem WinI.on {w wr w' : World} {x : Mx} {arms : List Arm} {K : List UInt8} {R : List Rw} {bv : Value} (h : WinI w wr x arms K R bv) (hb : Below wr.heap.size wr w') : WinI w w' x arms K R bv :=
  ⟨h.ma.on hb, below_then h.up hb (Nat.le_refl _), h.ge, h.bare, h.len⟩
theorem WinI.fed {w wr w2 : World} {x : Mx} {arms : List Arm} {K : List UInt8} {R : List Rw} {bv : Value} {s : List UInt8} {e : Ending} (h : WinI w wr x arms K R bv) (hf : FeedIs x arms K R bv s wr e w2) :
    e = feedV (feed (trees arms) K s) ∧ ∃ R' bv', WinI w w2 x arms (feed (trees arms) K s).2.2 R' bv' := by
  obtain ⟨h1, h2, R', bv', h3, h4⟩ := hf
  exact ⟨h1, R', bv', h3, below_turned h.up h.up.size h2 h.ge, MaN.above h4 h.ge h.up.size, feed_bare h.bare, feed_short h.len⟩
theorem WinI.boxed {w wr : World} {x : Mx} {arms : List Arm} {K : List UInt8} {R : List Rw} {bv : Value} {B a0 p0 e0 : Nat} (h : WinI w wr x arms K R bv) (hb : wr.heap[B]? = some (.cells (hitC a0 p0 e0) THit (0, 0))) (hB : w.heap.size ≤ B) (a p e : Nat) : WinI w (boxW wr B a p e) x arms K R bv :=
  ⟨h.ma.boxed hb a p e, h.up.trans ((box_below B wr a p e).mono hB), h.ge, h.bare, h.len⟩
theorem boxW_other {W : World} {B k : Nat} (hk : k ≠ B) (a p e : Nat) : (boxW W B a p e).heap[k]? = W.heap[k]? := by
  unfold boxW
  rw [heap_setCell_other _ ⟨B, 2, none⟩ k _ hk, heap_setCell_other _ ⟨B, 1, none⟩ k _ hk, heap_setCell_other _ ⟨B, 0, none⟩ k _ hk]
set_option maxHeartbeats 8000000 in
theorem matchWindow_walk (A : Option Addr) (c : Nat) (ps : List Pat) (s : ByteArray) (w : World) (hP : PIn w A ps) (hn : ps.length ≤ 9223372036854775807) (hs : s.size ≤ 140737488355327) (hT : Tab w) :
    Calls Tryd.prog 8 #[.slice A ps.length c, .string s] w fun e w' => e = .returned (.bool true) ∧ Below w.heap.size w w' := by
  have HW := Lib.hid (works_any w hT)
  have HI := Lib.hid (And.intro hP (And.intro hT hn))
  obtain ⟨n, hpn⟩ : ∃ n, ps.length = n := ⟨_, rfl⟩
  have HN := Lib.hid hpn
  rw [hpn] at hn
  rw [hpn]
  clear hP hT hpn
  have hz := zHit_run
  go_enter Tryd.func8, Tryd.ntmps8
  go_wp2_with fail
  refine HW.out.mono ?_
  rintro e W1 ⟨rfl, hup⟩
  have H1 := Lib.hid hup
  clear hup HW
  have HN1 := Lib.hid (new_any A c ps W1 (HI.out.1.on H1.out) (tab_on HI.out.2.1 H1.out) HI.out.2.2)
  rw [HN.out] at HN1
  go_wp2_with fail
  refine HN1.out.mono ?_
  rintro e W2 (⟨hno, rfl, hup⟩ | ⟨hmay, x, arms, R, rfl, hma, htr, hup, hge⟩)
  · have H2 := Lib.hid (below_then H1.out hup (Nat.le_refl _))
    clear hno hup HN1
    go_wp2_with fail
    go_ret
    exact ⟨rfl, H2.out⟩
  · by_cases hbig : 600 < s.size
    · have H2 := Lib.hid (below_then H1.out hup (Nat.le_refl _))
      clear hup HN1 hma htr hge hmay
      go_wp2_with fail
      go_ret
      exact ⟨rfl, H2.out⟩
    · have HS0 : Hid (WinI w W2 x arms [] R (.slice none 0 0)) := Lib.hid ⟨hma, below_then H1.out hup (Nat.le_refl _), fun k hk => Nat.le_trans H1.out.size (hge k hk), Bare.nil _, by decide⟩
      have HTR := Lib.hid (And.intro hmay htr)
      have hs6 : s.size ≤ 600 := by omega
      clear hma htr hup hge hmay HN1 H1 hbig hs
      go_upto_region 8 with (fail)
      go_loopg [8, 7] (s.size + 1) (fun k v8 v7 wr => ∃ (i : Nat) (K : List UInt8) (R' : List Rw) (bv' : Value), v8 = .int .i64 i ∧ v7 = .string ⟨K.toArray⟩ ∧ i ≤ s.size ∧ s.size + 1 - i ≤ k ∧ Hid (WinI w wr x arms K R' bv'))
      case atStart => exact ⟨0, [], R, _, rfl, rfl, by omega, by omega, HS0⟩
      case round =>
        clear HS0
        obtain ⟨i, K, R1, bv1, rfl, rfl, hi, hik, HX⟩ := hrel
        have hi0 : (0 : Int) ≤ i := by omega
        by_cases hlt : i < s.size
        · have hlt1 : (i : Int) < s.size := by omega
          have hi2 : (i : Int) ≤ 600 := by omega
          have hex := ext_size hlt
          have HFD := Lib.hid (feed_any x arms K R1 bv1 (s.extract i (i + 1)) wr HX.out.ma HX.out.len (by rw [hex]; decide))
          have HK := Lib.hid (And.intro (ext_one hlt) (keepS_snoc (K := K) hlt))
          have hKs : (⟨K.toArray⟩ : ByteArray).size ≤ 256 := by
            show K.toArray.size ≤ 256
            rw [List.size_toArray]; exact HX.out.len
          go_wp2_with fail
          refine HFD.out.mono ?_
          intro e w2 hfi
          obtain ⟨he, R2, bv2, hwi⟩ := HX.out.fed hfi
          rw [HK.out.1, feed_one] at he hwi
          have hKl := keep_len (K ++ [s[i]])
          have hfk := first_kept (c := s[i]) HX.out.bare
          obtain ⟨K', hK'⟩ : ∃ K', keep (K ++ [s[i]]) = K' := ⟨_, rfl⟩
          have HKS := HK.out.2
          rw [hK'] at he hwi hKl hfk HKS
          obtain ⟨KS, hKS⟩ : ∃ KS : ByteArray, (⟨K'.toArray⟩ : ByteArray) = KS := ⟨_, rfl⟩
          have hsz : KS.size = K'.length := by rw [← hKS]; show K'.toArray.size = _; rw [List.size_toArray]
          have hlist : KS.data.toList = K' := by rw [← hKS]
          rw [hKS] at HKS
          have hKZ : KS.size ≤ 256 := by omega
          have HKE := Lib.hid (And.intro hKS (And.intro hlist hsz))
          have HKK := Lib.hid HKS
          obtain ⟨g0, hg0⟩ : ∃ g0, g0 = gk := ⟨_, rfl⟩
          subst hg0
          cases hh : hitOf (trees arms) K' with
          | some ap =>
            obtain ⟨a, p⟩ := ap
            rw [hh] at he hwi hfk
            simp only [Option.map_some] at he hwi hfk
            have he2 : e = .returned (.tuple #[.int .i64 1, .agg #[.int .i64 a, .int .i64 p, .int .i64 KS.size], .bool true]) := by rw [he, hsz]; rfl
            subst he2
            have hb1 := below_new w2 (.cells #[.int .i64 a, .int .i64 p, .int .i64 KS.size] THit)
            have HW3 := Lib.hid (And.intro (hwi.on hb1) (heap_alloc_new w2 (.cells #[.int .i64 a, .int .i64 p, .int .i64 KS.size] THit)))
            have HFK := Lib.hid hfk
            clear he hwi hfk hfi hb1 hh hKS hlist hsz HKS hK' HFD HX hKl
            go_upto_region 11 with (fail)
            change Code.wp _ _ _ _ (w2.alloc (.cells #[.int .i64 a, .int .i64 p, .int .i64 KS.size] THit))
            obtain ⟨b1, hb1⟩ : ∃ b1, w2.heap.size = b1 := ⟨_, rfl⟩
            rw [hb1] at HW3 ⊢
            generalize w2.alloc (.cells #[.int .i64 a, .int .i64 p, .int .i64 KS.size] THit) = W3 at *
            clear hb1
            have HKA := Lib.hid (keepS_any ((⟨K.toArray⟩ : ByteArray) ++ s.extract i (i + 1)) W3 (by rw [ByteArray.size_append, hex]; omega))
            rw [HKK.out] at HKA
            go_wp2_with fail
            refine HKA.out.mono ?_
            rintro e W4 ⟨rfl, rfl⟩
            have hb2 := below_new W4 (.cells (hitC 0 0 0) THit)
            have HX4 := Lib.hid (And.intro (HW3.out.1.on hb2) (And.intro ((hb2.block b1 (lt_of_block HW3.out.2)).trans HW3.out.2) (heap_alloc_new W4 (.cells (hitC 0 0 0) THit))))
            have hne : b1 ≠ W4.heap.size := Nat.ne_of_lt (lt_of_block HW3.out.2)
            have hge2 : w.heap.size ≤ W4.heap.size := HW3.out.1.up.size
            clear hb2 HW3 HKA
            go_upto_region 16 with (fail)
            change Code.wp _ _ _ _ (W4.alloc (.cells (hitC 0 0 0) THit))
            obtain ⟨b2, hb2⟩ : ∃ b2, W4.heap.size = b2 := ⟨_, rfl⟩
            rw [hb2] at HX4 hne hge2 ⊢
            generalize W4.alloc (.cells (hitC 0 0 0) THit) = W5 at *
            clear hb2
            have HFR := Lib.hid (first_any A c ps KS W5 (HI.out.1.on HX4.out.1.up) (tab_on HI.out.2.1 HX4.out.1.up) HI.out.2.2 (by omega))
            rw [HN.out] at HFR
            go_wp2_with fail
            refine HFR.out.mono ?_
            rintro e W6 ⟨hup, (⟨hno, _⟩ | ⟨_, ts, hts, he⟩)⟩
            · exact absurd HTR.out.1 hno
            · rw [hts.one HTR.out.2, HKE.out.2.1, HFK.out, ← HKE.out.2.2] at he
              have he2 : e = .returned (.tuple #[.agg #[.int .i64 a, .int .i64 p, .int .i64 KS.size], .bool true]) := he
              subst he2
              have HX6 := Lib.hid (And.intro (HX4.out.1.on hup) (And.intro ((hup.block b1 (lt_of_block HX4.out.2.1)).trans HX4.out.2.1) ((hup.block b2 (lt_of_block HX4.out.2.2)).trans HX4.out.2.2)))
              clear he hts hup HX4 HFR
              obtain ⟨d0, d1, d2, df⟩ := box_cells HX6.out.2.2
              go_upto_region 17 with (fail)
              change Code.wp _ _ _ _ (boxW W6 b2 a p KS.size)
              have HX7 := Lib.hid (And.intro (HX6.out.1.boxed HX6.out.2.2 hge2 a p KS.size) (And.intro ((boxW_other hne a p KS.size).trans HX6.out.2.1) (box_set HX6.out.2.2 a p KS.size)))
              clear d0 d1 d2 df HX6
              generalize boxW W6 b2 a p KS.size = W7 at *
              have c0 : W7.cell? ⟨b1, 0, none⟩ = some (.int .i64 a) := by rw [cell_of_row _ _ _ _ _ _ HX7.out.2.1]; rfl
              have c1 : W7.cell? ⟨b1, 1, none⟩ = some (.int .i64 p) := by rw [cell_of_row _ _ _ _ _ _ HX7.out.2.1]; rfl
              have c2 : W7.cell? ⟨b1, 2, none⟩ = some (.int .i64 KS.size) := by rw [cell_of_row _ _ _ _ _ _ HX7.out.2.1]; rfl
              obtain ⟨d0, d1, d2, _⟩ := box_cells HX7.out.2.2
              have hq := neq_hit
              have HBF := Lib.hid (buffer_any W7 HX7.out.1.ma)
              go_wp2_with fail
              refine HBF.out.mono ?_
              rintro e W8 ⟨rfl, rfl⟩
              have HXE := Lib.hid HX7.out.1
              clear HX7 c0 c1 c2 d0 d1 d2 HBF
              go_wp2_with fail
              go_roundg (g0 - 1)
              case measure => omega
              case rel => exact ⟨i + 1, [], R2, bv2, by go_num, rfl, by omega, by omega, HXE⟩
          | none =>
            rw [hh] at he hwi hfk
            simp only [Option.map_none] at he hwi hfk
            have he2 : e = .returned (.tuple #[.int .i64 1, .agg #[.int .i64 0, .int .i64 0, .int .i64 0], .bool false]) := he
            subst he2
            have hb1 := below_new w2 (.cells (hitC 0 0 0) THit)
            have HW3 := Lib.hid (And.intro (hwi.on hb1) (heap_alloc_new w2 (.cells (hitC 0 0 0) THit)))
            have HFK := Lib.hid hfk
            clear he hwi hfk hfi hb1 hh hKS hlist hsz HKS hK' HFD HX hKl
            go_upto_region 11 with (fail)
            change Code.wp _ _ _ _ (w2.alloc (.cells (hitC 0 0 0) THit))
            obtain ⟨b1, hb1⟩ : ∃ b1, w2.heap.size = b1 := ⟨_, rfl⟩
            rw [hb1] at HW3 ⊢
            generalize w2.alloc (.cells (hitC 0 0 0) THit) = W3 at *
            clear hb1
            have HKA := Lib.hid (keepS_any ((⟨K.toArray⟩ : ByteArray) ++ s.extract i (i + 1)) W3 (by rw [ByteArray.size_append, hex]; omega))
            rw [HKK.out] at HKA
            go_wp2_with fail
            refine HKA.out.mono ?_
            rintro e W4 ⟨rfl, rfl⟩
            have hb2 := below_new W4 (.cells (hitC 0 0 0) THit)
            have HX4 := Lib.hid (And.intro (HW3.out.1.on hb2) (And.intro ((hb2.block b1 (lt_of_block HW3.out.2)).trans HW3.out.2) (heap_alloc_new W4 (.cells (hitC 0 0 0) THit))))
            have hne : b1 ≠ W4.heap.size := Nat.ne_of_lt (lt_of_block HW3.out.2)
            have hge2 : w.heap.size ≤ W4.heap.size := HW3.out.1.up.size
            clear hb2 HW3 HKA
            go_upto_region 15 with (fail)
            change Code.wp _ _ _ _ (W4.alloc (.cells (hitC 0 0 0) THit))
            obtain ⟨b2, hb2⟩ : ∃ b2, W4.heap.size = b2 := ⟨_, rfl⟩
            rw [hb2] at HX4 hne hge2 ⊢
            generalize W4.alloc (.cells (hitC 0 0 0) THit) = W5 at *
            clear hb2
            obtain ⟨rr, hrr⟩ : ∃ rr : Nat, i % 16 = rr := ⟨_, rfl⟩
            have hrt : Int.tmod (i : Int) 16 = rr := by rw [Int.tmod_eq_emod_of_nonneg hi0, ← hrr]; rfl
            clear hrr
            rcases (show rr = 0 ∨ (rr ≠ 0 ∧ s.size < i + 3) ∨ (rr ≠ 0 ∧ ¬ s.size < i + 3) by omega) with h16 | ⟨h16, hend⟩ | ⟨h16, hend⟩
            · subst h16
              go_upto_region 16 with (fail)
              have HFR := Lib.hid (first_any A c ps KS W5 (HI.out.1.on HX4.out.1.up) (tab_on HI.out.2.1 HX4.out.1.up) HI.out.2.2 (by omega))
              rw [HN.out] at HFR
              go_wp2_with fail
              refine HFR.out.mono ?_
              rintro e W6 ⟨hup, (⟨hno, _⟩ | ⟨_, ts, hts, he⟩)⟩
              · exact absurd HTR.out.1 hno
              · rw [hts.one HTR.out.2, HKE.out.2.1, HFK.out] at he
                have he2 : e = .returned (.tuple #[.agg #[.int .i64 0, .int .i64 0, .int .i64 0], .bool false]) := he
                subst he2
                have HX6 := Lib.hid (And.intro (HX4.out.1.on hup) (And.intro ((hup.block b1 (lt_of_block HX4.out.2.1)).trans HX4.out.2.1) ((hup.block b2 (lt_of_block HX4.out.2.2)).trans HX4.out.2.2)))
                have HX7 : Hid (WinI w (boxW W6 b2 0 0 0) x arms K' R2 bv2 ∧ (boxW W6 b2 0 0 0).heap[b1]? = some (.cells (hitC 0 0 0) THit (0, 0)) ∧ (boxW W6 b2 0 0 0).heap[b2]? = some (.cells (hitC 0 0 0) THit (0, 0))) := Lib.hid ⟨HX6.out.1.boxed HX6.out.2.2 hge2 0 0 0, (boxW_other hne 0 0 0).trans HX6.out.2.1, box_set HX6.out.2.2 0 0 0⟩
                obtain ⟨d0, d1, d2, df⟩ := box_cells HX6.out.2.2
                clear he hts hup HX4 HFR HX6
                go_upto_region 17 with (fail)
                change Code.wp _ _ _ _ (boxW W6 b2 0 0 0)
                clear d0 d1 d2 df
                generalize boxW W6 b2 0 0 0 = W7 at *
                obtain ⟨c0, c1, c2, _⟩ := box_cells HX7.out.2.1
                obtain ⟨d0, d1, d2, _⟩ := box_cells HX7.out.2.2
                have hq := neq_hit
                have HBF := Lib.hid (buffer_any W7 HX7.out.1.ma)
                rw [HKE.out.1] at HBF
                go_wp2_with fail
                refine HBF.out.mono ?_
                rintro e W8 ⟨rfl, rfl⟩
                have HXE := Lib.hid HX7.out.1
                clear HX7 c0 c1 c2 d0 d1 d2 HBF
                go_wp2_with fail
                go_roundg (g0 - 1)
                case measure => omega
                case rel => exact ⟨i + 1, K', R2, bv2, by go_num, by rw [HKE.out.1], by omega, by omega, HXE⟩
            · have h16' : ¬ (rr : Int) = 0 := by omega
              have hend' : (s.size : Int) < i + 3 := by omega
              go_upto_region 16 with (fail)
              have HFR := Lib.hid (first_any A c ps KS W5 (HI.out.1.on HX4.out.1.up) (tab_on HI.out.2.1 HX4.out.1.up) HI.out.2.2 (by omega))
              rw [HN.out] at HFR
              go_wp2_with fail
              refine HFR.out.mono ?_
              rintro e W6 ⟨hup, (⟨hno, _⟩ | ⟨_, ts, hts, he⟩)⟩
              · exact absurd HTR.out.1 hno
              · rw [hts.one HTR.out.2, HKE.out.2.1, HFK.out] at he
                have he2 : e = .returned (.tuple #[.agg #[.int .i64 0, .int .i64 0, .int .i64 0], .bool false]) := he
                subst he2
                have HX6 := Lib.hid (And.intro (HX4.out.1.on hup) (And.intro ((hup.block b1 (lt_of_block HX4.out.2.1)).trans HX4.out.2.1) ((hup.block b2 (lt_of_block HX4.out.2.2)).trans HX4.out.2.2)))
                have HX7 : Hid (WinI w (boxW W6 b2 0 0 0) x arms K' R2 bv2 ∧ (boxW W6 b2 0 0 0).heap[b1]? = some (.cells (hitC 0 0 0) THit (0, 0)) ∧ (boxW W6 b2 0 0 0).heap[b2]? = some (.cells (hitC 0 0 0) THit (0, 0))) := Lib.hid ⟨HX6.out.1.boxed HX6.out.2.2 hge2 0 0 0, (boxW_other hne 0 0 0).trans HX6.out.2.1, box_set HX6.out.2.2 0 0 0⟩
                obtain ⟨d0, d1, d2, df⟩ := box_cells HX6.out.2.2
                clear he hts hup HX4 HFR HX6
                go_upto_region 17 with (fail)
                change Code.wp _ _ _ _ (boxW W6 b2 0 0 0)
                clear d0 d1 d2 df
                generalize boxW W6 b2 0 0 0 = W7 at *
                obtain ⟨c0, c1, c2, _⟩ := box_cells HX7.out.2.1
                obtain ⟨d0, d1, d2, _⟩ := box_cells HX7.out.2.2
                have hq := neq_hit
                have HBF := Lib.hid (buffer_any W7 HX7.out.1.ma)
                rw [HKE.out.1] at HBF
                go_wp2_with fail
                refine HBF.out.mono ?_
                rintro e W8 ⟨rfl, rfl⟩
                have HXE := Lib.hid HX7.out.1
                clear HX7 c0 c1 c2 d0 d1 d2 HBF
                go_wp2_with fail
                go_roundg (g0 - 1)
                case measure => omega
                case rel => exact ⟨i + 1, K', R2, bv2, by go_num, by rw [HKE.out.1], by omega, by omega, HXE⟩
            · have h16' : ¬ (rr : Int) = 0 := by omega
              have hend' : ¬ (s.size : Int) < i + 3 := by omega
              have HX7 := HX4
              clear HX4
              have hW7 : ∃ W7, W7 = W5 := ⟨_, rfl⟩
              obtain ⟨W7, hW7⟩ := hW7
              subst hW7
              obtain ⟨c0, c1, c2, _⟩ := box_cells HX7.out.2.1
              obtain ⟨d0, d1, d2, _⟩ := box_cells HX7.out.2.2
              have hq := neq_hit
              have HBF := Lib.hid (buffer_any W7 HX7.out.1.ma)
              rw [HKE.out.1] at HBF
              go_wp2_with fail
              refine HBF.out.mono ?_
              rintro e W8 ⟨rfl, rfl⟩
              have HXE := Lib.hid HX7.out.1
              clear HX7 c0 c1 c2 d0 d1 d2 HBF
              go_wp2_with fail
              go_roundg (g0 - 1)
              case measure => omega
              case rel => exact ⟨i + 1, K', R2, bv2, by go_num, by rw [HKE.out.1], by omega, by omega, HXE⟩
        · obtain rfl : i = s.size := by omega
          go_wp2_with fail
          go_ret
          exact ⟨rfl, HX.out.up⟩
end Go.Proofs.YtfhggnbnbopkkaaDoor
