/- MatchEarly: no match ends ahead of the first one, none of an earlier pattern ends with it, none of its pattern begins ahead of it; what comes behind makes no difference. -/
import Derived.Test.YtfhggnbnbopkkaaDoorMatWorks
namespace Go.Proofs.YtfhggnbnbopkkaaDoor
open Go.RowKit PM

set_option maxRecDepth 100000
theorem early_len {ts : List T} {s : List UInt8} {a p te : Nat} (h : first ts s = some (a, p, te)) : 1 ≤ te ∧ te ≤ s.length ∧ p < te ∧ a < ts.length := by
  obtain ⟨h1, h2, h3, h4⟩ := first_some.1 h
  have h5 := hitOf_lt h3
  rw [List.length_take] at h5
  exact ⟨h1, h2, by omega, h5.1⟩
theorem early_below {ts : List T} {s : List UInt8} {a p te i f : Nat} {t : T} (h : first ts s = some (a, p, te)) (hi : ts[i]? = some t) (hf : f < te) (hb : i < a ∨ (i = a ∧ f < p)) : fitsB t ((s.take te).drop f) = false := by
  obtain ⟨h1, h2, h3, h4⟩ := first_some.1 h
  obtain ⟨t', h5, h6, h7⟩ := hitOf_some.1 h3
  rcases hb with hb | ⟨rfl, hb⟩
  · exact fromOf_none.1 (h7 i t hb hi) f (by rw [List.length_take]; omega)
  · rw [h5] at hi; cases hi
    exact (fromOf_some.1 h6).2.2 f hb
theorem early_at {ts : List T} {s : List UInt8} {a p te : Nat} {t : T} (h : first ts s = some (a, p, te)) (hi : ts[a]? = some t) : fitsB t ((s.take te).drop p) = true := by
  obtain ⟨h1, h2, h3, h4⟩ := first_some.1 h
  obtain ⟨t', h5, h6, h7⟩ := hitOf_some.1 h3
  rw [h5] at hi; cases hi
  exact (fromOf_some.1 h6).2.1
theorem early_none {ts : List T} {s : List UInt8} {a p te : Nat} (h : first ts s = some (a, p, te)) : first ts (s.take (te - 1)) = none := by
  obtain ⟨h1, h2, h3, h4⟩ := first_some.1 h
  refine first_none.2 fun j hj => ?_
  rw [List.length_take] at hj
  rw [List.take_take, Nat.min_eq_left (by omega)]
  exact h4 j (by omega)
theorem early_more {ts : List T} {s : List UInt8} {a p te : Nat} (h : first ts s = some (a, p, te)) (m : List UInt8) : first ts (s.take te ++ m) = some (a, p, te) := by
  obtain ⟨h1, h2, h3, h4⟩ := first_some.1 h
  have hl : (s.take te).length = te := by rw [List.length_take]; omega
  refine first_some.2 ⟨h1, by rw [List.length_append, hl]; omega, ?_, fun j hj => ?_⟩
  · rw [List.take_append_of_le_length (by omega), List.take_take, Nat.min_self]; exact h3
  · rw [List.take_append_of_le_length (by omega), List.take_take, Nat.min_eq_left (by omega)]; exact h4 j hj
theorem ext_list (s : ByteArray) (f te : Nat) : (s.extract f te).data.toList = (s.data.toList.take te).drop f := by
  rw [ByteArray.data_extract, Array.toList_extract, List.extract_eq_take_drop, List.drop_take]
set_option maxHeartbeats 8000000 in
theorem matchEarly_walk (A : Option Addr) (c : Nat) (ps : List Pat) (s m : ByteArray) (w : World) (hP : PIn w A ps) (hn : ps.length ≤ 9223372036854775807) (hs : s.size ≤ 5000000) (hm : m.size ≤ 5000000) (hT : Tab w) :
    Calls Tryd.prog 9 #[.slice A ps.length c, .string s, .string m] w fun e w' => e = .returned (.bool true) ∧ Below w.heap.size w w' := by
  have HW := Lib.hid (works_any w hT)
  have HI := Lib.hid (And.intro hP (And.intro hT hn))
  obtain ⟨n, hpn⟩ : ∃ n, ps.length = n := ⟨_, rfl⟩
  have HN := Lib.hid hpn
  rw [hpn] at hn
  rw [hpn]
  clear hP hT hpn
  go_enter Tryd.func9, Tryd.ntmps9
  go_wp2_with fail
  refine HW.out.mono ?_
  rintro e W1 ⟨rfl, hup⟩
  have H1 := Lib.hid hup
  clear hup HW
  have HFR := Lib.hid (first_any A c ps s W1 (HI.out.1.on H1.out) (tab_on HI.out.2.1 H1.out) HI.out.2.2 hs)
  rw [HN.out] at HFR
  go_upto_region 3 with (fail)
  go_wp2_with fail
  refine HFR.out.mono ?_
  rintro e W2 ⟨hup, hor⟩
  obtain ⟨ok, a, p, te, he2, hok, hno⟩ : ∃ (ok : Bool) (a p te : Nat), e = .returned (.tuple #[.agg #[.int .i64 a, .int .i64 p, .int .i64 te], .bool ok]) ∧ (ok = true → May ps ∧ ∃ ts, Trees ps ts ∧ first ts s.data.toList = some (a, p, te)) ∧ (ok = false → a = 0 ∧ p = 0 ∧ te = 0) := by
    rcases hor with ⟨hno, he⟩ | ⟨hmay, ts, hts, he⟩
    · exact ⟨false, 0, 0, 0, he, (fun h => by cases h), fun _ => ⟨rfl, rfl, rfl⟩⟩
    · cases hf : first ts s.data.toList with
      | none => rw [hf] at he; exact ⟨false, 0, 0, 0, he, (fun h => by cases h), fun _ => ⟨rfl, rfl, rfl⟩⟩
      | some f => obtain ⟨a, p, e'⟩ := f; rw [hf] at he; exact ⟨true, a, p, e', he, (fun _ => ⟨hmay, ts, hts, hf⟩), fun h => by cases h⟩
  subst he2
  have hb := below_new W2 (.cells #[.int .i64 a, .int .i64 p, .int .i64 te] THit)
  have HX3 := Lib.hid (And.intro (below_then (below_then H1.out hup (Nat.le_refl _)) hb (Nat.le_refl _)) (heap_alloc_new W2 (.cells #[.int .i64 a, .int .i64 p, .int .i64 te] THit)))
  have HOK := Lib.hid (And.intro hok hno)
  clear hor hup hb HFR hok hno H1
  go_upto_region 4 with (fail)
  change Code.wp _ _ _ _ (W2.alloc (.cells #[.int .i64 a, .int .i64 p, .int .i64 te] THit))
  generalize W2.alloc (.cells #[.int .i64 a, .int .i64 p, .int .i64 te] THit) = W3 at *
  obtain ⟨b1, hb1⟩ : ∃ b1, W2.heap.size = b1 := ⟨_, rfl⟩
  rw [hb1] at HX3 ⊢
  clear hb1
  by_cases hbig : 200 < s.size
  · have hbig1 : (200 : Int) < s.size := by omega
    go_wp2_with fail
    go_ret
    exact ⟨rfl, HX3.out.1⟩
  · have hbig1 : ¬ (200 : Int) < s.size := by omega
    by_cases hbm : 200 < m.size
    · have hbm1 : (200 : Int) < m.size := by omega
      go_wp2_with fail
      go_ret
      exact ⟨rfl, HX3.out.1⟩
    · have hbm1 : ¬ (200 : Int) < m.size := by omega
      have hq := eq_hit
      cases ok with
      | false =>
        obtain ⟨rfl, rfl, rfl⟩ := HOK.out.2 rfl
        have c0 : W3.cell? ⟨b1, 0, none⟩ = some (.int .i64 0) := by rw [cell_of_row _ _ _ _ _ _ HX3.out.2]; rfl
        have c1 : W3.cell? ⟨b1, 1, none⟩ = some (.int .i64 0) := by rw [cell_of_row _ _ _ _ _ _ HX3.out.2]; rfl
        have c2 : W3.cell? ⟨b1, 2, none⟩ = some (.int .i64 0) := by rw [cell_of_row _ _ _ _ _ _ HX3.out.2]; rfl
        go_wp2_with fail
        go_ret
        exact ⟨by simp, HX3.out.1⟩
      | true =>
        obtain ⟨hmay, ts, hts, hfst⟩ := HOK.out.1 rfl
        obtain ⟨ht1, ht2, hpt, hal⟩ := early_len hfst
        rw [hts.1, HN.out] at hal
        have ht3 : te ≤ s.size := ht2
        have HF := Lib.hid (And.intro hmay (And.intro hts hfst))
        clear hmay hts hfst HOK ht2
        have c0 : W3.cell? ⟨b1, 0, none⟩ = some (.int .i64 a) := by rw [cell_of_row _ _ _ _ _ _ HX3.out.2]; rfl
        have c1 : W3.cell? ⟨b1, 1, none⟩ = some (.int .i64 p) := by rw [cell_of_row _ _ _ _ _ _ HX3.out.2]; rfl
        have c2 : W3.cell? ⟨b1, 2, none⟩ = some (.int .i64 te) := by rw [cell_of_row _ _ _ _ _ _ HX3.out.2]; rfl
        have f1 : ¬ (a : Int) < 0 := by omega
        have f2 : ¬ (n : Int) ≤ a := by omega
        have f3 : ¬ (p : Int) < 0 := by omega
        have f4 : ¬ (te : Int) ≤ p := by omega
        have f5 : ¬ (s.size : Int) < te := by omega
        have d1 : decide ((a : Int) < 0) = false := decide_eq_false f1
        have d2 : decide ((n : Int) ≤ a) = false := decide_eq_false f2
        have d3 : decide ((p : Int) < 0) = false := decide_eq_false f3
        have d4 : decide ((te : Int) ≤ p) = false := decide_eq_false f4
        have d5 : decide ((s.size : Int) < te) = false := decide_eq_false f5
        go_upto_region 11 with (fail)
        clear f1 f2 f3 f4 f5 d1 d2 d3 d4 d5
        go_loopg [9] (n + 1) (fun k v9 wq => ∃ i : Nat, v9 = .int .i64 i ∧ i ≤ a + 1 ∧ n + 1 - i ≤ k ∧ Hid (Below w.heap.size w wq ∧ wq.heap[b1]? = some (.cells #[.int .i64 a, .int .i64 p, .int .i64 te] THit (0, 0))))
        case atStart => exact ⟨0, rfl, by omega, by omega, HX3⟩
        case round =>
          clear c0 c1 c2 HX3
          obtain ⟨i, rfl, hia, hik, HX⟩ := hrel
          have hi0 : (0 : Int) ≤ i := by omega
          by_cases hlt : i ≤ a
          · have hlt1 : (i : Int) ≤ a := by omega
            obtain ⟨g0, hg0⟩ : ∃ g0, g0 = gk := ⟨_, rfl⟩
            subst hg0
            obtain ⟨q, hq1⟩ : ∃ q, ps[i]? = some q := ⟨_, List.getElem?_eq_getElem (by rw [HN.out]; omega)⟩
            obtain ⟨t, ht⟩ : ∃ t, ts[i]? = some t := ⟨_, List.getElem?_eq_getElem (by rw [HF.out.2.1.1, HN.out]; omega)⟩
            have hin : i < n := by omega
            have hin1 : (i : Int) < n := by omega
            obtain ⟨ad, rfl, k0, k1⟩ := (HI.out.1.on HX.out.1).at' i q hq1
            have HT := Lib.hid (And.intro ht (HF.out.2.1.2 i q t hq1 ht))
            have HOF := Lib.hid (of_or q.kind q.text wr (HI.out.1.sz q (List.mem_of_getElem? hq1)) (tab_on HI.out.2.1 HX.out.1))
            clear ht hq1
            have c0 : wr.cell? ⟨b1, 0, none⟩ = some (.int .i64 a) := by rw [cell_of_row _ _ _ _ _ _ HX.out.2]; rfl
            go_wp2_with fail
            refine HOF.out.mono ?_
            rintro e w2 (⟨t', b, AA, ht', rfl, hnet, _, hup⟩ | ⟨hno, _, _⟩)
            · obtain rfl : t' = t := by
                have h := HT.out.2.1
                rw [ht'] at h; cases h; rfl
              have HX2 := Lib.hid (And.intro (below_then HX.out.1 hup (Nat.le_refl _)) (And.intro ((hup.block b1 (lt_of_block HX.out.2)).trans HX.out.2) hnet))
              clear HOF HX hup hnet ht' c0 k0 k1
              go_upto_region 17 with (fail)
              go_loopg [12] (te + 1) (fun k v12 wq => ∃ f : Nat, v12 = .int .i64 f ∧ f ≤ te ∧ te + 1 - f ≤ k ∧ Hid (Below w.heap.size w wq ∧ wq.heap[b1]? = some (.cells #[.int .i64 a, .int .i64 p, .int .i64 te] THit (0, 0)) ∧ NetIs wq b t' AA))
              case atStart => exact ⟨0, rfl, by omega, by omega, HX2⟩
              case round =>
                clear HX2
                obtain ⟨f, rfl, hf, hfk, HX⟩ := hrel
                have hf0 : (0 : Int) ≤ f := by omega
                have c0 : wr.cell? ⟨b1, 0, none⟩ = some (.int .i64 a) := by rw [cell_of_row _ _ _ _ _ _ HX.out.2.1]; rfl
                have c1 : wr.cell? ⟨b1, 1, none⟩ = some (.int .i64 p) := by rw [cell_of_row _ _ _ _ _ _ HX.out.2.1]; rfl
                have c2 : wr.cell? ⟨b1, 2, none⟩ = some (.int .i64 te) := by rw [cell_of_row _ _ _ _ _ _ HX.out.2.1]; rfl
                by_cases hlt2 : f < te
                · have hlt21 : (f : Int) < te := by omega
                  have hft : f ≤ te := by omega
                  have HM := Lib.hid (match_any b t' AA (s.extract f te) wr HX.out.2.2 (tab_on HI.out.2.1 HX.out.1) (by rw [ByteArray.size_extract]; omega))
                  rw [ext_list] at HM
                  go_upto_region 19 with (fail)
                  go_wp2_with fail
                  refine HM.out.mono ?_
                  rintro e w3 ⟨rfl, hup⟩
                  have HX4 := Lib.hid (And.intro (below_then HX.out.1 hup (Nat.le_refl _)) (And.intro ((hup.block b1 (lt_of_block HX.out.2.1)).trans HX.out.2.1) (HX.out.2.2.on hup)))
                  clear HM HX hup c0 c1 c2
                  have c0 : w3.cell? ⟨b1, 0, none⟩ = some (.int .i64 a) := by rw [cell_of_row _ _ _ _ _ _ HX4.out.2.1]; rfl
                  have c1 : w3.cell? ⟨b1, 1, none⟩ = some (.int .i64 p) := by rw [cell_of_row _ _ _ _ _ _ HX4.out.2.1]; rfl
                  by_cases hia2 : i < a
                  · have hia3 : (i : Int) < a := by omega
                    have hia4 : ¬ (i : Int) = a := by omega
                    have e1 : decide ((i : Int) < a) = true := decide_eq_true hia3
                    have e2 : decide ((i : Int) = a) = false := decide_eq_false hia4
                    rw [early_below HF.out.2.2 HT.out.1 hlt2 (.inl hia2)]
                    go_wp2_with fail
                    go_roundg (gk - 1)
                    case measure => omega
                    case rel => exact ⟨f + 1, by go_num, by omega, by omega, HX4⟩
                  · obtain rfl : i = a := by omega
                    by_cases hfp : f < p
                    · have hfp1 : (f : Int) ≤ p := by omega
                      have hfp2 : ¬ (f : Int) = p := by omega
                      have e3 : decide ((f : Int) ≤ p) = true := decide_eq_true hfp1
                      have e4 : decide ((f : Int) = p) = false := decide_eq_false hfp2
                      rw [early_below HF.out.2.2 HT.out.1 hlt2 (.inr ⟨rfl, hfp⟩)]
                      go_wp2_with fail
                      go_roundg (gk - 1)
                      case measure => omega
                      case rel => exact ⟨f + 1, by go_num, by omega, by omega, HX4⟩
                    · by_cases hfe : f = p
                      · subst hfe
                        rw [early_at HF.out.2.2 HT.out.1]
                        go_wp2_with fail
                        go_roundg (gk - 1)
                        case measure => omega
                        case rel => exact ⟨f + 1, by go_num, by omega, by omega, HX4⟩
                      · have hfp1 : ¬ (f : Int) ≤ p := by omega
                        have e3 : decide ((f : Int) ≤ p) = false := decide_eq_false hfp1
                        generalize fitsB t' (List.drop f (List.take te s.data.toList)) = v
                        go_wp2_with fail
                        go_roundg (gk - 1)
                        case measure => omega
                        case rel => exact ⟨f + 1, by go_num, by omega, by omega, HX4⟩
                · obtain rfl : f = te := by omega
                  have HXE := Lib.hid (And.intro HX.out.1 HX.out.2.1)
                  go_wp2_with fail
                  go_roundg (g0 - 1)
                  case measure => omega
                  case rel => exact ⟨i + 1, by go_num, by omega, by omega, HXE⟩
            · exact absurd HT.out.2.1 (hno t)
          · obtain rfl : i = a + 1 := by omega
            have hlt1 : ¬ ((a + 1 : Nat) : Int) ≤ a := by omega
            have c0 : wr.cell? ⟨b1, 0, none⟩ = some (.int .i64 a) := by rw [cell_of_row _ _ _ _ _ _ HX.out.2]; rfl
            have c2 : wr.cell? ⟨b1, 2, none⟩ = some (.int .i64 te) := by rw [cell_of_row _ _ _ _ _ _ HX.out.2]; rfl
            have hnone := early_none HF.out.2.2
            have hmore := early_more HF.out.2.2 m.data.toList
            obtain ⟨u, rfl⟩ : ∃ u, te = u + 1 := ⟨te - 1, by omega⟩
            rw [Nat.add_sub_cancel] at hnone
            have hl1 : (s.extract 0 u).data.toList = s.data.toList.take u := by rw [ext_list, List.drop_zero]
            have hl2 : (s.extract 0 (u + 1) ++ m).data.toList = s.data.toList.take (u + 1) ++ m.data.toList := by rw [ByteArray.data_append, Array.toList_append, ext_list, List.drop_zero]
            have hz1 : (s.extract 0 u).size ≤ 5000000 := by rw [ByteArray.size_extract]; omega
            have hz2 : (s.extract 0 (u + 1) ++ m).size ≤ 5000000 := by rw [ByteArray.size_append, ByteArray.size_extract]; omega
            have HFN := Lib.hid (first_any A c ps (s.extract 0 u) wr (HI.out.1.on HX.out.1) (tab_on HI.out.2.1 HX.out.1) HI.out.2.2 hz1)
            rw [HN.out, hl1] at HFN
            have hu0 : (0 : Int) ≤ u := by omega
            have hu1 : u ≤ s.size := by omega
            go_upto_region 22 with (fail)
            go_wp2_with fail
            refine HFN.out.mono ?_
            rintro e w2 ⟨hup, (⟨hno, _⟩ | ⟨_, ts2, hts2, he⟩)⟩
            · exact absurd HF.out.1 hno
            · rw [hts2.one HF.out.2.1, hnone] at he
              have he2 : e = .returned (.tuple #[.agg #[.int .i64 0, .int .i64 0, .int .i64 0], .bool false]) := he
              subst he2
              have hb := below_new w2 (.cells #[.int .i64 0, .int .i64 0, .int .i64 0] THit)
              have HX4 := Lib.hid (And.intro (below_then (below_then HX.out.1 hup (Nat.le_refl _)) hb (Nat.le_refl _)) ((hb.block b1 (Nat.lt_of_lt_of_le (lt_of_block HX.out.2) hup.size)).trans ((hup.block b1 (lt_of_block HX.out.2)).trans HX.out.2)))
              clear he hts2 hup hb HFN hnone c0 c2 HX
              go_upto_region 23 with (fail)
              change Code.wp _ _ _ _ (w2.alloc (.cells #[.int .i64 0, .int .i64 0, .int .i64 0] THit))
              generalize w2.alloc (.cells #[.int .i64 0, .int .i64 0, .int .i64 0] THit) = w4 at *
              have c2 : w4.cell? ⟨b1, 2, none⟩ = some (.int .i64 (u + 1 : Nat)) := by rw [cell_of_row _ _ _ _ _ _ HX4.out.2]; rfl
              have HFM := Lib.hid (first_any A c ps (s.extract 0 (u + 1) ++ m) w4 (HI.out.1.on HX4.out.1) (tab_on HI.out.2.1 HX4.out.1) HI.out.2.2 hz2)
              rw [HN.out, hl2] at HFM
              go_wp2_with fail
              refine HFM.out.mono ?_
              rintro e w5 ⟨hup, (⟨hno, _⟩ | ⟨_, ts2, hts2, he⟩)⟩
              · exact absurd HF.out.1 hno
              · rw [hts2.one HF.out.2.1, hmore] at he
                have he2 : e = .returned (.tuple #[.agg #[.int .i64 a, .int .i64 p, .int .i64 (u + 1 : Nat)], .bool true]) := he
                subst he2
                have hb := below_new w5 (.cells #[.int .i64 a, .int .i64 p, .int .i64 (u + 1 : Nat)] THit)
                have HX6 := Lib.hid (And.intro (below_then (below_then HX4.out.1 hup (Nat.le_refl _)) hb (Nat.le_refl _)) (And.intro ((hb.block b1 (Nat.lt_of_lt_of_le (lt_of_block HX4.out.2) hup.size)).trans ((hup.block b1 (lt_of_block HX4.out.2)).trans HX4.out.2)) (heap_alloc_new w5 (.cells #[.int .i64 a, .int .i64 p, .int .i64 (u + 1 : Nat)] THit))))
                clear he hts2 hup hb HFM hmore c2 HX4
                go_upto_region 24 with (fail)
                change Code.wp _ _ _ _ (w5.alloc (.cells #[.int .i64 a, .int .i64 p, .int .i64 (u + 1 : Nat)] THit))
                generalize w5.alloc (.cells #[.int .i64 a, .int .i64 p, .int .i64 (u + 1 : Nat)] THit) = w6 at *
                generalize w5.heap.size = b2 at *
                obtain ⟨c0, c1, c2, _⟩ := box_cells HX6.out.2.1
                obtain ⟨d0, d1, d2, _⟩ := box_cells HX6.out.2.2
                go_wp2_with fail
                go_ret
                exact ⟨by simp, HX6.out.1⟩
end Go.Proofs.YtfhggnbnbopkkaaDoor
