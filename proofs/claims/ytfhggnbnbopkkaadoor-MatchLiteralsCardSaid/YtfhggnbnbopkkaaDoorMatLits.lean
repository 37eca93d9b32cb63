/- MatchLiterals: of literals it is the first place at which one of them stands whole. -/
import Derived.Test.YtfhggnbnbopkkaaDoorMatNames
import Derived.Test.YtfhggnbnbopkkaaDoorMatLitMath
namespace Go.Proofs.YtfhggnbnbopkkaaDoor
open Go.RowKit PM

set_option maxRecDepth 100000
def litP (l : List ByteArray) : List Pat := l.map fun s => ⟨1, s⟩
def litB (l : List ByteArray) : List (List UInt8) := l.map fun s => s.data.toList
theorem litB_words {l : List ByteArray} (h : ∀ s ∈ l, 1 ≤ s.size ∧ s.size ≤ 64) : Words (litB l) := fun s hs => by
  obtain ⟨b, hb, rfl⟩ := List.mem_map.1 hs
  exact h b hb
theorem lit_trees {l : List ByteArray} (h : ∀ s ∈ l, 1 ≤ s.size ∧ s.size ≤ 64) : Trees (litP l) ((litB l).map litT) := ⟨by simp [litP, litB], fun k p t hp ht => by
  unfold litP at hp
  unfold litB at ht
  rw [List.getElem?_map] at hp
  rw [List.getElem?_map, List.getElem?_map] at ht
  cases hs : l[k]? with
  | none => rw [hs] at hp; cases hp
  | some s =>
    rw [hs] at hp ht
    cases hp; cases ht
    have hsz := h s (List.mem_of_getElem? hs)
    exact ⟨tree_litT (show s.data.toList.length ≤ 64 from hsz.2), emptyT_lit (show 1 ≤ s.data.toList.length from hsz.1) emptyT_mk⟩⟩
theorem lit_may {l : List ByteArray} (h : ∀ s ∈ l, 1 ≤ s.size ∧ s.size ≤ 64) (h1 : 1 ≤ l.length) (h8 : l.length ≤ 8) : May (litP l) := ⟨⟨by simp [litP]; omega, by simp [litP]; omega⟩, fun p hp => by
  obtain ⟨k, hk, e⟩ := List.mem_iff_getElem.1 hp
  have ht := lit_trees h
  have hk2 : k < ((litB l).map litT).length := by rw [ht.1]; exact hk
  exact ⟨_, ht.2 k p _ ((List.getElem?_eq_getElem hk).trans (by rw [e])) (List.getElem?_eq_getElem hk2)⟩⟩
/-- no word ends at the first so many places -/
def NoneTo (ws : List (List UInt8)) (s : List UInt8) (te : Nat) : Prop := ∀ e, 1 ≤ e → e < te → ∀ (j : Nat) s', ws[j]? = some s' → ¬ tailIs s' (s.take e)
theorem lit_found {ws : List (List UInt8)} (hw : Words ws) {s : List UInt8} {te i : Nat} {x : List UInt8} (h1 : 1 ≤ te) (hto : te ≤ s.length) (hn : NoneTo ws s te) (hi : ws[i]? = some x) (hb : ∀ (j : Nat) s', j < i → ws[j]? = some s' → ¬ tailIs s' (s.take te)) (he : tailIs x (s.take te)) : first (ws.map litT) s = some (i, te - x.length, te) := by
  have hl : (s.take te).length = te := by rw [List.length_take]; omega
  have h := hit_lit hw hi he hb
  rw [hl] at h
  exact first_some.2 ⟨h1, hto, h, fun j hj => hit_nolit hw fun k s' hk => hn (j + 1) (by omega) hj k s' hk⟩
theorem lit_none {ws : List (List UInt8)} (hw : Words ws) {s : List UInt8} (hn : NoneTo ws s (s.length + 1)) : first (ws.map litT) s = none :=
  first_none.2 fun j hj => hit_nolit hw fun k s' hk => hn (j + 1) (by omega) (by omega) k s' hk
/-- a word at a place of a text -/
theorem ends_ext {s x : ByteArray} {te : Nat} (hto : te ≤ s.size) (hx : x.size ≤ te) : tailIs x.data.toList (s.data.toList.take te) ↔ (s.extract (te - x.size) te).toList = x.toList := by
  have hl : (s.data.toList.take te).length = te := by rw [List.length_take]; exact Nat.min_eq_left hto
  have hxl : x.data.toList.length = x.size := rfl
  unfold tailIs
  rw [hl, hxl, ByteArray.toList_eq, ByteArray.toList_eq, ByteArray.data_extract, Array.toList_extract, List.extract_eq_take_drop, List.drop_take]
  exact ⟨fun h => h.2, fun h => ⟨hx, h⟩⟩
set_option maxHeartbeats 8000000 in
theorem matchLiterals_walk (A : Option Addr) (c : Nat) (l : List ByteArray) (s : ByteArray) (w : World) (hS : SIn w A l) (hl : l.length ≤ 9223372036854775806) (hls : ∀ s ∈ l, s.size ≤ 140737488355327) (hs : s.size ≤ 140737488355327) (hT : Tab w) :
    Calls Tryd.prog 4 #[.slice A l.length c, .string s] w fun e w' => e = .returned (.bool true) ∧ Below w.heap.size w w' := by
  have HW := Lib.hid (works_any w hT)
  have HT := Lib.hid hT
  have HA := Lib.hid hS
  have HLS := Lib.hid hls
  obtain ⟨N, hlN⟩ : ∃ N, l.length = N := ⟨_, rfl⟩
  have HN := Lib.hid hlN
  rw [hlN] at hl
  rw [hlN]
  clear hT hS hlN hls
  have hz := zHit_run
  go_enter Tryd.func4, Tryd.ntmps4
  go_wp2_with fail
  refine HW.out.mono ?_
  rintro e W1 ⟨rfl, hup⟩
  have H1 := Lib.hid hup
  clear hup HW
  by_cases hN1 : N < 1
  · go_wp2_with fail
    go_ret
    exact ⟨rfl, H1.out⟩
  · by_cases hN8 : 8 < N
    · go_wp2_with fail
      go_ret
      exact ⟨rfl, H1.out⟩
    · by_cases hbig : 1000 < s.size
      · go_wp2_with fail
        go_ret
        exact ⟨rfl, H1.out⟩
      · have hN2 : ¬ (N : Int) < 1 := by omega
        have hN9 : ¬ (8 : Int) < N := by omega
        have hbig2 : ¬ (1000 : Int) < s.size := by omega
        have H2 : Hid (Below w.heap.size w W1 ∧ W1.ownsRow w.heap.size TPat 2 (.slice none 0 0) 0 (patsC (litP (l.take 0))) ∧ ∀ s ∈ l.take 0, 1 ≤ s.size ∧ s.size ≤ 64) := Lib.hid ⟨H1.out, ⟨rfl, .inl ⟨rfl, rfl⟩⟩, fun s h => (by cases h)⟩
        obtain ⟨i0, hin, hz0, hz1, hz2⟩ := info_parts info_pat
        have HIN := Lib.hid (And.intro hin (And.intro hz0 (And.intro hz1 hz2)))
        clear hin hz0 hz1 hz2 H1
        go_upto_region 7 with (fail)
        go_loopg [6, 5] (N + 1) (fun k v6 v5 wr => ∃ i : Nat, v6 = .int .i64 i ∧ i ≤ N ∧ N + 1 - i ≤ k ∧ Hid (Below w.heap.size w wr ∧ wr.ownsRow w.heap.size TPat 2 v5 i (patsC (litP (l.take i))) ∧ ∀ s ∈ l.take i, 1 ≤ s.size ∧ s.size ≤ 64))
        case atStart => exact ⟨0, rfl, by omega, by omega, H2⟩
        case round =>
          clear H2
          obtain ⟨i, rfl, hi, hik, HX⟩ := hrel
          have hi0 : (0 : Int) ≤ i := by omega
          by_cases hlt : i < N
          · have hlt1 : (i : Int) < N := by omega
            obtain ⟨x, hx⟩ : ∃ x, l[i]? = some x := ⟨_, List.getElem?_eq_getElem (by rw [HN.out]; exact hlt)⟩
            obtain ⟨ad, rfl, k0⟩ := (HA.out.on HX.out.1).at' i x hx
            have HXX := Lib.hid hx
            have hxs := HLS.out x (List.mem_of_getElem? hx)
            clear hx
            by_cases hx1 : x.size < 1
            · have hx11 : (x.size : Int) < 1 := by omega
              go_wp2_with fail
              go_ret
              exact ⟨rfl, HX.out.1⟩
            · by_cases hx2 : 64 < x.size
              · have hx11 : ¬ (x.size : Int) < 1 := by omega
                have hx12 : (64 : Int) < x.size := by omega
                go_wp2_with fail
                go_ret
                exact ⟨rfl, HX.out.1⟩
              · have hx11 : ¬ (x.size : Int) < 1 := by omega
                have hx12 : ¬ (64 : Int) < x.size := by omega
                have hn3 := heap_alloc_new wr (.cells #[.int .i64 1, .string x] TPat)
                have HOW := Lib.hid (own_keep (w' := wr.alloc (.cells #[.int .i64 1, .string x] TPat)) HX.out.2.1 fun g hg => heap_alloc_old wr _ (HX.out.2.1.lt g hg).2)
                have HBS : Hid (w.heap.size ≤ (wr.alloc (.cells #[.int .i64 1, .string x] TPat)).heap.size) := Lib.hid (by rw [World.size_alloc]; have := HX.out.1.size; omega)
                obtain ⟨hin, hz0, hz1, hz2⟩ := HIN.out
                go_wp2_with (at_builtin; go_loud (refine wpList_append_lies _ rfl _ _ 22 rfl w.heap.size TPat i0 _ 2 24 Tryd.underlying22 hin hz0 hz1 hz2 rfl (by decide) u5 i _ rfl HOW.out ⟨wr.heap.size, 0, none⟩ 1 1 [.int .i64 1, .string x] rfl rfl (World.news_of_block hn3) (by simp [Value.oneCell']) (by decide) (by unfold maxLen; omega) (by omega) HBS.out _ rfl ?_; intro g cap w3 hown hgrow hat hlt3))
                have HNX : Hid (Below w.heap.size w w3 ∧ w3.ownsRow w.heap.size TPat 2 (.slice (some ⟨g, 0, none⟩) (i + 1) cap) (i + 1) (patsC (litP (l.take (i + 1)))) ∧ ∀ s ∈ l.take (i + 1), 1 ≤ s.size ∧ s.size ≤ 64) := Lib.hid ⟨⟨hgrow.os.trans HX.out.1.os, hgrow.tape.trans HX.out.1.tape, hgrow.output.trans HX.out.1.output, by have h1 := hgrow.size; have h2 := HX.out.1.size; rw [World.size_alloc] at h1; omega, fun k hk => ((hgrow.block k (by rw [World.size_alloc]; have := HX.out.1.size; omega) (fun e => by have := (HX.out.2.1.lt k e.symm).1; omega)).trans (heap_alloc_old wr _ (Nat.lt_of_lt_of_le hk HX.out.1.size))).trans (HX.out.1.block k hk)⟩, by
                  rw [take_snocS HXX.out]
                  show w3.ownsRow w.heap.size TPat 2 (.slice (some ⟨g, 0, none⟩) (i + 1) cap) (i + 1) (patsC ((l.take i ++ [x]).map fun s => (⟨1, s⟩ : Pat)))
                  rw [List.map_append, List.map_singleton, patsC_snoc]
                  exact hown, fun s hs => by
                  rw [take_snocS HXX.out] at hs
                  rcases List.mem_append.1 hs with hs | hs
                  · exact HX.out.2.2 s hs
                  · rw [List.mem_singleton.1 hs]; omega⟩
                clear hown hgrow hat hlt3 HOW HBS hn3 hin hz0 hz1 hz2 HX
                go_roundg (gk - 1)
                case measure => omega
                case rel => exact ⟨i + 1, by go_num, by omega, by omega, HNX⟩
          · obtain rfl : i = N := by omega
            have htk : l.take i = l := List.take_of_length_le (by rw [HN.out]; exact Nat.le_refl _)
            obtain ⟨A5, c5, hv, hp, hc5, hcm⟩ := pats_own HX.out.2.1 (fun p hp => by
              obtain ⟨b, hb, rfl⟩ := List.mem_map.1 hp
              have := HX.out.2.2 b hb
              show b.size ≤ _
              omega)
            rw [htk] at hp
            have HL := Lib.hid (show ∀ s ∈ l, 1 ≤ s.size ∧ s.size ≤ 64 from by have := HX.out.2.2; rw [htk] at this; exact this)
            have HU := Lib.hid (And.intro HX.out.1 hp)
            subst hv
            clear hp HX htk
            have hlen : (litP l).length = i := by unfold litP; rw [List.length_map]; exact HN.out
            have HFR := Lib.hid (first_any A5 c5 (litP l) s wr HU.out.2 (tab_on HT.out HU.out.1) (by rw [hlen]; omega) (by omega))
            rw [hlen] at HFR
            clear hlen
            go_wp2_with fail
            refine HFR.out.mono ?_
            rintro e W2 ⟨hup, (⟨hno, _⟩ | ⟨_, ts, hts, he⟩)⟩
            · exact absurd (lit_may HL.out (by rw [HN.out]; omega) (by rw [HN.out]; omega)) hno
            · rw [hts.one (lit_trees HL.out)] at he
              obtain ⟨ok, a, p, e', he2, hok⟩ : ∃ (ok : Bool) (a p e' : Nat), e = .returned (.tuple #[.agg #[.int .i64 a, .int .i64 p, .int .i64 e'], .bool ok]) ∧ (first ((litB l).map litT) s.data.toList = if ok = true then some (a, p, e') else none) ∧ (ok = false → a = 0 ∧ p = 0 ∧ e' = 0) := by
                cases hf : first ((litB l).map litT) s.data.toList with
                | none => rw [hf] at he; exact ⟨false, 0, 0, 0, he, rfl, fun _ => ⟨rfl, rfl, rfl⟩⟩
                | some f => obtain ⟨a, p, e'⟩ := f; rw [hf] at he; exact ⟨true, a, p, e', he, rfl, fun h => by cases h⟩
              subst he2
              have hb := below_new W2 (.cells #[.int .i64 a, .int .i64 p, .int .i64 e'] THit)
              have HX3 := Lib.hid (And.intro (below_then (below_then HU.out.1 hup (Nat.le_refl _)) hb (Nat.le_refl _)) (And.intro (heap_alloc_new W2 (.cells #[.int .i64 a, .int .i64 p, .int .i64 e'] THit)) hok))
              clear he hts hup hb HFR HU hok
              go_upto_region 14 with (fail)
              change Code.wp _ _ _ _ (W2.alloc (.cells #[.int .i64 a, .int .i64 p, .int .i64 e'] THit))
              generalize W2.alloc (.cells #[.int .i64 a, .int .i64 p, .int .i64 e'] THit) = W3 at *
              obtain ⟨b1, hb1⟩ : ∃ b1, W2.heap.size = b1 := ⟨_, rfl⟩
              rw [hb1] at HX3 ⊢
              clear hb1
              have hs1000 : s.size ≤ 1000 := by omega
              have hq := eq_hit
              go_loopg [9] (s.size + 2) (fun k v9 wq => ∃ te : Nat, v9 = .int .i64 te ∧ 1 ≤ te ∧ te ≤ s.size + 1 ∧ s.size + 2 - te ≤ k ∧ Hid (NoneTo (litB l) s.data.toList te) ∧ Hid (Below w.heap.size w wq ∧ wq.heap[b1]? = some (.cells #[.int .i64 a, .int .i64 p, .int .i64 e'] THit (0, 0))))
              case atStart => exact ⟨1, rfl, by omega, by omega, by omega, Lib.hid (fun e h1 h2 => by omega), Lib.hid ⟨HX3.out.1, HX3.out.2.1⟩⟩
              case round =>
                obtain ⟨te, rfl, ht1, hts, htk, HNT, HX⟩ := hrel
                by_cases htl : te ≤ s.size
                · have htl1 : (te : Int) ≤ s.size := by omega
                  obtain ⟨g0, hg0⟩ : ∃ g0, g0 = gk := ⟨_, rfl⟩
                  subst hg0
                  go_upto_region 17 with (fail)
                  go_loopg [10] (i + 1) (fun k v10 wq => ∃ j : Nat, v10 = .int .i64 j ∧ j ≤ i ∧ i + 1 - j ≤ k ∧ Hid (∀ (j' : Nat) s', j' < j → (litB l)[j']? = some s' → ¬ tailIs s' (s.data.toList.take te)) ∧ Hid (Below w.heap.size w wq ∧ wq.heap[b1]? = some (.cells #[.int .i64 a, .int .i64 p, .int .i64 e'] THit (0, 0))))
                  case atStart => exact ⟨0, rfl, by omega, by omega, Lib.hid (fun j' s' h => absurd h (Nat.not_lt_zero _)), HX⟩
                  case round =>
                    clear HX
                    obtain ⟨j, rfl, hj, hjk, HNJ, HX⟩ := hrel
                    have hj0 : (0 : Int) ≤ j := by omega
                    by_cases hjl : j < i
                    · have hjl1 : (j : Int) < i := by omega
                      obtain ⟨x, hx⟩ : ∃ x, l[j]? = some x := ⟨_, List.getElem?_eq_getElem (by rw [HN.out]; exact hjl)⟩
                      obtain ⟨ad, rfl, k0⟩ := (HA.out.on HX.out.1).at' j x hx
                      obtain ⟨hx1, hx2⟩ := HL.out x (List.mem_of_getElem? hx)
                      have HXX := Lib.hid hx
                      clear hx
                      by_cases hxt : x.size ≤ te
                      · obtain ⟨f, hf⟩ : ∃ f, te = f + x.size := ⟨te - x.size, by omega⟩
                        subst hf
                        have hx0 : (litB l)[j]? = some x.data.toList := by unfold litB; rw [List.getElem?_map, HXX.out]; rfl
                        have hee0 := ends_ext (s := s) (x := x) (te := f + x.size) htl (by omega)
                        rw [Nat.add_sub_cancel] at hee0
                        have hf0 : (0 : Int) ≤ f := by omega
                        have hf1 : f ≤ f + x.size := by omega
                        have hd0 : decide ((0 : Int) ≤ f) = true := decide_eq_true hf0
                        by_cases hee : (s.extract f (f + x.size)).toList = x.toList
                        · have hfst := lit_found (litB_words HL.out) ht1 htl HNT.out hx0 HNJ.out (hee0.2 hee)
                          obtain ⟨rfl, rfl, rfl, rfl⟩ : ok = true ∧ a = j ∧ p = f ∧ e' = f + x.size := by
                            have h := HX3.out.2.2.1
                            rw [hfst] at h
                            cases ok with
                            | false => cases h
                            | true =>
                              simp only [if_true, Option.some.injEq, Prod.mk.injEq] at h
                              obtain ⟨h1, h2, h3⟩ := h
                              have hxl : x.data.toList.length = x.size := rfl
                              rw [hxl] at h2
                              exact ⟨rfl, h1.symm, by omega, h3.symm⟩
                          have heq : ((s.extract p (p + x.size)).toList == x.toList) = true := by rw [hee]; simp
                          clear hee0 hx0 hfst hee
                          go_upto_region 20 with (fail)
                          go_quiet (fail)
                          have HX2 : Hid (Below w.heap.size w (wr.drewN nq) ∧ (wr.drewN nq).heap[b1]? = some (.cells #[.int .i64 a, .int .i64 p, .int .i64 (p + x.size : Nat)] THit (0, 0))) := Lib.hid ⟨HX.out.1.trans (below_drew _ wr nq), HX.out.2⟩
                          have c0 : (wr.drewN nq).cell? ⟨b1, 0, none⟩ = some (.int .i64 a) := by rw [cell_of_row _ _ _ _ _ _ HX2.out.2]; rfl
                          have c1 : (wr.drewN nq).cell? ⟨b1, 1, none⟩ = some (.int .i64 p) := by rw [cell_of_row _ _ _ _ _ _ HX2.out.2]; rfl
                          have c2 : (wr.drewN nq).cell? ⟨b1, 2, none⟩ = some (.int .i64 (p + x.size : Nat)) := by rw [cell_of_row _ _ _ _ _ _ HX2.out.2]; rfl
                          clear HX HNJ k0
                          go_wp2_with fail
                          go_ret
                          exact ⟨by simp, HX2.out.1⟩
                        · have heq : ((s.extract f (f + x.size)).toList == x.toList) = false := by simpa using hee
                          have HNJ2 : Hid (∀ (j' : Nat) s', j' < j + 1 → (litB l)[j']? = some s' → ¬ tailIs s' (s.data.toList.take (f + x.size))) := Lib.hid (fun j' s' hj' hs' => by
                            by_cases e : j' < j
                            · exact HNJ.out j' s' e hs'
                            · obtain rfl : j' = j := by omega
                              rw [hx0] at hs'; cases hs'
                              exact fun h => hee (hee0.1 h))
                          clear hee0 hx0 hee
                          go_upto_region 20 with (fail)
                          go_quiet (fail)
                          have HX2 : Hid (Below w.heap.size w (wr.drewN nq) ∧ (wr.drewN nq).heap[b1]? = some (.cells #[.int .i64 a, .int .i64 p, .int .i64 e'] THit (0, 0))) := Lib.hid ⟨HX.out.1.trans (below_drew _ wr nq), HX.out.2⟩
                          clear HX HNJ k0
                          go_wp2_with fail
                          go_roundg (gk - 1)
                          case measure => omega
                          case rel => exact ⟨j + 1, by go_num, by omega, by omega, HNJ2, HX2⟩
                      · have hxt1 : ¬ (0 : Int) ≤ (te : Int) - x.size := by omega
                        have hd0 : decide ((0 : Int) ≤ (te : Int) - x.size) = false := decide_eq_false hxt1
                        have hx0 : (litB l)[j]? = some x.data.toList := by unfold litB; rw [List.getElem?_map, HXX.out]; rfl
                        have HNJ2 : Hid (∀ (j' : Nat) s', j' < j + 1 → (litB l)[j']? = some s' → ¬ tailIs s' (s.data.toList.take te)) := Lib.hid (fun j' s' hj' hs' => by
                          by_cases e : j' < j
                          · exact HNJ.out j' s' e hs'
                          · obtain rfl : j' = j := by omega
                            rw [hx0] at hs'; cases hs'
                            intro h
                            have h1 := h.1
                            rw [List.length_take] at h1
                            have hxl : x.data.toList.length = x.size := rfl
                            omega)
                        clear hx0
                        go_upto_region 20 with (fail)
                        go_quiet (fail)
                        have HX2 : Hid (Below w.heap.size w (wr.drewN nq) ∧ (wr.drewN nq).heap[b1]? = some (.cells #[.int .i64 a, .int .i64 p, .int .i64 e'] THit (0, 0))) := Lib.hid ⟨HX.out.1.trans (below_drew _ wr nq), HX.out.2⟩
                        clear HX HNJ k0
                        go_wp2_with fail
                        go_roundg (gk - 1)
                        case measure => omega
                        case rel => exact ⟨j + 1, by go_num, by omega, by omega, HNJ2, HX2⟩
                    · obtain rfl : j = i := by omega
                      have HNT2 : Hid (NoneTo (litB l) s.data.toList (te + 1)) := Lib.hid (fun e h1 h2 k s' hk => by
                        by_cases h3 : e < te
                        · exact HNT.out e h1 h3 k s' hk
                        · obtain rfl : e = te := by omega
                          have hkl := (List.getElem?_eq_some_iff.1 hk).1
                          have hll : (litB l).length = j := by unfold litB; rw [List.length_map]; exact HN.out
                          exact HNJ.out k s' (by omega) hk)
                      clear HNJ
                      go_wp2_with fail
                      go_roundg (g0 - 1)
                      case measure => omega
                      case rel => exact ⟨te + 1, by go_num, by omega, by omega, by omega, HNT2, HX⟩
                · obtain rfl : te = s.size + 1 := by omega
                  have hfst := lit_none (litB_words HL.out) (s := s.data.toList) HNT.out
                  obtain ⟨rfl, rfl, rfl, rfl⟩ : ok = false ∧ a = 0 ∧ p = 0 ∧ e' = 0 := by
                    have h := HX3.out.2.2.1
                    rw [hfst] at h
                    cases ok with
                    | true => cases h
                    | false =>
                      obtain ⟨h1, h2, h3⟩ := HX3.out.2.2.2 rfl
                      exact ⟨rfl, h1, h2, h3⟩
                  have htl1 : ¬ ((s.size + 1 : Nat) : Int) ≤ s.size := by omega
                  have c0 : wr.cell? ⟨b1, 0, none⟩ = some (.int .i64 0) := by rw [cell_of_row _ _ _ _ _ _ HX.out.2]; rfl
                  have c1 : wr.cell? ⟨b1, 1, none⟩ = some (.int .i64 0) := by rw [cell_of_row _ _ _ _ _ _ HX.out.2]; rfl
                  have c2 : wr.cell? ⟨b1, 2, none⟩ = some (.int .i64 0) := by rw [cell_of_row _ _ _ _ _ _ HX.out.2]; rfl
                  go_wp2_with fail
                  go_ret
                  exact ⟨by simp, HX.out.1⟩
end Go.Proofs.YtfhggnbnbopkkaaDoor
