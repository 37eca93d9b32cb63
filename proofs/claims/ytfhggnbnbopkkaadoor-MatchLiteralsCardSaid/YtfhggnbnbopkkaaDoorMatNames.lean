/- MatchNames: the limits, and the examples at them. -/
import Derived.Test.YtfhggnbnbopkkaaDoorMatFam
import Derived.Test.YtfhggnbnbopkkaaDoorMatNamesMath
import Derived.Test.YtfhggnbnbopkkaaDoorNfaLitMath
namespace Go.Proofs.YtfhggnbnbopkkaaDoor
open Go.RowKit PM

set_option maxRecDepth 100000
/-- patterns in a row that grows -/
def patsC (l : List Pat) : List Value := l.flatMap fun p => [.int .i64 p.kind, .string p.text]
theorem patsC_len (l : List Pat) : (patsC l).length = l.length * 2 := by
  induction l with
  | nil => rfl
  | cons x l ih => rw [show patsC (x :: l) = [.int .i64 x.kind, .string x.text] ++ patsC l from rfl, List.length_append, ih, List.length_cons]; simp; omega
theorem patsC_snoc (l : List Pat) (p : Pat) : patsC (l ++ [p]) = patsC l ++ [.int .i64 p.kind, .string p.text] := by simp [patsC]
theorem patsC_at : ∀ (l : List Pat) (k : Nat) (p : Pat), l[k]? = some p → (patsC l)[k * 2]? = some (.int .i64 p.kind) ∧ (patsC l)[k * 2 + 1]? = some (.string p.text)
  | [], k, p, h => by simp at h
  | y :: l, 0, p, h => by simp at h; subst h; exact ⟨rfl, rfl⟩
  | y :: l, k + 1, p, h => by
    obtain ⟨h1, h2⟩ := patsC_at l k p (by simpa using h)
    rw [show patsC (y :: l) = [.int .i64 y.kind, .string y.text] ++ patsC l from rfl]
    refine ⟨?_, ?_⟩
    · rw [List.getElem?_append_right (by simp; omega), show (k + 1) * 2 - [Value.int IntKind.i64 y.kind, Value.string y.text].length = k * 2 by simp; omega]; exact h1
    · rw [List.getElem?_append_right (by simp; omega), show (k + 1) * 2 + 1 - [Value.int IntKind.i64 y.kind, Value.string y.text].length = k * 2 + 1 by simp; omega]; exact h2
theorem pats_own {w : World} {base n : Nat} {v : Value} {l : List Pat} (h : w.ownsRow base TPat 2 v n (patsC l)) (hs : ∀ p ∈ l, p.text.size ≤ 9223372036854775807) : ∃ A c, v = .slice A n c ∧ PIn w A l ∧ n ≤ c ∧ c ≤ 9223372036854775807 := by
  have hl : l.length = n := by have := h.1; rw [patsC_len] at this; omega
  rcases own_slice h with ⟨hv, h0⟩ | ⟨g, cap, cs, hv, h1, h2, h3, hg⟩
  · refine ⟨none, 0, by rw [hv, h0], ⟨fun k p hk => ?_, hs⟩, by omega, by omega⟩
    have := (List.getElem?_eq_some_iff.1 hk).1
    omega
  · subst hv
    refine ⟨_, cap, rfl, ⟨fun k p hk => ?_, hs⟩, h1, by unfold maxLen at h2; omega⟩
    obtain ⟨e1, e2⟩ := patsC_at l k p hk
    have hk2 := (List.getElem?_eq_some_iff.1 hk).1
    refine ⟨_, rfl, ?_, ?_⟩
    · rw [Addr.add_lit, Nat.zero_add, h.cellAt (k * 2) (by omega)]; exact e1
    · rw [Addr.add_lit, Nat.zero_add, h.cellAt (k * 2 + 1) (by omega)]; exact e2
theorem info_pat : (Tryd.prog.info? TPat).map (fun i => (i.zero, i.size, i.bytes)) = some (some (.agg #[.int .i64 0, .string ByteArray.empty]), 2, 24) := by kernel_rfl
/-- one pattern that was made -/
theorem one_lie (w : World) (k : Int) (s : ByteArray) (hs : s.size ≤ 9223372036854775807) : PIn (w.alloc (.cells #[.int .i64 k, .string s] TPat)) (some ⟨w.heap.size, 0, none⟩) [⟨k, s⟩] :=
  PIn.row (heap_alloc_new w _) (fun j p hp => by
    rcases j with _ | j
    · cases hp; exact ⟨rfl, rfl⟩
    · cases hp) (fun p hp => by rw [List.mem_singleton.1 hp]; exact hs)
def pA : Pat := ⟨1, ⟨#[97]⟩⟩
theorem fine_A : fine pA (one 97) := ⟨by rfl, by show emptyT (.mk 2 _ []) = false; rw [emptyT_mk]; rfl⟩
theorem may_8 : May (List.replicate 8 pA) := ⟨by decide, fun p hp => by rw [(List.mem_replicate.1 hp).2]; exact ⟨_, fine_A⟩⟩
theorem not_star : ¬ May [⟨3, ⟨#[97, 42]⟩⟩] := fun h => by
  obtain ⟨t, h1, h2⟩ := h.2 _ (List.mem_singleton.2 rfl)
  have h3 : tree 3 [97, 42] = .ok (over 5 (one 97)) := by rfl
  rw [show (⟨#[97, 42]⟩ : ByteArray).data.toList = [97, 42] from rfl, h3] at h1
  cases h1
  rw [show over 5 (one 97) = .mk 5 noSet [one 97] from rfl, emptyT_mk] at h2
  simp at h2
theorem trees_G : Trees [⟨2, ⟨#[97, 42, 122]⟩⟩] [tG] := ⟨rfl, fun k p t hp ht => by
  rcases k with _ | k
  · cases hp; cases ht
    refine ⟨by rfl, ?_⟩
    show emptyT (.mk 3 noSet [one 97, over 5 every, one 122]) = false
    rw [emptyT_mk]
    simp only [show ¬ (3 = 1 ∨ 3 = 5 ∨ 3 = 7) by decide, if_false, show ¬ (3 = 6) by decide, if_true, List.all_cons]
    have : emptyT (one 97) = false := by show emptyT (.mk 2 _ []) = false; rw [emptyT_mk]; rfl
    rw [this]; rfl
  · cases hp⟩
theorem may_G : May [⟨2, ⟨#[97, 42, 122]⟩⟩] := ⟨by decide, fun p hp => by rw [List.mem_singleton.1 hp]; exact ⟨_, trees_G.2 0 _ _ rfl rfl⟩⟩
theorem Fam.fed {w W w' : World} {L : List MS} {i : Nat} {m : MS} {s : List UInt8} {e : Ending} (h : Fam w W L) (hi : L[i]? = some m) (hf : FeedIs m.x m.arms m.K m.R m.bv s W e w') : e = feedV (feed (trees m.arms) m.K s) ∧ ∃ R' bv', Fam w w' (L.set i ⟨m.x, m.arms, (feed (trees m.arms) m.K s).2.2, R', bv'⟩) := by
  obtain ⟨h1, h2, R', bv', h3, h4⟩ := hf
  exact ⟨h1, R', bv', h.turn hi h2 h3 (feed_short (h.ma i m hi).2.1) h4⟩
theorem xs_snoc (n : Nat) : xs n ++ [120] = xs (n + 1) := by unfold xs; rw [List.replicate_succ']
theorem names_hitS {S : ByteArray} (hS : S.data.toList = 97 :: xs 254) : feed [tG] [] (S ++ (⟨#[122]⟩ : ByteArray)).data.toList = (256, some (0, 0, 256), []) := by
  rw [ByteArray.data_append, Array.toList_append, hS]
  exact names_hit
theorem xs_two (n : Nat) : 97 :: xs n ++ [120, 122] = 97 :: xs (n + 1) ++ [122] := by
  rw [← xs_snoc]
  simp
theorem names_missS {S : ByteArray} (hS : S.data.toList = 97 :: xs 254) : ∃ K, feed [tG] [] (S ++ (⟨#[120, 122]⟩ : ByteArray)).data.toList = (257, none, K) ∧ K.length = 256 := by
  rw [ByteArray.data_append, Array.toList_append, hS, show (⟨#[120, 122]⟩ : ByteArray).data.toList = [120, 122] from rfl, xs_two]
  have h : ∀ p : Nat × Option (Nat × Nat × Nat) × List UInt8, p.1 = 257 ∧ p.2.1 = none ∧ p.2.2.length = 256 → ∃ K, p = (257, none, K) ∧ K.length = 256 := by
    rintro ⟨a, b, c⟩ ⟨rfl, rfl, h⟩
    exact ⟨c, rfl, h⟩
  exact h _ names_miss
set_option maxHeartbeats 8000000 in
theorem matchNames_walk (w : World) (hT : Tab w) :
    Calls Tryd.prog 11 #[] w fun e w' => e = .returned (.bool true) ∧ Below w.heap.size w w' := by
  have HW := Lib.hid (works_any w hT)
  have HT := Lib.hid hT
  clear hT
  have hz := zHit_run
  go_enter Tryd.func11, Tryd.ntmps11
  go_wp2_with fail
  refine HW.out.mono ?_
  rintro e W1 ⟨rfl, hup⟩
  have H1 : Hid (Below w.heap.size w W1 ∧ W1.ownsRow w.heap.size TPat 2 (.slice none 0 0) 0 (patsC (List.replicate 0 pA))) := Lib.hid ⟨hup, rfl, .inl ⟨rfl, rfl⟩⟩
  clear hup HW
  obtain ⟨i0, hin, hz0, hz1, hz2⟩ := info_parts info_pat
  have HIN := Lib.hid (And.intro hin (And.intro hz0 (And.intro hz1 hz2)))
  clear hin hz0 hz1 hz2
  go_upto_region 5 with (fail)
  go_loopg [2, 1] 10 (fun k v2 v1 wr => ∃ i : Nat, v2 = .int .i64 i ∧ i ≤ 9 ∧ 10 - i ≤ k ∧ Hid (Below w.heap.size w wr ∧ wr.ownsRow w.heap.size TPat 2 v1 i (patsC (List.replicate i pA))))
  case atStart => exact ⟨0, rfl, by omega, by omega, H1⟩
  case round =>
    clear H1
    obtain ⟨i, rfl, hi, hik, HX⟩ := hrel
    have hi0 : (0 : Int) ≤ i := by omega
    by_cases hlt : i < 9
    · have hlt1 : (i : Int) < 9 := by omega
      have hn3 := heap_alloc_new wr (.cells #[.int .i64 1, .string ⟨#[97]⟩] TPat)
      have HOW := Lib.hid (own_keep (w' := wr.alloc (.cells #[.int .i64 1, .string ⟨#[97]⟩] TPat)) HX.out.2 fun g hg => heap_alloc_old wr _ (HX.out.2.lt g hg).2)
      have HBS : Hid (w.heap.size ≤ (wr.alloc (.cells #[.int .i64 1, .string ⟨#[97]⟩] TPat)).heap.size) := Lib.hid (by rw [World.size_alloc]; have := HX.out.1.size; omega)
      obtain ⟨hin, hz0, hz1, hz2⟩ := HIN.out
      go_wp2_with (at_builtin; go_loud (refine wpList_append_lies _ rfl _ _ 22 rfl w.heap.size TPat i0 _ 2 24 Tryd.underlying22 hin hz0 hz1 hz2 rfl (by decide) u1 i _ rfl HOW.out ⟨wr.heap.size, 0, none⟩ 1 1 [.int .i64 1, .string ⟨#[97]⟩] rfl rfl (World.news_of_block hn3) (by simp [Value.oneCell']) (by decide) (by unfold maxLen; omega) (by omega) HBS.out _ rfl ?_; intro g cap w3 hown hgrow hat hlt3))
      have HN : Hid (Below w.heap.size w w3 ∧ w3.ownsRow w.heap.size TPat 2 (.slice (some ⟨g, 0, none⟩) (i + 1) cap) (i + 1) (patsC (List.replicate (i + 1) pA))) := Lib.hid ⟨⟨hgrow.os.trans HX.out.1.os, hgrow.tape.trans HX.out.1.tape, hgrow.output.trans HX.out.1.output, by have h1 := hgrow.size; have h2 := HX.out.1.size; rw [World.size_alloc] at h1; omega, fun k hk => ((hgrow.block k (by rw [World.size_alloc]; have := HX.out.1.size; omega) (fun e => by have := (HX.out.2.lt k e.symm).1; omega)).trans (heap_alloc_old wr _ (Nat.lt_of_lt_of_le hk HX.out.1.size))).trans (HX.out.1.block k hk)⟩, by rw [List.replicate_succ', patsC_snoc]; exact hown⟩
      clear hown hgrow hat hlt3 HOW HBS hn3 hin hz0 hz1 hz2 HX
      go_roundg (gk - 1)
      case measure => omega
      case rel => exact ⟨i + 1, by go_num, by omega, by omega, HN⟩
    · obtain rfl : i = 9 := by omega
      obtain ⟨A, c, hv, hp, hc9, hcm⟩ := pats_own HX.out.2 (fun p hp => by rw [(List.mem_replicate.1 hp).2]; decide)
      have HU := Lib.hid (And.intro HX.out.1 hp)
      subst hv
      clear hp HX
      have HN1 := Lib.hid (new_any A c (List.replicate 9 pA) wr HU.out.2 (tab_on HT.out HU.out.1) (by decide))
      rw [List.length_replicate] at HN1
      go_wp2_with fail
      refine HN1.out.mono ?_
      rintro e W2 (⟨_, rfl, hup⟩ | ⟨hmay, _⟩)
      · have H2 := Lib.hid (And.intro (below_then HU.out.1 hup (Nat.le_refl _)) (HU.out.2.on hup))
        clear hup HN1 HU
        have h8 : (8 : Int) ≤ c := by omega
        have HN2 := Lib.hid (new_any A c (List.replicate 8 pA) W2 (H2.out.2.take 8) (tab_on HT.out H2.out.1) (by decide))
        rw [List.length_replicate] at HN2
        go_wp2_with fail
        refine HN2.out.mono ?_
        rintro e W3 (⟨hno, _⟩ | ⟨_, x, arms, R, rfl, _, _, hup, _⟩)
        · exact absurd may_8 hno
        · have H3 := Lib.hid (below_then H2.out.1 hup (Nat.le_refl _))
          clear hup HN2 H2
          have HN3 := Lib.hid (new_any none 0 [] W3 ⟨fun k p h => (by simp at h), fun p h => (by cases h)⟩ (tab_on HT.out H3.out) (by decide))
          rw [List.length_nil] at HN3
          go_wp2_with fail
          refine HN3.out.mono ?_
          rintro e W4 (⟨_, rfl, hup⟩ | ⟨hmay, _⟩)
          · have hb := below_new W4 (.cells #[.int .i64 3, .string ⟨#[97, 42]⟩] TPat)
            have H4 := Lib.hid (below_then (below_then H3.out hup (Nat.le_refl _)) hb (Nat.le_refl _))
            have HN4 := Lib.hid (new_any (some ⟨W4.heap.size, 0, none⟩) 1 [⟨3, ⟨#[97, 42]⟩⟩] _ (one_lie W4 3 ⟨#[97, 42]⟩ (by decide)) (tab_on HT.out H4.out) (by decide))
            rw [List.length_singleton] at HN4
            clear hup hb HN3 H3
            go_wp2_with fail
            refine HN4.out.mono ?_
            rintro e W5 (⟨_, rfl, hup⟩ | ⟨hmay, _⟩)
            · have hb := below_new W5 (.cells #[.int .i64 2, .string ⟨#[97, 42, 122]⟩] TPat)
              have H5 := Lib.hid (below_then (below_then H4.out hup (Nat.le_refl _)) hb (Nat.le_refl _))
              have HN5 := Lib.hid (new_any (some ⟨W5.heap.size, 0, none⟩) 1 [⟨2, ⟨#[97, 42, 122]⟩⟩] _ (one_lie W5 2 ⟨#[97, 42, 122]⟩ (by decide)) (tab_on HT.out H5.out) (by decide))
              rw [List.length_singleton] at HN5
              clear hup hb HN4 H4
              go_wp2_with fail
              refine HN5.out.mono ?_
              rintro e W6 (⟨hno, _⟩ | ⟨_, x, arms, R, rfl, hma, htr, hup, hge⟩)
              · exact absurd may_G hno
              · have htt := htr.one trees_G
                have HFM : Hid (Fam w W6 ([] ++ [⟨x, arms, [], R, .slice none 0 0⟩])) := Lib.hid (Fam.add ⟨H5.out, fun i m h => (by simp at h), fun i j m m' k h => (by simp at h)⟩ hup hma (Nat.zero_le _) hge)
                have HTT := Lib.hid htt
                have harms : 0 < arms.length := by
                  have := congrArg List.length htt
                  rw [List.length_map] at this
                  rw [this]; decide
                clear hma htr hup hge htt HN5 H5
                go_upto_region 17 with (fail)
                go_loopg [14, 13] 255 (fun k v14 v13 wr => ∃ (i : Nat) (S : ByteArray), v14 = .int .i64 i ∧ v13 = .string S ∧ i ≤ 254 ∧ 255 - i ≤ k ∧ S.size = i + 1 ∧ Hid (S.data.toList = 97 :: xs i) ∧ wr = W6)
                case atStart => exact ⟨0, ⟨#[97]⟩, rfl, rfl, by omega, by omega, rfl, Lib.hid rfl, rfl⟩
                case round =>
                  obtain ⟨i, S, rfl, rfl, hi, hik, hSz, HS, rfl⟩ := hrel
                  have hi0 : (0 : Int) ≤ i := by omega
                  by_cases hlt : i < 254
                  · have hlt1 : (i : Int) < 254 := by omega
                    have HS2 : Hid ((S ++ (⟨#[120]⟩ : ByteArray)).data.toList = 97 :: xs (i + 1)) := Lib.hid (by rw [ByteArray.data_append, Array.toList_append, HS.out, ← xs_snoc]; rfl)
                    have hsz2 : (S ++ (⟨#[120]⟩ : ByteArray)).size = i + 1 + 1 := by rw [ByteArray.size_append, hSz]; rfl
                    have hSl : S.size ≤ 1000 := by omega
                    clear HS hSz
                    go_wp2_with fail
                    go_roundg (gk - 1)
                    case measure => omega
                    case rel => exact ⟨i + 1, _, by go_num, rfl, by omega, by omega, hsz2, HS2, rfl⟩
                  · obtain rfl : i = 254 := by omega
                    have hx := HFM.out.ma 0 _ rfl
                    have HCP := Lib.hid (mcopy_any x arms [] [] R (.slice none 0 0) wr hx.1 harms (Nat.zero_le _) (Nat.zero_le _))
                    clear hx
                    have hSl : S.size ≤ 1000 := by omega
                    have HSZ := Lib.hid hSz
                    clear hSz
                    go_wp2_with fail
                    refine HCP.out.mono ?_
                    rintro e W7 ⟨v, Rv, bvv, rfl, hma, hup, hge⟩
                    have HF7 : Hid (Fam w W7 [⟨x, arms, [], R, .slice none 0 0⟩, ⟨v, arms, [], Rv, bvv⟩]) := Lib.hid (HFM.out.add (m := ⟨v, arms, [], Rv, bvv⟩) hup hma (Nat.zero_le _) hge)
                    clear hma hup hge HCP HFM
                    have HFD := Lib.hid (feed_any x arms [] R (.slice none 0 0) (S ++ (⟨#[122]⟩ : ByteArray)) W7 (HF7.out.ma 0 _ rfl).1 (Nat.zero_le _) (by rw [ByteArray.size_append]; show S.size + 1 ≤ _; omega))
                    go_wp2_with fail
                    refine HFD.out.mono ?_
                    intro e W8 hfi
                    obtain ⟨he, R8, bv8, hF⟩ := HF7.out.fed (i := 0) rfl hfi
                    rw [show trees (MS.arms ⟨x, arms, [], R, .slice none 0 0⟩) = [tG] from HTT.out, show MS.K ⟨x, arms, [], R, .slice none 0 0⟩ = [] from rfl, names_hitS HS.out] at he hF
                    have he2 : e = .returned (.tuple #[.int .i64 256, .agg #[.int .i64 0, .int .i64 0, .int .i64 256], .bool true]) := he
                    subst he2
                    have hb8 := below_new W8 (.cells #[.int .i64 0, .int .i64 0, .int .i64 256] THit)
                    have HF8 : Hid (Fam w (W8.alloc (.cells #[.int .i64 0, .int .i64 0, .int .i64 256] THit)) [⟨x, arms, [], R8, bv8⟩, ⟨v, arms, [], Rv, bvv⟩]) := Lib.hid (hF.on hb8)
                    have HBX := Lib.hid (heap_alloc_new W8 (.cells #[.int .i64 0, .int .i64 0, .int .i64 256] THit))
                    clear he hfi hF hb8 HFD HF7
                    go_upto_region 22 with (fail)
                    change Code.wp _ _ _ _ (W8.alloc (.cells #[.int .i64 0, .int .i64 0, .int .i64 256] THit))
                    generalize W8.alloc (.cells #[.int .i64 0, .int .i64 0, .int .i64 256] THit) = W9 at *
                    obtain ⟨b1, hb1⟩ : ∃ b1, W8.heap.size = b1 := ⟨_, rfl⟩
                    rw [hb1] at HBX ⊢
                    clear hb1
                    have HFD := Lib.hid (feed_any v arms [] Rv bvv (S ++ (⟨#[120, 122]⟩ : ByteArray)) W9 (HF8.out.ma 1 _ rfl).1 (Nat.zero_le _) (by rw [ByteArray.size_append]; show S.size + 2 ≤ _; omega))
                    go_wp2_with fail
                    refine HFD.out.mono ?_
                    intro e W10 hfi
                    have hkeep : W10.heap[b1]? = some (.cells #[.int .i64 0, .int .i64 0, .int .i64 256] THit (0, 0)) := (hfi.2.1.block b1 (lt_of_block HBX.out) ((HF8.out.ma 1 _ rfl).1.not HBX.out hit_ty)).trans HBX.out
                    obtain ⟨he, R10, bv10, hF⟩ := HF8.out.fed (i := 1) rfl hfi
                    obtain ⟨K, hfeed, hKl⟩ := names_missS HS.out
                    rw [show trees (MS.arms ⟨v, arms, [], Rv, bvv⟩) = [tG] from HTT.out, show MS.K ⟨v, arms, [], Rv, bvv⟩ = [] from rfl, hfeed] at he hF
                    have he2 : e = .returned (.tuple #[.int .i64 257, .agg #[.int .i64 0, .int .i64 0, .int .i64 0], .bool false]) := he
                    subst he2
                    have hb8 := below_new W10 (.cells #[.int .i64 0, .int .i64 0, .int .i64 0] THit)
                    have HF10 : Hid (Fam w (W10.alloc (.cells #[.int .i64 0, .int .i64 0, .int .i64 0] THit)) [⟨x, arms, [], R8, bv8⟩, ⟨v, arms, K, R10, bv10⟩]) := Lib.hid (hF.on hb8)
                    have HBX2 := Lib.hid (And.intro ((hb8.block b1 (lt_of_block hkeep)).trans hkeep) (heap_alloc_new W10 (.cells #[.int .i64 0, .int .i64 0, .int .i64 0] THit)))
                    clear he hfi hF hb8 HFD HF8 hkeep HBX hfeed HS
                    go_upto_region 23 with (fail)
                    change Code.wp _ _ _ _ (W10.alloc (.cells #[.int .i64 0, .int .i64 0, .int .i64 0] THit))
                    generalize W10.alloc (.cells #[.int .i64 0, .int .i64 0, .int .i64 0] THit) = W11 at *
                    obtain ⟨b2, hb2⟩ : ∃ b2, W10.heap.size = b2 := ⟨_, rfl⟩
                    rw [hb2] at HBX2 ⊢
                    clear hb2
                    have c0 : W11.cell? ⟨b1, 0, none⟩ = some (.int .i64 0) := by rw [cell_of_row _ _ _ _ _ _ HBX2.out.1]; rfl
                    have c1 : W11.cell? ⟨b1, 1, none⟩ = some (.int .i64 0) := by rw [cell_of_row _ _ _ _ _ _ HBX2.out.1]; rfl
                    have c2 : W11.cell? ⟨b1, 2, none⟩ = some (.int .i64 256) := by rw [cell_of_row _ _ _ _ _ _ HBX2.out.1]; rfl
                    have d0 : W11.cell? ⟨b2, 0, none⟩ = some (.int .i64 0) := by rw [cell_of_row _ _ _ _ _ _ HBX2.out.2]; rfl
                    have d1 : W11.cell? ⟨b2, 1, none⟩ = some (.int .i64 0) := by rw [cell_of_row _ _ _ _ _ _ HBX2.out.2]; rfl
                    have d2 : W11.cell? ⟨b2, 2, none⟩ = some (.int .i64 0) := by rw [cell_of_row _ _ _ _ _ _ HBX2.out.2]; rfl
                    have hq1 := eq_hit 0 0 256 0 0 256
                    have hq2 := eq_hit 0 0 0 0 0 0
                    obtain ⟨KS, hKS⟩ : ∃ KS : ByteArray, (⟨K.toArray⟩ : ByteArray) = KS := ⟨_, rfl⟩
                    have hKz : KS.size = 256 := by rw [← hKS, ← hKl]; show K.toArray.size = _; rw [List.size_toArray]
                    have HB := Lib.hid (buffer_any W11 (HF10.out.ma 1 _ rfl).1)
                    rw [show MS.K ⟨v, arms, K, R10, bv10⟩ = K from rfl, hKS] at HB
                    clear hKS hKl
                    go_wp2_with fail
                    refine HB.out.mono ?_
                    rintro e W12 ⟨rfl, rfl⟩
                    have HKZ := Lib.hid hKz
                    go_wp2_with fail
                    go_ret
                    exact ⟨by simp, HF10.out.up⟩
            · exact absurd hmay not_star
          · exact absurd hmay.1.1 (by decide)
      · exact absurd hmay.1.2 (by decide)
end Go.Proofs.YtfhggnbnbopkkaaDoor
