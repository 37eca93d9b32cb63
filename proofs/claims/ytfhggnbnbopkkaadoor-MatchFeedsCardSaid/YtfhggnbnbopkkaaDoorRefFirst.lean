/- The document's May: may a list of patterns be looked for? And Deep. -/
import Derived.Test.YtfhggnbnbopkkaaDoorPatRefAtom
import Derived.Test.YtfhggnbnbopkkaaDoorMatWorks
import Derived.Test.YtfhggnbnbopkkaaDoorNfaRefEnds

namespace Go.Proofs.YtfhggnbnbopkkaaDoor
open Go.RowKit PM

set_option maxRecDepth 100000
def DeepIs (w : World) (e : Ending) (w' : World) : Prop := ∃ r : Bool, e = .returned (.bool r) ∧ Below w.heap.size w w'
def MayIs (ps : List Pat) (w : World) (e : Ending) (w' : World) : Prop := ∃ r : Bool, e = .returned (.bool r) ∧ (r = true ↔ May ps) ∧ Below w.heap.size w w'
/-- Deep: it tells something, and writes nothing -/
theorem deep_any (A : Option Addr) (c : Nat) (ps : List Pat) (w : World) (hP : PIn w A ps) (hn : ps.length ≤ 9223372036854775807) :
    Calls Tryd.prog 13 #[.slice A ps.length c] w (DeepIs w) := by
  have HP := Lib.hid hP
  obtain ⟨n, hpn⟩ : ∃ n, ps.length = n := ⟨_, rfl⟩
  have HN := Lib.hid hpn
  rw [hpn] at hn
  rw [hpn]
  clear hP hpn
  go_enter Tryd.func13, Tryd.ntmps13
  go_wp2_with fail
  change Code.wp _ _ _ _ _
  go_loopg [9, 4, 5, 6] (n + 1) (fun k v9 v4 v5 v6 wr => ∃ i : Nat, v9 = .int .i64 i ∧ i ≤ n ∧ n - i < k ∧ Hid (Below w.heap.size w wr))
  case atStart => exact ⟨0, rfl, by omega, by omega, Lib.hid (Below.refl _ _)⟩
  case round =>
    obtain ⟨i, rfl, hi, hik, HB⟩ := hrel
    have hi0 : (0 : Int) ≤ i := by omega
    rcases Nat.lt_or_ge i n with hlt | hge
    · have hlt1 : (i : Int) < n := by omega
      obtain ⟨q, hq⟩ : ∃ q, ps[i]? = some q := ⟨_, List.getElem?_eq_getElem (by rw [HN.out]; exact hlt)⟩
      obtain ⟨ad, rfl, c0, c1⟩ := (HP.out.on HB.out).at' i q hq
      have ha := HP.out.sz q (List.mem_of_getElem? hq)
      clear hq
      obtain ⟨kind, a⟩ := q
      simp only at c0 c1 ha
      have hn0 := heap_alloc_new wr (.cells #[.int .i64 kind, .string a] TPat)
      have hb0 := below_new wr (.cells #[.int .i64 kind, .string a] TPat)
      have HN := Lib.hid hn0; have HB0 := Lib.hid (below_then HB.out hb0 (Nat.le_refl _))
      clear hn0 hb0
      generalize gk = g0 at *
      go_wp2_with fail
      change Code.wp _ _ _ _ _
      obtain ⟨B, hB⟩ : ∃ B, wr.heap.size = B := ⟨_, rfl⟩
      rw [hB] at HN ⊢
      generalize wr.alloc (.cells #[.int .i64 kind, .string a] TPat) = W1 at *
      have e1 : W1.cell? ⟨B, 1, none⟩ = some (.string a) := by rw [cell_of_row _ _ 1 _ _ _ HN.out]; rfl
      clear hB c0 c1
      go_loopg [5, 6] (a.size + 1) (fun k v5 v6 wq => ∃ n j : Nat, v5 = .int .i64 n ∧ v6 = .int .i64 j ∧ n ≤ 7 ∧ j ≤ a.size ∧ a.size - j < k ∧ wq = W1)
      case atStart => exact ⟨0, 0, rfl, rfl, by omega, by omega, by omega, rfl⟩
      case round =>
        obtain ⟨m, j, rfl, rfl, hm, hj, hjk, rfl⟩ := hrel
        by_cases hja : j < a.size
        · have h1 : (j : Int) < a.size := by omega
          have h2 : (0 : Int) ≤ j := by omega
          by_cases hn6 : m ≤ 6
          · have h3 : decide (m ≤ 6) = true := decide_eq_true hn6
            have h4 : (m : Int) ≤ 6 := by omega
            cases hc : ((a[j].toNat : Int) == 43) with
            | true =>
              go_wp2_with fail
              go_roundg (gk - 1)
              case measure => omega
              case rel => exact ⟨m + 1, j + 1, by go_num, by go_num, by omega, by omega, by omega, rfl⟩
            | false =>
              go_wp2_with fail
              go_roundg (gk - 1)
              case measure => omega
              case rel => exact ⟨m, j + 1, rfl, by go_num, by omega, by omega, by omega, rfl⟩
          · have h3 : decide (m ≤ 6) = false := decide_eq_false hn6
            have h4 : (6 : Int) < m := by omega
            go_wp2_with fail
            go_ret
            exact ⟨_, rfl, HB0.out⟩
        · have h1 : decide (j < a.size) = false := decide_eq_false hja
          have h2 : ¬ (j : Int) < a.size := by omega
          by_cases hn6 : m ≤ 6
          · have h4 : ¬ (6 : Int) < m := by omega
            go_wp2_with fail
            go_roundg (g0 - 1)
            case measure => omega
            case rel => exact ⟨i + 1, by go_num, by omega, by omega, HB0⟩
          · have h4 : (6 : Int) < m := by omega
            go_wp2_with fail
            go_ret
            exact ⟨_, rfl, HB0.out⟩
    · obtain rfl : i = n := by omega
      go_wp2_with fail
      go_ret
      exact ⟨_, rfl, HB.out⟩
set_option maxHeartbeats 8000000 in
theorem may_any (A : Option Addr) (c : Nat) (ps : List Pat) (w : World) (hP : PIn w A ps) (hn : ps.length ≤ 9223372036854775807) :
    Calls Tryd.prog 19 #[.slice A ps.length c] w (MayIs ps w) := by
  have HP := Lib.hid hP
  obtain ⟨n, hpn⟩ : ∃ n, ps.length = n := ⟨_, rfl⟩
  have HN := Lib.hid hpn
  rw [hpn] at hn
  rw [hpn]
  clear hP hpn
  go_enter Tryd.func19, Tryd.ntmps19
  by_cases h1 : n < 1
  · have h11 : (n : Int) < 1 := by omega
    go_wp2_with fail
    go_ret
    exact ⟨_, rfl, ⟨fun h => (by cases h), fun h => (by have := h.1; rw [HN.out] at this; omega)⟩, Below.refl _ _⟩
  · have h11 : ¬ (n : Int) < 1 := by omega
    by_cases h8 : 8 < n
    · have h81 : (8 : Int) < n := by omega
      go_wp2_with fail
      go_ret
      exact ⟨_, rfl, ⟨fun h => (by cases h), fun h => (by have := h.1; rw [HN.out] at this; omega)⟩, Below.refl _ _⟩
    · have h81 : ¬ (8 : Int) < n := by omega
      have d0 : decide ((n : Int) < 1) = false := decide_eq_false h11
      go_upto_region 4 with (fail)
      go_loopg [3] (n + 1) (fun k v3 wr => ∃ i : Nat, v3 = .int .i64 i ∧ i ≤ n ∧ n - i < k ∧ Hid (Below w.heap.size w wr) ∧ Hid (∀ p ∈ ps.take i, ∃ t, fine p t))
      case atStart => exact ⟨0, rfl, by omega, by omega, Lib.hid (Below.refl _ _), Lib.hid (fun p h => by cases h)⟩
      case round =>
        obtain ⟨i, rfl, hi, hik, HB, HF⟩ := hrel
        have hi0 : (0 : Int) ≤ i := by omega
        by_cases hlt : i < n
        · have hlt1 : (i : Int) < n := by omega
          obtain ⟨q, hq⟩ : ∃ q, ps[i]? = some q := ⟨_, List.getElem?_eq_getElem (by rw [HN.out]; exact hlt)⟩
          obtain ⟨ad, rfl, c0, c1⟩ := (HP.out.on HB.out).at' i q hq
          have ha := HP.out.sz q (List.mem_of_getElem? hq)
          have HQ := Lib.hid hq
          clear hq
          obtain ⟨kind, a⟩ := q
          simp only at c0 c1 ha
          go_wp2_with fail
          refine (rtree_or kind a wr ha).mono ?_
          rintro e w2 (⟨t, A2, c2, ht, rfl, hK, hb⟩ | ⟨x, k, hx, hno, rfl, hb⟩)
          · have H2 := Lib.hid (below_then HB.out hb (Nat.le_refl _))
            have HTE := Lib.hid ht
            clear ht hb HB c0 c1
            go_upto_region 7 with (fail)
            obtain ⟨hA, hAB⟩ := TrAt.made hK
            have HA := Lib.hid hA; have H3 := Lib.hid (below_then H2.out hAB (Nat.le_refl _))
            clear hA hAB hK H2
            generalize (w2.alloc (.cells #[.int .i64 t.op, .int .u64 (word t.set 0), .int .u64 (word t.set 1), .int .u64 (word t.set 2), .int .u64 (word t.set 3), .slice A2 t.kids.length c2] TN)).alloc (.cells #[.int .i64 0, .int .i64 0] TSp) = w3 at *
            generalize w2.heap.size = B at *
            obtain ⟨r0, r1⟩ := HA.out.err
            obtain ⟨ad2, hae, c0, c1⟩ := (HP.out.on H3.out).at' i _ HQ.out
            cases hae
            simp only at c0 c1
            have HRE := Lib.hid (rempty_any kind a w3 ha)
            go_wp2_with fail
            refine HRE.out.mono ?_
            rintro e w4 ⟨rfl, hb⟩
            have H4 := Lib.hid (below_then H3.out hb (Nat.le_refl _))
            clear hb HRE r0 r1 c0 c1 H3 HA
            rw [emptyP_of HTE.out]
            cases hem : emptyT t with
            | true =>
              have hNM : ¬ May ps := fun h => by
                obtain ⟨t', h1, h2⟩ := h.2 _ (List.mem_of_getElem? HQ.out)
                have h3 := HTE.out.symm.trans h1
                cases h3
                rw [hem] at h2; cases h2
              go_wp2_with fail
              go_ret
              exact ⟨_, rfl, ⟨fun h => (by cases h), fun h => absurd h hNM⟩, H4.out⟩
            | false =>
              have HF2 : Hid (∀ p ∈ ps.take (i + 1), ∃ t, fine p t) := Lib.hid (fun p hp => by
                rw [List.take_add_one, HQ.out] at hp
                rcases List.mem_append.1 hp with hp | hp
                · exact HF.out p hp
                · simp at hp
                  subst hp
                  exact ⟨t, HTE.out, hem⟩)
              clear hem
              go_wp2_with fail
              go_roundg (gk - 1)
              case measure => omega
              case rel => exact ⟨i + 1, by go_num, by omega, by omega, H4, HF2⟩
          · have H2 := Lib.hid (below_then HB.out hb (Nat.le_refl _))
            have hNM : ¬ May ps := fun h => by
              obtain ⟨t', h1, h2⟩ := h.2 _ (List.mem_of_getElem? HQ.out)
              exact hno _ h1
            have HX := Lib.hid hx
            clear hb hx HB hno c0 c1
            go_upto_region 7 with (fail)
            have hs := spot_made w2 (.cells #[.int .i64 0, .int .u64 0, .int .u64 0, .int .u64 0, .int .u64 0, .slice none 0 0] TN) #[.int .i64 x, .int .i64 k]
            have hAB := two_below w2 (.cells #[.int .i64 0, .int .u64 0, .int .u64 0, .int .u64 0, .int .u64 0, .slice none 0 0] TN) (.cells #[.int .i64 x, .int .i64 k] TSp)
            have H3 := Lib.hid (below_then H2.out hAB (Nat.le_refl _))
            generalize (w2.alloc (.cells #[.int .i64 0, .int .u64 0, .int .u64 0, .int .u64 0, .int .u64 0, .slice none 0 0] TN)).alloc (.cells #[.int .i64 x, .int .i64 k] TSp) = w3 at *
            have r1 := spot_cell hs
            have x0 : ((x : Int) == 0) = false := by rw [beq_eq_false_iff_ne]; have := HX.out; omega
            have x1 : ¬ (x : Int) = 0 := by have := HX.out; omega
            clear hs hAB H2
            go_wp2_with fail
            go_ret
            exact ⟨_, rfl, ⟨fun h => (by cases h), fun h => absurd h hNM⟩, H3.out⟩
        · obtain rfl : i = n := by omega
          have hM : May ps := ⟨by rw [HN.out]; omega, by have := HF.out; rwa [List.take_of_length_le (by rw [HN.out]; exact Nat.le_refl _)] at this⟩
          go_wp2_with fail
          go_ret
          exact ⟨_, rfl, ⟨fun _ => hM, fun _ => rfl⟩, HB.out⟩
end Go.Proofs.YtfhggnbnbopkkaaDoor

namespace Go.Proofs.YtfhggnbnbopkkaaDoor
open Go.RowKit PM

set_option maxRecDepth 100000
abbrev TBs : TypeId := 73
abbrev TBss : TypeId := 71
/-- the ends from each place, as far as they are found -/
def EndsL (w : World) (s : ByteArray) (t : T) (L : List Value) : Prop := ∀ j v, L[j]? = some v → ∃ b c g, v = .slice (some ⟨b, 0, none⟩) (s.size + 1) c ∧ BF w b (s.size + 1) g ∧ EndsP t s.data.toList (fun k => decide (k = j)) g
theorem EndsL.nil (w : World) (s : ByteArray) (t : T) : EndsL w s t [] := fun j v h => by simp at h
theorem EndsL.keep {w w' : World} {s : ByteArray} {t : T} {L : List Value} (h : EndsL w s t L) (hk : ∀ (b : Nat) (cs : Array Value), w.heap[b]? = some (.cells cs TBo (0, 0)) → w'.heap[b]? = w.heap[b]?) : EndsL w' s t L := fun j v hj => by
  obtain ⟨b, c, g, h1, h2, h3⟩ := h j v hj
  exact ⟨b, c, g, h1, (hk b _ h2).trans h2, h3⟩
theorem EndsL.on {w w' : World} {s : ByteArray} {t : T} {L : List Value} (h : EndsL w s t L) (hb : Below w.heap.size w w') : EndsL w' s t L := h.keep fun b _ hc => hb.block b (lt_of_block hc)
theorem EndsL.snoc {w : World} {s : ByteArray} {t : T} {L : List Value} (h : EndsL w s t L) {b c : Nat} {g : Nat → Bool} (h2 : BF w b (s.size + 1) g) (h3 : EndsP t s.data.toList (fun k => decide (k = L.length)) g) : EndsL w s t (L ++ [.slice (some ⟨b, 0, none⟩) (s.size + 1) c]) := fun j v hj => by
  rcases Nat.lt_trichotomy j L.length with hlt | rfl | hgt
  · rw [List.getElem?_append_left hlt] at hj; exact h j v hj
  · rw [List.getElem?_append_right (Nat.le_refl _), Nat.sub_self] at hj
    cases hj
    exact ⟨b, c, g, rfl, h2, h3⟩
  · rw [List.getElem?_eq_none (by rw [List.length_append]; simp; omega)] at hj; cases hj
theorem info_bools : (Tryd.prog.info? TBs).map (fun i => (i.zero, i.size, i.bytes)) = some (some (.slice none 0 0), 1, 24) := by kernel_rfl
theorem info_boolss : (Tryd.prog.info? TBss).map (fun i => (i.zero, i.size, i.bytes)) = some (some (.slice none 0 0), 1, 24) := by kernel_rfl
/-- where a row of one's own is turned, what is of another kind stays -/
theorem own_other {w w' : World} {B : Nat} {e ty : TypeId} {n : Nat} {v : Value} {L : List Value} (h : w.ownsRow B e 1 v n L) (he : e ≠ ty) (hg : w.grownBy w' v.ownBlock) : ∀ (b : Nat) (cs : Array Value), w.heap[b]? = some (.cells cs ty (0, 0)) → w'.heap[b]? = w.heap[b]? := fun b cs hb =>
  hg.block b (lt_of_block hb) fun e2 => by
    obtain ⟨cs2, h2⟩ := own_typed h e2.symm
    rw [hb] at h2
    injection h2 with h2; injection h2 with _ h2 _
    exact he h2.symm
theorem below_grown {B : Nat} {w a c : World} {r : Option Nat} (h : Below B w a) (hg : a.grownBy c r) (hB : B ≤ a.heap.size) (hr : ∀ b, r = some b → B ≤ b) : Below B w c :=
  h.trans ⟨hg.os, hg.tape, hg.output, hg.size, fun k hk => hg.block k (Nat.lt_of_lt_of_le hk hB) fun e => by have := hr k e.symm; omega⟩
/-- a tree's ends from each place -/
def EndsAt (w : World) (s : ByteArray) (t : T) (v : Value) : Prop := ∃ b c L, v = .slice (some ⟨b, 0, none⟩) (s.size + 1) c ∧ (∃ cs : Array Value, w.heap[b]? = some (.cells cs TBs (0, 0)) ∧ cs.toList.take (s.size + 1) = L) ∧ L.length = s.size + 1 ∧ EndsL w s t L
set_option maxHeartbeats 8000000 in
theorem rends_any (s : ByteArray) (hs : s.size ≤ 1000) (t : T) (hok : T.OK 100 t) (p : Nat → Prop) (K : Value) (w : World) (hK : IsT w p K t) :
    Calls Tryd.prog 31 #[nodeV t K, .string s] w fun e w' => (∃ v, e = .returned v ∧ EndsAt w' s t v) ∧ Below w.heap.size w w' := by
  have hC : ∀ W b c g, Below w.heap.size w W → BF W b (s.size + 1) g → Calls Tryd.prog 48 #[nodeV t K, .string s, .slice (some ⟨b, 0, none⟩) (s.size + 1) c] W (EndsIs s t g W) := fun W b c g hW hg => ends_any s (by omega) 100 (by omega) t hok p K W b c g (hK.on hW) hg
  obtain ⟨A, ca, rfl⟩ := hK.slice
  simp only [nodeV, nodeC] at hC
  simp only [nodeV, nodeC]
  generalize word t.set 0 = x0 at *
  generalize word t.set 1 = x1 at *
  generalize word t.set 2 = x2 at *
  generalize word t.set 3 = x3 at *
  generalize t.op = op at *
  generalize t.kids.length = m at *
  obtain ⟨n, hn⟩ : ∃ n, n = s.size + 1 := ⟨_, rfl⟩
  have HN := Lib.hid hn
  have hn1 : n ≤ 1001 := by omega
  have hmk : ∀ W, (Instr.makeSlice 73 (.int .i64 ((s.size : Int) + 1)) (.int .i64 ((s.size : Int) + 1))).run Tryd.prog W = .ok (.slice (some ⟨W.heap.size, 0, none⟩) n n) (W.alloc (.cells (boolC n fun _ => false) TBo)) := fun W => make_bools n _ (by omega) (by omega) W
  unfold EndsIs at hC
  rw [← hn] at hC
  have HC := Lib.hid hC
  have HS := Lib.hid (EmS.start w #[.int .i64 op, .int .u64 x0, .int .u64 x1, .int .u64 x2, .int .u64 x3, .slice A m ca])
  clear hC hK hn
  go_enter Tryd.func31, Tryd.ntmps31
  go_upto_region 3 with (fail)
  change Code.wp _ _ _ _ _
  generalize w.alloc (.cells #[.int .i64 op, .int .u64 x0, .int .u64 x1, .int .u64 x2, .int .u64 x3, .slice A m ca] TN) = W0 at *
  obtain ⟨i0, hin, hz0, hz1, hz2⟩ := info_parts info_bools
  have HIN := Lib.hid (And.intro hin (And.intro hz0 (And.intro hz1 hz2)))
  clear hin hz0 hz1 hz2
  go_loopg [6, 5] (n + 1) (fun k v6 v5 wr => ∃ (i : Nat) (L : List Value), v6 = .int .i64 i ∧ i ≤ n ∧ n - i < k ∧ L.length = i ∧ Hid (wr.ownsRow w.heap.size TBs 1 v5 i L) ∧ Hid (EndsL wr s t L) ∧ Hid (EmS w wr #[.int .i64 op, .int .u64 x0, .int .u64 x1, .int .u64 x2, .int .u64 x3, .slice A m ca]))
  case atStart => exact ⟨0, [], rfl, by omega, by omega, rfl, Lib.hid ⟨rfl, .inl ⟨rfl, rfl⟩⟩, Lib.hid (EndsL.nil _ _ _), HS⟩
  case round =>
    clear HS
    obtain ⟨i, L, rfl, hi, hik, hL, HO, HL, HS⟩ := hrel
    have hi0 : (0 : Int) ≤ i := by omega
    by_cases hlt : i < n
    · have hlt1 : (i : Int) ≤ s.size := by have := HN.out; omega
      have hlt2 : (i : Int) < n := by omega
      go_upto_region 6 with (fail)
      have HE1 := Lib.hid (BF.new wr n (fun _ => false))
      have HE2 : Hid (Below wr.heap.size wr ((wr.alloc (.cells (boolC n fun _ => false) TBo)).setCell ⟨wr.heap.size, i, none⟩ (.bool true)) ∧ BF ((wr.alloc (.cells (boolC n fun _ => false) TBo)).setCell ⟨wr.heap.size, i, none⟩ (.bool true)) wr.heap.size n (fun k => decide (k = i))) := Lib.hid
        ⟨below_set (below_new wr (.cells (boolC n fun _ => false) TBo)) (setB _ wr.heap.size i (.bool true)) (Nat.le_refl _) (Nat.le_refl _), (HE1.out.set i true).congr (fun j _ => by by_cases h : j = i <;> simp [h])⟩
      change Code.wp _ _ _ _ (wr.alloc (.cells (boolC n fun _ => false) TBo))
      have hge : w.heap.size < wr.heap.size := lt_of_block HS.out.a
      obtain ⟨b1, hb1⟩ : ∃ b1, wr.heap.size = b1 := ⟨_, rfl⟩
      rw [hb1] at HE1 HE2 hge ⊢
      generalize wr.alloc (.cells (boolC n fun _ => false) TBo) = W1 at *
      have c0 := HE1.out.cell hlt; have f0 := HE1.out.frozen i
      go_upto_region 7 with (fail)
      change Code.wp _ _ _ _ (W1.setCell ⟨b1, i, none⟩ (.bool true))
      generalize W1.setCell ⟨b1, i, none⟩ (.bool true) = W2 at *
      rw [← hb1] at HE2
      have HE3 : Hid (EmS w W2 #[.int .i64 op, .int .u64 x0, .int .u64 x1, .int .u64 x2, .int .u64 x3, .slice A m ca] ∧ BF W2 b1 n (fun k => decide (k = i)) ∧ EndsL W2 s t L ∧ W2.ownsRow w.heap.size TBs 1 u5 i L) := Lib.hid
        ⟨HS.out.on HE2.out.1, by rw [← hb1]; exact HE2.out.2, HL.out.on HE2.out.1, own_keep HO.out fun g hg => HE2.out.1.block g (HO.out.lt g hg).2⟩
      clear hb1 HS HL HO HE2
      clear c0 f0 HE1
      obtain ⟨a0, a1, a2, a3, a4, a5⟩ := HE3.out.1.six
      go_wp2_with fail
      refine (HC.out W2 b1 n _ HE3.out.1.up HE3.out.2.1).mono ?_
      rintro e W3 ⟨bq, cq, gq, rfl, hg, hp, hb⟩
      have HE4 : Hid (EmS w W3 #[.int .i64 op, .int .u64 x0, .int .u64 x1, .int .u64 x2, .int .u64 x3, .slice A m ca] ∧ EndsL W3 s t L ∧ W3.ownsRow w.heap.size TBs 1 u5 i L ∧ BF W3 bq n gq ∧ EndsP t s.data.toList (fun k => decide (k = i)) gq) := Lib.hid
        ⟨HE3.out.1.on hb, HE3.out.2.2.1.on hb, own_keep HE3.out.2.2.2 fun g hg => hb.block g (HE3.out.2.2.2.lt g hg).2, hg, hp⟩
      clear a0 a1 a2 a3 a4 a5 HE3 hg hp hb
      obtain ⟨hin, hz0, hz1, hz2⟩ := HIN.out
      have hbn := below_new W3 (.cells #[.slice (some ⟨bq, 0, none⟩) n cq] TBs)
      have HOW := Lib.hid (own_keep (w' := W3.alloc (.cells #[.slice (some ⟨bq, 0, none⟩) n cq] TBs)) HE4.out.2.2.1 fun g hg => hbn.block g (HE4.out.2.2.1.lt g hg).2)
      have HBS : Hid (w.heap.size ≤ (W3.alloc (.cells #[.slice (some ⟨bq, 0, none⟩) n cq] TBs)).heap.size) := Lib.hid (by rw [World.size_alloc]; have := lt_of_block HE4.out.1.a; omega)
      have hn3 := heap_alloc_new W3 (.cells #[.slice (some ⟨bq, 0, none⟩) n cq] TBs)
      go_wp2_with (at_builtin; go_loud (refine wpList_append_lies _ rfl _ _ 71 rfl w.heap.size TBs i0 _ 1 24 Tryd.underlying71 hin hz0 hz1 hz2 rfl (by decide) u5 i L rfl HOW.out ⟨W3.heap.size, 0, none⟩ 1 1 [.slice (some ⟨bq, 0, none⟩) n cq] rfl rfl (World.news_of_block hn3) (by simp [Value.oneCell']) (by decide) (by unfold maxLen; omega) (by omega) HBS.out _ rfl ?_; intro g cap w3 hown hgrow hat hlt3))
      have HNX : Hid (w3.ownsRow w.heap.size TBs 1 (.slice (some ⟨g, 0, none⟩) (i + 1) cap) (i + 1) (L ++ [.slice (some ⟨bq, 0, none⟩) n cq]) ∧ EndsL w3 s t (L ++ [.slice (some ⟨bq, 0, none⟩) n cq]) ∧ EmS w w3 #[.int .i64 op, .int .u64 x0, .int .u64 x1, .int .u64 x2, .int .u64 x3, .slice A m ca]) := Lib.hid (by
        have hk := own_other HOW.out (by decide : TBs ≠ TBo) hgrow
        refine ⟨hown, ?_, ?_, ?_⟩
        · have h1 : EndsL w3 s t L := (HE4.out.2.1.on hbn).keep hk
          have h2 : BF w3 bq n gq := (hk bq _ (HE4.out.2.2.2.1.on hbn)).trans (HE4.out.2.2.2.1.on hbn)
          have h3 := HN.out
          subst h3
          exact h1.snoc h2 (by rw [hL]; exact HE4.out.2.2.2.2)
        · have h1 := (HE4.out.1.on hbn).a
          exact (own_other HOW.out (by decide : TBs ≠ TN) hgrow _ _ h1).trans h1
        · exact below_grown (HE4.out.1.on hbn).up hgrow HBS.out fun b hb => (HOW.out.lt b hb).1)
      clear hown hgrow hat hlt3 HOW HBS hn3 hbn hin hz0 hz1 hz2 HE4
      go_roundg (gk - 1)
      case measure => omega
      case rel => exact ⟨i + 1, _, by go_num, by omega, by omega, by rw [List.length_append, hL]; rfl, Lib.hid HNX.out.1, Lib.hid HNX.out.2.1, Lib.hid HNX.out.2.2⟩
    · obtain rfl : i = n := by omega
      have hlt1 : ¬ (i : Int) ≤ s.size := by have := HN.out; omega
      have HE : Hid (EndsAt wr s t u5 ∧ Below w.heap.size w wr) := Lib.hid ⟨by
        have h1 := HN.out
        rcases HO.out.2 with ⟨_, h2⟩ | ⟨g, cap, cs, hv, _, hg, _, _, _, h6⟩
        · omega
        · rw [Nat.mul_one] at h6
          exact ⟨g, cap, L, by rw [hv, ← h1], ⟨cs, hg, by rw [← h1]; exact h6⟩, by rw [← h1]; exact hL, HL.out⟩, HS.out.up⟩
      clear HO HL HS
      go_wp2_with fail
      go_ret
      exact ⟨⟨_, rfl, HE.out.1⟩, HE.out.2⟩

theorem EndsAt.keep {w w' : World} {s : ByteArray} {t : T} {v : Value} (h : EndsAt w s t v) (h1 : ∀ (b : Nat) (cs : Array Value), w.heap[b]? = some (.cells cs TBo (0, 0)) → w'.heap[b]? = w.heap[b]?) (h2 : ∀ (b : Nat) (cs : Array Value), w.heap[b]? = some (.cells cs TBs (0, 0)) → w'.heap[b]? = w.heap[b]?) : EndsAt w' s t v := by
  obtain ⟨b, c, L, e1, ⟨cs, e2, e3⟩, e4, e5⟩ := h
  exact ⟨b, c, L, e1, ⟨cs, (h2 b _ e2).trans e2, e3⟩, e4, e5.keep h1⟩
theorem EndsAt.on {w w' : World} {s : ByteArray} {t : T} {v : Value} (h : EndsAt w s t v) (hb : Below w.heap.size w w') : EndsAt w' s t v := h.keep (fun b _ hc => hb.block b (lt_of_block hc)) (fun b _ hc => hb.block b (lt_of_block hc))
/-- does a tree fit between two places? -/
def fitAt (t : T) (l : List UInt8) (i j : Nat) : Bool := fitsB t ((l.take j).drop i)
theorem ends_at {t : T} {l : List UInt8} {i : Nat} {g : Nat → Bool} (h : EndsP t l (fun k => decide (k = i)) g) (hok : T.OK 100 t) {j : Nat} (hi : i ≤ j) (hj : j ≤ l.length) : g j = fitAt t l i j := by
  unfold fitAt
  rw [Bool.eq_iff_iff, h j hj, fitsB_iff (T.OK.wf hok), List.drop_take]
  constructor
  · rintro ⟨i', h1, h2, h3⟩
    rw [decide_eq_true_eq] at h2
    subst h2
    exact h3
  · intro h3
    exact ⟨i, hi, by simp, h3⟩
/-- what is read of it -/
theorem EndsAt.read {w : World} {s : ByteArray} {t : T} {v : Value} (h : EndsAt w s t v) (hok : T.OK 100 t) {i j : Nat} (hi : i ≤ j) (hj : j ≤ s.size) : ∃ b c b' c', v = .slice (some ⟨b, 0, none⟩) (s.size + 1) c ∧ w.cell? ⟨b, i, none⟩ = some (.slice (some ⟨b', 0, none⟩) (s.size + 1) c') ∧ w.cell? ⟨b', j, none⟩ = some (.bool (fitAt t s.data.toList i j)) := by
  obtain ⟨b, c, L, rfl, ⟨cs, e2, e3⟩, e4, e5⟩ := h
  obtain ⟨v, hv⟩ : ∃ v, L[i]? = some v := ⟨_, List.getElem?_eq_getElem (by omega)⟩
  obtain ⟨b', c', g, rfl, h2, h3⟩ := e5 i _ hv
  refine ⟨b, c, b', c', rfl, ?_, ?_⟩
  · rw [cell_of_row _ _ _ _ _ _ e2]
    rw [← e3, List.getElem?_take] at hv
    split at hv
    · rw [← hv, Array.getElem?_toList]
    · cases hv
  · rw [h2.cell (by omega), ends_at h3 hok hi hj]
/-- all patterns' -/
def AllL (w : World) (s : ByteArray) (ts : List T) (L : List Value) : Prop := ∀ (j : Nat) v, L[j]? = some v → ∃ t, ts[j]? = some t ∧ EndsAt w s t v
theorem AllL.nil (w : World) (s : ByteArray) (ts : List T) : AllL w s ts [] := fun j v h => by simp at h
theorem AllL.keep {w w' : World} {s : ByteArray} {ts : List T} {L : List Value} (h : AllL w s ts L) (h1 : ∀ (b : Nat) (cs : Array Value), w.heap[b]? = some (.cells cs TBo (0, 0)) → w'.heap[b]? = w.heap[b]?) (h2 : ∀ (b : Nat) (cs : Array Value), w.heap[b]? = some (.cells cs TBs (0, 0)) → w'.heap[b]? = w.heap[b]?) : AllL w' s ts L := fun j v hj => by
  obtain ⟨t, e1, e2⟩ := h j v hj
  exact ⟨t, e1, e2.keep h1 h2⟩
theorem AllL.on {w w' : World} {s : ByteArray} {ts : List T} {L : List Value} (h : AllL w s ts L) (hb : Below w.heap.size w w') : AllL w' s ts L := h.keep (fun b _ hc => hb.block b (lt_of_block hc)) (fun b _ hc => hb.block b (lt_of_block hc))
theorem AllL.snoc {w : World} {s : ByteArray} {ts : List T} {L : List Value} {t : T} {v : Value} (h : AllL w s ts L) (ht : ts[L.length]? = some t) (hv : EndsAt w s t v) : AllL w s ts (L ++ [v]) := fun j x hj => by
  rcases Nat.lt_trichotomy j L.length with hlt | rfl | hgt
  · rw [List.getElem?_append_left hlt] at hj; exact h j x hj
  · rw [List.getElem?_append_right (Nat.le_refl _), Nat.sub_self] at hj
    cases hj
    exact ⟨t, ht, hv⟩
  · rw [List.getElem?_eq_none (by rw [List.length_append]; simp; omega)] at hj; cases hj
theorem results_rfirst {tmps : Array Value} {W : World} {g a p e : Nat} {b : Bool} (h4 : tmps.getD 4 undef = .pointer (some ⟨g, 0, none⟩)) (h5 : tmps.getD 5 undef = .bool b) (hg : W.heap[g]? = some (.cells (hitC a p e) THit (0, 0))) :
    (results Tryd.f15 tmps).run Tryd.prog W = .ok (.tuple #[.agg (hitC a p e), .bool b]) W := by
  rw [results_cell_tmp (show Tryd.f15.results = #[.cell 4 THit, .tmp 5] from rfl), h4, h5]
  simp [asAddr, run_loadVar_row W g THit THit (hitC a p e) (0, 0) _ hg Tryd.underlying26 rfl (by kernel_rfl)]
theorem may_trees {ps : List Pat} (h : May ps) : ∃ ts, Trees ps ts := by
  have : ∀ l : List Pat, (∀ p ∈ l, ∃ t, fine p t) → ∃ ts, Trees l ts := by
    intro l
    induction l with
    | nil => exact fun _ => ⟨[], rfl, fun k p t h => by simp at h⟩
    | cons q l ih =>
      intro hl
      obtain ⟨ts, h1, h2⟩ := ih fun p hp => hl p (List.mem_cons_of_mem _ hp)
      obtain ⟨t, ht⟩ := hl q (List.mem_cons_self ..)
      refine ⟨t :: ts, by simp [h1], fun k p x hp hx => ?_⟩
      cases k with
      | zero => simp at hp hx; subst hp; subst hx; exact ht
      | succ k => exact h2 k p x (by simpa using hp) (by simpa using hx)
  exact this ps h.2
end Go.Proofs.YtfhggnbnbopkkaaDoor

namespace Go.Proofs.YtfhggnbnbopkkaaDoor
open Go.RowKit PM

set_option maxRecDepth 100000
/-- what stands while the patterns' ends are gathered -/
structure RfS (w wr : World) (B : Nat) (s : ByteArray) (ts : List T) (v : Value) (i : Nat) (L : List Value) : Prop where
  up : Below w.heap.size w wr
  box : wr.heap[B]? = some (.cells (hitC 0 0 0) THit (0, 0))
  own : wr.ownsRow (B + 1) TBss 1 v i L
  len : L.length = i
  all : AllL wr s ts L
theorem RfS.on {w wr w' : World} {B : Nat} {s : ByteArray} {ts : List T} {v : Value} {i : Nat} {L : List Value} (h : RfS w wr B s ts v i L) (hb : Below wr.heap.size wr w') : RfS w w' B s ts v i L :=
  ⟨below_then h.up hb (Nat.le_refl _), (hb.block _ (lt_of_block h.box)).trans h.box, own_keep h.own fun g hg => hb.block g (h.own.lt g hg).2, h.len, h.all.on hb⟩
/-- one of them is appended -/
theorem RfS.snoc {w wr w' : World} {B : Nat} {s : ByteArray} {ts : List T} {v : Value} {i : Nat} {L : List Value} {t : T} {x : Value} {g cap : Nat} (h : RfS w wr B s ts v i L) (hB : B = w.heap.size) (ht : ts[i]? = some t) (hx : EndsAt wr s t x)
    (hown : w'.ownsRow (B + 1) TBss 1 (.slice (some ⟨g, 0, none⟩) (i + 1) cap) (i + 1) (L ++ [x])) (hg : wr.grownBy w' v.ownBlock) : RfS w w' B s ts (.slice (some ⟨g, 0, none⟩) (i + 1) cap) (i + 1) (L ++ [x]) := by
  have k1 := own_other h.own (by decide : TBss ≠ TBo) hg
  have k2 := own_other h.own (by decide : TBss ≠ TBs) hg
  have k3 := own_other h.own (by decide : TBss ≠ THit) hg
  refine ⟨below_grown h.up hg h.up.size fun b hb => by have := (h.own.lt b hb).1; omega, (k3 _ _ h.box).trans h.box, hown, by rw [List.length_append, h.len]; rfl, ?_⟩
  exact (h.all.keep k1 k2).snoc (by rw [h.len]; exact ht) (hx.keep k1 k2)
/-- what is read of them -/
theorem RfS.read {w wr : World} {B : Nat} {s : ByteArray} {ts : List T} {g cap n : Nat} {L : List Value} (h : RfS w wr B s ts (.slice (some ⟨g, 0, none⟩) n cap) n L) (hok : ∀ t ∈ ts, T.OK 100 t) {a i j : Nat} {t : T} (ha : ts[a]? = some t) (han : a < n) (hi : i ≤ j) (hj : j ≤ s.size) :
    ∃ b c b' c', wr.cell? ⟨g, a, none⟩ = some (.slice (some ⟨b, 0, none⟩) (s.size + 1) c) ∧ wr.cell? ⟨b, i, none⟩ = some (.slice (some ⟨b', 0, none⟩) (s.size + 1) c') ∧ wr.cell? ⟨b', j, none⟩ = some (.bool (fitAt t s.data.toList i j)) := by
  obtain ⟨v, hv⟩ : ∃ v, L[a]? = some v := ⟨_, List.getElem?_eq_getElem (by rw [h.len]; exact han)⟩
  obtain ⟨t', h1, h2⟩ := h.all a v hv
  rw [ha] at h1; cases h1
  obtain ⟨b, c, b', c', rfl, h3, h4⟩ := h2.read (hok t (List.mem_of_getElem? ha)) hi hj
  refine ⟨b, c, b', c', ?_, h3, h4⟩
  obtain ⟨cs, e1, _, _, _, e5⟩ := own_blk h.own
  rw [cell_of_row _ _ _ _ _ _ e1]
  rw [← e5, List.getElem?_take] at hv
  split at hv
  · rw [← hv, Array.getElem?_toList]
  · cases hv
/-- from a place on it fits at none ahead -/
def NoFrom (t : T) (l : List UInt8) (f te : Nat) : Prop := ∀ q, q < f → fitAt t l q te = false
def NoArm (ts : List T) (l : List UInt8) (a te : Nat) : Prop := ∀ (b : Nat) t, b < a → ts[b]? = some t → NoFrom t l te te
def NoEnd (ts : List T) (l : List UInt8) (te : Nat) : Prop := ∀ j, 1 ≤ j → j < te → NoArm ts l ts.length j
theorem fromOf_no {t : T} {l : List UInt8} {te : Nat} (hte : te ≤ l.length) (h : NoFrom t l te te) : fromOf t (l.take te) = none :=
  fromOf_none.2 fun p hp => h p (by rw [List.length_take] at hp; omega)
theorem hitOf_no {ts : List T} {l : List UInt8} {te : Nat} (hte : te ≤ l.length) (h : NoArm ts l ts.length te) : hitOf ts (l.take te) = none :=
  hitOf_none.2 fun t ht => by
    obtain ⟨b, hb, e⟩ := List.mem_iff_getElem.1 ht
    exact fromOf_no hte (h b t hb ((List.getElem?_eq_getElem hb).trans (by rw [e])))
theorem first_found {ts : List T} {l : List UInt8} {a f te : Nat} {t : T} (h1 : 1 ≤ te) (hte : te ≤ l.length) (hE : NoEnd ts l te) (hA : NoArm ts l a te) (ht : ts[a]? = some t) (hF : NoFrom t l f te) (hf : f < te) (hh : fitAt t l f te = true) : first ts l = some (a, f, te) :=
  first_some.2 ⟨h1, hte, hitOf_some.2 ⟨t, ht, fromOf_some.2 ⟨by rw [List.length_take]; omega, hh, fun q hq => hF q hq⟩, fun b t' hb ht' => fromOf_no hte (hA b t' hb ht')⟩, fun j hj => hitOf_no (by omega) (hE (j + 1) (by omega) hj)⟩
theorem first_no {ts : List T} {l : List UInt8} (hE : NoEnd ts l (l.length + 1)) : first ts l = none :=
  first_none.2 fun j hj => hitOf_no (by omega) (hE (j + 1) (by omega) (by omega))
set_option maxHeartbeats 8000000 in
theorem rfirst_any (A : Option Addr) (c : Nat) (ps : List Pat) (s : ByteArray) (w : World) (hP : PIn w A ps) (hn : ps.length ≤ 9223372036854775807) (hs : s.size ≤ 1000) :
    Calls Tryd.prog 15 #[.slice A ps.length c, .string s] w (FirstIs ps s.data.toList w) := by
  have HP := Lib.hid hP
  have HB0 := Lib.hid (And.intro (below_new w (.cells (hitC 0 0 0) THit)) (heap_alloc_new w (.cells (hitC 0 0 0) THit)))
  obtain ⟨n, hpn⟩ : ∃ n, ps.length = n := ⟨_, rfl⟩
  have HN := Lib.hid hpn
  rw [hpn] at hn
  rw [hpn]
  clear hP hpn
  have hz := zHit_run
  go_enter Tryd.func15, Tryd.ntmps15
  go_upto_region 1 with (fail)
  change Code.wp _ _ _ _ (w.alloc (.cells (hitC 0 0 0) THit))
  generalize w.alloc (.cells (hitC 0 0 0) THit) = W0 at *
  obtain ⟨B, hB⟩ : ∃ B, w.heap.size = B := ⟨_, rfl⟩
  have HB := Lib.hid hB
  rw [hB] at HB0 ⊢
  clear hB
  have HM := Lib.hid (may_any A c ps W0 (HP.out.on (by rw [HB.out]; exact HB0.out.1)) (by rw [HN.out]; exact hn))
  rw [HN.out] at HM
  go_wp2_with fail
  refine HM.out.mono ?_
  rintro e W1 ⟨r, rfl, hr, hup⟩
  have H1 : Hid (Below w.heap.size w W1 ∧ W1.heap[B]? = some (.cells (hitC 0 0 0) THit (0, 0)) ∧ (r = true ↔ May ps)) := Lib.hid ⟨by rw [HB.out]; exact HB0.out.1.trans (hup.mono (Nat.le_of_lt (lt_of_block HB0.out.2))), (hup.block _ (lt_of_block HB0.out.2)).trans HB0.out.2, hr⟩
  clear HM hr hup HB0
  cases r with
  | false =>
    have hF : Hid (FirstIs ps s.data.toList w (firstV none) W1) := Lib.hid ⟨H1.out.1, .inl ⟨fun h => (by have := H1.out.2.2.2 h; cases this), rfl⟩⟩
    obtain ⟨k0, k1, k2, kf⟩ := box_cells H1.out.2.1
    go_wp2_with fail
    refine bodyPost_ret (results_rfirst rfl rfl (box_set H1.out.2.1 0 0 0)) rfl ⟨hF.out.1.trans (by rw [HB.out]; exact (box_below B _ _ _ _)), hF.out.2⟩
  | true =>
    have hM := H1.out.2.2.1 rfl
    obtain ⟨ts, hts⟩ := may_trees hM
    have HTS := Lib.hid (And.intro hM hts)
    have hn8 : 1 ≤ n ∧ n ≤ 8 := by have := hM.1; rw [HN.out] at this; exact this
    have htl : ts.length = n := by rw [hts.1, HN.out]
    have HOK : Hid (∀ t ∈ ts, T.OK 100 t) := Lib.hid (fun t ht => by
      obtain ⟨b, hb, e⟩ := List.mem_iff_getElem.1 ht
      have hb2 : b < ps.length := by rw [← hts.1]; exact hb
      exact (tree_ok (hts.2 b _ t (List.getElem?_eq_getElem hb2) ((List.getElem?_eq_getElem hb).trans (by rw [e]))).1).1)
    have HS : Hid (RfS w W1 B s ts (.slice none 0 0) 0 []) := Lib.hid ⟨H1.out.1, H1.out.2.1, ⟨rfl, .inl ⟨rfl, rfl⟩⟩, rfl, AllL.nil _ _ _⟩
    have HTL := Lib.hid htl
    clear hM hts H1 htl
    obtain ⟨i0, hin, hz0, hz1, hz2⟩ := info_parts info_boolss
    have HIN := Lib.hid (And.intro hin (And.intro hz0 (And.intro hz1 hz2)))
    clear hin hz0 hz1 hz2
    go_upto_region 5 with (fail)
    go_loopg [7, 6] (n + 1) (fun k v7 v6 wr => ∃ (i : Nat) (L : List Value), v7 = .int .i64 i ∧ i ≤ n ∧ n - i < k ∧ Hid (RfS w wr B s ts v6 i L))
    case atStart => exact ⟨0, [], rfl, by omega, by omega, HS⟩
    case round =>
      clear HS
      obtain ⟨i, L, rfl, hi, hik, HX⟩ := hrel
      have hi0 : (0 : Int) ≤ i := by omega
      by_cases hlt : i < n
      · have hlt1 : (i : Int) < n := by omega
        obtain ⟨q, hq⟩ : ∃ q, ps[i]? = some q := ⟨_, List.getElem?_eq_getElem (by rw [HN.out]; exact hlt)⟩
        obtain ⟨t, ht⟩ : ∃ t, ts[i]? = some t := ⟨_, List.getElem?_eq_getElem (by rw [HTL.out]; exact hlt)⟩
        obtain ⟨ad, rfl, c0, c1⟩ := (HP.out.on HX.out.up).at' i q hq
        have ha := HP.out.sz q (List.mem_of_getElem? hq)
        have HT := Lib.hid (And.intro ht (HTS.out.2.2 i q t hq ht).1)
        clear hq ht
        go_wp2_with fail
        refine (rtree_or q.kind q.text wr ha).mono ?_
        rintro e w2 (⟨t', A2, c2, ht, rfl, hK, hb⟩ | ⟨x, k, hx, hno, rfl, hb⟩)
        · obtain rfl : t' = t := by
            have := HT.out.2
            rw [ht] at this; cases this; rfl
          clear c0 c1 ht
          go_upto_region 8 with (fail)
          obtain ⟨hA, hAB⟩ := TrAt.made hK
          have HA := Lib.hid hA
          have HX3 := Lib.hid ((HX.out.on hb).on hAB)
          clear hA hAB hK HX hb
          generalize (w2.alloc (.cells #[.int .i64 t'.op, .int .u64 (word t'.set 0), .int .u64 (word t'.set 1), .int .u64 (word t'.set 2), .int .u64 (word t'.set 3), .slice A2 t'.kids.length c2] TN)).alloc (.cells #[.int .i64 0, .int .i64 0] TSp) = w3 at *
          generalize w2.heap.size = B2 at *
          obtain ⟨k0, k1, k2, k3, k4, k5⟩ := HA.out.cells
          have HE := Lib.hid (rends_any s hs t' (HOK.out t' (List.mem_of_getElem? HT.out.1)) _ _ w3 HA.out.tree)
          simp only [nodeV, nodeC] at HE
          go_wp2_with fail
          refine HE.out.mono ?_
          rintro e w4 ⟨⟨v, rfl, hv⟩, hb⟩
          have HX4 := Lib.hid (And.intro (HX3.out.on hb) hv)
          clear hb hv HE HA k0 k1 k2 k3 k4 k5 HX3
          obtain ⟨hin, hz0, hz1, hz2⟩ := HIN.out
          obtain ⟨bv, cv, rfl⟩ : ∃ b c, v = .slice (some ⟨b, 0, none⟩) (s.size + 1) c := by
            obtain ⟨b, c, L, e, _⟩ := HX4.out.2
            exact ⟨b, c, e⟩
          have hbn := below_new w4 (.cells #[.slice (some ⟨bv, 0, none⟩) (s.size + 1) cv] TBss)
          have HXN := Lib.hid (HX4.out.1.on hbn)
          have hvn := HX4.out.2.on hbn
          have HVN := Lib.hid hvn
          have HBS : Hid (B + 1 ≤ (w4.alloc (.cells #[.slice (some ⟨bv, 0, none⟩) (s.size + 1) cv] TBss)).heap.size) := Lib.hid (by have := lt_of_block HXN.out.box; omega)
          have hn3 := heap_alloc_new w4 (.cells #[.slice (some ⟨bv, 0, none⟩) (s.size + 1) cv] TBss)
          clear hvn hbn
          go_wp2_with (at_builtin; go_loud (refine wpList_append_lies _ rfl _ _ 60 rfl (B + 1) TBss i0 _ 1 24 Tryd.underlying60 hin hz0 hz1 hz2 rfl (by decide) u6 i L rfl HXN.out.own ⟨w4.heap.size, 0, none⟩ 1 1 [.slice (some ⟨bv, 0, none⟩) (s.size + 1) cv] rfl rfl (World.news_of_block hn3) (by simp [Value.oneCell']) (by decide) (by unfold maxLen; omega) (by omega) HBS.out _ rfl ?_; intro g cap w5 hown hgrow hat hlt3))
          have HX5 := Lib.hid (HXN.out.snoc HB.out.symm HT.out.1 HVN.out hown hgrow)
          clear hown hgrow hat hlt3 HXN HVN HBS hn3 hin hz0 hz1 hz2 HX4
          go_roundg (gk - 1)
          case measure => omega
          case rel => exact ⟨i + 1, _, by go_num, by omega, by omega, HX5⟩
        · exact absurd HT.out.2 (hno t)
      · obtain rfl : i = n := by omega
        obtain ⟨g, cap, rfl⟩ : ∃ g cap, u6 = .slice (some ⟨g, 0, none⟩) i cap := by
          rcases HX.out.own.2 with ⟨_, h2⟩ | ⟨g, cap, cs, hv, _⟩
          · omega
          · exact ⟨g, cap, hv⟩
        go_upto_region 10 with (fail)
        go_loopg [10] (s.size + 1) (fun k v10 wr => ∃ te : Nat, v10 = .int .i64 te ∧ 1 ≤ te ∧ te ≤ s.size + 1 ∧ s.size + 1 - te < k ∧ Hid (NoEnd ts s.data.toList te) ∧ Hid (RfS w wr B s ts (.slice (some ⟨g, 0, none⟩) i cap) i L))
        case atStart => exact ⟨1, rfl, by omega, by omega, by omega, Lib.hid (fun j h1 h2 => by omega), HX⟩
        case round =>
          clear HX
          obtain ⟨te, rfl, ht1, hts, htk, HE, HX⟩ := hrel
          by_cases hte : te ≤ s.size
          · have hte1 : (te : Int) ≤ s.size := by omega
            obtain ⟨g0, hg0⟩ : ∃ g0, g0 = gk := ⟨_, rfl⟩
            subst hg0
            go_upto_region 13 with (fail)
            go_loopg [11] (i + 1) (fun k v11 wr => ∃ a : Nat, v11 = .int .i64 a ∧ a ≤ i ∧ i - a < k ∧ Hid (NoArm ts s.data.toList a te) ∧ Hid (RfS w wr B s ts (.slice (some ⟨g, 0, none⟩) i cap) i L))
            case atStart => exact ⟨0, rfl, by omega, by omega, Lib.hid (fun b t h => absurd h (Nat.not_lt_zero _)), HX⟩
            case round =>
              clear HX
              obtain ⟨a, rfl, ha, hak, HA, HX⟩ := hrel
              have ha0 : (0 : Int) ≤ a := by omega
              by_cases hal : a < i
              · have hal1 : (a : Int) < i := by omega
                obtain ⟨t, ht⟩ : ∃ t, ts[a]? = some t := ⟨_, List.getElem?_eq_getElem (by rw [HTL.out]; exact hal)⟩
                have HT := Lib.hid ht
                clear ht
                obtain ⟨g1, hg1⟩ : ∃ g1, g1 = gk := ⟨_, rfl⟩
                subst hg1
                go_upto_region 16 with (fail)
                go_loopg [12] (te + 1) (fun k v12 wr => ∃ f : Nat, v12 = .int .i64 f ∧ f ≤ te ∧ te - f < k ∧ Hid (NoFrom t s.data.toList f te) ∧ Hid (RfS w wr B s ts (.slice (some ⟨g, 0, none⟩) i cap) i L))
                case atStart => exact ⟨0, rfl, by omega, by omega, Lib.hid (fun q h => absurd h (Nat.not_lt_zero _)), HX⟩
                case round =>
                  clear HX
                  obtain ⟨f, rfl, hf, hfk, HF, HX⟩ := hrel
                  have hf0 : (0 : Int) ≤ f := by omega
                  by_cases hfl : f < te
                  · have hfl1 : (f : Int) < te := by omega
                    have hf1 : (f : Int) < s.size + 1 := by omega
                    have hf2 : f < s.size + 1 := by omega
                    have ht0 : (0 : Int) ≤ te := by omega
                    have ht2 : (te : Int) < s.size + 1 := by omega
                    have ht3 : te < s.size + 1 := by omega
                    obtain ⟨b, cb, b', cb', r0, r1, r2⟩ := HX.out.read HOK.out HT.out hal (Nat.le_of_lt hfl) hte
                    cases hh : fitAt t s.data.toList f te with
                    | true =>
                      have HR : Hid (FirstIs ps s.data.toList w (firstV (some (a, f, te))) wr ∧ wr.heap[B]? = some (.cells (hitC 0 0 0) THit (0, 0))) := Lib.hid ⟨⟨HX.out.up, .inr ⟨HTS.out.1, ts, HTS.out.2, by rw [first_found ht1 hte HE.out HA.out HT.out HF.out hfl hh]⟩⟩, HX.out.box⟩
                      rw [hh] at r2
                      clear hh HX
                      obtain ⟨k0, k1, k2, kf⟩ := box_cells HR.out.2
                      go_wp2_with fail
                      refine bodyPost_ret (results_rfirst rfl rfl (box_set HR.out.2 a f te)) rfl ⟨HR.out.1.1.trans (by rw [HB.out]; exact (box_below B _ _ _ _)), HR.out.1.2⟩
                    | false =>
                      have HF2 : Hid (NoFrom t s.data.toList (f + 1) te) := Lib.hid (fun q hq => by
                        by_cases e : q < f
                        · exact HF.out q e
                        · obtain rfl : q = f := by omega
                          exact hh)
                      rw [hh] at r2
                      clear hh
                      go_wp2_with fail
                      clear r0 r1 r2
                      go_roundg (gk - 1)
                      case measure => omega
                      case rel => exact ⟨f + 1, by go_num, by omega, by omega, HF2, HX⟩
                  · obtain rfl : f = te := by omega
                    have HA2 : Hid (NoArm ts s.data.toList (a + 1) f) := Lib.hid (fun b t' hb ht' => by
                      by_cases e : b < a
                      · exact HA.out b t' e ht'
                      · obtain rfl : b = a := by omega
                        have := HT.out.symm.trans ht'
                        cases this
                        exact HF.out)
                    go_wp2_with fail
                    go_roundg (g1 - 1)
                    case measure => omega
                    case rel => exact ⟨a + 1, by go_num, by omega, by omega, HA2, HX⟩
              · obtain rfl : a = i := by omega
                have HE2 : Hid (NoEnd ts s.data.toList (te + 1)) := Lib.hid (fun j h1 h2 => by
                  by_cases e : j < te
                  · exact HE.out j h1 e
                  · obtain rfl : j = te := by omega
                    rw [HTL.out]
                    exact HA.out)
                go_wp2_with fail
                go_roundg (g0 - 1)
                case measure => omega
                case rel => exact ⟨te + 1, by go_num, by omega, by omega, by omega, HE2, HX⟩
          · obtain rfl : te = s.size + 1 := by omega
            have hte1 : ¬ ((s.size + 1 : Nat) : Int) ≤ s.size := by omega
            have HR : Hid (FirstIs ps s.data.toList w (firstV none) wr ∧ wr.heap[B]? = some (.cells (hitC 0 0 0) THit (0, 0))) := Lib.hid ⟨⟨HX.out.up, .inr ⟨HTS.out.1, ts, HTS.out.2, by rw [first_no (l := s.data.toList) HE.out]⟩⟩, HX.out.box⟩
            clear HX
            obtain ⟨k0, k1, k2, kf⟩ := box_cells HR.out.2
            go_wp2_with fail
            refine bodyPost_ret (results_rfirst rfl rfl (box_set HR.out.2 0 0 0)) rfl ⟨HR.out.1.1.trans (by rw [HB.out]; exact (box_below B _ _ _ _)), HR.out.1.2⟩
theorem FirstIs.form {ps : List Pat} {s : List UInt8} {w w' : World} {e : Ending} (h : FirstIs ps s w e w') : ∃ (ok : Bool) (a p te : Nat), e = .returned (.tuple #[.agg #[.int .i64 a, .int .i64 p, .int .i64 te], .bool ok]) := by
  rcases h.2 with ⟨_, he⟩ | ⟨_, ts, _, he⟩
  · exact ⟨false, 0, 0, 0, he⟩
  · cases hf : first ts s with
    | none => rw [hf] at he; exact ⟨false, 0, 0, 0, he⟩
    | some f => obtain ⟨a, p, e'⟩ := f; rw [hf] at he; exact ⟨true, a, p, e', he⟩
theorem FirstIs.one {ps : List Pat} {s : List UInt8} {w w' u u' : World} {e e' : Ending} (h : FirstIs ps s w e w') (k : FirstIs ps s u e' u') : e' = e := by
  rcases h.2 with ⟨n1, he⟩ | ⟨y1, ts, h1, he⟩ <;> rcases k.2 with ⟨n2, ke⟩ | ⟨y2, ts2, h2, ke⟩
  · rw [he, ke]
  · exact absurd y2 n1
  · exact absurd y1 n2
  · rw [he, ke, h1.one h2]
end Go.Proofs.YtfhggnbnbopkkaaDoor
