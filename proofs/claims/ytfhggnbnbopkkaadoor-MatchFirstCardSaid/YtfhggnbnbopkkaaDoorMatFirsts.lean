/- MatchFirst: the first match in a text is the document's. -/
import Derived.Test.YtfhggnbnbopkkaaDoorRefFirst
namespace Go.Proofs.YtfhggnbnbopkkaaDoor
open Go.RowKit PM

set_option maxRecDepth 100000
set_option maxHeartbeats 8000000 in
theorem matchFirst_walk (A : Option Addr) (c : Nat) (ps : List Pat) (s : ByteArray) (w : World) (hP : PIn w A ps) (hn : ps.length ≤ 9223372036854775807) (hs : s.size ≤ 140737488355327) (hT : Tab w) :
    Calls Tryd.prog 3 #[.slice A ps.length c, .string s] w fun e w' => e = .returned (.bool true) ∧ Below w.heap.size w w' := by
  have HW := Lib.hid (works_any w hT)
  have HI := Lib.hid (And.intro hP (And.intro hT hn))
  obtain ⟨n, hpn⟩ : ∃ n, ps.length = n := ⟨_, rfl⟩
  have HN := Lib.hid hpn
  rw [hpn] at hn
  rw [hpn]
  clear hP hT hpn
  go_enter Tryd.func3, Tryd.ntmps3
  go_wp2_with fail
  refine HW.out.mono ?_
  rintro e W1 ⟨rfl, hup⟩
  have H1 := Lib.hid hup
  clear hup HW
  by_cases hbig : 60 < s.size
  · have hbig1 : (60 : Int) < s.size := by omega
    go_wp2_with fail
    go_ret
    exact ⟨rfl, H1.out⟩
  · have hbig1 : ¬ (60 : Int) < s.size := by omega
    have hs6 : s.size ≤ 1000 := by omega
    have hs7 : s.size ≤ 5000000 := by omega
    have HD := Lib.hid (deep_any A c ps W1 (HI.out.1.on H1.out) HI.out.2.2)
    rw [HN.out] at HD
    go_wp2_with fail
    refine HD.out.mono ?_
    rintro e W2 ⟨r, rfl, hup⟩
    have H2 := Lib.hid (below_then H1.out hup (Nat.le_refl _))
    clear hup HD H1
    cases r with
    | true =>
      go_wp2_with fail
      go_ret
      exact ⟨rfl, H2.out⟩
    | false =>
      have HFR := Lib.hid (first_any A c ps s W2 (HI.out.1.on H2.out) (tab_on HI.out.2.1 H2.out) HI.out.2.2 hs7)
      rw [HN.out] at HFR
      go_wp2_with fail
      refine HFR.out.mono ?_
      intro e W3 hfi
      obtain ⟨ok, a, p, te, rfl⟩ := hfi.form
      have hb := below_new W3 (.cells #[.int .i64 a, .int .i64 p, .int .i64 te] THit)
      have HX4 := Lib.hid (And.intro (below_then (below_then H2.out hfi.1 (Nat.le_refl _)) hb (Nat.le_refl _)) (heap_alloc_new W3 (.cells #[.int .i64 a, .int .i64 p, .int .i64 te] THit)))
      have HF := Lib.hid hfi
      clear hfi hb HFR H2
      go_upto_region 6 with (fail)
      change Code.wp _ _ _ _ (W3.alloc (.cells #[.int .i64 a, .int .i64 p, .int .i64 te] THit))
      generalize W3.alloc (.cells #[.int .i64 a, .int .i64 p, .int .i64 te] THit) = W4 at *
      obtain ⟨b1, hb1⟩ : ∃ b1, W3.heap.size = b1 := ⟨_, rfl⟩
      rw [hb1] at HX4 ⊢
      clear hb1
      have HFR := Lib.hid (rfirst_any A c ps s W4 (HI.out.1.on HX4.out.1) HI.out.2.2 hs6)
      rw [HN.out] at HFR
      go_wp2_with fail
      refine HFR.out.mono ?_
      intro e W5 hfi
      obtain rfl := HF.out.one hfi
      have hup := hfi.1
      have hb := below_new W5 (.cells #[.int .i64 a, .int .i64 p, .int .i64 te] THit)
      have HX6 := Lib.hid (And.intro (below_then (below_then HX4.out.1 hup (Nat.le_refl _)) hb (Nat.le_refl _)) (And.intro ((hb.block b1 (Nat.lt_of_lt_of_le (lt_of_block HX4.out.2) hup.size)).trans ((hup.block b1 (lt_of_block HX4.out.2)).trans HX4.out.2)) (heap_alloc_new W5 (.cells #[.int .i64 a, .int .i64 p, .int .i64 te] THit))))
      clear hfi hup hb HFR HX4 HF
      go_upto_region 7 with (fail)
      change Code.wp _ _ _ _ (W5.alloc (.cells #[.int .i64 a, .int .i64 p, .int .i64 te] THit))
      generalize W5.alloc (.cells #[.int .i64 a, .int .i64 p, .int .i64 te] THit) = W6 at *
      generalize W5.heap.size = b2 at *
      obtain ⟨c0, c1, c2, _⟩ := box_cells HX6.out.2.1
      obtain ⟨d0, d1, d2, _⟩ := box_cells HX6.out.2.2
      have hq := eq_hit
      cases ok with
      | true =>
        go_wp2_with fail
        go_ret
        exact ⟨by simp, HX6.out.1⟩
      | false =>
        go_wp2_with fail
        go_ret
        exact ⟨by simp, HX6.out.1⟩
end Go.Proofs.YtfhggnbnbopkkaaDoor
