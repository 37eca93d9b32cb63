/- MatchKeeps: of a text its last bytes are kept. -/
import Derived.Test.YtfhggnbnbopkkaaDoorMatWorks
namespace Go.Proofs.YtfhggnbnbopkkaaDoor
open Go.RowKit PM

set_option maxRecDepth 100000
/-- what is kept, as a text -/
def keepS (s : ByteArray) : ByteArray := ⟨(keep s.data.toList).toArray⟩
theorem keepS_size (s : ByteArray) : (keepS s).size ≤ 256 := by
  show (keep s.data.toList).toArray.size ≤ 256
  rw [List.size_toArray]
  exact keep_len _
theorem keepS_extract (s : ByteArray) : keepS s = s.extract (s.size - 256) s.size := by
  unfold keepS
  apply ByteArray.ext
  rw [ByteArray.data_extract]
  apply Array.ext'
  show keep s.data.toList = _
  unfold keep keepN
  rw [Array.toList_extract, List.extract_eq_take_drop]
  rw [List.take_of_length_le (by rw [List.length_drop]; show s.size - (s.size - 256) ≤ _; exact Nat.le_refl _)]
  rfl
theorem keepS_short {s : ByteArray} (h : s.size ≤ 256) : keepS s = s := by
  unfold keepS
  rw [keep_short (show s.data.toList.length ≤ 256 from h)]
theorem keepS_append (a b : ByteArray) : keepS (keepS a ++ b) = keepS (a ++ b) := by
  unfold keepS
  have e1 : ((⟨(keep a.data.toList).toArray⟩ : ByteArray) ++ b).data.toList = keep a.data.toList ++ b.data.toList := by rw [ByteArray.data_append]; simp
  have e2 : (a ++ b).data.toList = a.data.toList ++ b.data.toList := by rw [ByteArray.data_append]; simp
  rw [e1, e2, keep_append]
/-- the document's -/
theorem rkeep_any (s : ByteArray) (w : World) (hs : s.size ≤ 9223372036854775807) :
    Calls Tryd.prog 17 #[.string s] w fun e w' => e = .returned (.string (keepS s)) ∧ w' = w := by
  by_cases h : 256 < s.size
  · have HK := Lib.hid (keepS_extract s)
    go_enter Tryd.func17, Tryd.ntmps17
    go_wp2_with fail
    go_ret
    have e : ((s.size : Int) - 256).toNat = s.size - 256 := by omega
    refine ⟨?_, rfl⟩
    rw [HK.out]
    first | rfl | (rw [e]; rfl)
  · have HK := Lib.hid (keepS_short (s := s) (by omega))
    go_enter Tryd.func17, Tryd.ntmps17
    go_wp2_with fail
    go_ret
    exact ⟨by rw [HK.out]; rfl, rfl⟩
theorem keepS_any (s : ByteArray) (w : World) (hs : s.size ≤ 9223372036854775807) :
    Calls Tryd.prog 16 #[.string s] w fun e w' => e = .returned (.string (keepS s)) ∧ w' = w := keep_any s w hs
set_option maxHeartbeats 4000000 in
theorem matchKeeps_walk (s m : ByteArray) (w : World) (h1 : s.size ≤ 140737488355327) (h2 : m.size ≤ 140737488355327) (hT : Tab w) :
    Calls Tryd.prog 5 #[.string s, .string m] w fun e w' => e = .returned (.bool true) ∧ Below w.heap.size w w' := by
  have HW := Lib.hid (works_any w hT)
  clear hT
  go_enter Tryd.func5, Tryd.ntmps5
  go_wp2_with fail
  refine HW.out.mono ?_
  rintro e W1 ⟨rfl, hup⟩
  have HU := Lib.hid hup
  clear hup HW
  by_cases hbig : 1048576 < s.size + m.size
  · go_wp2_with fail
    go_ret
    exact ⟨rfl, HU.out⟩
  · have hs1 : s.size ≤ 9223372036854775807 := by omega
    have H1 := Lib.hid (keepS_any s W1 hs1)
    have H2 := Lib.hid (rkeep_any s W1 hs1)
    have hks := keepS_size s
    have HA := Lib.hid (keepS_append s m)
    obtain ⟨K, hK⟩ : ∃ K, keepS s = K := ⟨_, rfl⟩
    rw [hK] at H1 H2 hks HA
    clear hK
    go_wp2_with fail
    refine H1.out.mono ?_
    rintro e W2 ⟨rfl, rfl⟩
    go_wp2_with fail
    refine H2.out.mono ?_
    rintro e W3 ⟨rfl, rfl⟩
    have H3 := Lib.hid (keepS_any (K ++ m) W3 (by rw [ByteArray.size_append]; omega))
    have H4 := Lib.hid (keepS_any (s ++ m) W3 (by rw [ByteArray.size_append]; omega))
    rw [HA.out] at H3
    obtain ⟨K2, hK2⟩ : ∃ K, keepS (s ++ m) = K := ⟨_, rfl⟩
    rw [hK2] at H3 H4
    clear hK2
    go_wp2_with fail
    refine H1.out.mono ?_
    rintro e W6 ⟨rfl, rfl⟩
    go_wp2_with fail
    refine H3.out.mono ?_
    rintro e W4 ⟨rfl, rfl⟩
    go_wp2_with fail
    refine H4.out.mono ?_
    rintro e W5 ⟨rfl, rfl⟩
    go_wp2_with fail
    go_ret
    exact ⟨by simp, HU.out⟩
end Go.Proofs.YtfhggnbnbopkkaaDoor
