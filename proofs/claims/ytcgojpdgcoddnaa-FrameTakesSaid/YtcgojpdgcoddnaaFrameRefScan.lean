/- The document's Scan of frames. -/
import Derived.Test.YtcgojpdgcoddnaaFrameRefTake
import Derived.Test.YtcgojpdgcoddnaaFrameCut
namespace Go.Proofs.Ytcgojpdgcoddnaa
open Go.RowKit

set_option maxRecDepth 100000 in
set_option maxHeartbeats 4000000 in
theorem refScan_any (s : ByteArray) (hs : s.size ≤ 1099511627776) (w : World) :
    Calls Try.prog 15 #[.string s] w fun e w' => ∃ A c, e = .returned (.tuple #[.slice A (pays (FM.chunks (s.size + 1) s.data.toList 0)).length c, .int .i64 (FM.good (FM.chunks (s.size + 1) s.data.toList 0) : Nat)]) ∧
      SArg w' w'.heap.size A (pays (FM.chunks (s.size + 1) s.data.toList 0)) ∧ Below w.heap.size w w' := by
  obtain ⟨i0, hi0, hz0, hz1, hz2⟩ := info_string
  generalize hxs : FM.chunks (s.size + 1) s.data.toList 0 = xs
  have HXS := Lib.hid hxs; clear hxs
  go_enter Try.func15, Try.ntmps15
  go_wp2
  go_loopw [4, 5] (fun v i wr => ∃ (k a : Nat) (pre : List (Nat × List UInt8)), a ≤ s.size ∧ s.size < a + k ∧ i = .int .i64 a ∧ Hid (xs = pre ++ FM.chunks k s.data.toList a) ∧ Hid (FM.good pre = a) ∧ Hid (pre.length ≤ a) ∧
      Hid (OwnS wr w.heap.size v (pays pre)) ∧ Below w.heap.size w wr)
    (fun _ i _ => s.size + 1 - (intOf i).toNat)
  case atStart => exact ⟨s.size + 1, 0, [], by omega, by omega, rfl, Lib.hid HXS.out.symm, Lib.hid rfl, Lib.hid (Nat.le_refl _), Lib.hid (World.ownsRow_nil _ _ _ _), Below.refl _ _⟩
  case round =>
    obtain ⟨k, a, pre, hk, hka, rfl, HX0, HG, HL, HO, hbr⟩ := hrel
    have e1 : (0 : Int) ≤ a := by omega
    have e2 : (a : Int) ≤ s.size := by omega
    go_wp2_with fail
    have hx := HX0.out
    have hxt : (s.extract a s.size).data.toList = s.data.toList.drop a := by
      rw [Lib.extract_data, List.take_of_length_le (by rw [List.length_drop]; exact Nat.le_refl _)]
    have hok := FM.take_ok (s.data.toList.drop a)
    have hdl : (s.data.toList.drop a).length = s.size - a := by rw [List.length_drop]; rfl
    rw [hdl] at hok
    obtain ⟨k, rfl⟩ : ∃ k', k = k' + 1 := ⟨k - 1, by omega⟩
    simp only [FM.chunks] at hx
    have hT := refTake_any (s.extract a s.size) wr (by rw [ByteArray.size_extract]; omega)
    rw [hxt] at hT
    generalize hr : FM.take (s.data.toList.drop a) = r at *
    obtain ⟨p, m, er⟩ := r
    simp only [] at hok hx
    have HX := Lib.hid hx; have HOK := Lib.hid hok
    clear hx hok hxt hdl hr HX0
    refine hT.mono ?_
    rintro e w2 ⟨rfl, hb2⟩
    simp only [tookV]
    have HO2 := Lib.hid (ownsRow_below HO.out hb2)
    have H2 := Lib.hid (below_then hbr hb2 (Nat.le_refl _))
    clear hT hb2 HO hbr
    by_cases he : er = 0
    · subst he
      obtain ⟨hm1, hm2⟩ := HOK.out rfl
      have hx2 := HX.out
      rw [if_pos rfl] at hx2
      have HX2 := Lib.hid hx2; have HM1 := Lib.hid hm1
      clear hx2 HX HOK hm1
      have hpl : Hid ((pays pre).length = pre.length) := Lib.hid (by simp [pays])
      have hlen := HL.out
      go_wp2_with (at_builtin; refine wpList_append_own _ rfl _ _ 32 rfl w.heap.size 9 i0 (.string ByteArray.empty) 1 16 Try.underlying32 hi0 hz0 hz1 hz2 rfl (by decide) _ _ _ rfl (World.ownsRow.alloc HO2.out _) ⟨w2.heap.size, 0, none⟩ 1 1 [.string (bs p)] rfl rfl (cell_one_new _ _ _) (by simp [Value.oneCell']) (by rw [hpl.out]; unfold maxLen; omega) (by rw [hpl.out]; omega) (by have := H2.out.size; simp; omega) ?_; intro v' w3 hown' hgrow _)
      have ep : pays (pre ++ [(a, p)]) = pays pre ++ [bs p] := by simp [pays]
      have es : strs (pays pre ++ [bs p]) = strs (pays pre) ++ [.string (bs p)] := by simp [strs]
      have HO3 : Hid (OwnS w3 w.heap.size v' (pays (pre ++ [(a, p)]))) := Lib.hid (by
        show w3.ownsRow _ _ _ _ _ _
        rw [ep, es, List.length_append]; exact hown')
      have HB3 : Below w.heap.size w w3 := (H2.out.alloc (by have := H2.out.size; omega) _).grown hgrow (by have := H2.out.size; simp; omega) (fun j ej => (World.ownsRow.lt HO2.out _ ej).1)
      clear hown' hgrow
      go_wp2_with fail
      have hm := HM1.out
      refine ⟨⟨k, a + m, pre ++ [(a, p)], by omega, by omega, by go_num, Lib.hid (by rw [HX2.out]; simp), Lib.hid (by rw [FM.good_snoc]; show a + 8 + p.length + 4 = a + m; omega), Lib.hid (by rw [List.length_append]; show pre.length + 1 ≤ a + m; omega), HO3, HB3⟩, by simp [intOf]; omega⟩
    · have hx2 := HX.out
      rw [if_neg he] at hx2
      have e3 : ((er : Int) != 0) = true := by rw [bne_iff_ne]; omega
      clear HX HOK
      obtain ⟨A, c, rfl, ha⟩ := OwnS.arg HO2.out
      have HA := Lib.hid ha; clear ha HO2
      have HX2 := Lib.hid hx2; clear hx2
      have hG := HG.out
      go_wp2_with fail
      have hx3 : xs = pre := by rw [HX2.out]; simp
      subst hx3
      subst hG
      go_ret2
      exact ⟨A, c, rfl, HA.out, H2.out⟩

end Go.Proofs.Ytcgojpdgcoddnaa
