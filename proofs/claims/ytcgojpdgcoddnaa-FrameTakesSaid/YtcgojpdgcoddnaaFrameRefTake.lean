/- The document's Take of a frame. -/
import Derived.Test.YtcgojpdgcoddnaaFrameTake
import Derived.Deep.QuietTactic
import Derived.BigQuiet
import Derived.Deep.RegionWith
namespace Go.Proofs.Ytcgojpdgcoddnaa
open Go.RowKit

namespace FM
open WM CrcMath
theorem list4 (l : List UInt8) (h : 4 ≤ l.length) : ∃ t, l = l[0] :: l[1] :: l[2] :: l[3] :: t := by
  match l, h with
  | a :: b :: c :: d :: t, _ => exact ⟨t, rfl⟩
theorem val4 (l : List UInt8) (h : 4 ≤ l.length) : val (l.take 4) = l[0].toNat * 16777216 + l[1].toNat * 65536 + l[2].toNat * 256 + l[3].toNat := by
  match l, h with
  | a :: b :: c :: d :: t, _ => simp [val]; omega

/-- the document's test of a frame is ours -/
theorem frame_eq (L : List UInt8) (h8 : 8 ≤ L.length) (hc : val ((L.drop 4).take 4) = crc (L.take 4)) (hl : val (L.take 4) + 12 ≤ L.length) :
    frame ((L.drop 8).take (val (L.take 4))) = L.take (val (L.take 4) + 12) ↔ val ((L.drop (8 + val (L.take 4))).take 4) = crc ((L.drop 8).take (val (L.take 4))) := by
  have h4 : be 4 (val (L.take 4)) = L.take 4 := by
    have := be_val (L.take 4)
    rwa [show (L.take 4).length = 4 from by rw [List.length_take]; omega] at this
  have h48 : be 4 (crc (L.take 4)) = (L.drop 4).take 4 := by
    have := be_val ((L.drop 4).take 4)
    rw [hc, show ((L.drop 4).take 4).length = 4 from by rw [List.length_take, List.length_drop]; omega] at this
    exact this
  generalize hn : val (L.take 4) = n at *
  have hp : ((L.drop 8).take n).length = n := by rw [List.length_take, List.length_drop]; omega
  have hsplit : L.take (n + 12) = L.take 4 ++ (L.drop 4).take 4 ++ (L.drop 8).take n ++ (L.drop (8 + n)).take 4 := by
    rw [show n + 12 = 4 + (4 + (n + 4)) from by omega, List.take_add, List.take_add, List.take_add]
    simp only [List.drop_drop, List.append_assoc]
  have hf : frame ((L.drop 8).take n) = L.take 4 ++ (L.drop 4).take 4 ++ (L.drop 8).take n ++ be 4 (crc ((L.drop 8).take n)) := by
    unfold frame head
    rw [hp, h4, h48]
  rw [hf, hsplit, List.append_cancel_left_eq]
  have hlast : ((L.drop (8 + n)).take 4).length = 4 := by rw [List.length_take, List.length_drop]; omega
  constructor
  · intro h
    rw [← h, val_be 4 _ (crc_lt' _)]
  · intro h
    have := be_val ((L.drop (8 + n)).take 4)
    rw [hlast, h] at this
    exact this
end FM

theorem toList_inj {a b : ByteArray} (h : a.toList = b.toList) : a = b := by
  have h2 : a.data.toList = b.data.toList := by rw [← ByteArray.toList_eq a, ← ByteArray.toList_eq b]; exact h
  exact ByteArray.ext (Array.ext' h2)
theorem str_ne {a b : ByteArray} (h : ¬ a = b) : (a.toList == b.toList) = false := by rw [beq_eq_false_iff_ne]; exact fun h2 => h (toList_inj h2)
theorem str_eq {a b : ByteArray} (h : a = b) : (a.toList == b.toList) = true := by rw [h]; simp

theorem wrap64_small (z : Int) (h : -9223372036854775808 ≤ z ∧ z ≤ 9223372036854775807) : wrap64 z = z := by unfold wrap64; omega
theorem wrap_four (a b c d : Nat) (ha : a < 256) (hb : b < 256) (hc : c < 256) (hd : d < 256) :
    wrap64 (wrap64 (wrap64 (wrap64 (wrap64 (a : Nat) * 16777216) + wrap64 (wrap64 (b : Nat) * 65536)) + wrap64 (wrap64 (c : Nat) * 256)) + wrap64 (d : Nat)) = ((a * 16777216 + b * 65536 + c * 256 + d : Nat) : Int) := by
  rw [wrap64_small (a : Nat) (by omega), wrap64_small (b : Nat) (by omega), wrap64_small (c : Nat) (by omega), wrap64_small (d : Nat) (by omega)]
  rw [wrap64_small ((a : Nat) * 16777216) (by omega), wrap64_small ((b : Nat) * 65536) (by omega), wrap64_small ((c : Nat) * 256) (by omega)]
  rw [wrap64_small ((a : Nat) * 16777216 + (b : Nat) * 65536) (by omega)]
  rw [wrap64_small (((a : Nat) * 16777216 + (b : Nat) * 65536) + (c : Nat) * 256) (by omega)]
  rw [wrap64_small _ (by omega)]
  omega

set_option maxRecDepth 100000 in
set_option maxHeartbeats 4000000 in
theorem refTake_any (s : ByteArray) (w : World) (hs : s.size ≤ 4611686018427387904) :
    Calls Try.prog 14 #[.string s] w fun e w' => e = .returned (tookV (FM.take s.data.toList)) ∧ Below w.heap.size w w' := by
  have hsz : s.data.toList.length = s.size := rfl
  by_cases h8 : s.size < 8
  · have hx : FM.take s.data.toList = ([], 0, 30) := by unfold FM.take; rw [if_pos (by omega)]
    rw [hx]; clear hx
    have hd : decide ((s.size : Int) < 8) = true := by simp; omega
    go_enter Try.func14, Try.ntmps14
    go_wp2
    exact bodyPost_ret (results_tmp3 rfl _ _ _) rfl ⟨rfl, Below.refl _ _⟩
  have hd : decide ((s.size : Int) < 8) = false := by simp; omega
  have hx : FM.take s.data.toList = (if 4096 < WM.val (s.data.toList.take 4) ∨ WM.val ((s.data.toList.drop 4).take 4) ≠ CrcMath.crc (s.data.toList.take 4) then ([], 0, 7)
    else if s.size < 12 + WM.val (s.data.toList.take 4) then ([], 0, 30)
    else if WM.val ((s.data.toList.drop (8 + WM.val (s.data.toList.take 4))).take 4) ≠ CrcMath.crc ((s.data.toList.drop 8).take (WM.val (s.data.toList.take 4))) then ([], 0, 7)
    else ((s.data.toList.drop 8).take (WM.val (s.data.toList.take 4)), 12 + WM.val (s.data.toList.take 4), 0)) := by
    unfold FM.take; rw [if_neg (by omega), hsz]
  rw [hx]; clear hx
  have k0 : 0 < s.size := by omega
  have k1 : 1 < s.size := by omega
  have k2 : 2 < s.size := by omega
  have k3 : 3 < s.size := by omega
  have hfe := FM.frame_eq s.data.toList (by omega)
  have hv4 := FM.val4 s.data.toList (by omega)
  have g0 : s.data.toList[0]'(by omega) = s[0] := rfl
  have g1 : s.data.toList[1]'(by omega) = s[1] := rfl
  have g2 : s.data.toList[2]'(by omega) = s[2] := rfl
  have g3 : s.data.toList[3]'(by omega) = s[3] := rfl
  rw [g0, g1, g2, g3] at hv4
  have b0 := s[0].toNat_lt
  have b1 := s[1].toNat_lt
  have b2 := s[2].toNat_lt
  have b3 := s[3].toNat_lt
  have hw : wrap64 (wrap64 (wrap64 (wrap64 (wrap64 (s[0].toNat : Nat) * 16777216) + wrap64 (wrap64 (s[1].toNat : Nat) * 65536)) + wrap64 (wrap64 (s[2].toNat : Nat) * 256)) + wrap64 (s[3].toNat : Nat)) = ((WM.val (s.data.toList.take 4) : Nat) : Int) := by
    rw [hv4]
    exact wrap_four _ _ _ _ b0 b1 b2 b3
  have HW := Lib.hid hw
  clear hw hv4 b0 b1 b2 b3 g0 g1 g2 g3
  have hp4 : s.extract 0 4 = bs (s.data.toList.take 4) := by rw [ext_bs]; rfl
  have hp8 : s.extract 4 8 = bs ((s.data.toList.drop 4).take 4) := by rw [ext_bs]
  have hpn : ∀ n, s.extract 8 (8 + n) = bs ((s.data.toList.drop 8).take n) := fun n => by rw [ext_bs, Nat.add_sub_cancel_left]
  have hp12 : ∀ n, s.extract 0 n = bs (s.data.toList.take n) := fun n => by rw [ext_bs]; rfl
  have hl48 : ((s.data.toList.drop 4).take 4).length = 4 := by rw [List.length_take, List.length_drop]; omega
  have hcr := crc32 (s.data.toList.take 4)
  have hbig := WM.val_lt (s.data.toList.take 4)
  rw [show (s.data.toList.take 4).length = 4 from by rw [List.length_take]; omega] at hbig
  have hbe : WM.val ((s.data.toList.drop 4).take 4) = CrcMath.crc (s.data.toList.take 4) ↔ bs (WM.be 4 (CrcMath.crc (s.data.toList.take 4))) = s.extract 4 8 := by
    rw [hp8]
    constructor
    · intro h
      rw [← h]
      have := WM.be_val ((s.data.toList.drop 4).take 4)
      rw [hl48] at this
      rw [this]
    · intro h
      have h2 := congrArg (fun b : ByteArray => b.data.toList) h
      simp only [bs_list] at h2
      rw [← h2, WM.val_be 4 _ hcr]
  have hn4 : ∀ a b : List UInt8, a = b ↔ bs a = bs b := fun a b => ⟨fun h => by rw [h], fun h => by have h2 := congrArg (fun b : ByteArray => b.data.toList) h; simpa only [bs_list] using h2⟩
  generalize hn : WM.val (s.data.toList.take 4) = n at *
  clear hn
  have hpns := (bs_size ((s.data.toList.drop 8).take n))
  rw [List.length_take, List.length_drop] at hpns
  have hbe2 : n + 12 ≤ s.size → (WM.val ((s.data.toList.drop 4).take 4) = CrcMath.crc (s.data.toList.take 4) → (WM.val ((s.data.toList.drop (8 + n)).take 4) = CrcMath.crc ((s.data.toList.drop 8).take n) ↔ bs (FM.frame ((s.data.toList.drop 8).take n)) = s.extract 0 (n + 12))) := by
    intro h1 h2
    rw [hp12, ← hn4]
    exact (hfe h2 (by omega)).symm
  have hl' : (bs (s.data.toList.take 4)).size ≤ 100 := by rw [bs_size, List.length_take]; omega
  have hbn : n < 4294967296 := by simpa using hbig
  have HRE := Lib.hid (refPut_any (bs ((s.data.toList.drop 8).take n)))
  rw [bs_list] at HRE
  have hp' : n ≤ 4096 → (bs ((s.data.toList.drop 8).take n)).size < 4294967296 := fun h => by rw [hpns]; omega
  have hwr : IntKind.u64.wrap ((CrcMath.crc (s.data.toList.take 4) : Nat) : Int) = (CrcMath.crc (s.data.toList.take 4) : Nat) := IntWalk.u64_in _ (by omega)
  have HWR := Lib.hid hwr
  clear hwr
  have HP4 := Lib.hid hp4; have HPN := Lib.hid (hpn n); have HBE := Lib.hid hbe; have HBE2 := Lib.hid hbe2
  have HCR := Lib.hid (show CrcMath.crc (bs (s.data.toList.take 4)).data.toList = CrcMath.crc (s.data.toList.take 4) by rw [bs_list])
  clear hp4 hp8 hpn hp12 hl48 hbig hbe hbe2 hn4 hpns hfe
  generalize CrcMath.crc (s.data.toList.take 4) = cr at *
  generalize WM.val ((s.data.toList.drop 4).take 4) = own at *
  have h1 : (1 : Int) < s.size := by omega
  have h2 : (2 : Int) < s.size := by omega
  have h3 : (3 : Int) < s.size := by omega
  have h0 : (0 : Int) < s.size := by omega
  have k8 : 8 ≤ s.size := by omega
  have k8i : (8 : Int) ≤ s.size := by omega
  have k4i : (4 : Int) ≤ s.size := by omega
  generalize hr' : (if 4096 < n ∨ own ≠ cr then ([], 0, 7) else _ : List UInt8 × Nat × Nat) = r
  have HR := Lib.hid hr'
  clear hr' hsz
  go_enter Try.func14, Try.ntmps14
  go_wp2_with fail
  go_quiet (fail)
  rw [HW.out]
  clear HW
  go_wp2_with fail
  by_cases hbig : 4096 < n
  · have e1 : decide (4096 < (n : Int)) = true := by simp; omega
    go_quiet (fail)
    go_wp2_with fail
    have hr := HR.out
    rw [if_pos (Or.inl hbig)] at hr
    subst hr
    exact bodyPost_ret (results_tmp3 rfl _ _ _) rfl ⟨rfl, below_drawn (below_drawn (Below.refl _ _) _) _⟩
  have e1 : decide (4096 < (n : Int)) = false := by simp; omega
  by_cases hown : own = cr
  · have e2 := str_eq (HBE.out.1 hown)
    refine wp_region_any (by kernel_rfl) ?_
    refine wpAny_take (i := 0) (v := ?_) (by simp only [List.getElem?_toArray, List.getElem?_cons_succ, List.getElem?_cons_zero]; rfl) (by kernel_rfl) (by kernel_rfl) (by kernel_rfl) (by exact fun _ _ _ h => h) (Or.inl ⟨by rfl, ?_⟩) ?_
    rotate_left
    · (intro w; go_simp)
      try with_reducible rfl
    try simp only [Act.put, List.setIfInBounds_toArray, List.set_cons_zero, List.set_cons_succ]
    refine wpAny_take (i := 1) (v := ?_) (by simp only [List.getElem?_toArray, List.getElem?_cons_succ, List.getElem?_cons_zero]; rfl) (by kernel_rfl) (by kernel_rfl) (by kernel_rfl) (by exact fun _ _ _ h => h) (Or.inl ⟨by rfl, ?_⟩) ?_
    rotate_left
    · (intro w; go_simp)
      try with_reducible rfl
    try simp only [Act.put, List.setIfInBounds_toArray, List.set_cons_zero, List.set_cons_succ]
    refine wpAny_take (i := 2) (v := ?_) (by simp only [List.getElem?_toArray, List.getElem?_cons_succ, List.getElem?_cons_zero]; rfl) (by kernel_rfl) (by kernel_rfl) (by kernel_rfl) (by exact fun _ _ _ h => h) (Or.inl ⟨by rfl, ?_⟩) ?_
    rotate_left
    · (intro w; go_simp)
      try with_reducible rfl
    try simp only [Act.put, List.setIfInBounds_toArray, List.set_cons_zero, List.set_cons_succ]
    refine wpAny_take (i := 3) (v := ?_) (by simp only [List.getElem?_toArray, List.getElem?_cons_succ, List.getElem?_cons_zero]; rfl) (by kernel_rfl) (by kernel_rfl) (by kernel_rfl) (by exact fun _ _ _ h => h) (Or.inl ⟨by rfl, ?_⟩) ?_
    rotate_left
    · (intro w; go_simp)
      try with_reducible rfl
    try simp only [Act.put, List.setIfInBounds_toArray, List.set_cons_zero, List.set_cons_succ]
    refine wpAny_take (i := 4) (v := ?_) (by simp only [List.getElem?_toArray, List.getElem?_cons_succ, List.getElem?_cons_zero]; rfl) (by kernel_rfl) (by kernel_rfl) (by kernel_rfl) (by exact fun _ _ _ h => h) (Or.inl ⟨by rfl, ?_⟩) ?_
    rotate_left
    · (intro w; go_simp)
      try with_reducible rfl
    try simp only [Act.put, List.setIfInBounds_toArray, List.set_cons_zero, List.set_cons_succ]
    refine wpAny_take (i := 8) (v := ?_) (by simp only [List.getElem?_toArray, List.getElem?_cons_succ, List.getElem?_cons_zero]; rfl) (by kernel_rfl) (by kernel_rfl) (by kernel_rfl) (by exact fun _ _ _ h => h) (Or.inl ⟨by rfl, ?_⟩) ?_
    rotate_left
    · (intro w; go_simp)
      try with_reducible rfl
    try simp only [Act.put, List.setIfInBounds_toArray, List.set_cons_zero, List.set_cons_succ]
    refine wpAny_take (i := 9) (v := ?_) (by simp only [List.getElem?_toArray, List.getElem?_cons_succ, List.getElem?_cons_zero]; rfl) (by kernel_rfl) (by kernel_rfl) (by kernel_rfl) (by exact fun _ _ _ h => h) (Or.inl ⟨by rfl, ?_⟩) ?_
    rotate_left
    · (intro w; go_simp)
      try with_reducible rfl
    try simp only [Act.put, List.setIfInBounds_toArray, List.set_cons_zero, List.set_cons_succ]
    refine wpAny_ready (rs := [5]) (by kernel_rfl) (by simp) ?_
    refine AllReady.cons (by simp only [List.getElem?_toArray, List.getElem?_cons_succ, List.getElem?_cons_zero]; rfl) (fun K hK => ?_) AllReady.nil
    go_simp
    rw [HP4.out]
    refine (refOf_any _ _ (by omega)).mono ?_
    rintro e w2 ⟨rfl, rfl⟩
    rw [HCR.out]
    simp only []
    refine hK _ _ ?_
    clear hK K
    try simp only [Act.put, List.setIfInBounds_toArray, List.set_cons_zero, List.set_cons_succ]
    refine wpAny_take (i := 6) (v := ?_) (by simp only [List.getElem?_toArray, List.getElem?_cons_succ, List.getElem?_cons_zero]; rfl) (by kernel_rfl) (by kernel_rfl) (by kernel_rfl) (by exact fun _ _ _ h => h) (Or.inl ⟨by rfl, ?_⟩) ?_
    rotate_left
    · (intro w; go_simp)
      try with_reducible rfl
    try simp only [Act.put, List.setIfInBounds_toArray, List.set_cons_zero, List.set_cons_succ]
    refine wpAny_ready (rs := [7]) (by kernel_rfl) (by simp) ?_
    refine AllReady.cons (by simp only [List.getElem?_toArray, List.getElem?_cons_succ, List.getElem?_cons_zero]; rfl) (fun K hK => ?_) AllReady.nil
    go_simp
    (try rw [HWR.out])
    refine (refNumber_any _ 4 _ (by omega) (by omega)).mono ?_
    rintro e w3 ⟨rfl, hb3⟩
    simp only []
    refine hK _ _ ?_
    clear hK K
    try simp only [Act.put, List.setIfInBounds_toArray, List.set_cons_zero, List.set_cons_succ]
    refine wpAny_take (i := 10) (v := ?_) (by simp only [List.getElem?_toArray, List.getElem?_cons_succ, List.getElem?_cons_zero]; rfl) (by kernel_rfl) (by kernel_rfl) (by kernel_rfl) (by exact fun _ _ _ h => h) (Or.inl ⟨by rfl, ?_⟩) ?_
    rotate_left
    · (intro w; go_simp)
      try with_reducible rfl
    try simp only [Act.put, List.setIfInBounds_toArray, List.set_cons_zero, List.set_cons_succ]
    refine wpAny_take (i := 11) (v := ?_) (by simp only [List.getElem?_toArray, List.getElem?_cons_succ, List.getElem?_cons_zero]; rfl) (by kernel_rfl) (by kernel_rfl) (by kernel_rfl) (by exact fun _ _ _ h => h) (Or.inl ⟨by rfl, ?_⟩) ?_
    rotate_left
    · (intro w; go_simp)
      try with_reducible rfl
    try simp only [Act.put, List.setIfInBounds_toArray, List.set_cons_zero, List.set_cons_succ]
    refine wpAny_done (by kernel_rfl) ?_ _
    have H3 : Hid (Below w.heap.size w w3) := Lib.hid ((below_drawn (Below.refl w.heap.size w) _).drew.trans hb3)
    clear hb3
    have hr := HR.out
    rw [if_neg (by rintro (h | h) <;> first | omega | exact h hown)] at hr
    have HR2 := Lib.hid hr; clear hr HR
    by_cases hshort : s.size < 12 + n
    · have e3 : decide ((s.size : Int) < (n : Int) + 12) = true := by simp; omega
      go_wp2_with fail
      have hr := HR2.out
      rw [if_pos hshort] at hr
      subst hr
      exact bodyPost_ret (results_tmp3 rfl _ _ _) rfl ⟨rfl, H3.out⟩
    have e3 : decide ((s.size : Int) < (n : Int) + 12) = false := by simp; omega
    have hr := HR2.out
    rw [if_neg hshort] at hr
    have HR3 := Lib.hid hr; clear hr HR2
    have g1 : (0 : Int) ≤ 8 + n := by omega
    have g2 : (8 : Int) ≤ 8 + n := by omega
    have g3 : (8 : Int) + n ≤ s.size := by omega
    have g4 : 8 + n ≤ s.size := by omega
    go_wp2_with fail
    rw [HPN.out]
    have hbe2 := HBE2.out (by omega) hown
    have HRP := Lib.hid (HRE.out w3.drew (hp' (by omega)))
    have g5 : (0 : Int) ≤ n + 12 := by omega
    have g6 : (n : Int) + 12 ≤ s.size := by omega
    have g7 : ((n : Int) + 12).toNat = n + 12 := by omega
    have g8 : n + 12 ≤ s.size := by omega
    have g9 : IntKind.i64.wrap ((n : Int) + 12) = n + 12 := IntWalk.i64_in _ (by omega)
    clear HRE HBE2 HPN
    generalize hP : (s.data.toList.drop 8).take n = P at *
    generalize hQ : bs (FM.frame P) = Q at *
    clear hP hQ
    by_cases hgood : WM.val ((s.data.toList.drop (8 + n)).take 4) = CrcMath.crc P
    · have e5 := str_eq (hbe2.1 hgood)
      have HG := Lib.hid hgood
      clear hbe2 hgood
      refine wp_region_any (by kernel_rfl) ?_
      refine wpAny_take (i := 0) (v := ?_) (by simp only [List.getElem?_toArray, List.getElem?_cons_succ, List.getElem?_cons_zero]; rfl) (by kernel_rfl) (by kernel_rfl) (by kernel_rfl) (by exact fun _ _ _ h => h) (Or.inl ⟨by rfl, ?_⟩) ?_
      rotate_left
      · (intro w; go_simp)
        try with_reducible rfl
      try simp only [Act.put, List.setIfInBounds_toArray, List.set_cons_zero, List.set_cons_succ]
      refine wpAny_take (i := 2) (v := ?_) (by simp only [List.getElem?_toArray, List.getElem?_cons_succ, List.getElem?_cons_zero]; rfl) (by kernel_rfl) (by kernel_rfl) (by kernel_rfl) (by exact fun _ _ _ h => h) (Or.inl ⟨by rfl, ?_⟩) ?_
      rotate_left
      · (intro w; go_simp)
        try with_reducible rfl
      try simp only [Act.put, List.setIfInBounds_toArray, List.set_cons_zero, List.set_cons_succ]
      refine wpAny_take (i := 3) (v := ?_) (by simp only [List.getElem?_toArray, List.getElem?_cons_succ, List.getElem?_cons_zero]; rfl) (by kernel_rfl) (by kernel_rfl) (by kernel_rfl) (by exact fun _ _ _ h => h) (Or.inl ⟨by rfl, ?_⟩) ?_
      rotate_left
      · (intro w; go_simp)
        try with_reducible rfl
      try simp only [Act.put, List.setIfInBounds_toArray, List.set_cons_zero, List.set_cons_succ]
      refine wpAny_take (i := 4) (v := ?_) (by simp only [List.getElem?_toArray, List.getElem?_cons_succ, List.getElem?_cons_zero]; rfl) (by kernel_rfl) (by kernel_rfl) (by kernel_rfl) (by exact fun _ _ _ h => h) (Or.inl ⟨by rfl, ?_⟩) ?_
      rotate_left
      · (intro w; go_simp)
        try with_reducible rfl
      try simp only [Act.put, List.setIfInBounds_toArray, List.set_cons_zero, List.set_cons_succ]
      refine wpAny_take (i := 5) (v := ?_) (by simp only [List.getElem?_toArray, List.getElem?_cons_succ, List.getElem?_cons_zero]; rfl) (by kernel_rfl) (by kernel_rfl) (by kernel_rfl) (by exact fun _ _ _ h => h) (Or.inl ⟨by rfl, ?_⟩) ?_
      rotate_left
      · (intro w; go_simp)
        try with_reducible rfl
      try simp only [Act.put, List.setIfInBounds_toArray, List.set_cons_zero, List.set_cons_succ]
      refine wpAny_ready (rs := [1]) (by kernel_rfl) (by simp) ?_
      refine AllReady.cons (by simp only [List.getElem?_toArray, List.getElem?_cons_succ, List.getElem?_cons_zero]; rfl) (fun K hK => ?_) AllReady.nil
      go_simp
      refine HRP.out.mono ?_
      rintro e w4 ⟨rfl, hb4⟩
      simp only []
      refine hK _ _ ?_
      clear hK K
      try simp only [Act.put, List.setIfInBounds_toArray, List.set_cons_zero, List.set_cons_succ]
      refine wpAny_take (i := 6) (v := ?_) (by simp only [List.getElem?_toArray, List.getElem?_cons_succ, List.getElem?_cons_zero]; rfl) (by kernel_rfl) (by kernel_rfl) (by kernel_rfl) (by exact fun _ _ _ h => h) (Or.inl ⟨by rfl, ?_⟩) ?_
      rotate_left
      · (intro w; go_simp)
        try with_reducible rfl
      try simp only [Act.put, List.setIfInBounds_toArray, List.set_cons_zero, List.set_cons_succ]
      refine wpAny_done (by kernel_rfl) ?_ _
      go_wp2_with fail
      have hr := HR3.out
      rw [if_neg (fun h => h HG.out)] at hr
      subst hr
      rw [Nat.add_comm 12 n]
      exact bodyPost_ret (results_tmp3 rfl _ _ _) rfl ⟨rfl, (H3.out.drew).trans (hb4.mono H3.out.size)⟩
    · have e5 := str_ne (fun h => hgood (hbe2.2 h))
      have HG := Lib.hid hgood
      clear hbe2 hgood
      refine wp_region_any (by kernel_rfl) ?_
      refine wpAny_take (i := 0) (v := ?_) (by simp only [List.getElem?_toArray, List.getElem?_cons_succ, List.getElem?_cons_zero]; rfl) (by kernel_rfl) (by kernel_rfl) (by kernel_rfl) (by exact fun _ _ _ h => h) (Or.inl ⟨by rfl, ?_⟩) ?_
      rotate_left
      · (intro w; go_simp)
        try with_reducible rfl
      try simp only [Act.put, List.setIfInBounds_toArray, List.set_cons_zero, List.set_cons_succ]
      refine wpAny_take (i := 2) (v := ?_) (by simp only [List.getElem?_toArray, List.getElem?_cons_succ, List.getElem?_cons_zero]; rfl) (by kernel_rfl) (by kernel_rfl) (by kernel_rfl) (by exact fun _ _ _ h => h) (Or.inl ⟨by rfl, ?_⟩) ?_
      rotate_left
      · (intro w; go_simp)
        try with_reducible rfl
      try simp only [Act.put, List.setIfInBounds_toArray, List.set_cons_zero, List.set_cons_succ]
      refine wpAny_take (i := 3) (v := ?_) (by simp only [List.getElem?_toArray, List.getElem?_cons_succ, List.getElem?_cons_zero]; rfl) (by kernel_rfl) (by kernel_rfl) (by kernel_rfl) (by exact fun _ _ _ h => h) (Or.inl ⟨by rfl, ?_⟩) ?_
      rotate_left
      · (intro w; go_simp)
        try with_reducible rfl
      try simp only [Act.put, List.setIfInBounds_toArray, List.set_cons_zero, List.set_cons_succ]
      refine wpAny_take (i := 4) (v := ?_) (by simp only [List.getElem?_toArray, List.getElem?_cons_succ, List.getElem?_cons_zero]; rfl) (by kernel_rfl) (by kernel_rfl) (by kernel_rfl) (by exact fun _ _ _ h => h) (Or.inl ⟨by rfl, ?_⟩) ?_
      rotate_left
      · (intro w; go_simp)
        try with_reducible rfl
      try simp only [Act.put, List.setIfInBounds_toArray, List.set_cons_zero, List.set_cons_succ]
      refine wpAny_take (i := 5) (v := ?_) (by simp only [List.getElem?_toArray, List.getElem?_cons_succ, List.getElem?_cons_zero]; rfl) (by kernel_rfl) (by kernel_rfl) (by kernel_rfl) (by exact fun _ _ _ h => h) (Or.inl ⟨by rfl, ?_⟩) ?_
      rotate_left
      · (intro w; go_simp)
        try with_reducible rfl
      try simp only [Act.put, List.setIfInBounds_toArray, List.set_cons_zero, List.set_cons_succ]
      refine wpAny_ready (rs := [1]) (by kernel_rfl) (by simp) ?_
      refine AllReady.cons (by simp only [List.getElem?_toArray, List.getElem?_cons_succ, List.getElem?_cons_zero]; rfl) (fun K hK => ?_) AllReady.nil
      go_simp
      refine HRP.out.mono ?_
      rintro e w4 ⟨rfl, hb4⟩
      simp only []
      refine hK _ _ ?_
      clear hK K
      try simp only [Act.put, List.setIfInBounds_toArray, List.set_cons_zero, List.set_cons_succ]
      refine wpAny_take (i := 6) (v := ?_) (by simp only [List.getElem?_toArray, List.getElem?_cons_succ, List.getElem?_cons_zero]; rfl) (by kernel_rfl) (by kernel_rfl) (by kernel_rfl) (by exact fun _ _ _ h => h) (Or.inl ⟨by rfl, ?_⟩) ?_
      rotate_left
      · (intro w; go_simp)
        try with_reducible rfl
      try simp only [Act.put, List.setIfInBounds_toArray, List.set_cons_zero, List.set_cons_succ]
      refine wpAny_done (by kernel_rfl) ?_ _
      go_wp2_with fail
      have hr := HR3.out
      rw [if_pos HG.out] at hr
      subst hr
      exact bodyPost_ret (results_tmp3 rfl _ _ _) rfl ⟨rfl, (H3.out.drew).trans (hb4.mono H3.out.size)⟩
  · have e2 := str_ne (fun h => hown (HBE.out.2 h))
    refine wp_region_any (by kernel_rfl) ?_
    refine wpAny_take (i := 0) (v := ?_) (by simp only [List.getElem?_toArray, List.getElem?_cons_succ, List.getElem?_cons_zero]; rfl) (by kernel_rfl) (by kernel_rfl) (by kernel_rfl) (by exact fun _ _ _ h => h) (Or.inl ⟨by rfl, ?_⟩) ?_
    rotate_left
    · (intro w; go_simp)
      try with_reducible rfl
    try simp only [Act.put, List.setIfInBounds_toArray, List.set_cons_zero, List.set_cons_succ]
    refine wpAny_take (i := 1) (v := ?_) (by simp only [List.getElem?_toArray, List.getElem?_cons_succ, List.getElem?_cons_zero]; rfl) (by kernel_rfl) (by kernel_rfl) (by kernel_rfl) (by exact fun _ _ _ h => h) (Or.inl ⟨by rfl, ?_⟩) ?_
    rotate_left
    · (intro w; go_simp)
      try with_reducible rfl
    try simp only [Act.put, List.setIfInBounds_toArray, List.set_cons_zero, List.set_cons_succ]
    refine wpAny_take (i := 2) (v := ?_) (by simp only [List.getElem?_toArray, List.getElem?_cons_succ, List.getElem?_cons_zero]; rfl) (by kernel_rfl) (by kernel_rfl) (by kernel_rfl) (by exact fun _ _ _ h => h) (Or.inl ⟨by rfl, ?_⟩) ?_
    rotate_left
    · (intro w; go_simp)
      try with_reducible rfl
    try simp only [Act.put, List.setIfInBounds_toArray, List.set_cons_zero, List.set_cons_succ]
    refine wpAny_take (i := 3) (v := ?_) (by simp only [List.getElem?_toArray, List.getElem?_cons_succ, List.getElem?_cons_zero]; rfl) (by kernel_rfl) (by kernel_rfl) (by kernel_rfl) (by exact fun _ _ _ h => h) (Or.inl ⟨by rfl, ?_⟩) ?_
    rotate_left
    · (intro w; go_simp)
      try with_reducible rfl
    try simp only [Act.put, List.setIfInBounds_toArray, List.set_cons_zero, List.set_cons_succ]
    refine wpAny_take (i := 4) (v := ?_) (by simp only [List.getElem?_toArray, List.getElem?_cons_succ, List.getElem?_cons_zero]; rfl) (by kernel_rfl) (by kernel_rfl) (by kernel_rfl) (by exact fun _ _ _ h => h) (Or.inl ⟨by rfl, ?_⟩) ?_
    rotate_left
    · (intro w; go_simp)
      try with_reducible rfl
    try simp only [Act.put, List.setIfInBounds_toArray, List.set_cons_zero, List.set_cons_succ]
    refine wpAny_take (i := 8) (v := ?_) (by simp only [List.getElem?_toArray, List.getElem?_cons_succ, List.getElem?_cons_zero]; rfl) (by kernel_rfl) (by kernel_rfl) (by kernel_rfl) (by exact fun _ _ _ h => h) (Or.inl ⟨by rfl, ?_⟩) ?_
    rotate_left
    · (intro w; go_simp)
      try with_reducible rfl
    try simp only [Act.put, List.setIfInBounds_toArray, List.set_cons_zero, List.set_cons_succ]
    refine wpAny_take (i := 9) (v := ?_) (by simp only [List.getElem?_toArray, List.getElem?_cons_succ, List.getElem?_cons_zero]; rfl) (by kernel_rfl) (by kernel_rfl) (by kernel_rfl) (by exact fun _ _ _ h => h) (Or.inl ⟨by rfl, ?_⟩) ?_
    rotate_left
    · (intro w; go_simp)
      try with_reducible rfl
    try simp only [Act.put, List.setIfInBounds_toArray, List.set_cons_zero, List.set_cons_succ]
    refine wpAny_ready (rs := [5]) (by kernel_rfl) (by simp) ?_
    refine AllReady.cons (by simp only [List.getElem?_toArray, List.getElem?_cons_succ, List.getElem?_cons_zero]; rfl) (fun K hK => ?_) AllReady.nil
    go_simp
    rw [HP4.out]
    refine (refOf_any _ _ (by omega)).mono ?_
    rintro e w2 ⟨rfl, rfl⟩
    rw [HCR.out]
    simp only []
    refine hK _ _ ?_
    clear hK K
    try simp only [Act.put, List.setIfInBounds_toArray, List.set_cons_zero, List.set_cons_succ]
    refine wpAny_take (i := 6) (v := ?_) (by simp only [List.getElem?_toArray, List.getElem?_cons_succ, List.getElem?_cons_zero]; rfl) (by kernel_rfl) (by kernel_rfl) (by kernel_rfl) (by exact fun _ _ _ h => h) (Or.inl ⟨by rfl, ?_⟩) ?_
    rotate_left
    · (intro w; go_simp)
      try with_reducible rfl
    try simp only [Act.put, List.setIfInBounds_toArray, List.set_cons_zero, List.set_cons_succ]
    refine wpAny_ready (rs := [7]) (by kernel_rfl) (by simp) ?_
    refine AllReady.cons (by simp only [List.getElem?_toArray, List.getElem?_cons_succ, List.getElem?_cons_zero]; rfl) (fun K hK => ?_) AllReady.nil
    go_simp
    (try rw [HWR.out])
    refine (refNumber_any _ 4 _ (by omega) (by omega)).mono ?_
    rintro e w3 ⟨rfl, hb3⟩
    simp only []
    refine hK _ _ ?_
    clear hK K
    try simp only [Act.put, List.setIfInBounds_toArray, List.set_cons_zero, List.set_cons_succ]
    refine wpAny_take (i := 10) (v := ?_) (by simp only [List.getElem?_toArray, List.getElem?_cons_succ, List.getElem?_cons_zero]; rfl) (by kernel_rfl) (by kernel_rfl) (by kernel_rfl) (by exact fun _ _ _ h => h) (Or.inl ⟨by rfl, ?_⟩) ?_
    rotate_left
    · (intro w; go_simp)
      try with_reducible rfl
    try simp only [Act.put, List.setIfInBounds_toArray, List.set_cons_zero, List.set_cons_succ]
    refine wpAny_take (i := 11) (v := ?_) (by simp only [List.getElem?_toArray, List.getElem?_cons_succ, List.getElem?_cons_zero]; rfl) (by kernel_rfl) (by kernel_rfl) (by kernel_rfl) (by exact fun _ _ _ h => h) (Or.inl ⟨by rfl, ?_⟩) ?_
    rotate_left
    · (intro w; go_simp)
      try with_reducible rfl
    try simp only [Act.put, List.setIfInBounds_toArray, List.set_cons_zero, List.set_cons_succ]
    refine wpAny_done (by kernel_rfl) ?_ _
    go_wp2_with fail
    have hr := HR.out
    rw [if_pos (Or.inr hown)] at hr
    subst hr
    exact bodyPost_ret (results_tmp3 rfl _ _ _) rfl ⟨rfl, (below_drawn (Below.refl w.heap.size w) _).drew.trans hb3⟩

end Go.Proofs.Ytcgojpdgcoddnaa
