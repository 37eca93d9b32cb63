/- The document's byteAt and Scan. -/
import Derived.Test.YtlfhjmdbkifciaaPatRefQ
import Derived.Test.YtlfhjmdbkifciaaPatFar
namespace Go.Proofs.Ytlfhjmdbkifciaa
open Go.RowKit PM

def byteV (a : Nat) (r : Stp) : Value :=
  match r with
  | .ok c n => .tuple #[.int .u8 c.toNat, .int .i64 (a + n : Nat), .bool true]
  | .bad k => .tuple #[.int .u8 0, .int .i64 (a + k : Nat), .bool false]

theorem dropAt (s : ByteArray) (i : Nat) (h : i < s.size) : s.data.toList.drop i = s[i] :: s.data.toList.drop (i + 1) := List.drop_eq_getElem_cons (by simpa using h)
theorem dropEnd (s : ByteArray) (i : Nat) (h : s.size ≤ i) : s.data.toList.drop i = [] := List.drop_eq_nil_of_le h
theorem results_tmp3 {fn : Func} {p1 p2 p3 : Tmp} (h : fn.results = #[.tmp p1, .tmp p2, .tmp p3]) (tmps : Array Value) (W : World) : (results fn tmps).run Try.prog W = .ok (.tuple #[tmps.getD p1 undef, tmps.getD p2 undef, tmps.getD p3 undef]) W := by
  simp [results, h]
theorem far_le4 (l : List UInt8) : ∀ c, far l c ≤ 4
  | 0 => Nat.zero_le _
  | c + 1 => by
    simp only [far]
    have h1 := far_le4 l c
    have h2 := lcp_le_left (sign (UInt8.ofNat c)) l
    have h3 := (sign_pos (UInt8.ofNat c)).2
    omega

set_option maxRecDepth 100000 in
set_option maxHeartbeats 4000000 in
theorem byteAt_any (s : ByteArray) (a : Nat) (w : World) (hs : s.size ≤ 100000000) (ha : a ≤ s.size) :
    Calls Try.prog 49 #[.string s, .int .i64 a] w fun e w' => e = .returned (byteV a (PM.step (s.data.toList.drop a))) ∧ Below w.heap.size w w' := by
  obtain ⟨l, hl⟩ : ∃ l, s.data.toList.drop a = l := ⟨_, rfl⟩
  rw [hl]
  have HL := Lib.hid hl
  clear hl
  go_enter Try.func49, Try.ntmps49
  go_wp2_with fail
  go_loopg [7, 8] 257 (fun k v7 v8 wr => ∃ (c f : Nat), v8 = .int .i64 c ∧ c ≤ 256 ∧ 256 - c < k ∧ v7 = .int .i64 (a + f : Nat) ∧ f ≤ 4 ∧ Hid (f = far l c) ∧ Hid (∀ c', c' < c → lcp (sign (UInt8.ofNat c')) l ≠ (sign (UInt8.ofNat c')).length) ∧ Hid (Below w.heap.size w wr))
  case atStart => exact ⟨0, 0, rfl, by omega, by omega, rfl, by omega, Lib.hid rfl, Lib.hid (fun c' h => by omega), Lib.hid (Below.refl _ _)⟩
  case round =>
    obtain ⟨c, f, rfl, hc, hck, rfl, hf4, HF, HN, HB⟩ := hrel
    by_cases hc2 : c < 256
    · have hc3 : (c : Int) < 256 := by omega
      have hc0 : (0 : Int) ≤ c := by omega
      go_wp2_with fail
      have hsg := rsign_any (UInt8.ofNat c) wr
      rw [toNat_ofNat hc2] at hsg
      refine hsg.mono ?_
      rintro e w2 ⟨rfl, hb⟩
      have HB2 := Lib.hid (below_then HB.out hb (Nat.le_refl _))
      clear hsg hb HB
      obtain ⟨x, hx⟩ : ∃ x, sign (UInt8.ofNat c) = x := ⟨_, rfl⟩
      have hxl := (sign_pos (UInt8.ofNat c)).2
      rw [hx] at hxl ⊢
      have HX := Lib.hid hx
      obtain ⟨X, hX⟩ : ∃ X, bs x = X := ⟨_, rfl⟩
      rw [hX]
      have hXs : X.size = x.length := by rw [← hX]; exact bs_sz x
      have HXD : Hid (X.data.toList = x) := Lib.hid (by rw [← hX]; rfl)
      clear hx hX
      rw [← hXs] at hxl
      have HXS := Lib.hid hXs
      clear hXs
      obtain ⟨g0, hg0⟩ : ∃ g0, g0 = gk := ⟨_, rfl⟩
      subst hg0
      go_wp2_with fail
      go_loopg [10] 5 (fun k v10 wr2 => ∃ n : Nat, v10 = .int .i64 n ∧ n ≤ X.size ∧ X.size - n < k ∧ Hid (lcp x l = n + lcp (x.drop n) (l.drop n)) ∧ Hid (Below w.heap.size w wr2))
      case atStart => exact ⟨0, rfl, by omega, by omega, Lib.hid (by simp), HB2⟩
      case round =>
        clear HB2
        obtain ⟨n, rfl, hn, hnk, HC, HB⟩ := hrel
        obtain ⟨m, hm⟩ : ∃ m, a + n = m := ⟨_, rfl⟩
        have hmi : (a : Int) + n = (m : Int) := by omega
        have hm0 : (0 : Int) ≤ m := by omega
        have hwm : IntKind.i64.wrap (m : Int) = m := IntWalk.i64_in _ (by omega)
        have hn0 : (0 : Int) ≤ n := by omega
        have hdrop : l.drop n = s.data.toList.drop m := by rw [← HL.out, List.drop_drop, hm]
        by_cases hgo : ∃ (h1 : n < X.size) (h2 : m < s.size), s[m] = X[n]
        · obtain ⟨h1, h2, h3⟩ := hgo
          have k1 : (n : Int) < X.size := by omega
          have k2 : (m : Int) < s.size := by omega
          have k3 : ((s[m].toNat : Int) == (X[n].toNat : Int)) = true := by rw [h3]; simp
          have HC2 : Hid (lcp x l = (n + 1) + lcp (x.drop (n + 1)) (l.drop (n + 1))) := Lib.hid (by
            have e1 : x.drop n = X[n] :: x.drop (n + 1) := by rw [← HXD.out]; exact dropAt X n h1
            have e2 : l.drop n = s[m] :: l.drop (n + 1) := by
              rw [hdrop, dropAt s m h2, ← HL.out, List.drop_drop, show a + (n + 1) = m + 1 by omega]
            rw [HC.out, e1, e2, lcp_step, if_pos h3.symm]; omega)
          clear hdrop h3 HC
          go_wp2_with fail
          go_quiet (fail)
          have HB2 := Lib.hid (below_then HB.out (below_drewq wr.heap.size wr nq) (Nat.le_refl _))
          go_wp2_with fail
          go_roundg (gk - 1)
          case measure => omega
          case rel => exact ⟨n + 1, by go_num, by omega, by omega, HC2, HB2⟩
        · have hstop : lcp (x.drop n) (l.drop n) = 0 := by
            rcases Nat.lt_or_ge n X.size with h1 | h1
            · have e1 : x.drop n = X[n] :: x.drop (n + 1) := by rw [← HXD.out]; exact dropAt X n h1
              rcases Nat.lt_or_ge m s.size with h2 | h2
              · rw [e1, hdrop, dropAt s m h2, lcp_step, if_neg (fun e => hgo ⟨h1, h2, e.symm⟩)]
              · rw [hdrop, dropEnd s m h2]; exact lcp_nil_right _
            · rw [show x.drop n = [] from List.drop_eq_nil_of_le (by rw [← HXS.out]; exact h1)]; rfl
          have hlcp : lcp x l = n := by rw [HC.out, hstop, Nat.add_zero]
          have HLC := Lib.hid hlcp
          have hd : (decide ((n : Int) < X.size) = false ∧ n = X.size) ∨ ((n : Int) < X.size ∧ decide (m < s.size) = false) ∨ (∃ (h1 : n < X.size) (h2 : m < s.size), (n : Int) < X.size ∧ (m : Int) < s.size ∧ ((s[m].toNat : Int) == (X[n].toNat : Int)) = false) := by
            rcases Nat.lt_or_ge n X.size with h1 | h1
            · rcases Nat.lt_or_ge m s.size with h2 | h2
              · exact .inr (.inr ⟨h1, h2, by omega, by omega, by rw [beq_eq_false_iff_ne]; exact fun e => hgo ⟨h1, h2, u8_eq (by omega)⟩⟩)
              · exact .inr (.inl ⟨by omega, by simp; omega⟩)
            · exact .inl ⟨by simp; omega, by omega⟩
          clear hdrop hgo hstop hlcp HC
          rcases hd with ⟨k1, k2⟩ | hd
          · subst k2
            have HST : Hid (PM.step l = .ok (UInt8.ofNat c) X.size) := Lib.hid (by
              have h := full_ok (c := UInt8.ofNat c) (l := l) (by rw [HX.out, HLC.out]; exact HXS.out)
              rw [h, HX.out, HXS.out])
            go_wp2_with fail
            go_quiet (fail)
            have HB2 := Lib.hid (below_then HB.out (below_drewq wr.heap.size wr nq) (Nat.le_refl _))
            go_wp2_with fail
            exact bodyPost_ret (results_tmp3 rfl _ _) rfl ⟨by rw [HST.out]; simp only [byteV, toNat_ofNat hc2, hm]; rfl, HB2.out⟩
          · have hnx : n < X.size := by rcases hd with ⟨h, -⟩ | ⟨h, -⟩ <;> omega
            have kne : ((n : Int) == (X.size : Int)) = false := by rw [beq_eq_false_iff_ne]; omega
            have HN2 : Hid (∀ c', c' < c + 1 → lcp (sign (UInt8.ofNat c')) l ≠ (sign (UInt8.ofNat c')).length) := Lib.hid (fun c' h => by
              rcases Nat.lt_or_ge c' c with h1 | h1
              · exact HN.out c' h1
              · obtain rfl : c' = c := by omega
                rw [HX.out, HLC.out, ← HXS.out]; omega)
            have HF2 : Hid (max f n = far l (c + 1)) := Lib.hid (by simp only [far]; rw [HX.out, HLC.out, HF.out])
            rcases Nat.lt_or_ge f n with hfn | hfn
            · have kf : (a : Int) + f < m := by omega
              rw [Nat.max_eq_right (by omega)] at HF2
              rcases hd with ⟨k1, k2⟩ | ⟨h1, h2, k1, k2, k3⟩
              all_goals
                go_wp2_with fail
                go_quiet (fail)
                have HB2 := Lib.hid (below_then HB.out (below_drewq wr.heap.size wr nq) (Nat.le_refl _))
                go_wp2_with fail
                go_roundg (g0 - 1)
                case measure => omega
                case rel => exact ⟨c + 1, n, by go_num, by omega, by omega, by rw [hm], by omega, HF2, HN2, HB2⟩
            · have kf : ¬ (a : Int) + f < m := by omega
              rw [Nat.max_eq_left (by omega)] at HF2
              rcases hd with ⟨k1, k2⟩ | ⟨h1, h2, k1, k2, k3⟩
              all_goals
                go_wp2_with fail
                go_quiet (fail)
                have HB2 := Lib.hid (below_then HB.out (below_drewq wr.heap.size wr nq) (Nat.le_refl _))
                go_wp2_with fail
                go_roundg (g0 - 1)
                case measure => omega
                case rel => exact ⟨c + 1, f, by go_num, by omega, by omega, by go_num, by omega, HF2, HN2, HB2⟩
    · obtain rfl : c = 256 := by omega
      obtain ⟨k, hk⟩ := none_bad HN.out
      have hfk : f = k := by rw [HF.out, far_bad hk]
      subst hfk
      have HK := Lib.hid hk
      clear hk HN HF
      go_wp2_with fail
      exact bodyPost_ret (results_tmp3 rfl _ _) rfl ⟨by rw [HK.out]; rfl, HB.out⟩
end Go.Proofs.Ytlfhjmdbkifciaa
