/- NfaStars: again and again. -/
import Derived.Test.YtpiflikblpfgoaaDoorNfaJoins
import Derived.Test.YtpiflikblpfgoaaDoorNfaStarMath
import Derived.Test.YtpiflikblpfgoaaDoorBoolRow
import Derived.Deep.RegionHeld3
namespace Go.Proofs.YtpiflikblpfgoaaDoor
open Go.RowKit PM

/-- what the two lists hold while the beginnings of i bytes are gone through, from the first k places -/
def rnd (x : T) (l : List UInt8) (g : Nat → Bool) (i k : Nat) (j : Nat) : Bool := if j < i then g j else if j = i then reach x l i k else false
theorem rnd_start (x : T) (l : List UInt8) (g : Nat → Bool) (i : Nat) (h : 0 < i) (hg : g i = reach x l i i) : ∀ j, rnd x l g i i j = rnd x l g (i + 1) 0 j := by
  intro j
  unfold rnd
  by_cases h1 : j < i
  · rw [if_pos h1, if_pos (by omega)]
  · rw [if_neg h1]
    by_cases h2 : j = i
    · subst h2; rw [if_pos rfl, if_pos (by omega), hg]
    · rw [if_neg h2, if_neg (by omega)]
      by_cases h3 : j = i + 1
      · subst h3; rw [if_pos rfl]; rfl
      · rw [if_neg h3]
theorem rnd_put (x : T) (l : List UInt8) (g : Nat → Bool) (i k : Nat) (h : reach x l i (k + 1) = true) : ∀ j, (if j = i then true else rnd x l g i k j) = rnd x l g i (k + 1) j := by
  intro j
  unfold rnd
  by_cases h2 : j = i
  · subst h2; rw [if_pos rfl, if_neg (by omega), if_pos rfl, h]
  · rw [if_neg h2]
    by_cases h1 : j < i
    · rw [if_pos h1, if_pos h1]
    · rw [if_neg h1, if_neg h1, if_neg h2, if_neg h2]
theorem rnd_pass (x : T) (l : List UInt8) (g : Nat → Bool) (i k : Nat) (h : reach x l i (k + 1) = reach x l i k) : ∀ j, rnd x l g i k j = rnd x l g i (k + 1) j := by
  intro j; unfold rnd; rw [h]

theorem ext_mid (s : ByteArray) (k i : Nat) : (s.extract k i).data.toList = (s.data.toList.drop k).take (i - k) := by simp [ByteArray.data_extract]
theorem join_sign (a : ByteArray) (c : UInt8) : ((⟨#[40]⟩ : ByteArray) ++ a ++ ⟨#[41, c]⟩).data.toList = 40 :: (a.data.toList ++ [41, c]) := by simp [ByteArray.data_append]

/-- where the two lists stand -/
structure StS (w0 : World) (tx : T) (l : List UInt8) (n b : Nat) (i k : Nat) (wr : World) : Prop where
  up : Below b w0 wr
  tof : BF wr b n (rnd tx l (toB tx l) i k)
  sof : BF wr (b + 1) n (rnd tx l (someB tx l) i k)
section
variable {w0 wr w' : World} {tx : T} {l : List UInt8} {n b i k : Nat}
theorem StS.on (h : StS w0 tx l n b i k wr) (hb : Below wr.heap.size wr w') (h0 : b ≤ w0.heap.size) : StS w0 tx l n b i k w' :=
  ⟨below_then h.up hb h0, h.tof.on hb, h.sof.on hb⟩
theorem StS.pass (h : StS w0 tx l n b i k wr) (e : reach tx l i (k + 1) = reach tx l i k) : StS w0 tx l n b i (k + 1) wr :=
  ⟨h.up, h.tof.congr fun j _ => rnd_pass tx l _ i k e j, h.sof.congr fun j _ => rnd_pass tx l _ i k e j⟩
theorem StS.put (h : StS w0 tx l n b i k wr) (h0 : b ≤ w0.heap.size) (e : reach tx l i (k + 1) = true) : StS w0 tx l n b i (k + 1) ((wr.setCell ⟨b, i, none⟩ (.bool true)).setCell ⟨b + 1, i, none⟩ (.bool true)) := by
  refine ⟨below_set (below_set h.up (setB wr b i (.bool true)) h0 (Nat.le_refl _)) (setB _ (b + 1) i (.bool true)) h0 (by omega), ?_, ?_⟩
  · exact ((h.tof.set i true).other (b + 1) i _ (by omega)).congr fun j _ => rnd_put tx l _ i k e j
  · exact ((h.sof.other b i (.bool true) (by omega)).set i true).congr fun j _ => rnd_put tx l _ i k e j
theorem StS.next (h : StS w0 tx l n b i i wr) (h0 : 0 < i) : StS w0 tx l n b (i + 1) 0 wr := by
  obtain ⟨m, rfl⟩ : ∃ m, i = m + 1 := ⟨i - 1, by omega⟩
  exact ⟨h.up, h.tof.congr (fun j _ => rnd_start tx l _ _ h0 (toB_succ tx l m) j), h.sof.congr (fun j _ => rnd_start tx l (someB tx l) (m + 1) h0 rfl j)⟩
theorem StS.start (up : Below b w0 wr) (h1 : BF wr b n fun k => if k = 0 then true else false) (h2 : BF wr (b + 1) n fun k => if k = 0 then fitsB tx [] else false) : StS w0 tx l n b 1 0 wr := by
  refine ⟨up, h1.congr fun j _ => ?_, h2.congr fun j _ => ?_⟩
  all_goals
    unfold rnd
    by_cases hj : j = 0
    · subst hj; rfl
    · rw [if_neg hj, if_neg (by omega)]
      by_cases hj1 : j = 1
      · subst hj1; rfl
      · rw [if_neg hj1]
end
theorem rnd_lt (x : T) (l : List UInt8) (g : Nat → Bool) {i k j : Nat} (h : j < i) : rnd x l g i k j = g j := if_pos h

set_option maxRecDepth 100000 in
set_option maxHeartbeats 8000000 in
theorem nfaStars_walk (a s : ByteArray) (w : World) (ha : a.size ≤ 140737488355327) (_hs : s.size ≤ 140737488355327) (hT : Tab w) :
    Calls Tryd.prog 7 #[.string a, .string s] w fun e w' => e = .returned (.bool true) ∧ Below w.heap.size w w' := by
  have HT := Lib.hid hT
  clear hT
  go_enter Tryd.func7, Tryd.ntmps7
  go_wp2_with fail
  refine (works_any w HT.out).mono ?_
  rintro e w1 ⟨rfl, hb1⟩
  have HB1 := Lib.hid hb1
  have HT1 := Lib.hid (HT.out.on hb1)
  clear hb1
  go_wp2_with fail
  refine (re_any a w1 (by omega) HT1.out).mono ?_
  rintro e w2 (⟨tx, bx, Ax, hx, rfl, hnx, _, hbx⟩ | ⟨_, rfl, hbx⟩)
  · have HX := Lib.hid hx; have HNx2 := Lib.hid hnx
    have HB2 := Lib.hid (below_then HB1.out hbx (Nat.le_refl _)); have HT2 := Lib.hid (HT.out.on HB2.out)
    clear hx hnx hbx
    by_cases hl : 60 < a.size
    · have h1 : decide (60 < (a.size : Int)) = true := by simp; omega
      go_wp2_with fail
      go_ret
      exact ⟨rfl, HB2.out⟩
    · have h1 : decide (60 < (a.size : Int)) = false := by simp; omega
      by_cases hl2 : 30 < s.size
      · have h2 : decide (30 < (s.size : Int)) = true := by simp; omega
        go_wp2_with fail
        go_ret
        exact ⟨rfl, HB2.out⟩
      · have h2 : decide (30 < (s.size : Int)) = false := by simp; omega
        go_wp2_with fail
        have hla : a.data.toList.length = a.size := rfl
        have HSTAR := Lib.hid (group_sign HX.out (by omega) 42 5 (.inl ⟨rfl, rfl⟩))
        have HPLUS := Lib.hid (group_sign HX.out (by omega) 43 6 (.inr (.inl ⟨rfl, rfl⟩)))
        clear hla
        generalize hS1 : (⟨#[40]⟩ : ByteArray) ++ a ++ ⟨#[41, 42]⟩ = S1 at *
        have htS1 : tree 3 S1.data.toList = .ok (over 5 tx) := by rw [← hS1, join_sign]; exact HSTAR.out
        have hzS1 : S1.size ≤ 1000 := by
          have e0 : S1.data.toList.length = S1.size := rfl
          rw [← e0, ← hS1, join_sign]
          have e1 : a.data.toList.length = a.size := rfl
          simp only [List.length_cons, List.length_append, List.length_nil, e1]; omega
        have HTS1 := Lib.hid htS1
        refine (re_tree htS1 w2 (by omega) HT2.out).mono ?_
        rintro e w3 ⟨bC, AC, rfl, hn, hbx⟩
        have HNC3 := Lib.hid hn; have HNx3 := Lib.hid (HNx2.out.on hbx); have HB3 := Lib.hid (below_then HB2.out hbx (Nat.le_refl _)); have HT3 := Lib.hid (HT.out.on HB3.out)
        clear hn hbx htS1 hS1
        go_wp2_with fail
        generalize hS2 : (⟨#[40]⟩ : ByteArray) ++ a ++ ⟨#[41, 43]⟩ = S2 at *
        have htS2 : tree 3 S2.data.toList = .ok (over 6 tx) := by rw [← hS2, join_sign]; exact HPLUS.out
        have hzS2 : S2.size ≤ 1000 := by
          have e0 : S2.data.toList.length = S2.size := rfl
          rw [← e0, ← hS2, join_sign]
          have e1 : a.data.toList.length = a.size := rfl
          simp only [List.length_cons, List.length_append, List.length_nil, e1]; omega
        have HTS2 := Lib.hid htS2
        refine (re_tree htS2 w3 (by omega) HT3.out).mono ?_
        rintro e w4 ⟨bL, AL, rfl, hn, hbx⟩
        have HNL4 := Lib.hid hn; have HNx4 := Lib.hid (HNx3.out.on hbx); have HNC4 := Lib.hid (HNC3.out.on hbx); have HB4 := Lib.hid (below_then HB3.out hbx (Nat.le_refl _)); have HT4 := Lib.hid (HT.out.on HB4.out)
        clear hn hbx htS2 hS2
        obtain ⟨n, hn⟩ : ∃ n, n = s.size + 1 := ⟨_, rfl⟩
        have hmk : ∀ W, (Instr.makeSlice 50 (.int .i64 ((s.size : Int) + 1)) (.int .i64 ((s.size : Int) + 1))).run Tryd.prog W = .ok (.slice (some ⟨W.heap.size, 0, none⟩) n n) (W.alloc (.cells (boolC n fun _ => false) TBo)) := fun W => make_bools n _ (by omega) (by omega) W
        have HN := Lib.hid hn
        clear hn
        go_upto_region 11 with (fail)
        clear hmk
        have hb1 := BF.new w4 n (fun _ => false)
        have hb2 := BF.new (w4.alloc (.cells (boolC n fun _ => false) TBo)) n (fun _ => false)
        have hbl := below_then (below_new w4 (.cells (boolC n fun _ => false) TBo)) (below_new (w4.alloc (.cells (boolC n fun _ => false) TBo)) (.cells (boolC n fun _ => false) TBo)) (Nat.le_refl _)
        have hb1' := hb1.on (below_new (w4.alloc (.cells (boolC n fun _ => false) TBo)) (.cells (boolC n fun _ => false) TBo))
        rw [World.size_alloc] at hb2
        generalize (w4.alloc (.cells (boolC n fun _ => false) TBo)).alloc (.cells (boolC n fun _ => false) TBo) = w5 at *
        have HNx5 := Lib.hid (HNx4.out.on hbl); have HNC5 := Lib.hid (HNC4.out.on hbl); have HNL5 := Lib.hid (HNL4.out.on hbl)
        have HB5 := Lib.hid hbl; have HB51 := Lib.hid hb1'; have HB52 := Lib.hid hb2
        have HGE := Lib.hid (show w.heap.size ≤ w4.heap.size from HB4.out.size)
        have HXN := Lib.hid (show bx < w4.heap.size from HNx4.out.net.lt)
        have HCN := Lib.hid (show bC < w4.heap.size from HNC4.out.net.lt)
        have HLN := Lib.hid (show bL < w4.heap.size from HNL4.out.net.lt)
        obtain ⟨bT, hbT⟩ : ∃ bT, w4.heap.size = bT := ⟨_, rfl⟩
        have HBT := Lib.hid hbT
        rw [hbT] at HB5 HB51 HB52 HGE HXN HCN HLN ⊢
        have hn0 : 0 < n := by have := HN.out; omega
        have c0 := HB51.out.cell hn0; have f0 := HB51.out.frozen 0
        clear hb1 hb1' hb2 hbl hbT
        go_wp2_with fail
        have hset := HB51.out.set 0 true
        have hoth := HB52.out.other bT 0 (.bool true) (by omega)
        have hgr := setB w5 bT 0 (.bool true)
        generalize w5.setCell ⟨bT, 0, none⟩ (.bool true) = w6 at *
        have HNx6 := Lib.hid (HNx5.out.grown hgr (fun e => by have := Option.some.inj e; have := HXN.out; omega))
        have HNC6 := Lib.hid (HNC5.out.grown hgr (fun e => by have := Option.some.inj e; have := HCN.out; omega))
        have HNL6 := Lib.hid (HNL5.out.grown hgr (fun e => by have := Option.some.inj e; have := HLN.out; omega))
        have HB6 : Hid (Below bT w4 w6) := Lib.hid (below_set HB5.out hgr (by rw [HBT.out]; exact Nat.le_refl _) (Nat.le_refl _))
        have HB61 := Lib.hid hset; have HB62 := Lib.hid hoth
        have HT6 : Hid (Tab w6) := Lib.hid (HT4.out.on (by rw [HBT.out]; exact HB6.out))
        clear c0 f0 hset hoth hgr HNx5 HNC5 HNL5 HB51 HB52 HB5
        refine (match_any bx tx Ax ⟨#[]⟩ w6 HNx6.out HT6.out (by decide)).mono ?_
        rintro e w7 ⟨rfl, hbx⟩
        have HNx7 := Lib.hid (HNx6.out.on hbx); have HNC7 := Lib.hid (HNC6.out.on hbx); have HNL7 := Lib.hid (HNL6.out.on hbx)
        have HB7 : Hid (Below bT w4 w7) := Lib.hid (below_then HB6.out hbx (by rw [HBT.out]; exact Nat.le_refl _))
        have HB71 := Lib.hid (HB61.out.on hbx); have HB72 := Lib.hid (HB62.out.on hbx)
        have c0 := HB72.out.cell hn0; have f0 := HB72.out.frozen 0
        rw [show fitsB tx (ByteArray.mk #[]).data.toList = fitsB tx [] from rfl]
        have hset := HB72.out.set 0 (fitsB tx [])
        have hoth := HB71.out.other (bT + 1) 0 (.bool (fitsB tx [])) (by omega)
        have hgr := setB w7 (bT + 1) 0 (.bool (fitsB tx []))
        generalize hF0 : fitsB tx [] = F0 at *
        clear hbx HNx6 HNC6 HNL6 HB61 HB62 HB6 HT6
        have HSET := Lib.hid hset; have HOTH := Lib.hid hoth; have HGR := Lib.hid hgr; have HF0 := Lib.hid hF0
        clear hset hoth hgr hF0
        go_wp2_with fail
        change Code.wp _ _ _ _ _
        generalize w7.setCell ⟨bT + 1, 0, none⟩ (.bool F0) = w8 at *
        have HNx8 := Lib.hid (HNx7.out.grown HGR.out (fun e => by have := Option.some.inj e; have := HXN.out; omega))
        have HNC8 := Lib.hid (HNC7.out.grown HGR.out (fun e => by have := Option.some.inj e; have := HCN.out; omega))
        have HNL8 := Lib.hid (HNL7.out.grown HGR.out (fun e => by have := Option.some.inj e; have := HLN.out; omega))
        have HB8 : Hid (Below bT w4 w8) := Lib.hid (below_set HB7.out HGR.out (by rw [HBT.out]; exact Nat.le_refl _) (by omega))
        have HST : Hid (StS w4 tx s.data.toList n bT 1 0 w8) := Lib.hid (StS.start HB8.out HOTH.out (by rw [HF0.out]; exact HSET.out))
        clear c0 f0 HB71 HB72 HB7 HSET HOTH HGR HNx7 HNC7 HNL7 HNx8 HNC8 HNL8
        have H0 := Lib.hid (show bT ≤ w4.heap.size by rw [HBT.out]; exact Nat.le_refl _)
        go_loopg [10, 11] (s.size + 2) (fun k v10 v11 wr => ∃ i : Nat, v10 = .int .i64 i ∧ 1 ≤ i ∧ i ≤ n ∧ n + 1 - i ≤ k ∧ Hid (StS w4 tx s.data.toList n bT i 0 wr))
        case atStart => exact ⟨1, rfl, by omega, by omega, by have := HN.out; omega, HST⟩
        case round =>
          obtain ⟨i, rfl, hi1, hi, hik, HS⟩ := hrel
          have HN' := HN.out
          by_cases hlt : i ≤ s.size
          · have h3 : (i : Int) ≤ s.size := by omega
            have h4 : (0 : Int) ≤ i := by omega
            have hin : i < n := by omega
            clear HN'
            generalize gk = g0 at *
            generalize wr = wo at *
            go_wp2_with fail
            go_loopg [11] (i + 1) (fun k v11 wr => ∃ kk : Nat, v11 = .int .i64 kk ∧ kk ≤ i ∧ i - kk < k ∧ Hid (StS w4 tx s.data.toList n bT i kk wr))
            case atStart => exact ⟨0, rfl, by omega, by omega, HS⟩
            case round =>
              clear HS
              obtain ⟨kk, rfl, hk, hkk, HS⟩ := hrel
              by_cases hlk : kk < i
              · have h5 : (kk : Int) < i := by omega
                have h6 : (kk : Int) ≤ i := by omega
                have h7 : kk < n := by omega
                have h8 : kk ≤ i := by omega
                have h9 : i ≤ s.size := by omega
                have c0 := HS.out.tof.cell h7
                rw [rnd_lt _ _ _ hlk] at c0
                have HR := Lib.hid (reach_succ tx s.data.toList i kk)
                cases hto : toB tx s.data.toList kk with
                | false =>
                  rw [hto] at c0 HR
                  clear hto
                  go_wp2_with fail
                  go_roundg (gk - 1)
                  case measure => omega
                  case rel => exact ⟨kk + 1, by go_num, by omega, by omega, Lib.hid (HS.out.pass (by rw [HR.out]; simp))⟩
                | true =>
                  rw [hto] at c0 HR
                  clear hto
                  have HNx := Lib.hid (HNx4.out.on (show Below w4.heap.size w4 wr by rw [HBT.out]; exact HS.out.up)); have HTr := Lib.hid (HT4.out.on (show Below w4.heap.size w4 wr by rw [HBT.out]; exact HS.out.up))
                  go_wp2_with fail
                  refine (match_any bx tx Ax (s.extract kk i) wr HNx.out HTr.out (by have := ext_size s kk i; omega)).mono ?_
                  rintro e wp ⟨rfl, hbx⟩
                  rw [ext_mid]
                  have HSp := Lib.hid (HS.out.on hbx H0.out)
                  clear hbx c0
                  cases hfx : fitsB tx ((s.data.toList.drop kk).take (i - kk)) with
                  | false =>
                    rw [hfx] at HR
                    clear hfx
                    go_wp2_with fail
                    go_roundg (gk - 1)
                    case measure => omega
                    case rel => exact ⟨kk + 1, by go_num, by omega, by omega, Lib.hid (HSp.out.pass (by rw [HR.out]; simp))⟩
                  | true =>
                    rw [hfx] at HR
                    clear hfx
                    have HPUT := Lib.hid (HSp.out.put H0.out (by rw [HR.out]; simp))
                    have c1 := HSp.out.tof.cell hin; have f1 := HSp.out.tof.frozen i
                    have c2 := ((HSp.out.sof.other bT i (.bool true) (by omega))).cell hin; have f2 := (HSp.out.sof.other bT i (.bool true) (by omega)).frozen i
                    go_wp2_with fail
                    go_roundg (gk - 1)
                    case measure => omega
                    case rel => exact ⟨kk + 1, by go_num, by omega, by omega, HPUT⟩
              · obtain rfl : kk = i := by omega
                go_wp2_with fail
                go_roundg (g0 - 1)
                case measure => omega
                case rel => exact ⟨kk + 1, by go_num, by omega, by omega, by omega, Lib.hid (HS.out.next (by omega))⟩
          · obtain rfl : i = n := by omega
            have hsn : s.size < i := by omega
            have d1 := HS.out.tof.cell hsn
            have d2 := HS.out.sof.cell hsn
            rw [rnd_lt _ _ _ hsn] at d1 d2
            have HFS := Lib.hid (show fitsB (over 5 tx) s.data.toList = toB tx s.data.toList s.size from fits_star' HX.out HTS1.out s.data.toList)
            have HFP := Lib.hid (show fitsB (over 6 tx) s.data.toList = someB tx s.data.toList s.size from fits_plus' HX.out HTS2.out s.data.toList)
            have hself1 : (toB tx s.data.toList s.size == toB tx s.data.toList s.size) = true := by simp
            have hself2 : (someB tx s.data.toList s.size == someB tx s.data.toList s.size) = true := by simp
            have HUP : Hid (Below w.heap.size w wr) := Lib.hid (below_then HB4.out (show Below w4.heap.size w4 wr by rw [HBT.out]; exact HS.out.up) (Nat.le_refl _))
            have HNC := Lib.hid (HNC4.out.on (show Below w4.heap.size w4 wr by rw [HBT.out]; exact HS.out.up)); have HNL := Lib.hid (HNL4.out.on (show Below w4.heap.size w4 wr by rw [HBT.out]; exact HS.out.up))
            have hCS : ∀ W, Below wr.heap.size wr W → Calls Tryd.prog 14 #[.pointer (some ⟨bC, 0, none⟩), .string s] W fun e w' => e = .returned (.bool (toB tx s.data.toList s.size)) ∧ Below W.heap.size W w' := fun W hW =>
              (match_any bC _ AC s W (HNC.out.on hW) (HT.out.on (below_then HUP.out hW (Nat.le_refl _))) (by omega)).mono fun e w' h => by rw [HFS.out] at h; exact h
            have hCP : ∀ W, Below wr.heap.size wr W → Calls Tryd.prog 14 #[.pointer (some ⟨bL, 0, none⟩), .string s] W fun e w' => e = .returned (.bool (someB tx s.data.toList s.size)) ∧ Below W.heap.size W w' := fun W hW =>
              (match_any bL _ AL s W (HNL.out.on hW) (HT.out.on (below_then HUP.out hW (Nat.le_refl _))) (by omega)).mono fun e w' h => by rw [HFP.out] at h; exact h
            have HCS := Lib.hid hCS; have HCP := Lib.hid hCP
            have hlen : (s.size : Int) < i := by omega
            clear hCS hCP HS HFS HFP HNC HNL HN'
            generalize toB tx s.data.toList s.size = T1 at *
            generalize someB tx s.data.toList s.size = T2 at *
            go_wp2_with fail
            go_region_held3 (fun w' => w'.cell? ⟨bT, s.size, none⟩ = some (.bool T1) ∧ w'.cell? ⟨bT + 1, s.size, none⟩ = some (.bool T2))
              (first | exact ⟨d1, d2⟩ | exact ⟨cell_below d1 hb2, cell_below d2 hb2⟩ | exact ⟨cell_below d1 hb3, cell_below d2 hb3⟩)
              (first
              | ((fail_if_success (revert hb2)); go_at_call 14; refine (HCS.out wr.drew ⟨rfl, rfl, rfl, Nat.le_refl _, fun _ _ => rfl⟩).mono ?_; rintro e w2 ⟨rfl, hb⟩; have hb2 : Below wr.heap.size wr w2 := ⟨hb.os, hb.tape, hb.output, hb.size, fun k hk => hb.block k hk⟩; clear hb)
              | (go_at_call 14; refine (HCP.out w2 hb2).mono ?_; rintro e w3 ⟨rfl, hb⟩; have hb3 : Below wr.heap.size wr w3 := below_then hb2 hb (Nat.le_refl _); clear hb))
            all_goals (go_wp2_with fail; go_ret; exact ⟨rfl, below_then HUP.out hb3 (Nat.le_refl _)⟩)
  · have HB2 := Lib.hid (below_then HB1.out hbx (Nat.le_refl _))
    clear hbx
    go_wp2_with fail
    go_ret
    exact ⟨rfl, HB2.out⟩
end Go.Proofs.YtpiflikblpfgoaaDoor
