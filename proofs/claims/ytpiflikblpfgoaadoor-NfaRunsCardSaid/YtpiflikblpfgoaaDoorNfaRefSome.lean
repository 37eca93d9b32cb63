/- The document's Some: does a tree fit anything? Deep. (printed by gen_some.py) -/
import Derived.Test.YtpiflikblpfgoaaDoorNfaRefEnds
import Derived.Test.YtpiflikblpfgoaaDoorNfaEndsMath
import Derived.ChangeKeysEq
namespace Go.Proofs.YtpiflikblpfgoaaDoor
open Go.RowKit PM

theorem words_zero (set : Nat → Bool) : (word set 0 = 0 ∧ word set 1 = 0 ∧ word set 2 = 0 ∧ word set 3 = 0) ↔ ¬ ∃ c, c < 256 ∧ set c = true := by
  have hz : ∀ i, word set i = 0 ↔ ∀ k, k < 64 → set (64 * i + k) = false := fun i => by
    constructor
    · intro h k hk
      have := word_test set i k
      rw [h, Nat.zero_testBit, decide_eq_true hk, Bool.true_and] at this
      exact this.symm
    · intro h
      refine (word_eq (n := 0) fun k => ?_).symm
      rw [Nat.zero_testBit]
      by_cases hk : k < 64
      · rw [h k hk, Bool.and_false]
      · rw [decide_eq_false hk, Bool.false_and]
  rw [hz, hz, hz, hz]
  constructor
  · rintro ⟨h0, h1, h2, h3⟩ ⟨c, hc, h⟩
    have hq : c / 64 = 0 ∨ c / 64 = 1 ∨ c / 64 = 2 ∨ c / 64 = 3 := by omega
    rcases hq with e | e | e | e
    · have := h0 (c % 64) (by omega); rw [show 64 * 0 + c % 64 = c by omega, h] at this; cases this
    · have := h1 (c % 64) (by omega); rw [show 64 * 1 + c % 64 = c by omega, h] at this; cases this
    · have := h2 (c % 64) (by omega); rw [show 64 * 2 + c % 64 = c by omega, h] at this; cases this
    · have := h3 (c % 64) (by omega); rw [show 64 * 3 + c % 64 = c by omega, h] at this; cases this
  · intro h
    have hn : ∀ c, c < 256 → set c = false := fun c hc => by
      cases hs : set c with
      | false => rfl
      | true => exact absurd ⟨c, hc, hs⟩ h
    exact ⟨fun k hk => hn _ (by omega), fun k hk => hn _ (by omega), fun k hk => hn _ (by omega), fun k hk => hn _ (by omega)⟩

theorem eq_zero_set (x0 x1 x2 x3 : Nat) (w : World) : (Op.equalIn 10000 TB (.agg #[.int .u64 x0, .int .u64 x1, .int .u64 x2, .int .u64 x3]) (.agg #[.int .u64 0, .int .u64 0, .int .u64 0, .int .u64 0])).run Tryd.prog w = .ok (decide (x0 = 0 ∧ x1 = 0 ∧ x2 = 0 ∧ x3 = 0)) w := by
  have hz : ∃ i, Tryd.prog.info? 29 = some i := Option.isSome_iff_exists.1 (by kernel_rfl)
  obtain ⟨i, hi⟩ := hz
  rw [run_equalIn_array w 9999 _ _ Tryd.underlying31 hi, show List.range 4 = [0, 1, 2, 3] from rfl, show Tryd.prog.cellsOf 29 = 1 from by kernel_rfl]
  by_cases h0 : x0 = 0 <;> by_cases h1 : x1 = 0 <;> by_cases h2 : x2 = 0 <;> by_cases h3 : x3 = 0 <;> simp [Op.eqItems, go_sem, h0, h1, h2, h3]

def SomeIs (t : T) (w : World) (e : Ending) (w' : World) : Prop := ∃ r : Bool, e = .returned (.bool r) ∧ (r = true ↔ SomeP t) ∧ Below w.heap.size w w'
def SomeOk (t : T) : Prop := ∀ (p : Nat → Prop) (K : Value) (w : World), IsT w p K t → Calls Tryd.prog 48 #[nodeV t K] w (SomeIs t w)

set_option maxRecDepth 100000 in
set_option maxHeartbeats 16000000 in
theorem some_any (m : Nat) (hm : m ≤ 1000000) (t : T) : T.OK m t → SomeOk t := by
  induction t using T.ind with
  | h op set kids ih =>
    intro hok p K w ha
    obtain ⟨h567, hkl, hks⟩ : (op = 5 ∨ op = 6 ∨ op = 7 → ∃ k, kids = [k]) ∧ kids.length ≤ m ∧ ∀ k ∈ kids, T.OK m k := by cases hok with | mk a b c => exact ⟨a, b, c⟩
    have hI : ∀ k ∈ kids, SomeOk k := fun k hk => ih k hk (hks k hk)
    have HI := Lib.hid hI
    obtain ⟨A, ca, ka, rfl, hA⟩ := ha.parts
    simp only [T.kids] at hA
    have HA := Lib.hid hA
    clear ih hI hA ha hks hok
    simp only [nodeV, nodeC, T.op, T.set, T.kids]
    have HW := Lib.hid (words_zero set)
    generalize hx0 : word set 0 = x0 at *
    generalize hx1 : word set 1 = x1 at *
    generalize hx2 : word set 2 = x2 at *
    generalize hx3 : word set 3 = x3 at *
    clear hx0 hx1 hx2 hx3
    obtain ⟨q, hq⟩ : ∃ q, kids.length = q := ⟨_, rfl⟩
    rw [hq] at hkl ⊢
    have HQ := Lib.hid hq
    clear hq
    unfold SomeIs
    have HS := Lib.hid (EmS.start w #[.int .i64 op, .int .u64 x0, .int .u64 x1, .int .u64 x2, .int .u64 x3, .slice A q ca])
    by_cases h2 : op = 2
    · subst h2
      clear HA HI h567
      go_enter Tryd.func48, Tryd.ntmps48
      go_upto_region 1 with (fail)
      change Code.wp _ _ _ _ _
      generalize w.alloc (.cells #[.int .i64 (2 : Nat), .int .u64 x0, .int .u64 x1, .int .u64 x2, .int .u64 x3, .slice A q ca] TN) = W0 at *
      obtain ⟨a0, a1, a2, a3, a4, a5⟩ := HS.out.six
      have heq := eq_zero_set x0 x1 x2 x3
      go_wp2_with fail
      go_ret
      refine ⟨_, rfl, ?_, HS.out.up⟩
      rw [some_set]
      have hw := HW.out
      by_cases h : ∃ c, c < 256 ∧ set c = true
      · have h2 : ¬ (x0 = 0 ∧ x1 = 0 ∧ x2 = 0 ∧ x3 = 0) := fun e => hw.1 e h
        simp only [h, iff_true]
        by_cases h3 : x0 = 0 <;> by_cases h4 : x1 = 0 <;> by_cases h5 : x2 = 0 <;> by_cases h6 : x3 = 0 <;> (first | (simp [h3, h4, h5, h6]; done) | exact absurd ⟨h3, h4, h5, h6⟩ h2)
      · have h2 := hw.2 h
        simp only [h, iff_false]
        simp
        exact h2
    have n2 : ((op : Int) == 2) = false := bool_eqs op 2 h2
    by_cases h3 : op = 3
    · subst h3
      clear h567 HW n2
      go_enter Tryd.func48, Tryd.ntmps48
      go_upto_region 1 with (fail)
      change Code.wp _ _ _ _ _
      generalize w.alloc (.cells #[.int .i64 (3 : Nat), .int .u64 x0, .int .u64 x1, .int .u64 x2, .int .u64 x3, .slice A q ca] TN) = W0 at *
      obtain ⟨a0, a1, a2, a3, a4, a5⟩ := HS.out.six
      go_wp2_with fail
      change Code.wp _ _ _ _ _
      clear a0 a1 a2 a3 a4 a5
      go_loopg [3] (q + 1) (fun k v9 wr => ∃ (i : Nat), v9 = .int .i64 i ∧ i ≤ q ∧ q - i < k ∧ Hid (EmS w wr #[.int .i64 (3 : Nat), .int .u64 x0, .int .u64 x1, .int .u64 x2, .int .u64 x3, .slice A q ca]) ∧ Hid (∀ k ∈ kids.take i,  SomeP k))
      case atStart => exact ⟨0, rfl, by omega, by omega, HS, Lib.hid (by simp)⟩
      case round =>
        clear HS
        obtain ⟨i, rfl, hi, hik, HS, HP⟩ := hrel
        by_cases hlt : i < q
        · have h1 : (i : Int) < q := by omega
          have h2 : (0 : Int) ≤ i := by omega
          obtain ⟨kd, hkd⟩ : ∃ kd, kids[i]? = some kd := ⟨_, List.getElem?_eq_getElem (by rw [HQ.out]; exact hlt)⟩
          obtain ⟨⟨ga, oa, rfl, pa, la, hca⟩, hta⟩ := HA.out i kd hkd
          have hC : ∀ W, Below w.heap.size w W → Calls Tryd.prog 48 #[nodeV kd (ka i)] W (SomeIs kd W) := fun W hW => HI.out kd (List.mem_of_getElem? hkd) _ _ W (hta.on hW)
          unfold SomeIs at hC
          simp only [nodeV, nodeC] at hC
          have HM := Lib.hid (List.mem_of_getElem? hkd)
          have HT := Lib.hid (take_snocT hkd)
          obtain ⟨y0, y1, y2, y3, y4, y5⟩ := kid_cells HS.out.up la hca
          obtain ⟨K0, hK0⟩ : ∃ K0, ka i = K0 := ⟨_, rfl⟩
          obtain ⟨Ak, ck, hks⟩ := hta.slice
          rw [hks] at y5 hC
          have HC := Lib.hid hC
          obtain ⟨a0, a1, a2, a3, a4, a5⟩ := HS.out.six
          clear hC hca hta hkd hK0 hks
          go_wp2_with fail
          refine (HC.out _ HS.out.up).mono ?_
          rintro e w2 ⟨rk, rfl, hrk, hb⟩
          have HS2 := Lib.hid (HS.out.on hb); have HR := Lib.hid hrk
          clear hb hrk HS HC y0 y1 y2 y3 y4 y5 a0 a1 a2 a3 a4 a5
          cases rk with
          | false =>
            go_wp2_with fail
            go_ret
            exact ⟨false, rfl, ⟨fun h => (by cases h), fun h => HR.out.2 (some_cat.1 h kd HM.out)⟩, HS2.out.up⟩
          | true =>
            go_wp2_with fail
            go_roundg (gk - 1)
            case measure => omega
            case rel => exact ⟨i + 1, by go_num, by omega, by omega, HS2, Lib.hid (fun k hk => by
              rw [HT.out, List.mem_append, List.mem_singleton] at hk
              rcases hk with hk | rfl
              · exact HP.out k hk
              · exact (by have h := HR.out; simpa using h))⟩
        · obtain rfl : i = q := by omega
          have HU := Lib.hid HS.out.up
          have HP2 := HP.out
          rw [← HQ.out, List.take_length] at HP2
          have HP3 := Lib.hid HP2
          obtain ⟨a0, a1, a2, a3, a4, a5⟩ := HS.out.six
          clear HP2 HP HS
          go_wp2_with fail
          go_ret
          exact ⟨true, rfl, ⟨fun _ => some_cat.2 HP3.out, fun _ => rfl⟩, HU.out⟩
    have n3 : ((op : Int) == 3) = false := bool_eqs op 3 h3
    by_cases h4 : op = 4
    · subst h4
      clear h567 HW n2 n3
      go_enter Tryd.func48, Tryd.ntmps48
      go_upto_region 1 with (fail)
      change Code.wp _ _ _ _ _
      generalize w.alloc (.cells #[.int .i64 (4 : Nat), .int .u64 x0, .int .u64 x1, .int .u64 x2, .int .u64 x3, .slice A q ca] TN) = W0 at *
      obtain ⟨a0, a1, a2, a3, a4, a5⟩ := HS.out.six
      go_wp2_with fail
      change Code.wp _ _ _ _ _
      clear a0 a1 a2 a3 a4 a5
      go_loopg [4] (q + 1) (fun k v9 wr => ∃ (i : Nat), v9 = .int .i64 i ∧ i ≤ q ∧ q - i < k ∧ Hid (EmS w wr #[.int .i64 (4 : Nat), .int .u64 x0, .int .u64 x1, .int .u64 x2, .int .u64 x3, .slice A q ca]) ∧ Hid (∀ k ∈ kids.take i, ¬ SomeP k))
      case atStart => exact ⟨0, rfl, by omega, by omega, HS, Lib.hid (by simp)⟩
      case round =>
        clear HS
        obtain ⟨i, rfl, hi, hik, HS, HP⟩ := hrel
        by_cases hlt : i < q
        · have h1 : (i : Int) < q := by omega
          have h2 : (0 : Int) ≤ i := by omega
          obtain ⟨kd, hkd⟩ : ∃ kd, kids[i]? = some kd := ⟨_, List.getElem?_eq_getElem (by rw [HQ.out]; exact hlt)⟩
          obtain ⟨⟨ga, oa, rfl, pa, la, hca⟩, hta⟩ := HA.out i kd hkd
          have hC : ∀ W, Below w.heap.size w W → Calls Tryd.prog 48 #[nodeV kd (ka i)] W (SomeIs kd W) := fun W hW => HI.out kd (List.mem_of_getElem? hkd) _ _ W (hta.on hW)
          unfold SomeIs at hC
          simp only [nodeV, nodeC] at hC
          have HM := Lib.hid (List.mem_of_getElem? hkd)
          have HT := Lib.hid (take_snocT hkd)
          obtain ⟨y0, y1, y2, y3, y4, y5⟩ := kid_cells HS.out.up la hca
          obtain ⟨K0, hK0⟩ : ∃ K0, ka i = K0 := ⟨_, rfl⟩
          obtain ⟨Ak, ck, hks⟩ := hta.slice
          rw [hks] at y5 hC
          have HC := Lib.hid hC
          obtain ⟨a0, a1, a2, a3, a4, a5⟩ := HS.out.six
          clear hC hca hta hkd hK0 hks
          go_wp2_with fail
          refine (HC.out _ HS.out.up).mono ?_
          rintro e w2 ⟨rk, rfl, hrk, hb⟩
          have HS2 := Lib.hid (HS.out.on hb); have HR := Lib.hid hrk
          clear hb hrk HS HC y0 y1 y2 y3 y4 y5 a0 a1 a2 a3 a4 a5
          cases rk with
          | true =>
            go_wp2_with fail
            go_ret
            exact ⟨true, rfl, ⟨fun _ => some_alt.2 ⟨kd, HM.out, by have h := HR.out; simpa using h⟩, fun _ => rfl⟩, HS2.out.up⟩
          | false =>
            go_wp2_with fail
            go_roundg (gk - 1)
            case measure => omega
            case rel => exact ⟨i + 1, by go_num, by omega, by omega, HS2, Lib.hid (fun k hk => by
              rw [HT.out, List.mem_append, List.mem_singleton] at hk
              rcases hk with hk | rfl
              · exact HP.out k hk
              · exact fun h => (by cases HR.out.2 h))⟩
        · obtain rfl : i = q := by omega
          have HU := Lib.hid HS.out.up
          have HP2 := HP.out
          rw [← HQ.out, List.take_length] at HP2
          have HP3 := Lib.hid HP2
          obtain ⟨a0, a1, a2, a3, a4, a5⟩ := HS.out.six
          clear HP2 HP HS
          go_wp2_with fail
          go_ret
          exact ⟨false, rfl, ⟨fun h => (by cases h), fun h => let ⟨k, a, b⟩ := some_alt.1 h; absurd b (HP3.out k a)⟩, HU.out⟩
    have n4 : ((op : Int) == 4) = false := bool_eqs op 4 h4
    by_cases h6 : op = 6
    · subst h6
      obtain ⟨kd, rfl⟩ := h567 (by omega)
      obtain rfl : q = 1 := HQ.out.symm
      obtain ⟨⟨ga, oa, rfl, pa, la, hca⟩, hta⟩ := HA.out 0 kd rfl
      have hC : ∀ W, Below w.heap.size w W → Calls Tryd.prog 48 #[nodeV kd (ka 0)] W (SomeIs kd W) := fun W hW => HI.out kd (by simp) _ _ W (hta.on hW)
      unfold SomeIs at hC
      simp only [nodeV, nodeC] at hC
      have HCA := Lib.hid hca; have HLA := Lib.hid la
      obtain ⟨K0, hK0⟩ : ∃ K0, ka 0 = K0 := ⟨_, rfl⟩
      obtain ⟨Ak, ck, hks⟩ := hta.slice
      rw [hks] at hC
      have HC := Lib.hid hC; have HKS := Lib.hid hks
      clear hC hca hta hK0 hks HA HI h567 la n2 n3 n4 HW
      go_enter Tryd.func48, Tryd.ntmps48
      go_upto_region 1 with (fail)
      change Code.wp _ _ _ _ _
      generalize w.alloc (.cells #[.int .i64 (6 : Nat), .int .u64 x0, .int .u64 x1, .int .u64 x2, .int .u64 x3, .slice (some ⟨ga, oa, none⟩) 1 ca] TN) = W0 at *
      obtain ⟨a0, a1, a2, a3, a4, a5⟩ := HS.out.six
      obtain ⟨y0, y1, y2, y3, y4, y5⟩ := kid0_cells HS.out.up HLA.out HCA.out
      rw [HKS.out] at y5
      go_wp2_with fail
      refine (HC.out _ HS.out.up).mono ?_
      rintro e w2 ⟨rk, rfl, hrk, hb⟩
      have HU := Lib.hid (HS.out.on hb).up; have HR := Lib.hid hrk
      clear hb hrk HS HC y0 y1 y2 y3 y4 y5 a0 a1 a2 a3 a4 a5
      go_wp2_with fail
      go_ret
      exact ⟨rk, rfl, HR.out.trans some_plus.symm, HU.out⟩
    have n6 : ((op : Int) == 6) = false := bool_eqs op 6 h6
    have HSP : Hid (SomeP (.mk op set kids)) := Lib.hid (by
      by_cases h5 : op = 5
      · subst h5; exact some_star
      · by_cases h7 : op = 7
        · subst h7; exact some_opt
        · exact some_other h2 h3 h4 h5 h6 h7)
    clear HA HI h567 HW
    go_enter Tryd.func48, Tryd.ntmps48
    go_upto_region 1 with (fail)
    change Code.wp _ _ _ _ _
    generalize w.alloc (.cells #[.int .i64 op, .int .u64 x0, .int .u64 x1, .int .u64 x2, .int .u64 x3, .slice A q ca] TN) = W0 at *
    obtain ⟨a0, a1, a2, a3, a4, a5⟩ := HS.out.six
    go_wp2_with fail
    go_ret
    exact ⟨true, rfl, ⟨fun _ => HSP.out, fun _ => rfl⟩, HS.out.up⟩
end Go.Proofs.YtpiflikblpfgoaaDoor
