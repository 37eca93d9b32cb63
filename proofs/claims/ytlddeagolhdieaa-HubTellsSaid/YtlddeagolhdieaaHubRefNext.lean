/- The document's Next. -/
import Derived.Test.YtlddeagolhdieaaHubRef
import Derived.Test.YtlddeagolhdieaaHubOpen
import Derived.BigQuiet
namespace Go.Proofs.Ytlddeagolhdieaa
open Go.RowKit Go.MuLone Go.Conc

set_option maxRecDepth 100000
set_option maxHeartbeats 4000000
abbrev TTk : TypeId := 29
theorem nx_step (l : List Hap) (at' i : Nat) (most : Int) (hat : at' ≤ l.length) (hi : i ≤ nx l at' most) : (at' + i < l.length ∧ (i : Int) < most) ↔ i < nx l at' most := by
  have h := nx_int l at' most
  revert h
  generalize nx l at' most = q at *
  split <;> split <;> intro h <;> omega
theorem hapsC_getp2 (l : List Hap) (j : Nat) (u : Value) (h : (hapsC l)[j]? = some u) : ∃ x, l[j / 3]? = some x ∧ (hapC x)[j % 3]? = some u := by
  have hj : j < l.length * 3 := by have := (List.getElem?_eq_some_iff.1 h).1; rwa [hapsC_len] at this
  obtain ⟨x, h1, h2⟩ := hapsC_getp l j hj
  exact ⟨x, h1, by rw [← h2]; exact h⟩
theorem Lies.part {w wr : World} {g o : Nat} {l : List Hap} (h : Lies w (some ⟨g, o, none⟩) l) (hb : Below w.heap.size w wr) (at' i c : Nat) (hc : l.length ≤ c) :
    ∀ w', Below wr.heap.size wr w' → Lies w' (if c = at' then some ⟨g, o, none⟩ else some ⟨g, o + at' * 3, none⟩) ((l.drop at').take i) := fun w' hw hne => by
  have hl : at' < l.length := by
    rcases Nat.lt_or_ge at' l.length with h0 | h0
    · exact h0
    · exact absurd (by rw [List.drop_eq_nil_of_le h0]; simp) hne
  rw [if_neg (by omega)]
  obtain ⟨g', o', e, hg, hcell⟩ := (h.on hb).on hw (fun e => by rw [e] at hl; simp at hl)
  cases e
  refine ⟨g, o + at' * 3, rfl, hg, fun k u hu => ?_⟩
  rw [Nat.add_assoc]
  refine hcell _ u ?_
  have h2 := hapsC_getp2 ((l.drop at').take i) k u hu
  obtain ⟨x, h3, h4⟩ := h2
  have h5 : l[at' + k / 3]? = some x := by
    rw [List.getElem?_take] at h3
    split at h3
    · rwa [List.getElem?_drop] at h3
    · cases h3
  have h6 := hapsC_at l (at' + k / 3) x h5 (k % 3) u h4
  rwa [show (at' + k / 3) * 3 + k % 3 = at' * 3 + k by omega] at h6
def RNextIs (A0 : Option Addr) (l : List Hap) (cl : Bool) (at' : Nat) (most : Int) (w : World) (e : Ending) (w' : World) : Prop :=
  ∃ A c, e = .returned (.tuple #[.slice A (nx l at' most) c, .bool (!cl || decide (at' + nx l at' most < l.length))]) ∧ Lies w' A ((l.drop at').take (nx l at' most)) ∧ Below w.heap.size w w' ∧ ∀ ad, A = some ad → ∃ ad0, A0 = some ad0 ∧ ad.block = ad0.block
theorem rnext_any (A : Option Addr) (l : List Hap) (c : Nat) (cl : Bool) (at' : Nat) (most : Int) (w : World) (hA : Lies w A l) (hnil : A = none → c = 0) (hfl : ∀ ad, A = some ad → ad.spot = none) (hc : l.length ≤ c) (hlim : l.length ≤ 4096) (hat : at' ≤ l.length) (hmo : -9223372036854775808 ≤ most ∧ most ≤ 9223372036854775807) :
    Calls Try.prog 18 #[.agg #[.slice A l.length c, .bool cl], .int .i64 at', .int .i64 most] w (RNextIs A l cl at' most w) := by
  obtain ⟨n, hn⟩ : ∃ n, l.length = n := ⟨_, rfl⟩
  have hq := nx_le l at' most hat
  have HS := Lib.hid (fun i hi => nx_step l at' i most hat hi)
  rw [hn] at HS hc hlim hat hq
  have hg := heap_alloc_new w (.cells #[.slice A l.length c, .bool cl] TTk)
  have hb := below_new w (.cells #[.slice A l.length c, .bool cl] TTk)
  rw [hn] at hg hb
  rw [hn]
  have HG := Lib.hid (And.intro hg (And.intro hb (And.intro hA hn)))
  generalize hQ : nx l at' most = q at *
  have HQ := Lib.hid hQ
  clear hQ hg hb hA hn
  go_enter Try.func18, Try.ntmps18
  go_wp2_with fail
  change Code.wp _ _ _ _ (w.alloc (.cells #[.slice A n c, .bool cl] TTk))
  generalize w.alloc (.cells #[.slice A n c, .bool cl] TTk) = W at *
  have k0 : W.cell? ⟨w.heap.size, 0, none⟩ = some (.slice A n c) := by rw [cell_of_row _ _ 0 _ _ _ HG.out.1]; rfl
  have k1 : W.cell? ⟨w.heap.size, 1, none⟩ = some (.bool cl) := by rw [cell_of_row _ _ 1 _ _ _ HG.out.1]; rfl
  go_loopg [8] (q + 1) (fun k v8 wr => ∃ i : Nat, v8 = .int .i64 ((at' + i : Nat) : Int) ∧ i ≤ q ∧ q + 1 - i ≤ k ∧ wr = W)
  case atStart => exact ⟨0, rfl, by omega, by omega, rfl⟩
  case round =>
    obtain ⟨i, rfl, hi, hik, rfl⟩ := hrel
    have hst := HS.out i hi
    by_cases hlt : i < q
    · obtain ⟨h1, h2⟩ := hst.2 hlt
      have d1 : decide ((at' : Int) + i < n) = true := decide_eq_true (by omega)
      have d2 : decide ((i : Int) < most) = true := decide_eq_true h2
      have d3 : (at' : Int) + i - at' = i := by omega
      clear hst
      go_wp2_with fail
      go_roundg (gk - 1)
      case measure => omega
      case rel => exact ⟨i + 1, by go_num, by omega, by omega, rfl⟩
    · obtain rfl : i = q := by omega
      have hno : ¬ (at' + i < n ∧ (i : Int) < most) := fun h => hlt (hst.1 h)
      have hgd : (decide ((at' : Int) + i < n) = true ∧ decide ((i : Int) < most) = false) ∨ decide ((at' : Int) + i < n) = false := by
        by_cases h1 : at' + i < n
        · exact .inl ⟨decide_eq_true (by omega), decide_eq_false (fun h => hno ⟨h1, h⟩)⟩
        · exact .inr (decide_eq_false (by omega))
      clear hst hlt hno
      obtain ⟨hG, hB, hA, hn⟩ := HG.out
      rcases A with _ | ⟨g, o, sp⟩
      · obtain rfl := hnil rfl
        obtain rfl : n = 0 := by omega
        obtain rfl : at' = 0 := by omega
        obtain rfl : i = 0 := by omega
        have HL := Lib.hid (And.intro hB (And.intro hA hn))
        clear hG hB hA hn HG HS
        rcases hgd with ⟨d1, d2⟩ | d1
        · exact absurd (of_decide_eq_true d1) (by decide)
        · cases cl <;> (
            go_wp2_with fail
            go_quiet (fail)
            go_wp2_with fail
            exact bodyPost_ret (results_tmp2 rfl _ _ _) rfl ⟨none, 0, by rw [HQ.out, HL.out.2.2]; rfl, by rw [HQ.out]; exact fun h => absurd (by simp) h, ⟨HL.out.1.os, HL.out.1.tape, HL.out.1.output, HL.out.1.size, HL.out.1.block⟩, fun ad e => (by cases e)⟩)
      · obtain rfl : sp = none := hfl _ rfl
        have HL := Lib.hid (And.intro hB (And.intro hA hn))
        clear hG hB hA hn HG HS hnil hfl
        have x1 : (at' : Int) ≤ (at' : Int) + i := by omega
        have d3 : (at' : Int) + i - at' = i := by omega
        have x2 : (at' : Int) + i ≤ c := by omega
        have x3 : at' + i - at' = i := by omega
        have HF := Lib.hid (HL.out.2.1.part HL.out.1 at' i c (by rw [HL.out.2.2]; exact hc))
        generalize hZ : (if c = at' then some (⟨g, o, none⟩ : Addr) else some ⟨g, o + at' * 3, none⟩) = Z at HF
        have hRN : ∀ (r : Bool) (w' : World), r = (!cl || decide (at' + i < n)) → Below wr.heap.size wr w' → RNextIs (some ⟨g, o, none⟩) l cl at' most w (.returned (.tuple #[.slice Z i (c - at'), .bool r])) w' := fun r w' hr hb' => by
          refine ⟨Z, c - at', ?_, ?_, HL.out.1.trans (hb'.mono HL.out.1.size), fun ad e => ⟨_, rfl, ?_⟩⟩
          · rw [HQ.out, HL.out.2.2, hr]
          · rw [HQ.out]; exact HF.out w' hb'
          · rw [← hZ] at e
            split at e <;> (cases e; rfl)
        have HRN := Lib.hid hRN
        clear hRN
        have HD : Hid (decide (at' + i < n) = decide ((at' : Int) + i < n)) := Lib.hid (by rw [decide_eq_decide]; omega)
        rcases hgd with ⟨d1, d2⟩ | d1 <;> cases cl <;> (
            rw [d1] at HD
            go_wp2_with fail
            go_quiet (fail)
            go_wp2_with fail
            refine bodyPost_ret (results_tmp2 rfl _ _ _) rfl ?_
            change RNextIs _ l _ at' most w (.returned (.tuple #[.slice Z (at' + i - at') (c - at'), .bool _])) _
            rw [x3]
            exact HRN.out _ _ (by rw [HD.out]; rfl) ⟨rfl, rfl, rfl, Nat.le_refl _, fun _ _ => rfl⟩)
end Go.Proofs.Ytlddeagolhdieaa
