/- What the document's Read computes, in plain words; it tells what Decode tells. -/
import Derived.Test.YtbapifbahhjfgaaMsgMath
namespace Go.Proofs.Ytbapifbahhjfgaa
open Go.RowKit

set_option maxRecDepth 100000
def wholeN (x : Nat) : Int := if 1125899906842624 < x then -1 else x
def numsN (l : List UInt8) : Nat → WM.St → (Nat → Nat) × WM.St
  | 0, st => (fun _ => 0, st)
  | k + 1, st => (fun i => if i = k then (WM.num l 8 (numsN l k st).2).1 else (numsN l k st).1 i, (WM.num l 8 (numsN l k st).2).2)
def entsN (l : List UInt8) : Nat → WM.St → List (Nat × ByteArray) × WM.St
  | 0, st => ([], st)
  | k + 1, st => ((entsN l k st).1 ++ [((WM.num l 8 (entsN l k st).2).1, bs (WM.textR l 3500 (WM.num l 8 (entsN l k st).2).2).1)], (WM.textR l 3500 (WM.num l 8 (entsN l k st).2).2).2)
theorem numsR_eq (l : List UInt8) (st : WM.St) : ∀ k, (∀ i, (numsR l k st).1 i = (((numsN l k st).1 i % p63 : Nat) : Int)) ∧ (numsR l k st).2 = (numsN l k st).2
  | 0 => ⟨fun i => rfl, rfl⟩
  | k + 1 => by
    obtain ⟨h1, h2⟩ := numsR_eq l st k
    refine ⟨fun i => ?_, by simp only [numsR, numsN, h2]⟩
    simp only [numsR, numsN]
    by_cases e : i = k
    · rw [if_pos e, if_pos e, h2]
    · rw [if_neg e, if_neg e, h1 i]
theorem entsR_eq (l : List UInt8) (st : WM.St) : ∀ k, (entsR l k st).1 = (entsN l k st).1.map (fun x => (((x.1 % p63 : Nat) : Int), x.2)) ∧ (entsR l k st).2 = (entsN l k st).2
  | 0 => ⟨rfl, rfl⟩
  | k + 1 => by
    obtain ⟨h1, h2⟩ := entsR_eq l st k
    refine ⟨by simp only [entsR, entsN, h1, h2, List.map_append, List.map_cons, List.map_nil], by simp only [entsR, entsN, h2]⟩
theorem entsN_len (l : List UInt8) (st : WM.St) : ∀ k, (entsN l k st).1.length = k
  | 0 => rfl
  | k + 1 => by simp only [entsN, List.length_append, entsN_len l st k, List.length_singleton]
def refMsg (l : List UInt8) : Msg := { rawMsg l with n := fun i => wholeN ((numsN l 15 (st1 l)).1 i), ents := (entsN l (min (cnt l) 4) (st8 l)).1.map fun x => (wholeN x.1, x.2) }
def readR (s : ByteArray) : Msg × Nat × Nat :=
  if (endOf s (rawEnd s.data.toList)).1 ≠ 0 then (zeroMsg, endOf s (rawEnd s.data.toList))
  else if 4 < cnt s.data.toList ∨ (refMsg s.data.toList).check ≠ 0 then (zeroMsg, 7, 0)
  else (refMsg s.data.toList, 0, 0)

/-- from a state to a state so many bytes were read, and these -/
def Rd (l : List UInt8) (st : WM.St) (enc : List UInt8) (st' : WM.St) : Prop := ∀ b, st' = .ok b → ∃ a, st = .ok a ∧ (a ≤ l.length → b ≤ l.length ∧ l.drop a = enc ++ l.drop b)
theorem Rd.nil (l : List UInt8) (st : WM.St) : Rd l st [] st := fun b h => ⟨b, h, fun hb => ⟨hb, rfl⟩⟩
theorem Rd.trans {l : List UInt8} {st st' st'' : WM.St} {e e' : List UInt8} (h : Rd l st e st') (h' : Rd l st' e' st'') : Rd l st (e ++ e') st'' := fun c hc => by
  obtain ⟨b, hb, h2⟩ := h' c hc
  obtain ⟨a, ha, h1⟩ := h b hb
  refine ⟨a, ha, fun hal => ?_⟩
  obtain ⟨h3, h4⟩ := h1 hal
  obtain ⟨h5, h6⟩ := h2 h3
  exact ⟨h5, by rw [h4, h6, List.append_assoc]⟩
theorem Rd.num (l : List UInt8) (k : Nat) (st : WM.St) : Rd l st (WM.be k (WM.num l k st).1) (WM.num l k st).2 := fun b hb => by
  cases st with
  | bad e p => simp [WM.num] at hb
  | ok a =>
    simp only [WM.num] at hb ⊢
    by_cases h : l.length - a < k
    · rw [if_pos h] at hb; cases hb
    · rw [if_neg h] at hb ⊢
      simp only [WM.St.ok.injEq] at hb
      subst hb
      refine ⟨a, rfl, fun ha => ⟨by omega, ?_⟩⟩
      have hl : ((l.drop a).take k).length = k := by rw [List.length_take, List.length_drop]; omega
      have hbe := WM.be_val ((l.drop a).take k)
      rw [hl] at hbe
      rw [hbe, ← List.drop_drop, List.take_append_drop]
theorem num_lt' (l : List UInt8) (k : Nat) (st : WM.St) : (WM.num l k st).1 < 256 ^ k := by
  cases st with
  | bad e p => simp only [WM.num]; exact Nat.pow_pos (by decide)
  | ok a =>
    simp only [WM.num]
    split
    · exact Nat.pow_pos (by decide)
    · refine Nat.lt_of_lt_of_le (WM.val_lt _) (Nat.pow_le_pow_right (by decide) ?_)
      rw [List.length_take]; omega
theorem Rd.bool (l : List UInt8) (st : WM.St) : Rd l st (WM.be 1 (if (WM.bool l st).1 then 1 else 0)) (WM.bool l st).2 := fun b hb => by
  cases st with
  | bad e p => simp [WM.bool] at hb
  | ok a =>
    have h1 := Rd.num l 1 (.ok a)
    cases hn : WM.num l 1 (.ok a) with
    | mk n st' =>
      rw [hn] at h1
      cases st' with
      | bad e p =>
        have hx : WM.bool l (.ok a) = (false, .bad e p) := by simp only [WM.bool, hn]
        rw [hx] at hb
        cases hb
      | ok c =>
        have hx : WM.bool l (.ok a) = (if 1 < n then (false, .bad 7 a) else (n == 1, .ok c)) := by simp only [WM.bool, hn]
        rw [hx] at hb ⊢
        by_cases h : 1 < n
        · rw [if_pos h] at hb; cases hb
        · rw [if_neg h] at hb ⊢
          have hn1 : (if (n == 1) = true then 1 else 0) = n := by
            have : n = 0 ∨ n = 1 := by omega
            rcases this with rfl | rfl <;> rfl
          show ∃ a_1, _ ∧ (_ → _ ∧ _ = WM.be 1 (if (n == 1) = true then 1 else 0) ++ _)
          rw [hn1]
          exact h1 b hb
theorem Rd.text (l : List UInt8) (most : Int) (st : WM.St) : Rd l st (WM.text (WM.textR l most st).1) (WM.textR l most st).2 := fun b hb => by
  cases st with
  | bad e p => simp [WM.textR] at hb
  | ok a =>
    have h1 := Rd.num l 4 (.ok a)
    cases hn : WM.num l 4 (.ok a) with
    | mk n st' =>
      rw [hn] at h1
      cases st' with
      | bad e p =>
        have hx : WM.textR l most (.ok a) = ([], .bad e p) := by simp only [WM.textR, hn]
        rw [hx] at hb
        cases hb
      | ok c =>
        have hx : WM.textR l most (.ok a) = (if most < n then ([], .bad 3 a) else if l.length - c < n then ([], .bad 7 a) else ((l.drop c).take n, .ok (c + n))) := by simp only [WM.textR, hn]
        rw [hx] at hb ⊢
        by_cases h : most < n
        · rw [if_pos h] at hb; cases hb
        · rw [if_neg h] at hb ⊢
          by_cases h2 : l.length - c < n
          · rw [if_pos h2] at hb; cases hb
          · rw [if_neg h2] at hb ⊢
            simp only [WM.St.ok.injEq] at hb
            subst hb
            obtain ⟨a', ha', h3⟩ := h1 c rfl
            cases ha'
            refine ⟨a, rfl, fun ha => ?_⟩
            obtain ⟨h4, h5⟩ := h3 ha
            have hl : ((l.drop c).take n).length = n := by rw [List.length_take, List.length_drop]; omega
            refine ⟨by omega, ?_⟩
            show _ = WM.text ((l.drop c).take n) ++ _
            unfold WM.text
            rw [h5, hl, List.append_assoc, ← List.drop_drop, List.take_append_drop]
def encN (x : Nat → Nat) (k : Nat) : List UInt8 := (List.range k).flatMap fun j => WM.be 8 (x j)
def encE (es : List (Nat × ByteArray)) : List UInt8 := es.flatMap fun x => WM.be 8 x.1 ++ WM.text x.2.data.toList
theorem encN_congr {x y : Nat → Nat} {k : Nat} (h : ∀ i, i < k → x i = y i) : encN x k = encN y k := by
  unfold encN
  rw [List.flatMap_def, List.flatMap_def, List.map_congr_left (fun j hj => by rw [h j (List.mem_range.1 hj)])]
theorem Rd.nums (l : List UInt8) (st : WM.St) : ∀ k, Rd l st (encN (numsN l k st).1 k) (numsN l k st).2
  | 0 => Rd.nil l st
  | k + 1 => by
    have h := (Rd.nums l st k).trans (Rd.num l 8 (numsN l k st).2)
    have e : encN (numsN l (k + 1) st).1 (k + 1) = encN (numsN l k st).1 k ++ WM.be 8 (WM.num l 8 (numsN l k st).2).1 := by
      have e1 : encN (numsN l (k + 1) st).1 k = encN (numsN l k st).1 k := encN_congr (fun i hi => by simp only [numsN]; rw [if_neg (by omega)])
      rw [← e1]
      unfold encN
      rw [List.range_succ, List.flatMap_append]
      simp [numsN]
    rw [e]; exact h
theorem Rd.ents (l : List UInt8) (st : WM.St) : ∀ k, Rd l st (encE (entsN l k st).1) (entsN l k st).2
  | 0 => Rd.nil l st
  | k + 1 => by
    have h := ((Rd.ents l st k).trans (Rd.num l 8 (entsN l k st).2)).trans (Rd.text l 3500 (WM.num l 8 (entsN l k st).2).2)
    have e : encE (entsN l (k + 1) st).1 = encE (entsN l k st).1 ++ WM.be 8 (WM.num l 8 (entsN l k st).2).1 ++ WM.text (WM.textR l 3500 (WM.num l 8 (entsN l k st).2).2).1 := by
      simp only [entsN, encE, List.flatMap_append, List.flatMap_cons, List.flatMap_nil, List.append_nil, List.append_assoc]
      rfl
    rw [e]; exact h
/-- all that was read -/
def ENC (l : List UInt8) : List UInt8 :=
  WM.be 1 (rawMsg l).kind ++ encN (numsN l 15 (st1 l)).1 15 ++ (WM.be 1 (if (rawMsg l).good then 1 else 0) ++ WM.be 1 (rawMsg l).op ++ WM.be 4 (WM.num l 4 (st4 l)).1 ++ WM.be 1 (WM.num l 1 (st5 l)).1) ++ (WM.text (rawMsg l).data.data.toList ++ WM.be 1 (cnt l)) ++ encE (entsN l (min (cnt l) 4) (st8 l)).1
theorem rd_all (l : List UInt8) (b : Nat) (h : rawEnd l = .ok b) : b ≤ l.length ∧ l = ENC l ++ l.drop b := by
  have h1 := Rd.num l 1 (.ok 0)
  have h2 := Rd.nums l (st1 l) 15
  rw [← (numsR_eq l (st1 l) 15).2] at h2
  have h3 := Rd.bool l (st2 l)
  have h4 := Rd.num l 1 (st3 l)
  have h5 := Rd.num l 4 (st4 l)
  have h6 := Rd.num l 1 (st5 l)
  have h7 := Rd.text l 3500 (st6 l)
  have h8 := Rd.num l 1 (st7 l)
  have h9 := Rd.ents l (st8 l) (min (cnt l) 4)
  rw [← (entsR_eq l (st8 l) _).2] at h9
  obtain ⟨a, ha, hr⟩ := ((((h1.trans h2).trans (((h3.trans h4).trans h5).trans h6)).trans (h7.trans h8)).trans h9) b h
  cases ha
  obtain ⟨h10, h11⟩ := hr (Nat.zero_le _)
  refine ⟨h10, ?_⟩
  unfold ENC
  simp only [List.append_assoc] at h11 ⊢
  exact h11

/-- what went wrong has a number -/
def StOk : WM.St → Prop
  | .ok _ => True
  | .bad e _ => e ≠ 0
theorem StOk.num {l : List UInt8} {k : Nat} {st : WM.St} (h : StOk st) : StOk (WM.num l k st).2 := by
  cases st with
  | bad e p => exact h
  | ok a =>
    simp only [WM.num]
    split
    · show (7 : Nat) ≠ 0; decide
    · trivial
theorem StOk.bool {l : List UInt8} {st : WM.St} (h : StOk st) : StOk (WM.bool l st).2 := by
  cases st with
  | bad e p => exact h
  | ok a =>
    have h1 : StOk (WM.num l 1 (.ok a)).2 := StOk.num trivial
    cases hn : WM.num l 1 (.ok a) with
    | mk n st' =>
      rw [hn] at h1
      cases st' with
      | bad e p => simp only [WM.bool, hn]; exact h1
      | ok c =>
        simp only [WM.bool, hn]
        split
        · show (7 : Nat) ≠ 0; decide
        · trivial
theorem StOk.text {l : List UInt8} {most : Int} {st : WM.St} (h : StOk st) : StOk (WM.textR l most st).2 := by
  cases st with
  | bad e p => exact h
  | ok a =>
    have h1 : StOk (WM.num l 4 (.ok a)).2 := StOk.num trivial
    cases hn : WM.num l 4 (.ok a) with
    | mk n st' =>
      rw [hn] at h1
      cases st' with
      | bad e p => simp only [WM.textR, hn]; exact h1
      | ok c =>
        simp only [WM.textR, hn]
        split
        · show (3 : Nat) ≠ 0; decide
        · split
          · show (7 : Nat) ≠ 0; decide
          · trivial
theorem StOk.nums {l : List UInt8} {st : WM.St} (h : StOk st) : ∀ k, StOk (numsR l k st).2
  | 0 => h
  | k + 1 => (StOk.nums h k).num
theorem StOk.ents {l : List UInt8} {st : WM.St} (h : StOk st) : ∀ k, StOk (entsR l k st).2
  | 0 => h
  | k + 1 => ((StOk.ents h k).num).text
theorem rawEnd_ok (l : List UInt8) : StOk (rawEnd l) :=
  StOk.ents (StOk.num (StOk.text (StOk.num (StOk.num (StOk.num (StOk.bool (StOk.nums (StOk.num (st := .ok 0) trivial) 15))))))) _
theorem be8_inj {x y : Nat} (hx : x < 256 ^ 8) (hy : y < 256 ^ 8) (h : WM.be 8 x = WM.be 8 y) : x = y := WM.be_inj hx hy h
theorem encN_len (x : Nat → Nat) (k : Nat) : (encN x k).length = 8 * k := by
  induction k with
  | zero => rfl
  | succ k ih =>
    unfold encN at ih ⊢
    rw [List.range_succ, List.flatMap_append, List.length_append, ih]
    simp [WM.be_len]; omega
theorem encN_inj {x y : Nat → Nat} (hx : ∀ i, x i < 256 ^ 8) (hy : ∀ i, y i < 256 ^ 8) : ∀ k, encN x k = encN y k → ∀ i, i < k → x i = y i
  | 0, _, i, hi => by omega
  | k + 1, h, i, hi => by
    have e : ∀ z : Nat → Nat, encN z (k + 1) = encN z k ++ WM.be 8 (z k) := fun z => by unfold encN; rw [List.range_succ, List.flatMap_append]; simp
    rw [e, e] at h
    obtain ⟨h1, h2⟩ := List.append_inj h (by rw [encN_len, encN_len])
    by_cases ei : i = k
    · rw [ei]; exact be8_inj (hx k) (hy k) h2
    · exact encN_inj hx hy k h1 i (by omega)
theorem encE_inj : ∀ {es es' : List (Nat × ByteArray)}, (∀ x ∈ es, x.1 < 256 ^ 8) → (∀ x ∈ es', x.1 < 256 ^ 8) → es.map (·.2) = es'.map (·.2) → encE es = encE es' → es.map (·.1) = es'.map (·.1)
  | [], [], _, _, _, _ => rfl
  | [], _ :: _, _, _, h, _ => by simp at h
  | _ :: _, [], _, _, h, _ => by simp at h
  | x :: es, y :: es', hx, hy, h, he => by
    simp only [List.map_cons, List.cons.injEq] at h ⊢
    have e1 : encE (x :: es) = WM.be 8 x.1 ++ (WM.text x.2.data.toList ++ encE es) := by simp [encE]
    have e2 : encE (y :: es') = WM.be 8 y.1 ++ (WM.text y.2.data.toList ++ encE es') := by simp [encE]
    rw [e1, e2, h.1] at he
    obtain ⟨h1, h2⟩ := List.append_inj he (by rw [WM.be_len, WM.be_len])
    exact ⟨be8_inj (hx x (by simp)) (hy y (by simp)) h1, encE_inj (fun z hz => hx z (by simp [hz])) (fun z hz => hy z (by simp [hz])) h.2 (List.append_cancel_left h2)⟩
theorem numsN_lt (l : List UInt8) (st : WM.St) : ∀ k i, (numsN l k st).1 i < 256 ^ 8
  | 0, i => by simp [numsN]
  | k + 1, i => by
    simp only [numsN]
    split
    · exact num_lt' _ _ _
    · exact numsN_lt l st k i
theorem entsN_lt (l : List UInt8) (st : WM.St) : ∀ k, ∀ x ∈ (entsN l k st).1, x.1 < 256 ^ 8
  | 0, x, h => by simp [entsN] at h
  | k + 1, x, h => by
    simp only [entsN, List.mem_append, List.mem_singleton] at h
    rcases h with h | rfl
    · exact entsN_lt l st k x h
    · exact num_lt' _ _ _
theorem whole_mod {x : Nat} (h : x ≤ 1125899906842624) : wholeN x = ((x % p63 : Nat) : Int) := by
  unfold wholeN
  rw [if_neg (by omega), Nat.mod_eq_of_lt (by unfold p63; omega)]
/-- where all the numbers are small the two messages are one -/
theorem ref_raw {l : List UInt8} (h1 : ∀ i, i < 15 → (numsN l 15 (st1 l)).1 i ≤ 1125899906842624) (h2 : ∀ x ∈ (entsN l (min (cnt l) 4) (st8 l)).1, x.1 ≤ 1125899906842624) : (refMsg l).Eqv (rawMsg l) := by
  refine ⟨fun k hk => ?_, rfl, rfl, rfl, rfl, rfl, rfl, ?_⟩
  · show wholeN _ = (numsR l 15 (st1 l)).1 k
    rw [(numsR_eq l (st1 l) 15).1 k, whole_mod (h1 k hk)]
  · show List.map _ _ = (entsR l (min (cnt l) 4) (st8 l)).1
    rw [(entsR_eq l (st8 l) _).1]
    exact List.map_congr_left (fun x hx => by rw [whole_mod (h2 x hx)])
theorem raw_nsForm (l : List UInt8) : ∀ k, nsForm (rawMsg l) k = encN (fun i => (numsN l 15 (st1 l)).1 i % p63) k
  | 0 => rfl
  | k + 1 => by
    have e : ∀ z : Nat → Nat, encN z (k + 1) = encN z k ++ WM.be 8 (z k) := fun z => by unfold encN; rw [List.range_succ, List.flatMap_append]; simp
    rw [nsForm_succ, raw_nsForm l k, e]
    congr 2
    show ((numsR l 15 (st1 l)).1 k).toNat = _
    rw [(numsR_eq l (st1 l) 15).1 k, Int.toNat_natCast]
theorem raw_esForm (l : List UInt8) : esForm (rawMsg l).ents = encE ((entsN l (min (cnt l) 4) (st8 l)).1.map fun x => (x.1 % p63, x.2)) := by
  show esForm (entsR l (min (cnt l) 4) (st8 l)).1 = _
  rw [(entsR_eq l (st8 l) _).1]
  unfold esForm encE
  rw [List.flatMap_map, List.flatMap_map]
  rfl
theorem raw_len (l : List UInt8) : (rawMsg l).ents.length = min (cnt l) 4 := entsR_len l _ _
theorem raw_mid (l : List UInt8) : midForm (rawMsg l) = WM.be 1 (if (rawMsg l).good then 1 else 0) ++ WM.be 1 (rawMsg l).op ++ WM.be 4 (WM.num l 4 (st4 l)).1 ++ WM.be 1 (WM.num l 1 (st5 l)).1 := by
  unfold midForm
  rfl
theorem raw_form (l : List UInt8) : (rawMsg l).form = WM.be 1 (rawMsg l).kind ++ encN (fun i => (numsN l 15 (st1 l)).1 i % p63) 15 ++ (WM.be 1 (if (rawMsg l).good then 1 else 0) ++ WM.be 1 (rawMsg l).op ++ WM.be 4 (WM.num l 4 (st4 l)).1 ++ WM.be 1 (WM.num l 1 (st5 l)).1) ++ (WM.text (rawMsg l).data.data.toList ++ WM.be 1 (min (cnt l) 4)) ++ encE ((entsN l (min (cnt l) 4) (st8 l)).1.map fun x => (x.1 % p63, x.2)) := by
  unfold Msg.form
  rw [raw_nsForm, raw_mid, raw_len, raw_esForm]
theorem cnt_lt (l : List UInt8) : cnt l < 256 ^ 1 := num_lt' _ _ _
theorem mod_lt8 (x : Nat) (h : x < 256 ^ 8) : x % p63 < 256 ^ 8 := Nat.lt_of_le_of_lt (Nat.mod_le _ _) h
/-- what the two forms that are one tell -/
theorem form_tells {l : List UInt8} (h : (rawMsg l).form = ENC l) : cnt l ≤ 4 ∧ (∀ i, i < 15 → (numsN l 15 (st1 l)).1 i % p63 = (numsN l 15 (st1 l)).1 i) ∧ ∀ x ∈ (entsN l (min (cnt l) 4) (st8 l)).1, x.1 % p63 = x.1 := by
  rw [raw_form] at h
  unfold ENC at h
  have hc := cnt_lt l
  obtain ⟨h1, h2⟩ := List.append_inj h (by simp only [List.length_append, WM.be_len, encN_len])
  obtain ⟨h3, h4⟩ := List.append_inj h1 (by simp only [List.length_append, WM.be_len, encN_len])
  obtain ⟨h5, _⟩ := List.append_inj h3 (by simp only [List.length_append, WM.be_len, encN_len])
  obtain ⟨_, h6⟩ := List.append_inj h5 (by simp only [WM.be_len])
  have h7 := List.append_cancel_left h4
  have h8 := WM.be_inj (w := 1) (by omega) hc h7
  refine ⟨by omega, encN_inj (fun i => mod_lt8 _ (numsN_lt _ _ _ _)) (fun i => numsN_lt _ _ _ _) 15 h6, fun x hx => ?_⟩
  have h9 := encE_inj (fun x hx => by
    obtain ⟨y, hy, rfl⟩ := List.mem_map.1 hx
    exact mod_lt8 _ (entsN_lt _ _ _ y hy)) (entsN_lt _ _ _) (by rw [List.map_map]; rfl) h2
  rw [List.map_map] at h9
  have := List.map_inj_left.1 h9 x hx
  exact this
theorem read_decode (s : ByteArray) : (readR s).2 = (decode s).2 ∧ (readR s).1.Eqv (decode s).1 := by
  unfold readR decode
  generalize hl : s.data.toList = l
  by_cases h0 : (endOf s (rawEnd l)).1 ≠ 0
  · rw [if_pos h0, if_pos h0]; exact ⟨rfl, Msg.Eqv.refl _⟩
  · rw [if_neg h0, if_neg h0]
    have hend : rawEnd l = .ok l.length := by
      have hok := rawEnd_ok l
      have hsz : s.size = l.length := by rw [← hl]; rfl
      cases hr : rawEnd l with
      | bad e p => rw [hr] at hok h0; exact absurd (show e = 0 by simpa [endOf] using h0) hok
      | ok a =>
        rw [hr] at h0
        have hle := (rd_all l a hr).1
        simp only [endOf] at h0
        split at h0
        · exact absurd (show (7 : Nat) ≠ 0 by decide) h0
        · congr 1; omega
    have hENC : l = ENC l := by
      have h := (rd_all l l.length hend).2
      rw [List.drop_length, List.append_nil] at h
      exact h
    have hsmall : (rawMsg l).check = 0 → (rawMsg l).form = l → cnt l ≤ 4 ∧ (refMsg l).Eqv (rawMsg l) := fun hc hf => by
      obtain ⟨h1, h2, h3⟩ := form_tells (hf.trans hENC)
      have hok := check_ok _ hc
      refine ⟨h1, ref_raw (fun i hi => ?_) (fun x hx => ?_)⟩
      · have h4 := (hok.n i hi).2
        rw [show (rawMsg l).n i = (((numsN l 15 (st1 l)).1 i % p63 : Nat) : Int) from (numsR_eq l (st1 l) 15).1 i, h2 i hi] at h4
        omega
      · have h4 := (hok.each (((x.1 % p63 : Nat) : Int), x.2) (by
          show _ ∈ (entsR l (min (cnt l) 4) (st8 l)).1
          rw [(entsR_eq l (st8 l) _).1]
          exact List.mem_map.2 ⟨x, hx, rfl⟩)).2.1
        simp only [h3 x hx] at h4
        omega
    by_cases h1 : 4 < cnt l ∨ (refMsg l).check ≠ 0
    · rw [if_pos h1]
      have h2 : (rawMsg l).check ≠ 0 ∨ (rawMsg l).form ≠ l := by
        by_cases hc : (rawMsg l).check = 0
        · by_cases hf : (rawMsg l).form = l
          · obtain ⟨h3, h4⟩ := hsmall hc hf
            rcases h1 with h1 | h1
            · omega
            · exact absurd (h4.check.trans hc) h1
          · exact .inr hf
        · exact .inl hc
      rw [if_pos h2]; exact ⟨rfl, Msg.Eqv.refl _⟩
    · rw [if_neg h1]
      have h3 : cnt l ≤ 4 := by omega
      have h4 : (refMsg l).check = 0 := by
        by_cases h : (refMsg l).check = 0
        · exact h
        · exact absurd (.inr h) h1
      have hok := check_ok _ h4
      have hE : (refMsg l).Eqv (rawMsg l) := ref_raw (fun i hi => by
        have h5 := (hok.n i hi).1
        have h6 : (refMsg l).n i = wholeN ((numsN l 15 (st1 l)).1 i) := rfl
        rw [h6] at h5
        unfold wholeN at h5
        split at h5
        · omega
        · omega) (fun x hx => by
        have h5 := (hok.each (wholeN x.1, x.2) (List.mem_map.2 ⟨x, hx, rfl⟩)).1
        simp only at h5
        unfold wholeN at h5
        split at h5
        · omega
        · omega)
      have hf : (rawMsg l).form = l := by
        rw [← hE.form]
        have hn : encN (numsN l 15 (st1 l)).1 15 = nsForm (refMsg l) 15 := by
          rw [hE.nsForm 15 (Nat.le_refl _), raw_nsForm]
          refine encN_congr (fun i hi => ?_)
          have h5 := (hok.n i hi).1
          have h6 : (refMsg l).n i = wholeN ((numsN l 15 (st1 l)).1 i) := rfl
          rw [h6] at h5
          unfold wholeN at h5
          split at h5
          · omega
          · rw [Nat.mod_eq_of_lt (by unfold p63; omega)]
        have he : encE (entsN l (min (cnt l) 4) (st8 l)).1 = esForm (refMsg l).ents := by
          rw [hE.ents, raw_esForm]
          congr 1
          symm
          conv => rhs; rw [← List.map_id (entsN l (min (cnt l) 4) (st8 l)).1]
          refine List.map_congr_left (fun x hx => ?_)
          have h5 := (hok.each (wholeN x.1, x.2) (List.mem_map.2 ⟨x, hx, rfl⟩)).1
          simp only at h5
          unfold wholeN at h5
          split at h5
          · omega
          · rw [Nat.mod_eq_of_lt (by unfold p63; omega)]; rfl
        have hlen : (refMsg l).ents.length = cnt l := by
          rw [hE.ents, raw_len]; omega
        conv => rhs; rw [hENC]
        unfold ENC Msg.form
        rw [hn, he, hlen]
        rfl
      rw [if_neg (by
        intro h5
        rcases h5 with h5 | h5
        · exact h5 (hE.check.symm.trans h4)
        · exact h5 hf)]
      exact ⟨rfl, hE⟩
end Go.Proofs.Ytbapifbahhjfgaa
