/- dragomanlaw03.put: frames one behind the other, and where each ends. -/
import Derived.Test.YtcgojpdgcoddnaaFrameCutMath
import Derived.Test.YtcgojpdgcoddnaaFrameLaws
namespace Go.Proofs.Ytcgojpdgcoddnaa
open Go.RowKit

theorem info_i64 : (Try.prog.info? 3).map (fun i => (i.zero, i.size, i.bytes)) = some (some (.int .i64 0), 1, 8) := by kernel_rfl
theorem info_int : ∃ i, Try.prog.info? 3 = some i ∧ i.zero = some (.int .i64 0) ∧ i.size = 1 ∧ i.bytes = 8 := info_parts info_i64

/-- where the first frames end, as cells -/
def endsV (ps : List (List UInt8)) (k : Nat) : List Value := (List.range k).map fun j => .int .i64 (FM.upto ps (j + 1) : Nat)
theorem endsV_succ (ps : List (List UInt8)) (k : Nat) : endsV ps (k + 1) = endsV ps k ++ [.int .i64 (FM.upto ps (k + 1) : Nat)] := by
  simp [endsV, List.range_succ]
theorem endsV_at (ps : List (List UInt8)) (k n : Nat) (h : k < n) : (endsV ps n)[k]? = some (.int .i64 (FM.upto ps (k + 1) : Nat)) := by
  simp [endsV, h]

/-- what put gives back -/
def Puts (ss : List ByteArray) (B : Nat) (e : Ending) (w' : World) : Prop :=
  e = .returned (.tuple #[.string ⟨#[]⟩, .slice none 0 0, .bool false]) ∨
  ∃ v, e = .returned (.tuple #[.string (bs (FM.frames (lists ss))), v, .bool true]) ∧ (∀ p ∈ lists ss, p.length ≤ 4096) ∧ ss.length ≤ 60 ∧ w'.ownsRow B 3 1 v ss.length (endsV (lists ss) ss.length)

theorem grown_below {w w' : World} (hb : Below w.heap.size w w') : w.grownBy w' none := ⟨hb.os, hb.tape, hb.output, hb.size, fun k hk _ => hb.block k hk⟩
theorem ownsRow_below {w w' : World} {base : Nat} {e : TypeId} {size : Nat} {v : Value} {n : Nat} {xs : List Value} (h : w.ownsRow base e size v n xs) (hb : Below w.heap.size w w') : w'.ownsRow base e size v n xs :=
  h.kept (grown_below hb) (Classical.em _)

theorem frames_take_succ (ss : List ByteArray) (k : Nat) (h : k < ss.length) : bs (FM.frames ((lists ss).take k)) ++ bs (FM.frame ss[k].data.toList) = bs (FM.frames ((lists ss).take (k + 1))) := by
  rw [bs_append]
  congr 1
  rw [List.take_succ_eq_append_getElem (by rw [lists_len]; exact h), FM.frames_append, FM.frames_cons, FM.frames_nil, List.append_nil]
  simp [lists]

theorem lists_at (ss : List ByteArray) (k : Nat) (h : k < ss.length) : (lists ss)[k]'(by rw [lists_len]; exact h) = ss[k].data.toList := by simp [lists]

set_option maxRecDepth 100000 in
set_option maxHeartbeats 8000000 in
theorem lawPut_any (A : Option Addr) (c : Nat) (ss : List ByteArray) (w : World) (ha : SArg w w.heap.size A ss) (hn : ss.length ≤ 9223372036854775807) :
    Calls Try.prog 17 #[.slice A ss.length c] w fun e w' => Puts ss w.heap.size e w' ∧ Below w.heap.size w w' := by
  obtain ⟨i0, hi0, hz0, hz1, hz2⟩ := info_int
  go_enter Try.func17, Try.ntmps17
  go_wp2
  go_loopw [5, 6, 13] (fun s v i wr => ∃ k : Nat, k ≤ ss.length ∧ (k = 0 ∨ ss.length ≤ 60) ∧ i = .int .i64 k ∧ s = .string (bs (FM.frames ((lists ss).take k))) ∧ Hid (∀ p ∈ (lists ss).take k, p.length ≤ 4096) ∧
      Hid (wr.ownsRow w.heap.size 3 1 v k (endsV (lists ss) k)) ∧ Below w.heap.size w wr) (fun _ _ i _ => ss.length - (intOf i).toNat)
  case atStart => exact ⟨0, by omega, .inl rfl, rfl, rfl, Lib.hid (by simp), Lib.hid (World.ownsRow_nil _ _ _ _), Below.refl _ _⟩
  case round =>
    obtain ⟨k, hk, h60, rfl, rfl, HP, HO, hbr⟩ := hrel
    by_cases hlt : k < ss.length
    · obtain ⟨ad, rfl, hadb, hcell⟩ := (ha.below hbr (Nat.le_refl _)).at_ hlt
      have hlt2 : (k : Int) < ss.length := by omega
      have hft := frames_take_succ ss k hlt
      have hup := FM.upto_succ (lists ss) k (by rw [lists_len]; exact hlt)
      have hu0 : (bs (FM.frames ((lists ss).take k))).size = FM.upto (lists ss) k := by rw [bs_size]; rfl
      have hla := lists_at ss k hlt
      have HB := Lib.hid hbr
      clear ha hbr
      have hps : ∀ p ∈ (lists ss).take (k + 1), p.length ≤ 4096 ∨ ss[k].size > 4096 := by
        intro p hp
        rw [List.take_succ_eq_append_getElem (by rw [lists_len]; exact hlt), List.mem_append] at hp
        rcases hp with hp | hp
        · exact .inl (HP.out p hp)
        · simp only [List.mem_singleton] at hp
          subst hp
          rw [hla]
          have : ss[k].data.toList.length = ss[k].size := rfl
          omega
      have hsz : ss[k].data.toList.length = ss[k].size := rfl
      rw [hla, hsz] at hup
      have hu1 : (bs (FM.frames ((lists ss).take (k + 1)))).size = FM.upto (lists ss) (k + 1) := by rw [bs_size]; rfl
      have hub : k ≤ 60 → FM.upto (lists ss) k ≤ 300000 := by
        intro hk
        have : FM.upto ((lists ss).take k) k ≤ 4108 * k := FM.upto_bound _ HP.out k
        unfold FM.upto at this ⊢
        rw [List.take_take, Nat.min_self] at this
        omega
      have hPs := Lib.hid hps
      clear hps hla hsz
      generalize ss[k] = s at *
      generalize bs (FM.frames ((lists ss).take k)) = S at *
      generalize hS2 : bs (FM.frames ((lists ss).take (k + 1))) = S2 at *
      have HFT := Lib.hid hft; have HU0 := Lib.hid hu0; have HU1 := Lib.hid hu1; have HUP := Lib.hid hup; have HS2 := Lib.hid hS2
      clear hft hu0 hu1 hup hS2
      go_wp2_with fail
      by_cases hp : 4096 < s.size
      · refine (put_long s wr hp).mono ?_
        rintro e w2 ⟨rfl, hb2⟩
        have H2 := Lib.hid (below_then HB.out hb2 (Nat.le_refl _)); clear hb2
        go_wp2_with fail
        exact bodyPost_ret (results_tmp3 rfl _ _ _) rfl ⟨.inl rfl, H2.out⟩
      refine (put_any s wr (by omega)).mono ?_
      rintro e w2 ⟨rfl, hb2⟩
      have HO2 := Lib.hid (ownsRow_below HO.out hb2)
      have H2 := Lib.hid (below_then HB.out hb2 (Nat.le_refl _)); clear hb2
      generalize bs (FM.frame s.data.toList) = F at *
      by_cases hbig : 32768 < S.size
      · have hd : decide (32768 < (S.size : Int)) = true := by simp; omega
        go_wp2_with fail
        exact bodyPost_ret (results_tmp3 rfl _ _ _) rfl ⟨.inl rfl, H2.out⟩
      have hd : decide (32768 < (S.size : Int)) = false := by simp; omega
      by_cases hl60 : 60 < ss.length
      · have hd2 : decide (60 < (ss.length : Int)) = true := by simp; omega
        go_wp2_with fail
        exact bodyPost_ret (results_tmp3 rfl _ _ _) rfl ⟨.inl rfl, H2.out⟩
      have hd2 : decide (60 < (ss.length : Int)) = false := by simp; omega
      have hcat : S.size + F.size ≤ 400000 ∧ S.size + F.size = FM.upto (lists ss) (k + 1) := by
        have h1 := HFT.out
        have h2 := HU1.out
        have h3 := HUP.out
        have h4 := hub (by omega)
        rw [← ByteArray.size_append, h1]; omega
      have hc1 := hcat.1
      have hc2 : S.size + F.size ≤ 9223372036854775807 := by omega
      have HC2 := Lib.hid hcat.2
      have hk60 : ss.length ≤ 60 := by omega
      have hp4 : s.size ≤ 4096 := by omega
      clear hcat hp hbig hl60 hub
      go_wp2_with (at_builtin; refine wpList_append_own _ rfl _ _ 42 rfl w.heap.size 3 i0 (.int .i64 0) 1 8 Try.underlying42 hi0 hz0 hz1 hz2 rfl (by decide) _ _ _ rfl (World.ownsRow.alloc HO2.out _) ⟨w2.heap.size, 0, none⟩ 1 1 [.int .i64 ((S.size : Int) + F.size)] rfl rfl (cell_one_new _ _ _) (by simp [Value.oneCell']) (by unfold maxLen; omega) (by omega) (by have := H2.out.size; simp; omega) ?_; intro v' w3 hown' hgrow _)
      have HO3 : Hid (w3.ownsRow w.heap.size 3 1 v' (k + 1) (endsV (lists ss) (k + 1))) := Lib.hid (by
        rw [endsV_succ, ← HC2.out]
        simpa using hown')
      have HB3 : Below w.heap.size w w3 := ((H2.out).alloc (by have := H2.out.size; omega) _).grown hgrow (by have := H2.out.size; simp; omega) (fun j ej => (World.ownsRow.lt HO2.out _ ej).1)
      clear hown' hgrow
      go_wp2_with fail
      refine ⟨⟨k + 1, by omega, .inr (by omega), by go_num, ?_, ?_, HO3, HB3⟩, by simp [intOf]; omega⟩
      · rw [HFT.out, HS2.out]
      · exact Lib.hid (fun p hp => (hPs.out p hp).resolve_right (by omega))
    · go_wp2_with fail
      have hkk : k = ss.length := by omega
      subst hkk
      have hl : (lists ss).take ss.length = lists ss := List.take_of_length_le (by rw [lists_len]; exact Nat.le_refl _)
      refine bodyPost_ret (results_tmp3 rfl _ _ _) rfl ⟨.inr ⟨u6, ?_, by rw [← hl]; exact HP.out, by omega, HO.out⟩, hbr⟩
      rw [hl]
      rfl

end Go.Proofs.Ytcgojpdgcoddnaa
