/- Quote; the closures with which a text in quotes is read. -/
import Derived.Test.YtlfhjmdbkifciaaPatBuild
import Derived.Test.YtlfhjmdbkifciaaPatRe
import Derived.Deep.LoopGhost
namespace Go.Proofs.Ytlfhjmdbkifciaa
open Go.RowKit PM

theorem signs_snoc (l : List UInt8) (c : UInt8) : signs (l ++ [c]) = signs l ++ sign c := by simp [signs]
theorem signs_len (l : List UInt8) : (signs l).length ≤ 4 * l.length := by
  induction l with
  | nil => simp [signs]
  | cons c l ih => have := sign_pos c; simp only [signs, List.flatMap_cons, List.length_append, List.length_cons] at ih ⊢; omega

set_option maxRecDepth 100000 in
set_option maxHeartbeats 4000000 in
theorem quote_any (s : ByteArray) (w : World) (hs : s.size ≤ 100000000) :
    Calls Try.prog 20 #[.string s] w fun e w' => e = .returned (.string (bs (quote s.data.toList))) ∧ Below w.heap.size w w' := by
  have h0 : Bd (w.alloc (.cells #[.pointer none, .slice none 0 0] TBd)) w.heap.size w.heap.size [] := Lib.fresh_isBuilder TBd TU8 w
  have HB := Lib.hid h0; have HW := Lib.hid (below_new w (.cells #[.pointer none, .slice none 0 0] TBd))
  obtain ⟨b, hb⟩ : ∃ b, w.heap.size = b := ⟨_, rfl⟩
  have HBB := Lib.hid hb
  clear h0
  go_enter Try.func20, Try.ntmps20
  go_wp2_with fail
  change Calls _ _ _ (w.alloc (.cells #[.pointer none, .slice none 0 0] TBd)) _
  generalize w.alloc (.cells #[.pointer none, .slice none 0 0] TBd) = W0 at *
  rw [hb] at HB HW
  clear hb
  refine (bdByte_any b b [] 34 W0 HB.out (by simp) (by rw [← HBB.out]; exact HW.out.size)).mono ?_
  rintro e w1 ⟨rfl, hd, hbl⟩
  have HB1 := Lib.hid hd; have HW1 := Lib.hid (HW.out.trans hbl)
  clear hd hbl HB HW
  go_wp2_with fail
  go_loopg [8] (s.size + 1) (fun k v8 wr => ∃ i : Nat, v8 = .int .i64 i ∧ i ≤ s.size ∧ s.size + 1 - i ≤ k ∧ Hid (Bd wr b b (34 :: signs (s.data.toList.take i))) ∧ Hid (Below b w wr))
  case atStart => exact ⟨0, rfl, by omega, by omega, HB1, HW1⟩
  case round =>
    clear HB1 HW1
    obtain ⟨i, rfl, hil, hik, HB, HW⟩ := hrel
    by_cases hi : i < s.size
    · have hi2 : (i : Int) < s.size := by omega
      have hi0 : (0 : Int) ≤ i := by omega
      have HL : Hid ((34 :: signs (s.data.toList.take i)).length ≤ 400000001) := Lib.hid (by
        have := signs_len (s.data.toList.take i); have h2 : (s.data.toList.take i).length ≤ i := List.length_take_le _ _; simp; omega)
      have HS : Hid (signs (s.data.toList.take i) ++ sign s[i] = signs (s.data.toList.take (i + 1))) := Lib.hid (by
        rw [List.take_succ_eq_append_getElem (show i < s.data.toList.length from hi), signs_snoc]; rfl)
      go_wp2_with fail
      refine (sign_any s[i] wr).mono ?_
      rintro e w2 ⟨rfl, hbl⟩
      have hd2 : Bd w2 b b (34 :: signs (s.data.toList.take i)) := by
        have h1 := HB.out
        rcases h1 with ⟨q1, v, q2, q3, q4⟩ | ⟨q1, v, q2, q3, q4⟩
        · exact .inl ⟨q1, v, (hbl.block _ (lt_of_block q2)).trans q2, q3.kept (grown_below hbl none) (Classical.em _), q4⟩
        · exact .inr ⟨q1, v, (hbl.block _ (lt_of_block q2)).trans q2, q3.kept (grown_below hbl none) (Classical.em _), q4⟩
      have HB2 := Lib.hid hd2
      have HW2 := Lib.hid (HW.out.trans (hbl.mono (by rw [← HBB.out]; exact HW.out.size)))
      clear hd2 hbl HB HW
      go_wp2_with fail
      refine (bdStr_any b b _ (bs (sign s[i])) w2 HB2.out (by have := HL.out; omega) (by rw [bs_sz]; have := sign_pos s[i]; omega) (by rw [← HBB.out]; exact HW2.out.size)).mono ?_
      rintro e w3 ⟨rfl, hd, hbl⟩
      have HB3 : Hid (Bd w3 b b (34 :: signs (s.data.toList.take (i + 1)))) := Lib.hid (by rw [← HS.out]; exact hd)
      have HW3 := Lib.hid (HW2.out.trans hbl)
      clear hd hbl HB2 HW2
      go_wp2_with fail
      go_roundg (gk - 1)
      case measure => omega
      case rel => exact ⟨i + 1, by go_num, by omega, by omega, HB3, HW3⟩
    · obtain rfl : i = s.size := by omega
      have hex : ¬ ((s.size : Int) < s.size) := by omega
      have hd : Bd wr b b (34 :: signs s.data.toList) := by have := HB.out; rwa [List.take_of_length_le (show s.data.toList.length ≤ s.size from Nat.le_refl _)] at this
      have HB2 := Lib.hid hd
      have HL : Hid ((34 :: signs s.data.toList).length ≤ 400000001) := Lib.hid (by have := signs_len s.data.toList; have h2 : s.data.toList.length = s.size := rfl; simp; omega)
      clear hd HB
      go_wp2_with fail
      refine (bdByte_any b b _ 34 wr HB2.out (by have := HL.out; omega) (by rw [← HBB.out]; exact HW.out.size)).mono ?_
      rintro e w3 ⟨rfl, hd, hbl⟩
      have HB3 := Lib.hid hd; have HW3 := Lib.hid (HW.out.trans hbl)
      clear hd hbl HB2 HW
      go_wp2_with fail
      refine (Try.Builder_String_any b b (34 :: signs s.data.toList ++ [34]) w3 HB3.out (by rw [← HBB.out]; exact HW3.out.size)).mono ?_
      rintro e w4 ⟨rfl, hbl⟩
      have HW4 := Lib.hid (HW3.out.trans hbl)
      clear hbl HB3 HW3
      go_wp2_with fail
      go_ret
      exact ⟨rfl, by rw [HBB.out]; exact HW4.out⟩

/-- the boxes that the reader of quotes holds: the text, the place -/
def SB (w : World) (b : Nat) (s : ByteArray) (a : Nat) : Prop := w.heap[b]? = some (.cells #[.string s] 9 (0, 0)) ∧ w.heap[b + 1]? = some (.cells #[.int .i64 a] 3 (0, 0))
theorem SB.c0 {w : World} {b : Nat} {s : ByteArray} {a : Nat} (h : SB w b s a) : w.cell? ⟨b, 0, none⟩ = some (.string s) := by rw [cell_of_row w b 0 _ _ _ h.1]; rfl
theorem SB.c1 {w : World} {b : Nat} {s : ByteArray} {a : Nat} (h : SB w b s a) : w.cell? ⟨b + 1, 0, none⟩ = some (.int .i64 a) := by rw [cell_of_row w (b + 1) 0 _ _ _ h.2]; rfl
theorem SB.f1 {w : World} {b : Nat} {s : ByteArray} {a : Nat} (h : SB w b s a) : w.frozen? ⟨b + 1, 0, none⟩ = false := frozen_of_row w (b + 1) 0 _ _ h.2
theorem SB.on {w w' : World} {b : Nat} {s : ByteArray} {a : Nat} (h : SB w b s a) (hb : Below w.heap.size w w') : SB w' b s a := ⟨(hb.block _ (lt_of_block h.1)).trans h.1, (hb.block _ (lt_of_block h.2)).trans h.2⟩
theorem SB.set {w : World} {b : Nat} {s : ByteArray} {a : Nat} (h : SB w b s a) (n : Nat) : SB (w.setCell ⟨b + 1, 0, none⟩ (.int .i64 n)) b s n := by
  have := heap_setCell_same w (b + 1) 0 _ _ (.int .i64 n) h.2
  exact ⟨(Below.heap_setCell _ _ _ _ (by simp)).trans h.1, by rw [this]; rfl⟩
theorem SB.grow (w : World) (b : Nat) (v : Value) : w.grownBy (w.setCell ⟨b + 1, 0, none⟩ v) (some (b + 1)) := ⟨rfl, rfl, rfl, by simp, fun k _ hk => Below.heap_setCell _ _ _ _ (fun e => hk (by rw [e]))⟩

set_option maxRecDepth 100000 in
theorem need0_yes (G : Nat) (okf : Nat → Bool) (b : Nat) (s : ByteArray) (a : Nat) (c : UInt8) (w : World) (hE : ∀ args w, (callFunc G args).run Try.prog w = .ok (.enter G args) w) (hG : Calls Try.prog G #[.int .u8 c.toNat] w fun e w' => e = .returned (.bool (okf c.toNat)) ∧ Below w.heap.size w w')
    (h : SB w b s a) (hc : s.data.toList[a]? = some c) (hok : okf c.toNat = true) (hs : s.size ≤ 1000000000) :
    Calls Try.prog 58 #[.func (.func G) #[] #[], .pointer (some ⟨b + 1, 0, none⟩), .pointer (some ⟨b, 0, none⟩)] w fun e w' => e = .returned (.int .u8 c.toNat) ∧ SB w' b s (a + 1) ∧ w.grownBy w' (some (b + 1)) := by
  obtain ⟨hl, rfl⟩ := byte_at s a c hc
  have c0 := h.c0; have c1 := h.c1
  have h1 : decide (s.size ≤ a) = false := by simp; omega
  have h2 : (0 : Int) ≤ a := by omega
  have h3 : (a : Int) < s.size := by omega
  have HG := Lib.hid hG; have H := Lib.hid h; have HOK := Lib.hid hok
  clear hG h hc hok
  go_enter Try.func58, Try.ntmps58
  go_wp2_with fail
  refine HG.out.mono ?_
  rintro e w1 ⟨rfl, hb⟩
  rw [HOK.out]
  have hS := H.out.on hb
  have HS := Lib.hid hS; have HB := Lib.hid hb
  have d0 := hS.c0; have d1 := hS.c1; have d2 := hS.f1
  have e0 : (w1.setCell ⟨b + 1, 0, none⟩ (.int .i64 ((a : Int) + 1))).cell? ⟨b + 1, 0, none⟩ = some (.int .i64 ((a : Int) + 1)) := (hS.set (a + 1)).c1
  have e1 : (w1.setCell ⟨b + 1, 0, none⟩ (.int .i64 ((a : Int) + 1))).cell? ⟨b, 0, none⟩ = some (.string s) := (hS.set (a + 1)).c0
  clear hS hb c0 c1 HG
  go_wp2_with fail
  go_ret
  exact ⟨rfl, HS.out.set (a + 1), grown_trans (grown_below HB.out _) (SB.grow _ _ _)⟩

set_option maxRecDepth 100000 in
theorem need0_no (G : Nat) (okf : Nat → Bool) (b : Nat) (s : ByteArray) (a : Nat) (c : UInt8) (w : World) (hE : ∀ args w, (callFunc G args).run Try.prog w = .ok (.enter G args) w) (hG : Calls Try.prog G #[.int .u8 c.toNat] w fun e w' => e = .returned (.bool (okf c.toNat)) ∧ Below w.heap.size w w')
    (h : SB w b s a) (hc : s.data.toList[a]? = some c) (hok : okf c.toNat = false) (_hs : s.size ≤ 1000000000) :
    Calls Try.prog 58 #[.func (.func G) #[] #[], .pointer (some ⟨b + 1, 0, none⟩), .pointer (some ⟨b, 0, none⟩)] w fun e w' => e = .panicked (wrongP a) ∧ Below w.heap.size w w' := by
  obtain ⟨hl, rfl⟩ := byte_at s a c hc
  have c0 := h.c0; have c1 := h.c1
  have h1 : decide (s.size ≤ a) = false := by simp; omega
  have h2 : (0 : Int) ≤ a := by omega
  have h3 : (a : Int) < s.size := by omega
  have HG := Lib.hid hG; have H := Lib.hid h; have HOK := Lib.hid hok
  clear hG h hc hok
  go_enter Try.func58, Try.ntmps58
  go_wp2_with fail
  refine HG.out.mono ?_
  rintro e w1 ⟨rfl, hb⟩
  rw [HOK.out]
  have d1 := (H.out.on hb).c1
  have HB := Lib.hid hb
  clear hb c0 c1 HG
  go_wp2_with fail
  exact ⟨rfl, rfl, HB.out⟩

set_option maxRecDepth 100000 in
theorem need1_yes (G : Nat) (q : Value) (okf : Nat → Bool) (b : Nat) (s : ByteArray) (a : Nat) (c : UInt8) (w : World) (hE : ∀ args w, (callFunc G args).run Try.prog w = .ok (.enter G args) w) (hG : Calls Try.prog G #[.int .u8 c.toNat, q] w fun e w' => e = .returned (.bool (okf c.toNat)) ∧ Below w.heap.size w w')
    (h : SB w b s a) (hc : s.data.toList[a]? = some c) (hok : okf c.toNat = true) (hs : s.size ≤ 1000000000) :
    Calls Try.prog 58 #[.func (.func G) #[] #[q], .pointer (some ⟨b + 1, 0, none⟩), .pointer (some ⟨b, 0, none⟩)] w fun e w' => e = .returned (.int .u8 c.toNat) ∧ SB w' b s (a + 1) ∧ w.grownBy w' (some (b + 1)) := by
  obtain ⟨hl, rfl⟩ := byte_at s a c hc
  have c0 := h.c0; have c1 := h.c1
  have h1 : decide (s.size ≤ a) = false := by simp; omega
  have h2 : (0 : Int) ≤ a := by omega
  have h3 : (a : Int) < s.size := by omega
  have HG := Lib.hid hG; have H := Lib.hid h; have HOK := Lib.hid hok
  clear hG h hc hok
  go_enter Try.func58, Try.ntmps58
  go_wp2_with fail
  refine HG.out.mono ?_
  rintro e w1 ⟨rfl, hb⟩
  rw [HOK.out]
  have hS := H.out.on hb
  have HS := Lib.hid hS; have HB := Lib.hid hb
  have d0 := hS.c0; have d1 := hS.c1; have d2 := hS.f1
  have e0 : (w1.setCell ⟨b + 1, 0, none⟩ (.int .i64 ((a : Int) + 1))).cell? ⟨b + 1, 0, none⟩ = some (.int .i64 ((a : Int) + 1)) := (hS.set (a + 1)).c1
  have e1 : (w1.setCell ⟨b + 1, 0, none⟩ (.int .i64 ((a : Int) + 1))).cell? ⟨b, 0, none⟩ = some (.string s) := (hS.set (a + 1)).c0
  clear hS hb c0 c1 HG
  go_wp2_with fail
  go_ret
  exact ⟨rfl, HS.out.set (a + 1), grown_trans (grown_below HB.out _) (SB.grow _ _ _)⟩

set_option maxRecDepth 100000 in
theorem need1_no (G : Nat) (q : Value) (okf : Nat → Bool) (b : Nat) (s : ByteArray) (a : Nat) (c : UInt8) (w : World) (hE : ∀ args w, (callFunc G args).run Try.prog w = .ok (.enter G args) w) (hG : Calls Try.prog G #[.int .u8 c.toNat, q] w fun e w' => e = .returned (.bool (okf c.toNat)) ∧ Below w.heap.size w w')
    (h : SB w b s a) (hc : s.data.toList[a]? = some c) (hok : okf c.toNat = false) (_hs : s.size ≤ 1000000000) :
    Calls Try.prog 58 #[.func (.func G) #[] #[q], .pointer (some ⟨b + 1, 0, none⟩), .pointer (some ⟨b, 0, none⟩)] w fun e w' => e = .panicked (wrongP a) ∧ Below w.heap.size w w' := by
  obtain ⟨hl, rfl⟩ := byte_at s a c hc
  have c0 := h.c0; have c1 := h.c1
  have h1 : decide (s.size ≤ a) = false := by simp; omega
  have h2 : (0 : Int) ≤ a := by omega
  have h3 : (a : Int) < s.size := by omega
  have HG := Lib.hid hG; have H := Lib.hid h; have HOK := Lib.hid hok
  clear hG h hc hok
  go_enter Try.func58, Try.ntmps58
  go_wp2_with fail
  refine HG.out.mono ?_
  rintro e w1 ⟨rfl, hb⟩
  rw [HOK.out]
  have d1 := (H.out.on hb).c1
  have HB := Lib.hid hb
  clear hb c0 c1 HG
  go_wp2_with fail
  exact ⟨rfl, rfl, HB.out⟩

set_option maxRecDepth 100000 in
theorem need_end (G : Nat) (cap : Array Value) (b : Nat) (s : ByteArray) (a : Nat) (w : World) (h : SB w b s a) (hc : s.data.toList[a]? = none) (_hs : s.size ≤ 1000000000) :
    Calls Try.prog 58 #[.func (.func G) #[] cap, .pointer (some ⟨b + 1, 0, none⟩), .pointer (some ⟨b, 0, none⟩)] w fun e w' => e = .panicked (wrongP a) ∧ Below w.heap.size w w' := by
  have hl := byte_none s a hc
  have c0 := h.c0; have c1 := h.c1
  have h1 : decide (s.size ≤ a) = true := by simp; omega
  clear h hc
  go_enter Try.func58, Try.ntmps58
  go_wp2_with fail
  exact ⟨rfl, rfl, Below.refl _ _⟩

end Go.Proofs.Ytlfhjmdbkifciaa
