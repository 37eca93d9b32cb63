/- A strings.Builder that is written, a byte's sign, a text in quotes. -/
import Derived.Test.YtlfhjmdbkifciaaShelf
import Derived.Test.YtlfhjmdbkifciaaPatNode
import Derived.Lib.Builder
import Derived.Lib.AppendStr
import Derived.Laws.Externs
import Derived.WalkLawsBesides
namespace Go.Proofs.Ytlfhjmdbkifciaa
open Go.RowKit PM

abbrev TBd : TypeId := 80
abbrev TU8 : TypeId := 5

theorem bd_info : ∃ j, Try.prog.info? TBd = some j ∧ j.size = 2 := Option.map_eq_some_iff.1 (show (Try.prog.info? TBd).map (·.size) = some 2 from by kernel_rfl)
theorem bd_lies : liesAt Try.prog Try.prog.depth TBd (2 / Try.prog.cellsOf TBd) 0 TBd 1 = true := by kernel_rfl

set_option maxRecDepth 100000 in
set_option maxHeartbeats 1000000 in
theorem bdCheck_any (B b : Nat) (bs : List Value) (w : World) (h : Lib.IsBuilder TBd TU8 B b bs w) :
    Calls Try.prog 67 #[.pointer (some ⟨b, 0, none⟩)] w fun e w' => e = .returned (.tuple #[]) ∧ Lib.BuilderAt TBd TU8 B b (.pointer (some ⟨b, 0, none⟩)) bs w' ∧ Below B w w' := by
  obtain ⟨j, hj, hjs⟩ := bd_info
  rcases h with h | h
  · have h0 := h.cell0
    have f0 := h.frozen0
    have HS := Lib.hid h.shape; have HH := Lib.hid h; have HJ := Lib.hid hj; have HJS := Lib.hid hjs
    clear h hj hjs
    go_enter Try.func67, Try.ntmps67
    go_wp2_with fail
    rw [Lib.run_to_unsafe w ⟨b, 0, none⟩ Try.underlying78 Try.underlying99 HJ.out (by rw [HJS.out]; decide) HS.out (Nat.zero_lt_succ 1)]
    simp only [Result.andThen]
    rw [Oper.upon_value]
    go_wp2_with fail
    rw [run_callFunc_extern Try.func71 (by kernel_rfl) (by kernel_rfl) (by kernel_rfl) (e := Extern.AbiNoEscape.same) (by kernel_rfl)]
    rw [Lib.run_noEscape]
    simp only [Result.andThen]
    rw [Oper.upon_value]
    go_wp2_with fail
    rw [Lib.run_from_unsafe w ⟨b, 0, none⟩ Try.underlying99 Try.underlying78 HJ.out HS.out bd_lies]
    simp only [Result.andThen]
    rw [Oper.upon_value]
    go_wp2_with fail
    go_end0
    exact ⟨rfl, HH.out.used _, (Below.refl B w).setCell (p := ⟨b, 0, none⟩) HH.out.1 _⟩
  · have h0 := h.cell0
    have HH := Lib.hid h; have HJ := Lib.hid hj
    clear h hj hjs
    go_enter Try.func67, Try.ntmps67
    go_wp2_with fail
    rw [Lib.run_neq_ptr_same w _ Try.underlying78 HJ.out]
    go_wp2_with fail
    go_end0
    exact ⟨rfl, HH.out, Below.refl B _⟩

/-- a builder holds these bytes -/
def Bd (w : World) (B b : Nat) (l : List UInt8) : Prop := Lib.IsBuilder TBd TU8 B b (Lib.byteCells l) w

set_option maxRecDepth 100000 in
set_option maxHeartbeats 2000000 in
theorem bdByte_any (B b : Nat) (l : List UInt8) (c : UInt8) (w : World) (h : Bd w B b l) (hl : l.length ≤ 1000000000) (hB : B ≤ w.heap.size) :
    Calls Try.prog 43 #[.pointer (some ⟨b, 0, none⟩), .int .u8 c.toNat] w fun e w' => e = .returned .nilIface ∧ Bd w' B b (l ++ [c]) ∧ Below B w w' := by
  obtain ⟨i0, hi, hz0, hz1, hz2⟩ := info_parts info_u8
  have HH := Lib.hid h
  clear h
  go_enter Try.func43, Try.ntmps43
  go_wp2_with fail
  refine (bdCheck_any B b _ w HH.out).mono ?_
  rintro e w1 ⟨rfl, h1, hb1⟩
  obtain ⟨hBb, v, hbk, hown, hne⟩ := h1
  rw [Lib.byteCells_length] at hown
  have c1 : w1.cell? ⟨b, 1, none⟩ = some v := by rw [Lib.cell_of_heap hbk]; rfl
  have hsz := hb1.size
  have HBK := Lib.hid hbk; have HOWN := Lib.hid hown; have HNE := Lib.hid hne; have HB1 := Lib.hid hb1
  clear hbk hown hne hb1 HH
  go_wp2_with (refine wpList_append_own _ rfl _ _ 42 rfl B TU8 i0 (.int .u8 0) 1 1 Try.underlying42 hi hz0 hz1 hz2 rfl (by decide) _ _ _ rfl (HOWN.out.alloc _) ⟨w1.heap.size, 0, none⟩ 1 1 [.int .u8 c.toNat] rfl rfl ?c1 ?c2 ?c3 ?c4 ?c5 ?_)
  case c1 => exact World.news_of_block (heap_alloc_new w1 _)
  case c2 => intro u hu; simp at hu; subst hu; rfl
  case c3 => unfold maxLen; omega
  case c4 => omega
  case c5 => simp; omega
  intro v' w2 hown' hgrow _
  have hlt : b < w1.heap.size := lt_of_block HBK.out
  have hb2 : w2.heap[b]? = some (.cells #[.pointer (some ⟨b, 0, none⟩), v] TBd (0, 0)) := by
    rw [hgrow.block b (by simp; omega) (fun e => HNE.out e.symm), Lib.alloc_old w1 _ b hlt]; exact HBK.out
  have d1 : w2.cell? ⟨b, 1, none⟩ = some v := by rw [Lib.cell_of_heap hb2]; rfl
  have f1 : w2.frozen? ⟨b, 1, none⟩ = false := Lib.frozen_of_heap hb2 1
  have HF := Lib.hid (Lib.BuilderAt.put (T := TBd) (e := TU8) hBb hb2 (bs' := Lib.byteCells (l ++ [c])) (by rw [Lib.byteCells_length, List.length_append, Lib.byteCells_append]; exact hown') (by decide))
  have HBL := Lib.hid (((HB1.out.alloc (by omega) _).grown hgrow (by simp; omega) (fun k hk => (HOWN.out.lt k hk).1)).setCell (p := ⟨b, 1, none⟩) hBb v')
  obtain ⟨ao, n', cap, hv'⟩ : ∃ ao n' cap, v' = .slice ao n' cap := by
    rcases hown'.2 with ⟨hv, _⟩ | ⟨g, cap, cur, hv, _⟩
    · exact ⟨_, _, _, hv⟩
    · exact ⟨_, _, _, hv⟩
  subst hv'
  clear hown' hgrow hb2 c1
  go_wp2_with fail
  go_ret
  exact ⟨rfl, .inr HF.out, HBL.out⟩

set_option maxRecDepth 100000 in
set_option maxHeartbeats 2000000 in
theorem bdStr_any (B b : Nat) (l : List UInt8) (s : ByteArray) (w : World) (h : Bd w B b l) (hl : l.length ≤ 1000000000) (hs : s.size ≤ 1000000000) (hB : B ≤ w.heap.size) :
    Calls Try.prog 44 #[.pointer (some ⟨b, 0, none⟩), .string s] w fun e w' => e = .returned (.tuple #[.int .i64 s.size, .nilIface]) ∧ Bd w' B b (l ++ s.data.toList) ∧ Below B w w' := by
  obtain ⟨i0, hi, hz0, hz1, hz2⟩ := info_parts info_u8
  have HH := Lib.hid h
  clear h
  go_enter Try.func44, Try.ntmps44
  go_wp2_with fail
  refine (bdCheck_any B b _ w HH.out).mono ?_
  rintro e w1 ⟨rfl, h1, hb1⟩
  obtain ⟨hBb, v, hbk, hown, hne⟩ := h1
  rw [Lib.byteCells_length] at hown
  have c1 : w1.cell? ⟨b, 1, none⟩ = some v := by rw [Lib.cell_of_heap hbk]; rfl
  have hsz := hb1.size
  have HBK := Lib.hid hbk; have HOWN := Lib.hid hown; have HNE := Lib.hid hne; have HB1 := Lib.hid hb1
  clear hbk hown hne hb1 HH
  go_wp2_with (refine Lib.wpList_append_own_string _ rfl _ _ 42 9 rfl B TU8 i0 Try.underlying42 Try.underlying9 hi hz0 hz1 hz2 _ _ _ rfl HOWN.out s rfl ?c3 ?c4 ?c5 ?_)
  case c3 => unfold maxLen; omega
  case c4 => omega
  case c5 => omega
  intro v' w2 hown' hgrow _
  have hlt : b < w1.heap.size := lt_of_block HBK.out
  have hb2 : w2.heap[b]? = some (.cells #[.pointer (some ⟨b, 0, none⟩), v] TBd (0, 0)) := by
    rw [hgrow.block b hlt (fun e => HNE.out e.symm)]; exact HBK.out
  have d1 : w2.cell? ⟨b, 1, none⟩ = some v := by rw [Lib.cell_of_heap hb2]; rfl
  have f1 : w2.frozen? ⟨b, 1, none⟩ = false := Lib.frozen_of_heap hb2 1
  have HF := Lib.hid (Lib.BuilderAt.put (T := TBd) (e := TU8) hBb hb2 (bs' := Lib.byteCells (l ++ s.data.toList)) (by rw [Lib.byteCells_length, List.length_append, Lib.byteCells_append]; exact hown') (by decide))
  have HBL := Lib.hid ((HB1.out.grown hgrow (by omega) (fun k hk => (HOWN.out.lt k hk).1)).setCell (p := ⟨b, 1, none⟩) hBb v')
  obtain ⟨ao, n', cap, hv'⟩ : ∃ ao n' cap, v' = .slice ao n' cap := by
    rcases hown'.2 with ⟨hv, _⟩ | ⟨g, cap, cur, hv, _⟩
    · exact ⟨_, _, _, hv⟩
    · exact ⟨_, _, _, hv⟩
  subst hv'
  clear hown' hgrow hb2 c1
  go_wp2_with fail
  go_ret2
  exact ⟨rfl, .inr HF.out, HBL.out⟩

def bs (l : List UInt8) : ByteArray := ⟨l.toArray⟩
theorem bs_toList (l : List UInt8) : (bs l).data.toList = l := rfl
theorem bs_of (s : ByteArray) : bs s.data.toList = s := rfl
theorem bs_sz (l : List UInt8) : (bs l).size = l.length := by show l.toArray.size = _; simp
theorem ret_bool {a b : Bool} (h : a = b) : Ending.returned (.bool a) = .returned (.bool b) := by rw [h]

set_option maxRecDepth 100000 in
theorem plain_any (c : Nat) (w : World) : Calls Try.prog 61 #[.int .u8 c] w fun e w' => e = .returned (.bool (plain c)) ∧ w = w' := by
  go_enter Try.func61, Try.ntmps61
  go_wp2_with fail
  all_goals
    go_ret
    exact ⟨ret_bool (by rw [Bool.eq_iff_iff]; simp [plain]; omega), rfl⟩

set_option maxRecDepth 100000 in
theorem short_any (c : Nat) (w : World) : Calls Try.prog 66 #[.int .u8 c] w fun e w' => e = .returned (.tuple #[.int .u8 (short c), .bool (short c != 0)]) ∧ w = w' := by
  have h : c = 34 ∨ c = 92 ∨ c = 10 ∨ c = 13 ∨ c = 9 ∨ (c ≠ 34 ∧ c ≠ 92 ∧ c ≠ 10 ∧ c ≠ 13 ∧ c ≠ 9) := by omega
  rcases h with rfl | rfl | rfl | rfl | rfl | ⟨h1, h2, h3, h4, h5⟩
  case inr.inr.inr.inr.inr =>
    have j1 : ((c : Int) == 34) = false := by rw [beq_eq_false_iff_ne]; omega
    have j2 : ((c : Int) == 92) = false := by rw [beq_eq_false_iff_ne]; omega
    have j3 : ((c : Int) == 10) = false := by rw [beq_eq_false_iff_ne]; omega
    have j4 : ((c : Int) == 13) = false := by rw [beq_eq_false_iff_ne]; omega
    have j5 : ((c : Int) == 9) = false := by rw [beq_eq_false_iff_ne]; omega
    have e : short c = 0 := by simp [short, h1, h2, h3, h4, h5]
    rw [e]
    clear h1 h2 h3 h4 h5 e
    go_enter Try.func66, Try.ntmps66
    go_wp2_with fail
    go_ret2
    exact ⟨rfl, rfl⟩
  all_goals
    go_enter Try.func66, Try.ntmps66
    go_wp2_with fail
    go_ret2
    exact ⟨rfl, rfl⟩

/-- 'string([]byte{..})' of bytes just laid -/
theorem conv_lit (w : World) (l : List UInt8) :
    (convert 42 9 (.slice (some ⟨w.heap.size, 0, none⟩) l.length l.length)).run Try.prog (w.alloc (.cells (Lib.byteCells l).toArray TU8)) = .ok (.string (bs l)) (w.alloc (.cells (Lib.byteCells l).toArray TU8)) := by
  have h : BRow (w.alloc (.cells (Lib.byteCells l).toArray TU8)) w.heap.size l :=
    ⟨_, _, heap_alloc_new w _, .inl (Nat.le_refl _), by simp [Lib.byteCells], fun i hi => by simp [Lib.byteCells, List.getD, hi]⟩
  exact h.str (P := Try.prog) _ _ _ Try.underlying42 Try.underlying5 Try.underlying9

def digits : ByteArray := ⟨#[48, 49, 50, 51, 52, 53, 54, 55, 56, 57, 97, 98, 99, 100, 101, 102]⟩
theorem digits_at : ∀ n, (h : n < digits.size) → digits[n] = dig n := by
  intro n h
  have h' : n < 16 := h
  have : n = 0 ∨ n = 1 ∨ n = 2 ∨ n = 3 ∨ n = 4 ∨ n = 5 ∨ n = 6 ∨ n = 7 ∨ n = 8 ∨ n = 9 ∨ n = 10 ∨ n = 11 ∨ n = 12 ∨ n = 13 ∨ n = 14 ∨ n = 15 := by omega
  rcases this with rfl | rfl | rfl | rfl | rfl | rfl | rfl | rfl | rfl | rfl | rfl | rfl | rfl | rfl | rfl | rfl <;> rfl

set_option maxRecDepth 100000 in
set_option maxHeartbeats 1000000 in
theorem sign_any (c : UInt8) (w : World) : Calls Try.prog 45 #[.int .u8 c.toNat] w fun e w' => e = .returned (.string (bs (sign c))) ∧ Below w.heap.size w w' := by
  by_cases hp : plain c.toNat = true
  · have hs : sign c = [c] := by simp [sign, hp]
    rw [hs]
    have hcv := conv_lit w [c]
    have HB := Lib.hid (below_new w (.cells (Lib.byteCells [c]).toArray TU8))
    simp only [Lib.byteCells, List.map_cons, List.map_nil, List.length_cons, List.length_nil] at hcv HB
    clear hs
    go_enter Try.func45, Try.ntmps45
    go_wp2_with fail
    refine (plain_any c.toNat w).mono ?_
    rintro e w1 ⟨rfl, rfl⟩
    rw [hp]
    go_wp2_with fail
    go_ret
    exact ⟨rfl, HB.out⟩
  have hp' : plain c.toNat = false := by simpa using hp
  by_cases hs : short c.toNat = 0
  · have hs2 : sign c = [92, 120, dig (c.toNat / 16), dig (c.toNat % 16)] := by simp [sign, hp', hs]
    rw [hs2]
    go_enter Try.func45, Try.ntmps45
    go_wp2_with fail
    refine (plain_any c.toNat w).mono ?_
    rintro e w1 ⟨rfl, rfl⟩
    rw [hp']
    go_wp2_with fail
    refine (short_any c.toNat w).mono ?_
    rintro e w1 ⟨rfl, rfl⟩
    rw [hs]
    clear hs hp hp' hs2
    have hc := c.toNat_lt
    have hc' : (c.toNat : Int) < 256 := by omega
    have hlt1 : (c.toNat : Int) / 16 < 16 := by omega
    have hlt2 : (0 : Int) ≤ (c.toNat : Int) / 16 := by omega
    have hlt3 : (0 : Int) ≤ (c.toNat : Int) % 16 := by omega
    have hlt4 : (c.toNat : Int) % 16 < 16 := by omega
    have hd1 := digits_at (c.toNat / 16) (show _ < 16 by omega)
    have hd2 := digits_at (c.toNat % 16) (show _ < 16 by omega)
    unfold digits at hd1 hd2
    go_wp2_with fail
    have hcv : (convert 42 9 (.slice (some ⟨w.heap.size, 0, none⟩) 4 4)).run Try.prog (w.alloc (.cells #[.int .u8 92, .int .u8 120, .int .u8 (dig (c.toNat / 16)).toNat, .int .u8 (dig (c.toNat % 16)).toNat] TU8)).drew =
        .ok (.string (bs [92, 120, dig (c.toNat / 16), dig (c.toNat % 16)])) (w.alloc (.cells #[.int .u8 92, .int .u8 120, .int .u8 (dig (c.toNat / 16)).toNat, .int .u8 (dig (c.toNat % 16)).toNat] TU8)).drew := conv_lit w.drew [92, 120, dig (c.toNat / 16), dig (c.toNat % 16)]
    go_region
    all_goals
      go_wp2_with fail
      go_ret
      exact ⟨rfl, (below_new w _).drew⟩
  · have hs2 : sign c = [92, UInt8.ofNat (short c.toNat)] := by simp [sign, hp', hs]
    have hsl : short c.toNat < 256 := by have := short_facts c; have := c.toNat_lt; omega
    rw [hs2]
    have hcv := conv_lit w [92, UInt8.ofNat (short c.toNat)]
    have HB := Lib.hid (below_new w (.cells (Lib.byteCells [92, UInt8.ofNat (short c.toNat)]).toArray TU8))
    simp only [Lib.byteCells, List.map_cons, List.map_nil, List.length_cons, List.length_nil, toNat_ofNat hsl, show (92 : UInt8).toNat = 92 from rfl, Nat.reduceAdd, Nat.zero_add] at hcv HB
    have hcv' : (convert 42 9 (.slice (some ⟨w.heap.size, 0, none⟩) 2 2)).run Try.prog (w.alloc (.cells #[.int .u8 92, .int .u8 (short c.toNat)] TU8)) = .ok (.string (bs [92, UInt8.ofNat (short c.toNat)])) (w.alloc (.cells #[.int .u8 92, .int .u8 (short c.toNat)] TU8)) := hcv
    have HB' : Hid (Below w.heap.size w (w.alloc (.cells #[.int .u8 92, .int .u8 (short c.toNat)] TU8))) := HB
    clear hcv HB
    have hne : (short c.toNat != 0) = true := by simp [hs]
    have HS := Lib.hid hs2
    clear hs2 hs hsl
    go_enter Try.func45, Try.ntmps45
    go_wp2_with fail
    refine (plain_any c.toNat w).mono ?_
    rintro e w1 ⟨rfl, rfl⟩
    rw [hp']
    go_wp2_with fail
    refine (short_any c.toNat w).mono ?_
    rintro e w1 ⟨rfl, rfl⟩
    rw [hne]
    go_wp2_with fail
    go_ret
    exact ⟨rfl, HB'.out⟩

end Go.Proofs.Ytlfhjmdbkifciaa
