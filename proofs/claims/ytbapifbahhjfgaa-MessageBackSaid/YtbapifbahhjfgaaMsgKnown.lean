/- The law MessageKnown, walked. -/
import Derived.Test.YtbapifbahhjfgaaMsgAbove
namespace Go.Proofs.Ytbapifbahhjfgaa
open Go.RowKit

def odd99 : Msg := { exMsg with kind := 99 }
theorem odd99_fit : odd99.Fit := ⟨by decide, by decide, by decide, by decide, fun k _ => by show (0:Int) ≤ (if k = 0 then 1 else if k = 2 then 3 else 0) ∧ (if k = 0 then (1:Int) else if k = 2 then 3 else 0) ≤ _; split <;> (try split) <;> omega, by decide, by decide, fun x hx => absurd hx (by simp [odd99, exMsg])⟩
theorem ex_fit : exMsg.Fit := (check_ok exMsg exMsg_check).fit (by decide)
theorem known_a : decode ⟨#[]⟩ = (zeroMsg, 7, 0) := by rfl
theorem known_b : decode ((⟨#[99]⟩ : ByteArray) ++ (bs exMsg.form).extract 1 (bs exMsg.form).size) = (zeroMsg, 7, 0) := by
  have h : (⟨#[99]⟩ : ByteArray) ++ (bs exMsg.form).extract 1 (bs exMsg.form).size = bs odd99.form := by kernel_rfl
  rw [h]
  exact decode_unfit odd99 odd99_fit (by decide)
theorem known_c : decode (bs exMsg.form ++ (⟨#[120]⟩ : ByteArray)) = (zeroMsg, 7, 133) := by
  have h : bs exMsg.form ++ (⟨#[120]⟩ : ByteArray) = bs (exMsg.form ++ [120]) := by kernel_rfl
  rw [h, decode_more exMsg ex_fit [120] (by simp), ex_form_len]

theorem known_all : ∃ s, exMsg.out = .tuple #[.string s, .int .i64 0] ∧ s.size = 133 ∧ decode ((⟨#[99]⟩ : ByteArray) ++ s.extract 1 133) = (zeroMsg, 7, 0) ∧ decode (s ++ (⟨#[120]⟩ : ByteArray)) = (zeroMsg, 7, 133) := by
  have hz : (bs exMsg.form).size = 133 := by rw [bs_sz]; exact ex_form_len
  refine ⟨bs exMsg.form, ?_, hz, ?_, known_c⟩
  · unfold Msg.out; rw [if_pos exMsg_check]
  · have h := known_b; rwa [hz] at h

/-- three spots that lie in memory -/
def KS (w : World) (a b c : Nat) : Prop := w.heap[a]? = some (.cells #[.int .i64 7, .int .i64 0] TSp (0, 0)) ∧ w.heap[b]? = some (.cells #[.int .i64 7, .int .i64 0] TSp (0, 0)) ∧ w.heap[c]? = some (.cells #[.int .i64 7, .int .i64 133] TSp (0, 0))
theorem KS.below {w w' : World} {a b c : Nat} (h : KS w a b c) (hb : Below w.heap.size w w') : KS w' a b c := ⟨cell_block h.1 hb, cell_block h.2.1 hb, cell_block h.2.2 hb⟩
theorem spot_cells {w : World} {g : Nat} {a b : Int} (h : w.heap[g]? = some (.cells #[.int .i64 a, .int .i64 b] TSp (0, 0))) : w.cell? ⟨g, 0, none⟩ = some (.int .i64 a) ∧ w.cell? ⟨g, 1, none⟩ = some (.int .i64 b) := by
  refine ⟨?_, ?_⟩
  · rw [cell_of_row w g 0 _ _ _ h]; rfl
  · rw [cell_of_row w g 1 _ _ _ h]; rfl

theorem conv_zeros (n : Nat) (w : World) : (convert 43 9 (.slice (some ⟨w.heap.size, 0, none⟩) n n)).run Try.prog (w.alloc (.cells (madeCells #[.int .u8 0] n) 5)) =
    .ok (.string (bs (List.replicate n 0))) (w.alloc (.cells (madeCells #[.int .u8 0] n) 5)) := by
  have h := (BRow.zeros w n).str (P := Try.prog) (cap := n) _ _ _ Try.underlying43 Try.underlying5 Try.underlying9
  rw [List.length_replicate] at h
  exact h
theorem make_n (n : Nat) (m : Int) (hm : m = n) (hn : n ≤ 281474976710656) (w : World) :
    (Instr.makeSlice 43 (.int .i64 m) (.int .i64 m)).run Try.prog w = .ok (.slice (some ⟨w.heap.size, 0, none⟩) n n) (w.alloc (.cells (madeCells #[.int .u8 0] n) 5)) := by
  subst hm
  exact run_make_bytes n hn w
def fiveE : List (Int × ByteArray) := List.replicate 5 (0, ⟨#[]⟩)
theorem made_five : madeCells #[Value.int .i64 0, .string ByteArray.empty] 10 = (eCells fiveE).toArray := by kernel_rfl
theorem make_ents (w : World) : (Instr.makeSlice 23 (.int .i64 5) (.int .i64 5)).run Try.prog w = .ok (.slice (some ⟨w.heap.size, 0, none⟩) 5 5) (w.alloc (.cells (eCells fiveE).toArray TE)) := by
  obtain ⟨i, hi, hz, hs, hb⟩ := info_ent
  have h := run_make w 23 TE i _ Try.underlying23 hi hz .i64 .i64 5 5 (by omega) (by omega) (by rw [hb]; omega) (by omega)
  rw [hs] at h
  rw [h, ← made_five]
  rfl

theorem earg_new (w : World) (l : List (Int × ByteArray)) : EArg (w.alloc (.cells (eCells l).toArray TE)) (w.alloc (.cells (eCells l).toArray TE)).heap.size (some ⟨w.heap.size, 0, none⟩) l := fun k hk => by
  have h := heap_alloc_new w (.cells (eCells l).toArray TE)
  obtain ⟨h1, h2⟩ := eCells_at l k hk
  refine ⟨_, rfl, by simp, ?_, ?_⟩
  · rw [show (⟨w.heap.size, 0, none⟩ : Addr).add (k * 2) = ⟨w.heap.size, k * 2, none⟩ from by unfold Addr.add; split <;> simp_all, cell_of_row _ _ _ _ _ _ h]
    simpa using h1
  · rw [show (⟨w.heap.size, 0, none⟩ : Addr).add (k * 2) = ⟨w.heap.size, k * 2, none⟩ from by unfold Addr.add; split <;> simp_all, cell_of_row _ _ _ _ _ _ h]
    simpa using h2

/-- two fresh blocks, of a message and of a spot -/
theorem raw_facts (w : World) : MB ((w.alloc (.cells (zeroMsg.cells A0).toArray TM)).alloc (.cells #[.int .i64 0, .int .i64 0] TSp)) w.heap.size zeroMsg A0 ∧
    ((w.alloc (.cells (zeroMsg.cells A0).toArray TM)).alloc (.cells #[.int .i64 0, .int .i64 0] TSp)).heap[w.heap.size + 1]? = some (.cells #[.int .i64 0, .int .i64 0] TSp (0, 0)) := by
  have hM0 := heap_alloc_new w (.cells (zeroMsg.cells A0).toArray TM)
  refine ⟨(show MB (w.alloc (.cells (zeroMsg.cells A0).toArray TM)) w.heap.size zeroMsg A0 from hM0).below (below_new _ (.cells #[.int .i64 0, .int .i64 0] TSp)), ?_⟩
  have := heap_alloc_new (w.alloc (.cells (zeroMsg.cells A0).toArray TM)) (.cells #[.int .i64 0, .int .i64 0] TSp)
  rwa [World.size_alloc] at this

def msgA : Msg := { zeroMsg with kind := 1, n := fun i => if i = 1 then 16 else 0 }
def msgB : Msg := { zeroMsg with kind := 1, ents := fiveE }
def msgC (d : ByteArray) : Msg := { zeroMsg with kind := 1, data := d }
theorem checkA : msgA.check = 2 := by rfl
theorem checkB : msgB.check = 3 := by rfl
theorem checkC (d : ByteArray) (h : d.size = 3501) : (msgC d).check = 3 := by
  unfold Msg.check
  rw [if_neg (show ¬ (msgC d).headBad = true from by simp [Msg.headBad, msgC, zeroMsg]), if_neg (show ¬ (msgC d).numsBad = true from by rw [show (msgC d).numsBad = ({ zeroMsg with kind := 1 } : Msg).numsBad from rfl]; decide), if_pos]
  show (decide (4 < 0) || decide (3500 < d.size)) = true
  rw [h]; rfl

set_option maxRecDepth 100000 in
set_option maxHeartbeats 16000000 in
theorem messageKnown_walk (w : World) :
    Calls Try.prog 5 #[] w fun e w' => e = .returned (.bool true) ∧ Below w.heap.size w w' := by
  go_enter Try.func5, Try.ntmps5
  go_wp2_with fail
  refine (works_any w).mono ?_
  rintro e w1 ⟨rfl, hb1⟩
  go_wp2_with fail
  refine (example_any w1).mono ?_
  rintro e w2 ⟨rfl, hb2⟩
  have H2 := Lib.hid (below_then hb1 hb2 (Nat.le_refl _)); clear hb1 hb2
  obtain ⟨s, hout, hs, hdb, hdc⟩ := known_all
  have HDB := Lib.hid hdb; have HDC := Lib.hid hdc; have HS := Lib.hid hs
  clear hdb hdc
  go_wp2_with fail
  have hE := encode_any exMsg none 0 w2 (ex_earg _ _ _) (by decide) (by decide) (by decide)
  rw [hout] at hE
  refine hE.mono ?_
  rintro e w3 ⟨rfl, hb3⟩
  have H3 := Lib.hid (below_then H2.out hb3 (Nat.le_refl _)); clear hb3 H2 hE hout
  go_wp2_with fail
  have hD := decode_any ⟨#[]⟩ w3 (by decide)
  rw [known_a] at hD
  refine hD.mono ?_
  rintro e w4 ⟨A4, c4, rfl, -, hb4⟩
  have H4 := Lib.hid (below_then H3.out hb4 (Nat.le_refl _)); clear hb4 hD H3
  simp only [show zeroMsg.ents.length = 0 from rfl]
  have hR := raw_facts w4
  have HM := Lib.hid hR.1; have HSp := Lib.hid hR.2
  clear hR
  go_wp2_with (first | (refine wpList_store_row rfl TM (.tmp 3) (.tmp 18) rfl w4.heap.size (zeroMsg.cells (.slice A4 0 c4)).toArray rfl rfl TM (zeroMsg.cells A0).toArray HM.out (by kernel_rfl) rfl (cells_one zeroMsg _ _ _) ?_) | (refine wpList_store_row rfl TSp (.tmp 4) (.tmp 19) rfl (w4.heap.size + 1) #[.int .i64 7, .int .i64 0] rfl rfl TSp #[.int .i64 0, .int .i64 0] ((setRow_other _ _ _ _ (by omega)).trans HSp.out) (by kernel_rfl) rfl (spot_one 7 0) ?_))
  try simp only [Act.put]
  change Calls _ _ _ (two w4 (zeroMsg.cells (.slice A4 0 c4)).toArray 7 0) _
  obtain ⟨-, hS, hB⟩ := two_facts w4 (zeroMsg.cells (.slice A4 0 c4)).toArray 7 0
  generalize two w4 (zeroMsg.cells (.slice A4 0 c4)).toArray 7 0 = X4 at *
  have HSA := Lib.hid hS; have G4 := Lib.hid (below_then H4.out hB (Nat.le_refl _))
  clear hS hB HM HSp H4
  generalize w4.heap.size = g4 at *
  have hD := decode_any ((⟨#[99]⟩ : ByteArray) ++ s.extract 1 133) X4 (by rw [ByteArray.size_append, ByteArray.size_extract]; show 1 + _ ≤ _; omega)
  rw [HDB.out] at hD
  refine hD.mono ?_
  rintro e w5 ⟨A5, c5, rfl, -, hb5⟩
  have H5 := Lib.hid (below_then G4.out hb5 (Nat.le_refl _)); have HSA5 := Lib.hid (cell_block HSA.out hb5); clear hb5 hD G4 HSA
  simp only [show zeroMsg.ents.length = 0 from rfl]
  have hR := raw_facts w5
  have HM := Lib.hid hR.1; have HSp := Lib.hid hR.2
  clear hR
  go_wp2_with (first | (refine wpList_store_row rfl TM (.tmp 5) (.tmp 25) rfl w5.heap.size (zeroMsg.cells (.slice A5 0 c5)).toArray rfl rfl TM (zeroMsg.cells A0).toArray HM.out (by kernel_rfl) rfl (cells_one zeroMsg _ _ _) ?_) | (refine wpList_store_row rfl TSp (.tmp 6) (.tmp 26) rfl (w5.heap.size + 1) #[.int .i64 7, .int .i64 0] rfl rfl TSp #[.int .i64 0, .int .i64 0] ((setRow_other _ _ _ _ (by omega)).trans HSp.out) (by kernel_rfl) rfl (spot_one 7 0) ?_))
  try simp only [Act.put]
  change Calls _ _ _ (two w5 (zeroMsg.cells (.slice A5 0 c5)).toArray 7 0) _
  obtain ⟨-, hS, hB⟩ := two_facts w5 (zeroMsg.cells (.slice A5 0 c5)).toArray 7 0
  generalize two w5 (zeroMsg.cells (.slice A5 0 c5)).toArray 7 0 = X5 at *
  have HSB := Lib.hid hS; have HSA6 := Lib.hid (cell_block HSA5.out hB); have G5 := Lib.hid (below_then H5.out hB (Nat.le_refl _))
  clear hS hB HM HSp H5 HSA5
  generalize w5.heap.size = g5 at *
  have hD := decode_any (s ++ (⟨#[120]⟩ : ByteArray)) X5 (by rw [ByteArray.size_append]; show _ + 1 ≤ _; omega)
  rw [HDC.out] at hD
  refine hD.mono ?_
  rintro e w6 ⟨A6, c6, rfl, -, hb6⟩
  have H6 := Lib.hid (below_then G5.out hb6 (Nat.le_refl _)); have HSA7 := Lib.hid (cell_block HSA6.out hb6); have HSB7 := Lib.hid (cell_block HSB.out hb6); clear hb6 hD G5 HSA6 HSB
  simp only [show zeroMsg.ents.length = 0 from rfl]
  have hR := raw_facts w6
  have HM := Lib.hid hR.1; have HSp := Lib.hid hR.2
  clear hR
  go_wp2_with (first | (refine wpList_store_row rfl TM (.tmp 7) (.tmp 31) rfl w6.heap.size (zeroMsg.cells (.slice A6 0 c6)).toArray rfl rfl TM (zeroMsg.cells A0).toArray HM.out (by kernel_rfl) rfl (cells_one zeroMsg _ _ _) ?_) | (refine wpList_store_row rfl TSp (.tmp 8) (.tmp 32) rfl (w6.heap.size + 1) #[.int .i64 7, .int .i64 133] rfl rfl TSp #[.int .i64 0, .int .i64 0] ((setRow_other _ _ _ _ (by omega)).trans HSp.out) (by kernel_rfl) rfl (spot_one 7 133) ?_))
  try simp only [Act.put]
  change Calls _ _ _ (two w6 (zeroMsg.cells (.slice A6 0 c6)).toArray 7 133) _
  obtain ⟨-, hS, hB⟩ := two_facts w6 (zeroMsg.cells (.slice A6 0 c6)).toArray 7 133
  generalize two w6 (zeroMsg.cells (.slice A6 0 c6)).toArray 7 133 = X6 at *
  have HK := Lib.hid (show KS X6 (g4 + 1) (g5 + 1) (w6.heap.size + 1) from ⟨cell_block HSA7.out hB, cell_block HSB7.out hB, hS⟩)
  have G6 := Lib.hid (below_then H6.out hB (Nat.le_refl _))
  clear hS hB HM HSp H6 HSA7 HSB7 HDB HDC hs HS
  generalize w6.heap.size = g6 at *
  have c1 : zeroMsg.check = 2 := by rfl
  refine (check_any zeroMsg none 0 X6 (fun k hk => absurd hk (Nat.not_lt_zero _)) (by decide) (by decide)).mono ?_
  rintro e w7 ⟨rfl, hb7⟩
  rw [c1]
  have H7 := Lib.hid (below_then G6.out hb7 (Nat.le_refl _)); have HK7 := Lib.hid (HK.out.below hb7); clear hb7 G6 HK c1
  go_wp2_with fail
  refine (check_any msgA none 0 w7 (fun k hk => absurd hk (Nat.not_lt_zero _)) (by decide) (by decide)).mono ?_
  rintro e w8 ⟨rfl, hb8⟩
  rw [checkA]
  have H8 := Lib.hid (below_then H7.out hb8 (Nat.le_refl _)); have HK8 := Lib.hid (HK7.out.below hb8); clear hb8 H7 HK7
  have hme := make_ents
  have HEA := Lib.hid (earg_new w8 fiveE)
  go_wp2_with fail
  have hb := below_new w8 (.cells (eCells fiveE).toArray TE)
  have H8a := Lib.hid (below_then H8.out hb (Nat.le_refl _)); have HK8a := Lib.hid (HK8.out.below hb)
  clear hme hb H8 HK8
  generalize w8.alloc (.cells (eCells fiveE).toArray TE) = X8 at *
  refine (check_any msgB (some ⟨w8.heap.size, 0, none⟩) 5 X8 HEA.out (by decide) (by decide)).mono ?_
  rintro e w9 ⟨rfl, hb9⟩
  rw [checkB]
  have H9 := Lib.hid (below_then H8a.out hb9 (Nat.le_refl _)); have HK9 := Lib.hid (HK8a.out.below hb9); clear hb9 H8a HK8a HEA
  obtain ⟨N, hN⟩ : ∃ N : Nat, Hid (N = 3501) := ⟨_, Lib.hid rfl⟩
  have hm := make_n N 3501 (by rw [hN.out]; rfl) (by rw [hN.out]; decide)
  have hcv := conv_zeros N
  have hs1 : (bs (List.replicate N 0)).size = 3501 := by rw [bs_sz, List.length_replicate, hN.out]
  have HS1 := Lib.hid hs1
  clear hs1
  go_wp2_with fail
  have hb := below_new w9 (.cells (madeCells #[.int .u8 0] N) 5)
  have H9a := Lib.hid (below_then H9.out hb (Nat.le_refl _)); have HK9a := Lib.hid (HK9.out.below hb)
  clear hm hcv hb H9 HK9
  generalize w9.alloc (.cells (madeCells #[.int .u8 0] N) 5) = X9 at *
  generalize bs (List.replicate N 0) = dd at *
  refine (check_any (msgC dd) none 0 X9 (fun k hk => absurd hk (Nat.not_lt_zero _)) (by show 0 ≤ _; decide) (by show 1 < 256; decide)).mono ?_
  rintro e w10 ⟨rfl, hb10⟩
  rw [checkC dd HS1.out]
  have H10 := Lib.hid (below_then H9a.out hb10 (Nat.le_refl _)); have HK10 := Lib.hid (HK9a.out.below hb10); clear hb10 H9a HK9a
  obtain ⟨p0, p1⟩ := spot_cells HK10.out.1
  obtain ⟨q0, q1⟩ := spot_cells HK10.out.2.1
  obtain ⟨r0, r1⟩ := spot_cells HK10.out.2.2
  go_wp2_with fail
  refine (above_any (2, 1) (1, 9) w10).mono ?_
  rintro e w11 ⟨rfl, hb11⟩
  rw [show above (2, 1) (1, 9) = true from by decide]
  have H11 := Lib.hid (below_then H10.out hb11 (Nat.le_refl _)); clear hb11 H10 p0 p1 q0 q1 r0 r1
  go_wp2_with fail
  refine (above_any (2, 1) (2, 1) w11).mono ?_
  rintro e w12 ⟨rfl, hb12⟩
  rw [show above (2, 1) (2, 1) = false from by decide]
  have H12 := Lib.hid (below_then H11.out hb12 (Nat.le_refl _)); clear hb12 H11
  go_wp2_with fail
  go_ret
  exact ⟨rfl, H12.out⟩

end Go.Proofs.Ytbapifbahhjfgaa
