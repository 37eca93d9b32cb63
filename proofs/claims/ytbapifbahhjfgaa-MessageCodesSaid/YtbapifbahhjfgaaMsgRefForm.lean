/- The document's Form: a message's bytes. -/
import Derived.Test.YtbapifbahhjfgaaMsgForm
import Derived.Test.YtbapifbahhjfgaaMsgSame2
import Derived.Test.YtbapifbahhjfgaaWireEnc2
namespace Go.Proofs.Ytbapifbahhjfgaa
open Go.RowKit

set_option maxRecDepth 100000 in
theorem truth_any (b : Bool) (w : World) : Calls Try.prog 40 #[.bool b] w fun e w' => e = .returned (.int .u64 ((if b then 1 else 0 : Nat) : Int)) ∧ Below w.heap.size w w' := by
  cases b
  all_goals
    go_enter Try.func40, Try.ntmps40
    go_wp2
    go_ret
    exact ⟨rfl, Below.refl _ _⟩

theorem bs_cat (a b : List UInt8) : bs a ++ bs b = bs (a ++ b) := by
  apply ByteArray.ext
  rw [ByteArray.data_append]
  apply Array.ext'
  simp [bs]

theorem bs_size' (l : List UInt8) : (bs l).size = l.length := by show l.toArray.size = _; simp
theorem be_bs (k n : Nat) : (bs (WM.be k n)).size = k := by rw [bs_size', WM.be_len]

theorem wrap_u64_nat (n : Nat) (h : n < 18446744073709551616) : IntKind.u64.wrap (n : Int) = n := by
  simp [IntKind.wrap, IntKind.bits, IntKind.signed]
  omega

/-- the form ahead of the entries -/
def headForm (m : Msg) : List UInt8 := WM.be 1 m.kind ++ nsForm m 15 ++ midForm m ++ (WM.text m.data.data.toList ++ WM.be 1 m.ents.length)

theorem form_some {m : Msg} {S : ByteArray} {k : Nat} (ho : m.Ok) (hh : (headForm m).length ≤ 4000) (hS : S = bs (headForm m ++ esForm (m.ents.take k))) : S.size ≤ 20000 := by
  have h1 := esForm_len (m.ents.take k) (fun x hx => (ho.each x (List.mem_of_mem_take hx)).2.2)
  have h3 := ho.ents
  have h4 : (m.ents.take k).length ≤ 4 := by rw [List.length_take]; omega
  rw [hS, bs_size', List.length_append]
  omega

/-- the cells that the form is made of -/
theorem form_cells {w : World} {g : Nat} {m : Msg} {A : Value} (h : MB w g m A) : w.cell? ⟨g, 8, none⟩ = some (.bool m.good) ∧ w.cell? ⟨g, 19, none⟩ = some (.int .u8 m.op) ∧ w.cell? ⟨g, 20, none⟩ = some (.int .i64 m.err) ∧ w.cell? ⟨g, 21, none⟩ = some (.int .i64 m.leader) ∧
    w.cell? ⟨g, 12, none⟩ = some (.string m.data) ∧ w.cell? ⟨g, 9, none⟩ = some A := ⟨h.cell 8 _ rfl, h.cell 19 _ rfl, h.cell 20 _ rfl, h.cell 21 _ rfl, h.cell 12 _ rfl, h.cell 9 _ rfl⟩

set_option maxRecDepth 100000 in
set_option maxHeartbeats 16000000 in
theorem refForm_any (m : Msg) (A : Option Addr) (c : Nat) (w : World) (ha : EArg w w.heap.size A m.ents) (hc : m.check = 0) (ho : m.op < 256) :
    Calls Try.prog 19 #[m.val (.slice A m.ents.length c)] w fun e w' => e = .returned (.string (bs m.form)) ∧ Below w.heap.size w w' := by
  have hM : MB (w.alloc (.cells (m.cells (.slice A m.ents.length c)).toArray TM)) w.heap.size m (.slice A m.ents.length c) := heap_alloc_new w _
  have hB0 := below_new w (.cells (m.cells (.slice A m.ents.length c)).toArray TM)
  have HM := Lib.hid hM; have HB0 := Lib.hid hB0; have HOK := Lib.hid (check_ok m hc)
  have c0 := hM.cell 0 _ rfl
  have hk0 : (m.kind : Int) < 256 := by have := (check_ok m hc).kind; omega
  have hk1 : m.kind < 256 := by omega
  clear hM hB0 hc
  simp only [Msg.val]
  go_enter Try.func19, Try.ntmps19
  go_wp2_with fail
  refine (refNumber_any m.kind 1 _ (by omega) (by omega)).mono ?_
  rintro e w1 ⟨rfl, hb1⟩
  have HM1 := Lib.hid (HM.out.below hb1); have HB1 := Lib.hid (below_then HB0.out hb1 (Nat.le_refl _)); have HA1 := Lib.hid ((ha.on HB0.out).on hb1)
  clear hb1 HM HB0 ha c0
  generalize Value.agg (m.cells (.slice A m.ents.length c)).toArray = V
  obtain ⟨g, hg⟩ : ∃ g, w.heap.size = g := ⟨_, rfl⟩
  have HG := Lib.hid hg
  rw [hg] at HM1 ⊢
  clear hg
  go_wp2_with (refine wpList_load_row rfl TM (.tmp 1) rfl g rfl TM _ (0, 0) _ HM1.out Try.underlying28 rfl (by kernel_rfl) ?_)
  refine (refNumbers_any m A c _).mono ?_
  rintro e w2 ⟨q, rfl, hq, hql, hc2, hb2⟩
  generalize Value.agg (m.cells (.slice A m.ents.length c)).toArray = V2
  have HM2 := Lib.hid (HM1.out.below hb2); have HB2 := Lib.hid (below_then HB1.out hb2 (Nat.le_refl _)); have HA2 := Lib.hid (HA1.out.on hb2); have HC2 := Lib.hid hc2
  clear hb2 HM1 HB1 HA1 hc2 hq
  go_wp2_with fail
  have HS0 : Hid (bs (WM.be 1 m.kind) = bs (WM.be 1 m.kind ++ nsForm m 0)) := Lib.hid (by simp [nsForm])
  generalize bs (WM.be 1 m.kind) = s0 at *
  have HSZ0 : Hid (s0.size ≤ 200) := Lib.hid (by rw [HS0.out, show (bs (WM.be 1 m.kind ++ nsForm m 0)).size = (WM.be 1 m.kind ++ nsForm m 0).length from by show (List.toArray _).size = _; simp, List.length_append, WM.be_len, nsForm_len]; omega)
  go_loopw [3, 5] (fun a i wr => ∃ (k : Nat) (S : ByteArray), k ≤ 15 ∧ i = .int .i64 k ∧ a = .string S ∧ Hid (S = bs (WM.be 1 m.kind ++ nsForm m k)) ∧ Hid (MB wr g m (.slice A m.ents.length c)) ∧ Hid (Below w.heap.size w wr) ∧ Hid (EArg wr wr.heap.size A m.ents) ∧ q < wr.heap.size ∧
      Hid (∀ j, j < 15 → wr.cell? ⟨q, j, none⟩ = some (.int .i64 (m.n j)))) (fun _ i _ => 15 - (intOf i).toNat)
  case atStart => exact ⟨0, s0, by omega, rfl, rfl, HS0, HM2, HB2, HA2, hql, HC2⟩
  case round =>
    clear HM2 HB2 HA2 HC2 HS0 HSZ0 hql
    obtain ⟨k, S, hk15, rfl, rfl, HS, HMr, HBr, HAr, hql, HCr⟩ := hrel
    have HZ : Hid (S.size = 1 + 8 * k) := Lib.hid (by rw [HS.out, show (bs (WM.be 1 m.kind ++ nsForm m k)).size = (WM.be 1 m.kind ++ nsForm m k).length from by show (List.toArray _).size = _; simp, List.length_append, WM.be_len, nsForm_len])
    by_cases hlt : k < 15
    · have hcell := HCr.out k hlt
      have hlt2 : (k : Int) < 15 := by omega
      have hk0' : (0 : Int) ≤ k := by omega
      have hb := HOK.out.n k hlt
      have HSU := Lib.hid (nsForm_succ m k)
      generalize m.n k = x at *
      have hx0 := hb.1
      have hx1 := hb.2
      clear hb
      go_wp2_with fail
      refine (refNumber_int x 8 wr (by omega) (by omega) (by omega) (by omega)).mono ?_
      rintro e w4 ⟨rfl, hb4⟩
      have HM4 := Lib.hid (HMr.out.below hb4); have HB4 := Lib.hid (below_then HBr.out hb4 (Nat.le_refl _)); have HA4 := Lib.hid (HAr.out.on hb4); have HC4 := Lib.hid (fun j hj => cell_below (HCr.out j hj) hb4)
      have hq4 : q < w4.heap.size := Nat.lt_of_lt_of_le hql hb4.size
      clear hb4 HMr HBr HAr HCr hcell
      have HT : Hid ((bs (WM.be (8 : Int).toNat x.toNat)).size = 8) := Lib.hid (by show (List.toArray _).size = _; simp [WM.be_len])
      have HTE : Hid (S ++ bs (WM.be (8 : Int).toNat x.toNat) = bs (WM.be 1 m.kind ++ (nsForm m k ++ WM.be 8 x.toNat))) := Lib.hid (by rw [HS.out, bs_cat]; simp)
      generalize bs (WM.be (8 : Int).toNat x.toNat) = T at *
      have hT : T.size = 8 := HT.out
      have hS : S.size ≤ 200 := by have := HZ.out; omega
      go_wp2_with fail
      exact ⟨⟨k + 1, _, by omega, by go_num, rfl, Lib.hid (by rw [HTE.out, HSU.out]), HM4, HB4, HA4, hq4, HC4⟩, by simp [intOf]; omega⟩
    · have hge : ¬ ((k : Int) < 15) := by omega
      obtain rfl : k = 15 := by omega
      clear hge hlt hk15 HCr
      have hS : S.size = 121 := HZ.out
      obtain ⟨en, hen⟩ : ∃ n : Nat, m.err = n := ⟨m.err.toNat, by have := HOK.out.err; omega⟩
      obtain ⟨ln, hln⟩ : ∃ n : Nat, m.leader = n := ⟨m.leader.toNat, by have := HOK.out.leader; omega⟩
      obtain ⟨tn, htn⟩ : ∃ n : Nat, (if m.good = true then 1 else 0) = n := ⟨_, rfl⟩
      have hen0 : (en : Int) ≤ 999 := by have := HOK.out.err; omega
      have hln0 : (ln : Int) ≤ 3 := by have := HOK.out.leader; omega
      have htn0 : tn ≤ 1 := by rw [← htn]; split <;> omega
      have hel0 : (m.ents.length : Int) ≤ 4 := by have := HOK.out.ents; omega
      have hds : m.data.size ≤ 3500 := HOK.out.data
      have hop : (m.op : Int) < 256 := by omega
      have hw1 := wrap_u64_nat m.op (by omega)
      have hw2 := wrap_u64_nat en (by omega)
      have hw3 := wrap_u64_nat ln (by omega)
      have hw4 := wrap_u64_nat m.ents.length (by omega)
      have HEN := Lib.hid hen; have HLN := Lib.hid hln; have HTN := Lib.hid htn
      have HCELLS : Hid (∀ w', MB w' g m (.slice A m.ents.length c) → w'.cell? ⟨g, 8, none⟩ = some (.bool m.good) ∧ w'.cell? ⟨g, 19, none⟩ = some (.int .u8 m.op) ∧ w'.cell? ⟨g, 20, none⟩ = some (.int .i64 en) ∧ w'.cell? ⟨g, 21, none⟩ = some (.int .i64 ln) ∧ w'.cell? ⟨g, 12, none⟩ = some (.string m.data) ∧ w'.cell? ⟨g, 9, none⟩ = some (.slice A m.ents.length c)) :=
        Lib.hid (fun w' h => by have := form_cells h; rwa [hen, hln] at this)
      clear hen hln htn
      go_wp2_with fail
      refine wp_region_any (by kernel_rfl) ?_
      change wpAny _ _ _ _ _ _ _ wr.drew
      refine wpAny_of_held (S := (fun w' => w'.cell? ⟨g, 8, none⟩ = some (.bool m.good) ∧ w'.cell? ⟨g, 19, none⟩ = some (.int .u8 m.op) ∧ w'.cell? ⟨g, 20, none⟩ = some (.int .i64 en) ∧ w'.cell? ⟨g, 21, none⟩ = some (.int .i64 ln) ∧ w'.cell? ⟨g, 12, none⟩ = some (.string m.data) ∧ w'.cell? ⟨g, 9, none⟩ = some (.slice A m.ents.length c))) _ _ _ _ ?_
      have hHeld := HCELLS.out wr.drew (MB.drew HMr.out)
      refine wpAnyH_take (i := 0) (v := ?_) (by simp only [List.getElem?_toArray, List.getElem?_cons_succ, List.getElem?_cons_zero]; rfl) (by kernel_rfl) (by kernel_rfl) (by kernel_rfl) (by exact fun _ _ _ h => h) (Or.inl ⟨by rfl, ?_⟩) (by assumption) ?_
      rotate_left
      · (intro w hSw; (try clear hHeld); (try dsimp only at hSw); (try go_split_ands); go_simp)
        try with_reducible rfl
      try simp only [Act.put, List.setIfInBounds_toArray, List.set_cons_zero, List.set_cons_succ]
      refine wpAnyH_take (i := 1) (v := ?_) (by simp only [List.getElem?_toArray, List.getElem?_cons_succ, List.getElem?_cons_zero]; rfl) (by kernel_rfl) (by kernel_rfl) (by kernel_rfl) (by exact fun _ _ _ h => h) (Or.inl ⟨by rfl, ?_⟩) (by assumption) ?_
      rotate_left
      · (intro w hSw; (try clear hHeld); (try dsimp only at hSw); (try go_split_ands); go_simp)
        try with_reducible rfl
      try simp only [Act.put, List.setIfInBounds_toArray, List.set_cons_zero, List.set_cons_succ]
      refine wpAnyH_take (i := 2) (v := ?_) (by simp only [List.getElem?_toArray, List.getElem?_cons_succ, List.getElem?_cons_zero]; rfl) (by kernel_rfl) (by kernel_rfl) (by kernel_rfl) (by exact fun _ _ _ h => h) (Or.inl ⟨by rfl, ?_⟩) (by assumption) ?_
      rotate_left
      · (intro w hSw; (try clear hHeld); (try dsimp only at hSw); (try go_split_ands); go_simp)
        try with_reducible rfl
      try simp only [Act.put, List.setIfInBounds_toArray, List.set_cons_zero, List.set_cons_succ]
      refine wpAnyH_take (i := 6) (v := ?_) (by simp only [List.getElem?_toArray, List.getElem?_cons_succ, List.getElem?_cons_zero]; rfl) (by kernel_rfl) (by kernel_rfl) (by kernel_rfl) (by exact fun _ _ _ h => h) (Or.inl ⟨by rfl, ?_⟩) (by assumption) ?_
      rotate_left
      · (intro w hSw; (try clear hHeld); (try dsimp only at hSw); (try go_split_ands); go_simp)
        try with_reducible rfl
      try simp only [Act.put, List.setIfInBounds_toArray, List.set_cons_zero, List.set_cons_succ]
      refine wpAnyH_take (i := 7) (v := ?_) (by simp only [List.getElem?_toArray, List.getElem?_cons_succ, List.getElem?_cons_zero]; rfl) (by kernel_rfl) (by kernel_rfl) (by kernel_rfl) (by exact fun _ _ _ h => h) (Or.inl ⟨by rfl, ?_⟩) (by assumption) ?_
      rotate_left
      · (intro w hSw; (try clear hHeld); (try dsimp only at hSw); (try go_split_ands); go_simp)
        try with_reducible rfl
      try simp only [Act.put, List.setIfInBounds_toArray, List.set_cons_zero, List.set_cons_succ]
      refine wpAnyH_take (i := 8) (v := ?_) (by simp only [List.getElem?_toArray, List.getElem?_cons_succ, List.getElem?_cons_zero]; rfl) (by kernel_rfl) (by kernel_rfl) (by kernel_rfl) (by exact fun _ _ _ h => h) (Or.inl ⟨by rfl, ?_⟩) (by assumption) ?_
      rotate_left
      · (intro w hSw; (try clear hHeld); (try dsimp only at hSw); (try go_split_ands); go_simp)
        try with_reducible rfl
      try simp only [Act.put, List.setIfInBounds_toArray, List.set_cons_zero, List.set_cons_succ]
      refine wpAnyH_take (i := 11) (v := ?_) (by simp only [List.getElem?_toArray, List.getElem?_cons_succ, List.getElem?_cons_zero]; rfl) (by kernel_rfl) (by kernel_rfl) (by kernel_rfl) (by exact fun _ _ _ h => h) (Or.inl ⟨by rfl, ?_⟩) (by assumption) ?_
      rotate_left
      · (intro w hSw; (try clear hHeld); (try dsimp only at hSw); (try go_split_ands); go_simp)
        try with_reducible rfl
      try simp only [Act.put, List.setIfInBounds_toArray, List.set_cons_zero, List.set_cons_succ]
      refine wpAnyH_take (i := 12) (v := ?_) (by simp only [List.getElem?_toArray, List.getElem?_cons_succ, List.getElem?_cons_zero]; rfl) (by kernel_rfl) (by kernel_rfl) (by kernel_rfl) (by exact fun _ _ _ h => h) (Or.inl ⟨by rfl, ?_⟩) (by assumption) ?_
      rotate_left
      · (intro w hSw; (try clear hHeld); (try dsimp only at hSw); (try go_split_ands); go_simp)
        try with_reducible rfl
      try simp only [Act.put, List.setIfInBounds_toArray, List.set_cons_zero, List.set_cons_succ]
      refine wpAnyH_take (i := 13) (v := ?_) (by simp only [List.getElem?_toArray, List.getElem?_cons_succ, List.getElem?_cons_zero]; rfl) (by kernel_rfl) (by kernel_rfl) (by kernel_rfl) (by exact fun _ _ _ h => h) (Or.inl ⟨by rfl, ?_⟩) (by assumption) ?_
      rotate_left
      · (intro w hSw; (try clear hHeld); (try dsimp only at hSw); (try go_split_ands); go_simp)
        try with_reducible rfl
      try simp only [Act.put, List.setIfInBounds_toArray, List.set_cons_zero, List.set_cons_succ]
      refine wpAnyH_take (i := 16) (v := ?_) (by simp only [List.getElem?_toArray, List.getElem?_cons_succ, List.getElem?_cons_zero]; rfl) (by kernel_rfl) (by kernel_rfl) (by kernel_rfl) (by exact fun _ _ _ h => h) (Or.inl ⟨by rfl, ?_⟩) (by assumption) ?_
      rotate_left
      · (intro w hSw; (try clear hHeld); (try dsimp only at hSw); (try go_split_ands); go_simp)
        try with_reducible rfl
      try simp only [Act.put, List.setIfInBounds_toArray, List.set_cons_zero, List.set_cons_succ]
      refine wpAnyH_take (i := 17) (v := ?_) (by simp only [List.getElem?_toArray, List.getElem?_cons_succ, List.getElem?_cons_zero]; rfl) (by kernel_rfl) (by kernel_rfl) (by kernel_rfl) (by exact fun _ _ _ h => h) (Or.inl ⟨by rfl, ?_⟩) (by assumption) ?_
      rotate_left
      · (intro w hSw; (try clear hHeld); (try dsimp only at hSw); (try go_split_ands); go_simp)
        try with_reducible rfl
      try simp only [Act.put, List.setIfInBounds_toArray, List.set_cons_zero, List.set_cons_succ]
      refine wpAnyH_take (i := 18) (v := ?_) (by simp only [List.getElem?_toArray, List.getElem?_cons_succ, List.getElem?_cons_zero]; rfl) (by kernel_rfl) (by kernel_rfl) (by kernel_rfl) (by exact fun _ _ _ h => h) (Or.inl ⟨by rfl, ?_⟩) (by assumption) ?_
      rotate_left
      · (intro w hSw; (try clear hHeld); (try dsimp only at hSw); (try go_split_ands); go_simp)
        try with_reducible rfl
      try simp only [Act.put, List.setIfInBounds_toArray, List.set_cons_zero, List.set_cons_succ]
      refine wpAnyH_take (i := 21) (v := ?_) (by simp only [List.getElem?_toArray, List.getElem?_cons_succ, List.getElem?_cons_zero]; rfl) (by kernel_rfl) (by kernel_rfl) (by kernel_rfl) (by exact fun _ _ _ h => h) (Or.inl ⟨by rfl, ?_⟩) (by assumption) ?_
      rotate_left
      · (intro w hSw; (try clear hHeld); (try dsimp only at hSw); (try go_split_ands); go_simp)
        try with_reducible rfl
      try simp only [Act.put, List.setIfInBounds_toArray, List.set_cons_zero, List.set_cons_succ]
      refine wpAnyH_take (i := 22) (v := ?_) (by simp only [List.getElem?_toArray, List.getElem?_cons_succ, List.getElem?_cons_zero]; rfl) (by kernel_rfl) (by kernel_rfl) (by kernel_rfl) (by exact fun _ _ _ h => h) (Or.inl ⟨by rfl, ?_⟩) (by assumption) ?_
      rotate_left
      · (intro w hSw; (try clear hHeld); (try dsimp only at hSw); (try go_split_ands); go_simp)
        try with_reducible rfl
      try simp only [Act.put, List.setIfInBounds_toArray, List.set_cons_zero, List.set_cons_succ]
      refine wpAnyH_take (i := 25) (v := ?_) (by simp only [List.getElem?_toArray, List.getElem?_cons_succ, List.getElem?_cons_zero]; rfl) (by kernel_rfl) (by kernel_rfl) (by kernel_rfl) (by exact fun _ _ _ h => h) (Or.inl ⟨by rfl, ?_⟩) (by assumption) ?_
      rotate_left
      · (intro w hSw; (try clear hHeld); (try dsimp only at hSw); (try go_split_ands); go_simp)
        try with_reducible rfl
      try simp only [Act.put, List.setIfInBounds_toArray, List.set_cons_zero, List.set_cons_succ]
      refine wpAnyH_take (i := 26) (v := ?_) (by simp only [List.getElem?_toArray, List.getElem?_cons_succ, List.getElem?_cons_zero]; rfl) (by kernel_rfl) (by kernel_rfl) (by kernel_rfl) (by exact fun _ _ _ h => h) (Or.inl ⟨by rfl, ?_⟩) (by assumption) ?_
      rotate_left
      · (intro w hSw; (try clear hHeld); (try dsimp only at hSw); (try go_split_ands); go_simp)
        try with_reducible rfl
      try simp only [Act.put, List.setIfInBounds_toArray, List.set_cons_zero, List.set_cons_succ]
      refine wpAnyH_take (i := 27) (v := ?_) (by simp only [List.getElem?_toArray, List.getElem?_cons_succ, List.getElem?_cons_zero]; rfl) (by kernel_rfl) (by kernel_rfl) (by kernel_rfl) (by exact fun _ _ _ h => h) (Or.inl ⟨by rfl, ?_⟩) (by assumption) ?_
      rotate_left
      · (intro w hSw; (try clear hHeld); (try dsimp only at hSw); (try go_split_ands); go_simp)
        try with_reducible rfl
      try simp only [Act.put, List.setIfInBounds_toArray, List.set_cons_zero, List.set_cons_succ]
      refine wpAnyH_take (i := 28) (v := ?_) (by simp only [List.getElem?_toArray, List.getElem?_cons_succ, List.getElem?_cons_zero]; rfl) (by kernel_rfl) (by kernel_rfl) (by kernel_rfl) (by exact fun _ _ _ h => h) (Or.inl ⟨by rfl, ?_⟩) (by assumption) ?_
      rotate_left
      · (intro w hSw; (try clear hHeld); (try dsimp only at hSw); (try go_split_ands); go_simp)
        try with_reducible rfl
      try simp only [Act.put, List.setIfInBounds_toArray, List.set_cons_zero, List.set_cons_succ]
      have HM4 := Lib.hid (MB.drew HMr.out); have HB4 := Lib.hid (Below.drew HBr.out); have HA4 : Hid (EArg wr.drew wr.drew.heap.size A m.ents) := HAr
      clear HMr HBr HAr
      refine wpAnyH_ready (rs := [3]) (by kernel_rfl) (by simp) ?_
      refine AllReadyH.cons (by simp only [List.getElem?_toArray, List.getElem?_cons_succ, List.getElem?_cons_zero]; rfl) (fun K hK => ?_) AllReadyH.nil
      go_simp
      refine (truth_any m.good _).mono ?_
      rintro e w5 ⟨rfl, hb5⟩
      have HM5 := Lib.hid (HM4.out.below hb5); have HB5 := Lib.hid (below_then HB4.out hb5 (Nat.le_refl _)); have HA5 := Lib.hid (HA4.out.on hb5)
      clear hb5 HM4 HB4 HA4
      rw [HTN.out]
      simp only []
      refine hK.out _ _ (HCELLS.out _ HM5.out) (fun hHeld => ?_)
      clear hK K
      try simp only [Act.put, List.setIfInBounds_toArray, List.set_cons_zero, List.set_cons_succ]
      refine wpAnyH_ready (rs := [4]) (by kernel_rfl) (by simp) ?_
      refine AllReadyH.cons (by simp only [List.getElem?_toArray, List.getElem?_cons_succ, List.getElem?_cons_zero]; rfl) (fun K hK => ?_) AllReadyH.nil
      go_simp
      refine (refNumber_any tn 1 _ (by omega) (by omega)).mono ?_
      rintro e w6 ⟨rfl, hb6⟩
      have HM6 := Lib.hid (HM5.out.below hb6); have HB6 := Lib.hid (below_then HB5.out hb6 (Nat.le_refl _)); have HA6 := Lib.hid (HA5.out.on hb6)
      clear hb6 HM5 HB5 HA5
      have HT1 := Lib.hid (be_bs 1 tn)
      obtain ⟨T1, hT1⟩ : ∃ T, bs (WM.be 1 tn) = T := ⟨_, rfl⟩
      have hT1s : T1.size = 1 := by rw [← hT1]; exact HT1.out
      have HET1 := Lib.hid hT1
      rw [hT1]
      clear hT1 HT1
      simp only []
      refine hK.out _ _ (HCELLS.out _ HM6.out) (fun hHeld => ?_)
      clear hK K
      try simp only [Act.put, List.setIfInBounds_toArray, List.set_cons_zero, List.set_cons_succ]
      refine wpAnyH_take (i := 5) (v := ?_) (by simp only [List.getElem?_toArray, List.getElem?_cons_succ, List.getElem?_cons_zero]; rfl) (by kernel_rfl) (by kernel_rfl) (by kernel_rfl) (by exact fun _ _ _ h => h) (Or.inl ⟨by rfl, ?_⟩) (by assumption) ?_
      rotate_left
      · (intro w hSw; (try clear hHeld); (try dsimp only at hSw); (try go_split_ands); go_simp)
        try with_reducible rfl
      try simp only [Act.put, List.setIfInBounds_toArray, List.set_cons_zero, List.set_cons_succ]
      refine wpAnyH_ready (rs := [9]) (by kernel_rfl) (by simp) ?_
      refine AllReadyH.cons (by simp only [List.getElem?_toArray, List.getElem?_cons_succ, List.getElem?_cons_zero]; rfl) (fun K hK => ?_) AllReadyH.nil
      go_simp
      refine (refNumber_any m.op 1 _ (by omega) (by omega)).mono ?_
      rintro e w7 ⟨rfl, hb7⟩
      have HM7 := Lib.hid (HM6.out.below hb7); have HB7 := Lib.hid (below_then HB6.out hb7 (Nat.le_refl _)); have HA7 := Lib.hid (HA6.out.on hb7)
      clear hb7 HM6 HB6 HA6
      have HT2 := Lib.hid (be_bs 1 m.op)
      obtain ⟨T2, hT2⟩ : ∃ T, bs (WM.be 1 m.op) = T := ⟨_, rfl⟩
      have hT2s : T2.size = 1 := by rw [← hT2]; exact HT2.out
      have HET2 := Lib.hid hT2
      rw [hT2]
      clear hT2 HT2
      simp only []
      refine hK.out _ _ (HCELLS.out _ HM7.out) (fun hHeld => ?_)
      clear hK K
      try simp only [Act.put, List.setIfInBounds_toArray, List.set_cons_zero, List.set_cons_succ]
      refine wpAnyH_take (i := 10) (v := ?_) (by simp only [List.getElem?_toArray, List.getElem?_cons_succ, List.getElem?_cons_zero]; rfl) (by kernel_rfl) (by kernel_rfl) (by kernel_rfl) (by exact fun _ _ _ h => h) (Or.inl ⟨by rfl, ?_⟩) (by assumption) ?_
      rotate_left
      · (intro w hSw; (try clear hHeld); (try dsimp only at hSw); (try go_split_ands); go_simp)
        try with_reducible rfl
      try simp only [Act.put, List.setIfInBounds_toArray, List.set_cons_zero, List.set_cons_succ]
      refine wpAnyH_ready (rs := [14]) (by kernel_rfl) (by simp) ?_
      refine AllReadyH.cons (by simp only [List.getElem?_toArray, List.getElem?_cons_succ, List.getElem?_cons_zero]; rfl) (fun K hK => ?_) AllReadyH.nil
      go_simp
      refine (refNumber_any en 4 _ (by omega) (by omega)).mono ?_
      rintro e w8 ⟨rfl, hb8⟩
      have HM8 := Lib.hid (HM7.out.below hb8); have HB8 := Lib.hid (below_then HB7.out hb8 (Nat.le_refl _)); have HA8 := Lib.hid (HA7.out.on hb8)
      clear hb8 HM7 HB7 HA7
      have HT3 := Lib.hid (be_bs 4 en)
      obtain ⟨T3, hT3⟩ : ∃ T, bs (WM.be 4 en) = T := ⟨_, rfl⟩
      have hT3s : T3.size = 4 := by rw [← hT3]; exact HT3.out
      have HET3 := Lib.hid hT3
      rw [hT3]
      clear hT3 HT3
      simp only []
      refine hK.out _ _ (HCELLS.out _ HM8.out) (fun hHeld => ?_)
      clear hK K
      try simp only [Act.put, List.setIfInBounds_toArray, List.set_cons_zero, List.set_cons_succ]
      refine wpAnyH_take (i := 15) (v := ?_) (by simp only [List.getElem?_toArray, List.getElem?_cons_succ, List.getElem?_cons_zero]; rfl) (by kernel_rfl) (by kernel_rfl) (by kernel_rfl) (by exact fun _ _ _ h => h) (Or.inl ⟨by rfl, ?_⟩) (by assumption) ?_
      rotate_left
      · (intro w hSw; (try clear hHeld); (try dsimp only at hSw); (try go_split_ands); go_simp)
        try with_reducible rfl
      try simp only [Act.put, List.setIfInBounds_toArray, List.set_cons_zero, List.set_cons_succ]
      refine wpAnyH_ready (rs := [19]) (by kernel_rfl) (by simp) ?_
      refine AllReadyH.cons (by simp only [List.getElem?_toArray, List.getElem?_cons_succ, List.getElem?_cons_zero]; rfl) (fun K hK => ?_) AllReadyH.nil
      go_simp
      refine (refNumber_any ln 1 _ (by omega) (by omega)).mono ?_
      rintro e w9 ⟨rfl, hb9⟩
      have HM9 := Lib.hid (HM8.out.below hb9); have HB9 := Lib.hid (below_then HB8.out hb9 (Nat.le_refl _)); have HA9 := Lib.hid (HA8.out.on hb9)
      clear hb9 HM8 HB8 HA8
      have HT4 := Lib.hid (be_bs 1 ln)
      obtain ⟨T4, hT4⟩ : ∃ T, bs (WM.be 1 ln) = T := ⟨_, rfl⟩
      have hT4s : T4.size = 1 := by rw [← hT4]; exact HT4.out
      have HET4 := Lib.hid hT4
      rw [hT4]
      clear hT4 HT4
      simp only []
      refine hK.out _ _ (HCELLS.out _ HM9.out) (fun hHeld => ?_)
      clear hK K
      try simp only [Act.put, List.setIfInBounds_toArray, List.set_cons_zero, List.set_cons_succ]
      refine wpAnyH_take (i := 20) (v := ?_) (by simp only [List.getElem?_toArray, List.getElem?_cons_succ, List.getElem?_cons_zero]; rfl) (by kernel_rfl) (by kernel_rfl) (by kernel_rfl) (by exact fun _ _ _ h => h) (Or.inl ⟨by rfl, ?_⟩) (by assumption) ?_
      rotate_left
      · (intro w hSw; (try clear hHeld); (try dsimp only at hSw); (try go_split_ands); go_simp)
        try with_reducible rfl
      try simp only [Act.put, List.setIfInBounds_toArray, List.set_cons_zero, List.set_cons_succ]
      refine wpAnyH_ready (rs := [23]) (by kernel_rfl) (by simp) ?_
      refine AllReadyH.cons (by simp only [List.getElem?_toArray, List.getElem?_cons_succ, List.getElem?_cons_zero]; rfl) (fun K hK => ?_) AllReadyH.nil
      go_simp
      refine (refText_any m.data _ (by omega)).mono ?_
      rintro e w10 ⟨rfl, hb10⟩
      have HM10 := Lib.hid (HM9.out.below hb10); have HB10 := Lib.hid (below_then HB9.out hb10 (Nat.le_refl _)); have HA10 := Lib.hid (HA9.out.on hb10)
      clear hb10 HM9 HB9 HA9
      obtain ⟨T5, hT5⟩ : ∃ T, bs (WM.text m.data.data.toList) = T := ⟨_, rfl⟩
      have hT5s : T5.size ≤ 3504 := by rw [← hT5, bs_size', text_len]; omega
      have hT5b : ∀ j : Nat, j ≤ 1000 → ¬ 9223372036854775807 < j + T5.size := fun j hj => by omega
      have hT5c : ∀ j i : Nat, j ≤ 1000 → i ≤ 1000 → ¬ 9223372036854775807 < j + T5.size + i := fun j i hj hi => by omega
      have HET5 := Lib.hid hT5
      rw [hT5]
      clear hT5
      simp only []
      refine hK.out _ _ (HCELLS.out _ HM10.out) (fun hHeld => ?_)
      clear hK K
      try simp only [Act.put, List.setIfInBounds_toArray, List.set_cons_zero, List.set_cons_succ]
      refine wpAnyH_take (i := 24) (v := ?_) (by simp only [List.getElem?_toArray, List.getElem?_cons_succ, List.getElem?_cons_zero]; rfl) (by kernel_rfl) (by kernel_rfl) (by kernel_rfl) (by exact fun _ _ _ h => h) (Or.inl ⟨by rfl, ?_⟩) (by assumption) ?_
      rotate_left
      · (intro w hSw; (try clear hHeld); (try dsimp only at hSw); (try go_split_ands); go_simp)
        try with_reducible rfl
      try simp only [Act.put, List.setIfInBounds_toArray, List.set_cons_zero, List.set_cons_succ]
      refine wpAnyH_ready (rs := [29]) (by kernel_rfl) (by simp) ?_
      refine AllReadyH.cons (by simp only [List.getElem?_toArray, List.getElem?_cons_succ, List.getElem?_cons_zero]; rfl) (fun K hK => ?_) AllReadyH.nil
      go_simp
      refine (refNumber_any m.ents.length 1 _ (by omega) (by omega)).mono ?_
      rintro e w11 ⟨rfl, hb11⟩
      have HM11 := Lib.hid (HM10.out.below hb11); have HB11 := Lib.hid (below_then HB10.out hb11 (Nat.le_refl _)); have HA11 := Lib.hid (HA10.out.on hb11)
      clear hb11 HM10 HB10 HA10
      have HT6 := Lib.hid (be_bs 1 m.ents.length)
      obtain ⟨T6, hT6⟩ : ∃ T, bs (WM.be 1 m.ents.length) = T := ⟨_, rfl⟩
      have hT6s : T6.size = 1 := by rw [← hT6]; exact HT6.out
      have HET6 := Lib.hid hT6
      rw [hT6]
      clear hT6 HT6
      simp only []
      refine hK.out _ _ (HCELLS.out _ HM11.out) (fun hHeld => ?_)
      clear hK K
      try simp only [Act.put, List.setIfInBounds_toArray, List.set_cons_zero, List.set_cons_succ]
      refine wpAnyH_take (i := 30) (v := ?_) (by simp only [List.getElem?_toArray, List.getElem?_cons_succ, List.getElem?_cons_zero]; rfl) (by kernel_rfl) (by kernel_rfl) (by kernel_rfl) (by exact fun _ _ _ h => h) (Or.inl ⟨by rfl, ?_⟩) (by assumption) ?_
      rotate_left
      · (intro w hSw; (try clear hHeld); (try dsimp only at hSw); (try go_split_ands); go_simp)
        try with_reducible rfl
      try simp only [Act.put, List.setIfInBounds_toArray, List.set_cons_zero, List.set_cons_succ]
      refine wpAnyH_take (i := 31) (v := ?_) (by simp only [List.getElem?_toArray, List.getElem?_cons_succ, List.getElem?_cons_zero]; rfl) (by kernel_rfl) (by kernel_rfl) (by kernel_rfl) (by exact fun _ _ _ h => h) (Or.inl ⟨by rfl, ?_⟩) (by assumption) ?_
      rotate_left
      · (intro w hSw; (try clear hHeld); (try dsimp only at hSw); (try go_split_ands); go_simp)
        try with_reducible rfl
      try simp only [Act.put, List.setIfInBounds_toArray, List.set_cons_zero, List.set_cons_succ]
      refine wpAnyH_done (by kernel_rfl) ?_ _
      clear hHeld
      have hs1 : S ++ T1 ++ T2 ++ T3 ++ T4 ++ T5 ++ T6 = bs (headForm m ++ esForm (m.ents.take 0)) := by
        rw [HS.out, ← HET1.out, ← HET2.out, ← HET3.out, ← HET4.out, ← HET5.out, ← HET6.out, ← HTN.out]
        simp only [bs_cat]
        congr 1
        simp only [headForm, midForm, esForm, HEN.out, HLN.out, Int.toNat_natCast, List.append_assoc, List.take_zero, List.flatMap_nil, List.append_nil]
      have HS1 := Lib.hid hs1
      have HH : Hid ((headForm m).length ≤ 4000) := Lib.hid (by simp only [headForm, List.length_append, WM.be_len, nsForm_len, midForm_len, text_len]; omega)
      clear hs1 HCELLS hT5b hT5c
      generalize S ++ T1 ++ T2 ++ T3 ++ T4 ++ T5 ++ T6 = s1 at *
      go_wp2_with fail
      clear HTN HEN HLN HET1 HET2 HET3 HET4 HET5 HET6 hT1s hT2s hT3s hT4s hT5s hT6s hw1 hw2 hw3 hw4 hS HS HZ hql
      go_loopw [3, 6] (fun a i wr => ∃ (k : Nat) (S : ByteArray), k ≤ m.ents.length ∧ i = .int .i64 k ∧ a = .string S ∧ Hid (S = bs (headForm m ++ esForm (m.ents.take k))) ∧ Hid (MB wr g m (.slice A m.ents.length c)) ∧ Hid (Below w.heap.size w wr) ∧ Hid (EArg wr wr.heap.size A m.ents)) (fun _ i _ => m.ents.length - (intOf i).toNat)
      case atStart => exact ⟨0, s1, by omega, rfl, rfl, HS1, HM11, HB11, HA11⟩
      case round =>
        clear HM11 HB11 HA11 HS1
        obtain ⟨k, S, hkl, rfl, rfl, HS, HMr, HBr, HAr⟩ := hrel
        have c9 := HMr.out.cell 9 _ rfl
        by_cases hlt : k < m.ents.length
        · obtain ⟨ad, rfl, hadb, h1, h2⟩ := HAr.out k hlt
          have hlt2 : (k : Int) < m.ents.length := by omega
          have hk0' : (0 : Int) ≤ k := by omega
          have hb := HOK.out.each m.ents[k] (List.getElem_mem hlt)
          have HSU := Lib.hid (esForm_snoc m.ents k hlt)
          have HZ : Hid (S.size ≤ 20000) := Lib.hid (form_some HOK.out HH.out HS.out)
          generalize m.ents[k] = en2 at *
          obtain ⟨et, ed⟩ := en2
          simp only [] at h1 h2 hb HSU
          obtain ⟨et0, et1, ed0⟩ := hb
          obtain ⟨n, rfl⟩ : ∃ n : Nat, et = n := ⟨et.toNat, by omega⟩
          have hw1 := wrap_u64_nat n (by omega)
          have hS : ∀ j : Nat, j ≤ 10000 → ¬ 9223372036854775807 < S.size + j := fun j hj => by have := HZ.out; omega
          go_wp2_with fail
          have HX4 : Hid (wr.drew.cell? ⟨g, 9, none⟩ = some (.slice (some ad) m.ents.length c) ∧ wr.drew.cell? (ad.add (k * 2)) = some (.int .i64 n) ∧ wr.drew.cell? ⟨(ad.add (k * 2)).block, (ad.add (k * 2)).off + 1, none⟩ = some (.string ed)) := Lib.hid ⟨c9, h1, h2⟩
          have HM4 := Lib.hid (MB.drew HMr.out); have HB4 := Lib.hid (Below.drew HBr.out); have HA4 : Hid (EArg wr.drew wr.drew.heap.size (some ad) m.ents) := HAr
          clear HMr HBr HAr
          refine wp_region_any (by kernel_rfl) ?_
          change wpAny _ _ _ _ _ _ _ wr.drew
          refine wpAny_of_held (S := (fun w' => w'.cell? ⟨g, 9, none⟩ = some (.slice (some ad) m.ents.length c) ∧ w'.cell? (ad.add (k * 2)) = some (.int .i64 n) ∧ w'.cell? ⟨(ad.add (k * 2)).block, (ad.add (k * 2)).off + 1, none⟩ = some (.string ed))) _ _ _ _ ?_
          have hHeld := HX4.out
          refine wpAnyH_take (i := 0) (v := ?_) (by simp only [List.getElem?_toArray, List.getElem?_cons_succ, List.getElem?_cons_zero]; rfl) (by kernel_rfl) (by kernel_rfl) (by kernel_rfl) (by exact fun _ _ _ h => h) (Or.inl ⟨by rfl, ?_⟩) (by assumption) ?_
          rotate_left
          · (intro w hSw; (try clear hHeld); (try dsimp only at hSw); (try go_split_ands); go_simp)
            try with_reducible rfl
          try simp only [Act.put, List.setIfInBounds_toArray, List.set_cons_zero, List.set_cons_succ]
          refine wpAnyH_take (i := 1) (v := ?_) (by simp only [List.getElem?_toArray, List.getElem?_cons_succ, List.getElem?_cons_zero]; rfl) (by kernel_rfl) (by kernel_rfl) (by kernel_rfl) (by exact fun _ _ _ h => h) (Or.inl ⟨by rfl, ?_⟩) (by assumption) ?_
          rotate_left
          · (intro w hSw; (try clear hHeld); (try dsimp only at hSw); (try go_split_ands); go_simp)
            try with_reducible rfl
          try simp only [Act.put, List.setIfInBounds_toArray, List.set_cons_zero, List.set_cons_succ]
          refine wpAnyH_take (i := 2) (v := ?_) (by simp only [List.getElem?_toArray, List.getElem?_cons_succ, List.getElem?_cons_zero]; rfl) (by kernel_rfl) (by kernel_rfl) (by kernel_rfl) (by exact fun _ _ _ h => h) (Or.inl ⟨by rfl, ?_⟩) (by assumption) ?_
          rotate_left
          · (intro w hSw; (try clear hHeld); (try dsimp only at hSw); (try go_split_ands); go_simp)
            try with_reducible rfl
          try simp only [Act.put, List.setIfInBounds_toArray, List.set_cons_zero, List.set_cons_succ]
          refine wpAnyH_take (i := 3) (v := ?_) (by simp only [List.getElem?_toArray, List.getElem?_cons_succ, List.getElem?_cons_zero]; rfl) (by kernel_rfl) (by kernel_rfl) (by kernel_rfl) (by exact fun _ _ _ h => h) (Or.inl ⟨by rfl, ?_⟩) (by assumption) ?_
          rotate_left
          · (intro w hSw; (try clear hHeld); (try dsimp only at hSw); (try go_split_ands); go_simp)
            try with_reducible rfl
          try simp only [Act.put, List.setIfInBounds_toArray, List.set_cons_zero, List.set_cons_succ]
          refine wpAnyH_take (i := 4) (v := ?_) (by simp only [List.getElem?_toArray, List.getElem?_cons_succ, List.getElem?_cons_zero]; rfl) (by kernel_rfl) (by kernel_rfl) (by kernel_rfl) (by exact fun _ _ _ h => h) (Or.inl ⟨by rfl, ?_⟩) (by assumption) ?_
          rotate_left
          · (intro w hSw; (try clear hHeld); (try dsimp only at hSw); (try go_split_ands); go_simp)
            try with_reducible rfl
          try simp only [Act.put, List.setIfInBounds_toArray, List.set_cons_zero, List.set_cons_succ]
          refine wpAnyH_take (i := 5) (v := ?_) (by simp only [List.getElem?_toArray, List.getElem?_cons_succ, List.getElem?_cons_zero]; rfl) (by kernel_rfl) (by kernel_rfl) (by kernel_rfl) (by exact fun _ _ _ h => h) (Or.inl ⟨by rfl, ?_⟩) (by assumption) ?_
          rotate_left
          · (intro w hSw; (try clear hHeld); (try dsimp only at hSw); (try go_split_ands); go_simp)
            try with_reducible rfl
          try simp only [Act.put, List.setIfInBounds_toArray, List.set_cons_zero, List.set_cons_succ]
          refine wpAnyH_take (i := 6) (v := ?_) (by simp only [List.getElem?_toArray, List.getElem?_cons_succ, List.getElem?_cons_zero]; rfl) (by kernel_rfl) (by kernel_rfl) (by kernel_rfl) (by exact fun _ _ _ h => h) (Or.inl ⟨by rfl, ?_⟩) (by assumption) ?_
          rotate_left
          · (intro w hSw; (try clear hHeld); (try dsimp only at hSw); (try go_split_ands); go_simp)
            try with_reducible rfl
          try simp only [Act.put, List.setIfInBounds_toArray, List.set_cons_zero, List.set_cons_succ]
          refine wpAnyH_take (i := 7) (v := ?_) (by simp only [List.getElem?_toArray, List.getElem?_cons_succ, List.getElem?_cons_zero]; rfl) (by kernel_rfl) (by kernel_rfl) (by kernel_rfl) (by exact fun _ _ _ h => h) (Or.inl ⟨by rfl, ?_⟩) (by assumption) ?_
          rotate_left
          · (intro w hSw; (try clear hHeld); (try dsimp only at hSw); (try go_split_ands); go_simp)
            try with_reducible rfl
          try simp only [Act.put, List.setIfInBounds_toArray, List.set_cons_zero, List.set_cons_succ]
          refine wpAnyH_take (i := 10) (v := ?_) (by simp only [List.getElem?_toArray, List.getElem?_cons_succ, List.getElem?_cons_zero]; rfl) (by kernel_rfl) (by kernel_rfl) (by kernel_rfl) (by exact fun _ _ _ h => h) (Or.inl ⟨by rfl, ?_⟩) (by assumption) ?_
          rotate_left
          · (intro w hSw; (try clear hHeld); (try dsimp only at hSw); (try go_split_ands); go_simp)
            try with_reducible rfl
          try simp only [Act.put, List.setIfInBounds_toArray, List.set_cons_zero, List.set_cons_succ]
          refine wpAnyH_take (i := 11) (v := ?_) (by simp only [List.getElem?_toArray, List.getElem?_cons_succ, List.getElem?_cons_zero]; rfl) (by kernel_rfl) (by kernel_rfl) (by kernel_rfl) (by exact fun _ _ _ h => h) (Or.inl ⟨by rfl, ?_⟩) (by assumption) ?_
          rotate_left
          · (intro w hSw; (try clear hHeld); (try dsimp only at hSw); (try go_split_ands); go_simp)
            try with_reducible rfl
          try simp only [Act.put, List.setIfInBounds_toArray, List.set_cons_zero, List.set_cons_succ]
          refine wpAnyH_take (i := 12) (v := ?_) (by simp only [List.getElem?_toArray, List.getElem?_cons_succ, List.getElem?_cons_zero]; rfl) (by kernel_rfl) (by kernel_rfl) (by kernel_rfl) (by exact fun _ _ _ h => h) (Or.inl ⟨by rfl, ?_⟩) (by assumption) ?_
          rotate_left
          · (intro w hSw; (try clear hHeld); (try dsimp only at hSw); (try go_split_ands); go_simp)
            try with_reducible rfl
          try simp only [Act.put, List.setIfInBounds_toArray, List.set_cons_zero, List.set_cons_succ]
          refine wpAnyH_take (i := 13) (v := ?_) (by simp only [List.getElem?_toArray, List.getElem?_cons_succ, List.getElem?_cons_zero]; rfl) (by kernel_rfl) (by kernel_rfl) (by kernel_rfl) (by exact fun _ _ _ h => h) (Or.inl ⟨by rfl, ?_⟩) (by assumption) ?_
          rotate_left
          · (intro w hSw; (try clear hHeld); (try dsimp only at hSw); (try go_split_ands); go_simp)
            try with_reducible rfl
          try simp only [Act.put, List.setIfInBounds_toArray, List.set_cons_zero, List.set_cons_succ]
          refine wpAnyH_take (i := 14) (v := ?_) (by simp only [List.getElem?_toArray, List.getElem?_cons_succ, List.getElem?_cons_zero]; rfl) (by kernel_rfl) (by kernel_rfl) (by kernel_rfl) (by exact fun _ _ _ h => h) (Or.inl ⟨by rfl, ?_⟩) (by assumption) ?_
          rotate_left
          · (intro w hSw; (try clear hHeld); (try dsimp only at hSw); (try go_split_ands); go_simp)
            try with_reducible rfl
          try simp only [Act.put, List.setIfInBounds_toArray, List.set_cons_zero, List.set_cons_succ]
          refine wpAnyH_take (i := 15) (v := ?_) (by simp only [List.getElem?_toArray, List.getElem?_cons_succ, List.getElem?_cons_zero]; rfl) (by kernel_rfl) (by kernel_rfl) (by kernel_rfl) (by exact fun _ _ _ h => h) (Or.inl ⟨by rfl, ?_⟩) (by assumption) ?_
          rotate_left
          · (intro w hSw; (try clear hHeld); (try dsimp only at hSw); (try go_split_ands); go_simp)
            try with_reducible rfl
          try simp only [Act.put, List.setIfInBounds_toArray, List.set_cons_zero, List.set_cons_succ]
          refine wpAnyH_ready (rs := [8]) (by kernel_rfl) (by simp) ?_
          refine AllReadyH.cons (by simp only [List.getElem?_toArray, List.getElem?_cons_succ, List.getElem?_cons_zero]; rfl) (fun K hK => ?_) AllReadyH.nil
          go_simp
          refine (refNumber_any n 8 _ (by omega) (by omega)).mono ?_
          rintro e w5 ⟨rfl, hb5⟩
          have HM5 := Lib.hid (HM4.out.below hb5); have HB5 := Lib.hid (below_then HB4.out hb5 (Nat.le_refl _)); have HA5 := Lib.hid (HA4.out.on hb5)
          have HX5 : Hid (w5.cell? ⟨g, 9, none⟩ = some (.slice (some ad) m.ents.length c) ∧ w5.cell? (ad.add (k * 2)) = some (.int .i64 n) ∧ w5.cell? ⟨(ad.add (k * 2)).block, (ad.add (k * 2)).off + 1, none⟩ = some (.string ed)) := Lib.hid ⟨cell_below HX4.out.1 hb5, cell_below HX4.out.2.1 hb5, cell_below HX4.out.2.2 hb5⟩
          clear hb5 HM4 HB4 HA4 HX4
          have HT1 := Lib.hid (be_bs 8 n)
          obtain ⟨T1, hT1⟩ : ∃ T, bs (WM.be 8 n) = T := ⟨_, rfl⟩
          have hT1s : T1.size = 8 := by rw [← hT1]; exact HT1.out
          have HET1 := Lib.hid hT1
          rw [hT1]
          clear hT1 HT1
          simp only []
          refine hK.out _ _ HX5.out (fun hHeld => ?_)
          clear hK K
          try simp only [Act.put, List.setIfInBounds_toArray, List.set_cons_zero, List.set_cons_succ]
          refine wpAnyH_take (i := 9) (v := ?_) (by simp only [List.getElem?_toArray, List.getElem?_cons_succ, List.getElem?_cons_zero]; rfl) (by kernel_rfl) (by kernel_rfl) (by kernel_rfl) (by exact fun _ _ _ h => h) (Or.inl ⟨by rfl, ?_⟩) (by assumption) ?_
          rotate_left
          · (intro w hSw; (try clear hHeld); (try dsimp only at hSw); (try go_split_ands); go_simp)
            try with_reducible rfl
          try simp only [Act.put, List.setIfInBounds_toArray, List.set_cons_zero, List.set_cons_succ]
          refine wpAnyH_ready (rs := [16]) (by kernel_rfl) (by simp) ?_
          refine AllReadyH.cons (by simp only [List.getElem?_toArray, List.getElem?_cons_succ, List.getElem?_cons_zero]; rfl) (fun K hK => ?_) AllReadyH.nil
          go_simp
          refine (refText_any ed _ (by omega)).mono ?_
          rintro e w6 ⟨rfl, hb6⟩
          have HM6 := Lib.hid (HM5.out.below hb6); have HB6 := Lib.hid (below_then HB5.out hb6 (Nat.le_refl _)); have HA6 := Lib.hid (HA5.out.on hb6)
          have HX6 : Hid (w6.cell? ⟨g, 9, none⟩ = some (.slice (some ad) m.ents.length c) ∧ w6.cell? (ad.add (k * 2)) = some (.int .i64 n) ∧ w6.cell? ⟨(ad.add (k * 2)).block, (ad.add (k * 2)).off + 1, none⟩ = some (.string ed)) := Lib.hid ⟨cell_below HX5.out.1 hb6, cell_below HX5.out.2.1 hb6, cell_below HX5.out.2.2 hb6⟩
          clear hb6 HM5 HB5 HA5 HX5
          obtain ⟨T2, hT2⟩ : ∃ T, bs (WM.text ed.data.toList) = T := ⟨_, rfl⟩
          have hT2s : T2.size ≤ 3504 := by rw [← hT2, bs_size', text_len]; omega
          have hS2 : ∀ j : Nat, j ≤ 10000 → ¬ 9223372036854775807 < S.size + j + T2.size := fun j hj => by have := HZ.out; omega
          have HET2 := Lib.hid hT2
          rw [hT2]
          clear hT2
          simp only []
          refine hK.out _ _ HX6.out (fun hHeld => ?_)
          clear hK K
          try simp only [Act.put, List.setIfInBounds_toArray, List.set_cons_zero, List.set_cons_succ]
          refine wpAnyH_take (i := 17) (v := ?_) (by simp only [List.getElem?_toArray, List.getElem?_cons_succ, List.getElem?_cons_zero]; rfl) (by kernel_rfl) (by kernel_rfl) (by kernel_rfl) (by exact fun _ _ _ h => h) (Or.inl ⟨by rfl, ?_⟩) (by assumption) ?_
          rotate_left
          · (intro w hSw; (try clear hHeld); (try dsimp only at hSw); (try go_split_ands); go_simp)
            try with_reducible rfl
          try simp only [Act.put, List.setIfInBounds_toArray, List.set_cons_zero, List.set_cons_succ]
          refine wpAnyH_take (i := 18) (v := ?_) (by simp only [List.getElem?_toArray, List.getElem?_cons_succ, List.getElem?_cons_zero]; rfl) (by kernel_rfl) (by kernel_rfl) (by kernel_rfl) (by exact fun _ _ _ h => h) (Or.inl ⟨by rfl, ?_⟩) (by assumption) ?_
          rotate_left
          · (intro w hSw; (try clear hHeld); (try dsimp only at hSw); (try go_split_ands); go_simp)
            try with_reducible rfl
          try simp only [Act.put, List.setIfInBounds_toArray, List.set_cons_zero, List.set_cons_succ]
          refine wpAnyH_done (by kernel_rfl) ?_ _
          clear hHeld
          go_wp2_with fail
          exact ⟨⟨k + 1, _, by omega, by go_num, rfl, Lib.hid (by rw [HS.out, ← HET1.out, ← HET2.out, bs_cat, bs_cat, HSU.out]; simp), HM6, HB6, HA6⟩, by simp [intOf]; omega⟩
        · have hge : ¬ ((k : Int) < m.ents.length) := by omega
          go_wp2_with fail
          go_ret
          refine ⟨?_, HBr.out⟩
          rw [HS.out, List.take_of_length_le (by omega)]
          rfl

end Go.Proofs.Ytbapifbahhjfgaa
