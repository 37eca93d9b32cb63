/- Reading a text in quotes: the tests of its bytes, its cases, what it holds. -/
import Derived.Test.YtlfhjmdbkifciaaPatQuote
namespace Go.Proofs.Ytlfhjmdbkifciaa
open Go.RowKit PM

abbrev TLg : TypeId := 88
abbrev TI : TypeId := 3
abbrev TIs : TypeId := 72
def longP (a : Nat) : List PanicEntry := [{ v := .iface TLg (.int .i64 a), recovered := false }]

theorem index_digits (c : UInt8) : Lib.indexByte digits.data.toList c = if undig c.toNat < 16 then (undig c.toNat : Int) else -1 := by
  have := all_256 (p := fun n => Lib.indexByte [48, 49, 50, 51, 52, 53, 54, 55, 56, 57, 97, 98, 99, 100, 101, 102] (UInt8.ofNat n) = if undig n < 16 then (undig n : Int) else -1) (by decide +kernel) c
  rwa [UInt8.ofNat_toNat] at this
/-- the letters behind a backslash -/
def ok4 (c : Nat) : Bool := c == 34 || c == 92 || c == 110 || c == 114 || c == 116 || c == 120
theorem index_letters (c : UInt8) : decide (0 ≤ Lib.indexByte [34, 92, 110, 114, 116, 120] c) = ok4 c.toNat := by
  have := all_256 (p := fun n => decide (0 ≤ Lib.indexByte [34, 92, 110, 114, 116, 120] (UInt8.ofNat n)) = ok4 n) (by decide +kernel) c
  rwa [UInt8.ofNat_toNat] at this
def ok3 (c : Nat) : Bool := plain c || c == 34 || c == 92

theorem toU8 (c : UInt8) : ((c.toNat : Int).toNat).toUInt8 = c := by simp

set_option maxRecDepth 100000 in
theorem ok2_any (c : UInt8) (w : World) : Calls Try.prog 59 #[.int .u8 c.toNat] w fun e w' => e = .returned (.bool (c.toNat == 34)) ∧ Below w.heap.size w w' := by
  go_enter Try.func59, Try.ntmps59
  go_wp2_with fail
  go_ret
  exact ⟨ret_bool (by rw [Bool.eq_iff_iff]; simp; omega), Below.refl _ _⟩

set_option maxRecDepth 100000 in
theorem ok3_any (c : UInt8) (w : World) : Calls Try.prog 60 #[.int .u8 c.toNat] w fun e w' => e = .returned (.bool (ok3 c.toNat)) ∧ Below w.heap.size w w' := by
  go_enter Try.func60, Try.ntmps60
  go_wp2_with fail
  refine (plain_any c.toNat w).mono ?_
  rintro e w1 ⟨rfl, rfl⟩
  cases hp : plain c.toNat
  all_goals
    have HP := Lib.hid hp
    clear hp
    go_wp2_with fail
    all_goals
      go_ret
      exact ⟨ret_bool (by rw [Bool.eq_iff_iff]; simp [ok3, HP.out]; try omega), Below.refl _ _⟩

set_option maxRecDepth 100000 in
theorem ok4_any (c : UInt8) (w : World) : Calls Try.prog 62 #[.int .u8 c.toNat] w fun e w' => e = .returned (.bool (ok4 c.toNat)) ∧ Below w.heap.size w w' := by
  have HI := Lib.hid (index_letters c)
  go_enter Try.func62, Try.ntmps62
  go_wp2_with fail
  refine (Try.strings_IndexByte _ c.toNat w).mono ?_
  rintro e w1 ⟨rfl, rfl⟩
  rw [toU8]
  have hi : decide (0 ≤ Lib.indexByte (ByteArray.mk #[34, 92, 110, 114, 116, 120]).data.toList c) = ok4 c.toNat := HI.out
  generalize Lib.indexByte (ByteArray.mk #[34, 92, 110, 114, 116, 120]).data.toList c = x at *
  have HX := Lib.hid hi
  clear hi
  go_wp2_with fail
  go_ret
  exact ⟨ret_bool HX.out, Below.refl _ _⟩

set_option maxRecDepth 100000 in
theorem ok5_any (c : UInt8) (w : World) : Calls Try.prog 64 #[.int .u8 c.toNat] w fun e w' => e = .returned (.bool (okhi c.toNat)) ∧ Below w.heap.size w w' := by
  go_enter Try.func64, Try.ntmps64
  go_wp2_with fail
  all_goals
    go_ret
    exact ⟨ret_bool (by rw [Bool.eq_iff_iff]; simp [okhi]; try omega), Below.refl _ _⟩

theorem or_hex (h u : Nat) (hh : h < 16) (hu : u < 16) : bits .or .i64 ((h : Int) * 16) (u : Int) = ((16 * h + u : Nat) : Int) := by
  have e : ∀ a : Nat, a < 16 → ∀ b : Nat, b < 16 → bits .or .i64 ((a : Int) * 16) (b : Int) = ((16 * a + b : Nat) : Int) := by decide +kernel
  exact e h hh u hu

set_option maxRecDepth 100000 in
theorem ok6_any (p h : Nat) (c : UInt8) (w : World) (hc : w.cell? ⟨p, 0, none⟩ = some (.int .i64 h)) (hh : h < 16) :
    Calls Try.prog 65 #[.int .u8 c.toNat, .pointer (some ⟨p, 0, none⟩)] w fun e w' => e = .returned (.bool (oklo h c.toNat)) ∧ Below w.heap.size w w' := by
  have HI := Lib.hid (index_digits c)
  go_enter Try.func65, Try.ntmps65
  go_wp2_with fail
  refine (Try.strings_IndexByte _ c.toNat w).mono ?_
  rintro e w1 ⟨rfl, rfl⟩
  rw [toU8]
  have hi : Lib.indexByte (ByteArray.mk #[48, 49, 50, 51, 52, 53, 54, 55, 56, 57, 97, 98, 99, 100, 101, 102]).data.toList c = if undig c.toNat < 16 then (undig c.toNat : Int) else -1 := HI.out
  rw [hi]
  clear hi
  by_cases hu : undig c.toNat < 16
  · rw [if_pos hu]
    have hl : (h : Int) < 16 := by omega
    have hu2 : (undig c.toNat : Int) < 16 := by omega
    have e6 : oklo h c.toNat = (!plain (16 * h + undig c.toNat) && short (16 * h + undig c.toNat) == 0) := by simp [oklo, hu]
    have hor := or_hex h (undig c.toNat) hh hu
    have HE := Lib.hid e6
    have hx : 16 * h + undig c.toNat < 256 := by omega
    clear hu e6
    generalize 16 * h + undig c.toNat = x at *
    generalize undig c.toNat = u at *
    have hx2 : (x : Int) < 256 := by omega
    have hx0 : (0 : Int) ≤ x := by omega
    clear hx
    go_wp2_with fail
    refine (short_any x w1).mono ?_
    rintro e w2 ⟨rfl, rfl⟩
    go_wp2_with fail
    refine (plain_any x w1).mono ?_
    rintro e w2 ⟨rfl, rfl⟩
    cases hp : plain x
    · have HP := Lib.hid hp
      clear hp
      go_wp2_with fail
      go_ret
      exact ⟨ret_bool (by rw [HE.out, HP.out, Bool.eq_iff_iff]; simp), Below.refl _ _⟩
    · have HP := Lib.hid hp
      clear hp
      go_wp2_with fail
      go_ret
      exact ⟨ret_bool (by rw [HE.out, HP.out]; simp), Below.refl _ _⟩
  · rw [if_neg hu]
    have HE : Hid (oklo h c.toNat = false) := Lib.hid (by simp [oklo, hu])
    clear hu
    go_wp2_with fail
    go_ret
    exact ⟨ret_bool HE.out.symm, Below.refl _ _⟩

theorem drop_some {s : List UInt8} {a : Nat} {c : UInt8} (h : s[a]? = some c) : s.drop a = c :: s.drop (a + 1) := by
  obtain ⟨hl, he⟩ := List.getElem?_eq_some_iff.1 h
  rw [← he]; exact List.drop_eq_getElem_cons hl
theorem drop_none {s : List UInt8} {a : Nat} (h : s[a]? = none) : s.drop a = [] := List.drop_eq_nil_of_le (List.getElem?_eq_none_iff.1 h)

/-- the sign at a place, case by case -/
theorem st_none {s : List UInt8} {a : Nat} (h : s[a]? = none) : PM.step (s.drop a) = .bad 0 := by rw [drop_none h]; rfl
theorem st_plain {s : List UInt8} {a : Nat} {c : UInt8} (h : s[a]? = some c) (hp : plain c.toNat = true) : PM.step (s.drop a) = .ok c 1 := by rw [drop_some h]; simp [PM.step, hp]
theorem st_bad0 {s : List UInt8} {a : Nat} {c : UInt8} (h : s[a]? = some c) (hp : plain c.toNat = false) (h2 : c.toNat ≠ 92) : PM.step (s.drop a) = .bad 0 := by rw [drop_some h]; simp [PM.step, hp, h2]
theorem st_1n {s : List UInt8} {a : Nat} (h : s[a]? = some 92) (h1 : s[a + 1]? = none) : PM.step (s.drop a) = .bad 1 := by rw [drop_some h, drop_none h1]; rfl
theorem st_1 {s : List UInt8} {a : Nat} {x : UInt8} (h : s[a]? = some 92) (h1 : s[a + 1]? = some x) (hx : ok4 x.toNat = false) : PM.step (s.drop a) = .bad 1 := by
  simp only [ok4, Bool.or_eq_false_iff, beq_eq_false_iff_ne] at hx
  obtain ⟨⟨⟨⟨⟨a1, a2⟩, a3⟩, a4⟩, a5⟩, a6⟩ := hx
  rw [drop_some h, drop_some h1]
  simp [PM.step, plain_92, a1, a2, a3, a4, a5, a6]
theorem st_self {s : List UInt8} {a : Nat} {x : UInt8} (h : s[a]? = some 92) (h1 : s[a + 1]? = some x) (hx : x.toNat = 34 ∨ x.toNat = 92) : PM.step (s.drop a) = .ok x 2 := by
  rw [drop_some h, drop_some h1]; simp [PM.step, plain_92, hx]
theorem st_n {s : List UInt8} {a : Nat} (h : s[a]? = some 92) (h1 : s[a + 1]? = some 110) : PM.step (s.drop a) = .ok 10 2 := by rw [drop_some h, drop_some h1]; rfl
theorem st_r {s : List UInt8} {a : Nat} (h : s[a]? = some 92) (h1 : s[a + 1]? = some 114) : PM.step (s.drop a) = .ok 13 2 := by rw [drop_some h, drop_some h1]; rfl
theorem st_t {s : List UInt8} {a : Nat} (h : s[a]? = some 92) (h1 : s[a + 1]? = some 116) : PM.step (s.drop a) = .ok 9 2 := by rw [drop_some h, drop_some h1]; rfl
theorem st_2n {s : List UInt8} {a : Nat} (h : s[a]? = some 92) (h1 : s[a + 1]? = some 120) (h2 : s[a + 1 + 1]? = none) : PM.step (s.drop a) = .bad 2 := by rw [drop_some h, drop_some h1, drop_none h2]; rfl
theorem st_2 {s : List UInt8} {a : Nat} {y : UInt8} (h : s[a]? = some 92) (h1 : s[a + 1]? = some 120) (h2 : s[a + 1 + 1]? = some y) (hy : okhi y.toNat = false) : PM.step (s.drop a) = .bad 2 := by
  rw [drop_some h, drop_some h1, drop_some h2]; simp [PM.step, plain_92, hy]
theorem st_3n {s : List UInt8} {a : Nat} {y : UInt8} (h : s[a]? = some 92) (h1 : s[a + 1]? = some 120) (h2 : s[a + 1 + 1]? = some y) (hy : okhi y.toNat = true) (h3 : s[a + 1 + 1 + 1]? = none) : PM.step (s.drop a) = .bad 3 := by
  rw [drop_some h, drop_some h1, drop_some h2, drop_none h3]; simp [PM.step, plain_92, hy]
theorem st_3 {s : List UInt8} {a : Nat} {y z : UInt8} (h : s[a]? = some 92) (h1 : s[a + 1]? = some 120) (h2 : s[a + 1 + 1]? = some y) (hy : okhi y.toNat = true) (h3 : s[a + 1 + 1 + 1]? = some z) (hz : oklo (undig y.toNat) z.toNat = false) : PM.step (s.drop a) = .bad 3 := by
  rw [drop_some h, drop_some h1, drop_some h2, drop_some h3]; simp [PM.step, plain_92, hy, hz]
theorem st_4 {s : List UInt8} {a : Nat} {y z : UInt8} (h : s[a]? = some 92) (h1 : s[a + 1]? = some 120) (h2 : s[a + 1 + 1]? = some y) (hy : okhi y.toNat = true) (h3 : s[a + 1 + 1 + 1]? = some z) (hz : oklo (undig y.toNat) z.toNat = true) :
    PM.step (s.drop a) = .ok (UInt8.ofNat (16 * undig y.toNat + undig z.toNat)) 4 := by
  rw [drop_some h, drop_some h1, drop_some h2, drop_some h3]; simp [PM.step, plain_92, hy, hz]
theorem okhi_lt {y : UInt8} (h : okhi y.toNat = true) : undig y.toNat < 16 := all_256 (p := fun n => okhi n = true → undig n < 16) (by decide +kernel) y h
theorem oklo_lt {h : Nat} {z : UInt8} (hz : oklo h z.toNat = true) : undig z.toNat < 16 := by
  unfold oklo at hz; rw [Bool.and_eq_true, decide_eq_true_iff] at hz; exact hz.1

def intC (l : List Nat) : List Value := l.map fun n : Nat => Value.int .i64 n
theorem intC_len (l : List Nat) : (intC l).length = l.length := by simp [intC]
theorem info_int : (Try.prog.info? TI).map (fun i => (i.zero, i.size, i.bytes)) = some (some (.int .i64 0), 1, 8) := by kernel_rfl

/-- what is held while a text in quotes is read: the boxes, what came out, the places -/
structure QS (w : World) (s : ByteArray) (wr : World) (a : Nat) (v9 : Value) (out : List UInt8) (v10 : Value) (pl : List Nat) : Prop where
  sb : SB wr w.heap.size s a
  out : wr.ownsRow (w.heap.size + 2) TU8 1 v9 out.length (Lib.byteCells out)
  pl : wr.ownsRow (w.heap.size + 2) TI 1 v10 pl.length (intC pl)
  up : Below w.heap.size w wr

theorem own_apart {w : World} {B : Nat} {e1 e2 : TypeId} {v1 v2 : Value} {n1 n2 : Nat} {x1 x2 : List Value} (h1 : w.ownsRow B e1 1 v1 n1 x1) (h2 : w.ownsRow B e2 1 v2 n2 x2) (hne : e1 ≠ e2) : v1.ownBlock = none ∨ v1.ownBlock ≠ v2.ownBlock := by
  rcases h1.2 with ⟨rfl, _⟩ | ⟨g, cap, cur, rfl, _, hg, _⟩
  · exact .inl rfl
  · rcases h2.2 with ⟨rfl, _⟩ | ⟨g2, cap2, cur2, rfl, _, hg2, _⟩
    · exact .inr (by simp [Value.ownBlock])
    · refine .inr fun e => ?_
      simp only [Value.ownBlock, Option.some.injEq] at e
      subst e
      rw [hg] at hg2
      simp at hg2
      exact hne hg2.2

theorem QS.on {w : World} {s : ByteArray} {wr w' : World} {a : Nat} {v9 v10 : Value} {out : List UInt8} {pl : List Nat} (h : QS w s wr a v9 out v10 pl) (hb : Below wr.heap.size wr w') : QS w s w' a v9 out v10 pl :=
  ⟨h.sb.on hb, h.out.kept (grown_below hb none) (Classical.em _), h.pl.kept (grown_below hb none) (Classical.em _), below_then h.up hb (Nat.le_refl _)⟩
theorem QS.go {w : World} {s : ByteArray} {wr w' : World} {a b : Nat} {v9 v10 : Value} {out : List UInt8} {pl : List Nat} (h : QS w s wr a v9 out v10 pl) (hs : SB w' w.heap.size s b) (hg : wr.grownBy w' (some (w.heap.size + 1))) : QS w s w' b v9 out v10 pl :=
  ⟨hs, h.out.kept hg (by cases hv : v9.ownBlock with
      | none => exact .inl rfl
      | some k => exact .inr fun e => by have := (h.out.lt k hv).1; cases e; omega), h.pl.kept hg (by cases hv : v10.ownBlock with
      | none => exact .inl rfl
      | some k => exact .inr fun e => by have := (h.pl.lt k hv).1; cases e; omega),
    ⟨hg.os.trans h.up.os, hg.tape.trans h.up.tape, hg.output.trans h.up.output, Nat.le_trans h.up.size hg.size, fun k hk => (hg.block k (by have := h.up.size; omega) (by simp; omega)).trans (h.up.block k hk)⟩⟩
theorem QS.sz {w : World} {s : ByteArray} {wr : World} {a : Nat} {v9 v10 : Value} {out : List UInt8} {pl : List Nat} (h : QS w s wr a v9 out v10 pl) : w.heap.size + 2 ≤ wr.heap.size := lt_of_block h.sb.2
theorem QS.appOut {w : World} {s : ByteArray} {wr w' : World} {a : Nat} {v9 v9' v10 : Value} {out : List UInt8} {pl : List Nat} {c : UInt8} (h : QS w s wr a v9 out v10 pl) (hown : w'.ownsRow (w.heap.size + 2) TU8 1 v9' (out.length + 1) (Lib.byteCells out ++ [.int .u8 c.toNat])) (hg : wr.grownBy w' v9.ownBlock) :
    QS w s w' a v9' (out ++ [c]) v10 pl := by
  have hB : ∀ k, v9.ownBlock = some k → w.heap.size + 2 ≤ k := fun k e => (h.out.lt k e).1
  have hu := h.up.size
  refine ⟨⟨(hg.block _ (lt_of_block h.sb.1) (fun e => by have := hB _ e.symm; omega)).trans h.sb.1, (hg.block _ (lt_of_block h.sb.2) (fun e => by have := hB _ e.symm; omega)).trans h.sb.2⟩, ?_, h.pl.kept hg (own_apart h.pl h.out (by decide)),
    ⟨hg.os.trans h.up.os, hg.tape.trans h.up.tape, hg.output.trans h.up.output, Nat.le_trans h.up.size hg.size, fun k hk => (hg.block k (by omega) (fun e => by have := hB _ e.symm; omega)).trans (h.up.block k hk)⟩⟩
  rw [List.length_append, List.length_singleton, Lib.byteCells_append]; exact hown
theorem QS.appPl {w : World} {s : ByteArray} {wr w' : World} {a : Nat} {v9 v10 v10' : Value} {out : List UInt8} {pl : List Nat} {n : Nat} (h : QS w s wr a v9 out v10 pl) (hown : w'.ownsRow (w.heap.size + 2) TI 1 v10' (pl.length + 1) (intC pl ++ [.int .i64 n])) (hg : wr.grownBy w' v10.ownBlock) :
    QS w s w' a v9 out v10' (pl ++ [n]) := by
  have hB : ∀ k, v10.ownBlock = some k → w.heap.size + 2 ≤ k := fun k e => (h.pl.lt k e).1
  have hu := h.up.size
  refine ⟨⟨(hg.block _ (lt_of_block h.sb.1) (fun e => by have := hB _ e.symm; omega)).trans h.sb.1, (hg.block _ (lt_of_block h.sb.2) (fun e => by have := hB _ e.symm; omega)).trans h.sb.2⟩, h.out.kept hg (own_apart h.out h.pl (by decide)), ?_,
    ⟨hg.os.trans h.up.os, hg.tape.trans h.up.tape, hg.output.trans h.up.output, Nat.le_trans h.up.size hg.size, fun k hk => (hg.block k (by omega) (fun e => by have := hB _ e.symm; omega)).trans (h.up.block k hk)⟩⟩
  rw [List.length_append, List.length_singleton]
  simpa [intC] using hown

theorem own_form {w : World} {B : Nat} {e : TypeId} {v : Value} {n : Nat} {xs : List Value} (h : w.ownsRow B e 1 v n xs) : ∃ ao cap, v = .slice ao n cap := by
  rcases h.2 with ⟨rfl, rfl⟩ | ⟨g, cap, cur, rfl, _⟩
  · exact ⟨none, 0, rfl⟩
  · exact ⟨_, _, rfl⟩

/-- what scan tells -/
def ScanIs (w : World) (r : Sc) (e : Ending) (w' : World) : Prop :=
  match r with
  | .ok out pl => ∃ v, e = .returned (.tuple #[.string (bs out), v]) ∧ w'.ownsRow w.heap.size TI 1 v pl.length (intC pl) ∧ Below w.heap.size w w'
  | .wrong k => e = .panicked (wrongP k) ∧ Below w.heap.size w w'
  | .long k => e = .panicked (longP k) ∧ Below w.heap.size w w'
theorem scanIs_wrong {w w' : World} {k : Nat} {e : Ending} (h : e = .panicked (wrongP k)) (h2 : Below w.heap.size w w') : ScanIs w (.wrong k) e w' := ⟨h, h2⟩
theorem scanIs_long {w w' : World} {k : Nat} {e : Ending} (h : e = .panicked (longP k)) (h2 : Below w.heap.size w w') : ScanIs w (.long k) e w' := ⟨h, h2⟩

/-- 'string(out)' -/
theorem conv_own {w : World} {B : Nat} {v : Value} {l : List UInt8} (h : w.ownsRow B TU8 1 v l.length (Lib.byteCells l)) : (convert 42 9 v).run Try.prog w = .ok (.string (bs l)) w := by
  rcases h.2 with ⟨rfl, h0⟩ | ⟨g, cap, cur, rfl, _, hg, hn, _, hsz, htk⟩
  · obtain rfl : l = [] := List.length_eq_zero_iff.1 h0
    exact run_convert_bytes_nil w _ _ Try.underlying42 Try.underlying5 0 0 _ Try.underlying9
  · have hr : BRow w g l := ⟨cur, (0, 0), hg, .inl (Nat.le_refl _), by omega, fun i hi => by
      have : (Lib.byteCells l)[i]? = some (.int .u8 (l.getD i 0).toNat) := by simp [Lib.byteCells, List.getD, hi]
      rw [← htk, List.getElem?_take] at this
      split at this
      · simpa using this
      · cases this⟩
    exact hr.str (P := Try.prog) _ _ _ Try.underlying42 Try.underlying5 Try.underlying9

end Go.Proofs.Ytlfhjmdbkifciaa
