/- The reader of regular texts: the next byte, a byte taken, a byte of a class. -/
import Derived.Test.YtfhggnbnbopkkaaDoorPatLeaf
import Derived.WalkLawsBesides
namespace Go.Proofs.YtfhggnbnbopkkaaDoor
open Go.RowKit PM

abbrev TRg : TypeId := 112
abbrev TWr : TypeId := 108

/-- the panic at a place -/
def wrongP (a : Nat) : List PanicEntry := [{ v := .iface TWr (.int .i64 a), recovered := false }]

/-- a reader: its text, its place -/
def RG (w : World) (g : Nat) (s : ByteArray) (a : Nat) : Prop := w.heap[g]? = some (.cells #[.string s, .int .i64 a] TRg (0, 0))

theorem RG.c0 {w : World} {g : Nat} {s : ByteArray} {a : Nat} (h : RG w g s a) : w.cell? ⟨g, 0, none⟩ = some (.string s) := by rw [cell_of_row w g 0 _ _ _ h]; rfl
theorem RG.c1 {w : World} {g : Nat} {s : ByteArray} {a : Nat} (h : RG w g s a) : w.cell? ⟨g, 1, none⟩ = some (.int .i64 a) := by rw [cell_of_row w g 1 _ _ _ h]; rfl
theorem RG.f1 {w : World} {g : Nat} {s : ByteArray} {a : Nat} (h : RG w g s a) : w.frozen? ⟨g, 1, none⟩ = false := frozen_of_row w g 1 _ _ h
theorem RG.lt {w : World} {g : Nat} {s : ByteArray} {a : Nat} (h : RG w g s a) : g < w.heap.size := lt_of_block h
theorem RG.set {w : World} {g : Nat} {s : ByteArray} {a : Nat} (h : RG w g s a) (b : Nat) : RG (w.setCell ⟨g, 1, none⟩ (.int .i64 b)) g s b := by
  have := heap_setCell_same w g 1 _ _ (.int .i64 b) h
  unfold RG; rw [this]; rfl
theorem RG.on {w w' : World} {g : Nat} {s : ByteArray} {a : Nat} (h : RG w g s a) (hb : Below w.heap.size w w') : RG w' g s a := (hb.block g h.lt).trans h
theorem RG.setB (w : World) (g : Nat) (v : Value) : w.grownBy (w.setCell ⟨g, 1, none⟩ v) (some g) := ⟨rfl, rfl, rfl, by simp, fun k _ hk => Below.heap_setCell _ _ _ _ (fun e => hk (by rw [e]))⟩
theorem grown_trans {a b c : World} {r : Option Nat} (h : a.grownBy b r) (k : b.grownBy c r) : a.grownBy c r :=
  ⟨k.os.trans h.os, k.tape.trans h.tape, k.output.trans h.output, Nat.le_trans h.size k.size, fun x hx hne => (k.block x (Nat.lt_of_lt_of_le hx h.size) hne).trans (h.block x hx hne)⟩
theorem below_drew (B : Nat) (w : World) (n : Nat) : Below B w (w.drewN n) := ⟨rfl, rfl, rfl, Nat.le_refl _, fun _ _ => rfl⟩
theorem byte_at (s : ByteArray) (a : Nat) (c : UInt8) (h : s.data.toList[a]? = some c) : ∃ hl : a < s.size, s[a] = c := by
  have h1 := List.getElem?_eq_some_iff.1 h
  obtain ⟨hl, he⟩ := h1
  exact ⟨hl, he⟩
theorem byte_none (s : ByteArray) (a : Nat) (h : s.data.toList[a]? = none) : s.size ≤ a := by
  have := List.getElem?_eq_none_iff.1 h; exact this

set_option maxRecDepth 100000 in
theorem next_some (g : Nat) (s : ByteArray) (a : Nat) (c : UInt8) (w : World) (h : RG w g s a) (hc : s.data.toList[a]? = some c) (_hs : s.size ≤ 1000000) :
    Calls Tryd.prog 54 #[.pointer (some ⟨g, 0, none⟩)] w fun e w' => e = .returned (.tuple #[.int .u8 c.toNat, .bool true]) ∧ Below w.heap.size w w' := by
  obtain ⟨hl, rfl⟩ := byte_at s a c hc
  have c0 := h.c0; have c1 := h.c1
  have h1 : ((s.size : Int) ≤ a) = False := by simp; omega
  have h2 : (0 : Int) ≤ a := by omega
  have h3 : (a : Int) < s.size := by omega
  have h4 : decide ((s.size : Int) ≤ a) = false := by simp; omega
  clear h hc h1
  go_enter Tryd.func54, Tryd.ntmps54
  go_wp2_with fail
  go_quiet (fail)
  go_wp2_with fail
  go_quiet (fail)
  go_wp2_with fail
  go_ret2
  exact ⟨rfl, (below_drew _ _ _).trans (below_drew _ _ _)⟩

set_option maxRecDepth 100000 in
theorem next_none (g : Nat) (s : ByteArray) (a : Nat) (w : World) (h : RG w g s a) (hc : s.data.toList[a]? = none) (_hs : s.size ≤ 1000000) :
    Calls Tryd.prog 54 #[.pointer (some ⟨g, 0, none⟩)] w fun e w' => e = .returned (.tuple #[.int .u8 0, .bool false]) ∧ Below w.heap.size w w' := by
  have hl := byte_none s a hc
  have c0 := h.c0; have c1 := h.c1
  have h4 : decide ((s.size : Int) ≤ a) = true := by simp; omega
  clear h hc
  go_enter Tryd.func54, Tryd.ntmps54
  go_wp2_with fail
  go_quiet (fail)
  go_wp2_with fail
  go_ret2
  exact ⟨rfl, below_drew _ _ _⟩

/-- the byte that stands next and whether there is one -/
def nextV (s : ByteArray) (a : Nat) : Value := match s.data.toList[a]? with | some c => .tuple #[.int .u8 c.toNat, .bool true] | none => .tuple #[.int .u8 0, .bool false]
theorem next_any (g : Nat) (s : ByteArray) (a : Nat) (w : World) (h : RG w g s a) (hs : s.size ≤ 1000000) :
    Calls Tryd.prog 54 #[.pointer (some ⟨g, 0, none⟩)] w fun e w' => e = .returned (nextV s a) ∧ Below w.heap.size w w' := by
  unfold nextV
  cases hc : s.data.toList[a]? with
  | none => exact next_none g s a w h hc hs
  | some c => exact next_some g s a c w h hc hs

set_option maxRecDepth 100000 in
theorem take_some (g : Nat) (s : ByteArray) (a : Nat) (c : UInt8) (w : World) (h : RG w g s a) (hc : s.data.toList[a]? = some c) (hs : s.size ≤ 1000000) :
    Calls Tryd.prog 72 #[.pointer (some ⟨g, 0, none⟩)] w fun e w' => e = .returned (.int .u8 c.toNat) ∧ RG w' g s (a + 1) ∧ w.grownBy w' (some g) := by
  have hal : (a : Int) ≤ 1000000 := by obtain ⟨hl, _⟩ := byte_at s a c hc; omega
  have HN := Lib.hid (next_some g s a c w h hc hs); have H := Lib.hid h
  clear h hc
  go_enter Tryd.func72, Tryd.ntmps72
  go_wp2_with fail
  refine HN.out.mono ?_
  rintro e w1 ⟨rfl, hb⟩
  have h1 := H.out.on hb
  have H1 := Lib.hid h1; have HB := Lib.hid hb
  have c1 := h1.c1; have f1 := h1.f1
  clear hb h1 H HN
  go_wp2_with fail
  go_ret
  exact ⟨rfl, H1.out.set (a + 1), grown_trans (grown_below HB.out _) (RG.setB _ _ _)⟩

set_option maxRecDepth 100000 in
theorem take_none (g : Nat) (s : ByteArray) (a : Nat) (w : World) (h : RG w g s a) (hc : s.data.toList[a]? = none) (hs : s.size ≤ 1000000) :
    Calls Tryd.prog 72 #[.pointer (some ⟨g, 0, none⟩)] w fun e w' => e = .panicked (wrongP a) ∧ w.grownBy w' (some g) := by
  have HN := Lib.hid (next_none g s a w h hc hs); have H := Lib.hid h
  clear h hc
  go_enter Tryd.func72, Tryd.ntmps72
  go_wp2_with fail
  refine HN.out.mono ?_
  rintro e w1 ⟨rfl, hb⟩
  have h1 := H.out.on hb
  have HB := Lib.hid hb
  have c1 := h1.c1
  clear hb h1 H HN
  go_wp2_with fail
  exact ⟨rfl, rfl, grown_below HB.out _⟩

theorem beq_lit {x n : Nat} (k : Nat) (h : x = n) : ((x : Int) == (k : Int)) = Nat.beq n k := by
  subst h
  rw [Bool.eq_iff_iff, beq_iff_eq, Nat.beq_eq]; omega

theorem member_cases (s : List UInt8) (a : Nat) :
    (s[a]? = none ∧ member s a = .bad a) ∨ (∃ c, s[a]? = some c ∧ c.toNat = 92 ∧ s[a + 1]? = none ∧ member s a = .bad (a + 1)) ∨ (∃ c d, s[a]? = some c ∧ c.toNat = 92 ∧ s[a + 1]? = some d ∧ member s a = .ok d.toNat (a + 2)) ∨
    (∃ c, s[a]? = some c ∧ (c.toNat = 91 ∨ c.toNat = 93 ∨ c.toNat = 94 ∨ c.toNat = 45) ∧ member s a = .bad a) ∨
    (∃ c, s[a]? = some c ∧ c.toNat ≠ 92 ∧ c.toNat ≠ 91 ∧ c.toNat ≠ 93 ∧ c.toNat ≠ 94 ∧ c.toNat ≠ 45 ∧ member s a = .ok c.toNat (a + 1)) := by
  unfold member
  cases h : s[a]? with
  | none => exact .inl ⟨rfl, rfl⟩
  | some c =>
    right
    simp only []
    by_cases h1 : c.toNat = 92
    · rw [if_pos h1]
      cases h2 : s[a + 1]? with
      | none => exact .inl ⟨c, rfl, h1, rfl, rfl⟩
      | some d => exact .inr (.inl ⟨c, d, rfl, h1, rfl, rfl⟩)
    · rw [if_neg h1]
      right; right
      by_cases h2 : c.toNat = 91 ∨ c.toNat = 93 ∨ c.toNat = 94 ∨ c.toNat = 45
      · rw [if_pos h2]; exact .inl ⟨c, rfl, h2, rfl⟩
      · rw [if_neg h2]; exact .inr ⟨c, rfl, h1, fun h => h2 (.inl h), fun h => h2 (.inr (.inl h)), fun h => h2 (.inr (.inr (.inl h))), fun h => h2 (.inr (.inr (.inr h))), rfl⟩

/-- what a read byte of a class tells -/
def MemberIs (g : Nat) (s : ByteArray) (w : World) (r : R Nat) (e : Ending) (w' : World) : Prop :=
  match r with
  | .ok x n => e = .returned (.int .u8 x) ∧ RG w' g s n ∧ w.grownBy w' (some g)
  | .bad k => e = .panicked (wrongP k) ∧ w.grownBy w' (some g)

set_option maxRecDepth 100000 in
theorem member_any (g : Nat) (s : ByteArray) (a : Nat) (w : World) (h : RG w g s a) (hs : s.size ≤ 1000000) :
    Calls Tryd.prog 75 #[.pointer (some ⟨g, 0, none⟩)] w (MemberIs g s w (member s.data.toList a)) := by
  have H := Lib.hid h
  rcases member_cases s.data.toList a with ⟨h1, hm⟩ | ⟨c, h1, h2, h3, hm⟩ | ⟨c, d, h1, h2, h3, hm⟩ | ⟨c, h1, h2, hm⟩ | ⟨c, h1, h2, h3, h4, h5, h6, hm⟩
  · rw [hm]
    have HN := Lib.hid (take_none g s a w h h1 hs)
    clear h h1 hm
    go_enter Tryd.func75, Tryd.ntmps75
    go_wp2_with fail
    refine HN.out.mono ?_
    rintro e w1 ⟨rfl, hb⟩
    go_wp2_with fail
    exact ⟨rfl, rfl, hb⟩
  · rw [hm]
    have HN := Lib.hid (take_some g s a c w h h1 hs); have H3 := Lib.hid h3
    have hi : ((c.toNat : Int) == 92) = true := by rw [h2]; rfl
    clear h h1 hm h2 h3
    go_enter Tryd.func75, Tryd.ntmps75
    go_wp2_with fail
    refine HN.out.mono ?_
    rintro e w1 ⟨rfl, hr, hb⟩
    have HR := Lib.hid hr; have HB := Lib.hid hb
    clear hr hb
    go_wp2_with fail
    refine (take_none g s (a + 1) w1 HR.out H3.out hs).mono ?_
    rintro e w2 ⟨rfl, hb⟩
    have HB2 := Lib.hid hb
    clear hb
    go_wp2_with fail
    exact ⟨rfl, rfl, grown_trans HB.out HB2.out⟩
  · rw [hm]
    have HN := Lib.hid (take_some g s a c w h h1 hs); have H3 := Lib.hid h3
    have hi : ((c.toNat : Int) == 92) = true := by rw [h2]; rfl
    clear h h1 hm h2 h3
    go_enter Tryd.func75, Tryd.ntmps75
    go_wp2_with fail
    refine HN.out.mono ?_
    rintro e w1 ⟨rfl, hr, hb⟩
    have HR := Lib.hid hr; have HB := Lib.hid hb
    clear hr hb
    go_wp2_with fail
    refine (take_some g s (a + 1) d w1 HR.out H3.out hs).mono ?_
    rintro e w2 ⟨rfl, hr, hb⟩
    have HR2 := Lib.hid hr; have HB2 := Lib.hid hb
    clear hr hb
    go_wp2_with fail
    go_ret
    exact ⟨rfl, HR2.out, grown_trans HB.out HB2.out⟩
  · rw [hm]
    have HN := Lib.hid (take_some g s a c w h h1 hs)
    have hal : (a : Int) ≤ 1000000 := by obtain ⟨hl, _⟩ := byte_at s a c h1; omega
    have hi : ((c.toNat : Int) == 92) = false := by rw [beq_eq_false_iff_ne]; omega
    have hi2 : c.toNat = 91 ∨ c.toNat = 93 ∨ c.toNat = 94 ∨ c.toNat = 45 := h2
    clear h h1 hm
    rcases h2 with h2 | h2 | h2 | h2
    all_goals
      have i1 := beq_lit 91 h2
      first | (have j1 : ((c.toNat : Int) == 91) = true := i1) | (have j1 : ((c.toNat : Int) == 91) = false := i1)
      clear i1
      have i2 := beq_lit 93 h2
      first | (have j2 : ((c.toNat : Int) == 93) = true := i2) | (have j2 : ((c.toNat : Int) == 93) = false := i2)
      clear i2
      have i3 := beq_lit 94 h2
      first | (have j3 : ((c.toNat : Int) == 94) = true := i3) | (have j3 : ((c.toNat : Int) == 94) = false := i3)
      clear i3
      have i4 := beq_lit 45 h2
      first | (have j4 : ((c.toNat : Int) == 45) = true := i4) | (have j4 : ((c.toNat : Int) == 45) = false := i4)
      clear i4
      clear h2 hi2
      go_enter Tryd.func75, Tryd.ntmps75
      go_wp2_with fail
      refine HN.out.mono ?_
      rintro e w1 ⟨rfl, hr, hb⟩
      have c1 := hr.c1; have HB := Lib.hid hb
      clear hr hb
      go_wp2_with fail
      exact ⟨rfl, by simp [wrongP], HB.out⟩
  · rw [hm]
    have HN := Lib.hid (take_some g s a c w h h1 hs)
    have hi : ((c.toNat : Int) == 92) = false := by rw [beq_eq_false_iff_ne]; omega
    have j1 : ((c.toNat : Int) == 91) = false := by rw [beq_eq_false_iff_ne]; omega
    have j2 : ((c.toNat : Int) == 93) = false := by rw [beq_eq_false_iff_ne]; omega
    have j3 : ((c.toNat : Int) == 94) = false := by rw [beq_eq_false_iff_ne]; omega
    have j4 : ((c.toNat : Int) == 45) = false := by rw [beq_eq_false_iff_ne]; omega
    clear h h1 hm h2 h3 h4 h5 h6
    go_enter Tryd.func75, Tryd.ntmps75
    go_wp2_with fail
    refine HN.out.mono ?_
    rintro e w1 ⟨rfl, hr, hb⟩
    have HR := Lib.hid hr; have HB := Lib.hid hb
    clear hr hb
    go_wp2_with fail
    go_ret
    exact ⟨rfl, HR.out, HB.out⟩
end Go.Proofs.YtfhggnbnbopkkaaDoor
