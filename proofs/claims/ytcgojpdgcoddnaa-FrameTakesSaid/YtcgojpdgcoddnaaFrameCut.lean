/- The law FrameCut. -/
import Derived.Test.YtcgojpdgcoddnaaFrameCutPut
import Derived.Test.YtcgojpdgcoddnaaStrArg
namespace Go.Proofs.Ytcgojpdgcoddnaa
open Go.ChangeShapes Go.WideShapes Go.RowKit

/-- texts that came in, with the room behind them -/
theorem open_textsC {H : Type} {enc : TypeId × Value → H} {P : Program} {W : World} {t e : TypeId} {v : Value} {d : DataW H} {p : List MemPlace} {r : Reach} {b0 : Nat}
    (ht : P.underlying t = some (.slice e)) (he : P.underlying e = some .string) (hc : P.cellsOf e = 1) (hval : Value.okWide P W r b0 t v) (k : DataW.Trod enc P W 0 (fun _ => true) true t v d p) :
    ∃ A c ss, v = .slice A ss.length c ∧ SArg W W.heap.size A ss ∧ ss.length ≤ c ∧ (∀ s ∈ ss, s.size ≤ 9223372036854775807) ∧ ss.length ≤ 9223372036854775807 := by
  have hcap : ∀ a0 len0 cap0, v = .slice a0 len0 cap0 → len0 ≤ cap0 := by
    rintro a0 len0 cap0 rfl
    obtain ⟨fuel, hf⟩ := k
    rcases open_strings ht he hc hf with ⟨hcs, _⟩ | ⟨a, len, cap, ss, hcs, _, hl, _⟩
    · simp [Value.cells] at hcs; omega
    · simp [Value.cells] at hcs; omega
  obtain ⟨A, c, ss, rfl, h1, h2, h3, h4⟩ := open_texts ht he hc hval k
  exact ⟨A, c, ss, rfl, h1, hcap _ _ _ rfl, h3, h4⟩

theorem sarg_wide {w : World} {B B' : Nat} {A : Option Addr} {ss : List ByteArray} (h : SArg w B A ss) (hB : B ≤ B') : SArg w B' A ss :=
  fun hp => by obtain ⟨ad, e, hl, hc⟩ := h hp; exact ⟨ad, e, Nat.lt_of_lt_of_le hl hB, hc⟩
theorem sarg_on {w w' : World} {A : Option Addr} {ss : List ByteArray} (h : SArg w w.heap.size A ss) (hb : Below w.heap.size w w') : SArg w' w'.heap.size A ss :=
  sarg_wide (h.below hb (Nat.le_refl _)) hb.size
theorem sarg_from {w w' : World} {B : Nat} {A : Option Addr} {ss : List ByteArray} (h : SArg w B A ss) (hb : Below B w w') (hB : B ≤ w'.heap.size) : SArg w' w'.heap.size A ss :=
  sarg_wide (h.below hb (Nat.le_refl _)) hB
theorem sarg_take {w : World} {B : Nat} {A : Option Addr} {ss : List ByteArray} (h : SArg w B A ss) (n : Nat) : SArg w B A (ss.take n) := fun hp => by
  obtain ⟨ad, e, hl, hc⟩ := h (by rw [List.length_take] at hp; omega)
  refine ⟨ad, e, hl, fun j s hj => hc j s ?_⟩
  rw [List.getElem?_take] at hj
  split at hj
  · exact hj
  · cases hj

theorem equal_n (A A' : Option Addr) (c c' n : Nat) (ss : List ByteArray) (w : World) (hl : ss.length = n) (ha : SArg w w.heap.size A ss) (ha' : SArg w w.heap.size A' ss) (hn : n ≤ 4611686018427387904) :
    Calls Try.prog 13 #[.slice A n c, .slice A' n c'] w fun e w' => e = .returned (.bool true) ∧ Below w.heap.size w w' := by
  subst hl
  exact equal_true A A' c c' ss w ha ha' hn

theorem lists_bs (ss : List ByteArray) : (lists ss).map bs = ss := by
  simp only [lists, List.map_map]
  exact List.map_id' ss

theorem frames_long (ps : List (List UInt8)) : ps.length ≤ (FM.frames ps).length := by
  induction ps with
  | nil => exact Nat.le_refl _
  | cons p ps ih => rw [FM.frames_cons, List.length_append, FM.frame_len, List.length_cons]; omega

theorem frames_short (ss : List ByteArray) (hall : ∀ p ∈ lists ss, p.length ≤ 4096) (hn : ss.length ≤ 60) : (bs (FM.frames (lists ss))).size ≤ 300000 := by
  have := FM.upto_bound (lists ss) hall (lists ss).length
  rw [FM.upto_all, lists_len] at this
  rw [bs_size]; omega

/-- what Scan says of frames and a bit -/
theorem scan_frames (ss : List ByteArray) (rest : List UInt8) (hall : ∀ p ∈ lists ss, p.length ≤ 4096) (hr : (FM.take rest).2.2 ≠ 0) (hs : (bs (FM.frames (lists ss) ++ rest)).size ≤ 1099511627776) (w : World) :
    Calls Try.prog 12 #[.string (bs (FM.frames (lists ss) ++ rest))] w fun e w' => ∃ A c, e = .returned (.tuple #[.slice A ss.length c, .int .i64 ((FM.frames (lists ss)).length : Nat)]) ∧ SArg w' w'.heap.size A ss ∧ Below w.heap.size w w' := by
  have hk : FM.chunks ((bs (FM.frames (lists ss) ++ rest)).size + 1) (bs (FM.frames (lists ss) ++ rest)).data.toList 0 = FM.places (lists ss) 0 := by
    have := FM.chunks_frames (lists ss) [] rest ((bs (FM.frames (lists ss) ++ rest)).size + 1) hall hr (by
      have := frames_long (lists ss)
      rw [bs_size, List.length_append]; omega)
    rw [bs_list]
    exact this
  refine (scan_any _ hs w).mono ?_
  rintro e w' ⟨A, c, rfl, ha, hb⟩
  rw [hk, FM.places_pays, lists_bs, FM.places_good] at *
  exact ⟨A, c, rfl, ha, hb⟩

theorem scan_all (ss : List ByteArray) (hall : ∀ p ∈ lists ss, p.length ≤ 4096) (hn : ss.length ≤ 60) (w : World) :
    Calls Try.prog 12 #[.string (bs (FM.frames (lists ss)))] w fun e w' => ∃ A c, e = .returned (.tuple #[.slice A ss.length c, .int .i64 (bs (FM.frames (lists ss))).size]) ∧ SArg w' w'.heap.size A ss ∧ Below w.heap.size w w' := by
  have h := frames_short ss hall hn
  have := scan_frames ss [] hall (by rw [FM.take_nil]; simp) (by rw [List.append_nil]; omega) w
  rw [List.append_nil] at this
  rw [bs_size]
  exact this

theorem lists_take (ss : List ByteArray) (n : Nat) : (lists ss).take n = lists (ss.take n) := by simp [lists]

/-- .. and of a beginning of frames, and Take of what is left -/
theorem cut_any (ss : List ByteArray) (hall : ∀ p ∈ lists ss, p.length ≤ 4096) (h60 : ss.length ≤ 60) (n at_ : Nat) (hn : n ≤ ss.length) (h1 : FM.upto (lists ss) n ≤ at_) (h2 : n < ss.length → at_ < FM.upto (lists ss) (n + 1)) (h3 : at_ ≤ (bs (FM.frames (lists ss))).size) :
    (∀ w, Calls Try.prog 12 #[.string ((bs (FM.frames (lists ss))).extract 0 at_)] w fun e w' => ∃ A c, e = .returned (.tuple #[.slice A n c, .int .i64 (FM.upto (lists ss) n : Nat)]) ∧ SArg w' w'.heap.size A (ss.take n) ∧ Below w.heap.size w w') ∧
    (∀ w, Calls Try.prog 11 #[.string ((bs (FM.frames (lists ss))).extract (FM.upto (lists ss) n) at_)] w fun e w' => e = .returned (.tuple #[.string (bs []), .int .i64 0, .int .i64 30]) ∧ Below w.heap.size w w') := by
  have hsz := frames_short ss hall h60
  rw [bs_size] at hsz h3
  obtain ⟨rest, e1, e2, e3⟩ := FM.cut_at (lists ss) hall n at_ (by rw [lists_len]; exact hn) h1 (by rw [lists_len]; exact h2) h3
  constructor
  · intro w
    rw [ext_bs, bs_list, List.drop_zero, Nat.sub_zero, e1, lists_take]
    have hl : (ss.take n).length = n := by rw [List.length_take]; omega
    have := scan_frames (ss.take n) rest (by rw [← lists_take]; exact fun p hp => hall p (List.mem_of_mem_take hp)) (by rw [e3]; simp) (by
      rw [bs_size, ← lists_take, ← e1, List.length_take]; omega) w
    rw [hl, ← lists_take] at this
    rw [← lists_take]
    exact this
  · intro w
    rw [ext_bs, bs_list, e2]
    refine (take_any (bs rest) w (by rw [← e2, bs_size, List.length_take, List.length_drop]; omega)).mono ?_
    rintro e w' ⟨rfl, hb⟩
    rw [bs_list, e3]
    exact ⟨rfl, hb⟩

end Go.Proofs.Ytcgojpdgcoddnaa
