/- A hub's streams in memory; wake. -/
import Derived.Test.YtlddeagolhdieaaRowKit
import Derived.Test.YtlddeagolhdieaaHubLocks
import Derived.Conc.MuLone
import Derived.Conc.LoneCalls
import Derived.Conc.SmallLaws
import Derived.Conc.EventLaws
import Derived.Conc.LoneSelectN
import Derived.WalkKit
import Derived.WalkSpells
import Derived.Lib.Hide
import Derived.Laws.Rows
import Derived.Deep.OwnRows
import Derived.BigQuiet
import Derived.Recover
import Derived.Deep.Cut
namespace Go.Proofs.Ytlddeagolhdieaa
open Go.RowKit Go.MuLone Go.Conc

abbrev TSt : TypeId := 80
abbrev TCh : TypeId := 67
abbrev THp : TypeId := 53

theorem below_new (w : World) (o : Obj) : Below w.heap.size w (w.alloc o) := (Below.refl _ _).alloc (Nat.le_refl _) _

/-- nothing but some blocks, and new ones, is turned -/
structure Off (S : List Nat) (w w' : World) : Prop where
  os : w'.os = w.os
  tape : w'.tape = w.tape
  output : w'.output = w.output
  size : w.heap.size ≤ w'.heap.size
  block : ∀ k, k < w.heap.size → k ∉ S → w'.heap[k]? = w.heap[k]?
theorem Off.refl (S : List Nat) (w : World) : Off S w w := ⟨rfl, rfl, rfl, Nat.le_refl _, fun _ _ _ => rfl⟩
theorem Off.mono {S T : List Nat} {w w' : World} (h : Off S w w') (hs : ∀ k ∈ S, k ∈ T) : Off T w w' := ⟨h.os, h.tape, h.output, h.size, fun k hk hT => h.block k hk (fun e => hT (hs k e))⟩
theorem Off.trans {S T : List Nat} {w a b : World} (h : Off S w a) (g : Off T a b) (ht : ∀ k ∈ T, k ∈ S ∨ w.heap.size ≤ k) : Off S w b :=
  ⟨g.os.trans h.os, g.tape.trans h.tape, g.output.trans h.output, Nat.le_trans h.size g.size, fun k hk hS => (g.block k (Nat.lt_of_lt_of_le hk h.size) (fun e => (ht k e).elim hS (fun h2 => by omega))).trans (h.block k hk hS)⟩
theorem Off.of_below {S : List Nat} {w w' : World} (h : Below w.heap.size w w') : Off S w w' := ⟨h.os, h.tape, h.output, h.size, fun k hk _ => h.block k hk⟩
theorem Off.below {S : List Nat} {w w' : World} (h : Off S w w') {B : Nat} (hB : B ≤ w.heap.size) (hs : ∀ k ∈ S, B ≤ k) : Below B w w' := ⟨h.os, h.tape, h.output, h.size, fun k hk => h.block k (by omega) (fun e => by have := hs k e; omega)⟩

theorem mkCh (w : World) : (Instr.makeChan TCh (.int .i64 0)).run Try.prog w = .ok (.chan (some w.heap.size)) (w.alloc (.chan 0 #[] false 0 0 false)) := by
  have hi : ∃ i, Try.prog.info? 68 = some i ∧ i.bytes = 0 := Option.map_eq_some_iff.1 (show (Try.prog.info? 68).map (·.bytes) = some 0 from by kernel_rfl)
  obtain ⟨i, hi, hb⟩ := hi
  simpa using run_makeChan (P := Try.prog) (w := w) Try.underlying67 hi .i64 0 (by omega) (by rw [hb]; omega)

/-- a stream's cells -/
def stC (v : Value) (n : Nat) (cl : Bool) (c : Nat) : Array Value := #[.int .i32 0, .int .u32 0, v, .int .i64 n, .bool cl, .chan (some c)]
/-- .. the lock taken -/
def stL (v : Value) (n : Nat) (cl : Bool) (c : Nat) : Array Value := #[.int .i32 1, .int .u32 0, v, .int .i64 n, .bool cl, .chan (some c)]
theorem heap_setCh (w : World) (c k : Nat) (o : Obj) (h : k ≠ c) : ({ w with heap := w.heap.setIfInBounds c o } : World).heap[k]? = w.heap[k]? := by
  simp [Ne.symm h]
theorem off_setCh (w : World) (c : Nat) (o : Obj) : Off [c] w { w with heap := w.heap.setIfInBounds c o } := ⟨rfl, rfl, rfl, by simp, fun k _ hk => heap_setCh w c k o (fun e => hk (by simp [e]))⟩
theorem off_set (w : World) (g i : Nat) (v : Value) : Off [g] w (w.setCell ⟨g, i, none⟩ v) := ⟨rfl, rfl, rfl, by simp, fun k _ hk => Below.heap_setCell _ _ _ _ (fun e => hk (by simp [e]))⟩

set_option maxRecDepth 100000 in
set_option maxHeartbeats 4000000 in
theorem wake_any (b c s r n : Nat) (v : Value) (cl : Bool) (w : World) (hb : w.heap[b]? = some (.cells (stL v n cl c) TSt (0, 0))) (hc : w.heap[c]? = some (.chan 0 #[] false s r false)) :
    Calls Try.prog 38 #[.pointer (some ⟨b, 0, none⟩)] w fun e w' => e = .returned (.tuple #[]) ∧ w'.heap[b]? = some (.cells (stL v n cl w.heap.size) TSt (0, 0)) ∧ w'.heap[w.heap.size]? = some (.chan 0 #[] false 0 0 false) ∧ Off [b, c] w w' := by
  have hmc := mkCh
  have hcl := fun ty => run_close_open (P := Try.prog) #[TCh] ty hc
  have h5 : w.cell? ⟨b, 5, none⟩ = some (.chan (some c)) := by rw [cell_of_row w b 5 _ _ _ hb]; rfl
  have hne : b ≠ c := fun e => by rw [e, hc] at hb; cases hb
  have hb1 := (heap_setCh w c b (.chan 0 #[] true s r false) hne).trans hb
  have ho1 := off_setCh w c (.chan 0 #[] true s r false)
  have HW := Lib.hid (And.intro hb1 (And.intro ho1 (And.intro (lt_of_block hb) (lt_of_block hc))))
  clear hb1 ho1 hb hc hne
  go_enter Try.func38, Try.ntmps38
  go_upto_region 1 with (fail)
  clear hcl h5
  generalize hw1 : ({ w with heap := w.heap.setIfInBounds c (.chan 0 #[] true s r false) } : World) = w1 at *
  have hsz : w1.heap.size = w.heap.size := by rw [← hw1]; simp
  have HSZ := Lib.hid hsz
  clear hsz hw1
  have hb2 := below_new w1 (.chan 0 #[] false 0 0 false)
  have hn2 := heap_alloc_new w1 (.chan 0 #[] false 0 0 false)
  have hbb : (w1.alloc (.chan 0 #[] false 0 0 false)).heap[b]? = some (.cells (stL v n cl c) TSt (0, 0)) := (hb2.block b (lt_of_block HW.out.1)).trans HW.out.1
  have h5 : (w1.alloc (.chan 0 #[] false 0 0 false)).cell? ⟨b, 5, none⟩ = some (.chan (some c)) := by rw [cell_of_row _ b 5 _ _ _ hbb]; rfl
  have f5 : (w1.alloc (.chan 0 #[] false 0 0 false)).frozen? ⟨b, 5, none⟩ = false := frozen_of_row _ b 5 _ _ hbb
  have HX := Lib.hid (And.intro hb2 (And.intro hn2 hbb))
  clear hb2 hn2 hbb
  go_wp2_with fail
  refine bodyPost_end (results_none rfl _ _ _) rfl ?_
  obtain ⟨q1, q2, q3⟩ := HX.out
  obtain ⟨p1, p2, p3, p4⟩ := HW.out
  rw [HSZ.out] at q2 ⊢
  have hs := heap_setCell_same _ b 5 _ _ (.chan (some w.heap.size)) q3
  refine ⟨rfl, hs, ?_, ?_⟩
  · rw [Below.heap_setCell _ _ _ _ (by simp; omega)]; exact q2
  · exact ((p2.mono (T := [b, c]) (by simp)).trans (Off.of_below (S := []) q1) (by simp)).trans (off_set _ b 5 _) (by simp)

/-- a happening -/
structure Hap where
  kind : Int
  text : ByteArray
  num : Int
def hapC (h : Hap) : List Value := [.int .i64 h.kind, .string h.text, .int .i64 h.num]
def hapsC (l : List Hap) : List Value := l.flatMap hapC
theorem hapsC_len (l : List Hap) : (hapsC l).length = l.length * 3 := by
  induction l with
  | nil => rfl
  | cons q r ih => simp only [hapsC, List.flatMap_cons, List.length_append, List.length_cons] at ih ⊢; rw [ih]; simp [hapC]; omega
theorem hapsC_append (a b : List Hap) : hapsC (a ++ b) = hapsC a ++ hapsC b := by simp [hapsC]

/-- a stream at b: what has happened, whether it is closed; its list in v, its channel c -/
structure St (w : World) (B b : Nat) (l : List Hap) (cl : Bool) (v : Value) (c : Nat) : Prop where
  blk : w.heap[b]? = some (.cells (stC v l.length cl c) TSt (0, 0))
  own : w.ownsRow B THp 3 v l.length (hapsC l)
  chn : ∃ s r, w.heap[c]? = some (.chan 0 #[] false s r false)
  ge : B ≤ b ∧ B ≤ c
  lim : l.length ≤ 4096

theorem own_off {w w' : World} {B n : Nat} {v : Value} {xs : List Value} {S : List Nat} (h : w.ownsRow B THp 3 v n xs) (ho : Off S w w') (hS : ∀ g ∈ S, ∀ cur fr, w.heap[g]? ≠ some (.cells cur THp fr)) : w'.ownsRow B THp 3 v n xs := by
  refine ⟨h.1, ?_⟩
  rcases h.2 with h0 | ⟨g, cap, cur, rfl, hB, hg, h1⟩
  · exact .inl h0
  · exact .inr ⟨g, cap, cur, rfl, hB, (ho.block g (lt_of_block hg) (fun e => hS g e _ _ hg)).trans hg, h1⟩
section
variable {w w' : World} {B b c : Nat} {l : List Hap} {cl : Bool} {v : Value}
theorem St.lt (h : St w B b l cl v c) : b < w.heap.size := lt_of_block h.blk
theorem St.ltc (h : St w B b l cl v c) : c < w.heap.size := by obtain ⟨s, r, e⟩ := h.chn; exact lt_of_block e
theorem St.ne (h : St w B b l cl v c) : b ≠ c := fun e => by obtain ⟨s, r, e2⟩ := h.chn; rw [← e, h.blk] at e2; cases e2
theorem St.nb (h : St w B b l cl v c) : ∀ cur fr, w.heap[b]? ≠ some (.cells cur THp fr) := fun cur fr e => by rw [h.blk] at e; injection e with e; injection e with _ e _; exact absurd e (by decide)
theorem St.nc (h : St w B b l cl v c) : ∀ cur fr, w.heap[c]? ≠ some (.cells cur THp fr) := fun cur fr e => by obtain ⟨s, r, e2⟩ := h.chn; rw [e2] at e; cases e
theorem St.nbc (h : St w B b l cl v c) : ∀ g ∈ [b, c], ∀ cur fr, w.heap[g]? ≠ some (.cells cur THp fr) := fun g hg => by
  simp only [List.mem_cons, List.not_mem_nil, or_false] at hg
  rcases hg with rfl | rfl
  · exact h.nb
  · exact h.nc
end

theorem st_no {w : World} {b : Nat} {X : Array Value} {fr : Nat × Nat} (h : w.heap[b]? = some (.cells X TSt fr)) : ∀ cur fr', w.heap[b]? ≠ some (.cells cur THp fr') := fun cur fr' e => by
  rw [h] at e; injection e with e; injection e with _ e _; exact absurd e (by decide)
theorem ch_no {w : World} {c : Nat} {k : Nat} {X : Array Value} {cl : Bool} {s r : Nat} {tm : Bool} (h : w.heap[c]? = some (.chan k X cl s r tm)) : ∀ cur fr', w.heap[c]? ≠ some (.cells cur THp fr') := fun cur fr' e => by rw [h] at e; cases e
theorem no_of {w : World} {b c : Nat} (hb : ∀ cur fr', w.heap[b]? ≠ some (.cells cur THp fr')) (hc : ∀ cur fr', w.heap[c]? ≠ some (.cells cur THp fr')) : ∀ g ∈ [b, c], ∀ cur fr, w.heap[g]? ≠ some (.cells cur THp fr) := fun g hg => by
  simp only [List.mem_cons, List.not_mem_nil, or_false] at hg
  rcases hg with rfl | rfl
  · exact hb
  · exact hc
/-- the lock let go -/
theorem St.freed {w w1 : World} {B b c c' : Nat} {l l' : List Hap} {cl cl' : Bool} {v v' : Value} {S : List Nat} (hs : St w B b l cl v c) (h1 : w1.heap[b]? = some (.cells (stL v' l'.length cl' c') TSt (0, 0))) (ho : Off S w w1) (hb : b ∈ S)
    (hown : w1.ownsRow B THp 3 v' l'.length (hapsC l')) (hc : ∃ s r, w1.heap[c']? = some (.chan 0 #[] false s r false)) (hg : B ≤ c') (hl : l'.length ≤ 4096) :
    St (w1.setCell ⟨b, 0, none⟩ (.int .i32 0)) B b l' cl' v' c' ∧ Off S w (w1.setCell ⟨b, 0, none⟩ (.int .i32 0)) := by
  have h2 : (w1.setCell ⟨b, 0, none⟩ (.int .i32 0)).heap[b]? = some (.cells (stC v' l'.length cl' c') TSt (0, 0)) := heap_setCell_same _ b 0 _ _ (.int .i32 0) h1
  have o2 := off_set w1 b 0 (.int .i32 0)
  obtain ⟨s, r, hc⟩ := hc
  have hne : c' ≠ b := fun e => by rw [e, h1] at hc; cases hc
  refine ⟨⟨h2, own_off hown o2 (fun g hg' cur fr e => ?_), ⟨s, r, (Below.heap_setCell _ _ _ _ (by simpa using hne)).trans hc⟩, ⟨hs.ge.1, hg⟩, hl⟩, ho.trans o2 (fun k hk => .inl (by simp only [List.mem_singleton] at hk; rw [hk]; exact hb))⟩
  simp only [List.mem_singleton] at hg'
  subst hg'
  rw [h1] at e
  injection e with e; injection e with _ e _; exact absurd e (by decide)

def EndIs (B b c : Nat) (l : List Hap) (cl : Bool) (v : Value) (w : World) (e : Ending) (w' : World) : Prop :=
  ∃ c', e = .returned (.int .i64 (if cl then 9 else 0)) ∧ St w' B b l true v c' ∧ Off [b, c] w w' ∧ (c' = c ∨ w.heap.size ≤ c')

set_option maxRecDepth 100000 in
set_option maxHeartbeats 4000000 in
/-- end: nothing more comes -/
theorem end_any (B b c : Nat) (l : List Hap) (cl : Bool) (v : Value) (w : World) (hs : St w B b l cl v c) (hB : B ≤ w.heap.size) :
    Calls Try.prog 27 #[.pointer (some ⟨b, 0, none⟩)] w (EndIs B b c l cl v w) := by
  have h0 : w.cell? ⟨b, 0, none⟩ = some (.int .i32 0) := by rw [cell_of_row w b 0 _ _ _ hs.blk]; rfl
  have f0 : w.frozen? ⟨b, 0, none⟩ = false := frozen_of_row w b 0 _ _ hs.blk
  have h1 : (w.setCell ⟨b, 0, none⟩ (.int .i32 1)).heap[b]? = some (.cells (stL v l.length cl c) TSt (0, 0)) := heap_setCell_same _ b 0 _ _ (.int .i32 1) hs.blk
  have o1 := (off_set w b 0 (.int .i32 1)).mono (T := [b, c]) (by simp)
  have hbc := hs.nbc
  have H1 := Lib.hid (And.intro h1 (And.intro o1 (And.intro (own_off hs.own o1 hbc) (And.intro hs.chn hs.ne))))
  have HS := Lib.hid hs
  clear hs h1 o1 hbc
  go_enter_defers Try.func27, Try.ntmps27
  go_upto_region 1 with (fail)
  go_wp2_with fail
  refine (lock_free muLib ⟨b, 0, none⟩ _ h0 f0).mono ?_
  rintro e w1 ⟨rfl, hw1⟩
  rw [← hw1] at H1
  have hcc : w1.heap[c]? = w.heap[c]? := by rw [hw1]; exact Below.heap_setCell _ _ _ _ (Ne.symm H1.out.2.2.2.2)
  have HCC := Lib.hid hcc
  clear hw1 h0 f0 hcc
  have h4 : w1.cell? ⟨b, 4, none⟩ = some (.bool cl) := by rw [cell_of_row w1 b 4 _ _ _ H1.out.1]; rfl
  have f4 : w1.frozen? ⟨b, 4, none⟩ = false := frozen_of_row w1 b 4 _ _ H1.out.1
  have HCH : Hid (∃ s r, w1.heap[c]? = some (.chan 0 #[] false s r false)) := Lib.hid (by rw [HCC.out]; exact HS.out.chn)
  cases cl with
  | true =>
    go_wp2_with fail
    refine leaves_cons (f := 37) (args := #[.pointer (some ⟨b, 0, none⟩)]) (by simp) (by simp [go_sem]) ?_
    refine (unlock_deferred muLib ⟨b, 0, none⟩ .returning _ (by rw [cell_of_row w1 b 0 _ _ _ H1.out.1]; rfl) (frozen_of_row w1 b 0 _ _ H1.out.1)).mono ?_
    rintro e u' w'' ⟨rfl, rfl, rfl⟩
    obtain ⟨p1, p2, p3, _, _⟩ := H1.out
    have hf := HS.out.freed p1 p2 (by simp) p3 HCH.out HS.out.ge.2 HS.out.lim
    exact ⟨_, results_tmp rfl _ _ _, c, rfl, hf.1, hf.2, .inl rfl⟩
  | false =>
    have h5 : (w1.setCell ⟨b, 4, none⟩ (.bool true)).heap[b]? = some (.cells (stL v l.length true c) TSt (0, 0)) := heap_setCell_same _ b 4 _ _ (.bool true) H1.out.1
    have o5 := off_set w1 b 4 (.bool true)
    have hc5 : ∃ s r, (w1.setCell ⟨b, 4, none⟩ (.bool true)).heap[c]? = some (.chan 0 #[] false s r false) := by
      obtain ⟨s, r, h⟩ := HCH.out
      exact ⟨s, r, (Below.heap_setCell _ _ _ _ (Ne.symm H1.out.2.2.2.2)).trans h⟩
    have H5 := Lib.hid (And.intro h5 (And.intro o5 hc5))
    clear h5 o5 hc5
    go_wp2_with fail
    obtain ⟨s, r, hc5⟩ := H5.out.2.2
    have HX := Lib.hid hc5
    clear hc5 h4 f4
    generalize hw2 : w1.setCell ⟨b, 4, none⟩ (.bool true) = w2 at *
    clear hw2
    refine (wake_any b c s r l.length v true w2 H5.out.1 HX.out).mono ?_
    rintro e w3 ⟨rfl, hb3, hc3, ho3⟩
    have HB3 := Lib.hid (And.intro hb3 (And.intro hc3 ho3))
    clear hb3 hc3 ho3
    go_wp2_with fail
    refine leaves_cons (f := 37) (args := #[.pointer (some ⟨b, 0, none⟩)]) (by simp) (by simp [go_sem]) ?_
    refine (unlock_deferred muLib ⟨b, 0, none⟩ .returning _ (by rw [cell_of_row w3 b 0 _ _ _ HB3.out.1]; rfl) (frozen_of_row w3 b 0 _ _ HB3.out.1)).mono ?_
    rintro e u' w'' ⟨rfl, rfl, rfl⟩
    obtain ⟨p1, p2, p3, _, _⟩ := H1.out
    obtain ⟨q1, q2, _⟩ := H5.out
    obtain ⟨r1, r2, r3⟩ := HB3.out
    have own2 := own_off p3 q2 (fun g hg => by simp only [List.mem_singleton] at hg; subst hg; exact st_no p1)
    have own3 := own_off own2 r3 (no_of (st_no q1) (ch_no HX.out))
    have off2 : Off [b, c] w w2 := p2.trans q2 (fun k hk => .inl (by simp only [List.mem_singleton] at hk; simp [hk]))
    have off3 : Off [b, c] w w3 := off2.trans r3 (fun k hk => .inl hk)
    have hf := HS.out.freed r1 off3 (by simp) own3 ⟨0, 0, r2⟩ (Nat.le_trans hB off2.size) HS.out.lim
    exact ⟨_, results_tmp rfl _ _ _, _, rfl, hf.1, hf.2, .inr off2.size⟩
end Go.Proofs.Ytlddeagolhdieaa
