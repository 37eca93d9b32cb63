/- add: any other node; all together. -/
import Derived.Test.YtpiflikblpfgoaaDoorNfaAdd4
namespace Go.Proofs.YtpiflikblpfgoaaDoor
open Go.RowKit PM

set_option maxRecDepth 100000 in
set_option maxHeartbeats 4000000 in
theorem add_other (op : Nat) (h2 : op ≠ 2) (h3 : op ≠ 3) (h4 : op ≠ 4) (h5 : op ≠ 5) (h6 : op ≠ 6) (h7 : op ≠ 7)(set : Nat → Bool) (kids : List T) : AddOk (.mk op set kids) := by
  intro b n p A o K w h hT hl hb hTab
  have hlt := h.lt
  obtain ⟨Ad, c, rfl⟩ := hT.slice
  have c2 : ((op : Int) == 2) = false := by rw [beq_eq_false_iff_ne]; omega
  have c3 : ((op : Int) == 3) = false := by rw [beq_eq_false_iff_ne]; omega
  have c4 : ((op : Int) == 4) = false := by rw [beq_eq_false_iff_ne]; omega
  have c5 : ((op : Int) == 5) = false := by rw [beq_eq_false_iff_ne]; omega
  have c6 : ((op : Int) == 6) = false := by rw [beq_eq_false_iff_ne]; omega
  have c7 : ((op : Int) == 7) = false := by rw [beq_eq_false_iff_ne]; omega
  have HA : add (.mk op set kids) n = (n, Part.zero true) := by simp [add, h2, h3, h4, h5, h6, h7]
  have HHA := Lib.hid HA
  clear hT hl hb hTab HA h2 h3 h4 h5 h6 h7
  simp only [nodeV, nodeC, T.op, T.set, T.kids]
  generalize word set 0 = x0 at *
  generalize word set 1 = x1 at *
  generalize word set 2 = x2 at *
  generalize word set 3 = x3 at *
  generalize kids.length = N at *
  have HS := Lib.hid h
  clear h
  go_enter Tryd.func25, Tryd.ntmps25
  go_wp2_with fail
  have b1 := below_new w (.cells #[.int .i64 op, .int .u64 x0, .int .u64 x1, .int .u64 x2, .int .u64 x3, .slice Ad N c] TN)
  have b2 := below_new (w.alloc (.cells #[.int .i64 op, .int .u64 x0, .int .u64 x1, .int .u64 x2, .int .u64 x3, .slice Ad N c] TN)) (.cells #[.int .u64 0, .int .u64 0, .bool true] TPt)
  have e1 := heap_alloc_new (w.alloc (.cells #[.int .i64 op, .int .u64 x0, .int .u64 x1, .int .u64 x2, .int .u64 x3, .slice Ad N c] TN)) (.cells #[.int .u64 0, .int .u64 0, .bool true] TPt)
  simp only [World.size_alloc] at b2 e1
  have bb := b1.trans (b2.mono (by omega))
  refine bodyPost_ret (results_cell_row rfl _ _ (w.heap.size + 1) TPt _ (0, 0) _ rfl e1 Tryd.underlying58 rfl (by kernel_rfl)) rfl (addIs_mk (r' := (n, Part.zero true)) HHA.out ?_ (HS.out.on bb) (grown_below bb _))
  show _ = Value.agg (partC (Part.zero true)).toArray
  rw [partC_zero]

/-- add: a tree's places -/
theorem add_any (m : Nat) (hm : m ≤ 1000000) (t : T) : T.OK m t → AddOk t := by
  induction t using T.ind with
  | h op set kids ih =>
    intro hok
    obtain ⟨h5, hkl, hks⟩ : (op = 5 ∨ op = 6 ∨ op = 7 → ∃ k, kids = [k]) ∧ kids.length ≤ m ∧ ∀ k ∈ kids, T.OK m k := by cases hok with | mk a b c => exact ⟨a, b, c⟩
    have hI : ∀ k ∈ kids, AddOk k := fun k hk => ih k hk (hks k hk)
    by_cases h2 : op = 2
    · subst h2
      intro b n p A o K w h _ hl hb _
      exact add_set set kids K b n p A o w h (by simp only [leaves, if_pos] at hl; omega) hb
    by_cases h3 : op = 3
    · subst h3; exact add_cat m hm set kids hkl hI
    by_cases h4 : op = 4
    · subst h4; exact add_alt m hm set kids hkl hI
    by_cases h56 : op = 5 ∨ op = 6 ∨ op = 7
    · obtain ⟨k, rfl⟩ := h5 h56
      exact add_one op h56 set k (hI k (by simp))
    · exact add_other op h2 h3 h4 (by omega) (by omega) (by omega) set kids
end Go.Proofs.YtpiflikblpfgoaaDoor
