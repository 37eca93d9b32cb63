/- Parse: the walk. -/
import Derived.Test.YtlfhjmdbkifciaaPatParse
namespace Go.Proofs.Ytlfhjmdbkifciaa
open Go.RowKit PM

def parseV (r : PR) : Value :=
  match r with
  | .ok k t => .tuple #[.agg #[.int .i64 (k : Nat), .string (bs t)], spotV 0 0]
  | .bad e k => .tuple #[.agg zP, spotV e k]

structure PP (w wr : World) (X : Array Value) : Prop where
  box : wr.heap[w.heap.size]? = some (.cells X TPat (0, 0))
  spot : wr.heap[w.heap.size + 1]? = some (.cells (spotC 0 0) TSp (0, 0))
  up : Below w.heap.size w wr
theorem PP.on {w wr w' : World} {X : Array Value} (h : PP w wr X) (hb : Below wr.heap.size wr w') : PP w w' X :=
  ⟨(hb.block _ (lt_of_block h.box)).trans h.box, (hb.block _ (lt_of_block h.spot)).trans h.spot, below_then h.up hb (Nat.le_refl _)⟩
theorem PP.put {w wr : World} {X : Array Value} (h : PP w wr X) (Y : Array Value) : PP w (wr.setRow w.heap.size Y) Y :=
  ⟨setRow_heap _ _ _ _ _ _ h.box, (setRow_other _ _ _ _ (by omega)).trans h.spot, h.up.trans ⟨rfl, rfl, rfl, by simp, fun k hk => setRow_other _ _ _ _ (by omega)⟩⟩
theorem PP.bad {w wr : World} {X : Array Value} (h : PP w wr X) (k : Nat) : Below w.heap.size w ((wr.setRow w.heap.size zP).setRow (w.heap.size + 1) (spotC 6 k)) :=
  (h.put zP).up.trans ⟨rfl, rfl, rfl, by simp, fun k hk => setRow_other _ _ _ _ (by omega)⟩

def parseW (w : World) : World := (w.alloc (.cells zP TPat)).alloc (.cells (spotC 0 0) TSp)
theorem parseW_facts (w : World) : PP w (parseW w) zP := by
  have b1 := below_new w (.cells zP TPat)
  have b2 := below_new (w.alloc (.cells zP TPat)) (.cells (spotC 0 0) TSp)
  have h1 := heap_alloc_new w (.cells zP TPat)
  have h2 := heap_alloc_new (w.alloc (.cells zP TPat)) (.cells (spotC 0 0) TSp)
  simp only [World.size_alloc] at b2 h2
  exact ⟨(b2.block _ (by omega)).trans h1, h2, b1.trans (b2.mono (by omega))⟩

theorem empty_no {s : ByteArray} (h : s.size ≤ 0) : s.toList.isEmpty = true ∧ (s.toList == (⟨#[]⟩ : ByteArray).toList) = true ∧ (s.toList == []) = true := by
  have h2 : s.data.toList.length = s.size := rfl
  have h3 : s.data.toList = [] := List.length_eq_zero_iff.1 (by omega)
  refine ⟨?_, ?_, ?_⟩
  · rw [ByteArray.toList_eq, h3]; rfl
  · rw [ByteArray.toList_eq, ByteArray.toList_eq, h3]; rfl
  · rw [ByteArray.toList_eq, h3]; rfl
theorem empty_yes {s : ByteArray} (h : 0 < s.size) : s.toList.isEmpty = false ∧ (s.toList == (⟨#[]⟩ : ByteArray).toList) = false ∧ (s.toList == []) = false := by
  have h2 : s.data.toList.length = s.size := rfl
  obtain ⟨a, l, h3⟩ : ∃ a l, s.data.toList = a :: l := by
    cases h4 : s.data.toList with
    | nil => rw [h4] at h2; simp at h2; omega
    | cons a l => exact ⟨a, l, rfl⟩
  refine ⟨?_, ?_, ?_⟩
  · rw [ByteArray.toList_eq, h3]; rfl
  · rw [ByteArray.toList_eq, ByteArray.toList_eq, h3]; rfl
  · rw [ByteArray.toList_eq, h3]; rfl

def preI (s : List UInt8) : Nat → Pre
  | 0 => .at 1 0
  | 1 => preOne globW s 0 (.at 1 0)
  | _ + 2 => pre s

theorem cell_congr {W W' : World} {g i : Nat} (h : W'.heap[g]? = W.heap[g]?) : W'.cell? ⟨g, i, none⟩ = W.cell? ⟨g, i, none⟩ := by simp [World.cell?, h]
theorem tree_badly {W4 w5 : World} {r : TR} {e : Ending} {kd : Nat} {out : List UInt8} {pl : List Nat} (hT : tree kd out = r) (h1 : 1 ≤ kd) (h3 : kd ≤ 3) (hp : pl.length = out.length + 1) (hm : TreeIs W4 r e w5) :
    (∃ t, r = .ok t) ∨ ∃ ec ak x : Nat, e = .returned (.tuple #[.agg zN, spotV ec ak]) ∧ pl[ak]? = some x ∧ (ec = 3 ∨ ec = 6) ∧ ak < pl.length ∧ Below W4.heap.size W4 w5 ∧
      (match r with | .ok _ => PR.ok kd out | .arg => .bad 2 (pl.getD 0 0) | .long => .bad 3 (pl.getD 64 0) | .bad k => .bad 6 (pl.getD k 0)) = .bad ec x := by
  have hget : ∀ i, i < pl.length → pl[i]? = some (pl.getD i 0) := fun i hi => by simp [List.getD, hi]
  rcases r with t | _ | _ | k
  · exact .inl ⟨t, rfl⟩
  · exfalso
    unfold tree at hT
    split at hT
    · omega
    · split at hT
      · cases hT
      · split at hT
        · cases hT
        · split at hT
          · split at hT <;> cases hT
          · split at hT
            · cases hT
            · split at hT <;> cases hT
  · have := tree_long hT
    exact .inr ⟨3, 64, _, hm.1, hget 64 (by omega), .inl rfl, by omega, hm.2, rfl⟩
  · have := tree_bad_le hT
    exact .inr ⟨6, k, _, hm.1, hget k (by omega), .inr rfl, by omega, hm.2, rfl⟩
theorem PP.putS {w wr : World} {X : Array Value} (h : PP w wr X) (e k : Nat) : (wr.setRow (w.heap.size + 1) (spotC e k)).heap[w.heap.size]? = some (.cells X TPat (0, 0)) ∧ (wr.setRow (w.heap.size + 1) (spotC e k)).heap[w.heap.size + 1]? = some (.cells (spotC e k) TSp (0, 0)) ∧ Below w.heap.size w (wr.setRow (w.heap.size + 1) (spotC e k)) :=
  ⟨(setRow_other _ _ _ _ (by omega)).trans h.box, setRow_heap _ _ _ _ _ _ h.spot, h.up.trans ⟨rfl, rfl, rfl, by simp, fun k hk => setRow_other _ _ _ _ (by omega)⟩⟩
theorem PP.wipe {w W : World} {u v : Value} (h : PP w W #[u, v]) (e k : Nat) :
    ((((W.setCell ⟨w.heap.size, 0, none⟩ (.int .i64 0)).setCell ⟨w.heap.size, 1, none⟩ (.string ⟨#[]⟩)).setCell ⟨w.heap.size + 1, 0, none⟩ (.int .i64 e)).setCell ⟨w.heap.size + 1, 1, none⟩ (.int .i64 k)).drew.heap[w.heap.size]? = some (.cells zP TPat (0, 0)) ∧
    ((((W.setCell ⟨w.heap.size, 0, none⟩ (.int .i64 0)).setCell ⟨w.heap.size, 1, none⟩ (.string ⟨#[]⟩)).setCell ⟨w.heap.size + 1, 0, none⟩ (.int .i64 e)).setCell ⟨w.heap.size + 1, 1, none⟩ (.int .i64 k)).drew.heap[w.heap.size + 1]? = some (.cells (spotC e k) TSp (0, 0)) ∧
    Below w.heap.size w ((((W.setCell ⟨w.heap.size, 0, none⟩ (.int .i64 0)).setCell ⟨w.heap.size, 1, none⟩ (.string ⟨#[]⟩)).setCell ⟨w.heap.size + 1, 0, none⟩ (.int .i64 e)).setCell ⟨w.heap.size + 1, 1, none⟩ (.int .i64 k)).drew := by
  have h1 := heap_setCell_same W w.heap.size 0 _ _ (.int .i64 0) h.box
  have h2 := heap_setCell_same _ w.heap.size 1 _ _ (.string ⟨#[]⟩) h1
  have s1 : ((W.setCell ⟨w.heap.size, 0, none⟩ (.int .i64 0)).setCell ⟨w.heap.size, 1, none⟩ (.string ⟨#[]⟩)).heap[w.heap.size + 1]? = some (.cells (spotC 0 0) TSp (0, 0)) :=
    (Below.heap_setCell _ _ _ _ (by simp)).trans ((Below.heap_setCell _ _ _ _ (by simp)).trans h.spot)
  have s2 := heap_setCell_same _ (w.heap.size + 1) 0 _ _ (.int .i64 e) s1
  have s3 := heap_setCell_same _ (w.heap.size + 1) 1 _ _ (.int .i64 k) s2
  refine ⟨?_, s3.trans rfl, ((((h.up.trans (below_setAt _ _ _ _ _ (Nat.le_refl _))).trans (below_setAt _ _ _ _ _ (Nat.le_refl _))).trans (below_setAt _ _ _ _ _ (by omega))).trans (below_setAt _ _ _ _ _ (by omega))).drew⟩
  exact (Below.heap_setCell _ _ _ _ (by simp)).trans ((Below.heap_setCell _ _ _ _ (by simp)).trans (h2.trans rfl))
theorem pre_bad0 {s : List UInt8} {k : Nat} (h : s.head? = some 103) (ho : off globW s 0 = some k) : parse s = .bad 6 k := by
  have : pre s = .bad k := by
    unfold pre; simp only [preOne, h]; rw [if_pos (show some 103 = globW.head? from rfl), ho]
  simp only [parse, this]
theorem pre_bad1 {s : List UInt8} {a b k : Nat} (hp : preI s 1 = .at a b) (h : s.head? = some 114) (ho : off reW s 0 = some k) : parse s = .bad 6 k := by
  have hp' : preOne globW s 0 (.at 1 0) = .at a b := hp
  have : pre s = .bad k := by
    unfold pre; rw [hp']; simp only [preOne, h]; rw [if_pos (show some 114 = reW.head? from rfl), ho]
  simp only [parse, this]
theorem pre_ok0 {s : List UInt8} (h : s.head? = some 103) (ho : off globW s 0 = none) : preI s 1 = .at 2 5 := by
  simp only [preI, preOne, h]; rw [if_pos (show some 103 = globW.head? from rfl), ho]; rfl
theorem pre_ok1 {s : List UInt8} {a b : Nat} (hp : preI s 1 = .at a b) (h : s.head? = some 114) (ho : off reW s 0 = none) : preI s 2 = .at 3 3 := by
  have hp' : preOne globW s 0 (.at 1 0) = .at a b := hp
  show pre s = _
  unfold pre; rw [hp']; simp only [preOne, h]; rw [if_pos (show some 114 = reW.head? from rfl), ho]; rfl
theorem pre_no0 {s : List UInt8} {a b : Nat} (hp : preI s 0 = .at a b) (h : s.head? ≠ some 103) : preI s 1 = .at a b := by
  cases hp
  simp only [preI, preOne]; rw [if_neg (show ¬ s.head? = globW.head? from h)]
theorem pre_no1 {s : List UInt8} {a b : Nat} (hp : preI s 1 = .at a b) (h : s.head? ≠ some 114) : preI s 2 = .at a b := by
  have hp' : preOne globW s 0 (.at 1 0) = .at a b := hp
  show pre s = _
  unfold pre; rw [hp']; simp only [preOne]; rw [if_neg (show ¬ s.head? = reW.head? from h)]
theorem head_at {s : ByteArray} {c : UInt8} (h : s.data.toList[0]? = some c) : s.data.toList.head? = some c := by
  rw [← h]; cases s.data.toList <;> rfl
theorem head_none {s : ByteArray} (h : s.data.toList[0]? = none) : s.data.toList.head? = none := by
  rw [← h]; cases s.data.toList <;> rfl

set_option maxRecDepth 100000 in
set_option maxHeartbeats 8000000 in
theorem parse_any (s : ByteArray) (w : World) (hs : s.size ≤ 100000000) :
    Calls Try.prog 18 #[.string s] w fun e w' => e = .returned (parseV (parse s.data.toList)) ∧ Below w.heap.size w w' := by
  have hmf : ∀ (fn : Fn) (first cap : Array Value) (w : World), (Instr.makeFunc fn first cap).run Try.prog w = .ok (.func fn first cap) w := fun _ _ _ _ => rfl
  have HP0 := Lib.hid (parseW_facts w)
  go_enter_defers Try.func18, Try.ntmps18
  go_wp2_with fail
  change Code.wp _ _ _ _ (parseW w)
  generalize parseW w = W0 at *
  generalize hgw : (⟨#[103, 108, 111, 98, 32]⟩ : ByteArray) = gw
  generalize hrw : (⟨#[114, 101, 32]⟩ : ByteArray) = rw'
  have hix0 : ∀ w, (Instr.index 71 (.agg #[.string gw, .string rw']) (.int .i64 0)).run Try.prog w = .ok (.string gw) w := by intro w; subst hgw; subst hrw; kernel_rfl
  have hix1 : ∀ w, (Instr.index 71 (.agg #[.string gw, .string rw']) (.int .i64 1)).run Try.prog w = .ok (.string rw') w := by intro w; subst hgw; subst hrw; kernel_rfl
  have HG := Lib.hid (show gw.data.toList = globW ∧ gw.size = 5 by subst hgw; exact ⟨rfl, rfl⟩)
  have HR := Lib.hid (show rw'.data.toList = reW ∧ rw'.size = 3 by subst hrw; exact ⟨rfl, rfl⟩)
  clear hgw hrw
  go_loopg [4, 5, 16] 3 (fun k v4 v5 v16 wr => ∃ (i kd fr : Nat), v16 = .int .i64 i ∧ i ≤ 2 ∧ 2 - i < k ∧ v4 = .int .i64 kd ∧ v5 = .int .i64 fr ∧ Hid (preI s.data.toList i = .at kd fr) ∧ Hid (PP w wr zP))
  case atStart => exact ⟨0, 1, 0, rfl, by omega, by omega, rfl, rfl, Lib.hid rfl, HP0⟩
  case round =>
    clear HP0
    obtain ⟨i, kd, fr, rfl, hil, hik, rfl, rfl, HPI, HP⟩ := hrel
    by_cases hi : i < 2
    · have hi' : i = 0 ∨ i = 1 := by omega
      rcases hi' with rfl | rfl
      · have h1 : gw.data.toList[0]? = some 103 := by rw [HG.out.1]; rfl
        obtain ⟨hgl0, hg0⟩ := byte_at gw 0 103 h1
        have hgs : gw.size = 5 := HG.out.2
        have hgl : (0 : Int) < gw.size := by omega
        have hgl5 : (gw.size : Int) = 5 := by omega
        have HG0 := Lib.hid hg0
        clear h1
        rcases hh : s.data.toList[0]? with _ | c
        · have hla := byte_none s 0 hh
          have HN := Lib.hid (pre_no0 HPI.out (by rw [head_none hh]; simp))
          obtain ⟨q1, q2, q3⟩ := empty_no hla
          clear hh HPI hg0
          go_wp2_with fail
          go_quiet (fail)
          have HPQ := Lib.hid (HP.out.on (below_drew _ _ nq))
          go_wp2_with fail
          go_roundg (gk - 1)
          case measure => omega
          case rel => exact ⟨0 + 1, kd, fr, rfl, by omega, by omega, rfl, rfl, HN, HPQ⟩
        · obtain ⟨hla, rfl⟩ := byte_at s 0 c hh
          obtain ⟨q1, q2, q3⟩ := empty_yes hla
          have hl2 : (0 : Int) < s.size := by omega
          by_cases hb : s[0] = 103
          case neg =>
            have HN := Lib.hid (pre_no0 HPI.out (by rw [head_at hh]; simpa using hb))
            have hj : ((s[0].toNat : Int) == 103) = false := by rw [beq_eq_false_iff_ne]; exact fun e => hb (u8_eq (by have : (103 : UInt8).toNat = 103 := rfl; omega))
            clear hh hb HPI
            go_wp2_with fail
            go_quiet (fail)
            have HPQ := Lib.hid (HP.out.on (below_drew _ _ nq))
            go_wp2_with fail
            go_roundg (gk - 1)
            case measure => omega
            case rel => exact ⟨0 + 1, kd, fr, rfl, by omega, by omega, rfl, rfl, HN, HPQ⟩
          have hj : ((s[0].toNat : Int) == 103) = true := by rw [hb]; rfl
          have HH := Lib.hid (show s.data.toList.head? = some 103 by rw [head_at hh, hb])
          clear hh hb
          go_wp2_with fail
          go_quiet (fail)
          have HPQ := Lib.hid (HP.out.on (below_drew _ _ nq))
          clear HP hj
          go_wp2_with fail
          clear hg0
          generalize wr.drewN nq = wq at *
          obtain ⟨g0, hg0'⟩ : ∃ g0, g0 = gk := ⟨_, rfl⟩
          subst hg0'
          go_loopg [35] 6 (fun k v35 wr2 => ∃ x : Nat, v35 = .int .i64 x ∧ x ≤ 5 ∧ 5 - x < k ∧ Hid (off (gw.data.toList.drop x) (s.data.toList.drop x) x = off globW s.data.toList 0) ∧ Hid (PP w wr2 zP))
          case atStart => exact ⟨0, rfl, by omega, by omega, Lib.hid (by rw [HG.out.1]; rfl), HPQ⟩
          case round =>
            clear HPQ
            obtain ⟨x, rfl, hxl, hxk, HO, HP⟩ := hrel
            by_cases hx : x < 5
            · have hxg : x < gw.size := by omega
              have ho := HO.out
              rw [drop_at gw x hxg] at ho
              have hx2 : (x : Int) < 5 := by omega
              have hx3 : (x : Int) < gw.size := by omega
              have hx0 : (0 : Int) ≤ x := by omega
              by_cases hs1 : s.size ≤ x
              · rw [drop_end s x hs1] at ho
                have HBAD := Lib.hid (pre_bad0 HH.out ho.symm)
                have hs2 : decide ((s.size : Int) ≤ x) = true := by simp; omega
                have hs3 : (s.size : Int) ≤ x := by omega
                clear ho HO
                go_wp2_with fail
                go_quiet (fail)
                have HPQ := Lib.hid (HP.out.on (below_drew _ _ nq))
                go_wp2_with fail
                exact parse_door_bad (X := zP) w.heap.size x rfl rfl HPQ.out.box rfl HPQ.out.spot ⟨by rw [HBAD.out]; rfl, HPQ.out.bad x⟩
              · have hxs : x < s.size := by omega
                rw [drop_at s x hxs] at ho
                simp only [off] at ho
                have hs2 : decide ((s.size : Int) ≤ x) = false := by simp; omega
                have hs3 : (x : Int) < s.size := by omega
                clear hs1
                by_cases he : s[x] = gw[x]
                · rw [if_pos he] at ho
                  have HO2 := Lib.hid ho
                  have hj2 : ((s[x].toNat : Int) != (gw[x].toNat : Int)) = false := by rw [he]; simp
                  clear ho HO he
                  go_wp2_with fail
                  go_quiet (fail)
                  have HPQ := Lib.hid (HP.out.on (below_drew _ _ nq))
                  go_wp2_with fail
                  go_roundg (gk - 1)
                  case measure => omega
                  case rel => exact ⟨x + 1, by go_num, by omega, by omega, HO2, HPQ⟩
                · rw [if_neg he] at ho
                  have HBAD := Lib.hid (pre_bad0 HH.out ho.symm)
                  have hj2 : ((s[x].toNat : Int) != (gw[x].toNat : Int)) = true := by
                    rw [bne, beq_eq_false_iff_ne.2 (fun e => he (u8_eq (by omega)))]; rfl
                  clear ho HO he
                  go_wp2_with fail
                  go_quiet (fail)
                  have HPQ := Lib.hid (HP.out.on (below_drew _ _ nq))
                  go_wp2_with fail
                  exact parse_door_bad (X := zP) w.heap.size x rfl rfl HPQ.out.box rfl HPQ.out.spot ⟨by rw [HBAD.out]; rfl, HPQ.out.bad x⟩
            · obtain rfl : x = 5 := by omega
              have ho := HO.out
              rw [drop_end gw 5 (by omega)] at ho
              have HN := Lib.hid (pre_ok0 HH.out ho.symm)
              clear ho HO
              go_wp2_with fail
              go_roundg (g0 - 1)
              case measure => omega
              case rel => exact ⟨0 + 1, 0 + 2, 5, rfl, by omega, by omega, rfl, rfl, HN, HP⟩
      · have h1 : rw'.data.toList[0]? = some 114 := by rw [HR.out.1]; rfl
        obtain ⟨hgl0, hg0⟩ := byte_at rw' 0 114 h1
        have hgs : rw'.size = 3 := HR.out.2
        have hgl : (0 : Int) < rw'.size := by omega
        have hgl5 : (rw'.size : Int) = 3 := by omega
        have HG0 := Lib.hid hg0
        clear h1
        rcases hh : s.data.toList[0]? with _ | c
        · have hla := byte_none s 0 hh
          have HN := Lib.hid (pre_no1 HPI.out (by rw [head_none hh]; simp))
          obtain ⟨q1, q2, q3⟩ := empty_no hla
          clear hh HPI hg0
          go_wp2_with fail
          go_quiet (fail)
          have HPQ := Lib.hid (HP.out.on (below_drew _ _ nq))
          go_wp2_with fail
          go_roundg (gk - 1)
          case measure => omega
          case rel => exact ⟨1 + 1, kd, fr, rfl, by omega, by omega, rfl, rfl, HN, HPQ⟩
        · obtain ⟨hla, rfl⟩ := byte_at s 0 c hh
          obtain ⟨q1, q2, q3⟩ := empty_yes hla
          have hl2 : (0 : Int) < s.size := by omega
          by_cases hb : s[0] = 114
          case neg =>
            have HN := Lib.hid (pre_no1 HPI.out (by rw [head_at hh]; simpa using hb))
            have hj : ((s[0].toNat : Int) == 114) = false := by rw [beq_eq_false_iff_ne]; exact fun e => hb (u8_eq (by have : (114 : UInt8).toNat = 114 := rfl; omega))
            clear hh hb HPI
            go_wp2_with fail
            go_quiet (fail)
            have HPQ := Lib.hid (HP.out.on (below_drew _ _ nq))
            go_wp2_with fail
            go_roundg (gk - 1)
            case measure => omega
            case rel => exact ⟨1 + 1, kd, fr, rfl, by omega, by omega, rfl, rfl, HN, HPQ⟩
          have hj : ((s[0].toNat : Int) == 114) = true := by rw [hb]; rfl
          have HH := Lib.hid (show s.data.toList.head? = some 114 by rw [head_at hh, hb])
          clear hh hb
          go_wp2_with fail
          go_quiet (fail)
          have HPQ := Lib.hid (HP.out.on (below_drew _ _ nq))
          clear HP hj
          go_wp2_with fail
          clear hg0
          generalize wr.drewN nq = wq at *
          obtain ⟨g0, hg0'⟩ : ∃ g0, g0 = gk := ⟨_, rfl⟩
          subst hg0'
          go_loopg [35] 4 (fun k v35 wr2 => ∃ x : Nat, v35 = .int .i64 x ∧ x ≤ 3 ∧ 3 - x < k ∧ Hid (off (rw'.data.toList.drop x) (s.data.toList.drop x) x = off reW s.data.toList 0) ∧ Hid (PP w wr2 zP))
          case atStart => exact ⟨0, rfl, by omega, by omega, Lib.hid (by rw [HR.out.1]; rfl), HPQ⟩
          case round =>
            clear HPQ
            obtain ⟨x, rfl, hxl, hxk, HO, HP⟩ := hrel
            by_cases hx : x < 3
            · have hxg : x < rw'.size := by omega
              have ho := HO.out
              rw [drop_at rw' x hxg] at ho
              have hx2 : (x : Int) < 3 := by omega
              have hx3 : (x : Int) < rw'.size := by omega
              have hx0 : (0 : Int) ≤ x := by omega
              by_cases hs1 : s.size ≤ x
              · rw [drop_end s x hs1] at ho
                have HBAD := Lib.hid (pre_bad1 HPI.out HH.out ho.symm)
                have hs2 : decide ((s.size : Int) ≤ x) = true := by simp; omega
                have hs3 : (s.size : Int) ≤ x := by omega
                clear ho HO
                go_wp2_with fail
                go_quiet (fail)
                have HPQ := Lib.hid (HP.out.on (below_drew _ _ nq))
                go_wp2_with fail
                exact parse_door_bad (X := zP) w.heap.size x rfl rfl HPQ.out.box rfl HPQ.out.spot ⟨by rw [HBAD.out]; rfl, HPQ.out.bad x⟩
              · have hxs : x < s.size := by omega
                rw [drop_at s x hxs] at ho
                simp only [off] at ho
                have hs2 : decide ((s.size : Int) ≤ x) = false := by simp; omega
                have hs3 : (x : Int) < s.size := by omega
                clear hs1
                by_cases he : s[x] = rw'[x]
                · rw [if_pos he] at ho
                  have HO2 := Lib.hid ho
                  have hj2 : ((s[x].toNat : Int) != (rw'[x].toNat : Int)) = false := by rw [he]; simp
                  clear ho HO he
                  go_wp2_with fail
                  go_quiet (fail)
                  have HPQ := Lib.hid (HP.out.on (below_drew _ _ nq))
                  go_wp2_with fail
                  go_roundg (gk - 1)
                  case measure => omega
                  case rel => exact ⟨x + 1, by go_num, by omega, by omega, HO2, HPQ⟩
                · rw [if_neg he] at ho
                  have HBAD := Lib.hid (pre_bad1 HPI.out HH.out ho.symm)
                  have hj2 : ((s[x].toNat : Int) != (rw'[x].toNat : Int)) = true := by
                    rw [bne, beq_eq_false_iff_ne.2 (fun e => he (u8_eq (by omega)))]; rfl
                  clear ho HO he
                  go_wp2_with fail
                  go_quiet (fail)
                  have HPQ := Lib.hid (HP.out.on (below_drew _ _ nq))
                  go_wp2_with fail
                  exact parse_door_bad (X := zP) w.heap.size x rfl rfl HPQ.out.box rfl HPQ.out.spot ⟨by rw [HBAD.out]; rfl, HPQ.out.bad x⟩
            · obtain rfl : x = 3 := by omega
              have ho := HO.out
              rw [drop_end rw' 3 (by omega)] at ho
              have HN := Lib.hid (pre_ok1 HPI.out HH.out ho.symm)
              clear ho HO
              go_wp2_with fail
              go_roundg (g0 - 1)
              case measure => omega
              case rel => exact ⟨1 + 1, 1 + 2, 3, rfl, by omega, by omega, rfl, rfl, HN, HP⟩
    · obtain rfl : i = 2 := by omega
      have hpi : pre s.data.toList = .at kd fr := HPI.out
      have hfr : fr ≤ s.size := by rcases pre_at hpi with ⟨-, rfl⟩ | ⟨-, rfl, h⟩ | ⟨-, rfl, h⟩ <;> first | exact Nat.zero_le _ | exact h
      have hkd : kd ≤ 3 := by rcases pre_at hpi with ⟨rfl, -⟩ | ⟨rfl, -⟩ | ⟨rfl, -⟩ <;> omega
      have hkd1 : 1 ≤ kd := by rcases pre_at hpi with ⟨rfl, -⟩ | ⟨rfl, -⟩ | ⟨rfl, -⟩ <;> omega
      have HPA : Hid (parse s.data.toList = parseAt kd fr s.data.toList) := Lib.hid (by simp only [parse, hpi])
      clear hpi HPI hix0 hix1 HG HR
      go_wp2_with fail
      refine (scan_any s fr (-1) wr (by omega) (by omega) (by omega)).mono ?_
      rintro e w3 hm
      obtain ⟨r, hr⟩ : ∃ r, scan (-1) s.data.toList fr = r := ⟨_, rfl⟩
      rw [hr] at hm
      have HRR := Lib.hid hr
      clear hr
      rcases r with ⟨out, pl⟩ | k | k
      · obtain ⟨v, rfl, hown, hb⟩ := hm
        obtain ⟨hne, hmem, hlen⟩ := scan_places HRR.out
        have hol : out.length ≤ s.size := by
          have h1 := scan_len HRR.out
          have h2 : s.data.toList.length = s.size := rfl
          omega
        obtain ⟨n, hn⟩ : ∃ n, pl.length = n + 1 := ⟨pl.length - 1, by have := List.length_pos_iff.2 hne; omega⟩
        obtain ⟨g, cap, rfl, hgB, hgl⟩ := hown.form (by omega)
        have HCS : Hid (∀ i x, pl[i]? = some x → w3.cell? ⟨g, i, none⟩ = some (.int .i64 (x : Nat))) := Lib.hid (by
          intro i x hx
          have := hown.cells (g := g) rfl i (.int .i64 (x : Nat)) (by unfold intC; rw [List.getElem?_map, hx]; rfl)
          rw [Addr.add_lit, Nat.zero_add] at this
          exact this)
        have HP3 := Lib.hid (HP.out.on hb)
        have hg3 : g < w3.heap.size := hgl
        have hgb : w.heap.size + 2 ≤ g := by have := lt_of_block HP.out.spot; omega
        have hl0 : ((pl.getLastD 0 : Nat) : Int) ≤ 100000001 := by
          have h1 := hmem _ (List.mem_of_getElem? (last_get pl n hn))
          have h2 : s.data.toList.length = s.size := rfl
          omega
        have hcell := HCS.out n _ (last_get pl n hn)
        have HM := Lib.hid hmem
        have HLEN := Lib.hid hlen
        have HPA2 := HPA.out
        unfold parseAt at HPA2
        rw [HRR.out] at HPA2
        simp only [] at HPA2
        obtain ⟨m, hm⟩ : ∃ m : Nat, pl.getLastD 0 = m := ⟨_, rfl⟩
        rw [hm] at HPA2 hcell hl0
        have hn0 : (0 : Int) ≤ n := by omega
        have hn1 : (n : Int) ≤ 100000001 := by omega
        have hn2 : (n : Int) < (n : Int) + 1 := by omega
        have hn3 : (n : Int) + 1 - 1 = n := by omega
        have HPL := Lib.hid hn
        rw [hn]
        clear hown hb hm hne hmem HP HPA hn hlen
        by_cases hlt : m + 1 < s.size
        · have HBAD : Hid (parse s.data.toList = .bad 6 (m + 1)) := Lib.hid (by rw [HPA2, if_pos (show m + 1 < s.data.toList.length from hlt)])
          have hlt2 : (m : Int) + 1 < s.size := by omega
          clear HPA2
          go_wp2_with fail
          exact parse_door_bad (X := zP) w.heap.size (m + 1) rfl rfl HP3.out.box rfl HP3.out.spot ⟨by rw [HBAD.out]; rfl, HP3.out.bad (m + 1)⟩
        rw [if_neg (show ¬ m + 1 < s.data.toList.length from hlt)] at HPA2
        have HPA3 := Lib.hid HPA2
        have hlt2 : ¬ (m : Int) + 1 < s.size := by omega
        clear HPA2
        go_upto_region 20 with (refine wpList_store_row rfl TPat (.tmp 2) (.tmp 76) rfl w.heap.size #[.int .i64 kd, .string (bs out)] rfl rfl TPat _ HP3.out.box (by kernel_rfl) rfl (by simp [Value.oneCell']) ?_)
        have HP4 := Lib.hid (HP3.out.put #[.int .i64 kd, .string (bs out)])
        have HC4 : Hid (∀ i x, pl[i]? = some x → (w3.setRow w.heap.size #[.int .i64 kd, .string (bs out)]).cell? ⟨g, i, none⟩ = some (.int .i64 (x : Nat))) := Lib.hid (fun i x hx => (cell_congr (setRow_other _ _ _ _ (by omega))).trans (HCS.out i x hx))
        have hg4 : g < (w3.setRow w.heap.size #[.int .i64 kd, .string (bs out)]).heap.size := by simp; exact hg3
        generalize w3.setRow w.heap.size #[.int .i64 kd, .string (bs out)] = W4 at *
        clear hcell HCS HP3 hg3
        have c0 : W4.cell? ⟨w.heap.size, 0, none⟩ = some (.int .i64 kd) := by rw [cell_of_row _ _ 0 _ _ _ HP4.out.box]; rfl
        have c1 : W4.cell? ⟨w.heap.size, 1, none⟩ = some (.string (bs out)) := by rw [cell_of_row _ _ 1 _ _ _ HP4.out.box]; rfl
        go_wp2_with fail
        refine (tree_any kd (bs out) W4 (by have : (bs out).size = out.length := rfl; omega)).mono ?_
        rintro e w5 ht
        clear c0 c1
        obtain ⟨r, hr⟩ : ∃ r, tree (kd : Int) (bs out).data.toList = r := ⟨_, rfl⟩
        rw [hr] at ht
        have HTR := Lib.hid (show tree kd out = r from hr)
        clear hr
        rcases tree_badly HTR.out hkd1 hkd HLEN.out ht with ⟨t, rfl⟩ | ⟨ec, ak, x, rfl, hpx, hec, hak, hb, hpr⟩
        · obtain ⟨K, rfl, hK, hb⟩ := ht
          obtain ⟨A, c, rfl⟩ := hK.slice
          have HP5 := HP4.out.on hb
          have HRES : Hid (parse s.data.toList = .ok kd out) := Lib.hid (by rw [HPA3.out, HTR.out])
          have HP6 := Lib.hid ((HP5.on (below_new w5 (.cells #[.int .i64 t.op, .int .u64 (PM.word t.set 0), .int .u64 (PM.word t.set 1), .int .u64 (PM.word t.set 2), .int .u64 (PM.word t.set 3), .slice A t.kids.length c] TN))).on (below_new _ (.cells #[.int .i64 0, .int .i64 0] TSp)))
          clear hK hb HPA3 HTR HC4 HP4 hg4 HP5
          simp only [nodeV, spotV, spotC, nodeC]
          go_upto_region 23 with (fail)
          generalize (w5.alloc (.cells #[.int .i64 t.op, .int .u64 (PM.word t.set 0), .int .u64 (PM.word t.set 1), .int .u64 (PM.word t.set 2), .int .u64 (PM.word t.set 3), .slice A t.kids.length c] TN)).alloc (.cells #[.int .i64 0, .int .i64 0] TSp) = W6 at *
          have c0 : W6.cell? ⟨w.heap.size, 0, none⟩ = some (.int .i64 kd) := by rw [cell_of_row _ _ 0 _ _ _ HP6.out.box]; rfl
          have c1 : W6.cell? ⟨w.heap.size, 1, none⟩ = some (.string (bs out)) := by rw [cell_of_row _ _ 1 _ _ _ HP6.out.box]; rfl
          have HP7 := Lib.hid (HP6.out.put #[.int .i64 kd, .string (bs out)])
          have HP8 := Lib.hid (HP7.out.putS 0 0)
          go_wp2_with (first | (refine wpList_store_row rfl TPat (.tmp 2) (.tmp 94) rfl w.heap.size #[.int .i64 kd, .string (bs out)] rfl rfl TPat _ HP6.out.box (by kernel_rfl) rfl (by simp [Value.oneCell']) ?_; clear c0 c1) | (refine wpList_store_row rfl TSp (.tmp 3) (.tmp 95) rfl (w.heap.size + 1) (spotC 0 0) rfl rfl TSp _ HP7.out.spot (by kernel_rfl) rfl (by simp [spotC, Value.oneCell']) ?_))
          exact parse_door (X := #[.int .i64 kd, .string (bs out)]) (Y := spotC 0 0) w.heap.size rfl rfl HP8.out.1 rfl HP8.out.2.1 rfl ⟨by rw [HRES.out]; rfl, HP8.out.2.2⟩
        · have HRES : Hid (parse s.data.toList = .bad ec x) := Lib.hid (by rw [HPA3.out, HTR.out, ← hpr]; cases r <;> rfl)
          have HP5 := HP4.out.on hb
          have hc5 := (cell_congr (i := ak) (hb.block g hg4)).trans (HC4.out ak x hpx)
          have hg5 : g < w5.heap.size := Nat.lt_of_lt_of_le hg4 hb.size
          have b6 := below_new w5 (.cells zN TN)
          have b7 := below_new (w5.alloc (.cells zN TN)) (.cells #[.int .i64 ec, .int .i64 ak] TSp)
          have HP6 := Lib.hid ((HP5.on b6).on b7)
          have hs6 : ((w5.alloc (.cells zN TN)).alloc (.cells #[.int .i64 ec, .int .i64 ak] TSp)).heap[w5.heap.size + 1]? = some (.cells (spotC ec ak) TSp (0, 0)) := by
            have := heap_alloc_new (w5.alloc (.cells zN TN)) (.cells #[.int .i64 ec, .int .i64 ak] TSp)
            rw [World.size_alloc] at this; exact this
          have HS6 := Lib.hid hs6
          have hc6 : ((w5.alloc (.cells zN TN)).alloc (.cells #[.int .i64 ec, .int .i64 ak] TSp)).cell? ⟨g, ak, none⟩ = some (.int .i64 x) := (cell_congr (b7.block g (by simp; omega))).trans ((cell_congr (b6.block g hg5)).trans hc5)
          have HC6 := Lib.hid hc6
          have hx0 : ((ec : Int) != 0) = true := by rcases hec with rfl | rfl <;> rfl
          have hak0 : (0 : Int) ≤ ak := by omega
          have hak1 : (ak : Int) < (n : Int) + 1 := by have := HPL.out; omega
          have hb2 : w.heap.size + 2 ≤ w5.heap.size := by omega
          clear hb HPA3 HTR HC4 HP4 hg4 HP5 hc5 b6 b7 hs6 hc6 hpr ht hpx hak hec
          simp only [spotV, spotC, zN] at HP6 HS6 HC6 ⊢
          go_upto_region 22 with (fail)
          generalize (w5.alloc (.cells #[.int .i64 0, .int .u64 0, .int .u64 0, .int .u64 0, .int .u64 0, .slice none 0 0] TN)).alloc (.cells #[.int .i64 ec, .int .i64 ak] TSp) = W6 at *
          obtain ⟨B2, hB2⟩ : ∃ B2, w5.heap.size = B2 := ⟨_, rfl⟩
          rw [hB2] at HS6 hg5 hb2 ⊢
          obtain ⟨B0, hB0⟩ : ∃ B0, w.heap.size = B0 := ⟨_, rfl⟩
          have hbox := HP6.out.box; have hspot := HP6.out.spot
          rw [hB0] at hbox hspot hb2 hgb
          rw [hB0]
          have c0 : W6.cell? ⟨B0, 0, none⟩ = some (.int .i64 kd) := by rw [cell_of_row _ _ 0 _ _ _ hbox]; rfl
          have c1 : W6.cell? ⟨B0, 1, none⟩ = some (.string (bs out)) := by rw [cell_of_row _ _ 1 _ _ _ hbox]; rfl
          have f0 : W6.frozen? ⟨B0, 0, none⟩ = false := frozen_of_row _ _ 0 _ _ hbox
          have f1 : W6.frozen? ⟨B0, 1, none⟩ = false := frozen_of_row _ _ 1 _ _ hbox
          have e0 : W6.cell? ⟨B0 + 1, 0, none⟩ = some (.int .i64 0) := by rw [cell_of_row _ _ 0 _ _ _ hspot]; rfl
          have e1 : W6.cell? ⟨B0 + 1, 1, none⟩ = some (.int .i64 0) := by rw [cell_of_row _ _ 1 _ _ _ hspot]; rfl
          have g0 : W6.frozen? ⟨B0 + 1, 0, none⟩ = false := frozen_of_row _ _ 0 _ _ hspot
          have g1 : W6.frozen? ⟨B0 + 1, 1, none⟩ = false := frozen_of_row _ _ 1 _ _ hspot
          have s0 : W6.cell? ⟨B2 + 1, 0, none⟩ = some (.int .i64 ec) := by rw [cell_of_row _ _ 0 _ _ _ HS6.out]; rfl
          have s1 : W6.cell? ⟨B2 + 1, 1, none⟩ = some (.int .i64 ak) := by rw [cell_of_row _ _ 1 _ _ _ HS6.out]; rfl
          have hcx := HC6.out
          have i1 : ¬ g = B0 := by omega
          have i2 : ¬ B0 = g := by omega
          have i3 : ¬ g = B0 + 1 := by omega
          have i4 : ¬ B0 + 1 = g := by omega
          have i5 : ¬ B2 + 1 = B0 := by omega
          have i6 : ¬ B0 = B2 + 1 := by omega
          have i7 : ¬ B2 = B0 := by omega
          have i8 : ¬ B0 = B2 := by omega
          clear hbox hspot
          have HWI := Lib.hid (HP6.out.wipe ec x)
          go_region_held3 (fun w' => w'.cell? ⟨B2 + 1, 0, none⟩ = some (.int .i64 ec) ∧ w'.cell? ⟨B2 + 1, 1, none⟩ = some (.int .i64 ak) ∧ w'.cell? ⟨g, ak, none⟩ = some (.int .i64 x)) (go_keep) (fail)
          subst hB0
          clear c0 c1 f0 f1 e0 e1 g0 g1 s0 s1 hcx
          go_wp2_with fail
          exact parse_door (X := zP) (Y := spotC ec x) w.heap.size rfl rfl HWI.out.1 rfl HWI.out.2.1 rfl ⟨by rw [HRES.out]; rfl, HWI.out.2.2⟩
      · obtain ⟨rfl, hb⟩ := hm
        have HPQ := Lib.hid (HP.out.on hb)
        have HBAD : Hid (parse s.data.toList = .bad 6 k) := Lib.hid (by rw [HPA.out]; unfold parseAt; rw [HRR.out])
        clear hb
        go_wp2_with fail
        exact parse_door_bad (X := zP) w.heap.size k rfl rfl HPQ.out.box rfl HPQ.out.spot ⟨by rw [HBAD.out]; rfl, HPQ.out.bad k⟩
      · exact absurd HRR.out (scan_not_long _ _ _)
end Go.Proofs.Ytlfhjmdbkifciaa
