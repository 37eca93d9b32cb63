/- Of: a pattern's net. -/
import Derived.Test.YtfhggnbnbopkkaaDoorNfaAdd5
import Derived.Test.YtfhggnbnbopkkaaDoorNfaFix
import Derived.Test.YtfhggnbnbopkkaaDoorPatOr
import Derived.BigRegion
import Derived.Deep.CutRange
import Derived.Deep.MidRow
import Derived.StillTailTactics
import Derived.ChangeKeysEq
namespace Go.Proofs.YtfhggnbnbopkkaaDoor
open Go.RowKit PM

/-- the net that nothing was put into -/
def zNet : Array Value := Array.replicate 320 (.int .u64 0) ++ #[.int .u64 0, .int .u64 0, .bool false, .int .u64 0, .bool false, .int .i64 0]
theorem zNet_run (w : World) : (zeroValue TNet).run Tryd.prog w = .ok (.agg zNet) w := by kernel_rfl
theorem zNet_size : zNet.size = 326 := by simp [zNet]
def ns0 : NS := ⟨0, fun _ _ => false, fun _ _ => false⟩
theorem zNet_at (i : Nat) (hi : i < 326) : zNet[i]? = some (netC ns0 (Part.zero false) none' false i) := by
  have h0 : B64 none' = 0 := B64_none
  have h1 : (B64 fun _ => false) = 0 := B64_none
  unfold zNet
  by_cases h : i < 320
  · rw [Array.getElem?_append_left (by simpa using h)]
    simp only [Array.getElem?_replicate, if_pos h]
    unfold netC
    split
    · simp [ns0, h1]
    · first | (rw [if_pos h]; simp [ns0, h1]) | simp [ns0, h1]
  · rw [Array.getElem?_append_right (by simp; omega)]
    simp only [Array.size_replicate]
    have : i = 320 ∨ i = 321 ∨ i = 322 ∨ i = 323 ∨ i = 324 ∨ i = 325 := by omega
    rcases this with rfl | rfl | rfl | rfl | rfl | rfl <;> simp [netC, Part.zero, h0, ns0]
theorem NB.new (w : World) : NB (w.alloc (.cells zNet TNet)) w.heap.size ns0 (Part.zero false) none' false :=
  ⟨zNet, heap_alloc_new w _, zNet_size, zNet_at⟩

theorem below_set {B g : Nat} {w a c : World} (h : Below B w a) (hg : a.grownBy c (some g)) (hB : B ≤ w.heap.size) (hg2 : B ≤ g) : Below B w c :=
  ⟨hg.os.trans h.os, hg.tape.trans h.tape, hg.output.trans h.output, Nat.le_trans h.size hg.size, fun k hk => (hg.block k (by have := h.size; omega) (fun e => by have := Option.some.inj e; omega)).trans (h.block k hk)⟩

/-- the bytes' sets of a net, as one value -/
def hasL (n : NS) : List Value := (List.range 256).map fun c => .int .u64 (B64 fun q => n.has c q)
theorem hasL_len (n : NS) : (hasL n).length = 256 := by simp [hasL]
theorem hasL_at (n : NS) (c : Nat) (hc : c < 256) : (hasL n)[c]? = some (.int .u64 (B64 fun q => n.has c q)) := by simp [hasL, hc]
theorem NB.hasL {w : World} {b : Nat} {n : NS} {p : Part} {A : Nat → Bool} {o : Bool} (h : NB w b n p A o) : w.rangeAt b 0 (hasL n) := fun j v hv => by
  have hj : j < 256 := by have := (List.getElem?_eq_some_iff.1 hv).1; rwa [hasL_len] at this
  rw [hasL_at n j hj] at hv
  rw [Nat.zero_add, h.c_has hj]; exact hv

/-- the places that have one of the first bytes -/
def someTo (n : NS) (c : Nat) (q : Nat) : Bool := (List.range c).any fun x => n.has x q
theorem someTo_succ (n : NS) (c q : Nat) : someTo n (c + 1) q = (someTo n c q || n.has c q) := by simp [someTo, List.range_succ]
theorem B64_someTo_zero (n : NS) : B64 (someTo n 0) = 0 := B64_none

theorem size_u64 (W : World) : (Go.sizeOf 61).run Tryd.prog W = .ok 1 W := by kernel_rfl
theorem index_u64 (HZ : Array Value) (c : Nat) (hc : c < 256) (y : Nat) (h : HZ[c]? = some (.int .u64 y)) (W : World) : (Instr.index 86 (.agg HZ) (.int .i64 c)).run Tryd.prog W = .ok (.int .u64 y) W := by
  have h1 : (0 : Int) ≤ c ∧ (c : Int) < 256 := by omega
  have h3 : HZ[(c : Int).toNat * 1]? = some (.int .u64 y) := by simpa using h
  simp only [Instr.index, Sem.run_bind, asIntOf, run_underlying Tryd.underlying86, Sem.run_pure, Result.andThen_ok]
  rw [if_pos (by simpa using h1)]
  simp only [Sem.run_bind, size_u64, Result.andThen_ok]
  exact run_part_plain W (e := 61) (by kernel_rfl) h3

/-- what Of holds -/
structure OfS (w : World) (b : Nat) (n : NS) (q : Part) (A : Nat → Bool) (o : Bool) (wr : World) : Prop where
  net : NB wr b n q A o
  up : Below w.heap.size w wr
  ge : w.heap.size ≤ b
theorem OfS.on {w : World} {b : Nat} {n : NS} {q : Part} {A : Nat → Bool} {o : Bool} {wr w' : World} (h : OfS w b n q A o wr) (hb : Below wr.heap.size wr w') : OfS w b n q A o w' :=
  ⟨h.net.on hb, below_then h.up hb (Nat.le_refl _), h.ge⟩
theorem OfS.go {w : World} {b : Nat} {n m : NS} {q q' : Part} {A A' : Nat → Bool} {o o' : Bool} {wr w' : World} (h : OfS w b n q A o wr) (hn : NB w' b m q' A' o') (hg : wr.grownBy w' (some b)) : OfS w b m q' A' o' w' :=
  ⟨hn, below_set h.up hg (Nat.le_refl _) h.ge, h.ge⟩

/-- is the end reached from the beginning? -/
def openB (n : NS) (q : Part) (A : Nat → Bool) : Bool := q.empty || (List.range n.k).any fun x => q.first x && A x
theorem openB_more {n : NS} {q : Part} {A : Nat → Bool} (hf : ∀ x, q.first x = true → x < n.k) (hk : n.k ≤ 64) (he : q.empty = false) : openB n q A = decide ((B64 fun x => q.first x && A x) ≠ 0) := by
  rw [Bool.eq_iff_iff, decide_eq_true_eq, B64_ne_zero]
  simp only [openB, he, Bool.false_or, List.any_eq_true, List.mem_range]
  constructor
  · rintro ⟨x, h1, h2⟩; exact ⟨x, by omega, h2⟩
  · rintro ⟨x, _, h2⟩; exact ⟨x, hf x (by simp only [Bool.and_eq_true] at h2; exact h2.1), h2⟩

/-- what Of tells -/
def OfIs (w : World) (kind : Int) (s : List UInt8) (e : Ending) (w' : World) : Prop :=
  (∃ t b A, tree kind s = .ok t ∧ e = .returned (.tuple #[.pointer (some ⟨b, 0, none⟩), .int .i64 0]) ∧ OfS w b (netOf t).1 (netOf t).2 A (openB (netOf t).1 (netOf t).2 A) w' ∧ Closed (netOf t).1 (netOf t).2 A) ∨
  ((∀ t, tree kind s ≠ .ok t) ∧ e = .returned (.tuple #[.pointer none, .int .i64 2]) ∧ Below w.heap.size w w')

theorem ofIs_ok {w w' : World} {kind : Int} {s : List UInt8} {t : T} {n : NS} {q : Part} {A : Nat → Bool} {b : Nat} {o : Bool} (hte : tree kind s = .ok t) (hnt : netOf t = (n, q)) (ho : openB n q A = o) (hs : OfS w b n q A o w') (hc : Closed n q A) :
    OfIs w kind s (.returned (.tuple #[.pointer (some ⟨b, 0, none⟩), .int .i64 0])) w' := .inl ⟨t, b, A, hte, rfl, by rw [hnt]; subst ho; exact hs, by rw [hnt]; exact hc⟩

set_option maxRecDepth 100000 in
set_option maxHeartbeats 4000000 in
theorem of_any (kind : Int) (s : ByteArray) (w : World) (hs : s.size ≤ 9223372036854775807) (hTab : Tab w) :
    Calls Tryd.prog 26 #[.agg #[.int .i64 kind, .string s]] w (OfIs w kind s.data.toList) := by
  have hs2 : s.size ≤ 9223372036854775807 := hs
  have HT := Lib.hid hTab
  clear hTab
  go_enter Tryd.func26, Tryd.ntmps26
  go_wp2_with fail
  generalize hW0 : w.alloc (.cells #[.int .i64 kind, .string s] 32) = W0 at *
  have hb0 : Below w.heap.size w W0 := by rw [← hW0]; exact below_new _ _
  clear hW0
  refine (tree_or kind s W0 hs2).mono ?_
  rintro e w1 (⟨t, A, c, hte, rfl, htree, hb1⟩ | ⟨x, k, hx, hno, rfl, hb1⟩)
  · have hTr := TrAt.made htree
    have HTR := Lib.hid htree
    clear htree
    go_wp2_with fail
    have hsz2 : ((w1.alloc (.cells #[.int .i64 t.op, .int .u64 (word t.set 0), .int .u64 (word t.set 1), .int .u64 (word t.set 2), .int .u64 (word t.set 3), .slice A t.kids.length c] TN)).alloc (.cells #[.int .i64 0, .int .i64 0] TSp)).heap.size = w1.heap.size + 1 + 1 := by simp
    have HSZ2 : Hid (((w1.alloc (.cells #[.int .i64 t.op, .int .u64 (word t.set 0), .int .u64 (word t.set 1), .int .u64 (word t.set 2), .int .u64 (word t.set 3), .slice A t.kids.length c] TN)).alloc (.cells #[.int .i64 0, .int .i64 0] TSp)).heap.size = w1.heap.size + 1 + 1) := Lib.hid hsz2
    clear hsz2
    generalize (w1.alloc (.cells #[.int .i64 t.op, .int .u64 (word t.set 0), .int .u64 (word t.set 1), .int .u64 (word t.set 2), .int .u64 (word t.set 3), .slice A t.kids.length c] TN)).alloc (.cells #[.int .i64 0, .int .i64 0] TSp) = W2 at *
    first
      | (rw [zNet_run]
         simp only [Result.andThen]
         rw [Oper.upon_value])
      | rw [show Tryd.zeroCells89 = zNet from by kernel_rfl]
    have hnet := NB.new W2
    have hbz := below_new W2 (.cells zNet TNet)
    generalize hzn : zNet = ZN at *
    obtain ⟨y0, y1, y2, y3, y4, y5⟩ := hTr.1.cells
    have HTA := Lib.hid hTr.1
    have HB2 := Lib.hid hTr.2
    have hl1 : w1.heap.size < W2.heap.size := lt_of_block hTr.1.node
    obtain ⟨hok, hlv⟩ := tree_ok hte
    have HOK := Lib.hid hok; have HLV := Lib.hid hlv
    have HTE := Lib.hid hte
    have HT2 : Hid (Tab (W2.alloc (.cells ZN TNet))) := Lib.hid ((((HT.out.on hb0).on hb1).on hTr.2).on hbz)
    have HI2 : Hid (IsT (W2.alloc (.cells ZN TNet)) (fun x => x ≠ W2.heap.size) (.slice A t.kids.length c) t) := Lib.hid (((HTR.out.on hTr.2).imp (q := fun x => x ≠ W2.heap.size) (fun x _ hx => by omega)).on hbz)
    have HNE := Lib.hid hnet
    have HBZ := Lib.hid (((hb1.trans (hTr.2.mono hb1.size)).trans (hbz.mono (Nat.le_trans hb1.size hTr.2.size))))
    have hle : w.heap.size ≤ w1.heap.size := Nat.le_trans hb0.size hb1.size
    clear hTr hok hlv hte hb1 hbz hnet HTR
    have HAdd := Lib.hid (add_any 100 (by omega) t HOK.out W2.heap.size ns0 (Part.zero false) none' false (.slice A t.kids.length c) _ HNE.out HI2.out (by have := HLV.out; simp [ns0]; omega) (by omega) HT2.out)
    simp only [nodeV, nodeC] at HAdd
    generalize word t.set 0 = u0 at *
    generalize word t.set 1 = u1 at *
    generalize word t.set 2 = u2 at *
    generalize word t.set 3 = u3 at *
    generalize t.op = uo at *
    generalize t.kids.length = lk at *
    rw [← HSZ2.out]
    clear HSZ2
    refine HAdd.out.mono ?_
    rintro e w4 ⟨rfl, hn4, hg4⟩
    have HO4 : Hid (OfS w W2.heap.size (add t ns0).1 (Part.zero false) none' false w4) := Lib.hid ⟨hn4, below_set ((hb0.trans (HBZ.out.mono hb0.size))) hg4 (Nat.le_refl _) (by omega), by omega⟩
    clear hn4 hg4 HAdd HNE HI2 hzn y0 y1 y2 y3 y4 y5 HBZ HB2 HT2 hl1 HTA
    have hnet : netOf t = add t ns0 := rfl
    have HNT := Lib.hid hnet
    clear hnet
    generalize hr : add t ns0 = r at *
    clear hr
    obtain ⟨n, q⟩ := r
    simp only [partV, partC, List.toArray]
    generalize W2.heap.size = b at *
    go_wp2_with fail
    generalize hW5 : w4.alloc (.cells #[.int .u64 (B64 q.first), .int .u64 (B64 q.last), .bool q.empty] TPt) = W5 at *
    have HO5 : Hid (OfS w b n (Part.zero false) none' false W5) := Lib.hid (HO4.out.on (by rw [← hW5]; exact below_new _ _))
    have hD : W5.heap[w4.heap.size]? = some (.cells #[.int .u64 (B64 q.first), .int .u64 (B64 q.last), .bool q.empty] TPt (0, 0)) := by rw [← hW5]; exact heap_alloc_new w4 _
    have d0 := cell_of_row _ _ 0 _ _ _ hD; have d1 := cell_of_row _ _ 1 _ _ _ hD; have d2 := cell_of_row _ _ 2 _ _ _ hD
    simp only [List.getElem?_toArray, List.getElem?_cons_zero, List.getElem?_cons_succ] at d0 d1 d2
    have n1 : w4.heap.size ≠ b := by have := HO4.out.net.lt; omega
    have n2 : b ≠ w4.heap.size := by omega
    have c0 := HO5.out.net.c_first; have c1 := HO5.out.net.c_last; have c2 := HO5.out.net.c_empty
    have f0 := HO5.out.net.frozen 320; have f1 := HO5.out.net.frozen 321; have f2 := HO5.out.net.frozen 322
    clear hD hW5
    generalize w4.heap.size = D at *
    go_cut [] from 27 to 41 (fun wx => Hid (NB wx b n q none' false ∧ W5.grownBy wx (some b)))
    case first =>
      go_region_with (fail)
      all_goals
        go_wp2_with fail
        go_meet
        case rel =>
        refine Lib.hid ⟨?_, ?_⟩
        · first
            | exact ((HO5.out.net.set_first q.first).set_last q.last).set_empty q.empty
            | exact ((HO5.out.net.set_first q.first).set_empty q.empty).set_last q.last
            | exact ((HO5.out.net.set_last q.last).set_first q.first).set_empty q.empty
            | exact ((HO5.out.net.set_last q.last).set_empty q.empty).set_first q.first
            | exact ((HO5.out.net.set_empty q.empty).set_first q.first).set_last q.last
            | exact ((HO5.out.net.set_empty q.empty).set_last q.last).set_first q.first
        · exact grown_trans (grown_trans (grown_trans (setB _ _ _ _) (setB _ _ _ _)) (setB _ _ _ _)) (grown_below (below_drew _ _ 1) _)
    case rest =>
      have HO6 : Hid (OfS w b n q none' false wc) := Lib.hid (HO5.out.go hcut.out.1 hcut.out.2)
      clear hcut HO5 c0 c1 c2 f0 f1 f2 d0 d1 d2 n1 n2 HO4
      have hlen : (hasL n).toArray.size = 256 := by simp [hasL_len]
      have hat : ∀ c, c < 256 → (hasL n).toArray[c]? = some (.int .u64 (B64 fun q => n.has c q)) := fun c hc => by rw [List.getElem?_toArray]; exact hasL_at n c hc
      go_wp2_with (refine wpList_load_mid rfl 86 (.tmp 44) rfl b 0 rfl (hasL n) _ HO6.out.net.hasL Tryd.underlying86 rfl (by rw [hasL_len]; kernel_rfl) ?_)
      change Code.wp _ _ _ _ _
      generalize hHZ : (hasL n).toArray = HZ at *
      clear hHZ
      have HAT := Lib.hid hat
      clear hat
      have hv0 : (Value.int .u64 0) = .int .u64 (B64 (someTo n 0) : Nat) := by rw [B64_someTo_zero]; rfl
      go_loopg [46, 8] (257 : Nat) (fun k v46 v8 wr => ∃ c : Nat, v46 = .int .i64 c ∧ c ≤ 256 ∧ 257 - c ≤ k ∧ v8 = .int .u64 (B64 (someTo n c) : Nat) ∧ wr = wc)
      case atStart => exact ⟨0, rfl, by omega, by omega, hv0, rfl⟩
      case round =>
        obtain ⟨c, rfl, hc, hck, rfl, rfl⟩ := hrel
        by_cases hlt : c < 256
        · have hl1 : (c : Int) < 256 := by omega
          have hl2 : (0 : Int) ≤ c := by omega
          have hatc := HAT.out c hlt
          have hb1 := B64_lt (someTo n c)
          have hb2 := B64_lt fun q => n.has c q
          have hor : bits .or .u64 (B64 (someTo n c) : Int) ((B64 fun q => n.has c q : Nat) : Int) = (B64 (someTo n (c + 1)) : Int) := by
            rw [bits_or_u64_nat _ _ hb1 hb2, B64_or]
            simp only [← someTo_succ]
          generalize hy : (B64 fun q => n.has c q) = y at *
          have hidx := index_u64 HZ c hlt y hatc
          go_wp2_with fail
          go_roundg (gk - 1)
          case measure => omega
          case rel => exact ⟨c + 1, by go_num, by omega, by omega, rfl, rfl⟩
        · obtain rfl : c = 256 := by omega
          clear hc hck hlt
          have hnk : n.k ≤ 64 := by
            have h1 := add_k t ns0
            have h2 : add t ns0 = (n, q) := HNT.out
            rw [h2] at h1
            have := HLV.out
            simp [ns0] at h1; omega
          have HNK := Lib.hid hnk
          have hnok : n.Ok := by have := (net_ok HOK.out.wf).ok; rw [HNT.out] at this; exact this
          have HNOK := Lib.hid hnok
          have cl := HO6.out.net.c_last
          have ca := HO6.out.net.c_alive
          have fa := HO6.out.net.frozen 323
          have hls := B64_lt (someTo n 256)
          have hand : bits .and .u64 (B64 q.last : Int) (B64 (someTo n 256) : Int) = ((B64 fun x => q.last x && someP n x : Nat) : Int) := by
            rw [bits_and_u64_nat _ _ (B64_lt _) hls, B64_and]; rfl
          clear hnk hnok
          go_wp2_with fail
          have HO7 : Hid (OfS w b n q (fun x => q.last x && someP n x) false (wr.setCell ⟨b, 323, none⟩ (.int .u64 (B64 fun x => q.last x && someP n x : Nat)))) := Lib.hid (HO6.out.go (HO6.out.net.set_alive _) (setB _ _ _ _))
          change Code.wp _ _ _ _ _
          generalize wr.setCell ⟨b, 323, none⟩ (.int .u64 (B64 fun x => q.last x && someP n x : Nat)) = W7 at *
          clear HO6 cl ca fa hand
          go_loopg [11] (67 : Nat) (fun k v11 wr2 => ∃ (A2 : Nat → Bool) (more : Bool), v11 = .bool more ∧ (if more = true then cntTo A2 64 + 2 else 1) ≤ k ∧ Hid (OfS w b n q A2 false wr2 ∧ Fix n q A2 ∧ (more = false → Closed n q A2)))
          case atStart => exact ⟨_, true, rfl, (by have := cntTo_le (fun x => q.last x && someP n x) 64; rw [if_pos rfl]; omega), Lib.hid ⟨HO7.out, Fix.start n q, fun e => by cases e⟩⟩
          case round =>
            obtain ⟨A2, more, rfl, hmk, HS⟩ := hrel
            cases more with
            | true =>
              rw [if_pos rfl] at hmk
              have ck := HS.out.1.net.c_k
              generalize gk = g0 at *
              generalize wr = wr2 at *
              go_wp2_with fail
              have HR0 := Lib.hid (Rnd.start HS.out.2.1)
              have HS1 := Lib.hid HS.out.1
              clear HS ck
              go_loopg [67, 11] (65 : Nat) (fun k v67 v11 wr3 => ∃ (i : Nat) (A3 : Nat → Bool) (m3 : Bool), v67 = .int .i64 i ∧ i ≤ n.k ∧ 65 - i ≤ k ∧ v11 = .bool m3 ∧ Hid (OfS w b n q A3 false wr3 ∧ Rnd n q (cntTo A2 64) A3 m3 i))
              case atStart => exact ⟨0, A2, false, rfl, by omega, by omega, rfl, Lib.hid ⟨HS1.out, HR0.out⟩⟩
              case round =>
                clear HS1 HR0
                obtain ⟨i, A3, m3, rfl, hi, hik, rfl, HS⟩ := hrel
                have hnk := HNK.out
                by_cases hlt : i < n.k
                · have hi64 : i < 64 := by omega
                  have hl1 : (i : Int) < n.k := by omega
                  have hl2 : (0 : Int) ≤ i := by omega
                  have hl3 : (i : Int) < 64 := by omega
                  have ca := HS.out.1.net.c_alive
                  have cf := HS.out.1.net.c_fol hi64
                  have fa := HS.out.1.net.frozen 323
                  have hbit : IntKind.u64.wrap ((2 : Int) ^ i) = ((B64 fun x => x == i : Nat) : Int) := by rw [u64wrap_pow _ hi64, B64_one hi64]
                  have b1 := B64_lt (someTo n 256)
                  have b2 := B64_lt fun x => x == i
                  have b3 := B64_lt A3
                  have b4 := B64_lt fun x => n.fol i x
                  have z1 : bits .and .u64 (B64 (someTo n 256) : Int) ((B64 fun x => x == i : Nat) : Int) = ((B64 fun x => someP n x && x == i : Nat) : Int) := by rw [bits_and_u64_nat _ _ b1 b2, B64_and]; rfl
                  have z2 : bits .and .u64 (B64 A3 : Int) ((B64 fun x => x == i : Nat) : Int) = ((B64 fun x => A3 x && x == i : Nat) : Int) := by rw [bits_and_u64_nat _ _ b3 b2, B64_and]
                  have z3 : bits .and .u64 ((B64 fun x => n.fol i x : Nat) : Int) (B64 A3 : Int) = ((B64 fun x => n.fol i x && A3 x : Nat) : Int) := by rw [bits_and_u64_nat _ _ b4 b3, B64_and]
                  have z4 : bits .or .u64 (B64 A3 : Int) ((B64 fun x => x == i : Nat) : Int) = ((B64 fun x => A3 x || x == i : Nat) : Int) := by rw [bits_or_u64_nat _ _ b3 b2, B64_or]
                  have one_iff : ∀ P : Nat → Bool, ((B64 fun x => P x && x == i) ≠ 0 ↔ P i = true) := fun P => by
                    rw [B64_ne_zero]
                    constructor
                    · rintro ⟨k, _, hk⟩
                      simp only [Bool.and_eq_true, beq_iff_eq] at hk
                      obtain ⟨h1, rfl⟩ := hk; exact h1
                    · intro h; exact ⟨i, hi64, by simp [h]⟩
                  have i1 := one_iff (someP n)
                  have i2 := one_iff A3
                  have i3 : (B64 fun x => n.fol i x && A3 x) ≠ 0 → ∃ r, n.fol i r = true ∧ A3 r = true := fun h => by
                    obtain ⟨k, _, hk⟩ := B64_ne_zero.1 h
                    simp only [Bool.and_eq_true] at hk; exact ⟨k, hk⟩
                  have i4 : (B64 fun x => n.fol i x && A3 x) = 0 → ∀ r, n.fol i r = true → A3 r = true → False := fun h r h1 h2 => by
                    have h3 := (B64_zero_iff _).1 h r (by have := (HNOK.out.fol _ _ h1).2; omega)
                    simp only [h1, h2, Bool.and_self] at h3; cases h3
                  generalize (B64 fun x => someP n x && x == i) = y1 at *
                  generalize (B64 fun x => A3 x && x == i) = y2 at *
                  generalize (B64 fun x => n.fol i x && A3 x) = y3 at *
                  have I1 := Lib.hid i1; have I2 := Lib.hid i2; have I3 := Lib.hid i3; have I4 := Lib.hid i4
                  clear one_iff i1 i2 i3 i4 b1 b2 b3 b4
                  by_cases hs : y1 = 0
                  · subst hs
                    have hns : ¬ someP n i = true := fun h => I1.out.2 h rfl
                    have HP := Lib.hid (HS.out.2.pass fun r h1 _ _ => absurd h1 hns)
                    clear hns
                    go_wp2_with fail
                    go_quiet (fail)
                    go_wp2_with fail
                    go_roundg (gk - 1)
                    case measure => omega
                    case rel => exact ⟨i + 1, A3, m3, by go_num, by omega, by omega, rfl, Lib.hid ⟨HS.out.1.on (below_drew _ _ _), HP.out⟩⟩
                  · have hy1 : ((y1 : Int) != 0) = true := by simp; omega
                    have hs1 := I1.out.1 hs
                    by_cases h2 : y2 = 0
                    · subst h2
                      have ha3 : A3 i = false := by
                        cases h : A3 i with
                        | false => rfl
                        | true => exact absurd rfl (I2.out.2 h)
                      by_cases h3 : y3 = 0
                      · subst h3
                        have HP := Lib.hid (HS.out.2.pass fun r _ h1 h2 => (I4.out rfl r h1 h2).elim)
                        clear hs1 ha3
                        go_wp2_with fail
                        go_quiet (fail)
                        go_wp2_with fail
                        go_roundg (gk - 1)
                        case measure => omega
                        case rel => exact ⟨i + 1, A3, m3, by go_num, by omega, by omega, rfl, Lib.hid ⟨HS.out.1.on (below_drew _ _ _), HP.out⟩⟩
                      · have hy3 : ((y3 : Int) != 0) = true := by simp; omega
                        obtain ⟨r, hr1, hr2⟩ := I3.out h3
                        have HP := Lib.hid (HS.out.2.put hi64 hs1 ha3 hr1 hr2)
                        clear hs1 ha3 hr1 hr2
                        go_wp2_with fail
                        go_quiet (fail)
                        go_wp2_with fail
                        go_roundg (gk - 1)
                        case measure => omega
                        case rel => exact ⟨i + 1, _, true, by go_num, by omega, by omega, rfl, Lib.hid ⟨OfS.go (HS.out.1.on (below_drew _ _ _)) (NB.set_alive (HS.out.1.net.on (below_drew _ _ _)) (fun x => A3 x || x == i)) (setB _ _ _ _), HP.out⟩⟩
                    · have hy2 : ((y2 : Int) == 0) = false := by simp; omega
                      have ha3 := I2.out.1 h2
                      have HP := Lib.hid (HS.out.2.pass fun r _ _ _ => ha3)
                      clear hs1 ha3
                      go_wp2_with fail
                      go_quiet (fail)
                      go_wp2_with fail
                      go_roundg (gk - 1)
                      case measure => omega
                      case rel => exact ⟨i + 1, A3, m3, by go_num, by omega, by omega, rfl, Lib.hid ⟨HS.out.1.on (below_drew _ _ _), HP.out⟩⟩
                · obtain rfl : i = n.k := by omega
                  go_wp2_with fail
                  go_roundg (g0 - 1)
                  case measure => omega
                  case rel =>
                    refine ⟨A3, m3, rfl, ?_, Lib.hid ⟨HS.out.1, HS.out.2.fix, fun e => by subst e; exact HS.out.2.closed HNOK.out⟩⟩
                    have h1 := HS.out.2.some
                    cases m3 with
                    | true => rw [if_pos rfl]; have := h1 rfl; omega
                    | false => simp; omega
            | false =>
              have hcl := HS.out.2.2 rfl
              have HCL := Lib.hid hcl
              have hfk : ∀ x, q.first x = true → x < n.k := fun x hx => by
                have := ((net_ok HOK.out.wf).rep.first x (by rw [HNT.out]; exact hx)).2
                rw [HNT.out] at this; exact this
              have ce := HS.out.1.net.c_empty
              have cf := HS.out.1.net.c_first
              have ca := HS.out.1.net.c_alive
              have co := HS.out.1.net.c_open
              have fo := HS.out.1.net.frozen 324
              have b1 := B64_lt q.first
              have b3 := B64_lt A2
              have z1 : bits .and .u64 (B64 q.first : Int) (B64 A2 : Int) = ((B64 fun x => q.first x && A2 x : Nat) : Int) := by rw [bits_and_u64_nat _ _ b1 b3, B64_and]
              have hopen : q.empty = true → openB n q A2 = true := fun h => by simp [openB, h]
              have HOP := Lib.hid hopen
              have HOM := Lib.hid (fun h => openB_more (A := A2) hfk HNK.out h)
              clear hopen hfk hcl b1 b3
              generalize hy : (B64 fun x => q.first x && A2 x) = y at *
              cases hqe : q.empty with
              | true =>
                have hop := Lib.hid (HOP.out hqe)
                rw [hqe] at ce
                clear hqe
                go_wp2_with fail
                go_region
                all_goals
                  go_wp2_with fail
                  go_ret2
                  exact ofIs_ok HTE.out HNT.out (hop.out) ((HS.out.1.go (HS.out.1.net.set_open true) (setB _ _ _ _)).on (below_drew _ _ 1)) HCL.out
              | false =>
                have hop := Lib.hid (HOM.out hqe)
                rw [hqe] at ce
                clear hqe
                by_cases h0 : y = 0
                · subst h0
                  go_wp2_with fail
                  go_region
                  all_goals
                    go_wp2_with fail
                    go_ret2
                    exact ofIs_ok HTE.out HNT.out (by rw [hop.out]; rfl) ((HS.out.1.go (HS.out.1.net.set_open false) (setB _ _ _ _)).on (below_drew _ _ 1)) HCL.out
                · have hy1 : ((y : Int) != 0) = true := by simp; omega
                  have HY := Lib.hid h0
                  go_wp2_with fail
                  go_region
                  all_goals
                    go_wp2_with fail
                    go_ret2
                    exact ofIs_ok HTE.out HNT.out (by rw [hop.out]; exact decide_eq_true HY.out) ((HS.out.1.go (HS.out.1.net.set_open true) (setB _ _ _ _)).on (below_drew _ _ 1)) HCL.out
  · have hx0 : ((x : Int) != 0) = true := by simp; omega
    have HX := Lib.hid hno
    have HB1 := Lib.hid hb1
    clear hx hno hb1
    go_wp2_with fail
    go_ret2
    exact .inr ⟨HX.out, rfl, (hb0.trans (HB1.out.mono hb0.size)).trans ((two_below _ _ _).mono (Nat.le_trans hb0.size HB1.out.size))⟩
end Go.Proofs.YtfhggnbnbopkkaaDoor
