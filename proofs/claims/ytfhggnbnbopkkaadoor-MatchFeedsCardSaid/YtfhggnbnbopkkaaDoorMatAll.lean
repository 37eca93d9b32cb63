/- What the statements' own functions do: sum, all, same. -/
import Derived.Test.YtfhggnbnbopkkaaDoorMatWorks
import Derived.Deep.OwnRows
import Derived.BigQuiet
namespace Go.Proofs.YtfhggnbnbopkkaaDoor
open Go.RowKit PM

set_option maxRecDepth 100000
/-- texts lie at an address -/
structure SIn (w : World) (A : Option Addr) (l : List ByteArray) : Prop where
  at' : ∀ (k : Nat) s, l[k]? = some s → ∃ ad, A = some ad ∧ w.cell? (ad.add k) = some (.string s)
theorem SIn.on {w w' : World} {A : Option Addr} {l : List ByteArray} (h : SIn w A l) (hb : Below w.heap.size w w') : SIn w' A l :=
  ⟨fun k s hk => by
    obtain ⟨ad, e, h1⟩ := h.at' k s hk
    exact ⟨ad, e, (hb.cell (World.block_lt_of_cell? w _ h1)).trans h1⟩⟩
/-- the bytes of texts, one behind the other -/
def catS (l : List ByteArray) : List UInt8 := l.flatMap fun s => s.data.toList
theorem catS_snoc (l : List ByteArray) (s : ByteArray) : catS (l ++ [s]) = catS l ++ s.data.toList := by simp [catS]
theorem take_snocS {l : List ByteArray} {k : Nat} {s : ByteArray} (h : l[k]? = some s) : l.take (k + 1) = l.take k ++ [s] := by
  rw [List.take_add_one, h]; rfl
theorem catS_take {l : List ByteArray} {k : Nat} {s : ByteArray} (h : l[k]? = some s) : catS (l.take (k + 1)) = catS (l.take k) ++ s.data.toList := by
  rw [take_snocS h, catS_snoc]
theorem catS_le (l : List ByteArray) (k : Nat) : (catS (l.take k)).length ≤ (catS l).length := by
  have : catS l = catS (l.take k) ++ catS (l.drop k) := by
    conv => lhs; rw [← List.take_append_drop k l]
    simp only [catS, List.flatMap_append]
  rw [this, List.length_append]; omega
set_option maxHeartbeats 4000000 in
/-- the texts' bytes together, up to a bound: more than it, or all -/
theorem sum_any (A : Option Addr) (c : Nat) (l : List ByteArray) (most : Nat) (w : World) (hA : SIn w A l) (hl : l.length ≤ 9223372036854775806) (hs : ∀ s ∈ l, s.size ≤ 140737488355327) (hm : most ≤ 1000000) :
    Calls Tryd.prog 20 #[.slice A l.length c, .int .i64 most] w fun e w' => w' = w ∧ ∃ n : Nat, e = .returned (.int .i64 n) ∧ (n ≤ most → (catS l).length = n) ∧ (most < n → most < (catS l).length) := by
  have HA := Lib.hid hA
  have HS := Lib.hid hs
  obtain ⟨n, hln⟩ : ∃ n, l.length = n := ⟨_, rfl⟩
  have HN := Lib.hid hln
  rw [hln] at hl ⊢
  clear hA hs hln
  go_enter Tryd.func20, Tryd.ntmps20
  go_wp2_with fail
  go_loopg [6, 5] (n + 1) (fun k v6 v5 wr => ∃ i m : Nat, v6 = .int .i64 i ∧ v5 = .int .i64 m ∧ i ≤ n ∧ n + 1 - i ≤ k ∧ m ≤ 140737489355327 ∧ wr = w ∧ Hid ((catS (l.take i)).length = m))
  case atStart => exact ⟨0, 0, rfl, rfl, by omega, by omega, by omega, rfl, Lib.hid rfl⟩
  case round =>
    obtain ⟨i, m, rfl, rfl, hi, hik, hmb, rfl, HB⟩ := hrel
    have hi0 : (0 : Int) ≤ i := by omega
    by_cases hlt : i < n
    · have hlt1 : (i : Int) < n := by omega
      by_cases hmm : m ≤ most
      · have hmm1 : (m : Int) ≤ most := by omega
        obtain ⟨s, hsi⟩ : ∃ s, l[i]? = some s := ⟨_, List.getElem?_eq_getElem (by rw [HN.out]; exact hlt)⟩
        obtain ⟨ad, rfl, k0⟩ := HA.out.at' i s hsi
        have hsz := HS.out s (List.mem_of_getElem? hsi)
        have HB2 : Hid ((catS (l.take (i + 1))).length = m + s.size) := Lib.hid (by rw [catS_take hsi, List.length_append, HB.out]; rfl)
        clear hsi
        go_wp2_with fail
        go_roundg (gk - 1)
        case measure => omega
        case rel => exact ⟨i + 1, m + s.size, by go_num, by go_num, by omega, by omega, by omega, rfl, HB2⟩
      · have hmm1 : ¬ (m : Int) ≤ most := by omega
        have HF : Hid (most < (catS l).length) := Lib.hid (by have := catS_le l i; rw [HB.out] at this; omega)
        have HM := Lib.hid hmm
        clear hmm
        go_wp2_with fail
        go_ret
        exact ⟨rfl, m, rfl, fun h => absurd h (by have := HM.out; omega), fun _ => HF.out⟩
    · obtain rfl : i = n := by omega
      have HF : Hid ((catS l).length = m) := Lib.hid (by have := HB.out; rw [List.take_of_length_le (by rw [HN.out]; exact Nat.le_refl _)] at this; exact this)
      clear HB
      go_wp2_with fail
      go_ret
      exact ⟨rfl, m, rfl, fun _ => HF.out, fun h => by rw [HF.out]; exact h⟩

/-- what a matcher owns lies above -/
theorem MaN.above {w : World} {x : Mx} {R R' : List Rw} {bv bv' : Value} {B : Nat} (hf : ∀ k, OwnM x R' bv' k → k < w.heap.size → OwnM x R bv k) (hB : ∀ k, OwnM x R bv k → B ≤ k) (hs : B ≤ w.heap.size) : ∀ k, OwnM x R' bv' k → B ≤ k := fun k hk => by
  by_cases h : k < w.heap.size
  · exact hB k (hf k hk h)
  · omega
abbrev TFd : TypeId := 85
/-- what was found, as cells -/
def fdC (f : PM.Fd) : List Value := [.int .i64 f.1, .int .i64 f.2.1, .int .i64 f.2.2.1, .int .i64 f.2.2.2]
def fdsC (l : List PM.Fd) : List Value := l.flatMap fdC
theorem fdsC_len (l : List PM.Fd) : (fdsC l).length = l.length * 4 := by
  induction l with
  | nil => rfl
  | cons x l ih => rw [show fdsC (x :: l) = fdC x ++ fdsC l from rfl, List.length_append, ih, List.length_cons]; simp [fdC]; omega
theorem fdsC_snoc (l : List PM.Fd) (x : PM.Fd) : fdsC (l ++ [x]) = fdsC l ++ fdC x := by simp [fdsC]
theorem fdsC_at : ∀ (l : List PM.Fd) (k : Nat) (x : PM.Fd), l[k]? = some x → ∀ j u, (fdC x)[j]? = some u → (fdsC l)[k * 4 + j]? = some u
  | [], k, x, h => by simp at h
  | y :: l, 0, x, h => fun j u hu => by
    simp at h; subst h
    rw [show fdsC (y :: l) = fdC y ++ fdsC l from rfl, Nat.zero_mul, Nat.zero_add, List.getElem?_append_left (List.getElem?_eq_some_iff.1 hu).1]; exact hu
  | y :: l, k + 1, x, h => fun j u hu => by
    have := fdsC_at l k x (by simpa using h) j u hu
    rw [show fdsC (y :: l) = fdC y ++ fdsC l from rfl, List.getElem?_append_right (by simp [fdC]; omega), show (k + 1) * 4 + j - (fdC y).length = k * 4 + j by simp [fdC]; omega]; exact this
theorem info_fd : (Tryd.prog.info? TFd).map (fun i => (i.zero, i.size, i.bytes)) = some (some (.agg #[.int .i64 0, .int .i64 0, .int .i64 0, .int .i64 0]), 4, 32) := by kernel_rfl
/-- what stands while all goes through pieces -/
structure AllI (w wr : World) (x : Mx) (arms : List Arm) (cur : List UInt8) (R0 : List Rw) (bv0 : Value) (done : List UInt8) (out : Value) (F : List PM.Fd) (K : List UInt8) (n : Nat) (R : List Rw) (bv : Value) : Prop where
  ma : MaIs wr x arms K K R bv
  tp : TurnsP (OwnM x R0 bv0) w wr
  fr : ∀ k, OwnM x R bv k → k < w.heap.size → OwnM x R0 bv0 k
  own : wr.ownsRow w.heap.size TFd 4 out F.length (fdsC F)
  run : runR (trees arms) ([], cur, 0) done = (F, K, n)
  len : K.length ≤ 256
theorem fd_ty : ¬ OwnTy TFd := by unfold OwnTy; decide
theorem run_at (ts : List T) : ∀ (s : List UInt8) (r : List PM.Fd × List UInt8 × Nat), (runR ts r s).2.2 = r.2.2 + s.length
  | [], r => rfl
  | c :: s, r => by
    show (runR ts (stepR ts r c) s).2.2 = _
    rw [run_at ts s (stepR ts r c)]
    have : (stepR ts r c).2.2 = r.2.2 + 1 := by unfold stepR; split <;> rfl
    rw [this, List.length_cons]; omega
theorem run_many (ts : List T) : ∀ (s : List UInt8) (r : List PM.Fd × List UInt8 × Nat), (runR ts r s).1.length ≤ r.1.length + s.length
  | [], r => Nat.le_refl _
  | c :: s, r => by
    have h := run_many ts s (stepR ts r c)
    have : (stepR ts r c).1.length ≤ r.1.length + 1 := by
      unfold stepR
      split
      · rw [List.length_append, List.length_singleton]; exact Nat.le_refl _
      · show r.1.length ≤ r.1.length + 1; omega
    show (runR ts (stepR ts r c) s).1.length ≤ _
    rw [List.length_cons]; omega
/-- a piece more is fed -/
theorem AllI.fed {w wr w2 : World} {x : Mx} {arms : List Arm} {cur : List UInt8} {R0 : List Rw} {bv0 : Value} {done : List UInt8} {out : Value} {F : List PM.Fd} {K : List UInt8} {n : Nat} {R : List Rw} {bv : Value} {s : List UInt8} {e : Ending} (h : AllI w wr x arms cur R0 bv0 done out F K n R bv) (hf : FeedIs x arms K R bv s wr e w2) :
    e = feedV (feed (trees arms) K s) ∧ w2.ownsRow w.heap.size TFd 4 out F.length (fdsC F) ∧ TurnsP (OwnM x R0 bv0) w w2 ∧
      runR (trees arms) ([], cur, 0) (done ++ s.take (feed (trees arms) K s).1) = ((match (feed (trees arms) K s).2.1 with | some (a, p, e) => F ++ [(a, p, e, n + (feed (trees arms) K s).1)] | none => F), (feed (trees arms) K s).2.2, n + (feed (trees arms) K s).1) ∧
      ∃ R' bv', MaIs w2 x arms (feed (trees arms) K s).2.2 (feed (trees arms) K s).2.2 R' bv' ∧ (∀ k, OwnM x R' bv' k → k < w.heap.size → OwnM x R0 bv0 k) ∧ (feed (trees arms) K s).2.2.length ≤ 256 := by
  obtain ⟨h1, h2, R', bv', h3, h4⟩ := hf
  refine ⟨h1, own_keep h.own fun g hg => ?_, h.tp.also h2 fun k hk hl => h.fr k hk hl, ?_, R', bv', h3, fun k hk hl => h.fr k (h4 k hk (Nat.lt_of_lt_of_le hl h.tp.size)) hl, feed_short h.len⟩
  · obtain ⟨cs, hc⟩ := own_typed h.own hg
    exact h2.block g (lt_of_block hc) (h.ma.not hc fd_ty)
  · rw [runR_append, h.run]
    exact feed_run _ _ _ _ _
theorem AllI.on {w wr w2 : World} {x : Mx} {arms : List Arm} {cur : List UInt8} {R0 : List Rw} {bv0 : Value} {done : List UInt8} {out : Value} {F : List PM.Fd} {K : List UInt8} {n : Nat} {R : List Rw} {bv : Value} (h : AllI w wr x arms cur R0 bv0 done out F K n R bv) (hb : Below wr.heap.size wr w2) : AllI w w2 x arms cur R0 bv0 done out F K n R bv :=
  ⟨h.ma.on hb, h.tp.trans (TurnsP.of_below hb), h.fr, own_keep h.own fun g hg => hb.block g (h.own.lt g hg).2, h.run, h.len⟩
/-- a match more is written down -/
theorem AllI.put {w wr w3 : World} (hw : 0 < w.heap.size) {x : Mx} {arms : List Arm} {cur : List UInt8} {R0 : List Rw} {bv0 : Value} {done' : List UInt8} {out : Value} {F : List PM.Fd} {f : PM.Fd} {K : List UInt8} {n g cap : Nat} {R : List Rw} {bv : Value} (hm : MaIs wr x arms K K R bv) (tp : TurnsP (OwnM x R0 bv0) w wr) (fr : ∀ k, OwnM x R bv k → k < w.heap.size → OwnM x R0 bv0 k) (ho : wr.ownsRow w.heap.size TFd 4 out F.length (fdsC F))
    (hr : runR (trees arms) ([], cur, 0) done' = (F ++ [f], K, n)) (hl : K.length ≤ 256) (o : Obj) (hown : w3.ownsRow w.heap.size TFd 4 (.slice (some ⟨g, 0, none⟩) (F.length + 1) cap) (F.length + 1) (fdsC F ++ fdC f)) (hgrow : (wr.alloc o).grownBy w3 out.ownBlock) : AllI w w3 x arms cur R0 bv0 done' (.slice (some ⟨g, 0, none⟩) (F.length + 1) cap) (F ++ [f]) K n R bv := by
  have hno : ∀ {k : Nat} {cs : Array Value} {ty : TypeId}, wr.heap[k]? = some (.cells cs ty (0, 0)) → ty ≠ TFd → w3.heap[k]? = wr.heap[k]? := fun {k cs ty} hk hne => by
    have hkl := lt_of_block hk
    exact (hgrow.block k (by rw [World.size_alloc]; omega) (fun e => by
      obtain ⟨cs', h1⟩ := own_typed ho e.symm
      exact ty_ne hk h1 hne rfl)).trans (heap_alloc_old wr o hkl)
  have h0 : w3.heap[0]? = wr.heap[0]? := (hgrow.block 0 (by rw [World.size_alloc]; omega) (fun e => by have := (ho.lt 0 e.symm).1; omega)).trans (heap_alloc_old wr o hm.nets.tab.lt)
  refine ⟨hm.keep (fun k hk => ?_) (fun k cs ty hk hty => hno hk (by rcases hty with rfl | rfl <;> decide)) h0, ⟨hgrow.os.trans tp.os, hgrow.tape.trans tp.tape, hgrow.output.trans tp.output, Nat.le_trans tp.size (by have := hgrow.size; rw [World.size_alloc] at this; omega), fun k hk hn => ?_⟩, fr, ?_, hr, hl⟩
  · obtain ⟨cs, ty, h1, h2⟩ := hm.typed hk
    exact hno h1 (fun e => by subst e; exact fd_ty h2)
  · exact ((hgrow.block k (by rw [World.size_alloc]; have := tp.size; omega) (fun e => by have := (ho.lt k e.symm).1; omega)).trans (heap_alloc_old wr o (Nat.lt_of_lt_of_le hk tp.size))).trans (tp.block k hk hn)
  · rw [List.length_append, List.length_singleton, fdsC_snoc]; exact hown
theorem neq_hit0 (w : World) : (binOp .neq THit (.agg #[.int .i64 0, .int .i64 0, .int .i64 0]) (.agg #[.int .i64 0, .int .i64 0, .int .i64 0])).run Tryd.prog w = .ok (.bool false) w := by
  have h := eq_hit 0 0 0 0 0 0 w
  simp only [binOp] at h ⊢
  generalize Op.equal THit (.agg #[.int .i64 0, .int .i64 0, .int .i64 0]) (.agg #[.int .i64 0, .int .i64 0, .int .i64 0]) = S at *
  rw [Sem.run_bind] at h ⊢
  cases hE : S.run Tryd.prog w with
  | ok b w' =>
    rw [hE] at h
    simp at h ⊢
    obtain ⟨rfl, rfl⟩ := h
    exact ⟨rfl, rfl⟩
  | halt e w' => rw [hE] at h; cases h
theorem ext_none (s : ByteArray) : s.extract s.size s.size = ByteArray.empty := by
  apply ByteArray.ext
  rw [ByteArray.data_extract]
  simp
set_option maxHeartbeats 8000000 in
theorem all_any (x : Mx) (arms : List Arm) (cur : List UInt8) (R : List Rw) (bv : Value) (A : Option Addr) (c : Nat) (l : List ByteArray) (w : World) (hm : MaIs w x arms cur cur R bv) (hc : cur.length ≤ 256) (hA : ∀ w', TurnsP (OwnM x R bv) w w' → SIn w' A l) (hl : l.length ≤ 9223372036854775806) (hs : (catS l).length ≤ 100000) :
    Calls Tryd.prog 24 #[.pointer (some ⟨x.mb, 0, none⟩), .slice A l.length c] w fun e w' => ∃ v F K n R' bv', e = .returned (.tuple #[v, .bool true]) ∧ AllI w w' x arms cur R bv (catS l) v F K n R' bv' := by
  have HI : Hid (AllI w w x arms cur R bv (catS (l.take 0)) (.slice none 0 0) [] cur 0 R bv) := Lib.hid ⟨hm, TurnsP.refl _ _, fun k hk _ => hk, ⟨rfl, .inl ⟨rfl, rfl⟩⟩, rfl, hc⟩
  have hw0 := hm.nets.tab.lt
  have HA := Lib.hid hA
  have HS := Lib.hid hs
  obtain ⟨N, hN⟩ : ∃ N, l.length = N := ⟨_, rfl⟩
  have HN := Lib.hid hN
  rw [hN] at hl ⊢
  clear hA hs hm hN
  have hz := zHit_run
  have hq := neq_hit0
  go_enter Tryd.func24, Tryd.ntmps24
  go_upto_region 4 with (fail)
  go_loopg [8, 7, 6] (N + 1) (fun k v8 v7 v6 wr => ∃ (i : Nat) (F : List PM.Fd) (K : List UInt8) (n : Nat) (R' : List Rw) (bv' : Value), v8 = .int .i64 i ∧ v7 = .int .i64 n ∧ i ≤ N ∧ N + 1 - i ≤ k ∧ Hid (AllI w wr x arms cur R bv (catS (l.take i)) v6 F K n R' bv'))
  case atStart => exact ⟨0, [], cur, 0, R, bv, rfl, rfl, by omega, by omega, HI⟩
  case round =>
    clear HI
    obtain ⟨i, F, K, n, R1, bv1, rfl, rfl, hi, hik, HX⟩ := hrel
    have hi0 : (0 : Int) ≤ i := by omega
    by_cases hlt : i < N
    · have hlt1 : (i : Int) < N := by omega
      obtain ⟨s, hsi⟩ : ∃ s, l[i]? = some s := ⟨_, List.getElem?_eq_getElem (by rw [HN.out]; exact hlt)⟩
      obtain ⟨ad, rfl, k0⟩ := (HA.out wr HX.out.tp).at' i s hsi
      have HSI := Lib.hid hsi
      have HCT := Lib.hid (catS_take hsi)
      have HX2 : Hid (AllI w wr x arms cur R bv (catS (l.take i)) u6 F K n R1 bv1) := HX
      clear hsi HX
      obtain ⟨g0, hg0⟩ : ∃ g0, g0 = gk := ⟨_, rfl⟩
      subst hg0
      go_upto_region 7 with (fail)
      go_loopg [9, 7, 6] (s.size + 1) (fun k v9 v7 v6 wr => ∃ (rest : ByteArray) (done : List UInt8) (F : List PM.Fd) (K : List UInt8) (n : Nat) (R' : List Rw) (bv' : Value), v9 = .string rest ∧ v7 = .int .i64 n ∧ rest.size + 1 ≤ k ∧ rest.size ≤ 100000 ∧ n + rest.size ≤ 100000 ∧ Hid (done ++ rest.data.toList = catS (l.take (i + 1))) ∧ Hid (AllI w wr x arms cur R bv done v6 F K n R' bv'))
      case atStart =>
        have hnn : n = (catS (l.take i)).length := by
          have := run_at (trees arms) (catS (l.take i)) ([], cur, 0)
          rw [HX2.out.run] at this
          simpa using this
        have hle : (catS (l.take (i + 1))).length ≤ 100000 := Nat.le_trans (catS_le l (i + 1)) HS.out
        rw [HCT.out, List.length_append] at hle
        have hsz : s.data.toList.length = s.size := rfl
        exact ⟨s, catS (l.take i), F, K, n, R1, bv1, rfl, rfl, by omega, by omega, by omega, Lib.hid HCT.out.symm, HX2⟩
      case round =>
        clear HX2 k0
        obtain ⟨rest, done, F2, K2, n2, R2, bv2, rfl, rfl, hrk, hrs, hns, HD, HX⟩ := hrel
        by_cases hr0 : 0 < rest.size
        · have hr01 : (0 : Int) < rest.size := by omega
          have HFD := Lib.hid (feed_any x arms K2 R2 bv2 rest wr HX.out.ma HX.out.len (by omega))
          go_wp2_with fail
          refine HFD.out.mono ?_
          intro e w2 hfi
          obtain ⟨he, hown, htp, hrun, R3, bv3, hma, hfr, hkl⟩ := HX.out.fed hfi
          obtain ⟨hfl1, hfl2, hfl3⟩ := feed_le (trees arms) rest.data.toList K2
          have hrl : rest.data.toList.length = rest.size := rfl
          obtain ⟨n1, res, K3, hfd⟩ : ∃ n1 res K3, feed (trees arms) K2 rest.data.toList = (n1, res, K3) := ⟨_, _, _, rfl⟩
          rw [hfd] at he hrun hma hkl hfl1 hfl2 hfl3
          simp only at hrun hma hkl hfl1 hfl2 hfl3
          have hn1 : n1 ≤ rest.size := by rw [← hrl]; exact hfl1
          have hn0 : 0 < n1 := hfl3 (fun e => by rw [e] at hrl; simp at hrl; omega)
          have HDD : Hid ((done ++ rest.data.toList.take n1) ++ (rest.extract n1 rest.size).data.toList = catS (l.take (i + 1))) := Lib.hid (by
            rw [← HD.out, List.append_assoc, ByteArray.data_extract, Array.toList_extract, List.extract_eq_take_drop]
            rw [List.take_of_length_le (l := List.drop n1 rest.data.toList) (by rw [List.length_drop]; exact Nat.le_refl _), List.take_append_drop])
          have hres : (rest.extract n1 rest.size).size = rest.size - n1 := by rw [ByteArray.size_extract]; omega
          have hFl : F2.length ≤ 100000 := by
            have h1 := run_many (trees arms) done ([], cur, 0)
            have h2 := run_at (trees arms) done ([], cur, 0)
            rw [HX.out.run] at h1 h2
            simp at h1 h2
            omega
          cases res with
          | none =>
            obtain rfl : n1 = rest.size := by rw [← hrl]; exact hfl2 rfl
            have he2 : e = .returned (.tuple #[.int .i64 (rest.size : Int), .agg #[.int .i64 0, .int .i64 0, .int .i64 0], .bool false]) := he
            subst he2
            have HX3 := Lib.hid (AllI.on (w2 := w2.alloc (.cells #[.int .i64 0, .int .i64 0, .int .i64 0] THit)) (⟨hma, htp, hfr, hown, hrun, hkl⟩ : AllI w w2 x arms cur R bv (done ++ rest.data.toList.take rest.size) u6 F2 K3 (n2 + rest.size) R3 bv3) (below_new w2 _))
            have hbx := heap_alloc_new w2 (.cells #[.int .i64 0, .int .i64 0, .int .i64 0] THit)
            clear he hfi hown htp hrun hma hfr hkl hfl1 hfl2 hfl3 hfd HFD HX HD hn1
            go_upto_region 9 with (fail)
            change Code.wp _ _ _ _ (w2.alloc (.cells #[.int .i64 0, .int .i64 0, .int .i64 0] THit))
            generalize w2.alloc (.cells #[.int .i64 0, .int .i64 0, .int .i64 0] THit) = W3 at *
            generalize w2.heap.size = b1 at *
            have c0 : W3.cell? ⟨b1, 0, none⟩ = some (.int .i64 0) := by rw [cell_of_row _ _ _ _ _ _ hbx]; rfl
            have c1 : W3.cell? ⟨b1, 1, none⟩ = some (.int .i64 0) := by rw [cell_of_row _ _ _ _ _ _ hbx]; rfl
            have c2 : W3.cell? ⟨b1, 2, none⟩ = some (.int .i64 0) := by rw [cell_of_row _ _ _ _ _ _ hbx]; rfl
            have hr02 : ¬ rest.size < 1 := by omega
            go_wp2_with fail
            go_roundg (gk - 1)
            case measure => omega
            case rel =>
              rw [ext_none] at HDD
              exact ⟨ByteArray.empty, _, F2, K3, n2 + rest.size, R3, bv3, rfl, by go_num, by show 0 + 1 ≤ _; omega, by decide, by show _ + 0 ≤ _; omega, HDD, HX3⟩
          | some f =>
            obtain ⟨a, p, e'⟩ := f
            have he2 : e = .returned (.tuple #[.int .i64 n1, .agg #[.int .i64 a, .int .i64 p, .int .i64 e'], .bool true]) := he
            subst he2
            have hb1 := below_new w2 (.cells #[.int .i64 a, .int .i64 p, .int .i64 e'] THit)
            have HX3 := Lib.hid (And.intro (hma.on hb1) (And.intro (htp.trans (TurnsP.of_below hb1)) (And.intro hfr (And.intro (own_keep hown fun g hg => hb1.block g (hown.lt g hg).2) (And.intro hrun hkl)))))
            have hbx := heap_alloc_new w2 (.cells #[.int .i64 a, .int .i64 p, .int .i64 e'] THit)
            clear he hfi hown htp hrun hma hfr hkl hfl1 hfl2 hfl3 hfd HFD HX HD hb1
            go_upto_region 9 with (fail)
            change Code.wp _ _ _ _ (w2.alloc (.cells #[.int .i64 a, .int .i64 p, .int .i64 e'] THit))
            generalize w2.alloc (.cells #[.int .i64 a, .int .i64 p, .int .i64 e'] THit) = W3 at *
            generalize w2.heap.size = b1 at *
            have c0 : W3.cell? ⟨b1, 0, none⟩ = some (.int .i64 a) := by rw [cell_of_row _ _ _ _ _ _ hbx]; rfl
            have c1 : W3.cell? ⟨b1, 1, none⟩ = some (.int .i64 p) := by rw [cell_of_row _ _ _ _ _ _ hbx]; rfl
            have c2 : W3.cell? ⟨b1, 2, none⟩ = some (.int .i64 e') := by rw [cell_of_row _ _ _ _ _ _ hbx]; rfl
            have hr02 : ¬ n1 < 1 := by omega
            have hn3 := heap_alloc_new W3 (.cells #[.int .i64 a, .int .i64 p, .int .i64 e', .int .i64 ((n2 : Int) + n1)] TFd)
            have HOW := Lib.hid (own_keep (w' := W3.alloc (.cells #[.int .i64 a, .int .i64 p, .int .i64 e', .int .i64 ((n2 : Int) + n1)] TFd)) HX3.out.2.2.2.1 fun g hg => heap_alloc_old W3 _ (HX3.out.2.2.2.1.lt g hg).2)
            have HBS : Hid (w.heap.size ≤ (W3.alloc (.cells #[.int .i64 a, .int .i64 p, .int .i64 e', .int .i64 ((n2 : Int) + n1)] TFd)).heap.size) := Lib.hid (by rw [World.size_alloc]; have := HX3.out.2.1.size; omega)
            obtain ⟨i0, hin, hz0, hz1, hz2⟩ := info_parts info_fd
            go_wp2_with (at_builtin; go_loud (refine wpList_append_lies _ rfl _ _ 47 rfl w.heap.size TFd i0 _ 4 32 Tryd.underlying47 hin hz0 hz1 hz2 rfl (by decide) u6 F2.length _ rfl HOW.out ⟨W3.heap.size, 0, none⟩ 1 1 (fdC (a, p, e', n2 + n1)) rfl rfl (World.news_of_block hn3) (by simp [Value.oneCell', fdC]) (by decide) (by unfold maxLen; omega) (by omega) HBS.out _ rfl ?_; intro g cap w3 hown hgrow hat hlt3))
            have HX5 := Lib.hid (AllI.put hw0 HX3.out.1 HX3.out.2.1 HX3.out.2.2.1 HX3.out.2.2.2.1 HX3.out.2.2.2.2.1 HX3.out.2.2.2.2.2 _ hown hgrow)
            clear hown hgrow hat hlt3 HX3 HOW HBS hn3 hin hz0 hz1 hz2 c0 c1 c2 hbx
            go_roundg (gk - 1)
            case measure => omega
            case rel => exact ⟨rest.extract n1 rest.size, _, F2 ++ [(a, p, e', n2 + n1)], K3, n2 + n1, R3, bv3, rfl, by go_num, by omega, by omega, by omega, HDD, HX5⟩
        · obtain ⟨hrz, hrz2⟩ : rest.size = 0 ∧ ¬ (0 : Int) < rest.size := by omega
          have HX3 : Hid (AllI w wr x arms cur R bv (catS (l.take (i + 1))) u6 F2 K2 n2 R2 bv2) := Lib.hid (by
            have hd := HD.out
            have : rest.data.toList = [] := List.eq_nil_of_length_eq_zero hrz
            rw [this, List.append_nil] at hd
            rw [← hd]; exact HX.out)
          clear HX HD hrz
          go_wp2_with fail
          go_roundg (g0 - 1)
          case measure => omega
          case rel => exact ⟨i + 1, F2, K2, n2, R2, bv2, by go_num, rfl, by omega, by omega, HX3⟩
    · obtain rfl : i = N := by omega
      have HF : Hid (AllI w wr x arms cur R bv (catS l) u6 F K n R1 bv1) := Lib.hid (by have := HX.out; rw [List.take_of_length_le (by rw [HN.out]; exact Nat.le_refl _)] at this; exact this)
      clear HX
      go_wp2_with fail
      go_ret2
      exact ⟨_, F, K, n, R1, bv1, rfl, HF.out⟩
end Go.Proofs.YtfhggnbnbopkkaaDoor
