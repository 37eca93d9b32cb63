/- Messages there and back, in plain words. -/
import Derived.Test.YtbapifbahhjfgaaMsgDec
import Derived.Test.YtbapifbahhjfgaaMsgSame
namespace Go.Proofs.Ytbapifbahhjfgaa
open Go.RowKit

/-- what the widths of the form can hold -/
structure Msg.Fit (m : Msg) : Prop where
  kind : m.kind < 256
  op : m.op < 256
  err : 0 ≤ m.err ∧ m.err ≤ 999
  leader : 0 ≤ m.leader ∧ m.leader ≤ 3
  n : ∀ k, k < 15 → 0 ≤ m.n k ∧ m.n k ≤ 1125899906842624
  ents : m.ents.length ≤ 4
  data : m.data.size ≤ 3500
  each : ∀ x ∈ m.ents, 0 ≤ x.1 ∧ x.1 ≤ 1125899906842624 ∧ x.2.size ≤ 3500

theorem Msg.Ok.fit {m : Msg} (h : m.Ok) (ho : m.op < 256) : m.Fit := ⟨by have := h.kind; omega, ho, h.err, h.leader, h.n, h.ents, h.data, h.each⟩

theorem num_at (l pre post : List UInt8) (k n : Nat) (hl : l = pre ++ (WM.be k n ++ post)) (hn : n < 256 ^ k) : WM.num l k (.ok pre.length) = (n, .ok (pre ++ WM.be k n).length) := by
  rw [hl, ← List.append_assoc]; exact WM.num_back pre post k n hn
theorem text_at (l pre post t : List UInt8) (hl : l = pre ++ (WM.text t ++ post)) (ht : t.length ≤ 3500) : WM.textR l 3500 (.ok pre.length) = (t, .ok (pre ++ WM.text t).length) := by
  rw [hl, ← List.append_assoc]; exact WM.textR_back pre post t 3500 (by omega) (by omega)
theorem bool_at (l pre post : List UInt8) (b : Bool) (hl : l = pre ++ (WM.be 1 (if b then 1 else 0) ++ post)) : WM.bool l (.ok pre.length) = (b, .ok (pre ++ WM.be 1 (if b then 1 else 0)).length) := by
  have h := num_at l pre post 1 (if b then 1 else 0) hl (by split <;> omega)
  simp only [WM.bool]
  rw [h]
  cases b <;> rfl

theorem nums_at (l pre : List UInt8) (m : Msg) (hm : ∀ k, k < 15 → 0 ≤ m.n k ∧ m.n k ≤ 1125899906842624) : ∀ (k : Nat) (post : List UInt8), k ≤ 15 → l = pre ++ (nsForm m k ++ post) →
    (numsR l k (.ok pre.length)).2 = .ok (pre ++ nsForm m k).length ∧ ∀ i, i < k → (numsR l k (.ok pre.length)).1 i = m.n i
  | 0, post, _, hl => by
    refine ⟨?_, fun i hi => absurd hi (Nat.not_lt_zero _)⟩
    simp [numsR, nsForm]
  | k + 1, post, hk, hl => by
    have h0 := hm k (by omega)
    have hl2 : l = pre ++ (nsForm m k ++ (WM.be 8 (m.n k).toNat ++ post)) := by rw [hl, nsForm_succ]; simp
    obtain ⟨h1, h2⟩ := nums_at l pre m hm k _ (by omega) hl2
    have h3 := num_at l (pre ++ nsForm m k) post 8 (m.n k).toNat (by rw [hl2]; simp) (by omega)
    simp only [numsR, h1]
    rw [h3]
    refine ⟨?_, fun i hi => ?_⟩
    · rw [nsForm_succ]; simp
    · by_cases e : i = k
      · subst e
        simp only [if_pos]
        rw [Nat.mod_eq_of_lt (by unfold p63; omega)]
        omega
      · simp only [if_neg e]
        exact h2 i (by omega)

theorem ents_at (l pre : List UInt8) (es : List (Int × ByteArray)) (he : ∀ x ∈ es, 0 ≤ x.1 ∧ x.1 ≤ 1125899906842624 ∧ x.2.size ≤ 3500) : ∀ (k : Nat) (post : List UInt8), k ≤ es.length → l = pre ++ (esForm (es.take k) ++ post) →
    entsR l k (.ok pre.length) = (es.take k, .ok (pre ++ esForm (es.take k)).length)
  | 0, post, _, hl => by simp [entsR, esForm]
  | k + 1, post, hk, hl => by
    have h0 := he es[k] (List.getElem_mem _)
    have hl2 : l = pre ++ (esForm (es.take k) ++ (WM.be 8 es[k].1.toNat ++ WM.text es[k].2.data.toList ++ post)) := by rw [hl, esForm_snoc es k hk]; simp
    have h1 := ents_at l pre es he k _ (by omega) hl2
    have h3 := num_at l (pre ++ esForm (es.take k)) (WM.text es[k].2.data.toList ++ post) 8 es[k].1.toNat (by rw [hl2]; simp) (by omega)
    have h4 := text_at l (pre ++ esForm (es.take k) ++ WM.be 8 es[k].1.toNat) post es[k].2.data.toList (by rw [hl2]; simp) (by have : es[k].2.data.toList.length = es[k].2.size := rfl; omega)
    simp only [entsR, h1]
    rw [h3]
    simp only []
    rw [h4]
    simp only []
    rw [esForm_snoc es k hk]
    simp only [List.append_assoc, Prod.mk.injEq, and_true]
    rw [List.take_succ_eq_append_getElem (by omega)]
    congr 1
    rw [Nat.mod_eq_of_lt (by unfold p63; omega), bs_of, Int.toNat_of_nonneg h0.1]

theorem raw_at (m : Msg) (h : m.Fit) (post : List UInt8) : (rawMsg (m.form ++ post)).Eqv m ∧ rawEnd (m.form ++ post) = .ok m.form.length := by
  obtain ⟨l, hl⟩ : ∃ l, l = m.form ++ post := ⟨_, rfl⟩
  rw [← hl]
  have hl := hl
  simp only [Msg.form, midForm, List.append_assoc] at hl
  have k0 := h.kind
  have k1 := h.op
  have k2 := h.err
  have k3 := h.leader
  have k4 := h.ents
  have k5 : m.data.data.toList.length ≤ 3500 := h.data
  have h1 := num_at l [] _ 1 m.kind (by rw [hl]; rfl) (by omega)
  obtain ⟨h2, h2'⟩ := nums_at l (WM.be 1 m.kind) m h.n 15 _ (Nat.le_refl _) hl
  have h3 := bool_at l (WM.be 1 m.kind ++ nsForm m 15) _ m.good (by rw [hl, List.append_assoc])
  have h4 := num_at l (WM.be 1 m.kind ++ nsForm m 15 ++ WM.be 1 (if m.good then 1 else 0)) _ 1 m.op (by rw [hl]; simp only [List.append_assoc]; rfl) (by omega)
  have h5 := num_at l (WM.be 1 m.kind ++ nsForm m 15 ++ WM.be 1 (if m.good then 1 else 0) ++ WM.be 1 m.op) _ 4 m.err.toNat (by rw [hl]; simp only [List.append_assoc]; rfl) (by omega)
  have h6 := num_at l (WM.be 1 m.kind ++ nsForm m 15 ++ WM.be 1 (if m.good then 1 else 0) ++ WM.be 1 m.op ++ WM.be 4 m.err.toNat) _ 1 m.leader.toNat (by rw [hl]; simp only [List.append_assoc]; rfl) (by omega)
  have h7 := text_at l (WM.be 1 m.kind ++ nsForm m 15 ++ WM.be 1 (if m.good then 1 else 0) ++ WM.be 1 m.op ++ WM.be 4 m.err.toNat ++ WM.be 1 m.leader.toNat) _ m.data.data.toList (by rw [hl]; simp only [List.append_assoc]; rfl) k5
  have h8 := num_at l (WM.be 1 m.kind ++ nsForm m 15 ++ WM.be 1 (if m.good then 1 else 0) ++ WM.be 1 m.op ++ WM.be 4 m.err.toNat ++ WM.be 1 m.leader.toNat ++ WM.text m.data.data.toList) _ 1 m.ents.length (by rw [hl]; simp only [List.append_assoc]; rfl) (by omega)
  have h9 := ents_at l (WM.be 1 m.kind ++ nsForm m 15 ++ WM.be 1 (if m.good then 1 else 0) ++ WM.be 1 m.op ++ WM.be 4 m.err.toNat ++ WM.be 1 m.leader.toNat ++ WM.text m.data.data.toList ++ WM.be 1 m.ents.length) m.ents h.each m.ents.length post (Nat.le_refl _) (by rw [hl, List.take_length]; simp only [List.append_assoc])
  have s1 : st1 l = .ok (WM.be 1 m.kind).length := by unfold st1; exact congrArg Prod.snd h1
  have s2 : st2 l = .ok (WM.be 1 m.kind ++ nsForm m 15).length := by unfold st2; rw [s1]; exact h2
  have s3 : st3 l = .ok (WM.be 1 m.kind ++ nsForm m 15 ++ WM.be 1 (if m.good then 1 else 0)).length := by unfold st3; rw [s2]; exact congrArg Prod.snd h3
  have s4 : st4 l = .ok (WM.be 1 m.kind ++ nsForm m 15 ++ WM.be 1 (if m.good then 1 else 0) ++ WM.be 1 m.op).length := by unfold st4; rw [s3]; exact congrArg Prod.snd h4
  have s5 : st5 l = .ok (WM.be 1 m.kind ++ nsForm m 15 ++ WM.be 1 (if m.good then 1 else 0) ++ WM.be 1 m.op ++ WM.be 4 m.err.toNat).length := by unfold st5; rw [s4]; exact congrArg Prod.snd h5
  have s6 : st6 l = .ok (WM.be 1 m.kind ++ nsForm m 15 ++ WM.be 1 (if m.good then 1 else 0) ++ WM.be 1 m.op ++ WM.be 4 m.err.toNat ++ WM.be 1 m.leader.toNat).length := by unfold st6; rw [s5]; exact congrArg Prod.snd h6
  have s7 : st7 l = .ok (WM.be 1 m.kind ++ nsForm m 15 ++ WM.be 1 (if m.good then 1 else 0) ++ WM.be 1 m.op ++ WM.be 4 m.err.toNat ++ WM.be 1 m.leader.toNat ++ WM.text m.data.data.toList).length := by unfold st7; rw [s6]; exact congrArg Prod.snd h7
  have s8 : st8 l = .ok (WM.be 1 m.kind ++ nsForm m 15 ++ WM.be 1 (if m.good then 1 else 0) ++ WM.be 1 m.op ++ WM.be 4 m.err.toNat ++ WM.be 1 m.leader.toNat ++ WM.text m.data.data.toList ++ WM.be 1 m.ents.length).length := by unfold st8; rw [s7]; exact congrArg Prod.snd h8
  have c8 : cnt l = m.ents.length := by unfold cnt; rw [s7]; exact congrArg Prod.fst h8
  have cm : min (cnt l) 4 = m.ents.length := by rw [c8]; omega
  rw [List.take_length] at h9
  refine ⟨⟨fun k hk => ?_, ?_, ?_, ?_, ?_, ?_, ?_, ?_⟩, ?_⟩
  · simp only [rawMsg]; rw [s1]; exact h2' k hk
  · simp only [rawMsg]; exact congrArg Prod.fst h1
  · simp only [rawMsg]; rw [s2]; exact congrArg Prod.fst h3
  · simp only [rawMsg]; rw [s3]; exact congrArg Prod.fst h4
  · simp only [rawMsg]; rw [s4, h5]; simp only []; omega
  · simp only [rawMsg]; rw [s5, h6]; simp only []; omega
  · simp only [rawMsg]; rw [s6, h7]; rfl
  · simp only [rawMsg]; rw [cm, s8, h9]
  · unfold rawEnd
    rw [cm, s8, h9]
    simp only [Msg.form, midForm, List.append_assoc]

theorem Msg.Eqv.symm {a b : Msg} (h : a.Eqv b) : b.Eqv a := ⟨fun k hk => (h.n k hk).symm, h.kind.symm, h.good.symm, h.op.symm, h.err.symm, h.leader.symm, h.data.symm, h.ents.symm⟩
theorem Msg.Eqv.trans {a b c : Msg} (h : a.Eqv b) (h' : b.Eqv c) : a.Eqv c := ⟨fun k hk => (h.n k hk).trans (h'.n k hk), h.kind.trans h'.kind, h.good.trans h'.good, h.op.trans h'.op, h.err.trans h'.err, h.leader.trans h'.leader, h.data.trans h'.data, h.ents.trans h'.ents⟩
theorem Msg.Eqv.refl (a : Msg) : a.Eqv a := ⟨fun _ _ => rfl, rfl, rfl, rfl, rfl, rfl, rfl, rfl⟩

theorem Msg.Eqv.nsForm {a b : Msg} (h : a.Eqv b) : ∀ k, k ≤ 15 → nsForm a k = nsForm b k
  | 0, _ => rfl
  | k + 1, hk => by rw [nsForm_succ, nsForm_succ, h.nsForm k (by omega), h.n k (by omega)]
theorem Msg.Eqv.form {a b : Msg} (h : a.Eqv b) : a.form = b.form := by
  unfold Msg.form midForm
  rw [h.nsForm 15 (Nat.le_refl _), h.kind, h.good, h.op, h.err, h.leader, h.data, h.ents]
theorem Msg.Eqv.numsBad {a b : Msg} (h : a.Eqv b) : a.numsBad = b.numsBad := by
  unfold Msg.numsBad
  rw [Bool.eq_iff_iff, List.any_eq_true, List.any_eq_true]
  constructor
  · rintro ⟨k, hk, h2⟩; exact ⟨k, hk, by rw [← h.n k (List.mem_range.1 hk)]; exact h2⟩
  · rintro ⟨k, hk, h2⟩; exact ⟨k, hk, by rw [h.n k (List.mem_range.1 hk)]; exact h2⟩
theorem Msg.Eqv.check {a b : Msg} (h : a.Eqv b) : a.check = b.check := by
  unfold Msg.check Msg.headBad
  rw [h.numsBad, h.kind, h.err, h.leader, h.data, h.ents]

theorem bs_toList (l : List UInt8) : (bs l).data.toList = l := rfl
theorem bs_sz (l : List UInt8) : (bs l).size = l.length := by show l.toArray.size = _; simp

theorem decode_bs (l : List UInt8) : decode (bs l) = if (endOf (bs l) (rawEnd l)).1 ≠ 0 then (zeroMsg, endOf (bs l) (rawEnd l)) else if (rawMsg l).check ≠ 0 ∨ (rawMsg l).form ≠ l then (zeroMsg, 7, 0) else (rawMsg l, 0, 0) := rfl

theorem decode_form (m : Msg) (hc : m.check = 0) (ho : m.op < 256) : (decode (bs m.form)).1.Eqv m ∧ (decode (bs m.form)).2 = (0, 0) := by
  have h := raw_at m ((check_ok m hc).fit ho) []
  rw [List.append_nil] at h
  have he : endOf (bs m.form) (rawEnd m.form) = (0, 0) := by rw [h.2]; simp [endOf, bs_sz]
  rw [decode_bs, if_neg (by rw [he]; simp), if_neg (by rw [h.1.check, h.1.form]; simp [hc])]
  exact ⟨h.1, rfl⟩

theorem form_inj (a b : Msg) (ha : a.check = 0) (hb : b.check = 0) (oa : a.op < 256) (ob : b.op < 256) (h : a.form = b.form) : a.Eqv b := by
  have h1 := decode_form a ha oa
  have h2 := decode_form b hb ob
  rw [h] at h1
  exact h1.1.symm.trans h2.1

theorem decode_more (m : Msg) (h : m.Fit) (post : List UInt8) (hp : post ≠ []) : decode (bs (m.form ++ post)) = (zeroMsg, 7, m.form.length) := by
  have h := raw_at m h post
  have hpl : 0 < post.length := List.length_pos_iff.2 hp
  have he : endOf (bs (m.form ++ post)) (rawEnd (m.form ++ post)) = (7, m.form.length) := by
    rw [h.2]; simp only [endOf]; rw [if_pos (by rw [bs_sz, List.length_append]; omega)]
  rw [decode_bs, if_pos (by rw [he]; simp), he]

theorem decode_unfit (m : Msg) (h : m.Fit) (hc : m.check ≠ 0) : decode (bs m.form) = (zeroMsg, 7, 0) := by
  have h := raw_at m h []
  rw [List.append_nil] at h
  have he : endOf (bs m.form) (rawEnd m.form) = (0, 0) := by rw [h.2]; simp [endOf, bs_sz]
  rw [decode_bs, if_neg (by rw [he]; simp), if_pos (by rw [h.1.check]; exact .inl hc)]

/-- what Decode takes is a form -/
theorem decode_is (s : ByteArray) (h : (decode s).2.1 = 0) : ∃ m : Msg, m.check = 0 ∧ m.op < 256 ∧ m.form = s.data.toList ∧ (decode s).1 = m := by
  unfold decode at h ⊢
  split at h
  · rename_i h1; exact absurd h h1
  · split at h
    · simp at h
    · rename_i h1 h2
      rw [if_neg h1, if_neg h2]
      refine ⟨_, ?_, ?_, ?_, rfl⟩
      · exact Classical.byContradiction fun e => h2 (.inl e)
      · exact num_lt _ 1 _
      · exact Classical.byContradiction fun e => h2 (.inr e)

theorem decode_cut (m : Msg) (hc : m.check = 0) (ho : m.op < 256) (k : Nat) (hk : k < m.form.length) : (decode (bs (m.form.take k))).2.1 ≠ 0 := by
  intro h
  obtain ⟨q, hq, hqo, hqf, -⟩ := decode_is _ h
  rw [bs_toList] at hqf
  have h1 := raw_at q ((check_ok q hq).fit hqo) (m.form.drop k)
  rw [hqf, List.take_append_drop] at h1
  have h2 := raw_at m ((check_ok m hc).fit ho) []
  rw [List.append_nil] at h2
  have h3 := h1.2.symm.trans h2.2
  simp only [WM.St.ok.injEq, List.length_take] at h3
  omega

end Go.Proofs.Ytbapifbahhjfgaa
