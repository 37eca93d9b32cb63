/- The register of the CRC-32C, bit by bit, as a linear map over bits; what follows of it. -/
namespace Go.Proofs.Ytcgojpdgcoddnaa.CrcMath

def poly : Nat := 0x82f63b78

/-- one bit's step, nothing coming in -/
def st (x : Nat) : Nat := (x / 2) ^^^ (if x % 2 = 1 then poly else 0)

def stn : Nat → Nat → Nat
  | 0, x => x
  | n + 1, x => stn n (st x)

theorem xor_div_two (a b : Nat) : (a ^^^ b) / 2 = (a / 2) ^^^ (b / 2) := by
  apply Nat.eq_of_testBit_eq; intro i
  simp [Nat.testBit_div_two]

theorem xor_mod_two (a b : Nat) : (a ^^^ b) % 2 = (a % 2 + b % 2) % 2 := by
  have h := Nat.testBit_xor a b 0
  rw [Nat.testBit_zero, Nat.testBit_zero, Nat.testBit_zero] at h
  rcases Nat.mod_two_eq_zero_or_one a with ha | ha <;> rcases Nat.mod_two_eq_zero_or_one b with hb | hb <;>
    rcases Nat.mod_two_eq_zero_or_one (a ^^^ b) with hc | hc <;> simp [ha, hb, hc] at h ⊢

theorem st_xor (a b : Nat) : st (a ^^^ b) = st a ^^^ st b := by
  unfold st
  rw [xor_div_two, xor_mod_two]
  rcases Nat.mod_two_eq_zero_or_one a with ha | ha <;> rcases Nat.mod_two_eq_zero_or_one b with hb | hb <;> simp only [ha, hb]
  · simp
  · simp [Nat.xor_assoc]
  · simp only [if_true, if_neg (show ¬ (0:Nat) = 1 from by decide), Nat.xor_zero]
    rw [Nat.xor_assoc, Nat.xor_comm (b / 2), ← Nat.xor_assoc]
  · simp only [Nat.reduceAdd, Nat.reduceMod, if_true, if_neg (show ¬ (0:Nat) = 1 from by decide), Nat.xor_zero]
    rw [Nat.xor_assoc (a / 2) poly, ← Nat.xor_assoc poly (b / 2), Nat.xor_comm poly (b / 2), Nat.xor_assoc (b/2), Nat.xor_self, Nat.xor_zero]

theorem poly_lt : poly < 2 ^ 32 := by decide

theorem st_lt {x : Nat} (h : x < 2 ^ 32) : st x < 2 ^ 32 := by
  unfold st
  apply Nat.xor_lt_two_pow
  · omega
  · split
    · exact poly_lt
    · decide

theorem st_zero : st 0 = 0 := by decide

theorem st_even (y : Nat) : st (2 * y) = y := by
  unfold st
  rw [if_neg (by omega)]; simp

theorem st_eq_zero {x : Nat} (h : x < 2 ^ 32) (hz : st x = 0) : x = 0 := by
  unfold st at hz
  by_cases ho : x % 2 = 1
  · rw [if_pos ho] at hz
    have h2 : (x / 2) = poly := by
      have := congrArg (· ^^^ poly) hz
      simpa [Nat.xor_assoc] using this
    have : poly = 0x82f63b78 := rfl
    omega
  · rw [if_neg ho, Nat.xor_zero] at hz
    omega

theorem stn_xor (n : Nat) : ∀ a b : Nat, stn n (a ^^^ b) = stn n a ^^^ stn n b := by
  induction n with
  | zero => intro a b; rfl
  | succ n ih => intro a b; simp only [stn]; rw [st_xor, ih]

theorem stn_lt (n : Nat) : ∀ {x : Nat}, x < 2 ^ 32 → stn n x < 2 ^ 32 := by
  induction n with
  | zero => intro x h; exact h
  | succ n ih => intro x h; exact ih (st_lt h)

theorem stn_zero (n : Nat) : stn n 0 = 0 := by
  induction n with
  | zero => rfl
  | succ n ih => simp only [stn, st_zero, ih]

theorem stn_eq_zero (n : Nat) : ∀ {x : Nat}, x < 2 ^ 32 → stn n x = 0 → x = 0 := by
  induction n with
  | zero => intro x _ h; exact h
  | succ n ih => intro x h hz; exact st_eq_zero h (ih (st_lt h) hz)

theorem stn_add (m n : Nat) : ∀ x : Nat, stn (m + n) x = stn n (stn m x) := by
  induction m with
  | zero => intro x; simp [stn]
  | succ m ih => intro x; rw [Nat.succ_add]; simp only [stn]; exact ih _

theorem stn_succ (n x : Nat) : stn (n + 1) x = st (stn n x) := by rw [stn_add]; rfl

theorem stn_comm (m n x : Nat) : stn m (stn n x) = stn n (stn m x) := by
  rw [← stn_add, ← stn_add, Nat.add_comm]

theorem stn_mul_pow (n : Nat) : ∀ y : Nat, stn n (2 ^ n * y) = y := by
  induction n with
  | zero => intro y; simp [stn]
  | succ n ih =>
    intro y
    simp only [stn]
    rw [show 2 ^ (n + 1) * y = 2 * (2 ^ n * y) from by rw [Nat.pow_succ, Nat.mul_comm (2 ^ n) 2, Nat.mul_assoc], st_even, ih]

/-- a number is its low part and its high part, added without carry -/
theorem low_high (n x : Nat) : x = (x % 2 ^ n) ^^^ (2 ^ n * (x / 2 ^ n)) := by
  apply Nat.eq_of_testBit_eq; intro i
  rw [Nat.testBit_xor, Nat.testBit_mod_two_pow, Nat.testBit_two_pow_mul, Nat.testBit_div_two_pow]
  by_cases h : i < n
  · simp [h, show ¬ i ≥ n from by omega]
  · simp [h, show i ≥ n from by omega]

/-- n steps at once: the low n bits' own, and the rest shifted down -/
theorem stn_table (n x : Nat) : stn n x = stn n (x % 2 ^ n) ^^^ (x / 2 ^ n) := by
  conv => lhs; rw [low_high n x]
  rw [stn_xor, stn_mul_pow]

theorem stn_nibble (x : Nat) : stn 4 x = stn 4 (x % 16) ^^^ (x / 16) := stn_table 4 x

/-- bits taken in one by one are the same as taken in at once -/
theorem st_in (x b : Nat) : st (x ^^^ b) = st (x ^^^ (b % 2)) ^^^ (b / 2) := by
  rw [st_xor x b, st_xor x (b % 2)]
  have : st b = st (b % 2) ^^^ (b / 2) := by
    have := stn_table 1 b
    simpa [stn] using this
  rw [this, Nat.xor_assoc]

/-- the register behind bits, the first one being the lowest of e -/
def bitsIn : Nat → Nat → Nat → Nat
  | 0, x, _ => x
  | n + 1, x, e => bitsIn n (st (x ^^^ (e % 2))) (e / 2)

theorem bitsIn_eq (n : Nat) : ∀ x e : Nat, e < 2 ^ n → bitsIn n x e = stn n (x ^^^ e) := by
  induction n with
  | zero => intro x e h; have : e = 0 := by simpa using h
            subst this; simp [bitsIn, stn]
  | succ n ih =>
    intro x e h
    simp only [bitsIn, stn]
    rw [ih _ _ (by rw [Nat.pow_succ] at h; omega), st_in x e]

/-- the register behind bytes -/
def reg (x : Nat) : List UInt8 → Nat
  | [] => x
  | c :: l => reg (stn 8 (x ^^^ c.toNat)) l

def ones : Nat := 0xffffffff
def more (sum : Nat) (l : List UInt8) : Nat := reg (sum ^^^ ones) l ^^^ ones
def crc (l : List UInt8) : Nat := more 0 l

theorem reg_append (l m : List UInt8) : ∀ x, reg x (l ++ m) = reg (reg x l) m := by
  induction l with
  | nil => intro x; rfl
  | cons c l ih => intro x; exact ih _

theorem byte_lt (c : UInt8) : c.toNat < 2 ^ 32 := by have := c.toNat_lt; omega

theorem reg_lt (l : List UInt8) : ∀ {x}, x < 2 ^ 32 → reg x l < 2 ^ 32 := by
  induction l with
  | nil => intro x h; exact h
  | cons c l ih => intro x h; exact ih (stn_lt 8 (Nat.xor_lt_two_pow h (byte_lt c)))

theorem ones_lt : ones < 2 ^ 32 := by decide

theorem more_lt {s : Nat} (l : List UInt8) (h : s < 2 ^ 32) : more s l < 2 ^ 32 :=
  Nat.xor_lt_two_pow (reg_lt l (Nat.xor_lt_two_pow h ones_lt)) ones_lt

theorem crc_lt (l : List UInt8) : crc l < 2 ^ 32 := more_lt l (by decide)

/-- affine in the register -/
theorem reg_affine (l : List UInt8) : ∀ x y, reg (x ^^^ y) l = stn (8 * l.length) x ^^^ reg y l := by
  induction l with
  | nil => intro x y; simp [reg, stn]
  | cons c l ih =>
    intro x y
    simp only [reg, List.length_cons]
    rw [Nat.xor_assoc, stn_xor, ih, show 8 * (l.length + 1) = 8 + 8 * l.length from by omega, stn_add]

theorem more_more (s : Nat) (l m : List UInt8) : more (more s l) m = more s (l ++ m) := by
  unfold more
  rw [Nat.xor_assoc, Nat.xor_self, Nat.xor_zero, reg_append]

/-- the sum of two texts, by moving the first's -/
theorem more_join (a : Nat) (l : List UInt8) : more a l = stn (8 * l.length) a ^^^ crc l := by
  unfold crc more
  rw [reg_affine]
  simp [Nat.xor_assoc]

theorem crc_append (l m : List UInt8) : crc (l ++ m) = stn (8 * m.length) (crc l) ^^^ crc m := by
  rw [← more_join]; unfold crc; rw [more_more]

/-! the product of polynomials -/

/-- what the loop of 'times' gathers: bit i of a, from n - 1 down, over b moved on -/
def act : Nat → Nat → Nat → Nat
  | 0, _, _ => 0
  | n + 1, a, b => (if a / 2 ^ n % 2 = 1 then b else 0) ^^^ act n a (st b)

theorem act_xor (n : Nat) : ∀ a b c, act n a (b ^^^ c) = act n a b ^^^ act n a c := by
  induction n with
  | zero => intro a b c; simp [act]
  | succ n ih =>
    intro a b c
    simp only [act]
    rw [st_xor, ih]
    split
    · apply Nat.eq_of_testBit_eq; intro i; simp only [Nat.testBit_xor]; cases b.testBit i <;> cases c.testBit i <;> simp
    · simp

theorem act_zero (n : Nat) (a : Nat) : act n a 0 = 0 := by
  induction n with
  | zero => rfl
  | succ n ih => simp [act, st_zero, ih]

theorem act_st (n : Nat) : ∀ a b, act n a (st b) = st (act n a b) := by
  induction n with
  | zero => intro a b; simp [act, st_zero]
  | succ n ih =>
    intro a b
    simp only [act]
    rw [st_xor, ih]
    split <;> simp [st_zero]

theorem act_stn (k n : Nat) : ∀ a b, act n a (stn k b) = stn k (act n a b) := by
  induction k with
  | zero => intro a b; rfl
  | succ k ih => intro a b; simp only [stn]; rw [ih, act_st]

theorem act_act (n m : Nat) : ∀ a b c, act n a (act m b c) = act m b (act n a c) := by
  induction m with
  | zero => intro a b c; simp [act, act_zero]
  | succ m ih =>
    intro a b c
    simp only [act]
    rw [act_xor, ih, act_st]
    split <;> simp [act_zero]

/-- the product with 1 (the highest bit) -/
theorem act_one (n : Nat) (hn : n ≤ 32) : ∀ a, a < 2 ^ n → act n a (2 ^ (n - 1)) = a := by
  induction n with
  | zero => intro a h; have : a = 0 := by simpa using h
            subst this; rfl
  | succ n ih =>
    intro a h
    simp only [act, Nat.add_sub_cancel]
    have hst : act n a (st (2 ^ n)) = a % 2 ^ n := by
      rcases n with _ | n
      · simp [act, Nat.mod_one]
      · rw [show 2 ^ (n + 1) = 2 * 2 ^ n from by rw [Nat.pow_succ, Nat.mul_comm], st_even]
        have hc : ∀ m, m ≤ n + 1 → ∀ b, act m a b = act m (a % 2 ^ (n + 1)) b := by
          intro m
          induction m with
          | zero => intro _ b; rfl
          | succ m ihm =>
            intro hm b
            simp only [act]
            rw [ihm (by omega)]
            have hb : a / 2 ^ m % 2 = a % 2 ^ (n + 1) / 2 ^ m % 2 := by
              have h1 := Nat.testBit_mod_two_pow a (n + 1) m
              simp only [Nat.testBit_eq_decide_div_mod_eq, show m < n + 1 from by omega, decide_true, Bool.true_and] at h1
              have h2 : (a % 2 ^ (n+1) / 2 ^ m % 2 = 1) ↔ (a / 2 ^ m % 2 = 1) := by simpa using h1
              omega
            rw [hb]
        rw [hc _ (Nat.le_refl _)]
        have := ih (by omega) (a % 2 ^ (n + 1)) (Nat.mod_lt _ (by exact Nat.two_pow_pos _))
        simp only [Nat.add_sub_cancel] at this
        rw [this, show 2 * 2 ^ n = 2 ^ (n + 1) from by rw [Nat.pow_succ, Nat.mul_comm]]
    rw [hst]
    have hq : a / 2 ^ n < 2 := by
      rw [Nat.div_lt_iff_lt_mul (Nat.two_pow_pos n)]; rw [Nat.pow_succ, Nat.mul_comm] at h; exact h
    conv => rhs; rw [low_high n a]
    generalize a / 2 ^ n = q at hq ⊢
    rcases (show q = 0 ∨ q = 1 from by omega) with h0 | h0 <;> simp [h0, Nat.xor_comm]

def times (a b : Nat) : Nat := act 32 a b
def one : Nat := 2 ^ 31

theorem times_one {a : Nat} (h : a < 2 ^ 32) : times a one = a := act_one 32 (by omega) a h

theorem times_comm {a b : Nat} (ha : a < 2 ^ 32) (hb : b < 2 ^ 32) : times a b = times b a := by
  conv => lhs; rw [← times_one hb]
  conv => rhs; rw [← times_one ha]
  exact act_act 32 32 a b one

theorem one_lt : one < 2 ^ 32 := by decide

/-- the product with a power of x moves -/
theorem times_pow (k : Nat) {a : Nat} (ha : a < 2 ^ 32) : times a (stn k one) = stn k a := by
  unfold times; rw [act_stn]; congr 1; exact times_one ha

theorem times_pow' (k : Nat) {a : Nat} (ha : a < 2 ^ 32) : times (stn k one) a = stn k a := by
  rw [times_comm (stn_lt k one_lt) ha, times_pow k ha]

theorem times_pows (k m : Nat) : times (stn k one) (stn m one) = stn (k + m) one := by
  rw [times_pow m (stn_lt k one_lt), stn_add]

theorem stn8_one : stn 8 one = 2 ^ 23 := by decide


/-! the number of bytes, the first one lowest; the register by it -/

def num : List UInt8 → Nat
  | [] => 0
  | c :: l => c.toNat ^^^ (2 ^ 8 * num l)

theorem reg_num (l : List UInt8) : ∀ x, reg x l = stn (8 * l.length) (x ^^^ num l) := by
  induction l with
  | nil => intro x; simp [reg, num, stn]
  | cons c l ih =>
    intro x
    simp only [reg, num, List.length_cons]
    rw [ih, show 8 * (l.length + 1) = 8 + 8 * l.length from by omega, stn_add, ← Nat.xor_assoc, stn_xor 8 (x ^^^ c.toNat), stn_mul_pow]

theorem crc_num (l : List UInt8) : crc l = stn (8 * l.length) (ones ^^^ num l) ^^^ ones := by
  unfold crc more
  rw [reg_num, Nat.zero_xor]

theorem xor_cancel {a b c : Nat} : a ^^^ c = b ^^^ c ↔ a = b := by
  constructor
  · intro h
    have := congrArg (· ^^^ c) h
    simpa [Nat.xor_assoc] using this
  · rintro rfl; rfl

/-- of two texts of one length the sums are the same just if nothing is left of what parts them -/
theorem crc_eq_iff {l m : List UInt8} (h : l.length = m.length) : crc l = crc m ↔ stn (8 * m.length) (num l ^^^ num m) = 0 := by
  rw [crc_num, crc_num, xor_cancel, h, stn_xor, stn_xor, stn_xor]
  constructor
  · intro e
    have := congrArg (stn (8 * m.length) ones ^^^ ·) e
    simp only [← Nat.xor_assoc, Nat.xor_self, Nat.zero_xor] at this
    rw [this, Nat.xor_self]
  · intro e
    have := congrArg (· ^^^ stn (8 * m.length) (num m)) e
    simp only [Nat.xor_assoc, Nat.xor_self, Nat.xor_zero, Nat.zero_xor] at this
    rw [this]

/-- bits turned within a window -/
theorem crc_window {l m : List UInt8} {at_ e : Nat} (h : l.length = m.length) (hn : num l = num m ^^^ (2 ^ at_ * e)) (ha : at_ ≤ 8 * m.length) (he : e < 2 ^ 32) : (crc l = crc m ↔ e = 0) := by
  rw [crc_eq_iff h, hn, Nat.xor_comm (num m), Nat.xor_assoc, Nat.xor_self, Nat.xor_zero,
    show 8 * m.length = at_ + (8 * m.length - at_) from by omega, stn_add, stn_mul_pow]
  exact ⟨stn_eq_zero _ he, fun h => by rw [h, stn_zero]⟩

theorem pow_mul_xor (n a b : Nat) : 2 ^ n * (a ^^^ b) = (2 ^ n * a) ^^^ (2 ^ n * b) := by
  apply Nat.eq_of_testBit_eq; intro i
  simp only [Nat.testBit_xor, Nat.testBit_two_pow_mul]
  cases decide (n ≤ i) <;> simp

theorem num_set (l : List UInt8) : ∀ (j : Nat) (c : UInt8), j < l.length → num (l.set j c) = num l ^^^ (2 ^ (8 * j) * ((l.getD j 0).toNat ^^^ c.toNat)) := by
  induction l with
  | nil => intro j c h; simp at h
  | cons a l ih =>
    intro j c h
    cases j with
    | zero =>
      simp only [List.set_cons_zero, num, Nat.mul_zero, Nat.pow_zero, Nat.one_mul, List.getD_cons_zero]
      rw [Nat.xor_comm a.toNat (2 ^ 8 * num l), Nat.xor_assoc, ← Nat.xor_assoc a.toNat, Nat.xor_self, Nat.zero_xor, Nat.xor_comm]
    | succ j =>
      simp only [List.set_cons_succ, num, List.getD_cons_succ]
      rw [ih j c (by simpa using h), Nat.xor_assoc]
      congr 1
      rw [pow_mul_xor, ← Nat.mul_assoc, ← Nat.pow_add, show 8 + 8 * j = 8 * (j + 1) from by omega]

theorem num_three : ∀ (l a b c : List UInt8), a.length = l.length → b.length = l.length → c.length = l.length →
    (∀ i, i < l.length → (l.getD i 0) = (a.getD i 0) ^^^ (b.getD i 0) ^^^ (c.getD i 0)) → num l = num a ^^^ num b ^^^ num c
  | [], a, b, c, ha, hb, hc, _ => by
    have h1 : a = [] := List.eq_nil_of_length_eq_zero (by simpa using ha)
    have h2 : b = [] := List.eq_nil_of_length_eq_zero (by simpa using hb)
    have h3 : c = [] := List.eq_nil_of_length_eq_zero (by simpa using hc)
    subst h1 h2 h3; simp [num]
  | x :: l, a, b, c, ha, hb, hc, h => by
    cases a with
    | nil => simp at ha
    | cons a0 a =>
      cases b with
      | nil => simp at hb
      | cons b0 b =>
        cases c with
        | nil => simp at hc
        | cons c0 c =>
          have h0 := h 0 (by simp)
          simp only [List.getD_cons_zero] at h0
          have ih := num_three l a b c (by simpa using ha) (by simpa using hb) (by simpa using hc) (fun i hi => by
            have := h (i + 1) (by simpa using hi)
            simpa using this)
          simp only [num]
          rw [ih, h0]
          apply Nat.eq_of_testBit_eq; intro i
          simp only [UInt8.toNat_xor, Nat.testBit_xor, Nat.testBit_two_pow_mul]
          cases decide (8 ≤ i) <;> simp
          cases a0.toNat.testBit i <;> cases b0.toNat.testBit i <;> cases c0.toNat.testBit i <;> simp
          all_goals (cases (num a).testBit (i-8) <;> cases (num b).testBit (i-8) <;> cases (num c).testBit (i-8) <;> simp)

theorem crc_three {l a b c : List UInt8} (ha : a.length = l.length) (hb : b.length = l.length) (hc : c.length = l.length)
    (h : ∀ i, i < l.length → (l.getD i 0) = (a.getD i 0) ^^^ (b.getD i 0) ^^^ (c.getD i 0)) : crc l = crc a ^^^ crc b ^^^ crc c := by
  rw [crc_num, crc_num, crc_num, crc_num, ha, hb, hc, num_three l a b c ha hb hc h]
  simp only [stn_xor]
  generalize stn (8 * l.length) ones = o
  generalize stn (8 * l.length) (num a) = x
  generalize stn (8 * l.length) (num b) = y
  generalize stn (8 * l.length) (num c) = z
  apply Nat.eq_of_testBit_eq; intro i
  simp only [Nat.testBit_xor]
  cases o.testBit i <;> cases x.testBit i <;> cases y.testBit i <;> cases z.testBit i <;> cases ones.testBit i <;> rfl

end Go.Proofs.Ytcgojpdgcoddnaa.CrcMath
