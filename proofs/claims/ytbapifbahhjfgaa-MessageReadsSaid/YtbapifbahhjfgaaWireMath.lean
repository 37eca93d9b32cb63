/- Numbers and texts as bytes, and a reader of them, in plain words: what is written is read as it was; what ends too early is found out. -/
namespace Go.Proofs.Ytbapifbahhjfgaa.WM

/-- a number's bytes, so many, the highest first -/
def be : Nat → Nat → List UInt8
  | 0, _ => []
  | w + 1, n => be w (n / 256) ++ [UInt8.ofNat (n % 256)]

theorem be_len (w : Nat) : ∀ n, (be w n).length = w := by
  induction w with
  | zero => intro n; rfl
  | succ w ih => intro n; simp [be, ih]

def val (l : List UInt8) : Nat := l.foldl (fun x c => x * 256 + c.toNat) 0

theorem snoc_ind {α : Type} {p : List α → Prop} (h0 : p []) (h1 : ∀ l c, p l → p (l ++ [c])) (l : List α) : p l := by
  rw [← List.reverse_reverse l]
  induction l.reverse with
  | nil => exact h0
  | cons c r ih => rw [List.reverse_cons]; exact h1 _ _ ih

theorem val_snoc (l : List UInt8) (c : UInt8) : val (l ++ [c]) = val l * 256 + c.toNat := by simp [val]

theorem val_lt (l : List UInt8) : val l < 256 ^ l.length := by
  refine snoc_ind (p := fun l => val l < 256 ^ l.length) (by simp [val]) (fun l c ih => ?_) l
  · rw [val_snoc, List.length_append, List.length_singleton, Nat.pow_succ]
    have := c.toNat_lt
    omega

theorem val_be (w : Nat) : ∀ n, n < 256 ^ w → val (be w n) = n := by
  induction w with
  | zero => intro n h; have : n = 0 := by simpa using h
            subst this; rfl
  | succ w ih =>
    intro n h
    simp only [be]
    rw [val_snoc, ih _ (by rw [Nat.pow_succ] at h; omega), UInt8.toNat_ofNat']
    omega

theorem be_val (l : List UInt8) : be l.length (val l) = l := by
  refine snoc_ind (p := fun l => be l.length (val l) = l) rfl (fun l c ih => ?_) l
  · rw [val_snoc, List.length_append, List.length_singleton]
    simp only [be]
    have h1 : (val l * 256 + c.toNat) / 256 = val l := by have := c.toNat_lt; omega
    have h2 : (val l * 256 + c.toNat) % 256 = c.toNat := by have := c.toNat_lt; omega
    rw [h1, h2, ih]
    simp

theorem be_inj {w m n : Nat} (hm : m < 256 ^ w) (hn : n < 256 ^ w) (h : be w m = be w n) : m = n := by
  rw [← val_be w m hm, ← val_be w n hn, h]

def text (s : List UInt8) : List UInt8 := be 4 s.length ++ s
def texts (l : List (List UInt8)) : List UInt8 := be 4 l.length ++ (l.map text).flatten

/-- where a reader stands: at a place, or something went wrong first, at a place -/
inductive St where
  | ok (at_ : Nat)
  | bad (e p : Nat)

def num (s : List UInt8) (k : Nat) : St → Nat × St
  | .ok a => if s.length - a < k then (0, .bad 7 a) else (val ((s.drop a).take k), .ok (a + k))
  | st => (0, st)

def bool (s : List UInt8) : St → Bool × St
  | .ok a => match num s 1 (.ok a) with
    | (n, .ok b) => if 1 < n then (false, .bad 7 a) else (n == 1, .ok b)
    | (_, st) => (false, st)
  | st => (false, st)

def textR (s : List UInt8) (most : Int) : St → List UInt8 × St
  | .ok a => match num s 4 (.ok a) with
    | (n, .ok b) => if most < n then ([], .bad 3 a) else if s.length - b < n then ([], .bad 7 a) else ((s.drop b).take n, .ok (b + n))
    | (_, st) => ([], st)
  | st => ([], st)

def loopR (s : List UInt8) (most : Int) : Nat → St → List (List UInt8) → List (List UInt8) × St
  | 0, st, acc => (acc, st)
  | n + 1, st, acc => match textR s most st with
    | (t, .ok b) => loopR s most n (.ok b) (acc ++ [t])
    | (_, st) => ([], st)

def textsR (s : List UInt8) (count most : Int) : St → List (List UInt8) × St
  | .ok a => match num s 4 (.ok a) with
    | (n, .ok b) => if count < n then ([], .bad 3 a) else loopR s most n (.ok b) []
    | (_, st) => ([], st)
  | st => ([], st)

/-! ### there and back -/

theorem take_at {α : Type} (pre x post : List α) : ((pre ++ x ++ post).drop pre.length).take x.length = x := by
  simp

theorem num_back (pre post : List UInt8) (k n : Nat) (hn : n < 256 ^ k) : num (pre ++ be k n ++ post) k (.ok pre.length) = (n, .ok (pre ++ be k n).length) := by
  have h1 := be_len k n
  have h2 := take_at pre (be k n) post
  rw [h1] at h2
  simp only [num]
  rw [if_neg (by simp [h1]), h2, val_be k n hn]
  simp [h1]

theorem textR_back (pre post t : List UInt8) (most : Int) (ht : t.length < 256 ^ 4) (hm : (t.length : Int) ≤ most) :
    textR (pre ++ text t ++ post) most (.ok pre.length) = (t, .ok (pre ++ text t).length) := by
  have h := num_back pre (t ++ post) 4 t.length ht
  have hs : pre ++ text t ++ post = pre ++ be 4 t.length ++ (t ++ post) := by simp [text]
  have h4 := be_len 4 t.length
  simp only [textR]
  rw [hs, h]
  simp only []
  rw [if_neg (by omega), if_neg (by simp; omega)]
  have := take_at (pre ++ be 4 t.length) t post
  rw [show pre ++ be 4 t.length ++ (t ++ post) = pre ++ be 4 t.length ++ t ++ post from by simp, this]
  simp [text, h4]; omega

theorem loopR_back (l : List (List UInt8)) : ∀ (pre post : List UInt8) (acc : List (List UInt8)) (most : Int), (∀ t ∈ l, t.length < 256 ^ 4 ∧ (t.length : Int) ≤ most) →
    loopR (pre ++ (l.map text).flatten ++ post) most l.length (.ok pre.length) acc = (acc ++ l, .ok (pre ++ (l.map text).flatten).length) := by
  induction l with
  | nil => intro pre post acc most _; simp [loopR]
  | cons t l ih =>
    intro pre post acc most h
    have ht := h t (by simp)
    have hs : pre ++ ((t :: l).map text).flatten ++ post = pre ++ text t ++ ((l.map text).flatten ++ post) := by simp
    simp only [List.length_cons, loopR]
    rw [hs, textR_back pre _ t most ht.1 ht.2]
    simp only []
    have := ih (pre ++ text t) post (acc ++ [t]) most (fun u hu => h u (by simp [hu]))
    rw [show pre ++ text t ++ ((l.map text).flatten ++ post) = pre ++ text t ++ (l.map text).flatten ++ post from by simp, this]
    simp

theorem textsR_back (pre post : List UInt8) (l : List (List UInt8)) (count most : Int) (hl : l.length < 256 ^ 4) (hc : (l.length : Int) ≤ count) (h : ∀ t ∈ l, t.length < 256 ^ 4 ∧ (t.length : Int) ≤ most) :
    textsR (pre ++ texts l ++ post) count most (.ok pre.length) = (l, .ok (pre ++ texts l).length) := by
  have hn := num_back pre ((l.map text).flatten ++ post) 4 l.length hl
  have hs : pre ++ texts l ++ post = pre ++ be 4 l.length ++ ((l.map text).flatten ++ post) := by simp [texts]
  simp only [textsR]
  rw [hs, hn]
  simp only []
  rw [if_neg (by omega)]
  have := loopR_back l (pre ++ be 4 l.length) post [] most h
  rw [show pre ++ be 4 l.length ++ ((l.map text).flatten ++ post) = pre ++ be 4 l.length ++ (l.map text).flatten ++ post from by simp, this]
  simp [texts]

end Go.Proofs.Ytbapifbahhjfgaa.WM
