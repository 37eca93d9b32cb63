/- What patterns one behind the other, either of two, one or none fit: plain. -/
import Derived.Test.YtfhggnbnbopkkaaDoorNfaWays
namespace Go.Proofs.YtfhggnbnbopkkaaDoor.PM

theorem fits_L {s : List UInt8} {t : T} (h : tree 3 s = .ok t) (w : List UInt8) : fitsB t w = true ↔ L t w := fitsB_iff (T.OK.wf (tree_ok h).1) w

theorem fits_cat {a b c : List UInt8} {x y : T} (hx : tree 3 a = .ok x) (hy : tree 3 b = .ok y) (hc : tree 3 c = .ok (.mk 3 noSet [x, y])) (w : List UInt8) :
    fitsB (.mk 3 noSet [x, y]) w = (List.range (w.length + 1)).any fun i => fitsB x (w.take i) && fitsB y (w.drop i) := by
  rw [Bool.eq_iff_iff, fits_L hc, L_catCons]
  simp only [List.any_eq_true, List.mem_range, Bool.and_eq_true]
  constructor
  · rintro ⟨u, v, rfl, h1, h2⟩
    rw [L_catCons] at h2
    obtain ⟨v1, v2, rfl, h3, h4⟩ := h2
    rw [L_catNil] at h4
    subst h4
    rw [List.append_nil]
    refine ⟨u.length, by simp; omega, ?_, ?_⟩
    · rw [List.take_left]; exact (fits_L hx u).2 h1
    · rw [List.drop_left]; exact (fits_L hy v1).2 h3
  · rintro ⟨i, _, h1, h2⟩
    exact ⟨w.take i, w.drop i, (List.take_append_drop i w).symm, (fits_L hx _).1 h1, L_catCons.2 ⟨w.drop i, [], (List.append_nil _).symm, (fits_L hy _).1 h2, L_catNil.2 rfl⟩⟩
theorem fits_alt {a b c : List UInt8} {x y : T} (hx : tree 3 a = .ok x) (hy : tree 3 b = .ok y) (hc : tree 3 c = .ok (.mk 4 noSet [x, y])) (w : List UInt8) :
    fitsB (.mk 4 noSet [x, y]) w = (fitsB x w || fitsB y w) := by
  rw [Bool.eq_iff_iff, fits_L hc, L_alt, Bool.or_eq_true, fits_L hx, fits_L hy]
  simp
theorem fits_opt {a c : List UInt8} {x : T} (hx : tree 3 a = .ok x) (hc : tree 3 c = .ok (over 7 x)) (w : List UInt8) :
    fitsB (over 7 x) w = (w.isEmpty || fitsB x w) := by
  rw [Bool.eq_iff_iff, fits_L hc, Bool.or_eq_true, fits_L hx, over, L_opt, List.isEmpty_iff]
end Go.Proofs.YtfhggnbnbopkkaaDoor.PM
