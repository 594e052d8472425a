/-
  Parts of the proofs: Ed, Ed2, LadG, LadG2, LadG3, LadG4, LadY.
  No condition.
-/
import Derived.Test.YtjgegdipellpbaaFeG
/-
  Edwards' curves: a complete addition, and that it is a group's.
-/
namespace Go.Bx

theorem fp_mul_ne {a b : Fp} (ha : a ≠ 0) (hb : b ≠ 0) : a * b ≠ 0 := fun h => by
  rcases fp_nozero h with h | h
  · exact ha h
  · exact hb h
theorem fp_cancel {a b c : Fp} (ha : a ≠ 0) (h : a * b = a * c) : b = c := by
  have : a * (b - c) = 0 := by grobner
  rcases fp_nozero this with h | h
  · exact absurd h ha
  · grobner
theorem fp_one_ne : (1 : Fp) ≠ 0 := by decide +kernel
theorem fp_0mul (z : Fp) : 0 * z = 0 := by grobner
theorem fp_mul0 (z : Fp) : z * 0 = 0 := by grobner
theorem fp_add0 (z : Fp) : z + 0 = z := by grobner
theorem fp_two : (2 : Fp) ≠ 0 := by decide +kernel

structure Pt where
  x : Fp
  y : Fp

/-- A point of the curve. -/
def On (D : Fp) (p : Pt) : Prop := p.x * p.x + p.y * p.y = 1 + D * (p.x * p.x * (p.y * p.y))
def NonSq (D : Fp) : Prop := ∀ r : Fp, r * r ≠ D

noncomputable def padd (D : Fp) (p q : Pt) : Pt :=
  ⟨(p.x * q.y + p.y * q.x) * finv (1 + D * (p.x * q.x * (p.y * q.y))), (p.y * q.y - p.x * q.x) * finv (1 - D * (p.x * q.x * (p.y * q.y)))⟩
def pzero : Pt := ⟨0, 1⟩
def pneg (p : Pt) : Pt := ⟨-p.x, p.y⟩

theorem nonsq_ne {D : Fp} (h : NonSq D) : D ≠ 0 := fun e => h 0 (by rw [e]; grobner)

theorem nonsq_mul {D w z : Fp} (h : NonSq D) (hw : w ≠ 0) (e : D * (w * w) = z * z) : False := by
  have hi := finv_mul hw
  generalize finv w = i at *
  exact h (z * i) (by grobner)

/-- No denominator is 0. -/
theorem complete {D : Fp} (h : NonSq D) {p q : Pt} (hp : On D p) (hq : On D q) {e : Fp} (he : e * e = 1) : D * (p.x * q.x * (p.y * q.y)) ≠ e := by
  obtain ⟨x1, y1⟩ := p
  obtain ⟨x2, y2⟩ := q
  unfold On at hp hq
  simp only at hp hq ⊢
  intro hd
  have h0 : x1 * y1 ≠ 0 := fun h0 => by
    have e0 : e = 0 := by grobner
    have : (1 : Fp) = 0 := by rw [← he, e0]; grobner
    exact fp_one_ne this
  have k1 : D * ((x1 * y1 * (x2 + y2)) * (x1 * y1 * (x2 + y2))) = (x1 + e * y1) * (x1 + e * y1) := by grobner
  have k2 : D * ((x1 * y1 * (x2 - y2)) * (x1 * y1 * (x2 - y2))) = (x1 - e * y1) * (x1 - e * y1) := by grobner
  by_cases s : x2 + y2 = 0
  · by_cases t : x2 - y2 = 0
    · have hx : x2 = 0 := by
        have : 2 * x2 = 0 := by grobner
        rcases fp_nozero this with q | q
        · exact absurd q fp_two
        · exact q
      have hy : y2 = 0 := by grobner
      rw [hx, hy] at hq
      simp only [fp_mul0, fp_add0] at hq
      exact fp_one_ne hq.symm
    · exact nonsq_mul h (fp_mul_ne h0 t) k2
  · exact nonsq_mul h (fp_mul_ne h0 s) k1

theorem den_ne {D : Fp} (h : NonSq D) {p q : Pt} (hp : On D p) (hq : On D q) : 1 + D * (p.x * q.x * (p.y * q.y)) ≠ 0 ∧ 1 - D * (p.x * q.x * (p.y * q.y)) ≠ 0 := by
  have h1 := complete h hp hq (e := -1) (by decide +kernel)
  have h2 := complete h hp hq (e := 1) (by decide +kernel)
  generalize D * (p.x * q.x * (p.y * q.y)) = d at *
  exact ⟨fun e => h1 (by grobner), fun e => h2 (by grobner)⟩

/-- What a sum is, without divisions. -/
theorem padd_eq {D : Fp} (h : NonSq D) {p q : Pt} (hp : On D p) (hq : On D q) :
    (padd D p q).x * (1 + D * (p.x * q.x * (p.y * q.y))) = p.x * q.y + p.y * q.x ∧ (padd D p q).y * (1 - D * (p.x * q.x * (p.y * q.y))) = p.y * q.y - p.x * q.x := by
  obtain ⟨h1, h2⟩ := den_ne h hp hq
  have i1 := finv_mul h1
  have i2 := finv_mul h2
  unfold padd
  simp only
  generalize finv (1 + D * (p.x * q.x * (p.y * q.y))) = i at *
  generalize finv (1 - D * (p.x * q.x * (p.y * q.y))) = j at *
  exact ⟨by grobner, by grobner⟩

theorem fp_mulc (a b : Fp) : a * b = b * a := by grobner

theorem padd_uniq {D : Fp} (h : NonSq D) {p q r : Pt} (hp : On D p) (hq : On D q) (h1 : r.x * (1 + D * (p.x * q.x * (p.y * q.y))) = p.x * q.y + p.y * q.x) (h2 : r.y * (1 - D * (p.x * q.x * (p.y * q.y))) = p.y * q.y - p.x * q.x) : padd D p q = r := by
  obtain ⟨d1, d2⟩ := den_ne h hp hq
  obtain ⟨e1, e2⟩ := padd_eq h hp hq
  have a : (padd D p q).x = r.x := fp_cancel d1 (((fp_mulc _ _).trans (e1.trans h1.symm)).trans (fp_mulc _ _))
  have b : (padd D p q).y = r.y := fp_cancel d2 (((fp_mulc _ _).trans (e2.trans h2.symm)).trans (fp_mulc _ _))
  obtain ⟨x, y⟩ := r
  simp only at a b
  rw [← a, ← b]

theorem on_l {x y a b X Y : Fp} (h1 : x * a = X) (h2 : y * b = Y) : a * b * (a * b) * (x * x + y * y) = X * X * (b * b) + Y * Y * (a * a) := by grobner
theorem on_r {D x y a b X Y : Fp} (h1 : x * a = X) (h2 : y * b = Y) : a * b * (a * b) * (1 + D * (x * x * (y * y))) = a * b * (a * b) + D * (X * X * (Y * Y)) := by grobner

/-- The curve's equation, by the inverse of its number. -/
theorem on_c {D c : Fp} (hc : D * c = 1) {p : Pt} (h : On D p) : p.x * p.x * (p.y * p.y) = c * (p.x * p.x + p.y * p.y - 1) := by
  unfold On at h
  generalize p.x = x at *
  generalize p.y = y at *
  grobner

theorem key_on (x1 y1 x2 y2 c : Fp) (e1 : x1 * x1 * (y1 * y1) = c * (x1 * x1 + y1 * y1 - 1)) (e2 : x2 * x2 * (y2 * y2) = c * (x2 * x2 + y2 * y2 - 1)) :
    c * c * ((x1 * y2 + y1 * x2) * (x1 * y2 + y1 * x2) * ((c - x1 * x2 * (y1 * y2)) * (c - x1 * x2 * (y1 * y2))) + (y1 * y2 - x1 * x2) * (y1 * y2 - x1 * x2) * ((c + x1 * x2 * (y1 * y2)) * (c + x1 * x2 * (y1 * y2))))
    = (c + x1 * x2 * (y1 * y2)) * (c + x1 * x2 * (y1 * y2)) * ((c - x1 * x2 * (y1 * y2)) * (c - x1 * x2 * (y1 * y2))) + c * c * c * ((x1 * y2 + y1 * x2) * (x1 * y2 + y1 * x2) * ((y1 * y2 - x1 * x2) * (y1 * y2 - x1 * x2))) := by grobner

theorem key_back (D c A B X Y : Fp) (h : D * c = 1) (k : c * c * (X * X * ((c * B) * (c * B)) + Y * Y * ((c * A) * (c * A))) = (c * A) * (c * A) * ((c * B) * (c * B)) + c * c * c * (X * X * (Y * Y))) :
    X * X * (B * B) + Y * Y * (A * A) = A * B * (A * B) + D * (X * X * (Y * Y)) := by grobner

theorem scale_p {D c t : Fp} (hc : D * c = 1) : c * (1 + D * t) = c + t := by grobner
theorem scale_m {D c t : Fp} (hc : D * c = 1) : c * (1 - D * t) = c - t := by grobner

theorem padd_on {D : Fp} (h : NonSq D) {p q : Pt} (hp : On D p) (hq : On D q) : On D (padd D p q) := by
  obtain ⟨d1, d2⟩ := den_ne h hp hq
  obtain ⟨e1, e2⟩ := padd_eq h hp hq
  have hc := finv_mul (nonsq_ne h)
  have c1 := on_c hc hp
  have c2 := on_c hc hq
  generalize finv D = c at *
  generalize padd D p q = r at *
  have hd := fp_mul_ne d1 d2
  have hdd := fp_mul_ne hd hd
  have kk := key_on p.x p.y q.x q.y c c1 c2
  have p1 := (scale_p (t := p.x * q.x * (p.y * q.y)) hc).symm
  have p2 := (scale_m (t := p.x * q.x * (p.y * q.y)) hc).symm
  rw [p1, p2] at kk
  unfold On
  refine fp_cancel hdd ?_
  rw [on_l e1 e2, on_r e1 e2]
  exact key_back D c _ _ _ _ hc kk

theorem padd_comm (D : Fp) (p q : Pt) : padd D p q = padd D q p := by
  unfold padd
  have e1 : p.x * q.y + p.y * q.x = q.x * p.y + q.y * p.x := by grobner
  have e2 : p.x * q.x * (p.y * q.y) = q.x * p.x * (q.y * p.y) := by grobner
  have e3 : p.y * q.y - p.x * q.x = q.y * p.y - q.x * p.x := by grobner
  rw [e1, e2, e3]

theorem pzero_on (D : Fp) : On D pzero := by unfold On pzero; grobner
theorem pneg_on {D : Fp} {p : Pt} (h : On D p) : On D (pneg p) := by unfold On pneg at *; simp only at *; grobner

theorem padd_zero {D : Fp} (h : NonSq D) {p : Pt} (hp : On D p) : padd D p pzero = p :=
  padd_uniq h hp (pzero_on D) (by simp only [pzero]; grobner) (by simp only [pzero]; grobner)

theorem padd_neg {D : Fp} (h : NonSq D) {p : Pt} (hp : On D p) : padd D p (pneg p) = pzero := by
  refine padd_uniq h hp (pneg_on hp) ?_ ?_
  · simp only [pzero, pneg]; grobner
  · unfold On at hp
    simp only [pzero, pneg]; grobner

theorem key_x (x1 y1 x2 y2 x3 y3 c : Fp) (e1 : x1 * x1 * (y1 * y1) = c * (x1 * x1 + y1 * y1 - 1)) (e2 : x2 * x2 * (y2 * y2) = c * (x2 * x2 + y2 * y2 - 1)) (e3 : x3 * x3 * (y3 * y3) = c * (x3 * x3 + y3 * y3 - 1)) :
    ((x1 * y2 + y1 * x2) * (c - x1 * x2 * (y1 * y2)) * y3 + (y1 * y2 - x1 * x2) * (c + x1 * x2 * (y1 * y2)) * x3) * ((c + x2 * x3 * (y2 * y3)) * (c - x2 * x3 * (y2 * y3)) + c * ((x2 * y3 + y2 * x3) * (y2 * y3 - x2 * x3)) * (x1 * y1))
    = ((x2 * y3 + y2 * x3) * (c - x2 * x3 * (y2 * y3)) * y1 + (y2 * y3 - x2 * x3) * (c + x2 * x3 * (y2 * y3)) * x1) * ((c + x1 * x2 * (y1 * y2)) * (c - x1 * x2 * (y1 * y2)) + c * ((x1 * y2 + y1 * x2) * (y1 * y2 - x1 * x2)) * (x3 * y3)) := by grobner
theorem key_y (x1 y1 x2 y2 x3 y3 c : Fp) (e1 : x1 * x1 * (y1 * y1) = c * (x1 * x1 + y1 * y1 - 1)) (e2 : x2 * x2 * (y2 * y2) = c * (x2 * x2 + y2 * y2 - 1)) (e3 : x3 * x3 * (y3 * y3) = c * (x3 * x3 + y3 * y3 - 1)) :
    ((y1 * y2 - x1 * x2) * (c + x1 * x2 * (y1 * y2)) * y3 - (x1 * y2 + y1 * x2) * (c - x1 * x2 * (y1 * y2)) * x3) * ((c + x2 * x3 * (y2 * y3)) * (c - x2 * x3 * (y2 * y3)) - c * ((x2 * y3 + y2 * x3) * (y2 * y3 - x2 * x3)) * (x1 * y1))
    = ((y2 * y3 - x2 * x3) * (c + x2 * x3 * (y2 * y3)) * y1 - (x2 * y3 + y2 * x3) * (c - x2 * x3 * (y2 * y3)) * x1) * ((c + x1 * x2 * (y1 * y2)) * (c - x1 * x2 * (y1 * y2)) - c * ((x1 * y2 + y1 * x2) * (y1 * y2 - x1 * x2)) * (x3 * y3)) := by grobner

/-- What a sum's sum is: `a`, `b`: the first sum's denominators, `X`, `Y`: its numerators. -/
theorem two_x {D c x y a b X Y u v L : Fp} (hc : D * c = 1) (h1 : x * a = X) (h2 : y * b = Y) (hL : L * (1 + D * (x * u * (y * v))) = x * v + y * u) :
    L * ((c * a) * (c * b) + c * (X * Y) * (u * v)) = c * (X * (c * b) * v + Y * (c * a) * u) := by
  have e : L * (a * b + D * (X * Y * (u * v))) = X * b * v + Y * a * u := by
    rw [← h1, ← h2]
    have : L * (a * b + D * (x * a * (y * b) * (u * v))) = a * b * (L * (1 + D * (x * u * (y * v)))) := by grobner
    rw [this, hL]
    grobner
  have : (c * a) * (c * b) + c * (X * Y) * (u * v) = c * c * (a * b + D * (X * Y * (u * v))) := by grobner
  rw [this]
  grobner
theorem two_y {D c x y a b X Y u v L : Fp} (hc : D * c = 1) (h1 : x * a = X) (h2 : y * b = Y) (hL : L * (1 - D * (x * u * (y * v))) = y * v - x * u) :
    L * ((c * a) * (c * b) - c * (X * Y) * (u * v)) = c * (Y * (c * a) * v - X * (c * b) * u) := by
  have e : L * (a * b - D * (X * Y * (u * v))) = Y * a * v - X * b * u := by
    rw [← h1, ← h2]
    have : L * (a * b - D * (x * a * (y * b) * (u * v))) = a * b * (L * (1 - D * (x * u * (y * v)))) := by grobner
    rw [this, hL]
    grobner
  have : (c * a) * (c * b) - c * (X * Y) * (u * v) = c * c * (a * b - D * (X * Y * (u * v))) := by grobner
  rw [this]
  grobner
/-- These denominators are not 0. -/
theorem c_ne {D c : Fp} (hc : D * c = 1) : c ≠ 0 := fun e => by
  rw [e] at hc
  simp only [fp_mul0] at hc
  exact fp_one_ne hc.symm
theorem two_ne_p {D c x y a b X Y u v : Fp} (hc : D * c = 1) (h1 : x * a = X) (h2 : y * b = Y) (ha : a ≠ 0) (hb : b ≠ 0) (hd : 1 + D * (x * u * (y * v)) ≠ 0) : (c * a) * (c * b) + c * (X * Y) * (u * v) ≠ 0 := by
  have hcn := c_ne hc
  have e : (c * a) * (c * b) + c * (X * Y) * (u * v) = (c * a) * (c * b) * (1 + D * (x * u * (y * v))) := by
    rw [← h1, ← h2]
    grobner
  rw [e]
  exact fp_mul_ne (fp_mul_ne (fp_mul_ne hcn ha) (fp_mul_ne hcn hb)) hd
theorem two_ne_m {D c x y a b X Y u v : Fp} (hc : D * c = 1) (h1 : x * a = X) (h2 : y * b = Y) (ha : a ≠ 0) (hb : b ≠ 0) (hd : 1 - D * (x * u * (y * v)) ≠ 0) : (c * a) * (c * b) - c * (X * Y) * (u * v) ≠ 0 := by
  have hcn := c_ne hc
  have e : (c * a) * (c * b) - c * (X * Y) * (u * v) = (c * a) * (c * b) * (1 - D * (x * u * (y * v))) := by
    rw [← h1, ← h2]
    grobner
  rw [e]
  exact fp_mul_ne (fp_mul_ne (fp_mul_ne hcn ha) (fp_mul_ne hcn hb)) hd

end Go.Bx

/-
  Edwards' curves: the group's laws.
-/
namespace Go.Bx

theorem fin_eq {L R c D1 D2 N1 N2 : Fp} (h1 : L * D1 = c * N1) (h2 : R * D2 = c * N2) (h : N1 * D2 = N2 * D1) (d1 : D1 ≠ 0) (d2 : D2 ≠ 0) : L = R := by
  have : D1 * D2 * (L - R) = 0 := by grobner
  rcases fp_nozero this with q | q
  · exact absurd q (fp_mul_ne d1 d2)
  · grobner

/-- A sum of a sum, without divisions. -/
theorem sum_two {D c : Fp} (h : NonSq D) (hc : D * c = 1) {p q r : Pt} (hp : On D p) (hq : On D q) (hr : On D r) :
    ((padd D (padd D p q) r).x * ((c + p.x * q.x * (p.y * q.y)) * (c - p.x * q.x * (p.y * q.y)) + c * ((p.x * q.y + p.y * q.x) * (p.y * q.y - p.x * q.x)) * (r.x * r.y)) = c * ((p.x * q.y + p.y * q.x) * (c - p.x * q.x * (p.y * q.y)) * r.y + (p.y * q.y - p.x * q.x) * (c + p.x * q.x * (p.y * q.y)) * r.x)) ∧
    ((padd D (padd D p q) r).y * ((c + p.x * q.x * (p.y * q.y)) * (c - p.x * q.x * (p.y * q.y)) - c * ((p.x * q.y + p.y * q.x) * (p.y * q.y - p.x * q.x)) * (r.x * r.y)) = c * ((p.y * q.y - p.x * q.x) * (c + p.x * q.x * (p.y * q.y)) * r.y - (p.x * q.y + p.y * q.x) * (c - p.x * q.x * (p.y * q.y)) * r.x)) ∧
    (c + p.x * q.x * (p.y * q.y)) * (c - p.x * q.x * (p.y * q.y)) + c * ((p.x * q.y + p.y * q.x) * (p.y * q.y - p.x * q.x)) * (r.x * r.y) ≠ 0 ∧
    (c + p.x * q.x * (p.y * q.y)) * (c - p.x * q.x * (p.y * q.y)) - c * ((p.x * q.y + p.y * q.x) * (p.y * q.y - p.x * q.x)) * (r.x * r.y) ≠ 0 := by
  obtain ⟨a, b⟩ := den_ne h hp hq
  obtain ⟨e1, e2⟩ := padd_eq h hp hq
  have hs := padd_on h hp hq
  obtain ⟨a', b'⟩ := den_ne h hs hr
  obtain ⟨f1, f2⟩ := padd_eq h hs hr
  have x1 := two_x hc e1 e2 f1
  have x2 := two_y hc e1 e2 f2
  have x3 := two_ne_p hc e1 e2 a b a'
  have x4 := two_ne_m hc e1 e2 a b b'
  rw [scale_p hc, scale_m hc] at x1 x2 x3 x4
  exact ⟨x1, x2, x3, x4⟩

/-- Sums do not hang on which come first. -/
theorem padd_assoc {D : Fp} (h : NonSq D) {p q r : Pt} (hp : On D p) (hq : On D q) (hr : On D r) : padd D (padd D p q) r = padd D p (padd D q r) := by
  have hc := finv_mul (nonsq_ne h)
  generalize finv D = c at *
  obtain ⟨l1, l2, l3, l4⟩ := sum_two h hc hp hq hr
  obtain ⟨r1, r2, r3, r4⟩ := sum_two h hc hq hr hp
  rw [padd_comm D p (padd D q r)]
  have kx := key_x p.x p.y q.x q.y r.x r.y c (on_c hc hp) (on_c hc hq) (on_c hc hr)
  have ky := key_y p.x p.y q.x q.y r.x r.y c (on_c hc hp) (on_c hc hq) (on_c hc hr)
  have ex := fin_eq l1 r1 kx l3 r3
  have ey := fin_eq l2 r2 ky l4 r4
  generalize padd D (padd D p q) r = s at *
  generalize padd D (padd D q r) p = t at *
  obtain ⟨sx, sy⟩ := s
  obtain ⟨tx, ty⟩ := t
  simp only at ex ey
  rw [ex, ey]

/-- A number of times a point. -/
noncomputable def ptimes (D : Fp) (p : Pt) : Nat → Pt
  | 0 => pzero
  | n + 1 => padd D (ptimes D p n) p

theorem ptimes_on {D : Fp} (h : NonSq D) {p : Pt} (hp : On D p) : ∀ n, On D (ptimes D p n)
  | 0 => pzero_on D
  | n + 1 => padd_on h (ptimes_on h hp n) hp

theorem zero_padd {D : Fp} (h : NonSq D) {p : Pt} (hp : On D p) : padd D pzero p = p := by rw [padd_comm, padd_zero h hp]

theorem ptimes_add {D : Fp} (h : NonSq D) {p : Pt} (hp : On D p) (m : Nat) : ∀ n, ptimes D p (m + n) = padd D (ptimes D p m) (ptimes D p n)
  | 0 => (padd_zero h (ptimes_on h hp m)).symm
  | n + 1 => by
    show padd D (ptimes D p (m + n)) p = padd D (ptimes D p m) (padd D (ptimes D p n) p)
    rw [ptimes_add h hp m n, padd_assoc h (ptimes_on h hp m) (ptimes_on h hp n) hp]

theorem ptimes_mul {D : Fp} (h : NonSq D) {p : Pt} (hp : On D p) (m : Nat) : ∀ n, ptimes D p (m * n) = ptimes D (ptimes D p m) n
  | 0 => rfl
  | n + 1 => by
    show _ = padd D (ptimes D (ptimes D p m) n) (ptimes D p m)
    rw [Nat.mul_succ, ptimes_add h hp, ptimes_mul h hp m n]

theorem ptimes_one {D : Fp} (h : NonSq D) {p : Pt} (hp : On D p) : ptimes D p 1 = p := zero_padd h hp

theorem ptimes_zero {D : Fp} (h : NonSq D) : ∀ n, ptimes D pzero n = pzero
  | 0 => rfl
  | n + 1 => by
    show padd D (ptimes D pzero n) pzero = pzero
    rw [ptimes_zero h n, padd_zero h (pzero_on D)]

end Go.Bx

/-
  The ladder on a curve: what its two points are.
-/
namespace Go.Bx

/-- `x : z` is the first part of a point with this second one. -/
def RepU (s y x z : Fp) : Prop := x * (1 - y) = s * (z * (1 + y)) ∧ (x ≠ 0 ∨ z ≠ 0)

theorem sub_eq0 {a b : Fp} (h : a - b = 0) : a = b := by grobner
theorem two_nz {a : Fp} (h : 2 * a = 0) : a = 0 := by
  rcases fp_nozero h with q | q
  · exact absurd q fp_two
  · exact q
theorem s_ne {s : Fp} (hs : s * s = 1) : s ≠ 0 := fun e => by
  rw [e, fp_mul0] at hs
  exact fp_one_ne hs.symm

theorem rep_form {s y x z : Fp} (hs : s * s = 1) (h : RepU s y x z) : ∃ l, l ≠ 0 ∧ x = l * (s * (1 + y)) ∧ z = l * (1 - y) := by
  obtain ⟨h1, h2⟩ := h
  by_cases hy : 1 - y = 0
  · have y1 : y = 1 := (sub_eq0 hy).symm
    have hz : z = 0 := by
      have : s * (2 * z) = 0 := by rw [y1] at h1; grobner
      rcases fp_nozero this with q | q
      · exact absurd q (s_ne hs)
      · exact two_nz q
    have h2i := finv_mul fp_two
    generalize finv 2 = i at *
    refine ⟨x * s * i, ?_, ?_, ?_⟩
    · intro e
      have : x = 0 := by grobner
      rcases h2 with q | q
      · exact q this
      · exact q hz
    · rw [y1]; grobner
    · rw [y1, hz]; grobner
  · have hi := finv_mul hy
    generalize finv (1 - y) = i at *
    refine ⟨z * i, ?_, ?_, ?_⟩
    · intro e
      have hz : z = 0 := by grobner
      have hx : x * (1 - y) = 0 := by rw [hz] at h1; grobner
      rcases fp_nozero hx with q | q
      · rcases h2 with r | r
        · exact r q
        · exact r hz
      · exact hy q
    · grobner
    · grobner

theorem form_rep {s y x z l : Fp} (hs : s * s = 1) (hl : l ≠ 0) (hx : x = l * (s * (1 + y))) (hz : z = l * (1 - y)) : RepU s y x z := by
  refine ⟨by rw [hx, hz]; grobner, ?_⟩
  by_cases h : z = 0
  · left
    intro e
    have h1 : l * (1 - y) = 0 := by rw [← hz, h]
    have h2 : l * (s * (1 + y)) = 0 := by rw [← hx, e]
    rcases fp_nozero h1 with q | q
    · exact hl q
    · rcases fp_nozero h2 with r | r
      · exact hl r
      · rcases fp_nozero r with r | r
        · exact s_ne hs r
        · have e2 : 2 * (1 : Fp) = (1 - y) + (1 + y) := by grobner
          rw [q, r, fp_add0] at e2
          exact fp_one_ne (two_nz e2)
  · exact .inr h

/-- The curve and its twist: what their numbers have to do with the ladder's. -/
structure Lc (D s w : Fp) : Prop where
  ns : NonSq D
  ss : s * s = 1
  w1 : (1 - D) * w = 1
  kind : (s = 1 ∧ w = 1 + facF) ∨ (s = -1 ∧ w = -facF)

theorem one_ne_dyy {D : Fp} (h : NonSq D) (y : Fp) : 1 - D * (y * y) ≠ 0 := fun e => by
  by_cases hy : y = 0
  · rw [hy] at e
    have : (1 : Fp) = 0 := by
      have := sub_eq0 e
      rw [fp_mul0, fp_mul0] at this
      exact this
    exact fp_one_ne this
  · exact nonsq_mul h hy (z := 1) (by grobner)

theorem dbl_x1 {D f l G y y' : Fp} (hw : (1 - D) * (1 + f) = 1) (k1 : G * (1 + y') = 2 * (y * y) * (1 - D)) :
    (l * (1 * (1 + y)) + l * (1 - y)) * (l * (1 * (1 + y)) + l * (1 - y)) * ((l * (1 * (1 + y)) - l * (1 - y)) * (l * (1 * (1 + y)) - l * (1 - y))) = 1 * (8 * (l * l * (l * l)) * G * (1 + f)) * (1 * (1 + y')) := by
  have e : 1 * (8 * (l * l * (l * l)) * G * (1 + f)) * (1 * (1 + y')) = 8 * (l * l * (l * l)) * (1 + f) * (G * (1 + y')) := by grobner
  have e2 : 8 * (l * l * (l * l)) * (1 + f) * (2 * (y * y) * (1 - D)) = 16 * (l * l * (l * l)) * (y * y) * ((1 - D) * (1 + f)) := by grobner
  rw [e, k1, e2, hw]
  grobner
theorem dbl_z1 {D f l G y y' : Fp} (hw : (1 - D) * (1 + f) = 1) (k2 : G * (1 - y') = 2 * (1 - y * y) * (1 - D * (y * y))) :
    ((l * (1 * (1 + y)) + l * (1 - y)) * (l * (1 * (1 + y)) + l * (1 - y)) - (l * (1 * (1 + y)) - l * (1 - y)) * (l * (1 * (1 + y)) - l * (1 - y))) * ((l * (1 * (1 + y)) + l * (1 - y)) * (l * (1 * (1 + y)) + l * (1 - y)) + f * ((l * (1 * (1 + y)) + l * (1 - y)) * (l * (1 * (1 + y)) + l * (1 - y)) - (l * (1 * (1 + y)) - l * (1 - y)) * (l * (1 * (1 + y)) - l * (1 - y)))) = 1 * (8 * (l * l * (l * l)) * G * (1 + f)) * (1 - y') := by
  have e : 1 * (8 * (l * l * (l * l)) * G * (1 + f)) * (1 - y') = 8 * (l * l * (l * l)) * (1 + f) * (G * (1 - y')) := by grobner
  have hd : D * (1 + f) = f := by grobner
  have e2 : 8 * (l * l * (l * l)) * (1 + f) * (2 * (1 - y * y) * (1 - D * (y * y))) = 16 * (l * l * (l * l)) * (1 - y * y) * (1 + f - D * (1 + f) * (y * y)) := by grobner
  rw [e, k2, e2, hd]
  grobner
theorem dbl_x2 {D f l G y y' : Fp} (hw : (1 - D) * -f = 1) (k1 : G * (1 + y') = 2 * (y * y) * (1 - D)) :
    (l * (-1 * (1 + y)) + l * (1 - y)) * (l * (-1 * (1 + y)) + l * (1 - y)) * ((l * (-1 * (1 + y)) - l * (1 - y)) * (l * (-1 * (1 + y)) - l * (1 - y))) = -1 * (8 * (l * l * (l * l)) * G * -f) * (-1 * (1 + y')) := by
  have e : -1 * (8 * (l * l * (l * l)) * G * -f) * (-1 * (1 + y')) = 8 * (l * l * (l * l)) * -f * (G * (1 + y')) := by grobner
  have e2 : 8 * (l * l * (l * l)) * -f * (2 * (y * y) * (1 - D)) = 16 * (l * l * (l * l)) * (y * y) * ((1 - D) * -f) := by grobner
  rw [e, k1, e2, hw]
  grobner
theorem dbl_z2 {D f l G y y' : Fp} (hw : (1 - D) * -f = 1) (k2 : G * (1 - y') = 2 * (1 - y * y) * (1 - D * (y * y))) :
    ((l * (-1 * (1 + y)) + l * (1 - y)) * (l * (-1 * (1 + y)) + l * (1 - y)) - (l * (-1 * (1 + y)) - l * (1 - y)) * (l * (-1 * (1 + y)) - l * (1 - y))) * ((l * (-1 * (1 + y)) + l * (1 - y)) * (l * (-1 * (1 + y)) + l * (1 - y)) + f * ((l * (-1 * (1 + y)) + l * (1 - y)) * (l * (-1 * (1 + y)) + l * (1 - y)) - (l * (-1 * (1 + y)) - l * (1 - y)) * (l * (-1 * (1 + y)) - l * (1 - y)))) = -1 * (8 * (l * l * (l * l)) * G * -f) * (1 - y') := by
  have e : -1 * (8 * (l * l * (l * l)) * G * -f) * (1 - y') = 8 * (l * l * (l * l)) * f * (G * (1 - y')) := by grobner
  have hd : D * f = 1 + f := by grobner
  have e2 : 8 * (l * l * (l * l)) * f * (2 * (1 - y * y) * (1 - D * (y * y))) = 16 * (l * l * (l * l)) * (1 - y * y) * (f - D * f * (y * y)) := by grobner
  rw [e, k2, e2, hd]
  grobner

/-- Twice a point. -/
theorem rep_dbl {D s w : Fp} (c : Lc D s w) {p : Pt} (hp : On D p) {x z : Fp} (h : RepU s p.y x z) :
    RepU s (padd D p p).y ((x + z) * (x + z) * ((x - z) * (x - z))) (((x + z) * (x + z) - (x - z) * (x - z)) * ((x + z) * (x + z) + facF * ((x + z) * (x + z) - (x - z) * (x - z)))) := by
  obtain ⟨l, hl, rfl, rfl⟩ := rep_form c.ss h
  obtain ⟨_, d2⟩ := den_ne c.ns hp hp
  obtain ⟨_, e2⟩ := padd_eq c.ns hp hp
  have d3 := one_ne_dyy c.ns p.y
  have h2 := fp_two
  have hw : w ≠ 0 := fun e => by
    have := c.w1
    rw [e, fp_mul0] at this
    exact fp_one_ne this.symm
  have hww := c.w1
  have hcurve : p.x * p.x * (1 - D * (p.y * p.y)) = 1 - p.y * p.y := by
    unfold On at hp
    generalize p.x = a at *
    generalize p.y = b at *
    grobner
  generalize (padd D p p).y = y' at *
  generalize hE : 1 - D * (p.x * p.x * (p.y * p.y)) = E at *
  generalize p.x = a at *
  generalize p.y = y at *
  have hne : s * (8 * (l * l * (l * l)) * ((1 - D * (y * y)) * E) * w) ≠ 0 := by
    have h8 : (8 : Fp) ≠ 0 := by decide +kernel
    exact fp_mul_ne (s_ne c.ss) (fp_mul_ne (fp_mul_ne (fp_mul_ne h8 (fp_mul_ne (fp_mul_ne hl hl) (fp_mul_ne hl hl))) (fp_mul_ne d3 d2)) hw)
  have k1 : (1 - D * (y * y)) * E * (1 + y') = 2 * (y * y) * (1 - D) := by
    have q1 : (1 - D * (y * y)) * (E * y') = (1 - D * (y * y)) * (y * y - a * a) := by rw [← e2]; grobner
    have q2 : (1 - D * (y * y)) * E = 1 - D * (y * y) - D * (y * y) * (1 - y * y) := by rw [← hE, ← hcurve]; grobner
    grobner
  have k2 : (1 - D * (y * y)) * E * (1 - y') = 2 * (1 - y * y) * (1 - D * (y * y)) := by
    have q1 : (1 - D * (y * y)) * (E * y') = (1 - D * (y * y)) * (y * y - a * a) := by rw [← e2]; grobner
    have q2 : (1 - D * (y * y)) * E = 1 - D * (y * y) - D * (y * y) * (1 - y * y) := by rw [← hE, ← hcurve]; grobner
    grobner
  clear hE e2 hcurve d2 d3 hp
  generalize (1 - D * (y * y)) * E = G at *
  rcases c.kind with ⟨rfl, hk⟩ | ⟨rfl, hk⟩
  · subst hk
    exact form_rep c.ss hne (dbl_x1 hww k1) (dbl_z1 hww k2)
  · subst hk
    exact form_rep c.ss hne (dbl_x2 hww k1) (dbl_z2 hww k2)

end Go.Bx

/-
  The ladder on a curve: sums of two points whose difference is known.
-/
namespace Go.Bx

theorem key_sum (x2 y2 x3 y3 c : Fp) (e2 : x2 * x2 * (y2 * y2) = c * (x2 * x2 + y2 * y2 - 1)) (e3 : x3 * x3 * (y3 * y3) = c * (x3 * x3 + y3 * y3 - 1)) :
    (y2 + y3) * (y2 + y3) * ((c + x2 * x3 * (y2 * y3) - c * (y2 * y3 + x2 * x3)) * (c - x2 * x3 * (y2 * y3) - c * (y2 * y3 - x2 * x3)))
    = (y3 - y2) * (y3 - y2) * ((c + x2 * x3 * (y2 * y3) + c * (y2 * y3 + x2 * x3)) * (c - x2 * x3 * (y2 * y3) + c * (y2 * y3 - x2 * x3))) := by grobner

/-- The seconds of a difference and of a sum. -/
theorem key_y2 {D c y1 yS A B U V P Q : Fp} (hc : D * c = 1) (hA : A ≠ 0) (hB : B ≠ 0) (h1 : y1 * A = U) (hS : yS * B = V)
    (k : P * ((c * A - c * U) * (c * B - c * V)) = Q * ((c * A + c * U) * (c * B + c * V))) : P * ((1 - y1) * (1 - yS)) = Q * ((1 + y1) * (1 + yS)) := by
  have hcn := c_ne hc
  have hne : c * A * (c * B) ≠ 0 := fp_mul_ne (fp_mul_ne hcn hA) (fp_mul_ne hcn hB)
  refine fp_cancel hne ?_
  rw [← h1, ← hS] at k
  have l : c * A * (c * B) * (P * ((1 - y1) * (1 - yS))) = P * ((c * A - c * (y1 * A)) * (c * B - c * (yS * B))) := by grobner
  have r : c * A * (c * B) * (Q * ((1 + y1) * (1 + yS))) = Q * ((c * A + c * (y1 * A)) * (c * B + c * (yS * B))) := by grobner
  rw [l, r, k]

theorem sum_fin {s K Q y1 yS : Fp} (hs : s * s = 1) : K * (Q * ((1 + y1) * (1 + yS))) = s * (K * Q) * (1 + yS) * (s * (1 + y1)) := by
  have e : s * (K * Q) * (1 + yS) * (s * (1 + y1)) = s * s * (K * (Q * ((1 + y1) * (1 + yS)))) := by grobner
  rw [e, hs]
  grobner

theorem diff_y {D y a b c d : Fp} (h : y * (1 - D * (c * -a * (d * b))) = d * b - c * -a) : y * (1 + D * (a * c * (b * d))) = b * d + a * c := by
  have e : 1 + D * (a * c * (b * d)) = 1 - D * (c * -a * (d * b)) := by grobner
  rw [e, h]
  grobner

theorem sum_alg {s l m y2 y3 u y1 yS : Fp} (hs : s * s = 1) (hu : u * (1 - y1) = s * (1 + y1)) (h1 : 1 - y1 ≠ 0)
    (k : (y2 + y3) * (y2 + y3) * ((1 - y1) * (1 - yS)) = (y3 - y2) * (y3 - y2) * ((1 + y1) * (1 + yS))) {x z : Fp} (hx : x = 16 * (l * l * (m * m)) * ((y3 + y2) * (y3 + y2))) (hz : z = u * (16 * (l * l * (m * m)) * ((y3 - y2) * (y3 - y2)))) :
    x * (1 - yS) = s * (z * (1 + yS)) := by
  refine fp_cancel h1 ?_
  have e1 : (1 - y1) * (x * (1 - yS)) = 16 * (l * l * (m * m)) * ((y2 + y3) * (y2 + y3) * ((1 - y1) * (1 - yS))) := by rw [hx]; grobner
  have e2 : (1 - y1) * (s * (z * (1 + yS))) = s * (16 * (l * l * (m * m)) * ((y3 - y2) * (y3 - y2))) * (1 + yS) * (u * (1 - y1)) := by rw [hz]; grobner
  rw [e1, e2, k, hu]
  exact sum_fin hs

theorem rungs1 {l m y2 y3 : Fp} :
    ((m * (1 * (1 + y3)) - m * (1 - y3)) * (l * (1 * (1 + y2)) + l * (1 - y2)) + (m * (1 * (1 + y3)) + m * (1 - y3)) * (l * (1 * (1 + y2)) - l * (1 - y2))) * ((m * (1 * (1 + y3)) - m * (1 - y3)) * (l * (1 * (1 + y2)) + l * (1 - y2)) + (m * (1 * (1 + y3)) + m * (1 - y3)) * (l * (1 * (1 + y2)) - l * (1 - y2))) = 16 * (l * l * (m * m)) * ((y3 + y2) * (y3 + y2)) ∧
    ((m * (1 * (1 + y3)) - m * (1 - y3)) * (l * (1 * (1 + y2)) + l * (1 - y2)) - (m * (1 * (1 + y3)) + m * (1 - y3)) * (l * (1 * (1 + y2)) - l * (1 - y2))) * ((m * (1 * (1 + y3)) - m * (1 - y3)) * (l * (1 * (1 + y2)) + l * (1 - y2)) - (m * (1 * (1 + y3)) + m * (1 - y3)) * (l * (1 * (1 + y2)) - l * (1 - y2))) = 16 * (l * l * (m * m)) * ((y3 - y2) * (y3 - y2)) := ⟨by grobner, by grobner⟩
theorem rungs2 {l m y2 y3 : Fp} :
    ((m * (-1 * (1 + y3)) - m * (1 - y3)) * (l * (-1 * (1 + y2)) + l * (1 - y2)) + (m * (-1 * (1 + y3)) + m * (1 - y3)) * (l * (-1 * (1 + y2)) - l * (1 - y2))) * ((m * (-1 * (1 + y3)) - m * (1 - y3)) * (l * (-1 * (1 + y2)) + l * (1 - y2)) + (m * (-1 * (1 + y3)) + m * (1 - y3)) * (l * (-1 * (1 + y2)) - l * (1 - y2))) = 16 * (l * l * (m * m)) * ((y3 + y2) * (y3 + y2)) ∧
    ((m * (-1 * (1 + y3)) - m * (1 - y3)) * (l * (-1 * (1 + y2)) + l * (1 - y2)) - (m * (-1 * (1 + y3)) + m * (1 - y3)) * (l * (-1 * (1 + y2)) - l * (1 - y2))) * ((m * (-1 * (1 + y3)) - m * (1 - y3)) * (l * (-1 * (1 + y2)) + l * (1 - y2)) - (m * (-1 * (1 + y3)) + m * (1 - y3)) * (l * (-1 * (1 + y2)) - l * (1 - y2))) = 16 * (l * l * (m * m)) * ((y3 - y2) * (y3 - y2)) := ⟨by grobner, by grobner⟩

/-- The point that the ladder begins with: not nought, and not the one of order 2. -/
structure BaseU (D s u : Fp) (p : Pt) : Prop where
  on : On D p
  eq : u * (1 - p.y) = s * (1 + p.y)
  ne : u ≠ 0

theorem BaseU.y_ne {D s u : Fp} (hs : s * s = 1) {p : Pt} (b : BaseU D s u p) : 1 - p.y ≠ 0 := fun e => by
  have h := b.eq
  have hy : p.y = 1 := (sub_eq0 e).symm
  rw [hy] at h
  have : s * (2 * 1) = 0 := by grobner
  rcases fp_nozero this with q | q
  · exact s_ne hs q
  · exact fp_one_ne (two_nz q)

/-- The sum of two whose difference is the first point. -/
theorem rep_sum {D s w u : Fp} (c : Lc D s w) {p q r : Pt} (hq : On D q) (hr : On D r) (b : BaseU D s u p) (hd : padd D r (pneg q) = p) {x2 z2 x3 z3 : Fp} (h2 : RepU s q.y x2 z2) (h3 : RepU s r.y x3 z3) :
    RepU s (padd D q r).y (((x3 - z3) * (x2 + z2) + (x3 + z3) * (x2 - z2)) * ((x3 - z3) * (x2 + z2) + (x3 + z3) * (x2 - z2))) (u * (((x3 - z3) * (x2 + z2) - (x3 + z3) * (x2 - z2)) * ((x3 - z3) * (x2 + z2) - (x3 + z3) * (x2 - z2)))) := by
  obtain ⟨l, hl, rfl, rfl⟩ := rep_form c.ss h2
  obtain ⟨m, hm, rfl, rfl⟩ := rep_form c.ss h3
  have hy1 := b.y_ne c.ss
  obtain ⟨hbon, hbu, hbn⟩ := b
  have hc := finv_mul (nonsq_ne c.ns)
  generalize finv D = i at *
  obtain ⟨dA, dB⟩ := den_ne c.ns hq hr
  obtain ⟨_, eS⟩ := padd_eq c.ns hq hr
  obtain ⟨_, e1⟩ := padd_eq c.ns hr (pneg_on hq)
  rw [hd] at e1
  have cq := on_c hc hq
  have cr := on_c hc hr
  have k := key_sum q.x q.y r.x r.y i cq cr
  have e1' : p.y * (1 + D * (q.x * r.x * (q.y * r.y))) = q.y * r.y + q.x * r.x := by
    simp only [pneg] at e1
    exact diff_y e1
  rw [← scale_p hc, ← scale_m hc] at k
  have ky := key_y2 hc dA dB e1' eS k
  have hsum : ∀ x z : Fp, x = 16 * (l * l * (m * m)) * ((r.y + q.y) * (r.y + q.y)) → z = u * (16 * (l * l * (m * m)) * ((r.y - q.y) * (r.y - q.y))) → RepU s (padd D q r).y x z := by
    intro x z hx hz
    refine ⟨sum_alg c.ss hbu hy1 ky hx hz, ?_⟩
    by_cases h0 : z = 0
    · left
      intro hx0
      have h16 : 16 * (l * l * (m * m)) ≠ 0 := fp_mul_ne (by decide +kernel) (fp_mul_ne (fp_mul_ne hl hl) (fp_mul_ne hm hm))
      have s1 : r.y + q.y = 0 := by
        rw [hx0] at hx
        rcases fp_nozero hx.symm with t | t
        · exact absurd t h16
        · rcases fp_nozero t with t | t <;> exact t
      have s2 : r.y - q.y = 0 := by
        rw [h0] at hz
        rcases fp_nozero hz.symm with t | t
        · exact absurd t hbn
        · rcases fp_nozero t with t | t
          · exact absurd t h16
          · rcases fp_nozero t with t | t <;> exact t
      have hq0 : q.y = 0 := two_nz (by
        generalize q.y = qy at *
        generalize r.y = ry at *
        clear k ky e1' eS cq cr e1
        grobner)
      have hr0 : r.y = 0 := by rw [hq0, fp_add0] at s1; exact s1
      have p1 : q.x * q.x = 1 := by
        have := hq
        unfold On at this
        rw [hq0, fp_mul0, fp_mul0, fp_mul0, fp_add0, fp_add0] at this
        exact this
      have p2 : r.x * r.x = 1 := by
        have := hr
        unfold On at this
        rw [hr0, fp_mul0, fp_mul0, fp_mul0, fp_add0, fp_add0] at this
        exact this
      have p3 : p.y = q.x * r.x := by
        rw [hq0, hr0, fp_mul0, fp_mul0, fp_mul0, fp_add0] at e1'
        clear k ky eS e1
        generalize p.y = py at *
        generalize q.x = qx at *
        generalize r.x = rx at *
        grobner
      have p4 : p.y * p.y = 1 := by
        rw [p3]
        generalize q.x = qx at *
        generalize r.x = rx at *
        clear k ky e1' eS e1 cq cr
        grobner
      rcases sq_one p4 with t | t
      · exact hy1 (by rw [t]; decide +kernel)
      · rw [t] at hbu
        have : 2 * u = 0 := by
          clear k ky e1' eS e1 cq cr
          grobner
        exact hbn (two_nz this)
    · exact .inr h0
  rcases c.kind with ⟨rfl, _⟩ | ⟨rfl, _⟩
  · exact hsum _ _ (rungs1).1 (by rw [(rungs1).2])
  · exact hsum _ _ (rungs2).1 (by rw [(rungs2).2])

end Go.Bx

/-
  The ladder on a curve: each number is the first part of a point of the curve or of its twist, and the ladder multiplies it.
-/
namespace Go.Bx

theorem pneg_padd (D : Fp) (p q : Pt) : pneg (padd D p q) = padd D (pneg p) (pneg q) := by
  unfold padd pneg
  have e1 : -p.x * -q.x * (p.y * q.y) = p.x * q.x * (p.y * q.y) := by grobner
  have e2 : p.y * q.y - -p.x * -q.x = p.y * q.y - p.x * q.x := by grobner
  have e3 : -p.x * q.y + p.y * -q.x = -(p.x * q.y + p.y * q.x) := by grobner
  simp only
  rw [e1, e2, e3]
  congr 1
  generalize finv (1 + D * (p.x * q.x * (p.y * q.y))) = i
  generalize p.x * q.y + p.y * q.x = X
  grobner

theorem diff_one {D : Fp} (h : NonSq D) {p q : Pt} (hp : On D p) (hq : On D q) : padd D (padd D q p) (pneg q) = p := by
  rw [padd_comm D q p, padd_assoc h hp hq (pneg_on hq), padd_neg h hq, padd_zero h hp]
theorem diff_two {D : Fp} (h : NonSq D) {p q : Pt} (hp : On D p) (hq : On D q) : padd D q (pneg (padd D q p)) = pneg p := by
  rw [pneg_padd, ← padd_assoc h hq (pneg_on hq) (pneg_on hp), padd_neg h hq, zero_padd h (pneg_on hp)]

/-- The number that the bits down from the 254th give, so far. -/
def nk (bit : Nat → Bool) : Nat → Nat
  | 0 => 0
  | k + 1 => nk bit k + nk bit k + (cond (bit (254 - k)) 1 0)

theorem BaseU.neg {D s u : Fp} {p : Pt} (b : BaseU D s u p) : BaseU D s u (pneg p) := ⟨pneg_on b.on, b.eq, b.ne⟩

/-- What the ladder's state stands for. -/
theorem lad_rep {D s w u : Fp} (c : Lc D s w) {p : Pt} (b : BaseU D s u p) (bit : Nat → Bool) : ∀ k, RepU s (ptimes D p (nk bit k)).y (ladF u bit k).x2 (ladF u bit k).z2 ∧ RepU s (ptimes D p (nk bit k + 1)).y (ladF u bit k).x3 (ladF u bit k).z3
  | 0 => by
    have h1 : (1 : Fp) ≠ 0 := fp_one_ne
    refine ⟨⟨?_, .inl h1⟩, ⟨?_, .inr h1⟩⟩
    · show (1 : Fp) * (1 - 1) = s * (0 * (1 + 1))
      rw [fp_0mul, fp_mul0]
      decide +kernel
    · show u * (1 - (padd D pzero p).y) = s * (1 * (1 + (padd D pzero p).y))
      rw [zero_padd c.ns b.on, b.eq]
      grobner
  | k + 1 => by
    obtain ⟨h1, h2⟩ := lad_rep c b bit k
    have on1 := ptimes_on c.ns b.on (nk bit k)
    have on2 := ptimes_on c.ns b.on (nk bit k + 1)
    rw [ladF]
    generalize ladF u bit k = f at *
    rw [nk]
    generalize nk bit k = n at *
    have es : ptimes D p (n + 1) = padd D (ptimes D p n) p := rfl
    cases bit (254 - k)
    · simp only [stepF, cond_false, Nat.add_zero]
      have a1 := rep_dbl c on1 h1
      have a2 := rep_sum c on1 on2 b (by rw [es]; exact diff_one c.ns b.on on1) h1 h2
      rw [← ptimes_add c.ns b.on] at a1 a2
      exact ⟨a1, a2⟩
    · simp only [stepF, cond_true]
      have a1 := rep_dbl c on2 h2
      have a2 := rep_sum c on2 on1 b.neg (by rw [es]; exact diff_two c.ns b.on on1) h2 h1
      rw [← ptimes_add c.ns b.on] at a1 a2
      have e1 : n + 1 + n = n + n + 1 := by omega
      have e2 : n + 1 + (n + 1) = n + n + 1 + 1 := by omega
      rw [e1] at a2
      rw [e2] at a1
      exact ⟨a2, a1⟩

/-- A point's first part: 0 for nought. -/
noncomputable def uval (s y : Fp) : Fp := s * (1 + y) * finv (1 - y)

theorem rep_val {s y x z : Fp} (hs : s * s = 1) (h : RepU s y x z) : x * finv z = uval s y := by
  obtain ⟨h1, h2⟩ := h
  unfold uval
  by_cases hz : z = 0
  · have hx : x ≠ 0 := by
      rcases h2 with q | q
      · exact q
      · exact absurd hz q
    have hy : 1 - y = 0 := by
      have : x * (1 - y) = 0 := by rw [h1, hz, fp_0mul, fp_mul0]
      rcases fp_nozero this with q | q
      · exact absurd q hx
      · exact q
    rw [hz, hy, finv_zero, fp_mul0, fp_mul0]
  · have hy : 1 - y ≠ 0 := fun e => by
      have y1 : y = 1 := (sub_eq0 e).symm
      rw [e, fp_mul0, y1] at h1
      have : s * (2 * z) = 0 := by rw [h1]; grobner
      rcases fp_nozero this with q | q
      · exact s_ne hs q
      · exact hz (two_nz q)
    have i1 := finv_mul hz
    have i2 := finv_mul hy
    generalize finv z = i at *
    generalize finv (1 - y) = j at *
    have hne := fp_mul_ne hz hy
    refine fp_cancel hne ?_
    have l : z * (1 - y) * (x * i) = z * i * (x * (1 - y)) := by grobner
    have r : z * (1 - y) * (s * (1 + y) * j) = (1 - y) * j * (s * (z * (1 + y))) := by grobner
    rw [l, r, i1, i2, h1]

theorem lad_val {D s w u : Fp} (c : Lc D s w) {p : Pt} (b : BaseU D s u p) (bit : Nat → Bool) : ladR u bit = uval s (ptimes D p (nk bit 255)).y :=
  rep_val c.ss (lad_rep c b bit 255).1

/-- From 0 nothing but 0 comes. -/
theorem lad_zero (bit : Nat → Bool) : ladR 0 bit = 0 := by
  have key : ∀ k, (ladF 0 bit k).x2 * (ladF 0 bit k).z2 = 0 ∧ (ladF 0 bit k).x3 * (ladF 0 bit k).z3 = 0 := by
    intro k
    induction k with
    | zero => exact ⟨fp_mul0 1, fp_0mul 1⟩
    | succ k ih =>
      rw [ladF]
      generalize ladF 0 bit k = f at *
      obtain ⟨a, b, c, d⟩ := f
      obtain ⟨h1, h2⟩ := ih
      simp only at h1 h2
      have dbl : ∀ x z : Fp, x * z = 0 → (x + z) * (x + z) * ((x - z) * (x - z)) * (((x + z) * (x + z) - (x - z) * (x - z)) * ((x + z) * (x + z) + facF * ((x + z) * (x + z) - (x - z) * (x - z)))) = 0 := by
        intro x z h
        have : (x + z) * (x + z) - (x - z) * (x - z) = 0 := by grobner
        rw [this, fp_0mul, fp_mul0]
      have sm : ∀ x z : Fp, x * (0 * z) = 0 := fun x z => by rw [fp_0mul, fp_mul0]
      unfold stepF
      cases bit (254 - k)
      · exact ⟨dbl a b h1, sm _ _⟩
      · exact ⟨sm _ _, dbl c d h2⟩
  have h := (key 255).1
  unfold ladR
  rcases fp_nozero h with q | q
  · rw [q, fp_0mul]
  · rw [q, finv_zero, fp_mul0]

/-- The points with a first part of 0, or none. -/
theorem uval_zero {D s w : Fp} (c : Lc D s w) {q : Pt} (hq : On D q) (h : uval s q.y = 0) : padd D q q = pzero := by
  have hy : q.y * q.y = 1 := by
    unfold uval at h
    by_cases e : 1 - q.y = 0
    · rw [(sub_eq0 e).symm]; decide +kernel
    · have hi := finv_mul e
      have hne : finv (1 - q.y) ≠ 0 := fun z => by
        rw [z, fp_mul0] at hi
        exact fp_one_ne hi.symm
      rcases fp_nozero h with r | r
      · rcases fp_nozero r with r | r
        · exact absurd r (s_ne c.ss)
        · generalize q.y = y at *
          grobner
      · exact absurd r hne
  have h1D : 1 - D ≠ 0 := fun e => by
    have := c.w1
    rw [e, fp_0mul] at this
    exact fp_one_ne this.symm
  have hx : q.x = 0 := by
    have h2 := hq
    unfold On at h2
    rw [hy] at h2
    have : (1 - D) * (q.x * q.x) = 0 := by
      generalize q.x = x at *
      grobner
    rcases fp_nozero this with r | r
    · exact absurd r h1D
    · rcases fp_nozero r with r | r <;> exact r
  refine padd_uniq c.ns hq hq ?_ ?_
  · simp only [pzero]
    rw [hx]
    grobner
  · simp only [pzero]
    rw [hx, hy]
    grobner

/-- The ladder of a ladder. -/
theorem lad_two {D s w u : Fp} (c : Lc D s w) {p : Pt} (b : BaseU D s u p) (ba bb : Nat → Bool) {m : Nat} (hm : nk ba 255 = 2 * m) : ladR (ladR u bb) ba = uval s (ptimes D p (nk bb 255 * nk ba 255)).y := by
  have hb := lad_val c b bb
  have hon := ptimes_on c.ns b.on (nk bb 255)
  rw [ptimes_mul c.ns b.on]
  generalize ptimes D p (nk bb 255) = q at *
  by_cases h0 : ladR u bb = 0
  · rw [h0, lad_zero]
    rw [h0] at hb
    have hz := uval_zero c hon hb.symm
    have e2 : ptimes D q 2 = pzero := by
      show padd D (ptimes D q 1) q = pzero
      rw [ptimes_one c.ns hon, hz]
    rw [hm, ptimes_mul c.ns hon, e2, ptimes_zero c.ns]
    unfold uval pzero
    have : (1 : Fp) - 1 = 0 := by decide +kernel
    simp only
    rw [this, finv_zero, fp_mul0]
  · refine lad_val c ⟨hon, ?_, h0⟩ ba
    have hy : 1 - q.y ≠ 0 := fun e => by
      rw [hb] at h0
      unfold uval at h0
      rw [e, finv_zero, fp_mul0] at h0
      exact h0 rfl
    have hi := finv_mul hy
    rw [hb]
    unfold uval
    generalize finv (1 - q.y) = i at *
    have e : s * (1 + q.y) * i * (1 - q.y) = s * (1 + q.y) * ((1 - q.y) * i) := by
      generalize q.y = y
      grobner
    rw [e, hi]
    generalize q.y = y
    grobner

end Go.Bx

/-
  Every number is the first part of a point of the curve or of its twist.
-/
namespace Go.Bx

/-- Euler's: a number to half the prime. -/
def halfP : Nat := (P25 - 1) / 2
noncomputable def eul (a : Fp) : Fp := fp (a.val ^ halfP)
def IsS (a : Fp) : Prop := ∃ r : Fp, r * r = a

theorem eul_mul (a b : Fp) : eul (a * b) = eul a * eul b := by
  unfold eul
  rw [← fp_mul, ← Nat.mul_pow]
  apply fp_eq.2
  show (a.val * b.val % P25) ^ halfP % P25 = _
  exact powmod _ _ _

theorem eul_sq {a : Fp} (h : a ≠ 0) : eul a * eul a = 1 := by
  have hd : ¬ P25 ∣ a.val := fun q => h (by
    have := Nat.eq_zero_of_dvd_of_lt q a.isLt
    exact Fin.ext this)
  have hf := BC.fermat_one prime25 hd
  unfold eul
  rw [← fp_mul, ← Nat.pow_add]
  have e : halfP + halfP = P25 - 1 := by decide
  rw [e]
  have h1 : fp (a.val ^ (P25 - 1)) = fp 1 := fp_eq.2 (by rw [hf]; decide)
  rw [h1, fp_one]

theorem isS_of_eul {a : Fp} (h : eul a = 1) : IsS a := by
  have hs : IsSq a.val := by
    right
    have h1 : fp (a.val ^ halfP) = fp 1 := by rw [fp_one]; exact h
    have h2 := fp_eq.1 h1
    have e1 : 1 % P25 = 1 := by decide
    rw [e1] at h2
    exact h2
  have h2 := rt2_sq a.isLt hs
  refine ⟨fp (rt2 a.val), ?_⟩
  rw [← fp_mul]
  have := fp_eq.2 (show (rt2 a.val * rt2 a.val) % P25 = a.val % P25 by rw [h2, Nat.mod_eq_of_lt a.isLt])
  rw [this, fp_surj]

theorem eul_of_sq {r : Fp} (h : r ≠ 0) : eul (r * r) = 1 := by rw [eul_mul, eul_sq h]

/-- A product of two that are no squares is one. -/
theorem nonsq_prod {a b : Fp} (ha : ¬ IsS a) (hb : ¬ IsS b) : IsS (a * b) := by
  have a0 : a ≠ 0 := fun e => ha ⟨0, by rw [e, fp_mul0]⟩
  have b0 : b ≠ 0 := fun e => hb ⟨0, by rw [e, fp_mul0]⟩
  apply isS_of_eul
  rw [eul_mul]
  have h1 : eul a = -1 := by
    rcases sq_one (eul_sq a0) with q | q
    · exact absurd (isS_of_eul q) ha
    · exact q
  have h2 : eul b = -1 := by
    rcases sq_one (eul_sq b0) with q | q
    · exact absurd (isS_of_eul q) hb
    · exact q
  rw [h1, h2]
  decide +kernel

/-- This product is no square. -/
theorem ff_nonsq : ¬ IsS (facF * (1 + facF)) := by
  rintro ⟨r, hr⟩
  have hr0 : r ≠ 0 := fun e => by
    rw [e, fp_mul0] at hr
    exact absurd hr.symm (by decide +kernel)
  have h1 := eul_of_sq hr0
  rw [hr] at h1
  have hv : (facF * (1 + facF)).val = 121665 * 121666 := by decide +kernel
  unfold eul at h1
  rw [hv] at h1
  have h2 : BC.powMod P25 300 (121665 * 121666) halfP = P25 - 1 := by decide +kernel
  have hlt : halfP < 2 ^ 300 := by decide +kernel
  generalize halfP = e at *
  rw [BC.powMod_eq P25 300 _ e hlt] at h2
  have h3 := congrArg Fin.val h1
  rw [fp_val] at h3
  rw [h3] at h2
  exact absurd h2 (by decide +kernel)

theorem fac_ne : facF ≠ 0 ∧ 1 + facF ≠ 0 := by decide +kernel

noncomputable def D1 : Fp := 1 - finv (1 + facF)
noncomputable def D2 : Fp := 1 + finv facF

theorem D1_mul : D1 * (1 + facF) = facF := by
  have h := finv_mul fac_ne.2
  unfold D1
  generalize finv (1 + facF) = i at *
  generalize facF = f at *
  grobner
theorem D2_mul : D2 * facF = 1 + facF := by
  have h := finv_mul fac_ne.1
  unfold D2
  generalize finv facF = i at *
  generalize facF = f at *
  grobner

theorem lc1 : Lc D1 1 (1 + facF) := by
  refine ⟨fun r hr => ff_nonsq ⟨r * (1 + facF), ?_⟩, by decide +kernel, ?_, .inl ⟨rfl, rfl⟩⟩
  · have h := D1_mul
    rw [← hr] at h
    generalize facF = f at *
    grobner
  · have h := finv_mul fac_ne.2
    unfold D1
    generalize finv (1 + facF) = i at *
    generalize facF = f at *
    grobner
theorem lc2 : Lc D2 (-1) (-facF) := by
  refine ⟨fun r hr => ff_nonsq ⟨r * facF, ?_⟩, by decide +kernel, ?_, .inr ⟨rfl, rfl⟩⟩
  · have h := D2_mul
    rw [← hr] at h
    generalize facF = f at *
    grobner
  · have h := finv_mul fac_ne.1
    unfold D2
    generalize finv facF = i at *
    generalize facF = f at *
    grobner

/-- The curve's other part. -/
noncomputable def Qu (u : Fp) : Fp := u * u + (4 * facF + 2) * u + 1

theorem fp_half : ∃ h : Fp, 2 * h = 1 := ⟨finv 2, finv_mul fp_two⟩

theorem Qu_ne (u : Fp) : Qu u ≠ 0 := fun e => by
  obtain ⟨h, hh⟩ := fp_half
  refine ff_nonsq ⟨(u + 2 * facF + 1) * h, ?_⟩
  unfold Qu at e
  generalize facF = f at *
  have e4 : (4 * (h * h)) = 1 := by grobner
  have e2 : (u + 2 * f + 1) * (u + 2 * f + 1) = 4 * (f * (1 + f)) := by grobner
  have e3 : (u + 2 * f + 1) * h * ((u + 2 * f + 1) * h) = (u + 2 * f + 1) * (u + 2 * f + 1) * (h * h) := by grobner
  rw [e3, e2]
  grobner

theorem alg1 {u f y D X Q : Fp} (hD : D * (1 + f) = f) (hy : y * (u + 1) = u - 1) (hQ : Q = u * u + (4 * f + 2) * u + 1) (hX : X * X * Q = 4 * (u * (1 + f))) :
    (u + 1) * (u + 1) * (1 + f) * (X * X * (1 - D * (y * y))) = (u + 1) * (u + 1) * (1 + f) * (1 - y * y) := by
  have e1 : (u + 1) * (u + 1) * (1 + f) * (1 - D * (y * y)) = Q := by
    have : (u + 1) * (u + 1) * (1 + f) * (1 - D * (y * y)) = (1 + f) * ((u + 1) * (u + 1)) - D * (1 + f) * ((y * (u + 1)) * (y * (u + 1))) := by grobner
    rw [this, hD, hy, hQ]
    grobner
  have e2 : (u + 1) * (u + 1) * (1 + f) * (1 - y * y) = (1 + f) * ((u + 1) * (u + 1) - (y * (u + 1)) * (y * (u + 1))) := by grobner
  have e3 : (u + 1) * (u + 1) * (1 + f) * (X * X * (1 - D * (y * y))) = X * X * ((u + 1) * (u + 1) * (1 + f) * (1 - D * (y * y))) := by grobner
  rw [e3, e1, hX, e2, hy]
  grobner

theorem alg2 {u f y D X Q : Fp} (hD : D * f = 1 + f) (hy : y * (u - 1) = u + 1) (hQ : Q = u * u + (4 * f + 2) * u + 1) (hX : X * X * Q = 4 * (u * f)) :
    (u - 1) * (u - 1) * f * (X * X * (1 - D * (y * y))) = (u - 1) * (u - 1) * f * (1 - y * y) := by
  have e1 : (u - 1) * (u - 1) * f * (1 - D * (y * y)) = -Q := by
    have : (u - 1) * (u - 1) * f * (1 - D * (y * y)) = f * ((u - 1) * (u - 1)) - D * f * ((y * (u - 1)) * (y * (u - 1))) := by grobner
    rw [this, hD, hy, hQ]
    grobner
  have e2 : (u - 1) * (u - 1) * f * (1 - y * y) = f * ((u - 1) * (u - 1) - (y * (u - 1)) * (y * (u - 1))) := by grobner
  have e3 : (u - 1) * (u - 1) * f * (X * X * (1 - D * (y * y))) = X * X * ((u - 1) * (u - 1) * f * (1 - D * (y * y))) := by grobner
  have e4 : X * X * -Q = -(X * X * Q) := by grobner
  rw [e3, e1, e4, hX, e2, hy]
  grobner

theorem on_of {D X y : Fp} (h : X * X * (1 - D * (y * y)) = 1 - y * y) : On D ⟨X, y⟩ := by
  show X * X + y * y = 1 + D * (X * X * (y * y))
  grobner

theorem root_x {a Q v i : Fp} (hi : Q * i = 1) (hv : v * v = a * Q) : 2 * v * i * (2 * v * i) * Q = 4 * a := by
  have : 2 * v * i * (2 * v * i) * Q = 4 * (v * v) * i * (Q * i) := by grobner
  rw [this, hv, hi]
  grobner

/-- Every number but 0 is a point's. -/
theorem base_ex {u : Fp} (hu : u ≠ 0) : ∃ D s w p, Lc D s w ∧ BaseU D s u p := by
  have hQ := Qu_ne u
  have hi := finv_mul hQ
  have hQe : Qu u = u * u + (4 * facF + 2) * u + 1 := rfl
  generalize hq : Qu u = Q at *
  generalize finv Q = i at *
  by_cases h1 : IsS (u * (1 + facF) * Q)
  · obtain ⟨v, hv⟩ := h1
    have hx := root_x (a := u * (1 + facF)) hi hv
    have hu1 : u + 1 ≠ 0 := fun e => by
      refine ff_nonsq ?_
      obtain ⟨h, hh⟩ := fp_half
      refine ⟨v * h, ?_⟩
      rw [hQe] at hv
      generalize facF = f at *
      clear hx hi hq hQe hQ
      have um : u = -1 := by grobner
      rw [um] at hv
      have e4 : (4 * (h * h)) = 1 := by grobner
      have e2 : v * v = 4 * (f * (1 + f)) := by rw [hv]; grobner
      have e3 : v * h * (v * h) = v * v * (h * h) := by grobner
      rw [e3, e2]
      grobner
    have hj := finv_mul hu1
    generalize finv (u + 1) = j at *
    have hy : (u - 1) * j * (u + 1) = u - 1 := by
      have : (u - 1) * j * (u + 1) = (u - 1) * ((u + 1) * j) := by grobner
      rw [this, hj]; grobner
    refine ⟨D1, 1, 1 + facF, ⟨2 * v * i, (u - 1) * j⟩, lc1, ?_, ?_, hu⟩
    · apply on_of
      exact fp_cancel (fp_mul_ne (fp_mul_ne hu1 hu1) fac_ne.2) (alg1 D1_mul hy hQe hx)
    · show u * (1 - (u - 1) * j) = 1 * (1 + (u - 1) * j)
      generalize (u - 1) * j = y at *
      clear hx hi hv hq hQe hQ hj
      grobner
  · have h2 : IsS (facF * (1 + facF) * (u * (1 + facF) * Q)) := nonsq_prod ff_nonsq h1
    obtain ⟨v, hv⟩ := h2
    -- u f Q = (v / (1 + f))^2
    have hk := finv_mul fac_ne.2
    generalize finv (1 + facF) = k at *
    have hv2 : v * k * (v * k) = u * facF * Q := by
      have : v * k * (v * k) = v * v * (k * k) := by grobner
      rw [this, hv]
      have : facF * (1 + facF) * (u * (1 + facF) * Q) * (k * k) = u * facF * Q * ((1 + facF) * k) * ((1 + facF) * k) := by
        generalize facF = f
        grobner
      rw [this, hk]
      generalize u * facF * Q = z
      grobner
    generalize v * k = v2 at *
    have hx := root_x (a := u * facF) hi hv2
    have hu1 : u - 1 ≠ 0 := fun e => by
      refine ff_nonsq ?_
      obtain ⟨h, hh⟩ := fp_half
      refine ⟨v2 * h, ?_⟩
      rw [hQe] at hv2
      generalize facF = f at *
      clear hx hi hq hQe hQ hv hk h1
      have um : u = 1 := by grobner
      rw [um] at hv2
      have e4 : (4 * (h * h)) = 1 := by grobner
      have e2 : v2 * v2 = 4 * (f * (1 + f)) := by rw [hv2]; grobner
      have e3 : v2 * h * (v2 * h) = v2 * v2 * (h * h) := by grobner
      rw [e3, e2]
      grobner
    have hj := finv_mul hu1
    generalize finv (u - 1) = j at *
    have hy : (u + 1) * j * (u - 1) = u + 1 := by
      have : (u + 1) * j * (u - 1) = (u + 1) * ((u - 1) * j) := by grobner
      rw [this, hj]; grobner
    refine ⟨D2, -1, -facF, ⟨2 * v2 * i, (u + 1) * j⟩, lc2, ?_, ?_, hu⟩
    · apply on_of
      exact fp_cancel (fp_mul_ne (fp_mul_ne hu1 hu1) fac_ne.1) (alg2 D2_mul hy hQe hx)
    · show u * (1 - (u + 1) * j) = -1 * (1 + (u + 1) * j)
      generalize (u + 1) * j = y at *
      clear hx hi hv hq hQe hQ hj hv2 hk h1
      grobner

/-- The ladder's of two numbers do not hang on their order. -/
theorem lad_comm (u : Fp) (ba bb : Nat → Bool) {m n : Nat} (ha : nk ba 255 = 2 * m) (hb : nk bb 255 = 2 * n) : ladR (ladR u bb) ba = ladR (ladR u ba) bb := by
  by_cases hu : u = 0
  · simp only [hu, lad_zero]
  · obtain ⟨D, s, w, p, c, b⟩ := base_ex hu
    rw [lad_two c b ba bb ha, lad_two c b bb ba hb, Nat.mul_comm]

end Go.Bx

/-
  The ladder: two come to the same.
-/
namespace Go.Bx

theorem leBytes_le (n : Nat) : ∀ x ∈ leBytes n, x ≤ 255 := fun x hx => by
  have e : leBytes n = (List.range 32).map fun i => n / 256 ^ i % 256 := rfl
  rw [e] at hx
  obtain ⟨i, _, rfl⟩ := List.mem_map.1 hx
  have := Nat.mod_lt (n / 256 ^ i) (show 0 < 256 by decide)
  omega

theorem clamp_cons (a : Nat) (l : List Nat) : clampW (a :: l) = (a &&& 248) :: l.set 30 ((l.getD 30 0 &&& 127) ||| 64) := rfl

theorem lo_idem : ∀ a, a < 256 → (a &&& 248) &&& 248 = a &&& 248 := by decide +kernel
theorem hi_idem : ∀ a, a < 256 → (((a &&& 127) ||| 64) &&& 127) ||| 64 = (a &&& 127) ||| 64 := by decide +kernel
theorem lo_even : ∀ a, a < 256 → Nat.beq ((a &&& 248) &&& 1) 1 = false := by decide +kernel

theorem clamp_idem {bs : List Nat} (hb : ∀ x ∈ bs, x ≤ 255) : clampW (clampW bs) = clampW bs := by
  cases bs with
  | nil => rfl
  | cons a l =>
    have ha := hb a (List.mem_cons_self ..)
    have hl := getD_le (fun x hx => hb x (List.mem_cons_of_mem _ hx) : ∀ x ∈ l, x ≤ 255) 30
    rw [clamp_cons, clamp_cons, lo_idem a (by omega)]
    congr 1
    rw [List.set_set]
    rcases Nat.lt_or_ge 30 l.length with h | h
    · rw [getD_setN _ _ _ _ h, if_pos rfl, hi_idem _ (by omega)]
    · rw [List.set_eq_of_length_le (by omega), List.set_eq_of_length_le (by omega)]

theorem clamp_even {bs : List Nat} (hb : ∀ x ∈ bs, x ≤ 255) : ∃ m, nk (powBit (clampW bs)) 255 = 2 * m := by
  have h0 : powBit (clampW bs) 0 = false := by
    cases bs with
    | nil => decide +kernel
    | cons a l =>
      have ha := hb a (List.mem_cons_self ..)
      rw [clamp_cons]
      have e : powBit ((a &&& 248) :: l.set 30 ((l.getD 30 0 &&& 127) ||| 64)) 0 = Nat.beq ((a &&& 248) / 1 &&& 1) 1 := rfl
      rw [e, Nat.div_one]
      exact lo_even a (by omega)
  refine ⟨nk (powBit (clampW bs)) 254, ?_⟩
  have e : nk (powBit (clampW bs)) 255 = nk (powBit (clampW bs)) 254 + nk (powBit (clampW bs)) 254 + cond (powBit (clampW bs) 0) 1 0 := by
    rw [nk]
  rw [e, h0]
  generalize nk (powBit (clampW bs)) 254 = n
  show n + n + 0 = 2 * n
  omega

theorem lad_lad {b c d : List Nat} (hb : ∀ x ∈ b, x ≤ 255) (hc : ∀ x ∈ c, x ≤ 255) (hd : ∀ x ∈ d, x ≤ 255) : ladW b (ladW c d) = ladW c (ladW b d) := by
  have back : ∀ v : Fp, fp (ofV (leBytes v.val)) = v := fun v => by
    rw [ofV_leBytes (Nat.lt_trans v.isLt (by decide)), fp_surj]
  obtain ⟨m, hm⟩ := clamp_even hb
  obtain ⟨n, hn⟩ := clamp_even hc
  rw [ladW_ok (ns := c) hd, ladW_ok (ns := b) hd, ladW_ok (ns := b) (leBytes_le _), ladW_ok (ns := c) (leBytes_le _), back, back, lad_comm _ _ _ hm hn]

noncomputable def lmeE (b c d p : List Nat) : Bool :=
  bif bif !ladW b p == ladW b p then true else !ladW b p == ladW (clampW b) p then false
  else bif Nat.beq (bif ladW b (ladW c p) == List.replicate 32 0 then 21 else 0) (bif ladW c (ladW b p) == List.replicate 32 0 then 21 else 0) then
    bif ladW b (ladW c p) == ladW c (ladW b p) then ladW b (ladW c d) == ladW c (ladW b d) else false
  else false

theorem lad_clamp {b p : List Nat} (hb : ∀ x ∈ b, x ≤ 255) (hp : ∀ x ∈ p, x ≤ 255) : ladW (clampW b) p = ladW b p := by
  rw [ladW_ok hp, ladW_ok hp, clamp_idem hb]

theorem nbeq_self (n : Nat) : Nat.beq n n = true := Nat.beq_refl n

theorem lmeE_true {b c d p : List Nat} (hb : ∀ x ∈ b, x ≤ 255) (hc : ∀ x ∈ c, x ≤ 255) (hd : ∀ x ∈ d, x ≤ 255) (hp : ∀ x ∈ p, x ≤ 255) : lmeE b c d p = true := by
  unfold lmeE
  rw [lad_clamp hb hp, lad_lad hb hc hp, lad_lad hb hc hd]
  generalize ladW b p = x
  generalize ladW c x = y
  generalize ladW c (ladW b d) = z
  rw [beq_self, beq_self, beq_self, nbeq_self]
  rfl

end Go.Bx
