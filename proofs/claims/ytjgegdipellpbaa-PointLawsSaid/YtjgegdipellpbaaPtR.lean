/-
  Parts of the proofs: PlE0, PlT, PlE.
  No condition.
-/
import Derived.Test.YtjgegdipellpbaaPtQ
import Derived.Test.YtjgegdipellpbaaQsA
import Derived.Test.YtjgegdipellpbaaPtP
/-
  The laws of points: what they ask.
-/
namespace Go.Bx

noncomputable def peq (p q : P4) : Bool := pbytesW p == pbytesW q
noncomputable def plC (a : List Nat) : Bool := !Nat.beq (bif ofBad a then 21 else 0) 0
noncomputable def plP (B : P4) (a : List Nat) : P4 := ⟨bif plC a then (pmulW B a).x else (pofP a).x, bif plC a then (pmulW B a).y else (pofP a).y, bif plC a then (pmulW B a).z else (pofP a).z, bif plC a then (pmulW B a).t else (pofP a).t⟩
noncomputable def plQ (B N p q : P4) (m n : List Nat) : Bool :=
  bif (bif !peq (paddW p q) (paddW q p) then true else bif !peq (paddW p (pnegW p)) N then true else bif !peq (paddW p N) p then true else bif !peq (pnegW (pnegW p)) p then true else !ponW (paddW p q)) then false
  else bif (bif !peq (pmulW B (r6Add_v1 m n)) (paddW q (pmulW B n)) then true else !peq (pmulW q n) (pmulW B (r6Mul_v2 m n))) then false
  else bif peq (pmulW B (r4Bytes_v1 (subL 0 16 qDig))) N then peq (pmulW p ((List.replicate 32 0).set 0 3)) (paddW (paddW p p) p) else false
noncomputable def plE (B N : P4) (a m n : List Nat) : Bool := plQ B N (plP B a) (pmulW B m) m n
end Go.Bx

/-
  The base's order.
-/
namespace Go.Bx

/-- A point by parts, for reckoning. -/
structure Pj where
  x : Fp
  y : Fp
  z : Fp

def pjAdd (d : Fp) (p q : Pj) : Pj :=
  let a := p.z * q.z
  let b := a * a
  let c := p.x * q.x
  let e := p.y * q.y
  let f := d * (c * e)
  let l := b - f
  let m := b + f
  ⟨a * (l * ((p.x + p.y) * (q.x + q.y) - c - e)), a * (m * (e + c)), l * m⟩

structure PjRep (p : Pj) (Q : Pt) : Prop where
  ex : ∃ x y, OnE x y ∧ Q = stdP x y ∧ p.z ≠ 0 ∧ p.x = x * p.z ∧ p.y = y * p.z

theorem pjAdd_ok {p q : Pj} {Q R : Pt} (h : PjRep p Q) (k : PjRep q R) : PjRep (pjAdd dF p q) (padd D1 Q R) := by
  obtain ⟨x1, y1, a0, rfl, hz1, a1, a2⟩ := h.ex
  obtain ⟨x2, y2, b0, rfl, hz2, b1, b2⟩ := k.ex
  obtain ⟨s, w, c1, c2, hs, hw, n1, n2⟩ := std_sum a0 b0
  obtain ⟨X1, Y1, z1⟩ := p
  obtain ⟨X2, Y2, z2⟩ := q
  simp only at hz1 a1 a2 hz2 b1 b2
  subst a1; subst a2; subst b1; subst b2
  refine ⟨s, w, c1, c2, ?_, ?_, ?_⟩
  · have e1 : z1 * z2 * (z1 * z2) - dF * (x1 * z1 * (x2 * z2) * (y1 * z1 * (y2 * z2))) = z1 * z2 * (z1 * z2) * (1 - dF * (x1 * x2 * (y1 * y2))) := by
      generalize dF = d
      grobner
    have e2 : z1 * z2 * (z1 * z2) + dF * (x1 * z1 * (x2 * z2) * (y1 * z1 * (y2 * z2))) = z1 * z2 * (z1 * z2) * (1 + dF * (x1 * x2 * (y1 * y2))) := by
      generalize dF = d
      grobner
    simp only [pjAdd]
    rw [e1, e2]
    have hz := fp_mul_ne hz1 hz2
    have hzz := fp_mul_ne hz hz
    exact fp_mul_ne (fp_mul_ne hzz n2) (fp_mul_ne hzz n1)
  · simp only [pjAdd]
    exact radd_x hs
  · simp only [pjAdd]
    exact radd_y hw

/-- A number's bits, the highest first, of a point. -/
def pjBits (d : Fp) (p : Pj) : List Bool → Pj
  | [] => ⟨0, 1, 1⟩
  | b :: l => let t := pjAdd d (pjBits d p l) (pjBits d p l); bif b then pjAdd d t p else t
/-- The number of bits, the lowest first. -/
def bitsV : List Bool → Nat
  | [] => 0
  | b :: l => bitsV l + bitsV l + cond b 1 0

theorem pj_zero : PjRep ⟨0, 1, 1⟩ pzero := ⟨0, 1, onE_zero, stdP_zero.symm, fp_one_ne, by decide +kernel, by decide +kernel⟩
theorem pjBits_ok {p : Pj} {Q : Pt} (h : PjRep p Q) (hQ : On D1 Q) : ∀ l, PjRep (pjBits dF p l) (ptimes D1 Q (bitsV l))
  | [] => pj_zero
  | b :: l => by
    have ih := pjBits_ok h hQ l
    have h2 := pjAdd_ok ih ih
    rw [← ptimes_add lc1.ns hQ] at h2
    rw [pjBits, bitsV]
    cases b
    · exact h2
    · have h3 := pjAdd_ok h2 h
      exact h3

def dLit : Nat := 37095705934669439343138083508754565189542113879843219016388785533085940283555
theorem dF_lit : dF = fp dLit := by
  have h1 := dF_f
  have h2 : -(fp dLit) * (1 + facF) = facF := by decide +kernel
  have hne := fac_ne.2
  refine fp_cancel hne ?_
  generalize dF = d at *
  generalize fp dLit = e at *
  generalize facF = f at *
  grobner

def ordBits : List Bool := (List.range 253).map fun i => Nat.testBit ordQ i
theorem ordBits_v : bitsV ordBits = ordQ := by decide +kernel
def pjBase : Pj := ⟨fp bxN, fp byN, 1⟩
theorem ord_pj : (pjBits (fp dLit) pjBase ordBits).x = 0 ∧ (pjBits (fp dLit) pjBase ordBits).y = (pjBits (fp dLit) pjBase ordBits).z := by decide +kernel

theorem pj_base : PjRep pjBase baseQ := ⟨fp bxN, fp byN, base_onE, rfl, fp_one_ne, (fp_mul1 _).symm, (fp_mul1 _).symm⟩
theorem base_on1 : On D1 baseQ := base_onE

/-- The order times the base is nothing. -/
theorem ord_base : ptimes D1 baseQ ordQ = pzero := by
  have h := pjBits_ok pj_base base_on1 ordBits
  rw [ordBits_v] at h
  obtain ⟨x, y, _, e, hz, h1, h2⟩ := h.ex
  have h3 := ord_pj
  rw [← dF_lit] at h3
  generalize pjBits dF pjBase ordBits = p at *
  rw [h3.1] at h1
  rw [h3.2] at h2
  have hx : x = 0 := by
    rcases fp_nozero h1.symm with h | h
    · exact h
    · exact absurd h hz
  have hy : y = 1 := by
    refine fp_cancel hz ?_
    rw [fp_mulc, ← h2, fp_mul1]
  rw [e, hx, hy]
  exact stdP_zero
end Go.Bx

/-
  The laws of points hold.
-/
namespace Go.Bx

theorem fp_negneg (a : Fp) : - -a = a := by grobner
theorem neg_mul2 (x z : Fp) : -(x * z) = -x * z := by grobner
theorem neg_mul3 (x y z : Fp) : -(x * y * z) = -x * y * z := by grobner
theorem fe_neg2 {X : List Int} {x z : Fp} (h : Fe X (x * z)) : Fe (negW X) (-x * z) := by
  have e := neg_mul2 x z
  have h := h.neg
  rw [e] at h; exact h
theorem fe_neg3 {X : List Int} {x y z : Fp} (h : Fe X (x * y * z)) : Fe (negW X) (-x * y * z) := by
  have e := neg_mul3 x y z
  have h := h.neg
  rw [e] at h; exact h
theorem prep_mk {a b c d : List Int} {x y z : Fp} (hz : z ≠ 0) (h1 : Fe a (x * z)) (h2 : Fe b (y * z)) (h3 : Fe c z) (h4 : Fe d (x * y * z)) : PRep ⟨a, b, c, d⟩ x y := ⟨⟨z, hz, h1, h2, h3, h4⟩⟩
theorem prep_ex {a b c d : List Int} {x y : Fp} (h : PRep ⟨a, b, c, d⟩ x y) : ∃ z : Fp, z ≠ 0 ∧ Fe a (x * z) ∧ Fe b (y * z) ∧ Fe c z ∧ Fe d (x * y * z) := h.ex
theorem prep_neg {px py pz pt : List Int} {x y : Fp} (h : PRep ⟨px, py, pz, pt⟩ x y) : PRep ⟨negW px, py, pz, negW pt⟩ (-x) y :=
  let ⟨_, hz, a1, a2, a3, a4⟩ := prep_ex h
  prep_mk hz (fe_neg2 a1) a2 a3 (fe_neg3 a4)
theorem pneg_stdJ (j x y : Fp) : (⟨-(j * x), y⟩ : Pt) = ⟨j * -x, y⟩ := by
  simp only [Pt.mk.injEq, and_true]
  grobner
theorem pneg_std (x y : Fp) : pneg (stdP x y) = stdP (-x) y := pneg_stdJ iF x y
theorem onE_neg {x y : Fp} (h : OnE x y) : OnE (-x) y := by
  have hon := pneg_on h
  rw [pneg_std] at hon
  exact hon
theorem pnegW_mk (a b c d : List Int) : pnegW ⟨a, b, c, d⟩ = ⟨negW a, b, c, negW d⟩ := rfl
theorem PIs.neg {p : P4} {Q : Pt} (h : PIs p Q) : PIs (pnegW p) (pneg Q) := by
  obtain ⟨x, y, h1, rfl, h2⟩ := h
  obtain ⟨a, b, c, d⟩ := p
  rw [pnegW_mk]
  exact ⟨-x, y, onE_neg h1, pneg_std x y, prep_neg h2⟩
theorem pneg_pneg (p : Pt) : pneg (pneg p) = p := by
  obtain ⟨x, y⟩ := p
  unfold pneg
  simp only [fp_negneg]

theorem peq_ok {p q : P4} {Q : Pt} (h : PIs p Q) (k : PIs q Q) : peq p q = true := by
  obtain ⟨x, y, _, e, hr⟩ := h
  obtain ⟨s, w, _, e2, hz⟩ := k
  obtain ⟨rfl, rfl⟩ := std_inj (e.symm.trans e2)
  unfold peq
  rw [pbytes_ok hr, pbytes_ok hz]
  simp

theorem numV_bytes {b : List Nat} (hl : b.length = 32) (hb : ∀ x ∈ b, x ≤ 255) : leBytes (numV b) = b ∧ numV b < 65536 ^ 16 := by
  have h1 := digitsW_le hb
  have h2 := valL_lt _ h1
  unfold numV
  refine ⟨?_, h2⟩
  rw [← rbytesW_ok, digN_valL rfl h1, rbytes_digits hl hb]
theorem numV_bits {b : List Nat} (hl : b.length = 32) (hb : ∀ x ∈ b, x ≤ 255) : bitS b 256 = numV b := by
  obtain ⟨h1, h2⟩ := numV_bytes hl hb
  have h := bitS_le (numV b) 256 (Nat.le_refl _)
  rw [h1] at h
  rw [h, Nat.mod_eq_of_lt (Nat.lt_of_lt_of_le h2 (by decide))]
theorem bits_rem (n : Nat) : bitS (leBytes (n % ordQ)) 256 = n % ordQ := by
  rw [bitS_le _ 256 (Nat.le_refl _), Nat.mod_eq_of_lt (Nat.lt_of_lt_of_le (Nat.mod_lt n (by decide)) (by decide : ordQ ≤ 2 ^ 256))]

/-- Numbers of times the base are modulo the order. -/
theorem base_mod (n : Nat) : ptimes D1 baseQ (n % ordQ) = ptimes D1 baseQ n := by
  have e : n = ordQ * (n / ordQ) + n % ordQ := (Nat.div_add_mod n ordQ).symm
  have h : ptimes D1 baseQ (ordQ * (n / ordQ) + n % ordQ) = ptimes D1 baseQ (n % ordQ) := by
    rw [ptimes_add lc1.ns base_on1, ptimes_mul lc1.ns base_on1, ord_base, ptimes_zero lc1.ns, zero_padd lc1.ns (ptimes_on lc1.ns base_on1 _)]
  rw [← e] at h
  exact h.symm

theorem qDig_bytes : r4Bytes_v1 (subL 0 16 qDig) = leBytes ordQ := by
  have h : qDig = digN ordQ := by decide +kernel
  rw [subL_all (l := qDig) (n := 16) rfl, r4Bytes_eq, h, rbytesW_ok]
theorem three_bytes : (List.replicate 32 0).set 0 3 = leBytes 3 := by decide +kernel

theorem plC_eq (a : List Nat) : plC a = ofBad a := by
  unfold plC
  cases ofBad a <;> rfl
theorem p4_same (c : Bool) (p q : P4) : (⟨bif c then p.x else q.x, bif c then p.y else q.y, bif c then p.z else q.z, bif c then p.t else q.t⟩ : P4) = cond c p q := by
  cases c
  · cases q; rfl
  · cases p; rfl
theorem plP_eq (B : P4) (a : List Nat) : plP B a = cond (plC a) (pmulW B a) (pofP a) := p4_same (plC a) (pmulW B a) (pofP a)

theorem plP_ok {a : List Nat} (hl : a.length = 32) (ha : ∀ x ∈ a, x ≤ 255) : ∃ Q, PIs (plP baseP a) Q := by
  rw [plP_eq, plC_eq]
  rcases of_all hl ha rDW_ok with ⟨_, h⟩ | ⟨_, _, h⟩ | ⟨Q, _, _, h, h4, _⟩
  · rw [h, cond_true]; exact ⟨_, pmulW_ok baseP_ok a⟩
  · rw [h, cond_true]; exact ⟨_, pmulW_ok baseP_ok a⟩
  · rw [h, cond_false]; exact ⟨Q, h4⟩

theorem plE_true {a m n : List Nat} (la : a.length = 32) (ha : ∀ x ∈ a, x ≤ 255) (lm : m.length = 32) (hm : ∀ x ∈ m, x ≤ 255) (ln : n.length = 32) (hn : ∀ x ∈ n, x ≤ 255) : plE baseP noughtW a m n = true := by
  obtain ⟨P, hP⟩ := plP_ok la ha
  have hq := pmulW_ok baseP_ok m
  have hr := pmulW_ok baseP_ok n
  have hN := nought_is
  have onP := hP.on
  have on1 := base_on1
  rw [numV_bits lm hm] at hq
  rw [numV_bits ln hn] at hr
  have e1 : peq (paddW (plP baseP a) (pmulW baseP m)) (paddW (pmulW baseP m) (plP baseP a)) = true := by
    have h2 := paddW_ok hq hP
    rw [padd_comm] at h2
    exact peq_ok (paddW_ok hP hq) h2
  have e2 : peq (paddW (plP baseP a) (pnegW (plP baseP a))) noughtW = true := by
    have h1 := paddW_ok hP hP.neg
    rw [padd_neg lc1.ns onP] at h1
    exact peq_ok h1 hN
  have e3 : peq (paddW (plP baseP a) noughtW) (plP baseP a) = true := by
    have h1 := paddW_ok hP hN
    rw [padd_zero lc1.ns onP] at h1
    exact peq_ok h1 hP
  have e4 : peq (pnegW (pnegW (plP baseP a))) (plP baseP a) = true := by
    have h1 := hP.neg.neg
    rw [pneg_pneg] at h1
    exact peq_ok h1 hP
  have e5 : ponW (paddW (plP baseP a) (pmulW baseP m)) = true := ponW_ok (paddW_ok hP hq)
  have e6 : peq (pmulW baseP (r6Add_v1 m n)) (paddW (pmulW baseP m) (pmulW baseP n)) = true := by
    have h1 := pmulW_ok baseP_ok (r6Add_v1 m n)
    rw [r6Add_ok hm hn] at h1 ⊢
    rw [bits_rem, base_mod, ptimes_add lc1.ns on1] at h1
    exact peq_ok h1 (paddW_ok hq hr)
  have e7 : peq (pmulW (pmulW baseP m) n) (pmulW baseP (r6Mul_v2 m n)) = true := by
    have h1 := pmulW_ok baseP_ok (r6Mul_v2 m n)
    rw [r6Mul_ok hm hn] at h1 ⊢
    rw [bits_rem, base_mod, ptimes_mul lc1.ns on1] at h1
    have h2 := pmulW_ok hq n
    rw [numV_bits ln hn] at h2
    exact peq_ok h2 h1
  have e8 : peq (pmulW baseP (r4Bytes_v1 (subL 0 16 qDig))) noughtW = true := by
    have h1 := pmulW_ok baseP_ok (r4Bytes_v1 (subL 0 16 qDig))
    rw [qDig_bytes] at h1 ⊢
    rw [bitS_le _ 256 (Nat.le_refl _), Nat.mod_eq_of_lt (by decide : ordQ < 2 ^ 256), ord_base] at h1
    exact peq_ok h1 hN
  have e9 : peq (pmulW (plP baseP a) ((List.replicate 32 0).set 0 3)) (paddW (paddW (plP baseP a) (plP baseP a)) (plP baseP a)) = true := by
    have h1 := pmulW_ok hP ((List.replicate 32 0).set 0 3)
    rw [three_bytes] at h1 ⊢
    rw [bitS_le _ 256 (Nat.le_refl _), Nat.mod_eq_of_lt (by decide : 3 < 2 ^ 256)] at h1
    have h2 := paddW_ok (paddW_ok hP hP) hP
    have e : ptimes D1 P 3 = padd D1 (padd D1 P P) P := by
      show padd D1 (padd D1 (padd D1 pzero P) P) P = _
      rw [zero_padd lc1.ns onP]
    rw [e] at h1
    exact peq_ok h1 h2
  unfold plE plQ
  rw [e1, e2, e3, e4, e5, e6, e7, e8, e9]
  rfl

end Go.Bx
