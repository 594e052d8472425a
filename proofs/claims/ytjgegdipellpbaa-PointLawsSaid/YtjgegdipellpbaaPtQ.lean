/-
  Parts of the proofs: PoE0, PoE1, PoE2.
  No condition.
-/
import Derived.Test.YtjgegdipellpbaaPtP
/-
  The law of points of bytes: what it asks.
-/
namespace Go.Bx

noncomputable def yR (b : List Nat) : List Nat := b.set 31 (b.getD 31 0 % 128)
noncomputable def xxN (b d : List Nat) : List Nat := rMul (rsubW (rMul (digitsW (yR b)) (digitsW (yR b))) (smallN 1)) (rinvN (rAdd (smallN 1) (rMul d (rMul (digitsW (yR b)) (digitsW (yR b))))))
noncomputable def poE (b d : List Nat) : Bool :=
  bif bif ponW zeroP then true else bif !pbytesW zeroP == List.replicate 32 0 then true else bif ponW (paddW zeroP (pofP b)) then true else bif ponW (pmulW zeroP b) then true else ponW (pnegW zeroP) then false
  else bif atLeastW (digitsW (yR b)) pW 16 then bif Nat.beq (bif ofBad b then 21 else 0) 21 then !ponW (pofP b) else false
  else bif bif !squareN (xxN b d) then true else bif zeroN (xxN b d) then Nat.ble 128 (b.getD 31 0) else false then bif Nat.beq (bif ofBad b then 21 else 0) 21 then !ponW (pofP b) else false
  else bif Nat.beq (bif ofBad b then 21 else 0) 0 then bif ponW (pofP b) then bif pbytesW (pofP b) == b then pbytesW (pofP b) == pbytesW (pofP b) else false else false else false
end Go.Bx

/-
  Points of bytes: what is no point; which bytes are a number's.
-/
namespace Go.Bx

theorem zI_fe : Fe (zI 16) 0 := ⟨zI_elem, by rw [zI_val]; rfl⟩

theorem pon_z0 {p : P4} (h : Fe p.z 0) : ponW p = false := by
  have h0 : Fe (small1 (0 : Nat)) 0 := Fe.small (n := 0) (by decide)
  have e := h.eq h0
  rw [decide_eq_true rfl] at e
  unfold ponW
  rw [e, cond_true]

theorem pon_zero : ponW zeroP = false := pon_z0 zI_fe
theorem pon_neg : ponW (pnegW zeroP) = false := pon_z0 zI_fe

/-- Parts that stand for anything. -/
structure FeP (p : P4) : Prop where
  x : ∃ a, Fe p.x a
  y : ∃ a, Fe p.y a
  z : ∃ a, Fe p.z a
  t : ∃ a, Fe p.t a

theorem pon_add {q : P4} (h : FeP q) : ponW (paddW zeroP q) = false := by
  obtain ⟨⟨x, hx⟩, ⟨y, hy⟩, ⟨z, hz⟩, ⟨t, ht⟩⟩ := h
  have D := (zI_fe.mul hz).add (zI_fe.mul hz)
  have C := (zI_fe.mul ht).mul ddW_ok
  have F := D.sub C
  have G := D.add C
  have hz3 := F.mul G
  have e : (0 * z + 0 * z - 0 * t * (dF + dF)) * (0 * z + 0 * z + 0 * t * (dF + dF)) = 0 := by
    simp only [fp_0mul, fp_add0, fp_mul0]
  rw [e] at hz3
  refine pon_z0 (p := paddW zeroP q) ?_
  unfold paddW
  simpa only [psumW, zeroP] using hz3

theorem noZ_zero : noZ zeroP = true := by
  have h0 : Fe (small1 (0 : Nat)) 0 := Fe.small (n := 0) (by decide)
  have e := zI_fe.eq h0
  rw [decide_eq_true rfl] at e
  exact e

theorem pon_mul (b : List Nat) : ponW (pmulW zeroP b) = false := by
  have e : pmulW zeroP b = zeroP := by
    unfold pmulW
    generalize (pmD ddW b zeroP 256).o = o
    rw [noZ_zero, cond_true]
  rw [e]
  exact pon_zero

theorem zprod_fe : Fe (mulW (zI 16) (invW (zI 16))) 0 := by
  have hi := zI_fe.inv
  rw [finv_zero] at hi
  have hx0 := zI_fe.mul hi
  rw [fp_mul0] at hx0
  exact hx0
theorem zprod_bytes : bytesW (mulW (zI 16) (invW (zI 16))) = leBytes 0 := zprod_fe.bytes
theorem zbytes_c : (cond (Nat.beq ((leBytes 0).getD 0 0 &&& 1) 1) ((leBytes 0).set 31 ((leBytes 0).getD 31 0 ||| 128)) (leBytes 0) == List.replicate 32 0) = true := by decide +kernel
theorem pbytes_same {z : List Int} {l : List Nat} (h : bytesW (mulW z (invW z)) = l) (t : List Int) : pbytesW ⟨z, z, z, t⟩ = cond (Nat.beq (l.getD 0 0 &&& 1) 1) (l.set 31 (l.getD 31 0 ||| 128)) l := by
  subst h
  rfl
theorem zero_bytes : (pbytesW zeroP == List.replicate 32 0) = true := by
  have e := pbytes_same zprod_bytes (zI 16)
  unfold zeroP
  rw [e]
  exact zbytes_c

theorem digitsW_get (bs : List Nat) {j : Nat} (h : j < 16) : (digitsW bs).getD j 0 = bs.getD (2 * j) 0 + 256 * bs.getD (2 * j + 1) 0 := by
  have e : digitsW bs = (List.range 16).map fun i => bs.getD (2 * i) 0 + 256 * bs.getD (2 * i + 1) 0 := rfl
  rw [e]
  simp only [List.getD_eq_getElem?_getD, List.getElem?_map, List.getElem?_range h]; rfl

theorem rbytes_digits {bs : List Nat} (hl : bs.length = 32) (hb : ∀ x ∈ bs, x ≤ 255) : rbytesW (digitsW bs) = bs := by
  obtain ⟨h1, h2⟩ := pairs_get (fun i => (digitsW bs).getD i 0 % 256) (fun i => (digitsW bs).getD i 0 / 256) 16 (Nat.le_refl _)
  refine ext_getD (d := 0) (h1.trans hl.symm) fun j hj => ?_
  have hj : j < 32 := Nat.lt_of_lt_of_le hj (Nat.le_of_eq h1)
  refine (h2 j).trans ?_
  have b1 := getD_le hb (2 * (j / 2))
  have b2 := getD_le hb (2 * (j / 2) + 1)
  rw [if_pos (by omega), digitsW_get bs (by omega)]
  split
  · have : j = 2 * (j / 2) := by omega
    rw [← this]
    rw [← this] at b1
    omega
  · have : j = 2 * (j / 2) + 1 := by omega
    rw [← this]
    omega

/-- Some bytes and their number. -/
theorem leBytes_of {bs : List Nat} (hl : bs.length = 32) (hb : ∀ x ∈ bs, x ≤ 255) (h31 : bs.getD 31 0 < 128) : leBytes (ofV bs) = bs ∧ digitsW bs = digN (ofV bs) := by
  have h30 := getD_le hb 30
  have hd : (digitsW bs).getD 15 0 = bs.getD 30 0 + 256 * bs.getD 31 0 := digitsW_get bs (j := 15) (by omega)
  have e15 : (digitsW bs).getD 15 0 % 32768 = (digitsW bs).getD 15 0 := by
    rw [hd]
    exact Nat.mod_eq_of_lt (by omega)
  have hset : (digitsW bs).set 15 ((digitsW bs).getD 15 0 % 32768) = digitsW bs := by
    rw [e15]
    have hlen : (digitsW bs).length = 16 := rfl
    refine ext_getD (d := 0) (by simp) fun j hj => ?_
    rw [getD_setN _ _ _ _ (by omega)]
    split
    · rename_i e; rw [e]
    · rfl
  have hv : ofV bs = valL (digitsW bs) := by
    unfold ofV
    rw [hset]
  have hdig : digN (ofV bs) = digitsW bs := by
    rw [hv]
    exact digN_valL rfl (digitsW_le hb)
  refine ⟨?_, hdig.symm⟩
  rw [← rbytesW_ok, hdig, rbytes_digits hl hb]

end Go.Bx

/-
  The law of points of bytes: it holds.
-/
namespace Go.Bx

theorem and127 (x : Nat) : x &&& 127 = x % 128 := Nat.and_two_pow_sub_one_eq_mod x 7
theorem yB_eq (b : List Nat) : yB b = yR b := by unfold yB yR; rw [and127]

theorem mem_set_le {l : List Nat} {m : Nat} (h : ∀ x ∈ l, x ≤ m) {i v : Nat} (hv : v ≤ m) : ∀ x ∈ l.set i v, x ≤ m := fun x hx => by
  rcases List.mem_or_eq_of_mem_set hx with h1 | h1
  · exact h x h1
  · rw [h1]; exact hv

theorem and128 : ∀ x, x < 256 → (!Nat.beq (x &&& 128) 0) = Nat.ble 128 x := by decide +kernel

theorem valL_lt255 {l : List Nat} (hl : l.length = 16) (hd : ∀ d ∈ l, d ≤ 65535) (h15 : l.getD 15 0 ≤ 32767) : valL l < 2 ^ 255 := by
  have e := valL_take l 15
  rw [List.take_of_length_le (by omega)] at e
  have h1 := valL_lt (l.take 15) fun d h => hd d (List.mem_of_mem_take h)
  have h2 : (l.take 15).length = 15 := by rw [List.length_take]; omega
  rw [h2] at h1
  have e2 : (2 : Nat) ^ 255 = 32768 * 65536 ^ 15 := by decide
  rw [e, e2]
  have : l.getD 15 0 * 65536 ^ 15 ≤ 32767 * 65536 ^ 15 := Nat.mul_le_mul_right _ h15
  omega

theorem ofV_lt {bs : List Nat} (hb : ∀ x ∈ bs, x ≤ 255) : ofV bs < 2 ^ 255 := by
  unfold ofV
  refine valL_lt255 (by rw [List.length_set]; rfl) (mem_set_le (digitsW_le hb) (by omega)) ?_
  rw [getD_setN _ _ _ _ (show 15 < (digitsW bs).length from (by decide : 15 < 16)), if_pos rfl]
  omega

/-- What is known of some bytes' number. -/
structure YOk (b : List Nat) (v : Nat) : Prop where
  le : leBytes v = yR b
  dg : digitsW (yR b) = digN v
  lt : v < 2 ^ 255
  fe : Fe (yE b) (fp v)
  bys : bytesW (yE b) = leBytes (v % P25)

theorem yR_ok {b : List Nat} (hl : b.length = 32) (hb : ∀ x ∈ b, x ≤ 255) : ∃ v, YOk b v := by
  have h1 : (yR b).length = 32 := by unfold yR; rw [List.length_set, hl]
  have h2 : ∀ x ∈ yR b, x ≤ 255 := mem_set_le hb (by omega)
  have h3 : (yR b).getD 31 0 < 128 := by
    unfold yR
    rw [getD_setN _ _ _ _ (by omega), if_pos rfl]
    omega
  obtain ⟨a1, a2⟩ := leBytes_of h1 h2 h3
  have hf : Fe (yE b) (fp (ofV (yR b))) := by
    unfold yE
    rw [yB_eq]
    exact Fe.of h2
  exact ⟨ofV (yR b), a1, a2, ofV_lt h2, hf, by rw [hf.bytes]; rfl⟩

theorem atLeast_dig {n : Nat} (h : n < 2 ^ 255) : atLeastW (digN n) pW 16 = decide (P25 ≤ n) := by
  obtain ⟨p1, p2, p3⟩ := pW_ok
  rw [atLeast16 (digN_len n) p1 (digN_le n) p2, p3, valL_digN (by omega)]

theorem sq_fp (x : Fp) : IsSq (x * x).val := sq_is x.val

/-- The number under the root. -/
noncomputable def wF (y : Fp) : Fp := (y * y - 1) * finv (dF * (y * y) + 1)

theorem firstX_fe {Y : List Int} {y : Fp} (h : Fe Y y) : Fe (firstX Y) (wF y) := by
  have h1 : Fe oneW 1 := Fe.small (n := 1) (by decide)
  exact ((h.mul h).sub h1).mul (((curveW_ok.mul (h.mul h)).add h1).inv)

theorem wF_on {y x : Fp} (h : x * x = wF y) : x * x * (dF * (y * y) + 1) = y * y - 1 := by
  rw [h]
  unfold wF
  have hi := finv_mul (den_E y)
  generalize finv (dF * (y * y) + 1) = i at *
  generalize dF * (y * y) + 1 = g at *
  have : (y * y - 1) * i * g = (y * y - 1) * (g * i) := by grobner
  rw [this, hi]; grobner

theorem fp_addc (a b : Fp) : a + b = b + a := by grobner
theorem xxN_rd {b : List Nat} {v : Nat} (h : YOk b v) (hv : v < P25) {d : List Nat} (hd : Rd d dF) : Rd (xxN b d) (wF (fp v)) := by
  have hy : Rd (digitsW (yR b)) (fp v) := by
    show digitsW (yR b) = _
    rw [h.dg, val_fp hv]
  have h1 : Rd (smallN 1) 1 := Rd.small (n := 1) (by decide)
  have k := ((hy.mul hy).sub h1).mul (rinvN_ok (h1.add (hd.mul (hy.mul hy))))
  unfold xxN wF
  rw [fp_addc (dF * (fp v * fp v)) 1]
  exact k

theorem Rd.square {w : List Nat} {a : Fp} (h : Rd w a) : squareN w = true ↔ IsSq a.val := by
  rw [h]; exact squareN_ok a.isLt
theorem Rd.zero {w : List Nat} {a : Fp} (h : Rd w a) : zeroN w = decide (a.val = 0) := by
  rw [h]; exact zeroN_ok (val_lt a)

theorem okW_fe {X : List Int} {a : Fp} (h : Fe X a) : okW X = true ↔ IsSq a.val := by
  rw [okW_is h.is, decide_eq_true_iff, rt_ok a.isLt]

/-- The root taken. -/
theorem root_fe {X : List Int} {a : Fp} (h : Fe X a) (hs : IsSq a.val) : ∃ r : Fp, Fe (rtW X) r ∧ r * r = a ∧ r.val % 2 = 0 := by
  have h1 := rtW_is h.is hs
  have hv := val_fp (rt3_lt a.val)
  refine ⟨fp (rt3 a.val), h1.fe, ?_, by rw [hv]; exact rt3_even _⟩
  apply Fin.ext
  show (fp (rt3 a.val)).val * (fp (rt3 a.val)).val % P25 = a.val
  rw [hv, rt3_sq, rt2_sq a.isLt hs]

theorem sq_zero {r : Fp} (h : r * r = 0) : r = 0 := by
  rcases fp_nozero h with h | h <;> exact h

theorem neg_odd {r : Fp} (h : r ≠ 0) (he : r.val % 2 = 0) : (-r).val % 2 = 1 := by
  have h0 : r.val ≠ 0 := fun e => h (Fin.ext e)
  have hv : (-r).val = (P25 - r.val) % P25 := rfl
  rw [hv]
  have hlt := r.isLt
  generalize r.val = n at *
  obtain ⟨q, hq⟩ : ∃ q, q = P25 := ⟨_, rfl⟩
  rw [← hq] at hlt ⊢
  have hq' : q = 57896044618658097711785492504343953926634992332820282019728792003956564819949 := hq
  clear hq
  rw [Nat.mod_eq_of_lt (show q - n < q by omega)]
  omega

theorem set_same (l : List Nat) (i : Nat) : l.set i (l.getD i 0) = l := by
  refine ext_getD (d := 0) (by simp) fun j hj => ?_
  rw [List.length_set] at hj
  by_cases h : i < l.length
  · rw [getD_setN _ _ _ _ h]
    split
    · rename_i e; rw [e]
    · rfl
  · rw [List.set_eq_of_length_le (by omega)]

/-- The bytes that it came from. -/
theorem ptB_back {b : List Nat} {v : Nat} (h : YOk b v) (hv : v < P25) (hl : b.length = 32) (hb : ∀ x ∈ b, x ≤ 255) {x : Fp} (hx : Nat.beq (x.val % 2) 1 = Nat.ble 128 (b.getD 31 0)) : ptB x (fp v) = b := by
  unfold ptB
  rw [hx, val_fp hv, h.le]
  unfold yR
  have h31 := getD_le hb 31
  rw [getD_setN _ _ _ _ (by omega), if_pos rfl]
  cases hc : Nat.ble 128 (b.getD 31 0)
  · have : b.getD 31 0 < 128 := by
      apply Nat.lt_of_not_le
      intro hh
      rw [Nat.ble_eq_true_of_le hh] at hc
      exact absurd hc (by decide)
    rw [cond_false, Nat.mod_eq_of_lt this, set_same]
  · have := Nat.le_of_ble_eq_true hc
    rw [cond_true, List.set_set]
    have e : b.getD 31 0 % 128 + 128 = b.getD 31 0 := by omega
    rw [e, set_same]

/-- Of bytes that aren't there is nothing. -/
theorem pofP_bad {b : List Nat} (h : ofBad b = true) : pofP b = zeroP := by
  unfold pofP zeroP
  rw [h]
  simp only [cond_true]

theorem p4_if (c : Bool) (z : List Int) (m : P4) (h : c = false) : (⟨bif c then z else m.x, bif c then z else m.y, bif c then z else m.z, bif c then z else m.t⟩ : P4) = m := by
  subst h
  cases m
  rfl
theorem pofP_good {b : List Nat} (h : ofBad b = false) : pofP b = madeW (ofX b) (yE b) := p4_if (ofBad b) (zI 16) (madeW (ofX b) (yE b)) h

theorem zI_ex : ∃ a, Fe (zI 16) a := ⟨0, zI_fe⟩
theorem feP_same {z : List Int} (h : ∃ a, Fe z a) : FeP ⟨z, z, z, z⟩ := ⟨h, h, h, h⟩
theorem feP_zero : FeP zeroP := by
  unfold zeroP
  exact feP_same zI_ex
theorem PIs.feP {p : P4} {Q : Pt} (h : PIs p Q) : FeP p := by
  obtain ⟨x, y, _, _, hr⟩ := h
  obtain ⟨z, _, h1, h2, h3, h4⟩ := hr.ex
  exact ⟨⟨_, h1⟩, ⟨_, h2⟩, ⟨_, h3⟩, ⟨_, h4⟩⟩

/-- What some bytes come to: they are bad, or are a point's. -/
inductive OfR (b d : List Nat) : Prop
  | big : atLeastW (digitsW (yR b)) pW 16 = true → ofBad b = true → OfR b d
  | no : atLeastW (digitsW (yR b)) pW 16 = false → (bif !squareN (xxN b d) then true else bif zeroN (xxN b d) then Nat.ble 128 (b.getD 31 0) else false) = true → ofBad b = true → OfR b d
  | yes (Q : Pt) : atLeastW (digitsW (yR b)) pW 16 = false → (bif !squareN (xxN b d) then true else bif zeroN (xxN b d) then Nat.ble 128 (b.getD 31 0) else false) = false → ofBad b = false → PIs (pofP b) Q → pbytesW (pofP b) = b → OfR b d

theorem oddB_eq {b : List Nat} (hb : ∀ x ∈ b, x ≤ 255) : oddB b = Nat.ble 128 (b.getD 31 0) := by
  have h31 := getD_le hb 31
  unfold oddB
  exact and128 _ (by omega)

theorem of_all {b d : List Nat} (hl : b.length = 32) (hb : ∀ x ∈ b, x ≤ 255) (hd : Rd d dF) : OfR b d := by
  obtain ⟨v, h⟩ := yR_ok hl hb
  have hat := atLeast_dig h.lt
  rw [← h.dg] at hat
  have hsm : (bytesW (yE b) == yB b) = decide (v < P25) := by
    rw [h.bys, yB_eq, ← h.le]
    by_cases hv : v < P25
    · rw [Nat.mod_eq_of_lt hv, decide_eq_true hv]; simp
    · rw [decide_eq_false hv]
      have hne : leBytes (v % P25) ≠ leBytes v := fun e => by
        have := (leBytes_inj (modP_lt16 v) (Nat.lt_trans h.lt (by decide))).1 e
        have h2 := modP_lt v
        omega
      simpa using hne
  have hodd := oddB_eq hb
  by_cases hv : v < P25
  · have hat2 : atLeastW (digitsW (yR b)) pW 16 = false := by
      rw [hat, decide_eq_false (by omega)]
    rw [decide_eq_true hv] at hsm
    have hw := firstX_fe h.fe
    have hx := xxN_rd h hv hd
    generalize hwd : wF (fp v) = w at *
    by_cases hs : IsSq w.val
    · have e1 : okW (firstX (yE b)) = true := (okW_fe hw).2 hs
      have e2 : squareN (xxN b d) = true := hx.square.2 hs
      obtain ⟨r, r1, r2, r3⟩ := root_fe hw hs
      have h0 : Fe (small1 (0 : Nat)) 0 := Fe.small (n := 0) (by decide)
      have e3 : (bytesW (rtW (firstX (yE b))) == bytesW (small1 (0 : Nat))) = zeroN (xxN b d) := by
        rw [r1.eq h0, hx.zero]
        by_cases hr : r = 0
        · have : w.val = 0 := by rw [← r2, hr]; rfl
          rw [decide_eq_true hr, decide_eq_true this]
        · have : w.val ≠ 0 := fun e => hr (sq_zero (r2.trans (Fin.ext e)))
          rw [decide_eq_false hr, decide_eq_false this]
      have e4 : ofBad b = bif zeroN (xxN b d) then Nat.ble 128 (b.getD 31 0) else false := by
        unfold ofBad
        rw [e1, hsm, e3, hodd]
        rfl
      cases hz : (bif zeroN (xxN b d) then Nat.ble 128 (b.getD 31 0) else false)
      · rw [hz] at e4
        have hx2 : ∃ x : Fp, Fe (ofX b) x ∧ x * x = w ∧ Nat.beq (x.val % 2) 1 = Nat.ble 128 (b.getD 31 0) := by
          unfold ofX
          rw [hodd]
          cases ho : Nat.ble 128 (b.getD 31 0)
          · rw [cond_false]
            refine ⟨r, r1, r2, ?_⟩
            rw [r3]; rfl
          · rw [cond_true]
            have hr : r ≠ 0 := fun e => by
              have : w.val = 0 := by rw [← r2, e]; rfl
              rw [hx.zero, decide_eq_true this, cond_true, ho] at hz
              exact absurd hz (by decide)
            refine ⟨-r, r1.neg, ?_, ?_⟩
            · rw [← r2]; grobner
            · rw [neg_odd hr r3]; rfl
        obtain ⟨x, x1, x2, x3⟩ := hx2
        have hon := onE_of (wF_on (x2.trans hwd.symm))
        have hm := made_ok x1 h.fe
        refine .yes (stdP x (fp v)) hat2 (by rw [e2, hz]; rfl) e4 ?_ ?_
        · rw [pofP_good e4]
          exact ⟨x, fp v, hon, rfl, hm⟩
        · rw [pofP_good e4, pbytes_ok hm]
          exact ptB_back h hv hl hb x3
      · rw [hz] at e4
        exact .no hat2 (by rw [e2, hz]; rfl) e4
    · have e1 : okW (firstX (yE b)) = false := by
        cases hc : okW (firstX (yE b))
        · rfl
        · exact absurd ((okW_fe hw).1 hc) hs
      have e2 : squareN (xxN b d) = false := by
        cases hc : squareN (xxN b d)
        · rfl
        · exact absurd (hx.square.1 hc) hs
      refine .no hat2 (by rw [e2]; rfl) ?_
      unfold ofBad
      rw [e1]
      rfl
  · refine .big (by rw [hat, decide_eq_true (by omega)]) ?_
    unfold ofBad
    rw [hsm, decide_eq_false hv]
    cases okW (firstX (yE b)) <;> rfl

theorem poE_true {b d : List Nat} (hl : b.length = 32) (hb : ∀ x ∈ b, x ≤ 255) (hd : Rd d dF) : poE b d = true := by
  unfold poE
  rw [pon_zero, zero_bytes, pon_mul, pon_neg]
  rcases of_all hl hb hd with ⟨h1, h2⟩ | ⟨h1, h2, h3⟩ | ⟨Q, h1, h2, h3, h4, h5⟩
  · rw [pofP_bad h2, pon_add feP_zero, h1, h2, pon_zero]; rfl
  · rw [pofP_bad h3, pon_add feP_zero, h1, h2, h3, pon_zero]; rfl
  · rw [pon_add h4.feP, h1, h2, h3, ponW_ok h4, h5]
    simp

end Go.Bx
