/-
  fe's roots and the reference's question whether there is one.
-/
import Derived.Test.YtjgegdipellpbaaFeE
import Derived.Test.YtjgegdipellpbaaFeA
/-
  The reference's powers.
-/
namespace Go.Bx

/-- The states of the loops: `iv`, `kv`: the counters. -/
noncomputable def pwI (iv kv : AVal) (c : Nat) (bs a out : List Nat) : St :=
  ⟨[(0, sl16 2), (3, .ptr 1 0), (5, sl16 3), (6, iv), (7, .nat .i64 c 0 255), (8, kv)], [(1, ⟨false, [.nats .u8 255 32 bs]⟩), (2, ⟨true, row16 a⟩), (3, ⟨false, row16 out⟩)], 4, [], []⟩
noncomputable def pwJ (iv kv : AVal) (c : Nat) (bs a out : List Nat) (q : AVal) : St :=
  ⟨[(0, sl16 2), (3, .ptr 1 0), (5, sl16 3), (6, iv), (7, .nat .i64 c 0 255), (8, kv), (24, q)], [(1, ⟨false, [.nats .u8 255 32 bs]⟩), (2, ⟨true, row16 a⟩), (3, ⟨false, row16 out⟩)], 4, [], []⟩
noncomputable def pwO (iv : AVal) (bs a out : List Nat) : St :=
  ⟨[(0, sl16 2), (3, .ptr 1 0), (5, sl16 3), (6, iv)], [(1, ⟨false, [.nats .u8 255 32 bs]⟩), (2, ⟨true, row16 a⟩), (3, ⟨false, row16 out⟩)], 4, [], []⟩

def litA (k : Nat) : AVal := .nat .i64 k k k
def bdA (k hi : Nat) : AVal := .nat .i64 k 0 hi

theorem fit_bd {k hi : Nat} (h : k ≤ hi) : Fit (litA k) (bdA k hi) := fun _ _ hv => ⟨hv.1, Nat.zero_le _, h⟩
theorem fit_lit' {k hi : Nat} : Fit (bdA k hi) (litA k) := fun _ _ hv => ⟨hv.1, Nat.le_refl _, Nat.le_refl _⟩

theorem pwI_wid {iv iv' kv kv' : AVal} (h : Fit iv iv') (k : Fit kv kv') (c : Nat) (bs a out : List Nat) : Wid (pwI iv kv c bs a out) (pwI iv' kv' c bs a out) := by
  refine ⟨fun t => ?_, WidH.refl _, Nat.le_refl _⟩
  simp only [pwI, lk_eq, lk?_cons, lk?_nil]
  repeat (split <;> first | exact Fit.refl _ | exact h | exact k | skip)

theorem pwJ_wid (iv kv : AVal) (c : Nat) (bs a out : List Nat) (b : Bool) : Wid (pwJ iv kv c bs a out (.ob b)) (pwJ iv kv c bs a out (.bool b)) := by
  refine ⟨fun t => ?_, WidH.refl _, Nat.le_refl _⟩
  simp only [pwJ, lk_eq, lk?_cons, lk?_nil]
  repeat (split <;> first | exact Fit.refl _ | exact (fun _ _ h => h) | skip)

theorem pwIO_wid {iv iv' kv : AVal} (h : Fit iv iv') (c : Nat) (bs a out : List Nat) : Wid (pwI iv kv c bs a out) (pwO iv' bs a out) := by
  refine ⟨fun t => ?_, WidH.refl _, Nat.le_refl _⟩
  simp only [pwI, pwO, lk_eq, lk?_cons, lk?_nil]
  repeat (split <;> first | exact Fit.refl _ | exact h | skip)
  all_goals exact Fit.any _

/-- What the rounds come to: the power's base, and what has come out. -/
noncomputable def rpS (a : List Nat) (bs : List Nat) : Nat → List Nat × List Nat
  | 0 => (a, smallN 1)
  | m + 1 => (rMul (rpS a bs m).1 (rpS a bs m).1, cond (Nat.beq (bs.getD (m / 8) 0 / 2 ^ (m % 8) % 2) 1) (rMul (rpS a bs m).2 (rpS a bs m).1) (rpS a bs m).2)
noncomputable def rpowW (a bs : List Nat) : List Nat := (rpS a bs 256).2

theorem rMul_dig {n m : Nat} (hn : n < 65536 ^ 16) (hm : m < 65536 ^ 16) : rMul (digN n) (digN m) = digN (n * m % P25) := by
  rw [rMul, valL_digN hn, valL_digN hm]

theorem rpS_ok (n : Nat) (bs : List Nat) (hn : n < P25) : ∀ m, rpS (digN n) bs m = (digN (n ^ 2 ^ m % P25), digN (n ^ bitS bs m % P25))
  | 0 => by
    have e1 : n ^ 2 ^ 0 % P25 = n := by rw [Nat.pow_zero, Nat.pow_one, Nat.mod_eq_of_lt hn]
    have e2 : n ^ bitS bs 0 % P25 = 1 := by
      show n ^ 0 % P25 = 1
      rw [Nat.pow_zero]; decide
    rw [e1, e2, rpS, smallN_ok (by omega)]
  | m + 1 => by
    rw [rpS, rpS_ok n bs hn m]
    simp only
    rw [rMul_dig (modP_lt16 _) (modP_lt16 _), rMul_dig (modP_lt16 _) (modP_lt16 _), mulmod, mulmod, ← Nat.pow_add, ← Nat.pow_add]
    have e1 : 2 ^ m + 2 ^ m = 2 ^ (m + 1) := by rw [Nat.pow_succ]; omega
    rw [e1]
    congr 1
    have e2 : powBit bs m = Nat.beq (bs.getD (m / 8) 0 / 2 ^ (m % 8) % 2) 1 := by rw [powBit, Nat.and_one_is_mod]
    rw [bitS, e2]
    cases Nat.beq (bs.getD (m / 8) 0 / 2 ^ (m % 8) % 2) 1
    · simp only [cond_false, Nat.zero_mul, Nat.add_zero]
    · simp only [cond_true, Nat.one_mul]

theorem rpowW_ok {n : Nat} (hn : n < P25) (bs : List Nat) : rpowW (digN n) bs = digN (n ^ bitS bs 256 % P25) := by rw [rpowW, rpS_ok n bs hn]

/-- The head of a sequence that was seen, then the rest. -/
theorem runs_head_seen {P : Program} {nt m : Nat} {σ : List (Nat × Sum)} (hσ : ∀ f s, lk? σ f = some s → SumOk P f s) (hm : P.follows .mixedOrders = true) {k n : Nat} {c : Code} {s S : St} {rn : List (Nat × Nat)} {E : List Nat}
    (hc : chain k c = true) (h : okX m rn E (xA P σ nt n (firstN k c) s) true .normal S) {K : Out → St → Prop} (hr : Runs P nt m (dropN k c) S K) : Runs P nt m c s K :=
  runs_head (C := true) hσ hm hc (propext ⟨fun _ => selfX_true E true S, fun _ => h⟩) rfl hr

noncomputable def rpowS : Sum := fun args H fr => match args with
  | [x, y] => match num? H x, bytes? y with
    | some (_, ds), some bs => some (true, sl16 fr, [(fr, some ⟨false, row16 (rpowW ds bs)⟩)])
    | _, _ => none
  | _ => none

theorem canon_numb {fn : Func} {H : Heap} {a b : AVal} {n : Nat} {ds bs : List Nat} (ht : 2 ≤ fn.ntmps) (h : num? H a = some (n, ds)) (h' : bytes? b = some bs) :
    Canon [a, b] H fn 1 [sl16 0, .nats .u8 255 32 bs] [(0, ⟨true, row16 ds⟩)] (fun _ => n) := by
  obtain ⟨h1, q, h2, h3⟩ := num_fit h
  refine ⟨rfl, fun i => ?_, rfl, ht, fun m r hr => ?_⟩
  · match i with
    | 0 => exact h1
    | 1 => exact bytes_fit h'
    | i + 2 => simp [ren]; exact Fit.refl _
  · rw [lk?_cons] at hr
    split at hr
    · rename_i e
      simp only at e hr
      subst e
      simp only [Option.some.injEq] at hr; subst hr
      exact ⟨by omega, rfl, rfl, q, h2, h3⟩
    · simp [lk?_nil] at hr

theorem rpowS_ok {P : Program} {f : FuncId} {fn : Func} (hf : P.funcs[f]? = some fn) (hn : (fn.name == "runtime.NumGoroutine") = false) (hb : fn.body.isNone = false) (ht : 2 ≤ fn.ntmps) {X : Nat} (hX : 1 ≤ X)
    (h : ∀ ds bs, RunF P fn 1 [sl16 0, .nats .u8 255 32 bs] [(0, ⟨true, row16 ds⟩)] (KF (sl16 X) [(X, row16 (rpowW ds bs))])) : SumOk P f rpowS := by
  refine fun_new hf hn hb fun args H fr v us he _ _ => ?_
  unfold rpowS at he
  split at he
  · rename_i x y
    split at he
    · rename_i n ds bs hx hy
      simp only [Option.some.injEq, Prod.mk.injEq, true_and] at he
      obtain ⟨rfl, rfl⟩ := he
      exact ⟨_, rfl, rfl, 1, _, _, _, X, hX, canon_numb ht hx hy, h ds bs⟩
    · simp at he
  · simp at he

end Go.Bx

/-
  The reference's question whether a number is a square.
-/
namespace Go.Bx

noncomputable def sameW (xs ys : List Nat) : Bool := cond (atLeastW xs ys 16) (atLeastW ys xs 16) false
noncomputable def zeroN (xs : List Nat) : Bool := sameW xs (smallN 0)
noncomputable def halfW : List Nat := [0, 1, 2, 3, 4, 5, 6, 7, 8, 9, 10, 11, 12, 13, 14, 15].map fun i => bif Nat.blt i 15 then (rlessW pW (smallN 1)).getD i 0 / 2 + (rlessW pW (smallN 1)).getD (i + 1) 0 % 2 * 32768 else (rlessW pW (smallN 1)).getD i 0 / 2
noncomputable def squareN (xs : List Nat) : Bool := cond (zeroN xs) true (sameW (rpowW xs (rbytesW halfW)) (smallN 1))

end Go.Bx

/-
  Powers, inverses and swaps: an element and the reference's number.
-/
namespace Go.Bx

theorem digitsW_le32 {k : Nat} : digitsW (leBytes k) = digN k := by
  refine ext_getD (d := 0) (by rw [digN_len]; rfl) fun j hj => ?_
  have hj : j < 16 := hj
  have e : digitsW (leBytes k) = (List.range 16).map fun i => (leBytes k).getD (2 * i) 0 + 256 * (leBytes k).getD (2 * i + 1) 0 := rfl
  rw [e, digN_get hj]
  have g : ((List.range 16).map fun i => (leBytes k).getD (2 * i) 0 + 256 * (leBytes k).getD (2 * i + 1) 0).getD j 0 = (leBytes k).getD (2 * j) 0 + 256 * (leBytes k).getD (2 * j + 1) 0 := by
    simp only [List.getD_eq_getElem?_getD, List.getElem?_map, List.getElem?_range hj]; rfl
  rw [g, leBytes_get (by omega), leBytes_get (by omega)]
  have e1 : 65536 ^ j = 256 ^ (2 * j) := by rw [Nat.pow_mul]
  have e2 : k / 256 ^ (2 * j + 1) = k / 256 ^ (2 * j) / 256 := by rw [Nat.pow_succ, Nat.div_div_eq_div_mul]
  rw [e1, e2]
  generalize k / 256 ^ (2 * j) = m
  omega

theorem ofV_leBytes {k : Nat} (h : k < 2 ^ 255) : ofV (leBytes k) = k := by
  have h16 : k < 65536 ^ 16 := by omega
  unfold ofV
  rw [digitsW_le32, digN_get (by omega)]
  have e : k / 65536 ^ 15 % 65536 % 32768 = (digN k).getD 15 0 := by rw [digN_get (by omega)]; omega
  rw [e]
  have : (digN k).set 15 ((digN k).getD 15 0) = digN k := by
    refine ext_getD (d := 0) (by simp) fun j hj => ?_
    rw [getD_setN _ _ _ _ (by rw [digN_len]; omega)]
    split
    · rename_i e; rw [e]
    · rfl
  rw [this, valL_digN h16]

theorem ofV_bytes {X : List Int} {n : Nat} (h : Is X n) : ofV (bytesW X) % P25 = n := by
  have hn := h.lt
  rw [bytesW_ok h.1, h.2, ofV_leBytes (Nat.lt_trans hn (by decide)), Nat.mod_eq_of_lt hn]

theorem sameN {n m : Nat} (hn : n < 65536 ^ 16) (hm : m < 65536 ^ 16) : sameW (digN n) (digN m) = decide (n = m) := same_ok hn hm

theorem zeroN_ok {n : Nat} (hn : n < 65536 ^ 16) : zeroN (digN n) = decide (n = 0) := by
  unfold zeroN
  rw [smallN_ok (by omega), sameN hn (by decide)]

theorem chooseE {X Y : List Int} (hx : Elem X) (hy : Elem Y) (b : Bool) : chooseW X Y ((cond b 1 0 : Nat) : Int) = cond b Y X :=
  chooseW_ok hx.len hy.len (fun x h => by have := hx.le x h; omega) (fun y h => by have := hy.le y h; omega)

noncomputable def swE (X Y : List Int) : Bool :=
  bif bytesW (chooseW X Y ((cond true 1 0 : Nat) : Int)) == bytesW Y then
    bif bytesW (chooseW Y X ((cond true 1 0 : Nat) : Int)) == bytesW X then
      bif bytesW (chooseW X Y ((cond false 1 0 : Nat) : Int)) == bytesW X then
        bytesW (chooseW Y X ((cond false 1 0 : Nat) : Int)) == bytesW Y
      else false
    else false
  else false

noncomputable def fpE (X Y : List Int) (w c : List Nat) : Bool :=
  bif !bytesW (powW X c) == rbytesW (rpowW w c) then false
  else bif zeroN w then
    bif !bytesW (powW X (numW 21 0)) == List.replicate 32 0 then false else swE X Y
  else bif !sameW (rMul (digN (ofV (bytesW (powW X (numW 21 0))) % P25)) w) (smallN 1) then false else swE X Y

theorem swE_true {X Y : List Int} (hx : Elem X) (hy : Elem Y) : swE X Y = true := by
  unfold swE
  rw [chooseE hx hy true, chooseE hy hx true, chooseE hx hy false, chooseE hy hx false]
  simp

theorem fpE_true {X Y : List Int} {n m : Nat} {w : List Nat} (h : Rep X n w) (q : Is Y m) (c : List Nat) : fpE X Y w c = true := by
  have hn := h.lt
  have hi : Is X n := ⟨h.el, h.fv⟩
  have hinv := hi.inv
  unfold fpE
  have e1 : (bytesW (powW X c) == rbytesW (rpowW w c)) = true := by
    obtain ⟨p1, p2⟩ := powW_ok h.el c
    rw [bytesW_ok p1, p2, h.fv, h.dg, rpowW_ok hn, rbytesW_ok]; simp
  rw [e1, h.dg, zeroN_ok h.lt16, ofV_bytes hinv, swE_true h.el q.1]
  by_cases h0 : n = 0
  · have e2 : (bytesW (powW X (numW 21 0)) == List.replicate 32 0) = true := by
      rw [bytesW_ok hinv.1, hinv.2, h0, Nat.zero_pow (by decide)]
      decide
    rw [decide_eq_true h0, e2]
    rfl
  · have e3 : sameW (rMul (digN (n ^ (P25 - 2) % P25)) (digN n)) (smallN 1) = true := by
      rw [rMul_dig (modP_lt16 _) h.lt16, smallN_ok (by omega), sameN (modP_lt16 _) (by decide), Nat.mul_comm, inv_mul h0 hn]
      rfl
    rw [decide_eq_false h0, e3]
    rfl

end Go.Bx

/-
  Square roots modulo the prime.
-/
namespace Go.Bx

instance : NeZero P25 := ⟨by decide⟩
abbrev Fp := Fin P25
/-- A number, modulo the prime. -/
def fp (n : Nat) : Fp := Fin.ofNat P25 n

theorem fp_eq {a b : Nat} : fp a = fp b ↔ a % P25 = b % P25 := by
  simp only [fp, Fin.ofNat, Fin.mk.injEq]
theorem fp_mod (a : Nat) : fp (a % P25) = fp a := fp_eq.2 (Nat.mod_mod _ _)
theorem fp_add (a b : Nat) : fp (a + b) = fp a + fp b := by
  apply Fin.ext
  show (a + b) % P25 = (a % P25 + b % P25) % P25
  rw [← Nat.add_mod]
theorem fp_mul (a b : Nat) : fp (a * b) = fp a * fp b := by
  apply Fin.ext
  show (a * b) % P25 = (a % P25 * (b % P25)) % P25
  rw [← Nat.mul_mod]
theorem fp_zero {a : Nat} : fp a = 0 ↔ P25 ∣ a := by
  rw [Nat.dvd_iff_mod_eq_zero]
  constructor
  · intro h
    exact congrArg Fin.val h
  · intro h
    exact Fin.ext h
theorem fp_surj (x : Fp) : fp x.val = x := Fin.ext (Nat.mod_eq_of_lt x.isLt)
theorem fp_one : fp 1 = 1 := rfl
theorem fp_inj {a b : Nat} (ha : a < P25) (hb : b < P25) (h : fp a = fp b) : a = b := by
  have := fp_eq.1 h
  rwa [Nat.mod_eq_of_lt ha, Nat.mod_eq_of_lt hb] at this

theorem fp_nozero {a b : Fp} (h : a * b = 0) : a = 0 ∨ b = 0 := by
  rw [← fp_surj a, ← fp_surj b, ← fp_mul, fp_zero] at h
  rcases BC.IsPrime.dvd_mul prime25 h with h | h
  · exact .inl (by rw [← fp_surj a]; exact fp_zero.2 h)
  · exact .inr (by rw [← fp_surj b]; exact fp_zero.2 h)

theorem fp_neg {a : Nat} (h : a ≤ P25) : fp (P25 - a) = - fp a := by
  have e : fp (P25 - a) + fp a = 0 := by
    rw [← fp_add, Nat.sub_add_cancel h, fp_zero]
    exact Nat.dvd_refl _
  generalize fp (P25 - a) = x at *
  generalize fp a = y at *
  grind

theorem sq_one {a : Fp} (h : a * a = 1) : a = 1 ∨ a = -1 := by
  have : (a - 1) * (a + 1) = 0 := by grind
  rcases fp_nozero this with h | h
  · exact .inl (by grind)
  · exact .inr (by grind)

theorem sq_eq {a b : Fp} (h : a * a = b * b) : a = b ∨ a = -b := by
  have : (a - b) * (a + b) = 0 := by grind
  rcases fp_nozero this with h | h
  · exact .inl (by grind)
  · exact .inr (by grind)

/-- A root of -1. -/
def rtI : Nat := BC.powMod P25 300 2 ((P25 - 1) / 4)

theorem rtI_pow {e : Nat} (h : e = (P25 - 1) / 4) : rtI = 2 ^ e % P25 := by
  have h2 : e < 2 ^ 300 := by rw [h]; decide +kernel
  rw [← BC.powMod_eq P25 300 2 e h2, h]
  rfl

theorem rtI_sq : fp rtI * fp rtI = -1 := by
  have h2 : rtI * rtI % P25 = (P25 - 1) % P25 := by decide +kernel
  rw [← fp_mul, fp_eq.2 h2, fp_neg (by decide)]
  rfl

noncomputable def rt1 (n : Nat) : Nat := n ^ ((P25 + 3) / 8) % P25
noncomputable def rt2 (n : Nat) : Nat := if rt1 n * rt1 n % P25 = n then rt1 n else rt1 n * rtI % P25
noncomputable def rt3 (n : Nat) : Nat := if rt2 n % 2 = 1 then (P25 - rt2 n) % P25 else rt2 n
def IsSq (n : Nat) : Prop := n = 0 ∨ n ^ ((P25 - 1) / 2) % P25 = 1

theorem rt1_sq (n : Nat) : fp (rt1 n) * fp (rt1 n) = fp n * fp (n ^ ((P25 - 1) / 4)) := by
  rw [rt1, fp_mod, ← fp_mul, ← fp_mul, ← Nat.pow_add, Nat.mul_comm n, ← Nat.pow_succ]
  have e : (P25 + 3) / 8 + (P25 + 3) / 8 = (P25 - 1) / 4 + 1 := by decide
  rw [e]

theorem two_ne : (1 : Fp) ≠ -1 := by decide +kernel

theorem rt2_sq {n : Nat} (hn : n < P25) (h : IsSq n) : rt2 n * rt2 n % P25 = n := by
  unfold rt2
  by_cases h1 : rt1 n * rt1 n % P25 = n
  · rw [if_pos h1, h1]
  · rw [if_neg h1]
    rcases h with h0 | h
    · exfalso
      apply h1
      have : rt1 n = 0 := by
        rw [rt1, h0, Nat.zero_pow (by decide)]; rfl
      rw [this, h0]; rfl
    · have ha : fp (n ^ ((P25 - 1) / 4)) * fp (n ^ ((P25 - 1) / 4)) = 1 := by
        rw [← fp_mul, ← Nat.pow_add]
        have e : (P25 - 1) / 4 + (P25 - 1) / 4 = (P25 - 1) / 2 := by decide
        rw [e]
        have : fp (n ^ ((P25 - 1) / 2)) = fp 1 := fp_eq.2 (by rw [h]; decide)
        rw [this, fp_one]
      have hr := rt1_sq n
      rcases sq_one ha with ha | ha
      · exfalso
        apply h1
        have : fp (rt1 n * rt1 n) = fp n := by rw [fp_mul, hr, ha]; grind
        have := fp_eq.1 this
        rwa [Nat.mod_eq_of_lt hn] at this
      · have hI := rtI_sq
        have : fp (rt1 n * rtI % P25 * (rt1 n * rtI % P25)) = fp n := by
          rw [fp_mul, fp_mod, fp_mul]
          rw [ha] at hr
          generalize fp (rt1 n) = r at *
          generalize fp rtI = i at *
          generalize fp n = x at *
          grind
        have := fp_eq.1 this
        rwa [Nat.mod_eq_of_lt hn] at this

theorem not_dvd {n : Nat} (h0 : n ≠ 0) (hn : n < P25) : ¬ P25 ∣ n := fun ⟨c, hc⟩ => by
  cases c with
  | zero => omega
  | succ c =>
    have : P25 * (c + 1) ≥ P25 := Nat.le_mul_of_pos_right _ (by omega)
    omega

/-- A square is one. -/
theorem sq_is (r : Nat) : IsSq (r * r % P25) := by
  by_cases h : P25 ∣ r
  · left
    exact Nat.mod_eq_zero_of_dvd (Nat.dvd_trans h (Nat.dvd_mul_right r r))
  · right
    rw [powmod, Nat.mul_pow, ← Nat.pow_add]
    have e : (P25 - 1) / 2 + (P25 - 1) / 2 = P25 - 1 := by decide
    rw [e]
    exact BC.fermat_one prime25 h

theorem rt_ok {n : Nat} (hn : n < P25) : rt2 n * rt2 n % P25 = n ↔ IsSq n := by
  refine ⟨fun h => ?_, rt2_sq hn⟩
  have := sq_is (rt2 n)
  rwa [h] at this

theorem rt2_lt (n : Nat) : rt2 n < P25 := by
  unfold rt2
  split
  · exact modP_lt _
  · exact modP_lt _

theorem rt3_lt (n : Nat) : rt3 n < P25 := by
  unfold rt3
  split
  · exact modP_lt _
  · exact rt2_lt n

theorem rt3_sq (n : Nat) : rt3 n * rt3 n % P25 = rt2 n * rt2 n % P25 := by
  unfold rt3
  split
  · apply fp_eq.1
    rw [fp_mul, fp_mod, fp_mul, fp_neg (Nat.le_of_lt (rt2_lt n))]
    grind
  · rfl

theorem rt3_even (n : Nat) : rt3 n % 2 = 0 := by
  have h := rt2_lt n
  unfold rt3
  split
  · rename_i h1
    generalize rt2 n = r at *
    obtain ⟨q, hq⟩ : ∃ q, q = P25 := ⟨_, rfl⟩
    rw [← hq] at h ⊢
    have hq' : q = 57896044618658097711785492504343953926634992332820282019728792003956564819949 := hq
    rw [Nat.mod_eq_of_lt (show q - r < q by omega)]
    omega
  · omega

/-- Of a square's roots there are two. -/
theorem rt_back {n : Nat} (hn : n < P25) : rt3 (n * n % P25) = n ∨ rt3 (n * n % P25) = (P25 - n) % P25 := by
  have h1 := rt2_sq (modP_lt (n * n)) (sq_is n)
  rw [← rt3_sq] at h1
  have h2 : fp (rt3 (n * n % P25)) * fp (rt3 (n * n % P25)) = fp n * fp n := by
    rw [← fp_mul, ← fp_mul]
    exact fp_eq.2 h1
  rcases sq_eq h2 with h | h
  · exact .inl (fp_inj (rt3_lt _) hn h)
  · refine .inr (fp_inj (rt3_lt _) (modP_lt _) ?_)
    rw [h, fp_mod, fp_neg (Nat.le_of_lt hn)]

end Go.Bx

namespace Go.Bx

noncomputable def okW (X : List Int) : Bool := bif notSq (root2 X) X then false else true
noncomputable def rtW (X : List Int) : List Int := bif notSq (root2 X) X then zI 16 else root3 X

theorem Is.pow {X : List Int} {n e : Nat} (h : Is X n) (he : e < 2 ^ 256) : Is (powW X (leBytes e)) (n ^ e % P25) := by
  obtain ⟨h1, h2⟩ := powN_ok h.1 he
  exact ⟨h1, by rw [h2, h.2]⟩

theorem numW_e {a s : Nat} {e : Nat} (h : e = (2 ^ 255 - a) / 2 ^ s) : numW a s = leBytes e := by rw [numW, h]

theorem notSq_is {R X : List Int} {r n : Nat} (h : Is R r) (k : Is X n) : notSq R X = !decide (r * r % P25 = n) := by
  rw [notSq, (h.mul h).eq k]

theorem rootI_is : Is (powW (small1 2) (numW 20 2)) rtI := by
  obtain ⟨e, he⟩ : ∃ e, e = (P25 - 1) / 4 := ⟨_, rfl⟩
  have e1 : e = (2 ^ 255 - 20) / 2 ^ 2 := by rw [he]; decide
  have hb : e < 2 ^ 256 := by rw [he]; decide
  rw [numW_e e1, rtI_pow he]
  exact (Is.small 2 (by decide)).pow hb

theorem root1_is {X : List Int} {n : Nat} (h : Is X n) : Is (root1 X) (rt1 n) := by
  obtain ⟨e, he⟩ : ∃ e, e = (P25 + 3) / 8 := ⟨_, rfl⟩
  have e1 : e = (2 ^ 255 - 16) / 2 ^ 3 := by rw [he]; decide
  have hb : e < 2 ^ 256 := by rw [he]; decide
  rw [root1, rt1, numW_e e1, ← he]
  exact h.pow hb

theorem root2_is {X : List Int} {n : Nat} (h : Is X n) : Is (root2 X) (rt2 n) := by
  have h1 := root1_is h
  unfold root2 rt2
  rw [notSq_is h1 h]
  by_cases hq : rt1 n * rt1 n % P25 = n
  · rw [decide_eq_true hq, if_pos hq, Bool.not_true, cond_false]
    exact h1
  · rw [decide_eq_false hq, if_neg hq, Bool.not_false, cond_true]
    exact h1.mul rootI_is

theorem root3_is {X : List Int} {n : Nat} (h : Is X n) : Is (root3 X) (rt3 n) := by
  have h2 := root2_is h
  unfold root3 rt3
  have ho : oddW (root2 X) = Nat.beq (rt2 n % 2) 1 := by
    rw [oddW, odd_ok h2.1, h2.2]
  rw [ho]
  by_cases hq : rt2 n % 2 = 1
  · have hb : Nat.beq 1 1 = true := rfl
    rw [if_pos hq, hq, hb, cond_true]
    exact h2.neg
  · have : rt2 n % 2 = 0 := by omega
    have hb : Nat.beq 0 1 = false := rfl
    rw [if_neg hq, this, hb, cond_false]
    exact h2

theorem okW_is {X : List Int} {n : Nat} (h : Is X n) : okW X = decide (rt2 n * rt2 n % P25 = n) := by
  rw [okW, notSq_is (root2_is h) h]
  cases decide (rt2 n * rt2 n % P25 = n) <;> rfl

theorem rtW_is {X : List Int} {n : Nat} (h : Is X n) (hs : IsSq n) : Is (rtW X) (rt3 n) := by
  rw [rtW, notSq_is (root2_is h) h, decide_eq_true (rt2_sq h.lt hs), Bool.not_true, cond_false]
  exact root3_is h

theorem halfW_ok : rbytesW halfW = leBytes ((P25 - 1) / 2) := by
  have : halfW = digN ((P25 - 1) / 2) := by decide +kernel
  rw [this, rbytesW_ok]

theorem squareN_ok {n : Nat} (hn : n < P25) : squareN (digN n) = true ↔ IsSq n := by
  unfold squareN IsSq
  obtain ⟨e, he⟩ : ∃ e, e = (P25 - 1) / 2 := ⟨_, rfl⟩
  have hb : e < 2 ^ 256 := by rw [he]; decide
  rw [zeroN_ok (Nat.lt_trans hn (by decide)), halfW_ok, ← he, rpowW_ok hn, bitS_le e 256 (Nat.le_refl _), Nat.mod_eq_of_lt hb, smallN_ok (by omega), sameN (modP_lt16 _) (by decide)]
  by_cases h0 : n = 0
  · rw [decide_eq_true h0]; simp [h0]
  · rw [decide_eq_false h0]; simp [h0]

noncomputable def frE (X : List Int) (w : List Nat) : Bool :=
  bif !okW X == squareN w then false
  else bif !okW X then bytesW (rtW X) == List.replicate 32 0
  else bif (bif !sameW (rMul (digN (ofV (bytesW (rtW X)) % P25)) (digN (ofV (bytesW (rtW X)) % P25))) w then true else !Nat.beq ((digN (ofV (bytesW (rtW X)) % P25)).getD 0 0 % 2) 0) then false
  else bif okW (mulW X X) then
    bif bytesW (rtW (mulW X X)) == bytesW X then true else bytesW (rtW (mulW X X)) == bytesW (negW X)
  else false

theorem frE_true {X : List Int} {n : Nat} {w : List Nat} (h : Rep X n w) : frE X w = true := by
  have hi : Is X n := ⟨h.el, h.fv⟩
  have hn := h.lt
  have hq : okW X = squareN w := by
    rw [okW_is hi, h.dg, Bool.eq_iff_iff, squareN_ok hn, decide_eq_true_iff, rt_ok hn]
  have e1 : (okW X == squareN w) = true := by rw [hq]; simp
  unfold frE
  rw [e1]
  by_cases hs : IsSq n
  · have e2 : okW X = true := by rw [hq, h.dg]; exact (squareN_ok hn).2 hs
    have hr := rtW_is hi hs
    have e3 : sameW (rMul (digN (ofV (bytesW (rtW X)) % P25)) (digN (ofV (bytesW (rtW X)) % P25))) w = true := by
      have hl : rt3 n < 65536 ^ 16 := Nat.lt_trans (rt3_lt n) (by decide)
      rw [ofV_bytes hr, h.dg, rMul_dig hl hl, sameN (modP_lt16 _) h.lt16, rt3_sq, decide_eq_true (rt2_sq hn hs)]
    have e4 : Nat.beq ((digN (ofV (bytesW (rtW X)) % P25)).getD 0 0 % 2) 0 = true := by
      rw [ofV_bytes hr, getD_cast_digN, rt3_even]; rfl
    have hm := hi.mul hi
    have hms := sq_is n
    have e5 : okW (mulW X X) = true := by
      rw [okW_is hm]
      exact decide_eq_true (rt2_sq hm.lt hms)
    have hrm := rtW_is hm hms
    have e6 : (bif bytesW (rtW (mulW X X)) == bytesW X then true else bytesW (rtW (mulW X X)) == bytesW (negW X)) = true := by
      rw [hrm.eq hi, hrm.eq hi.neg]
      rcases rt_back hn with q | q
      · rw [decide_eq_true q]; rfl
      · rw [decide_eq_true q]; simp
    rw [e2, e3, e4, e5, e6]
    rfl
  · have e2 : okW X = false := by
      rw [hq, h.dg]
      cases hc : squareN (digN n)
      · rfl
      · exact absurd ((squareN_ok hn).1 hc) hs
    have e3 : rtW X = zI 16 := by
      unfold okW at e2
      unfold rtW
      cases hc : notSq (root2 X) X
      · rw [hc] at e2; simp at e2
      · rfl
    have e4 : (bytesW (rtW X) == List.replicate 32 0) = true := by
      rw [e3, bytesW_ok zI_elem, zI_val]; decide
    rw [e2, e4]
    rfl

end Go.Bx
