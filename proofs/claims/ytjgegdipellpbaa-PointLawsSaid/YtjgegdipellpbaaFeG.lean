/-
  The ladder's example.
-/
import Derived.Test.YtjgegdipellpbaaFeF
/-
  Elements and numbers as members of the field.
-/
namespace Go.Bx

/-- These parts stand for this member. -/
def Fe (X : List Int) (a : Fp) : Prop := Elem X ∧ fp (fval X) = a
/-- These digits do. -/
def Rd (w : List Nat) (a : Fp) : Prop := w = digN a.val

theorem Fe.fv {X : List Int} {a : Fp} (h : Fe X a) : fval X = a.val := by
  have h2 := congrArg Fin.val h.2
  rw [← h2]
  exact (Nat.mod_eq_of_lt (fval_lt X)).symm
theorem Fe.is {X : List Int} {a : Fp} (h : Fe X a) : Is X a.val := ⟨h.1, h.fv⟩
theorem Is.fe {X : List Int} {n : Nat} (h : Is X n) : Fe X (fp n) := ⟨h.1, by rw [h.2]⟩
theorem Fe.el {X : List Int} {a : Fp} (h : Fe X a) : Elem X := h.1
theorem val_lt (a : Fp) : a.val < 65536 ^ 16 := Nat.lt_trans a.isLt (by decide)
theorem fp_val {n : Nat} : (fp n).val = n % P25 := rfl

theorem Fe.add {X Y : List Int} {a b : Fp} (h : Fe X a) (k : Fe Y b) : Fe (addW X Y) (a + b) := by
  obtain ⟨h1, h2⟩ := addW_ok h.1 k.1
  exact ⟨h1, by rw [h2, fp_mod, fp_add, h.2, k.2]⟩
theorem Fe.mul {X Y : List Int} {a b : Fp} (h : Fe X a) (k : Fe Y b) : Fe (mulW X Y) (a * b) := by
  obtain ⟨h1, h2⟩ := mulW_ok h.1 k.1
  exact ⟨h1, by rw [h2, fp_mod, fp_mul, h.2, k.2]⟩
theorem fp_subm {n m : Nat} (h : m ≤ P25) : fp ((n + (P25 - m)) % P25) = fp n - fp m := by
  rw [fp_mod, fp_add, fp_neg h]
  generalize fp n = a
  generalize fp m = b
  grind
theorem Fe.sub {X Y : List Int} {a b : Fp} (h : Fe X a) (k : Fe Y b) : Fe (subW X Y) (a - b) := by
  obtain ⟨h1, h2⟩ := subW_ok h.1 k.1
  exact ⟨h1, by rw [h2, fp_subm (Nat.le_of_lt (fval_lt _)), h.2, k.2]⟩
theorem Fe.neg {X : List Int} {a : Fp} (h : Fe X a) : Fe (negW X) (-a) := by
  obtain ⟨h1, h2⟩ := negW_ok h.1
  exact ⟨h1, by rw [h2, fp_mod, fp_neg (Nat.le_of_lt (fval_lt _)), h.2]⟩
theorem Fe.small {n : Nat} (h : n < 65536) : Fe (small1 (n : Int)) (fp n) := (Is.small n h).fe
theorem Fe.of {b : List Nat} (hb : ∀ x ∈ b, x ≤ 255) : Fe ((ofW b).map Int.ofNat) (fp (ofV b)) := ⟨(ofE hb).1, by rw [(ofE hb).2, fp_mod]⟩
theorem Fe.bytes {X : List Int} {a : Fp} (h : Fe X a) : bytesW X = leBytes a.val := by rw [bytesW_ok h.1, h.fv]
theorem Fe.choose {X Y : List Int} {a b : Fp} (h : Fe X a) (k : Fe Y b) (c : Bool) : Fe (chooseW X Y ((cond c 1 0 : Nat) : Int)) (cond c b a) := by
  rw [chooseE h.1 k.1]
  cases c
  · exact h
  · exact k

/-- The inverse, 0 for 0. -/
noncomputable def finv (a : Fp) : Fp := fp (a.val ^ (P25 - 2))
theorem finv_mul {a : Fp} (h : a ≠ 0) : a * finv a = 1 := by
  have h0 : a.val ≠ 0 := fun e => h (Fin.ext e)
  have := inv_mul h0 a.isLt
  have e : a * finv a = fp (a.val * (a.val ^ (P25 - 2) % P25)) := by
    rw [fp_mul, fp_surj, fp_mod]; rfl
  rw [e]
  exact (fp_eq.2 (show _ = 1 % P25 by rw [this]; decide)).trans fp_one
theorem finv_zero : finv 0 = 0 := by
  have : (0 : Fp).val = 0 := rfl
  rw [finv, this, Nat.zero_pow (by decide)]
  rfl
theorem Fe.inv {X : List Int} {a : Fp} (h : Fe X a) : Fe (powW X (numW 21 0)) (finv a) := by
  obtain ⟨h1, h2⟩ := h.is.inv
  exact ⟨h1, by rw [h2, fp_mod]; rfl⟩
theorem Fe.eq {X Y : List Int} {a b : Fp} (h : Fe X a) (k : Fe Y b) : (bytesW X == bytesW Y) = decide (a = b) := by
  rw [h.is.eq k.is]
  by_cases e : a = b
  · rw [decide_eq_true e, decide_eq_true (by rw [e])]
  · rw [decide_eq_false e, decide_eq_false (fun q => e (Fin.ext q))]

theorem Rd.val {w : List Nat} {a : Fp} (h : Rd w a) : valL w = a.val := by rw [h, valL_digN (val_lt a)]
theorem Rd.add {w v : List Nat} {a b : Fp} (h : Rd w a) (k : Rd v b) : Rd (rAdd w v) (a + b) := by
  show digN ((valL w + valL v) % P25) = _
  rw [h.val, k.val]; rfl
theorem Rd.mul {w v : List Nat} {a b : Fp} (h : Rd w a) (k : Rd v b) : Rd (rMul w v) (a * b) := by
  show digN (valL w * valL v % P25) = _
  rw [h.val, k.val]; rfl
theorem Rd.sub {w v : List Nat} {a b : Fp} (h : Rd w a) (k : Rd v b) : Rd (rsubW w v) (a - b) := by
  show rsubW w v = _
  rw [h, k, rsubW_ok a.isLt b.isLt]
  congr 1
  have := congrArg Fin.val (fp_subm (n := a.val) (m := b.val) (Nat.le_of_lt b.isLt))
  rw [fp_surj, fp_surj, fp_val, Nat.mod_mod] at this
  exact this
theorem Rd.small {n : Nat} (h : n < 65536) : Rd (smallN n) (fp n) := by
  show smallN n = _
  rw [smallN_ok (by omega), fp_val, Nat.mod_eq_of_lt (Nat.lt_trans h (by decide))]
theorem Rd.of {n : Nat} : Rd (digN (n % P25)) (fp n) := rfl
theorem Rd.bytes {w : List Nat} {a : Fp} (h : Rd w a) : rbytesW w = leBytes a.val := by rw [h, rbytesW_ok]
theorem Rd.same {w v : List Nat} {a b : Fp} (h : Rd w a) (k : Rd v b) : sameW w v = decide (a = b) := by
  rw [h, k, sameN (val_lt a) (val_lt b)]
  by_cases e : a = b
  · rw [decide_eq_true e, decide_eq_true (by rw [e])]
  · rw [decide_eq_false e, decide_eq_false (fun q => e (Fin.ext q))]
theorem Rd.pow {w : List Nat} {a : Fp} (h : Rd w a) {e : Nat} (he : e < 2 ^ 256) : Rd (rpowW w (leBytes e)) (fp (a.val ^ e)) := by
  show rpowW w (leBytes e) = _
  rw [h, rpowW_ok a.isLt, bitS_le e 256 (Nat.le_refl _), Nat.mod_eq_of_lt he]
  rfl

end Go.Bx

/-
  The ladder: what its functions compute.
-/
namespace Go.Bx

noncomputable def facB : List Nat := [65, 219, 1, 0, 0, 0, 0, 0, 0, 0, 0, 0, 0, 0, 0, 0, 0, 0, 0, 0, 0, 0, 0, 0, 0, 0, 0, 0, 0, 0, 0, 0]
noncomputable def facE : List Int := (ofW facB).map Int.ofNat

structure Four where
  a : List Int
  b : List Int
  c : List Int
  d : List Int

noncomputable def rungW (x2 z2 x3 z3 u : List Int) : Four :=
  let plus := addW x2 z2
  let minus := subW x2 z2
  let aa := mulW plus plus
  let bb := mulW minus minus
  let e := subW aa bb
  let da := mulW (subW x3 z3) plus
  let cb := mulW (addW x3 z3) minus
  let sum := addW da cb
  let diff := subW da cb
  ⟨mulW aa bb, mulW e (addW aa (mulW facE e)), mulW sum sum, mulW u (mulW diff diff)⟩

noncomputable def el (l : List Int) : AVal := .ints .i64 16 l
noncomputable def fourV (f : Four) : AVal := .tuple [el f.a, el f.b, el f.c, el f.d]

noncomputable def factorS : Sum := fun args _ _ => match args with
  | [] => some (true, .nats .i64 65535 16 (ofW facB), [])
  | _ => none

noncomputable def rungS : Sum := fun args _ _ => match args with
  | [x, y, z, w, u] => match i64s x, i64s y, i64s z, i64s w, i64s u with
    | some x2, some z2, some x3, some z3, some u => some (true, fourV (rungW x2 z2 x3 z3 u), [])
    | _, _, _, _, _ => none
  | _ => none

noncomputable def clampW (bs : List Nat) : List Nat := (bs.set 0 (bs.getD 0 0 &&& 248)).set 31 (((bs.set 0 (bs.getD 0 0 &&& 248)).getD 31 0 &&& 127) ||| 64)
noncomputable def rclampW (bs : List Nat) : List Nat := (bs.set 0 (bs.getD 0 0 / 8 * 8)).set 31 ((bs.set 0 (bs.getD 0 0 / 8 * 8)).getD 31 0 % 64 + 64)

noncomputable def bsum1 (g : List Nat → AVal) : Sum := fun args _ _ => match args with
  | [x] => match bytes? x with
    | some bs => some (true, g bs, [])
    | none => none
  | _ => none
noncomputable def bsum2 (g : List Nat → List Nat → AVal) : Sum := fun args _ _ => match args with
  | [x, y] => match bytes? x, bytes? y with
    | some bs, some cs => some (true, g bs cs, [])
    | _, _ => none
  | _ => none
noncomputable def by32 (l : List Nat) : AVal := .nats .u8 255 32 l

section
variable {P : Program}

theorem factorS_ok {f : FuncId} {fn : Func} (hf : P.funcs[f]? = some fn) (hn : (fn.name == "runtime.NumGoroutine") = false) (hb : fn.body.isNone = false)
    (h : RunF P fn 0 [] [] (KF (.nats .i64 65535 16 (ofW facB)) [])) : SumOk P f factorS := by
  refine fun_val hf hn hb fun args H fr v us he => ?_
  unfold factorS at he
  split at he
  · simp only [Option.some.injEq, Prod.mk.injEq, true_and] at he
    obtain ⟨rfl, rfl⟩ := he
    exact ⟨rfl, [], rfl, fun i => Fit.refl _, rfl, rfl, Nat.zero_le _, h⟩
  · simp at he

theorem rungS_ok {f : FuncId} {fn : Func} (hf : P.funcs[f]? = some fn) (hn : (fn.name == "runtime.NumGoroutine") = false) (hb : fn.body.isNone = false) (ht : 5 ≤ fn.ntmps)
    (h : ∀ a b c d e, RunF P fn 0 [el a, el b, el c, el d, el e] [] (KF (fourV (rungW a b c d e)) [])) : SumOk P f rungS := by
  refine fun_val hf hn hb fun args H fr v us he => ?_
  unfold rungS at he
  split at he
  · rename_i x y z w u
    split at he
    · rename_i a b c d e ha hb hc hd hE
      simp only [Option.some.injEq, Prod.mk.injEq, true_and] at he
      obtain ⟨rfl, rfl⟩ := he
      exact ⟨rfl, [el a, el b, el c, el d, el e], rfl, fits_get rfl (by simpa using ⟨i64s_fit ha, i64s_fit hb, i64s_fit hc, i64s_fit hd, i64s_fit hE⟩), rfl, rfl, ht, h a b c d e⟩
    · simp at he
  · simp at he

theorem bsum1_ok {f : FuncId} {fn : Func} (hf : P.funcs[f]? = some fn) (hn : (fn.name == "runtime.NumGoroutine") = false) (hb : fn.body.isNone = false) (ht : 1 ≤ fn.ntmps) {g : List Nat → AVal} (hg : ∀ xs, allN (fun _ => false) (g xs) = true)
    (h : ∀ bs, RunF P fn 0 [by32 bs] [] (KF (g bs) [])) : SumOk P f (bsum1 g) := by
  refine fun_val hf hn hb fun args H fr v us he => ?_
  unfold bsum1 at he
  split at he
  · rename_i x
    split at he
    · rename_i bs hx
      simp only [Option.some.injEq, Prod.mk.injEq, true_and] at he
      obtain ⟨rfl, rfl⟩ := he
      exact ⟨rfl, [by32 bs], rfl, fits_get rfl (by simpa [by32] using bytes_fit hx), rfl, hg bs, ht, h bs⟩
    · simp at he
  · simp at he

theorem bsum2_ok {f : FuncId} {fn : Func} (hf : P.funcs[f]? = some fn) (hn : (fn.name == "runtime.NumGoroutine") = false) (hb : fn.body.isNone = false) (ht : 2 ≤ fn.ntmps) {g : List Nat → List Nat → AVal} (hg : ∀ xs ys, allN (fun _ => false) (g xs ys) = true)
    (h : ∀ bs cs, RunF P fn 0 [by32 bs, by32 cs] [] (KF (g bs cs) [])) : SumOk P f (bsum2 g) := by
  refine fun_val hf hn hb fun args H fr v us he => ?_
  unfold bsum2 at he
  split at he
  · rename_i x y
    split at he
    · rename_i bs cs hx hy
      simp only [Option.some.injEq, Prod.mk.injEq, true_and] at he
      obtain ⟨rfl, rfl⟩ := he
      exact ⟨rfl, [by32 bs, by32 cs], rfl, fits_get rfl (by simpa [by32] using ⟨bytes_fit hx, bytes_fit hy⟩), rfl, hg bs cs, ht, h bs cs⟩
    · simp at he
  · simp at he

end

/-- The ladder's state: two points' parts, and whether they are swapped. -/
structure Lad where
  x2 : List Int
  z2 : List Int
  x3 : List Int
  z3 : List Int
  sw : Bool

noncomputable def chB (x y : List Int) (c : Bool) : List Int := chooseW x y ((cond c 1 0 : Nat) : Int)
noncomputable def ladStep (u : List Int) (bit : Bool) (s : Lad) : Lad :=
  let f := rungW (chB s.x2 s.x3 (!(bit == s.sw))) (chB s.z2 s.z3 (!(bit == s.sw))) (chB s.x3 s.x2 (!(bit == s.sw))) (chB s.z3 s.z2 (!(bit == s.sw))) u
  ⟨f.a, f.b, f.c, f.d, bit⟩

/-- Behind `k` rounds. -/
noncomputable def ladD (u : List Int) (bs : List Nat) : Nat → Lad
  | 0 => ⟨small1 (1 : Nat), small1 (0 : Nat), u, small1 (1 : Nat), false⟩
  | k + 1 => ladStep u (powBit bs (254 - k)) (ladD u bs k)

noncomputable def ladSt (c : AVal) (u : List Int) (bs : List Nat) (x2 z2 x3 z3 : List Int) (sw : Bool) : St :=
  ⟨[(4, .ptr 0 0), (5, .ptr 1 0), (6, .ptr 2 0), (7, .ptr 3 0), (8, .ptr 4 0), (9, .ptr 5 0), (10, .ptr 6 0), (11, .ob sw), (12, c)],
   [(0, ⟨false, [.nats .u8 255 32 (List.replicate 32 0)]⟩), (1, ⟨false, [by32 bs]⟩), (2, ⟨false, [el u]⟩), (3, ⟨false, [el x2]⟩), (4, ⟨false, [el z2]⟩), (5, ⟨false, [el x3]⟩), (6, ⟨false, [el z3]⟩)], 7, [], []⟩
noncomputable def ladSn (u : List Int) (bs : List Nat) (n : Nat) : St :=
  ladSt (powC n) u bs (ladD u bs (255 - n)).x2 (ladD u bs (255 - n)).z2 (ladD u bs (255 - n)).x3 (ladD u bs (255 - n)).z3 (ladD u bs (255 - n)).sw

noncomputable def ladW (ns ps : List Nat) : List Nat :=
  let u := (ofW ps).map Int.ofNat
  let s := ladD u (clampW ns) 255
  bytesW (mulW (chB s.x2 s.x3 (!(false == s.sw))) (powW (chB s.z2 s.z3 (!(false == s.sw))) (numW 21 0)))

end Go.Bx

/-
  The reference's ladder: what it computes.
-/
namespace Go.Bx

noncomputable def rbyW : List Nat := [56129, 1, 0, 0, 0, 0, 0, 0, 0, 0, 0, 0, 0, 0, 0, 0]
noncomputable def rbit (bs : List Nat) (i : Nat) : Nat := iter (fun _ n => n / 2) (i % 8) (bs.getD (i / 8) 0) % 2

structure FourN where
  a : List Nat
  b : List Nat
  c : List Nat
  d : List Nat

noncomputable def rladStep (u : List Nat) (bit : Bool) (s : FourN) : FourN :=
  let x := cond bit s.c s.a
  let z := cond bit s.d s.b
  let a := rAdd x z
  let b := rsubW x z
  let aa := rMul a a
  let bb := rMul b b
  let e := rsubW aa bb
  let twoX := rMul aa bb
  let twoZ := rMul e (rAdd aa (rMul rbyW e))
  let p := rMul (rsubW s.c s.d) (rAdd s.a s.b)
  let q := rMul (rAdd s.c s.d) (rsubW s.a s.b)
  let t := rAdd p q
  let d := rsubW p q
  let sumX := rMul t t
  let sumZ := rMul u (rMul d d)
  cond bit ⟨sumX, sumZ, twoX, twoZ⟩ ⟨twoX, twoZ, sumX, sumZ⟩

noncomputable def rladD (u : List Nat) (bs : List Nat) : Nat → FourN
  | 0 => ⟨smallN 1, smallN 0, u, smallN 1⟩
  | k + 1 => rladStep u (Nat.beq (rbit bs (254 - k)) 1) (rladD u bs k)

noncomputable def rlSt (c v : AVal) (bs u by_ x2 z2 x3 z3 : List Nat) : St :=
  ⟨[(4, .ptr 0 0), (5, .ptr 1 0), (6, sl16 2), (7, sl16 3), (8, sl16 4), (9, sl16 5), (10, sl16 6), (11, sl16 7), (12, c), (13, v)],
   [(0, ⟨false, [.nats .u8 255 32 (List.replicate 32 0)]⟩), (1, ⟨false, [by32 bs]⟩), (2, ⟨true, row16 u⟩), (3, ⟨true, row16 by_⟩), (4, ⟨true, row16 x2⟩), (5, ⟨true, row16 z2⟩), (6, ⟨true, row16 x3⟩), (7, ⟨true, row16 z3⟩)], 8, [], []⟩
noncomputable def rlF (c v : AVal) (bs u by_ : List Nat) (s : FourN) : St := rlSt c v bs u by_ s.a s.b s.c s.d

theorem rlSt_wid {c c' v v' : AVal} (h : Fit c c') (k : Fit v v') (bs u by_ x2 z2 x3 z3 : List Nat) : Wid (rlSt c v bs u by_ x2 z2 x3 z3) (rlSt c' v' bs u by_ x2 z2 x3 z3) := by
  refine ⟨fun t => ?_, WidH.refl _, Nat.le_refl _⟩
  simp only [rlSt, lk_eq, lk?_cons, lk?_nil]
  repeat (split <;> first | exact Fit.refl _ | exact h | exact k | skip)

noncomputable def rladW (ns ps : List Nat) : List Nat :=
  let s := rladD (digN (ofV ps % P25)) (rclampW ns) 255
  rbytesW (rMul s.a (rpowW s.b (rbytesW (rlessW pW (smallN 2)))))

end Go.Bx

/-
  The ladder, in the field: what both come to.
-/
namespace Go.Bx

/-- Two points' parts, in the field. -/
structure LP where
  x2 : Fp
  z2 : Fp
  x3 : Fp
  z3 : Fp

noncomputable def facF : Fp := fp 121665

/-- Twice the first, and the sum of both. -/
noncomputable def rungF (u : Fp) (s : LP) : LP :=
  ⟨(s.x2 + s.z2) * (s.x2 + s.z2) * ((s.x2 - s.z2) * (s.x2 - s.z2)),
   ((s.x2 + s.z2) * (s.x2 + s.z2) - (s.x2 - s.z2) * (s.x2 - s.z2)) * ((s.x2 + s.z2) * (s.x2 + s.z2) + facF * ((s.x2 + s.z2) * (s.x2 + s.z2) - (s.x2 - s.z2) * (s.x2 - s.z2))),
   ((s.x3 - s.z3) * (s.x2 + s.z2) + (s.x3 + s.z3) * (s.x2 - s.z2)) * ((s.x3 - s.z3) * (s.x2 + s.z2) + (s.x3 + s.z3) * (s.x2 - s.z2)),
   u * (((s.x3 - s.z3) * (s.x2 + s.z2) - (s.x3 + s.z3) * (s.x2 - s.z2)) * ((s.x3 - s.z3) * (s.x2 + s.z2) - (s.x3 + s.z3) * (s.x2 - s.z2)))⟩

def LP.flip (s : LP) : LP := ⟨s.x3, s.z3, s.x2, s.z2⟩
/-- A step of the ladder: without swaps. -/
noncomputable def stepF (u : Fp) (bit : Bool) (s : LP) : LP := cond bit (rungF u s.flip).flip (rungF u s)
noncomputable def ladF (u : Fp) (bit : Nat → Bool) : Nat → LP
  | 0 => ⟨1, 0, u, 1⟩
  | k + 1 => stepF u (bit (254 - k)) (ladF u bit k)

theorem facE_ok : Fe facE facF := by
  have h : ∀ x ∈ facB, x ≤ 255 := by decide
  have := Fe.of h
  have e : ofV facB = 121665 := by decide
  rw [e] at this
  exact this

structure FeL4 (f : Four) (s : LP) : Prop where
  a : Fe f.a s.x2
  b : Fe f.b s.z2
  c : Fe f.c s.x3
  d : Fe f.d s.z3

theorem rungW_ok {x2 z2 x3 z3 u : List Int} {a b c d w : Fp} (h1 : Fe x2 a) (h2 : Fe z2 b) (h3 : Fe x3 c) (h4 : Fe z3 d) (hu : Fe u w) : FeL4 (rungW x2 z2 x3 z3 u) (rungF w ⟨a, b, c, d⟩) := by
  have plus := h1.add h2
  have minus := h1.sub h2
  have aa := plus.mul plus
  have bb := minus.mul minus
  have e := aa.sub bb
  have da := (h3.sub h4).mul plus
  have cb := (h3.add h4).mul minus
  have sum := da.add cb
  have diff := da.sub cb
  have k1 := aa.mul bb
  have k2 := e.mul (aa.add (facE_ok.mul e))
  have k3 := sum.mul sum
  have k4 := hu.mul (diff.mul diff)
  refine ⟨?_, ?_, ?_, ?_⟩
  · simpa only [rungW, rungF] using k1
  · simpa only [rungW, rungF] using k2
  · simpa only [rungW, rungF] using k3
  · simpa only [rungW, rungF] using k4

/-- The ladder's state, told without swaps. -/
structure LadIs (s : Lad) (f : LP) : Prop where
  x2 : Fe s.x2 (cond s.sw f.x3 f.x2)
  z2 : Fe s.z2 (cond s.sw f.z3 f.z2)
  x3 : Fe s.x3 (cond s.sw f.x2 f.x3)
  z3 : Fe s.z3 (cond s.sw f.z2 f.z3)

theorem ladStep_ok {u : List Int} {w : Fp} (hu : Fe u w) {s : Lad} {f : LP} (h : LadIs s f) (bit : Bool) : LadIs (ladStep u bit s) (stepF w bit f) := by
  obtain ⟨x2, z2, x3, z3, sw⟩ := s
  obtain ⟨a, b, c, d⟩ := f
  obtain ⟨h1, h2, h3, h4⟩ := h
  simp only at h1 h2 h3 h4
  have g1 : Fe (chB x2 x3 (!(bit == sw))) (cond bit c a) := by
    have := h1.choose h3 (!(bit == sw))
    cases bit <;> cases sw <;> exact this
  have g2 : Fe (chB z2 z3 (!(bit == sw))) (cond bit d b) := by
    have := h2.choose h4 (!(bit == sw))
    cases bit <;> cases sw <;> exact this
  have g3 : Fe (chB x3 x2 (!(bit == sw))) (cond bit a c) := by
    have := h3.choose h1 (!(bit == sw))
    cases bit <;> cases sw <;> exact this
  have g4 : Fe (chB z3 z2 (!(bit == sw))) (cond bit b d) := by
    have := h4.choose h2 (!(bit == sw))
    cases bit <;> cases sw <;> exact this
  have hr := rungW_ok g1 g2 g3 g4 hu
  have e : ladStep u bit ⟨x2, z2, x3, z3, sw⟩ = ⟨(rungW (chB x2 x3 (!(bit == sw))) (chB z2 z3 (!(bit == sw))) (chB x3 x2 (!(bit == sw))) (chB z3 z2 (!(bit == sw))) u).a, (rungW (chB x2 x3 (!(bit == sw))) (chB z2 z3 (!(bit == sw))) (chB x3 x2 (!(bit == sw))) (chB z3 z2 (!(bit == sw))) u).b, (rungW (chB x2 x3 (!(bit == sw))) (chB z2 z3 (!(bit == sw))) (chB x3 x2 (!(bit == sw))) (chB z3 z2 (!(bit == sw))) u).c, (rungW (chB x2 x3 (!(bit == sw))) (chB z2 z3 (!(bit == sw))) (chB x3 x2 (!(bit == sw))) (chB z3 z2 (!(bit == sw))) u).d, bit⟩ := by
    simp only [ladStep]
  rw [e]
  generalize rungW (chB x2 x3 (!(bit == sw))) (chB z2 z3 (!(bit == sw))) (chB x3 x2 (!(bit == sw))) (chB z3 z2 (!(bit == sw))) u = r at *
  cases bit
  · exact ⟨hr.a, hr.b, hr.c, hr.d⟩
  · exact ⟨hr.a, hr.b, hr.c, hr.d⟩

theorem ladD_ok {u : List Int} {w : Fp} (hu : Fe u w) (bs : List Nat) : ∀ k, LadIs (ladD u bs k) (ladF w (powBit bs) k)
  | 0 => by
    have h1 : Fe (small1 (1 : Nat)) 1 := Fe.small (n := 1) (by decide)
    have h0 : Fe (small1 (0 : Nat)) 0 := Fe.small (n := 0) (by decide)
    exact ⟨h1, h0, hu, h1⟩
  | k + 1 => by
    rw [ladD, ladF]
    exact ladStep_ok hu (ladD_ok hu bs k) _

/-- The result. -/
noncomputable def ladR (u : Fp) (bit : Nat → Bool) : Fp := (ladF u bit 255).x2 * finv (ladF u bit 255).z2

theorem ladW_ok {ns ps : List Nat} (hp : ∀ x ∈ ps, x ≤ 255) : ladW ns ps = leBytes (ladR (fp (ofV ps)) (powBit (clampW ns))).val := by
  have hu := Fe.of hp
  have h := ladD_ok hu (clampW ns) 255
  have e : ladW ns ps = bytesW (mulW (chB (ladD ((ofW ps).map Int.ofNat) (clampW ns) 255).x2 (ladD ((ofW ps).map Int.ofNat) (clampW ns) 255).x3 (!(false == (ladD ((ofW ps).map Int.ofNat) (clampW ns) 255).sw))) (powW (chB (ladD ((ofW ps).map Int.ofNat) (clampW ns) 255).z2 (ladD ((ofW ps).map Int.ofNat) (clampW ns) 255).z3 (!(false == (ladD ((ofW ps).map Int.ofNat) (clampW ns) 255).sw))) (numW 21 0))) := by
    simp only [ladW]
  rw [e]
  unfold ladR
  generalize ladD ((ofW ps).map Int.ofNat) (clampW ns) 255 = s at *
  generalize ladF (fp (ofV ps)) (powBit (clampW ns)) 255 = f at *
  obtain ⟨x2, z2, x3, z3, sw⟩ := s
  obtain ⟨h1, h2, h3, h4⟩ := h
  simp only at h1 h2 h3 h4 ⊢
  have g1 : Fe (chB x2 x3 (!(false == sw))) f.x2 := by
    have := h1.choose h3 (!(false == sw))
    cases sw <;> exact this
  have g2 : Fe (chB z2 z3 (!(false == sw))) f.z2 := by
    have := h2.choose h4 (!(false == sw))
    cases sw <;> exact this
  exact (g1.mul g2.inv).bytes

/-! ### The reference's -/
structure RdL4 (f : FourN) (s : LP) : Prop where
  a : Rd f.a s.x2
  b : Rd f.b s.z2
  c : Rd f.c s.x3
  d : Rd f.d s.z3

theorem rbyW_ok : Rd rbyW facF := by
  show rbyW = _
  decide +kernel

theorem fp_sq_neg (a b : Fp) : (a - b) * (a - b) = (b - a) * (b - a) := by grind
theorem fp_add_comm (a b : Fp) : a + b = b + a := by grind

theorem rladStep_ok {u : List Nat} {w : Fp} (hu : Rd u w) {s : FourN} {f : LP} (h : RdL4 s f) (bit : Bool) : RdL4 (rladStep u bit s) (stepF w bit f) := by
  obtain ⟨x2, z2, x3, z3⟩ := s
  obtain ⟨a, b, c, d⟩ := f
  obtain ⟨h1, h2, h3, h4⟩ := h
  simp only at h1 h2 h3 h4
  have p := (h3.sub h4).mul (h1.add h2)
  have q := (h3.add h4).mul (h1.sub h2)
  have t := p.add q
  have dd := p.sub q
  have sumX := t.mul t
  have sumZ := hu.mul (dd.mul dd)
  cases bit
  · have aa := (h1.add h2).mul (h1.add h2)
    have bb := (h1.sub h2).mul (h1.sub h2)
    have e := aa.sub bb
    exact ⟨aa.mul bb, e.mul (aa.add (rbyW_ok.mul e)), sumX, sumZ⟩
  · have aa := (h3.add h4).mul (h3.add h4)
    have bb := (h3.sub h4).mul (h3.sub h4)
    have e := aa.sub bb
    have e1 : ((c - d) * (a + b) + (c + d) * (a - b)) = ((a - b) * (c + d) + (a + b) * (c - d)) := by grind
    have e2 : ((c - d) * (a + b) - (c + d) * (a - b)) * ((c - d) * (a + b) - (c + d) * (a - b)) = ((a - b) * (c + d) - (a + b) * (c - d)) * ((a - b) * (c + d) - (a + b) * (c - d)) := by grind
    rw [e1] at sumX
    rw [e2] at sumZ
    exact ⟨sumX, sumZ, aa.mul bb, e.mul (aa.add (rbyW_ok.mul e))⟩

theorem rladD_ok {u : List Nat} {w : Fp} (hu : Rd u w) (bs : List Nat) : ∀ k, RdL4 (rladD u bs k) (ladF w (fun i => Nat.beq (rbit bs i) 1) k)
  | 0 => by
    have h1 : Rd (smallN 1) 1 := Rd.small (n := 1) (by decide)
    have h0 : Rd (smallN 0) 0 := Rd.small (n := 0) (by decide)
    exact ⟨h1, h0, hu, h1⟩
  | k + 1 => by
    rw [rladD, ladF]
    exact rladStep_ok hu (rladD_ok hu bs k) _

theorem rinv_ok : rbytesW (rlessW pW (smallN 2)) = leBytes (P25 - 2) := by
  obtain ⟨p1, p2, p3⟩ := pW_ok
  have s2 : smallN 2 = digN 2 := smallN_ok (by omega)
  have v2 : valL (digN 2) = 2 := valL_digN (by decide)
  rw [s2, rlessW_ok p1 (digN_len 2) p2 (digN_le 2) (by rw [p3, v2]; decide), p3, v2, rbytesW_ok]

theorem rladW_ok (ns ps : List Nat) : rladW ns ps = leBytes (ladR (fp (ofV ps)) (fun i => Nat.beq (rbit (rclampW ns) i) 1)).val := by
  have hu : Rd (digN (ofV ps % P25)) (fp (ofV ps)) := rfl
  have h := rladD_ok hu (rclampW ns) 255
  have e : rladW ns ps = rbytesW (rMul (rladD (digN (ofV ps % P25)) (rclampW ns) 255).a (rpowW (rladD (digN (ofV ps % P25)) (rclampW ns) 255).b (rbytesW (rlessW pW (smallN 2))))) := by
    simp only [rladW]
  rw [e, rinv_ok]
  unfold ladR
  generalize rladD (digN (ofV ps % P25)) (rclampW ns) 255 = s at *
  exact (h.a.mul (h.b.pow (by decide))).bytes

end Go.Bx

/-
  The ladder's other functions: what they compute.
-/
namespace Go.Bx

noncomputable def base9 : List Nat := [9, 0, 0, 0, 0, 0, 0, 0, 0, 0, 0, 0, 0, 0, 0, 0, 0, 0, 0, 0, 0, 0, 0, 0, 0, 0, 0, 0, 0, 0, 0, 0]
noncomputable def eight : List Nat := [8, 0, 0, 0, 0, 0, 0, 0, 0, 0, 0, 0, 0, 0, 0, 0, 0, 0, 0, 0, 0, 0, 0, 0, 0, 0, 0, 0, 0, 0, 0, 0]
noncomputable def sharedV (ns ps : List Nat) : AVal := .tuple [by32 (ladW ns ps), .nat .i64 (cond (ladW ns ps == List.replicate 32 0) 21 0) 0 21]

theorem cond_same {α : Type} (b : Bool) (l : α) : cond b l l = l := by cases b <;> rfl

noncomputable def constS (v : AVal) : Sum := fun args _ _ => match args with
  | [] => some (true, v, [])
  | _ => none

theorem constS_ok {P : Program} {f : FuncId} {fn : Func} (hf : P.funcs[f]? = some fn) (hn : (fn.name == "runtime.NumGoroutine") = false) (hb : fn.body.isNone = false) {v : AVal} (hv : allN (fun _ => false) v = true)
    (h : RunF P fn 0 [] [] (KF v [])) : SumOk P f (constS v) := by
  refine fun_val hf hn hb fun args H fr w us he => ?_
  unfold constS at he
  split at he
  · simp only [Option.some.injEq, Prod.mk.injEq, true_and] at he
    obtain ⟨rfl, rfl⟩ := he
    exact ⟨rfl, [], rfl, fun i => Fit.refl _, rfl, hv, Nat.zero_le _, h⟩
  · simp at he

end Go.Bx

/-
  The ladder: both ladders come to the same.
-/
namespace Go.Bx

theorem clamp_lo : ∀ b, b < 256 → b &&& 248 = b / 8 * 8 := by decide +kernel
theorem clamp_hi : ∀ b, b < 256 → (b &&& 127) ||| 64 = b % 64 + 64 := by decide +kernel

theorem clamp_eq {bs : List Nat} (hb : ∀ x ∈ bs, x ≤ 255) : clampW bs = rclampW bs := by
  have h0 := getD_le hb 0
  have e1 : (bs.getD 0 0 &&& 248) = bs.getD 0 0 / 8 * 8 := clamp_lo _ (by omega)
  unfold clampW rclampW
  rw [e1]
  have hle : ∀ x ∈ bs.set 0 (bs.getD 0 0 / 8 * 8), x ≤ 255 := set_le hb (by omega)
  have h31 := getD_le hle 31
  rw [clamp_hi _ (by omega)]

theorem half_iter : ∀ (m x : Nat), iter (fun _ n => n / 2) m x = x / 2 ^ m
  | 0, x => by simp [iter]
  | m + 1, x => by
    show iter (fun _ n => n / 2) m x / 2 = _
    rw [half_iter m x, Nat.pow_succ, Nat.div_div_eq_div_mul]

theorem rbit_eq (bs : List Nat) (i : Nat) : Nat.beq (rbit bs i) 1 = powBit bs i := by
  rw [rbit, half_iter, powBit, Nat.and_one_is_mod]

theorem ladder_eq {ns ps : List Nat} (hn : ∀ x ∈ ns, x ≤ 255) (hp : ∀ x ∈ ps, x ≤ 255) : ladW ns ps = rladW ns ps := by
  have e : (fun i => Nat.beq (rbit (rclampW ns) i) 1) = powBit (rclampW ns) := funext fun i => rbit_eq _ i
  rw [ladW_ok hp, rladW_ok, e, clamp_eq hn]

noncomputable def lmE (b c : List Nat) : Bool :=
  bif bif !ladW b c == rladW b c then true else bif !ladW b c == rladW b c then true else !clampW b == rclampW b then false
  else bif Nat.beq (bif ladW b c == List.replicate 32 0 then 21 else 0) 21 == (rladW b c == List.replicate 32 0) then
    bif Nat.beq (bif ladW b c == List.replicate 32 0 then 21 else 0) 0 then true else Nat.beq (bif ladW b c == List.replicate 32 0 then 21 else 0) 21
  else false

theorem beq_self (l : List Nat) : (l == l) = true := by simp

theorem lmE_true {b c : List Nat} (hb : ∀ x ∈ b, x ≤ 255) (hc : ∀ x ∈ c, x ≤ 255) : lmE b c = true := by
  unfold lmE
  rw [ladder_eq hb hc, clamp_eq hb]
  generalize rladW b c = l
  generalize rclampW b = d
  rw [beq_self, beq_self]
  cases l == List.replicate 32 0 <;> rfl

end Go.Bx

namespace Go.Bx

noncomputable def eightL : List Nat := (List.replicate 32 0).set 0 8
theorem eight_bits : ladF (fp 9) (powBit (clampW eightL)) 255 = ladF (fp 9) (fun i => Nat.beq i 3 || Nat.beq i 254) 255 := by
  have h : ∀ k, k ≤ 255 → ladF (fp 9) (powBit (clampW eightL)) k = ladF (fp 9) (fun i => Nat.beq i 3 || Nat.beq i 254) k := by
    intro k
    induction k with
    | zero => intro _; rfl
    | succ k ih =>
      intro hk
      rw [ladF, ladF, ih (by omega)]
      have hb : ∀ i, i < 255 → powBit (clampW eightL) i = (Nat.beq i 3 || Nat.beq i 254) := by decide +kernel
      rw [hb (254 - k) (by omega)]
  exact h 255 (Nat.le_refl _)
theorem eight_ne : (ladF (fp 9) (fun i => Nat.beq i 3 || Nat.beq i 254) 255).x2 ≠ 0 ∧ (ladF (fp 9) (fun i => Nat.beq i 3 || Nat.beq i 254) 255).z2 ≠ 0 := by decide +kernel
end Go.Bx
