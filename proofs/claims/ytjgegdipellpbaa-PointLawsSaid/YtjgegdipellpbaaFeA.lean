/-
  The field of fe and the reference numbers: what their functions compute, and the values of that.
  No condition.
-/
import Derived.Test.YtjgegdipellpbaaMacC
import Derived.ChangeShapes
import Derived.Below
import Derived.ProofKit
import Derived.WalkKit
import Derived.OpenShut
/-
  fe: what its functions compute.
-/
namespace Go.Bx

def w64 (z : Int) : Int := IntKind.i64.wrap z

noncomputable def iter {α : Type} (f : Nat → α → α) : Nat → α → α
  | 0, a => a
  | n + 1, a => f n (iter f n a)

def carryStep (i : Nat) (l : List Int) : List Int :=
  let l1 := l.set i (w64 (l.getD i 0 + 65536))
  let c := (l1.getD i 0).fdiv (2 ^ 16)
  let l2 := l1.set i (w64 (l1.getD i 0 - w64 (c * 2 ^ 16)))
  if i + 1 < 16 then l2.set (i + 1) (w64 (l2.getD (i + 1) 0 + w64 (c - 1))) else l2.set 0 (w64 (l2.getD 0 0 + w64 (38 * w64 (c - 1))))

noncomputable def carryW (l : List Int) : List Int := iter carryStep 16 l

noncomputable def addW (xs ys : List Int) : List Int := carryW (iter (fun i l => l.set i (w64 (l.getD i 0 + ys.getD i 0))) 16 xs)
noncomputable def subW (xs ys : List Int) : List Int := carryW (iter (fun i l => l.set i (w64 (l.getD i 0 - ys.getD i 0))) 16 xs)
noncomputable def negW (xs : List Int) : List Int := subW ((List.replicate 16 0).map Int.ofNat) xs

/-- Sixteen parts, as integers. -/
noncomputable def i64s : AVal → Option (List Int)
  | .ints k n xs => bif keq k .i64 && Nat.beq n 16 then some xs else none
  | .nats k _ n xs => bif keq k .i64 && Nat.beq n 16 then some (xs.map Int.ofNat) else none
  | _ => none

noncomputable def bytes? : AVal → Option (List Nat)
  | .nats k h n xs => bif keq k .u8 && Nat.beq n 32 && Nat.ble h 255 then some xs else none
  | _ => none

noncomputable def carryS : Sum := fun args H _ => match args with
  | [.ptr n off] => match off with
    | 0 => match lk? H n with
      | some r => bif r.ro then none else match r.c with
        | [p] => match i64s p with
          | some l => some (true, .tuple [], [(n, some ⟨false, [.ints .i64 16 (carryW l)]⟩)])
          | none => none
        | _ => none
      | none => none
    | _ => none
  | _ => none

/-- A function of one element; of two. -/
noncomputable def sum1 (g : List Int → AVal) : Sum := fun args _ _ => match args with
  | [x] => match i64s x with
    | some xs => some (true, g xs, [])
    | none => none
  | _ => none
noncomputable def sum2 (g : List Int → List Int → AVal) : Sum := fun args _ _ => match args with
  | [x, y] => match i64s x, i64s y with
    | some xs, some ys => some (true, g xs ys, [])
    | _, _ => none
  | _ => none

theorem i64s_fit {a : AVal} {xs : List Int} (h : i64s a = some xs) : Fit a (.ints .i64 16 xs) := by
  intro L v hv
  cases a <;> simp only [i64s, reduceCtorEq] at h
  · rename_i k n ys
    cases hk : (keq k .i64 && Nat.beq n 16) <;> rw [hk] at h <;> simp only [cond_false, cond_true, reduceCtorEq, Option.some.injEq] at h
    subst h
    simp only [Bool.and_eq_true] at hk
    have := keq_eq hk.1; subst this
    have := beq_eq' hk.2; subst this
    exact hv
  · rename_i k hh n ys
    cases hk : (keq k .i64 && Nat.beq n 16) <;> rw [hk] at h <;> simp only [cond_false, cond_true, reduceCtorEq, Option.some.injEq] at h
    subst h
    simp only [Bool.and_eq_true] at hk
    have := keq_eq hk.1; subst this
    have := beq_eq' hk.2; subst this
    obtain ⟨cs, ⟨e1, e2, e3⟩, e4⟩ := hv
    exact ⟨cs, ⟨by simpa using e1, by rw [e3]; simp [List.map_map, Function.comp_def]⟩, e4⟩

theorem bytes_fit {a : AVal} {xs : List Nat} (h : bytes? a = some xs) : Fit a (.nats .u8 255 32 xs) := by
  intro L v hv
  cases a <;> simp only [bytes?, reduceCtorEq] at h
  rename_i k hh n ys
  cases hk : (keq k .u8 && Nat.beq n 32 && Nat.ble hh 255) <;> rw [hk] at h <;> simp only [cond_false, cond_true, reduceCtorEq, Option.some.injEq] at h
  subst h
  simp only [Bool.and_eq_true] at hk
  have := keq_eq hk.1.1; subst this
  have := beq_eq' hk.1.2; subst this
  have h2 := ble_le hk.2
  obtain ⟨cs, ⟨e1, e2, e3⟩, e4⟩ := hv
  exact ⟨cs, ⟨e1, fun x hx => Nat.le_trans (e2 x hx) h2, e3⟩, e4⟩

section
variable {P : Program}

theorem fits_get : ∀ {as bs : List AVal}, as.length = bs.length → (∀ p ∈ as.zip bs, Fit p.1 p.2) → ∀ i, Fit (as.getD i .any) (bs.getD i .any)
  | [], [], _, _, i => by simp; exact Fit.refl _
  | a :: as, b :: bs, hl, h, i => by
    cases i with
    | zero => exact h (a, b) (by simp)
    | succ i => simpa using fits_get (by simpa using hl) (fun p hp => h p (by simp only [List.zip_cons_cons, List.mem_cons]; exact .inr hp)) i
  | [], _ :: _, hl, _, _ => by simp at hl
  | _ :: _, [], hl, _, _ => by simp at hl

theorem sum1_ok {f : FuncId} {fn : Func} (hf : P.funcs[f]? = some fn) (hn : (fn.name == "runtime.NumGoroutine") = false) (hb : fn.body.isNone = false) (ht : 1 ≤ fn.ntmps) {g : List Int → AVal} (hg : ∀ xs, allN (fun _ => false) (g xs) = true)
    (h : ∀ xs, RunF P fn 0 [.ints .i64 16 xs] [] (KF (g xs) [])) : SumOk P f (sum1 g) := by
  refine fun_val hf hn hb fun args H fr v us he => ?_
  unfold sum1 at he
  split at he
  · rename_i x
    split at he
    · rename_i xs hx
      simp only [Option.some.injEq, Prod.mk.injEq, true_and] at he
      obtain ⟨rfl, rfl⟩ := he
      exact ⟨rfl, [.ints .i64 16 xs], rfl, fits_get rfl (by simpa using i64s_fit hx), rfl, hg xs, ht, h xs⟩
    · simp at he
  · simp at he

theorem sum2_ok {f : FuncId} {fn : Func} (hf : P.funcs[f]? = some fn) (hn : (fn.name == "runtime.NumGoroutine") = false) (hb : fn.body.isNone = false) (ht : 2 ≤ fn.ntmps) {g : List Int → List Int → AVal} (hg : ∀ xs ys, allN (fun _ => false) (g xs ys) = true)
    (h : ∀ xs ys, RunF P fn 0 [.ints .i64 16 xs, .ints .i64 16 ys] [] (KF (g xs ys) [])) : SumOk P f (sum2 g) := by
  refine fun_val hf hn hb fun args H fr v us he => ?_
  unfold sum2 at he
  split at he
  · rename_i x y
    split at he
    · rename_i xs ys hx hy
      simp only [Option.some.injEq, Prod.mk.injEq, true_and] at he
      obtain ⟨rfl, rfl⟩ := he
      exact ⟨rfl, [.ints .i64 16 xs, .ints .i64 16 ys], rfl, fits_get rfl (by simpa using ⟨i64s_fit hx, i64s_fit hy⟩), rfl, hg xs ys, ht, h xs ys⟩
    · simp at he
  · simp at he

/-- A function of a pointer to a row without names. -/
noncomputable def runOne {fn : Func} {n fr : Nat} {H : Heap} {r : Row} {p l l' : List AVal} {cres v : AVal} {us : Ups} (hr : lk? H n = some r) (hro : r.ro = false) (hp : r.c = p) (hfit : FitL p l) (hl : allNL (fun _ => false) l = true) (hl' : allNL (fun _ => false) l' = true) (hc : allN (fun _ => false) cres = true)
    (ht : 1 ≤ fn.ntmps) (hv : v = cres) (hus : us = [(n, some ⟨false, l'⟩)]) (h : RunF P fn 1 [.ptr 0 0] [(0, ⟨false, l⟩)] (KF cres [(0, l')])) : Run P fn [.ptr n 0] H fr v us where
  k := 1
  cargs := [.ptr 0 0]
  CH := [(0, ⟨false, l⟩)]
  ρ := fun _ => n
  outs := []
  cres := cres
  srcs := [(0, l')]
  args_sz := rfl
  args_fit := fun i => by
    cases i with
    | zero => exact Fit.refl _
    | succ i => simp [ren]; exact Fit.refl _
  args_in := rfl
  args_len := ht
  rows := fun m q hq => by
    rw [lk?_cons] at hq
    split at hq
    · rename_i e
      simp only at e hq
      subst e
      simp only [Option.some.injEq] at hq; subst hq
      refine ⟨by omega, allN_mono.go (p := fun _ => false) (fun _ h => by simp at h) _ hl, r, hr, ?_, fun _ => hro⟩
      rw [ren_id.renL_id _ hl, hp]; exact hfit
    · simp [lk?_nil] at hq
  apart := fun a b q q' h1 h2 hne => by
    rw [lk?_cons] at h1 h2
    split at h1
    · split at h2
      · rename_i e1 e2; exact absurd (e1.symm.trans e2) hne
      · simp [lk?_nil] at h2
    · simp [lk?_nil] at h1
  run := h
  outs_len := by simp
  outs_new := fun x h => by simp at h
  outs_nd := by simp
  wrote := fun i q hq _ => by
    rw [lk?_cons] at hq
    split at hq
    · rename_i e; simp at e; simp [e]
    · simp [lk?_nil] at hq
  from_ := fun p hp => .inr ⟨⟨false, l⟩, by simp at hp; subst hp; rw [lk?_cons]; simp, rfl⟩
  srcs_nd := by simp
  srcs_in := fun p hp => by
    simp at hp; subst hp
    exact allN_mono.go (p := fun _ => false) (fun _ h => by simp at h) _ hl'
  cres_in := allN_mono (p := fun _ => false) (fun _ h => by simp at h) _ hc
  v_eq := by rw [ren_id _ hc]; exact hv
  us_eq := by simp [ren2, ren_id.renL_id _ hl', hus]

theorem carryS_ok {f : FuncId} {fn : Func} (hf : P.funcs[f]? = some fn) (hn : (fn.name == "runtime.NumGoroutine") = false) (hb : fn.body.isNone = false) (ht : 1 ≤ fn.ntmps)
    (h : ∀ l, RunF P fn 1 [.ptr 0 0] [(0, ⟨false, [.ints .i64 16 l]⟩)] (KF (.tuple []) [(0, [.ints .i64 16 (carryW l)])])) : SumOk P f carryS := by
  refine fun_ok hf hn hb fun args H fr v us he _ _ => ?_
  unfold carryS at he
  split at he
  · rename_i n off
    split at he
    · split at he
      · rename_i r hr
        cases hro : r.ro <;> rw [hro] at he <;> simp only [cond_false, cond_true, reduceCtorEq] at he
        split at he
        · rename_i p hp
          split at he
          · rename_i l hl
            simp only [Option.some.injEq, Prod.mk.injEq, true_and] at he
            obtain ⟨rfl, rfl⟩ := he
            exact ⟨runOne hr hro (p := [p]) (by rw [hp]) (fun L cs hc => by
              obtain ⟨c, d, e, hpc, hd⟩ := hc
              refine ⟨c, d, e, ?_, hd⟩
              have ha : isArr p = true := by cases p <;> simp [i64s] at hl <;> rfl
              exact (piece_arr (a := .ints .i64 16 l) rfl).2 (i64s_fit hl L _ ((piece_arr ha).1 hpc))) rfl rfl rfl ht rfl rfl (h l)⟩
          · simp at he
        · simp at he
      · simp at he
    · simp at he
  · simp at he

end
end Go.Bx

/-
  fe: what its functions compute, continued.
-/
namespace Go.Bx

def xor64 (a b : Int) : Int := IntKind.i64.wrap ((BitVec.ofInt IntKind.i64.bits a ^^^ BitVec.ofInt IntKind.i64.bits b).toNat : Int)
def and64 (a b : Int) : Int := IntKind.i64.wrap ((BitVec.ofInt IntKind.i64.bits a &&& BitVec.ofInt IntKind.i64.bits b).toNat : Int)

noncomputable def chooseW (xs ys : List Int) (yes : Int) : List Int := iter (fun i l => l.set i (xor64 (l.getD i 0) (and64 (w64 (0 - yes)) (xor64 (l.getD i 0) (ys.getD i 0))))) 16 xs

def lessPart (i : Nat) : Int := match i with | 0 => 65517 | 15 => 32767 | _ => 65535

noncomputable def lessStep (i : Nat) (p : List Int × Int) : List Int × Int :=
  let n := w64 (w64 (p.1.getD i 0 - lessPart i) - p.2)
  (p.1.set i (and64 n 65535), and64 (n.fdiv (2 ^ 16)) 1)

noncomputable def lessW (xs : List Int) : List Int × Int :=
  let p := iter lessStep 16 (xs, 0)
  (p.1, w64 (1 - p.2))

noncomputable def reducedW (xs : List Int) : List Int :=
  iter (fun _ l => chooseW l (lessW l).1 (lessW l).2) 2 (carryW (carryW (carryW xs)))

def w8 (z : Int) : Nat := (IntKind.u8.wrap z).toNat

noncomputable def bytesW (xs : List Int) : List Nat :=
  let l := reducedW xs
  iter (fun i o => (o.set (2 * i) (w8 (l.getD i 0))).set (2 * i + 1) (w8 ((l.getD i 0).fdiv (2 ^ 8)))) 16 (List.replicate 32 0)

noncomputable def ofW (bs : List Nat) : List Nat :=
  let l := iter (fun i o => o.set i (bs.getD (2 * i) 0 ||| bs.getD (2 * i + 1) 0 * 2 ^ 8)) 16 (List.replicate 16 0)
  l.set 15 (l.getD 15 0 &&& 32767)

noncomputable def smallW (n : Nat) : List Int := ((List.replicate 16 0).map Int.ofNat).set 0 (n : Int)

/-- A function of two elements and a number. -/
noncomputable def chooseS : Sum := fun args _ _ => match args with
  | [x, y, z] => match i64s x, i64s y, toInt? z with
    | some xs, some ys, some (k, n) => bif keq k .i64 then some (true, .ints .i64 16 (chooseW xs ys n), []) else none
    | _, _, _ => none
  | _ => none

noncomputable def ofS : Sum := fun args _ _ => match args with
  | [x] => match bytes? x with
    | some bs => some (true, .nats .i64 65535 16 (ofW bs), [])
    | none => none
  | _ => none

theorem toInt_fit {a : AVal} {k : IntKind} {n : Int} (h : toInt? a = some (k, n)) : Fit a (.int k n) := fun _ _ hv => toInt_ok hv h

section
variable {P : Program}

theorem chooseS_ok {f : FuncId} {fn : Func} (hf : P.funcs[f]? = some fn) (hn : (fn.name == "runtime.NumGoroutine") = false) (hb : fn.body.isNone = false) (ht : 3 ≤ fn.ntmps)
    (h : ∀ xs ys n, RunF P fn 0 [.ints .i64 16 xs, .ints .i64 16 ys, .int .i64 n] [] (KF (.ints .i64 16 (chooseW xs ys n)) [])) : SumOk P f chooseS := by
  refine fun_val hf hn hb fun args H fr v us he => ?_
  unfold chooseS at he
  split at he
  · rename_i x y z
    split at he
    · rename_i xs ys k n hx hy hz
      cases hk : keq k .i64 <;> rw [hk] at he <;> simp only [cond_false, cond_true, reduceCtorEq, Option.some.injEq, Prod.mk.injEq, true_and] at he
      have := keq_eq hk; subst this
      obtain ⟨rfl, rfl⟩ := he
      exact ⟨rfl, [.ints .i64 16 xs, .ints .i64 16 ys, .int .i64 n], rfl, fits_get rfl (by simpa using ⟨i64s_fit hx, i64s_fit hy, toInt_fit hz⟩), rfl, rfl, ht, h xs ys n⟩
    · simp at he
  · simp at he

theorem ofS_ok {f : FuncId} {fn : Func} (hf : P.funcs[f]? = some fn) (hn : (fn.name == "runtime.NumGoroutine") = false) (hb : fn.body.isNone = false) (ht : 1 ≤ fn.ntmps)
    (h : ∀ bs, RunF P fn 0 [.nats .u8 255 32 bs] [] (KF (.nats .i64 65535 16 (ofW bs)) [])) : SumOk P f ofS := by
  refine fun_val hf hn hb fun args H fr v us he => ?_
  unfold ofS at he
  split at he
  · rename_i x
    split at he
    · rename_i bs hx
      simp only [Option.some.injEq, Prod.mk.injEq, true_and] at he
      obtain ⟨rfl, rfl⟩ := he
      exact ⟨rfl, [.nats .u8 255 32 bs], rfl, fits_get rfl (by simpa using bytes_fit hx), rfl, rfl, ht, h bs⟩
    · simp at he
  · simp at he

end
end Go.Bx

/-
  fe: products, small numbers, swaps.
-/
namespace Go.Bx

noncomputable def zI (n : Nat) : List Int := (List.replicate n 0).map Int.ofNat

noncomputable def small1 (n : Int) : List Int := bif (bif decide (0 ≤ n) then decide (n < 65536) else false) then (zI 16).set 0 n else zI 16

noncomputable def smallS : Sum := fun args _ _ => match args with
  | [z] => match toInt? z with
    | some (k, n) => bif keq k .i64 then some (true, .ints .i64 16 (small1 n), []) else none
    | _ => none
  | _ => none

noncomputable def mulT (xs ys : List Int) : List Int :=
  iter (fun i t => iter (fun j t => t.set (i + j) (w64 (t.getD (i + j) 0 + w64 (xs.getD i 0 * ys.getD j 0)))) 16 t) 16 (zI 31)

noncomputable def mulFold (t : List Int) : List Int :=
  iter (fun i o => o.set i (w64 (o.getD i 0 + w64 (38 * t.getD (16 + i) 0)))) 15 (((List.replicate 16 0).take 0).map Int.ofNat ++ t.take 16 ++ ((List.replicate 16 0).drop (0 + 16)).map Int.ofNat)

noncomputable def mulW (xs ys : List Int) : List Int := carryW (carryW (mulFold (mulT xs ys)))

def boolS? : AVal → Option Bool := boolOf

noncomputable def swapS : Sum := fun args _ _ => match args with
  | [x, y, z] => match i64s x, i64s y, boolOf z with
    | some xs, some ys, some b => some (true, .tuple [.ints .i64 16 (chooseW xs ys ((cond b 1 0 : Nat) : Int)), .ints .i64 16 (chooseW ys xs ((cond b 1 0 : Nat) : Int))], [])
    | _, _, _ => none
  | _ => none

theorem boolOf_fit {a : AVal} {b : Bool} (h : boolOf a = some b) : Fit a (.ob b) := by
  intro L v hv
  cases a <;> simp only [boolOf, reduceCtorEq, Option.some.injEq] at h <;> (subst h; exact hv)

section
variable {P : Program}

theorem smallS_ok {f : FuncId} {fn : Func} (hf : P.funcs[f]? = some fn) (hn : (fn.name == "runtime.NumGoroutine") = false) (hb : fn.body.isNone = false) (ht : 1 ≤ fn.ntmps)
    (h : ∀ n, RunF P fn 0 [.int .i64 n] [] (KF (.ints .i64 16 (small1 n)) [])) : SumOk P f smallS := by
  refine fun_val hf hn hb fun args H fr v us he => ?_
  unfold smallS at he
  split at he
  · rename_i z
    split at he
    · rename_i k n hz
      cases hk : keq k .i64 <;> rw [hk] at he <;> simp only [cond_false, cond_true, reduceCtorEq, Option.some.injEq, Prod.mk.injEq, true_and] at he
      have := keq_eq hk; subst this
      obtain ⟨rfl, rfl⟩ := he
      exact ⟨rfl, [.int .i64 n], rfl, fits_get rfl (by simpa using toInt_fit hz), rfl, rfl, ht, h n⟩
    · simp at he
  · simp at he

theorem swapS_ok {f : FuncId} {fn : Func} (hf : P.funcs[f]? = some fn) (hn : (fn.name == "runtime.NumGoroutine") = false) (hb : fn.body.isNone = false) (ht : 3 ≤ fn.ntmps)
    (h : ∀ xs ys b, RunF P fn 0 [.ints .i64 16 xs, .ints .i64 16 ys, .ob b] [] (KF (.tuple [.ints .i64 16 (chooseW xs ys ((cond b 1 0 : Nat) : Int)), .ints .i64 16 (chooseW ys xs ((cond b 1 0 : Nat) : Int))]) [])) : SumOk P f swapS := by
  refine fun_val hf hn hb fun args H fr v us he => ?_
  unfold swapS at he
  split at he
  · rename_i x y z
    split at he
    · rename_i xs ys b hx hy hz
      simp only [Option.some.injEq, Prod.mk.injEq, true_and] at he
      obtain ⟨rfl, rfl⟩ := he
      exact ⟨rfl, [.ints .i64 16 xs, .ints .i64 16 ys, .ob b], rfl, fits_get rfl (by simpa using ⟨i64s_fit hx, i64s_fit hy, boolOf_fit hz⟩), rfl, rfl, ht, h xs ys b⟩
    · simp at he
  · simp at he

end
end Go.Bx

/-
  fe: powers.
-/
namespace Go.Bx

/-- All below a number. -/
def andAll : Nat → (Nat → Prop) → Prop
  | 0, _ => True
  | n + 1, p => andAll n p ∧ p n

theorem andAll_of {p : Nat → Prop} (h : ∀ i, p i) : ∀ n, andAll n p
  | 0 => trivial
  | n + 1 => ⟨andAll_of h n, h n⟩

theorem andAll_get {p : Nat → Prop} : ∀ {n : Nat}, andAll n p → ∀ i, i < n → p i
  | 0, _, i, hi => by omega
  | n + 1, h, i, hi => by
    by_cases e : i = n
    · subst e; exact h.2
    · exact andAll_get h.1 i (by omega)

/-- A number's 32 bytes, the lowest first. -/
noncomputable def leBytes (n : Nat) : List Nat := [0, 1, 2, 3, 4, 5, 6, 7, 8, 9, 10, 11, 12, 13, 14, 15, 16, 17, 18, 19, 20, 21, 22, 23, 24, 25, 26, 27, 28, 29, 30, 31].map fun i => n / 256 ^ i % 256

noncomputable def numW (a s : Nat) : List Nat := leBytes ((2 ^ 255 - a) / 2 ^ s)

/-- The three numbers that are asked for. -/
noncomputable def isNum (la ha ls hs a s : Nat) : Bool := Nat.beq la a && Nat.beq ha a && Nat.beq ls s && Nat.beq hs s

noncomputable def numberS : Sum := fun args _ _ => match args with
  | [.nat k _ la ha, .nat k' _ ls hs] => bif keq k .u8 && keq k' .u64 then
      bif isNum la ha ls hs 21 0 then some (true, .nats .u8 255 32 (numW 21 0), [])
      else bif isNum la ha ls hs 16 3 then some (true, .nats .u8 255 32 (numW 16 3), [])
      else bif isNum la ha ls hs 20 2 then some (true, .nats .u8 255 32 (numW 20 2), []) else none
    else none
  | _ => none

theorem numberS_ok {P : Program} {f : FuncId} {fn : Func} (hf : P.funcs[f]? = some fn) (hn : (fn.name == "runtime.NumGoroutine") = false) (hb : fn.body.isNone = false) (ht : 2 ≤ fn.ntmps)
    (h1 : RunF P fn 0 [.nat .u8 21 21 21, .nat .u64 0 0 0] [] (KF (.nats .u8 255 32 (numW 21 0)) []))
    (h2 : RunF P fn 0 [.nat .u8 16 16 16, .nat .u64 3 3 3] [] (KF (.nats .u8 255 32 (numW 16 3)) []))
    (h3 : RunF P fn 0 [.nat .u8 20 20 20, .nat .u64 2 2 2] [] (KF (.nats .u8 255 32 (numW 20 2)) [])) : SumOk P f numberS := by
  refine fun_val hf hn hb fun args H fr v us he => ?_
  unfold numberS at he
  split at he
  · rename_i k a la ha k' s ls hs
    cases hk : (keq k .u8 && keq k' .u64) <;> rw [hk] at he <;> simp only [cond_false, cond_true, reduceCtorEq] at he
    simp only [Bool.and_eq_true] at hk
    have e1 := keq_eq hk.1; subst e1
    have e2 := keq_eq hk.2; subst e2
    have key : ∀ (x y : Nat), isNum la ha ls hs x y = true → ∀ i, Fit ([AVal.nat .u8 a la ha, .nat .u64 s ls hs].getD i .any) ([AVal.nat .u8 x x x, .nat .u64 y y y].getD i .any) := by
      intro x y h
      simp only [isNum, Bool.and_eq_true] at h
      obtain ⟨⟨⟨q1, q2⟩, q3⟩, q4⟩ := h
      have q1 := beq_eq' q1; have q2 := beq_eq' q2; have q3 := beq_eq' q3; have q4 := beq_eq' q4
      refine fits_get rfl ?_
      have lit : ∀ {k : IntKind} {n lo hi x : Nat}, lo = x → hi = x → Fit (.nat k n lo hi) (.nat k x x x) := by
        intro k n lo hi x h1 h2 L v hv
        obtain ⟨e, h3, h4⟩ := hv
        have : n = x := by omega
        subst this
        exact ⟨e, Nat.le_refl _, Nat.le_refl _⟩
      simpa using ⟨lit q1 q2, lit q3 q4⟩
    cases c1 : isNum la ha ls hs 21 0 <;> rw [c1] at he <;> simp only [cond_false, cond_true] at he
    · cases c2 : isNum la ha ls hs 16 3 <;> rw [c2] at he <;> simp only [cond_false, cond_true] at he
      · cases c3 : isNum la ha ls hs 20 2 <;> rw [c3] at he <;> simp only [cond_false, cond_true, reduceCtorEq, Option.some.injEq, Prod.mk.injEq, true_and] at he
        obtain ⟨rfl, rfl⟩ := he
        exact ⟨rfl, [.nat .u8 20 20 20, .nat .u64 2 2 2], rfl, key _ _ c3, rfl, rfl, ht, h3⟩
      · simp only [Option.some.injEq, Prod.mk.injEq, true_and] at he
        obtain ⟨rfl, rfl⟩ := he
        exact ⟨rfl, [.nat .u8 16 16 16, .nat .u64 3 3 3], rfl, key _ _ c2, rfl, rfl, ht, h2⟩
    · simp only [Option.some.injEq, Prod.mk.injEq, true_and] at he
      obtain ⟨rfl, rfl⟩ := he
      exact ⟨rfl, [.nat .u8 21 21 21, .nat .u64 0 0 0], rfl, key _ _ c1, rfl, rfl, ht, h1⟩
  · simp at he

noncomputable def powBit (bs : List Nat) (i : Nat) : Bool := Nat.beq ((bs.getD (i / 8) 0 / 2 ^ (i % 8)) &&& 1) 1
noncomputable def powStep (xs : List Int) (bs : List Nat) (i : Nat) (l : List Int) : List Int := cond (powBit bs i) (mulW (mulW l l) xs) (mulW l l)
/-- What has come out behind `k` rounds. -/
noncomputable def powD (xs : List Int) (bs : List Nat) : Nat → List Int
  | 0 => small1 1
  | k + 1 => powStep xs bs (255 - k) (powD xs bs k)
noncomputable def powW (xs : List Int) (bs : List Nat) : List Int := powD xs bs 256

noncomputable def powS : Sum := fun args _ _ => match args with
  | [x, n] => match i64s x, bytes? n with
    | some xs, some bs => some (true, .ints .i64 16 (powW xs bs), [])
    | _, _ => none
  | _ => none

theorem powS_ok {P : Program} {f : FuncId} {fn : Func} (hf : P.funcs[f]? = some fn) (hn : (fn.name == "runtime.NumGoroutine") = false) (hb : fn.body.isNone = false) (ht : 2 ≤ fn.ntmps)
    (h : ∀ xs bs, RunF P fn 0 [.ints .i64 16 xs, .nats .u8 255 32 bs] [] (KF (.ints .i64 16 (powW xs bs)) [])) : SumOk P f powS := by
  refine fun_val hf hn hb fun args H fr v us he => ?_
  unfold powS at he
  split at he
  · rename_i x y
    split at he
    · rename_i xs bs hx hy
      simp only [Option.some.injEq, Prod.mk.injEq, true_and] at he
      obtain ⟨rfl, rfl⟩ := he
      exact ⟨rfl, [.ints .i64 16 xs, .nats .u8 255 32 bs], rfl, fits_get rfl (by simpa using ⟨i64s_fit hx, bytes_fit hy⟩), rfl, rfl, ht, h xs bs⟩
    · simp at he
  · simp at he

/-- The loop's state: `c`: what the counter is; `l`: what has come out. -/
noncomputable def powSt (c : AVal) (xs : List Int) (bs : List Nat) (l : List Int) : St :=
  ⟨[(2, .ptr 0 0), (3, .ptr 1 0), (4, .ptr 2 0), (5, .ptr 3 0), (6, c)], [(0, ⟨false, [.ints .i64 16 xs]⟩), (1, ⟨false, [.nats .u8 255 32 bs]⟩), (2, ⟨false, [.nats .i64 0 16 (List.replicate 16 0)]⟩), (3, ⟨false, [.ints .i64 16 l]⟩)], 4, [], []⟩

theorem powSt_wid {c d : AVal} (h : Fit c d) (xs : List Int) (bs : List Nat) (l : List Int) : Wid (powSt c xs bs l) (powSt d xs bs l) := by
  refine ⟨fun t => ?_, WidH.refl _, Nat.le_refl _⟩
  simp only [powSt, lk_eq, lk?_cons, lk?_nil]
  repeat (split <;> first | exact Fit.refl _ | exact h | skip)
  all_goals exact Fit.refl _

/-- The counter, with `n` rounds to come. -/
noncomputable def powC : Nat → AVal
  | 0 => .neg .i64 0
  | 1 => .nat .i64 0 0 0
  | n + 2 => .nat .i64 (n + 1) (n + 1) (n + 1)

noncomputable def powSn (xs : List Int) (bs : List Nat) (n : Nat) : St := powSt (powC n) xs bs (powD xs bs (256 - n))

end Go.Bx

/-
  fe: roots.
-/
namespace Go.Bx

noncomputable def oddW (xs : List Int) : Bool := Nat.beq ((bytesW xs).getD 0 0 &&& 1) 1
noncomputable def root1 (xs : List Int) : List Int := powW xs (numW 16 3)
noncomputable def notSq (r xs : List Int) : Bool := !(bytesW (mulW r r) == bytesW xs)
noncomputable def root2 (xs : List Int) : List Int := cond (notSq (root1 xs) xs) (mulW (root1 xs) (powW (small1 2) (numW 20 2))) (root1 xs)
noncomputable def root3 (xs : List Int) : List Int := cond (oddW (root2 xs)) (negW (root2 xs)) (root2 xs)
noncomputable def rootV (xs : List Int) : AVal := .tuple [.ints .i64 16 (cond (notSq (root2 xs) xs) (zI 16) (root3 xs)), .ob (cond (notSq (root2 xs) xs) false true)]

end Go.Bx

/-
  Functions on numbers in slices of sixteen digits: what is asked for their summaries.
-/
namespace Go.Bx

/-- A slice of sixteen digits: its name and they. -/
noncomputable def num? (H : Heap) (a : AVal) : Option (Nat × List Nat) :=
  match a with
  | .slice n off sz _ lo hi _ => bif Nat.beq off 0 && Nat.beq sz 1 && Nat.beq lo 16 && Nat.beq hi 16 then match lk? H n with
    | some r => match r.c with
      | [.nats k h m ds] => bif keq k .i64 && Nat.ble h 65535 && Nat.beq m 16 then some (n, ds) else none
      | _ => none
    | none => none
    else none
  | _ => none

def sl16 (n : Nat) : AVal := .slice n 0 1 16 16 16 none
def row16 (ds : List Nat) : List AVal := [.nats .i64 65535 16 ds]

theorem num_fit {H : Heap} {a : AVal} {n : Nat} {ds : List Nat} (h : num? H a = some (n, ds)) : Fit a (sl16 n) ∧ ∃ q, lk? H n = some q ∧ FitL q.c (row16 ds) := by
  unfold num? at h
  split at h
  · rename_i n' off sz len lo hi cap
    cases hk : (Nat.beq off 0 && Nat.beq sz 1 && Nat.beq lo 16 && Nat.beq hi 16) <;> rw [hk] at h <;> simp only [cond_false, cond_true, reduceCtorEq] at h
    simp only [Bool.and_eq_true] at hk
    obtain ⟨⟨⟨k1, k2⟩, k3⟩, k4⟩ := hk
    have k1 := beq_eq' k1; have k2 := beq_eq' k2; have k3 := beq_eq' k3; have k4 := beq_eq' k4
    subst k1; subst k2; subst k3; subst k4
    split at h
    · rename_i r hr
      split at h
      · rename_i k hh m es hc
        cases hk : (keq k .i64 && Nat.ble hh 65535 && Nat.beq m 16) <;> rw [hk] at h <;> simp only [cond_false, cond_true, reduceCtorEq, Option.some.injEq, Prod.mk.injEq] at h
        obtain ⟨rfl, rfl⟩ := h
        simp only [Bool.and_eq_true] at hk
        have e1 := keq_eq hk.1.1; subst e1
        have e2 := ble_le hk.1.2
        have e3 := beq_eq' hk.2; subst e3
        refine ⟨fun L v hv => ?_, r, hr, fun L cs hcs => ?_⟩
        · obtain ⟨h1, h2, h3⟩ := hv
          have : len = 16 := by omega
          subst this
          refine ⟨by omega, by omega, ?_⟩
          rcases h3 with ⟨z, _⟩ | ⟨hl, c, e, h4, h5, h6⟩
          · omega
          · exact .inr ⟨hl, c, e, h4, h5, fun c' hc' => by simp at hc'⟩
        · rw [hc] at hcs
          obtain ⟨c, d, e, ⟨p1, p2, p3⟩, hd⟩ := hcs
          exact ⟨c, d, e, ⟨p1, fun x hx => Nat.le_trans (p2 x hx) e2, p3⟩, hd⟩
      · simp at h
    · simp at h
  · simp at h

/-- The digits are digits. -/
theorem num_le {H : Heap} (hH : InhH H) {a : AVal} {n : Nat} {ds : List Nat} (h : num? H a = some (n, ds)) : ds.length = 16 ∧ ∀ d ∈ ds, d ≤ 65535 := by
  obtain ⟨_, q, hq, hf⟩ := num_fit h
  obtain ⟨L, cs, hc⟩ := hH n q hq
  obtain ⟨c, d, e, ⟨p1, p2, p3⟩, hd⟩ := hf L cs hc
  exact ⟨p1, p2⟩

section
variable {P : Program}

/-- What the canonical arguments have to be to the real ones. -/
structure Canon (args : List AVal) (H : Heap) (fn : Func) (k : Nat) (cargs : List AVal) (CH : Heap) (ρ : Nat → Nat) : Prop where
  sz : args.length = cargs.length
  fit : ∀ i, Fit (args.getD i .any) (ren ρ (cargs.getD i .any))
  inn : allNL (Nat.blt · k) cargs = true
  len : cargs.length ≤ fn.ntmps
  rows : ∀ n r, lk? CH n = some r → n < k ∧ r.ro = true ∧ allNL (fun _ => false) r.c = true ∧ ∃ q, lk? H (ρ n) = some q ∧ FitL q.c r.c

/-- A function that only looks, and gives a value. -/
theorem fun_look {f : FuncId} {fn : Func} (hf : P.funcs[f]? = some fn) (hn : (fn.name == "runtime.NumGoroutine") = false) (hb : fn.body.isNone = false) {s : Sum}
    (hs : ∀ args H fr v us, s args H fr = some (true, v, us) → Inh args → InhH H → us = [] ∧ allN (fun _ => false) v = true ∧ ∃ k cargs CH ρ, Canon args H fn k cargs CH ρ ∧ RunF P fn k cargs CH (KF v [])) : SumOk P f s := by
  refine fun_ok hf hn hb fun args H fr v us he hi hH => ?_
  obtain ⟨rfl, hv, k, cargs, CH, ρ, c, hr⟩ := hs args H fr v us he hi hH
  exact ⟨{
    k := k, cargs := cargs, CH := CH, ρ := ρ, outs := [], cres := v, srcs := []
    args_sz := c.sz
    args_fit := c.fit
    args_in := c.inn
    args_len := c.len
    rows := fun n r h => by
      obtain ⟨h1, h2, h3, q, h4, h5⟩ := c.rows n r h
      exact ⟨h1, allN_mono.go (p := fun _ => false) (fun _ h => by simp at h) _ h3, q, h4, by rw [ren_id.renL_id _ h3]; exact h5, fun h => by rw [h2] at h; simp at h⟩
    apart := fun n m r q h1 h2 _ hro => by
      have := (c.rows n r h1).2.1
      have := (c.rows m q h2).2.1
      simp_all
    run := hr
    outs_len := by simp
    outs_new := fun x h => by simp at h
    outs_nd := by simp
    wrote := fun i r h hro => by have := (c.rows i r h).2.1; rw [this] at hro; simp at hro
    from_ := fun p h => by simp at h
    srcs_nd := by simp
    srcs_in := fun p h => by simp at h
    cres_in := allN_mono (p := fun _ => false) (fun _ h => by simp at h) _ hv
    v_eq := (ren_id v hv _).symm
    us_eq := rfl }⟩

/-- A function that only looks, and gives a new number. -/
theorem fun_new {f : FuncId} {fn : Func} (hf : P.funcs[f]? = some fn) (hn : (fn.name == "runtime.NumGoroutine") = false) (hb : fn.body.isNone = false) {s : Sum}
    (hs : ∀ args H fr v us, s args H fr = some (true, v, us) → Inh args → InhH H → ∃ ds, v = sl16 fr ∧ us = [(fr, some ⟨false, row16 ds⟩)] ∧ ∃ k cargs CH ρ X, k ≤ X ∧ Canon args H fn k cargs CH ρ ∧ RunF P fn k cargs CH (KF (sl16 X) [(X, row16 ds)])) : SumOk P f s := by
  refine fun_ok hf hn hb fun args H fr v us he hi hH => ?_
  obtain ⟨ds, rfl, rfl, k, cargs, CH, ρ, X, hX, c, hr⟩ := hs args H fr v us he hi hH
  have hidx : [X].idxOf X = 0 := by simp
  have hren : ren2 k ρ fr [X] X = fr := by
    simp only [ren2]
    rw [if_neg (by omega), hidx]; omega
  exact ⟨{
    k := k, cargs := cargs, CH := CH, ρ := ρ, outs := [X], cres := sl16 X, srcs := [(X, row16 ds)]
    args_sz := c.sz
    args_fit := c.fit
    args_in := c.inn
    args_len := c.len
    rows := fun n r h => by
      obtain ⟨h1, h2, h3, q, h4, h5⟩ := c.rows n r h
      exact ⟨h1, allN_mono.go (p := fun _ => false) (fun _ h => by simp at h) _ h3, q, h4, by rw [ren_id.renL_id _ h3]; exact h5, fun h => by rw [h2] at h; simp at h⟩
    apart := fun n m r q h1 h2 _ hro => by
      have := (c.rows n r h1).2.1
      have := (c.rows m q h2).2.1
      simp_all
    run := hr
    outs_len := by simp
    outs_new := fun x h => by simp at h; omega
    outs_nd := by simp
    wrote := fun i r h hro => by have := (c.rows i r h).2.1; rw [this] at hro; simp at hro
    from_ := fun p h => by simp at h; subst h; exact .inl (by simp)
    srcs_nd := by simp
    srcs_in := fun p h => by simp at h; subst h; rfl
    cres_in := by simp [sl16, allN, mem]
    v_eq := by simp [sl16, ren, hren]
    us_eq := by simp [hren, row16, renL, ren] }⟩

theorem canon_nil {fn : Func} (H : Heap) : Canon [] H fn 0 [] [] id := ⟨rfl, fun i => by simp [ren]; exact Fit.refl _, rfl, Nat.zero_le _, fun n r h => by simp [lk?_nil] at h⟩

theorem canon_num {fn : Func} {H : Heap} {a : AVal} {n : Nat} {ds : List Nat} (ht : 1 ≤ fn.ntmps) (h : num? H a = some (n, ds)) : Canon [a] H fn 1 [sl16 0] [(0, ⟨true, row16 ds⟩)] (fun _ => n) := by
  obtain ⟨h1, q, h2, h3⟩ := num_fit h
  refine ⟨rfl, fun i => ?_, rfl, ht, fun m r hr => ?_⟩
  · cases i with
    | zero => exact h1
    | succ i => simp [ren]; exact Fit.refl _
  · rw [lk?_cons] at hr
    split at hr
    · rename_i e
      simp only at e hr
      subst e
      simp only [Option.some.injEq] at hr; subst hr
      exact ⟨by omega, rfl, rfl, q, h2, h3⟩
    · simp [lk?_nil] at hr

theorem canon_num2 {fn : Func} {H : Heap} {a b : AVal} {n m : Nat} {ds es : List Nat} (ht : 2 ≤ fn.ntmps) (h : num? H a = some (n, ds)) (h' : num? H b = some (m, es)) :
    Canon [a, b] H fn 2 [sl16 0, sl16 1] [(0, ⟨true, row16 ds⟩), (1, ⟨true, row16 es⟩)] (fun i => if i = 0 then n else m) := by
  obtain ⟨h1, q, h2, h3⟩ := num_fit h
  obtain ⟨g1, q', g2, g3⟩ := num_fit h'
  refine ⟨rfl, fun i => ?_, rfl, ht, fun j r hr => ?_⟩
  · match i with
    | 0 => exact h1
    | 1 => exact g1
    | i + 2 => simp [ren]; exact Fit.refl _
  · rw [lk?_cons] at hr
    split at hr
    · rename_i e
      simp only at e hr
      subst e
      simp only [Option.some.injEq] at hr; subst hr
      exact ⟨by omega, rfl, rfl, q, by simpa using h2, h3⟩
    · rw [lk?_cons] at hr
      split at hr
      · rename_i e
        simp only at e hr
        subst e
        simp only [Option.some.injEq] at hr; subst hr
        exact ⟨by omega, rfl, rfl, q', by simpa using g2, g3⟩
      · simp [lk?_nil] at hr

theorem canon_bytes {fn : Func} {H : Heap} {a : AVal} {bs : List Nat} (ht : 1 ≤ fn.ntmps) (h : bytes? a = some bs) : Canon [a] H fn 0 [.nats .u8 255 32 bs] [] id :=
  ⟨rfl, fun i => by
    cases i with
    | zero => exact bytes_fit h
    | succ i => simp [ren]; exact Fit.refl _, rfl, ht, fun n r h => by simp [lk?_nil] at h⟩

end
end Go.Bx

/-
  The reference's numbers: what its functions compute.
-/
namespace Go.Bx

noncomputable def digitsW (bs : List Nat) : List Nat := [0, 1, 2, 3, 4, 5, 6, 7, 8, 9, 10, 11, 12, 13, 14, 15].map fun i => bs.getD (2 * i) 0 + 256 * bs.getD (2 * i + 1) 0
noncomputable def pW : List Nat := [65517, 65535, 65535, 65535, 65535, 65535, 65535, 65535, 65535, 65535, 65535, 65535, 65535, 65535, 65535, 32767]
noncomputable def atLeastW (xs ys : List Nat) : Nat → Bool
  | 0 => true
  | i + 1 => cond (!Nat.beq (xs.getD i 0) (ys.getD i 0)) (Nat.blt (ys.getD i 0) (xs.getD i 0)) (atLeastW xs ys i)
noncomputable def rbytesW (ds : List Nat) : List Nat := iter (fun i o => (o.set (2 * i) (ds.getD i 0 % 256)).set (2 * i + 1) (ds.getD i 0 / 256)) 16 (List.replicate 32 0)

noncomputable def digitsS : Sum := fun args _ fr => match args with
  | [x] => match bytes? x with
    | some bs => some (true, sl16 fr, [(fr, some ⟨false, row16 (digitsW bs)⟩)])
    | none => none
  | _ => none
noncomputable def pS : Sum := fun args _ fr => match args with
  | [] => some (true, sl16 fr, [(fr, some ⟨false, row16 pW⟩)])
  | _ => none
noncomputable def look1 (g : List Nat → AVal) : Sum := fun args H _ => match args with
  | [x] => match num? H x with
    | some (_, ds) => some (true, g ds, [])
    | none => none
  | _ => none
noncomputable def look2 (g : List Nat → List Nat → AVal) : Sum := fun args H _ => match args with
  | [x, y] => match num? H x, num? H y with
    | some (_, ds), some (_, es) => some (true, g ds es, [])
    | _, _ => none
  | _ => none

section
variable {P : Program}

theorem digitsS_ok {f : FuncId} {fn : Func} (hf : P.funcs[f]? = some fn) (hn : (fn.name == "runtime.NumGoroutine") = false) (hb : fn.body.isNone = false) (ht : 1 ≤ fn.ntmps) {X : Nat}
    (h : ∀ bs, RunF P fn 0 [.nats .u8 255 32 bs] [] (KF (sl16 X) [(X, row16 (digitsW bs))])) : SumOk P f digitsS := by
  refine fun_new hf hn hb fun args H fr v us he _ _ => ?_
  unfold digitsS at he
  split at he
  · rename_i x
    split at he
    · rename_i bs hx
      simp only [Option.some.injEq, Prod.mk.injEq, true_and] at he
      obtain ⟨rfl, rfl⟩ := he
      exact ⟨digitsW bs, rfl, rfl, 0, _, [], id, X, Nat.zero_le _, canon_bytes ht hx, h bs⟩
    · simp at he
  · simp at he

theorem pS_ok {f : FuncId} {fn : Func} (hf : P.funcs[f]? = some fn) (hn : (fn.name == "runtime.NumGoroutine") = false) (hb : fn.body.isNone = false) {X : Nat}
    (h : RunF P fn 0 [] [] (KF (sl16 X) [(X, row16 pW)])) : SumOk P f pS := by
  refine fun_new hf hn hb fun args H fr v us he _ _ => ?_
  unfold pS at he
  split at he
  · simp only [Option.some.injEq, Prod.mk.injEq, true_and] at he
    obtain ⟨rfl, rfl⟩ := he
    exact ⟨pW, rfl, rfl, 0, _, [], id, X, Nat.zero_le _, canon_nil H, h⟩
  · simp at he

theorem look1_ok {f : FuncId} {fn : Func} (hf : P.funcs[f]? = some fn) (hn : (fn.name == "runtime.NumGoroutine") = false) (hb : fn.body.isNone = false) (ht : 1 ≤ fn.ntmps) {g : List Nat → AVal} (hg : ∀ xs, allN (fun _ => false) (g xs) = true)
    (h : ∀ ds, RunF P fn 1 [sl16 0] [(0, ⟨true, row16 ds⟩)] (KF (g ds) [])) : SumOk P f (look1 g) := by
  refine fun_look hf hn hb fun args H fr v us he _ _ => ?_
  unfold look1 at he
  split at he
  · rename_i x
    split at he
    · rename_i n ds hx
      simp only [Option.some.injEq, Prod.mk.injEq, true_and] at he
      obtain ⟨rfl, rfl⟩ := he
      exact ⟨rfl, hg ds, 1, _, _, _, canon_num ht hx, h ds⟩
    · simp at he
  · simp at he

theorem look2_ok {f : FuncId} {fn : Func} (hf : P.funcs[f]? = some fn) (hn : (fn.name == "runtime.NumGoroutine") = false) (hb : fn.body.isNone = false) (ht : 2 ≤ fn.ntmps) {g : List Nat → List Nat → AVal} (hg : ∀ xs ys, allN (fun _ => false) (g xs ys) = true)
    (h : ∀ ds es, RunF P fn 2 [sl16 0, sl16 1] [(0, ⟨true, row16 ds⟩), (1, ⟨true, row16 es⟩)] (KF (g ds es) [])) : SumOk P f (look2 g) := by
  refine fun_look hf hn hb fun args H fr v us he _ _ => ?_
  unfold look2 at he
  split at he
  · rename_i x y
    split at he
    · rename_i n ds m es hx hy
      simp only [Option.some.injEq, Prod.mk.injEq, true_and] at he
      obtain ⟨rfl, rfl⟩ := he
      exact ⟨rfl, hg ds es, 2, _, _, _, canon_num2 ht hx hy, h ds es⟩
    · simp at he
  · simp at he

end
end Go.Bx

/-
  The reference's numbers: differences.
-/
namespace Go.Bx

/-- One digit of a difference: the digit and the borrow. -/
noncomputable def rlessD (xs ys : List Nat) : Nat → Int
  | 0 => w64 (w64 ((xs.getD 0 0 : Int) - (ys.getD 0 0 : Int)) - ((0 : Nat) : Int))
  | i + 1 => w64 (w64 ((xs.getD (i + 1) 0 : Int) - (ys.getD (i + 1) 0 : Int)) - ((cond (decide (rlessD xs ys i < ((0 : Nat) : Int))) 1 0 : Nat) : Int))

noncomputable def rlessI (xs ys : List Nat) : List Int := [0, 1, 2, 3, 4, 5, 6, 7, 8, 9, 10, 11, 12, 13, 14, 15].map fun i => cond (decide (rlessD xs ys i < ((0 : Nat) : Int))) (w64 (rlessD xs ys i + ((65536 : Nat) : Int))) (rlessD xs ys i)

noncomputable def rlessW (xs ys : List Nat) : List Nat := (rlessI xs ys).map Int.toNat

theorem w64_small {z : Int} (h : -1000000000 ≤ z) (h' : z ≤ 1000000000) : w64 z = z := by
  unfold w64
  rcases Int.lt_or_le z 0 with hz | hz
  · obtain ⟨m, hm⟩ : ∃ m, z = Int.negSucc m := ⟨(-z - 1).toNat, by omega⟩
    rw [hm]
    exact wrap_negSucc rfl (by simp [kmax]; omega)
  · obtain ⟨m, hm⟩ : ∃ m : Nat, z = (m : Int) := ⟨z.toNat, by omega⟩
    rw [hm]
    exact wrap_nat (by simp [kmax]; omega)

theorem getD_le {xs : List Nat} {b : Nat} (h : ∀ x ∈ xs, x ≤ b) (i : Nat) : xs.getD i 0 ≤ b := by
  rw [List.getD_eq_getElem?_getD]
  rcases Nat.lt_or_ge i xs.length with hi | hi
  · rw [List.getElem?_eq_getElem hi]; exact h _ (List.getElem_mem hi)
  · rw [List.getElem?_eq_none hi]; exact Nat.zero_le _

theorem rlessD_eq {xs ys : List Nat} (hx : ∀ x ∈ xs, x ≤ 65535) (hy : ∀ y ∈ ys, y ≤ 65535) : ∀ i, -65536 ≤ rlessD xs ys i ∧ rlessD xs ys i ≤ 65535 ∧
    rlessD xs ys i = (xs.getD i 0 : Int) - (ys.getD i 0 : Int) - (match i with | 0 => 0 | j + 1 => cond (decide (rlessD xs ys j < 0)) 1 0)
  | 0 => by
    have h1 := getD_le hx 0
    have h2 := getD_le hy 0
    have e : rlessD xs ys 0 = (xs.getD 0 0 : Int) - (ys.getD 0 0 : Int) := by
      unfold rlessD
      rw [w64_small (z := (xs.getD 0 0 : Int) - (ys.getD 0 0 : Int)) (by omega) (by omega), w64_small (by omega) (by omega)]
      omega
    refine ⟨by omega, by omega, by rw [e]; simp⟩
  | i + 1 => by
    have h1 := getD_le hx (i + 1)
    have h2 := getD_le hy (i + 1)
    have hc : ∃ c : Nat, c ≤ 1 ∧ (cond (decide (rlessD xs ys i < ((0 : Nat) : Int))) 1 0 : Nat) = c ∧ (cond (decide (rlessD xs ys i < 0)) 1 0 : Int) = (c : Int) := by
      cases hd : decide (rlessD xs ys i < ((0 : Nat) : Int))
      · exact ⟨0, by omega, rfl, rfl⟩
      · exact ⟨1, by omega, rfl, rfl⟩
    obtain ⟨c, hc, e1, e2⟩ := hc
    have e : rlessD xs ys (i + 1) = (xs.getD (i + 1) 0 : Int) - (ys.getD (i + 1) 0 : Int) - (c : Int) := by
      rw [rlessD, e1]
      rw [w64_small (z := (xs.getD (i + 1) 0 : Int) - (ys.getD (i + 1) 0 : Int)) (by omega) (by omega), w64_small (by omega) (by omega)]
    refine ⟨by omega, by omega, ?_⟩
    simp only
    rw [e2, e]

theorem rlessI_range {xs ys : List Nat} (hx : ∀ x ∈ xs, x ≤ 65535) (hy : ∀ y ∈ ys, y ≤ 65535) : ∀ z ∈ rlessI xs ys, 0 ≤ z ∧ z ≤ 65535 := by
  intro z hz
  obtain ⟨i, _, rfl⟩ := List.mem_map.1 hz
  obtain ⟨h1, h2, _⟩ := rlessD_eq hx hy i
  cases hd : decide (rlessD xs ys i < ((0 : Nat) : Int))
  · simp only [cond_false]
    have : ¬ rlessD xs ys i < 0 := by simpa using hd
    omega
  · simp only [cond_true]
    have : rlessD xs ys i < 0 := by simpa using hd
    rw [w64_small (by omega) (by omega)]
    omega

/-- Integers that are known to be digits. -/
theorem fitL_nats {k : IntKind} {n hi : Nat} {l : List Int} (h : ∀ z ∈ l, 0 ≤ z ∧ z ≤ (hi : Int)) : FitL [.ints k n l] [.nats k hi n (l.map Int.toNat)] := by
  intro L cs hc
  obtain ⟨c, d, e, ⟨p1, p2⟩, hd⟩ := hc
  refine ⟨c, d, e, ⟨by simpa using p1, fun x hx => ?_, ?_⟩, hd⟩
  · obtain ⟨z, hz, rfl⟩ := List.mem_map.1 hx
    have := h z hz; omega
  · rw [p2, List.map_map]
    apply List.map_congr_left
    intro z hz
    have := (h z hz).1
    simp only [Function.comp]
    congr 1; omega

noncomputable def new2 (g : List Nat → List Nat → List Nat) : Sum := fun args H fr => match args with
  | [x, y] => match num? H x, num? H y with
    | some (_, ds), some (_, es) => some (true, sl16 fr, [(fr, some ⟨false, row16 (g ds es)⟩)])
    | _, _ => none
  | _ => none

theorem new2_ok {P : Program} {f : FuncId} {fn : Func} (hf : P.funcs[f]? = some fn) (hn : (fn.name == "runtime.NumGoroutine") = false) (hb : fn.body.isNone = false) (ht : 2 ≤ fn.ntmps) {g : List Nat → List Nat → List Nat} {X : Nat} (hX : 2 ≤ X)
    (h : ∀ ds es, (∀ d ∈ ds, d ≤ 65535) → (∀ e ∈ es, e ≤ 65535) → ds.length = 16 → es.length = 16 → RunF P fn 2 [sl16 0, sl16 1] [(0, ⟨true, row16 ds⟩), (1, ⟨true, row16 es⟩)] (KF (sl16 X) [(X, row16 (g ds es))])) : SumOk P f (new2 g) := by
  refine fun_new hf hn hb fun args H fr v us he _ hH => ?_
  unfold new2 at he
  split at he
  · rename_i x y
    split at he
    · rename_i n ds m es hx hy
      simp only [Option.some.injEq, Prod.mk.injEq, true_and] at he
      obtain ⟨rfl, rfl⟩ := he
      have h1 := num_le hH hx
      have h2 := num_le hH hy
      exact ⟨g ds es, rfl, rfl, 2, _, _, _, X, hX, canon_num2 ht hx hy, h ds es h1.2 h2.2 h1.1 h2.1⟩
    · simp at he
  · simp at he

end Go.Bx

/-
  The reference's reduction: what a round computes.
-/
namespace Go.Bx

/-- What is above the bit 254. -/
noncomputable def highW (n : Nat) (x : List Nat) : List Nat := (List.range (n - 15)).map fun i => bif Nat.blt (15 + i + 1) n then x.getD (15 + i) 0 / 32768 + x.getD (15 + i + 1) 0 % 32768 * 2 else x.getD (15 + i) 0 / 32768
noncomputable def lowW (x : List Nat) : List Nat := ((List.range 15).map fun i => x.getD i 0) ++ [x.getD 15 0 % 32768]
noncomputable def zeroW (hs : List Nat) : Nat → Bool
  | 0 => true
  | i + 1 => cond (Nat.blt 0 (hs.getD i 0)) false (zeroW hs i)

def slN (n k : Nat) : AVal := .slice n 0 1 k k k none
def rowN (k : Nat) (ds : List Nat) : List AVal := [.nats .i64 65535 k ds]

/-- Ahead of a round: `x` has `n` digits. -/
noncomputable def modS (n : Nat) (x : List Nat) : St := ⟨[(3, slN 1 n)], [(1, ⟨false, rowN n x⟩)], 2, [], []⟩
/-- Ahead of the question whether nothing is above. -/
noncomputable def modT (h : Nat) (hs low : List Nat) : St := ⟨[(4, slN 1 h), (7, .ob (zeroW hs h)), (9, slN 2 16)], [(1, ⟨false, rowN h hs⟩), (2, ⟨false, rowN 16 low⟩)], 3, [], []⟩

def firstN : Nat → Code → Code
  | 0, _ => .skip
  | n + 1, .seq a b => .seq a (firstN n b)
  | _ + 1, c => c

def dropN : Nat → Code → Code
  | 0, c => c
  | n + 1, .seq _ b => dropN n b
  | _ + 1, c => c

/-- Something is above. -/
noncomputable def modF (h : Nat) (hs low : List Nat) : St := ⟨[(4, slN 1 h), (7, .bool false), (9, slN 2 16)], [(1, ⟨false, rowN h hs⟩), (2, ⟨false, rowN 16 low⟩)], 3, [], []⟩

noncomputable def sumStep (h : Nat) (hs : List Nat) (i : Nat) (p : List Nat × Nat) : List Nat × Nat :=
  let n := bif Nat.blt i h then p.1.getD i 0 + p.2 + 19 * hs.getD i 0 else p.1.getD i 0 + p.2
  (p.1.set i (n % 65536), n / 65536)
noncomputable def sumW (k h : Nat) (hs low : List Nat) : List Nat × Nat := iter (sumStep h hs) k (low, 0)

/-- Behind the sum: its digits and what is left. -/
noncomputable def modU (k : Nat) (l : List Nat) (c : AVal) : St := ⟨[(9, slN 1 k), (11, c)], [(1, ⟨false, rowN k l⟩)], 2, [], []⟩

end Go.Bx

/-
  The reference's numbers: values of digits.
-/
namespace Go.Bx

def valL : List Nat → Nat
  | [] => 0
  | d :: l => d + 65536 * valL l

theorem valL_set : ∀ (l : List Nat) (i d : Nat), i < l.length → valL (l.set i d) + l.getD i 0 * 65536 ^ i = valL l + d * 65536 ^ i
  | [], _, _, h => by simp at h
  | a :: l, 0, d, _ => by simp [valL]; omega
  | a :: l, i + 1, d, h => by
    have ih := valL_set l i d (by simpa using h)
    simp only [List.set_cons_succ, valL, List.getD_cons_succ, Nat.pow_succ]
    have e1 : l.getD i 0 * (65536 ^ i * 65536) = 65536 * (l.getD i 0 * 65536 ^ i) := by rw [← Nat.mul_assoc, Nat.mul_comm]
    have e2 : d * (65536 ^ i * 65536) = 65536 * (d * 65536 ^ i) := by rw [← Nat.mul_assoc, Nat.mul_comm]
    rw [e1, e2]
    omega

theorem valL_take : ∀ (l : List Nat) (i : Nat), valL (l.take (i + 1)) = valL (l.take i) + l.getD i 0 * 65536 ^ i
  | [], i => by simp [valL]
  | a :: l, 0 => by simp [valL]
  | a :: l, i + 1 => by
    have ih := valL_take l i
    simp only [List.take_succ_cons, valL, List.getD_cons_succ, Nat.pow_succ] at ih ⊢
    rw [ih]
    have e1 : l.getD i 0 * (65536 ^ i * 65536) = 65536 * (l.getD i 0 * 65536 ^ i) := by rw [← Nat.mul_assoc, Nat.mul_comm]
    rw [e1]; omega

theorem valL_lt : ∀ (l : List Nat), (∀ d ∈ l, d ≤ 65535) → valL l < 65536 ^ l.length
  | [], _ => by simp [valL]
  | a :: l, h => by
    have ih := valL_lt l fun d hd => h d (List.mem_cons_of_mem _ hd)
    have ha := h a (List.mem_cons_self ..)
    simp only [valL, List.length_cons, Nat.pow_succ]
    omega

/-- A sum keeps the value. -/
theorem sumW_val {h : Nat} {hs low : List Nat} : ∀ k, k ≤ low.length → (sumW k h hs low).1.length = low.length ∧ (∀ j, k ≤ j → (sumW k h hs low).1.getD j 0 = low.getD j 0) ∧
    valL (sumW k h hs low).1 + (sumW k h hs low).2 * 65536 ^ k = valL low + 19 * valL (hs.take (min k h))
  | 0, _ => by simp [sumW, iter, valL]
  | k + 1, hk => by
    obtain ⟨h1, h2, h3⟩ := sumW_val (h := h) (hs := hs) (low := low) k (by omega)
    have hs' : sumW (k + 1) h hs low = sumStep h hs k (sumW k h hs low) := rfl
    generalize sumW k h hs low = p at *
    obtain ⟨l, c⟩ := p
    simp only at h1 h2 h3
    rw [hs']
    have hget := h2 k (Nat.le_refl _)
    have hset := fun d => valL_set l k d (by omega)
    generalize hn : (bif Nat.blt k h then l.getD k 0 + c + 19 * hs.getD k 0 else l.getD k 0 + c) = n
    have e : sumStep h hs k (l, c) = (l.set k (n % 65536), n / 65536) := by simp only [sumStep, hn]
    rw [e]
    refine ⟨by simpa using h1, fun j hj => ?_, ?_⟩
    · have : l.getD j 0 = low.getD j 0 := h2 j (by omega)
      rw [← this]
      simp only [List.getD_eq_getElem?_getD]
      rw [List.getElem?_set_ne (by omega)]
    · have := hset (n % 65536)
      have hdiv := Nat.div_add_mod n 65536
      have hB : n / 65536 * 65536 ^ (k + 1) + n % 65536 * 65536 ^ k = n * 65536 ^ k := by
        rw [Nat.pow_succ, Nat.mul_comm (65536 ^ k), ← Nat.mul_assoc, ← Nat.add_mul]
        congr 1; omega
      simp only
      cases hb : Nat.blt k h
      · rw [hb, cond_false] at hn
        have hkh := not_blt hb
        have m1 : min (k + 1) h = h := by omega
        have m2 : min k h = h := by omega
        rw [m1]
        rw [m2] at h3
        have : n * 65536 ^ k = l.getD k 0 * 65536 ^ k + c * 65536 ^ k := by rw [← hn, Nat.add_mul]
        omega
      · rw [hb, cond_true] at hn
        have hkh := blt_lt hb
        have m1 : min (k + 1) h = k + 1 := by omega
        have m2 : min k h = k := by omega
        rw [m1, valL_take]
        rw [m2] at h3
        have : n * 65536 ^ k = l.getD k 0 * 65536 ^ k + c * 65536 ^ k + 19 * (hs.getD k 0 * 65536 ^ k) := by rw [← hn, Nat.add_mul, Nat.add_mul, Nat.mul_assoc]
        omega

theorem valL_append : ∀ (a b : List Nat), valL (a ++ b) = valL a + 65536 ^ a.length * valL b
  | [], b => by simp [valL]
  | x :: a, b => by
    simp only [List.cons_append, valL, valL_append a b, List.length_cons, Nat.pow_succ]
    rw [Nat.mul_add, ← Nat.mul_assoc, Nat.mul_comm 65536 (65536 ^ a.length)]
    omega

theorem lowW_val (x : List Nat) (hx : ∀ d ∈ x, d ≤ 65535) : (lowW x).length = 16 ∧ (∀ d ∈ lowW x, d ≤ 65535) ∧ valL (lowW x) < 2 ^ 255 := by
  have hd : ∀ d ∈ (List.range 15).map (fun i => x.getD i 0), d ≤ 65535 := by
    intro d h
    obtain ⟨i, _, rfl⟩ := List.mem_map.1 h
    exact getD_le hx i
  have h15 : x.getD 15 0 % 32768 < 32768 := Nat.mod_lt _ (by omega)
  refine ⟨by simp [lowW], fun d h => ?_, ?_⟩
  · simp only [lowW, List.mem_append, List.mem_singleton] at h
    rcases h with h | rfl
    · exact hd d h
    · omega
  · have h1 := valL_lt _ hd
    simp only [lowW, valL_append, valL]
    simp only [List.length_map, List.length_range] at h1 ⊢
    have e : (2 : Nat) ^ 255 = 65536 ^ 15 * 32768 := by decide
    rw [e]
    generalize valL ((List.range 15).map fun i => x.getD i 0) = v at *
    generalize x.getD 15 0 % 32768 = t at *
    have : 65536 ^ 15 * (t + 65536 * 0) ≤ 65536 ^ 15 * 32767 := Nat.mul_le_mul_left _ (by omega)
    omega

/-- What is above fifteen bits. -/
def hiL : List Nat → List Nat
  | [] => []
  | [a] => [a / 32768]
  | a :: b :: l => (a / 32768 + b % 32768 * 2) :: hiL (b :: l)

theorem hiL_val : ∀ (a : Nat) (l : List Nat), valL (a :: l) = a % 32768 + 32768 * valL (hiL (a :: l))
  | a, [] => by simp only [hiL, valL]; omega
  | a, b :: l => by
    have ih := hiL_val b l
    rw [valL, ih]
    simp only [hiL, valL]
    omega

theorem hiL_len : ∀ (l : List Nat), (hiL l).length = l.length
  | [] => rfl
  | [_] => rfl
  | _ :: b :: l => by simp [hiL, hiL_len (b :: l)]

theorem hiL_get : ∀ (l : List Nat) (i : Nat), i < l.length → (hiL l)[i]? = some (bif Nat.blt (i + 1) l.length then l.getD i 0 / 32768 + l.getD (i + 1) 0 % 32768 * 2 else l.getD i 0 / 32768)
  | [], i, h => by simp at h
  | [a], 0, _ => by simp [hiL]
  | [a], i + 1, h => by simp at h
  | a :: b :: l, 0, _ => rfl
  | a :: b :: l, i + 1, h => by
    have ih := hiL_get (b :: l) i (by simpa using h)
    simp only [hiL, List.getElem?_cons_succ, ih]
    rfl

theorem highW_eq {n : Nat} {x : List Nat} (hn : x.length = n) : highW n x = hiL (x.drop 15) := by
  apply List.ext_getElem?
  intro i
  have hl : (x.drop 15).length = n - 15 := by rw [List.length_drop, hn]
  rcases Nat.lt_or_ge i (n - 15) with hi | hi
  · rw [hiL_get _ i (by omega)]
    simp only [highW, List.getElem?_map, List.getElem?_range hi, Option.map_some]
    have g : ∀ j, (x.drop 15).getD j 0 = x.getD (15 + j) 0 := fun j => by simp [List.getD_eq_getElem?_getD]
    rw [g, g, hl]
    have e : Nat.blt (15 + i + 1) n = Nat.blt (i + 1) (n - 15) := by
      rw [Bool.eq_iff_iff]
      constructor
      · intro h; have := blt_lt h; simp; omega
      · intro h; have := blt_lt h; simp; omega
    rw [e]
    rfl
  · rw [List.getElem?_eq_none (by simp [highW]; omega), List.getElem?_eq_none (by rw [hiL_len, hl]; exact hi)]

/-- What is below and what is above. -/
theorem split_val {n : Nat} {x : List Nat} (hn : x.length = n) (h16 : 16 ≤ n) : valL x = valL (lowW x) + 2 ^ 255 * valL (highW n x) := by
  rw [highW_eq hn]
  have hsp : valL x = valL (x.take 15) + 65536 ^ 15 * valL (x.drop 15) := by
    have := valL_append (x.take 15) (x.drop 15)
    rw [List.take_append_drop, List.length_take, Nat.min_eq_left (by omega)] at this
    exact this
  have htk : (List.range 15).map (fun i => x.getD i 0) = x.take 15 := by
    apply List.ext_getElem?
    intro i
    rcases Nat.lt_or_ge i 15 with hi | hi
    · rw [List.getElem?_map, List.getElem?_range hi, List.getElem?_take_of_lt hi]
      simp only [Option.map_some, List.getD_eq_getElem?_getD]
      rw [List.getElem?_eq_getElem (by omega)]; rfl
    · rw [List.getElem?_eq_none (by simp; omega), List.getElem?_eq_none (by simp; omega)]
  obtain ⟨a, l, hal⟩ : ∃ a l, x.drop 15 = a :: l := by
    cases hd : x.drop 15 with
    | nil => have := congrArg List.length hd; simp at this; omega
    | cons a l => exact ⟨a, l, rfl⟩
  have ha : x.getD 15 0 = a := by
    have : (x.drop 15)[0]? = some a := by rw [hal]; rfl
    simp only [List.getElem?_drop] at this
    simp [List.getD_eq_getElem?_getD, this]
  rw [hsp, hal, hiL_val a l]
  simp only [lowW, htk, valL_append, valL, ha, List.length_take, Nat.min_eq_left (show 15 ≤ x.length by omega)]
  have e : (2 : Nat) ^ 255 = 65536 ^ 15 * 32768 := by decide
  rw [e, Nat.mul_add, Nat.mul_assoc]
  simp
  omega

theorem hiL_le : ∀ (l : List Nat), (∀ d ∈ l, d ≤ 65535) → ∀ d ∈ hiL l, d ≤ 65535
  | [], _, d, h => by simp [hiL] at h
  | [a], hl, d, h => by
    have := hl a (by simp)
    simp only [hiL, List.mem_singleton] at h
    omega
  | a :: b :: l, hl, d, h => by
    have ha := hl a (by simp)
    simp only [hiL, List.mem_cons] at h
    rcases h with h | h
    · omega
    · exact hiL_le (b :: l) (fun d hd => hl d (List.mem_cons_of_mem _ hd)) d h

theorem take_lt {hs : List Nat} (hh : ∀ d ∈ hs, d ≤ 65535) (k : Nat) : valL (hs.take k) < 65536 ^ k := by
  have h1 := valL_lt (hs.take k) fun d hd => hh d (List.mem_of_mem_take hd)
  exact Nat.lt_of_lt_of_le h1 (Nat.pow_le_pow_right (by omega) (by simp; omega))

/-- Nothing is left behind a sum. -/
theorem carry0 {h : Nat} {hs low : List Nat} (hl : low.length = 16) (hv : valL low < 2 ^ 255) (hh : ∀ d ∈ hs, d ≤ 65535) (h3 : h ≤ 3) : (sumW 16 h hs low).2 = 0 := by
  obtain ⟨_, _, e⟩ := sumW_val (h := h) (hs := hs) (low := low) 16 (by omega)
  have h1 := take_lt hh (min 16 h)
  have h2 : (65536 : Nat) ^ (min 16 h) ≤ 65536 ^ 3 := Nat.pow_le_pow_right (by omega) (by omega)
  generalize (sumW 16 h hs low).2 = c at *
  generalize valL (sumW 16 h hs low).1 = v at *
  generalize valL (hs.take (min 16 h)) = t at *
  have h4 : t < 65536 ^ 3 := Nat.lt_of_lt_of_le h1 h2
  cases c with
  | zero => rfl
  | succ c =>
    have : (c + 1) * 65536 ^ 16 ≥ 65536 ^ 16 := Nat.le_mul_of_pos_left _ (by omega)
    omega

end Go.Bx

/-
  fe: what the parts stand for.
-/
namespace Go.Bx

def P25 : Nat := 57896044618658097711785492504343953926634992332820282019728792003956564819949

def valI : List Int → Int
  | [] => 0
  | d :: l => d + 65536 * valI l

theorem valI_set : ∀ (l : List Int) (i : Nat) (d : Int), i < l.length → valI (l.set i d) + l.getD i 0 * 65536 ^ i = valI l + d * 65536 ^ i
  | [], _, _, h => by simp at h
  | a :: l, 0, d, _ => by simp [valI]; omega
  | a :: l, i + 1, d, h => by
    have ih := valI_set l i d (by simpa using h)
    simp only [List.set_cons_succ, valI, List.getD_cons_succ, Int.pow_succ]
    have e1 : l.getD i 0 * (65536 ^ i * 65536) = 65536 * (l.getD i 0 * 65536 ^ i) := by rw [← Int.mul_assoc, Int.mul_comm]
    have e2 : d * (65536 ^ i * 65536) = 65536 * (d * 65536 ^ i) := by rw [← Int.mul_assoc, Int.mul_comm]
    rw [e1, e2]
    omega

theorem getD_setI (l : List Int) (i j : Nat) (d : Int) (h : i < l.length) : (l.set i d).getD j 0 = if i = j then d else l.getD j 0 := by
  simp only [List.getD_eq_getElem?_getD, List.getElem?_set]
  split
  · rename_i e; subst e; simp
  · rfl

theorem w64_id {z : Int} (h : -9223372036854775808 ≤ z) (h' : z ≤ 9223372036854775807) : w64 z = z := by
  have key : ∀ c : Bool, c = decide (z % 2 ^ 64 ≥ 2 ^ (64 - 1)) → (if c = true then z % 2 ^ 64 - 2 ^ 64 else z % 2 ^ 64) = z := by
    intro c hc
    by_cases hh : z % 2 ^ 64 ≥ 2 ^ (64 - 1)
    · rw [hc, decide_eq_true hh, if_pos rfl]; omega
    · rw [hc, decide_eq_false hh, if_neg (by decide)]; omega
  exact key _ (Bool.true_and _)

theorem fdiv16 (a : Int) : a.fdiv (2 ^ 16) = a / 65536 := Int.fdiv_eq_ediv_of_nonneg a (by decide)

/-- One step of a carry. -/
theorem carryStep_eq {l : List Int} {i : Nat} (hl : l.length = 16) (hi : i < 16) (ha : -(2 : Int) ^ 61 ≤ l.getD i 0 ∧ l.getD i 0 ≤ 2 ^ 61) (hb : ∀ j, -(2 : Int) ^ 61 ≤ l.getD j 0 ∧ l.getD j 0 ≤ 2 ^ 61) :
    carryStep i l = if i + 1 < 16 then (l.set i (l.getD i 0 % 65536)).set (i + 1) (l.getD (i + 1) 0 + l.getD i 0 / 65536) else (l.set i (l.getD i 0 % 65536)).set 0 (l.getD 0 0 + 38 * (l.getD i 0 / 65536)) := by
  have hi' : i < l.length := by omega
  have e1 : w64 (l.getD i 0 + 65536) = l.getD i 0 + 65536 := w64_id (by omega) (by omega)
  have g1 : ∀ d, (l.set i d).getD i 0 = d := fun d => by rw [getD_setI _ _ _ _ hi', if_pos rfl]
  have hc : (l.getD i 0 + 65536).fdiv (2 ^ 16) = l.getD i 0 / 65536 + 1 := by rw [fdiv16]; omega
  have e2 : w64 ((l.getD i 0 / 65536 + 1) * 2 ^ 16) = (l.getD i 0 / 65536 + 1) * 2 ^ 16 := w64_id (by omega) (by omega)
  have e3 : w64 (l.getD i 0 + 65536 - (l.getD i 0 / 65536 + 1) * 2 ^ 16) = l.getD i 0 % 65536 := by rw [w64_id (by omega) (by omega)]; omega
  have e4 : w64 (l.getD i 0 / 65536 + 1 - 1) = l.getD i 0 / 65536 := by rw [w64_id (by omega) (by omega)]; omega
  have e5 : w64 (38 * (l.getD i 0 / 65536)) = 38 * (l.getD i 0 / 65536) := w64_id (by omega) (by omega)
  have b0 := hb 0
  have b1 := hb (i + 1)
  unfold carryStep
  simp only [e1, g1, hc, e2, e3, e4, e5, List.set_set]
  split
  · rename_i h
    congr 1
    rw [getD_setI _ _ _ _ hi', if_neg (by omega)]
    exact w64_id (by omega) (by omega)
  · rename_i h
    congr 1
    rw [getD_setI _ _ _ _ hi', if_neg (by omega)]
    exact w64_id (by omega) (by omega)

/-- Behind `k` steps of a carry. -/
structure CarryInv (l : List Int) (k : Nat) (r : List Int) : Prop where
  len : r.length = 16
  val : valI r = valI l
  lo : ∀ j, j < k → 0 ≤ r.getD j 0 ∧ r.getD j 0 ≤ 65535
  hi : ∀ j, k < j → r.getD j 0 = l.getD j 0
  at_ : -(2 : Int) ^ 50 ≤ r.getD k 0 - l.getD k 0 ∧ r.getD k 0 - l.getD k 0 ≤ 2 ^ 50

theorem getD_all {l : List Int} {p : Int → Prop} (h : ∀ x ∈ l, p x) (h0 : p 0) (j : Nat) : p (l.getD j 0) := by
  rw [List.getD_eq_getElem?_getD]
  cases hg : l[j]? with
  | none => exact h0
  | some x => exact h x (List.mem_of_getElem? hg)

theorem CarryInv.big {l r : List Int} {k : Nat} (c : CarryInv l k r) (hb : ∀ j, -(2 : Int) ^ 60 ≤ l.getD j 0 ∧ l.getD j 0 ≤ 2 ^ 60) (j : Nat) : -(2 : Int) ^ 61 ≤ r.getD j 0 ∧ r.getD j 0 ≤ 2 ^ 61 := by
  have h := hb j
  rcases Nat.lt_trichotomy j k with hj | hj | hj
  · have := c.lo j hj; omega
  · subst hj; have := c.at_; omega
  · rw [c.hi j hj]; omega

theorem carry_inv {l : List Int} (hl : l.length = 16) (hb : ∀ j, -(2 : Int) ^ 60 ≤ l.getD j 0 ∧ l.getD j 0 ≤ 2 ^ 60) : ∀ k, k ≤ 15 → CarryInv l k (iter carryStep k l)
  | 0, _ => ⟨hl, rfl, fun j h => by omega, fun _ _ => rfl, by simp [iter]⟩
  | k + 1, hk => by
    have ih := carry_inv hl hb k (by omega)
    have hbig := ih.big hb
    have hs : iter carryStep (k + 1) l = carryStep k (iter carryStep k l) := rfl
    rw [hs]
    generalize iter carryStep k l = r at *
    have hr := ih.len
    rw [carryStep_eq hr (by omega) (hbig k) hbig, if_pos (by omega)]
    have ha := hbig k
    have h1 : k < r.length := by omega
    have h2 : k + 1 < (r.set k (r.getD k 0 % 65536)).length := by simp; omega
    have g : ∀ j, ((r.set k (r.getD k 0 % 65536)).set (k + 1) (r.getD (k + 1) 0 + r.getD k 0 / 65536)).getD j 0 = if k + 1 = j then r.getD (k + 1) 0 + r.getD k 0 / 65536 else if k = j then r.getD k 0 % 65536 else r.getD j 0 := by
      intro j
      rw [getD_setI _ _ _ _ h2, getD_setI _ _ _ _ h1]
    refine ⟨by simpa using hr, ?_, fun j hj => ?_, fun j hj => ?_, ?_⟩
    · have v1 := valI_set r k (r.getD k 0 % 65536) h1
      have v2 := valI_set (r.set k (r.getD k 0 % 65536)) (k + 1) (r.getD (k + 1) 0 + r.getD k 0 / 65536) h2
      rw [getD_setI _ _ _ _ h1, if_neg (by omega)] at v2
      rw [← ih.val]
      rw [Int.add_mul, Int.pow_succ] at v2
      have e : r.getD k 0 / 65536 * (65536 ^ k * 65536) + r.getD k 0 % 65536 * 65536 ^ k = r.getD k 0 * 65536 ^ k := by
        rw [Int.mul_comm (65536 ^ k), ← Int.mul_assoc, ← Int.add_mul]
        congr 1; omega
      omega
    · rw [g, if_neg (by omega)]
      split
      · omega
      · exact ih.lo j (by omega)
    · rw [g, if_neg (by omega), if_neg (by omega)]
      exact ih.hi j (by omega)
    · rw [g, if_pos rfl, ih.hi (k + 1) (by omega)]
      omega

theorem valI_range : ∀ (l : List Int), (∀ x ∈ l, 0 ≤ x ∧ x ≤ 65535) → 0 ≤ valI l ∧ valI l < 65536 ^ l.length
  | [], _ => by simp [valI]
  | a :: l, h => by
    have ih := valI_range l fun d hd => h d (List.mem_cons_of_mem _ hd)
    have ha := h a (List.mem_cons_self ..)
    simp only [valI, List.length_cons, Int.pow_succ]
    omega

theorem mem_getD {l : List Int} {x : Int} (h : x ∈ l) : ∃ j, j < l.length ∧ l.getD j 0 = x := by
  obtain ⟨j, hj, rfl⟩ := List.mem_iff_getElem.1 h
  exact ⟨j, hj, by rw [List.getD_eq_getElem?_getD, List.getElem?_eq_getElem hj]; rfl⟩

/-- What a carry comes to: the value's digits, and the rest 38 times at the first. -/
theorem carryW_spec {l : List Int} (hl : l.length = 16) (hb : ∀ x ∈ l, -(2 : Int) ^ 60 ≤ x ∧ x ≤ 2 ^ 60) :
    ∃ D : List Int, D.length = 16 ∧ (∀ d ∈ D, 0 ≤ d ∧ d ≤ 65535) ∧ valI D = valI l % 2 ^ 256 ∧ carryW l = D.set 0 (D.getD 0 0 + 38 * (valI l / 2 ^ 256)) := by
  have hb' := fun j => getD_all (p := fun x => -(2 : Int) ^ 60 ≤ x ∧ x ≤ 2 ^ 60) hb (by decide) j
  have ih := carry_inv hl hb' 15 (Nat.le_refl _)
  have hbig := ih.big hb'
  have hs : carryW l = carryStep 15 (iter carryStep 15 l) := rfl
  rw [hs]
  generalize iter carryStep 15 l = r at *
  have hr := ih.len
  rw [carryStep_eq hr (by omega) (hbig 15) hbig, if_neg (by omega)]
  have h1 : 15 < r.length := by omega
  have v1 := valI_set r 15 (r.getD 15 0 % 65536) h1
  have g : ∀ j, (r.set 15 (r.getD 15 0 % 65536)).getD j 0 = if 15 = j then r.getD 15 0 % 65536 else r.getD j 0 := fun j => getD_setI _ _ _ _ h1
  have hD : ∀ d ∈ r.set 15 (r.getD 15 0 % 65536), 0 ≤ d ∧ d ≤ 65535 := by
    intro d hd
    obtain ⟨j, hj, rfl⟩ := mem_getD hd
    rw [g]
    split
    · omega
    · exact ih.lo j (by simp at hj; omega)
  have hlen : (r.set 15 (r.getD 15 0 % 65536)).length = 16 := by simpa using hr
  have hrange := valI_range _ hD
  rw [hlen] at hrange
  have hv : valI (r.set 15 (r.getD 15 0 % 65536)) = valI l - (r.getD 15 0 / 65536) * 2 ^ 256 := by
    rw [← ih.val]
    have e : r.getD 15 0 * 65536 ^ 15 = r.getD 15 0 % 65536 * 65536 ^ 15 + (r.getD 15 0 / 65536) * 2 ^ 256 := by
      have := Int.mul_ediv_add_emod (r.getD 15 0) 65536
      generalize r.getD 15 0 / 65536 = q at *
      generalize r.getD 15 0 % 65536 = m at *
      omega
    omega
  have hq : r.getD 15 0 / 65536 = valI l / 2 ^ 256 := by omega
  refine ⟨_, hlen, hD, by omega, ?_⟩
  rw [hq, g, if_neg (by omega)]

theorem carryW_val {l : List Int} (hl : l.length = 16) (hb : ∀ x ∈ l, -(2 : Int) ^ 60 ≤ x ∧ x ≤ 2 ^ 60) : valI (carryW l) = valI l % 2 ^ 256 + 38 * (valI l / 2 ^ 256) := by
  obtain ⟨D, h1, _, h3, h4⟩ := carryW_spec hl hb
  have := valI_set D 0 (D.getD 0 0 + 38 * (valI l / 2 ^ 256)) (by omega)
  rw [h4, ← h3]
  omega

/-- Bounds of a value. -/
theorem valI_bound (B : Int) : ∀ (l : List Int), (∀ x ∈ l, -B ≤ x ∧ x ≤ B) → -(B * ((65536 ^ l.length - 1) / 65535)) ≤ valI l ∧ valI l ≤ B * ((65536 ^ l.length - 1) / 65535)
  | [], _ => by simp [valI]
  | a :: l, h => by
    have ih := valI_bound B l fun d hd => h d (List.mem_cons_of_mem _ hd)
    have ha := h a (List.mem_cons_self ..)
    have e : ((65536 : Int) ^ (l.length + 1) - 1) / 65535 = 65536 * ((65536 ^ l.length - 1) / 65535) + 1 := by
      have key : ∀ n : Nat, ∃ q : Int, (65536 : Int) ^ n = 65535 * q + 1 := by
        intro n
        induction n with
        | zero => exact ⟨0, by simp⟩
        | succ n ih => obtain ⟨q, hq⟩ := ih; exact ⟨65536 * q + 1, by rw [Int.pow_succ, hq]; omega⟩
      obtain ⟨q, hq⟩ := key l.length
      rw [Int.pow_succ, hq]
      omega
    simp only [valI, List.length_cons]
    rw [e]
    generalize ((65536 : Int) ^ l.length - 1) / 65535 = q at *
    rw [Int.mul_add, ← Int.mul_assoc, Int.mul_comm B 65536, Int.mul_assoc]
    omega

/-- Parts as they come out of a carry. -/
structure Elem (l : List Int) : Prop where
  len : l.length = 16
  le : ∀ x ∈ l, -70000 ≤ x ∧ x ≤ 70000

noncomputable def fval (l : List Int) : Nat := (valI l % (P25 : Int)).toNat

theorem carry_elem {l : List Int} (hl : l.length = 16) (hb : ∀ x ∈ l, -(2 : Int) ^ 60 ≤ x ∧ x ≤ 2 ^ 60) (hq : -100 ≤ valI l / 2 ^ 256 ∧ valI l / 2 ^ 256 ≤ 100) : Elem (carryW l) := by
  obtain ⟨D, h1, h2, _, h4⟩ := carryW_spec hl hb
  refine ⟨by rw [h4]; simpa using h1, fun x hx => ?_⟩
  rw [h4] at hx
  obtain ⟨j, hj, rfl⟩ := mem_getD hx
  have hd := fun j => getD_all (p := fun x => 0 ≤ x ∧ x ≤ 65535) h2 (by decide) j
  rw [getD_setI _ _ _ _ (by omega)]
  have h0 := hd 0
  have hj := hd j
  split <;> omega

theorem carry_mod {l : List Int} (hl : l.length = 16) (hb : ∀ x ∈ l, -(2 : Int) ^ 60 ≤ x ∧ x ≤ 2 ^ 60) : valI (carryW l) % (P25 : Int) = valI l % (P25 : Int) := by
  rw [carryW_val hl hb]
  have : valI l = valI l % 2 ^ 256 + 2 ^ 256 * (valI l / 2 ^ 256) := by omega
  generalize valI l / 2 ^ 256 = q at *
  generalize valI l % 2 ^ 256 = m at *
  rw [this]
  simp only [P25]
  omega

end Go.Bx

/-
  fe: the values of sums and products.
-/
namespace Go.Bx

theorem fval_eq (l : List Int) : (fval l : Int) = valI l % (P25 : Int) := by
  have : 0 ≤ valI l % (P25 : Int) := Int.emod_nonneg _ (by decide)
  simp only [fval]
  omega

theorem fval_lt (l : List Int) : fval l < P25 := by
  have := fval_eq l
  have h2 : valI l % (P25 : Int) < (P25 : Int) := Int.emod_lt_of_pos _ (by decide)
  omega

theorem fval_congr {l r : List Int} (h : valI l % (P25 : Int) = valI r % (P25 : Int)) : fval l = fval r := by simp only [fval, h]

/-- Each part by itself. -/
theorem iter_set_get (g : Nat → Int → Int) (l : List Int) : ∀ k, k ≤ l.length → (iter (fun i l => l.set i (g i (l.getD i 0))) k l).length = l.length ∧ ∀ j, (iter (fun i l => l.set i (g i (l.getD i 0))) k l).getD j 0 = if j < k then g j (l.getD j 0) else l.getD j 0
  | 0, _ => ⟨rfl, fun j => by simp [iter]⟩
  | k + 1, hk => by
    obtain ⟨h1, h2⟩ := iter_set_get g l k (by omega)
    have hs : iter (fun i l => l.set i (g i (l.getD i 0))) (k + 1) l = (fun i (l : List Int) => l.set i (g i (l.getD i 0))) k (iter (fun i l => l.set i (g i (l.getD i 0))) k l) := rfl
    rw [hs]
    generalize iter (fun i l => l.set i (g i (l.getD i 0))) k l = r at *
    refine ⟨by simpa using h1, fun j => ?_⟩
    show (r.set k (g k (r.getD k 0))).getD j 0 = _
    rw [getD_setI _ _ _ _ (by omega), h2 k, if_neg (by omega : ¬ k < k), h2 j]
    by_cases e : k = j
    · subst e; rw [if_pos rfl, if_pos (by omega)]
    · rw [if_neg e]
      by_cases e' : j < k
      · rw [if_pos e', if_pos (by omega)]
      · rw [if_neg e', if_neg (by omega)]

theorem valI_lin (s : Int) : ∀ (r a b : List Int), r.length = a.length → a.length = b.length → (∀ j, r.getD j 0 = a.getD j 0 + s * b.getD j 0) → valI r = valI a + s * valI b
  | [], [], [], _, _, _ => by simp [valI]
  | x :: r, y :: a, z :: b, h1, h2, h => by
    have ih := valI_lin s r a b (by simpa using h1) (by simpa using h2) fun j => by simpa using h (j + 1)
    have h0 := h 0
    simp only [List.getD_cons_zero] at h0
    simp only [valI]
    rw [ih, h0, Int.mul_add s, Int.mul_left_comm s]
    omega
  | [], _ :: _, _, h, _, _ => by simp at h
  | _ :: _, [], _, h, _, _ => by simp at h
  | _, [], _ :: _, _, h, _ => by simp at h
  | _, _ :: _, [], _, h, _ => by simp at h

theorem getD_mem {l : List Int} {p : Int → Prop} (h : ∀ j, j < l.length → p (l.getD j 0)) : ∀ x ∈ l, p x := fun x hx => by
  obtain ⟨j, hj, rfl⟩ := mem_getD hx
  exact h j hj

theorem Elem.get {l : List Int} (h : Elem l) (j : Nat) : -70000 ≤ l.getD j 0 ∧ l.getD j 0 ≤ 70000 := getD_all (p := fun x => -70000 ≤ x ∧ x ≤ 70000) h.le (by decide) j

theorem getD_out {l : List Int} {j : Nat} (h : l.length ≤ j) : l.getD j 0 = 0 := by
  rw [List.getD_eq_getElem?_getD, List.getElem?_eq_none h]; rfl

/-- A sum or difference of two. -/
theorem lin_ok {xs ys r : List Int} {s : Int} (hs : s = 1 ∨ s = -1) (hx : Elem xs) (hy : Elem ys) (hr : r.length = 16) (h : ∀ j, j < 16 → r.getD j 0 = xs.getD j 0 + s * ys.getD j 0) :
    Elem (carryW r) ∧ (fval (carryW r) : Int) = (valI xs + s * valI ys) % (P25 : Int) := by
  have hb : ∀ x ∈ r, -140000 ≤ x ∧ x ≤ 140000 := getD_mem fun j hj => by
    rw [h j (by omega)]
    have h1 := hx.get j
    have h2 := hy.get j
    rcases hs with rfl | rfl <;> omega
  have hv : valI r = valI xs + s * valI ys := by
    refine valI_lin s r xs ys (by rw [hr, hx.len]) (by rw [hx.len, hy.len]) fun j => ?_
    rcases Nat.lt_or_ge j 16 with hj | hj
    · exact h j hj
    · rw [getD_out (by omega), getD_out (by rw [hx.len]; omega), getD_out (by rw [hy.len]; omega)]; omega
  have hbb := valI_bound 140000 r hb
  rw [hr] at hbb
  have hbig : ∀ x ∈ r, -(2 : Int) ^ 60 ≤ x ∧ x ≤ 2 ^ 60 := fun x hx => by have := hb x hx; omega
  refine ⟨carry_elem hr hbig (by omega), ?_⟩
  rw [fval_eq, carry_mod hr hbig, hv]

theorem addW_form {xs ys : List Int} (h : 16 ≤ xs.length) : ∃ r, addW xs ys = carryW r ∧ r.length = xs.length ∧ ∀ j, r.getD j 0 = if j < 16 then w64 (xs.getD j 0 + ys.getD j 0) else xs.getD j 0 :=
  ⟨_, rfl, (iter_set_get (fun i x => w64 (x + ys.getD i 0)) xs 16 h).1, (iter_set_get (fun i x => w64 (x + ys.getD i 0)) xs 16 h).2⟩
theorem subW_form {xs ys : List Int} (h : 16 ≤ xs.length) : ∃ r, subW xs ys = carryW r ∧ r.length = xs.length ∧ ∀ j, r.getD j 0 = if j < 16 then w64 (xs.getD j 0 - ys.getD j 0) else xs.getD j 0 :=
  ⟨_, rfl, (iter_set_get (fun i x => w64 (x - ys.getD i 0)) xs 16 h).1, (iter_set_get (fun i x => w64 (x - ys.getD i 0)) xs 16 h).2⟩

theorem nat_of_int {a b : Nat} (h : (a : Int) = (b : Int)) : a = b := Int.ofNat_inj.1 h

theorem addW_ok {xs ys : List Int} (hx : Elem xs) (hy : Elem ys) : Elem (addW xs ys) ∧ fval (addW xs ys) = (fval xs + fval ys) % P25 := by
  obtain ⟨r, e, hr, hg⟩ := addW_form (xs := xs) (ys := ys) (by rw [hx.len]; exact Nat.le_refl 16)
  obtain ⟨h1, h2⟩ := lin_ok (s := 1) (.inl rfl) hx hy (hr.trans hx.len) fun j hj => by
    rw [hg j, if_pos hj]
    have := hx.get j
    have := hy.get j
    rw [w64_id (by omega) (by omega)]; omega
  rw [e]
  refine ⟨h1, nat_of_int ?_⟩
  have h3 := fval_eq xs
  have h4 := fval_eq ys
  have h5 := Int.natCast_emod (fval xs + fval ys) P25
  rw [Int.natCast_add] at h5
  generalize (P25 : Int) = p at *
  rw [h2, h5, h3, h4, ← Int.add_emod, Int.one_mul]

theorem sub_mod {p a b r : Nat} {x y : Int} (ha : (a : Int) = x % (p : Int)) (hb : (b : Int) = y % (p : Int)) (hl : b < p) (hr : (r : Int) = (x + -1 * y) % (p : Int)) : r = (a + (p - b)) % p := by
  refine nat_of_int ?_
  rw [hr, Int.natCast_emod, Int.natCast_add, Int.ofNat_sub (Nat.le_of_lt hl), ha, hb]
  rw [show x % (p : Int) + ((p : Int) - y % (p : Int)) = (x % (p : Int) - y % (p : Int)) + (p : Int) by omega, Int.add_emod_right, ← Int.sub_emod]
  congr 1; omega

theorem subW_ok {xs ys : List Int} (hx : Elem xs) (hy : Elem ys) : Elem (subW xs ys) ∧ fval (subW xs ys) = (fval xs + (P25 - fval ys)) % P25 := by
  obtain ⟨r, e, hr, hg⟩ := subW_form (xs := xs) (ys := ys) (by rw [hx.len]; exact Nat.le_refl 16)
  obtain ⟨h1, h2⟩ := lin_ok (s := -1) (.inr rfl) hx hy (hr.trans hx.len) fun j hj => by
    rw [hg j, if_pos hj]
    have := hx.get j
    have := hy.get j
    rw [w64_id (by omega) (by omega)]; omega
  rw [e]
  exact ⟨h1, sub_mod (fval_eq xs) (fval_eq ys) (fval_lt ys) h2⟩

theorem zI_elem : Elem (zI 16) := ⟨rfl, fun x hx => by simp [zI, List.replicate] at hx; omega⟩
theorem zI_val : fval (zI 16) = 0 := by decide

theorem negW_ok {xs : List Int} (hx : Elem xs) : Elem (negW xs) ∧ fval (negW xs) = (P25 - fval xs) % P25 := by
  have h := subW_ok zI_elem hx
  rw [zI_val, Nat.zero_add] at h
  exact h

theorem small1_ok (n : Int) : Elem (small1 n) ∧ fval (small1 n) = if 0 ≤ n ∧ n < 65536 then n.toNat else 0 := by
  unfold small1
  by_cases h1 : 0 ≤ n
  · by_cases h2 : n < 65536
    · rw [decide_eq_true h1, decide_eq_true h2]
      simp only [cond_true]
      rw [if_pos ⟨h1, h2⟩]
      refine ⟨⟨rfl, fun x hx => ?_⟩, ?_⟩
      · simp [zI, List.replicate] at hx; omega
      · have : valI ((zI 16).set 0 n) = n := by simp [zI, List.replicate, valI]
        rw [fval, this, Int.emod_eq_of_lt h1 (by simp only [P25]; omega)]
    · rw [decide_eq_true h1, decide_eq_false h2]
      simp only [cond_true, cond_false]
      rw [if_neg (fun h => h2 h.2)]
      exact ⟨zI_elem, zI_val⟩
  · rw [decide_eq_false h1]
    simp only [cond_false]
    rw [if_neg (fun h => h1 h.1)]
    exact ⟨zI_elem, zI_val⟩

theorem valI_take : ∀ (l : List Int) (i : Nat), valI (l.take (i + 1)) = valI (l.take i) + l.getD i 0 * 65536 ^ i
  | [], i => by simp [valI]
  | a :: l, 0 => by simp [valI]
  | a :: l, i + 1 => by
    have ih := valI_take l i
    simp only [List.take_succ_cons, valI, List.getD_cons_succ, Int.pow_succ] at ih ⊢
    rw [ih]
    have e1 : l.getD i 0 * (65536 ^ i * 65536) = 65536 * (l.getD i 0 * 65536 ^ i) := by rw [← Int.mul_assoc, Int.mul_comm]
    rw [e1]; omega

theorem prod_le {x y : Int} (hx : -70000 ≤ x ∧ x ≤ 70000) (hy : -70000 ≤ y ∧ y ≤ 70000) : -4900000000 ≤ x * y ∧ x * y ≤ 4900000000 := by
  have h1 : x.natAbs ≤ 70000 := by omega
  have h2 : y.natAbs ≤ 70000 := by omega
  have h3 := Nat.mul_le_mul h1 h2
  rw [← Int.natAbs_mul] at h3
  omega

noncomputable def mulIn (x : Int) (ys : List Int) (i j : Nat) (t : List Int) : List Int := iter (fun j t => t.set (i + j) (w64 (t.getD (i + j) 0 + w64 (x * ys.getD j 0)))) j t

/-- One row of products. -/
theorem mulIn_ok {x : Int} {ys t : List Int} {i : Nat} {B : Int} (hx : -70000 ≤ x ∧ x ≤ 70000) (hy : ∀ j, -70000 ≤ ys.getD j 0 ∧ ys.getD j 0 ≤ 70000) (ht : t.length = 31) (hi : i < 16) (hB : 0 ≤ B ∧ B ≤ 2 ^ 60) (hb : ∀ k, -B ≤ t.getD k 0 ∧ t.getD k 0 ≤ B) :
    ∀ j, j ≤ 16 → (mulIn x ys i j t).length = 31 ∧ (∀ k, i + j ≤ k → (mulIn x ys i j t).getD k 0 = t.getD k 0) ∧ (∀ k, -(B + 4900000000) ≤ (mulIn x ys i j t).getD k 0 ∧ (mulIn x ys i j t).getD k 0 ≤ B + 4900000000) ∧ valI (mulIn x ys i j t) = valI t + 65536 ^ i * (x * valI (ys.take j))
  | 0, _ => ⟨ht, fun _ _ => rfl, fun k => by have := hb k; simp only [mulIn, iter]; omega, by simp [mulIn, iter, valI]⟩
  | j + 1, hj => by
    obtain ⟨h1, h2, h3, h4⟩ := mulIn_ok hx hy ht hi hB hb j (by omega)
    have hs : mulIn x ys i (j + 1) t = (mulIn x ys i j t).set (i + j) (w64 ((mulIn x ys i j t).getD (i + j) 0 + w64 (x * ys.getD j 0))) := rfl
    rw [hs]
    generalize mulIn x ys i j t = r at *
    have hp := prod_le hx (hy j)
    have hg := h2 (i + j) (Nat.le_refl _)
    have hbk := hb (i + j)
    rw [w64_id (z := x * ys.getD j 0) (by omega) (by omega), w64_id (by omega) (by omega)]
    have hlen : i + j < r.length := by omega
    refine ⟨by simpa using h1, fun k hk => ?_, fun k => ?_, ?_⟩
    · rw [getD_setI _ _ _ _ hlen, if_neg (by omega)]
      exact h2 k (by omega)
    · rw [getD_setI _ _ _ _ hlen]
      split
      · omega
      · exact h3 k
    · have := valI_set r (i + j) (r.getD (i + j) 0 + x * ys.getD j 0) hlen
      rw [valI_take, Int.mul_add, Int.mul_add]
      rw [Int.add_mul] at this
      have e : x * ys.getD j 0 * 65536 ^ (i + j) = 65536 ^ i * (x * (ys.getD j 0 * 65536 ^ j)) := by
        rw [Int.pow_add, ← Int.mul_assoc x, Int.mul_left_comm]
      rw [e] at this
      omega

theorem mulT_ok {xs ys : List Int} (hx : Elem xs) (hy : Elem ys) : (mulT xs ys).length = 31 ∧ (∀ k, -78400000000 ≤ (mulT xs ys).getD k 0 ∧ (mulT xs ys).getD k 0 ≤ 78400000000) ∧ valI (mulT xs ys) = valI xs * valI ys := by
  have key : ∀ i, i ≤ 16 → ∀ r, r = iter (fun i t => mulIn (xs.getD i 0) ys i 16 t) i (zI 31) → r.length = 31 ∧ (∀ k, -((i : Int) * 4900000000) ≤ r.getD k 0 ∧ r.getD k 0 ≤ (i : Int) * 4900000000) ∧ valI r = valI (xs.take i) * valI ys := by
    intro i
    induction i with
    | zero =>
      intro _ r hr
      subst hr
      refine ⟨rfl, fun k => ?_, ?_⟩
      · have := getD_all (l := zI 31) (p := fun x => x = 0) (fun x hx => by simp [zI, List.replicate] at hx; exact hx) rfl k
        simp only [iter]
        rw [this]; omega
      · simp only [iter, List.take_zero, valI, Int.zero_mul]; decide
    | succ i ih =>
      intro hi r hr
      obtain ⟨h1, h2, h3⟩ := ih (by omega) _ rfl
      have hs : iter (fun i t => mulIn (xs.getD i 0) ys i 16 t) (i + 1) (zI 31) = mulIn (xs.getD i 0) ys i 16 (iter (fun i t => mulIn (xs.getD i 0) ys i 16 t) i (zI 31)) := rfl
      rw [hs] at hr
      generalize iter (fun i t => mulIn (xs.getD i 0) ys i 16 t) i (zI 31) = t at *
      obtain ⟨g1, _, g3, g4⟩ := mulIn_ok (hx.get i) hy.get h1 (i := i) (by omega) (B := (i : Int) * 4900000000) (by omega) h2 16 (Nat.le_refl _)
      subst hr
      refine ⟨g1, fun k => ?_, ?_⟩
      · have := g3 k; omega
      · rw [g4, h3, List.take_of_length_le (l := ys) (i := 16) (by rw [hy.len]; exact Nat.le_refl 16), valI_take, Int.add_mul, Int.mul_comm (xs.getD i 0) (65536 ^ i), Int.mul_assoc]
  obtain ⟨h1, h2, h3⟩ := key 16 (Nat.le_refl _) _ rfl
  rw [List.take_of_length_le (l := xs) (i := 16) (by rw [hx.len]; exact Nat.le_refl 16)] at h3
  exact ⟨h1, h2, h3⟩

theorem valI_append : ∀ (a b : List Int), valI (a ++ b) = valI a + 65536 ^ a.length * valI b
  | [], b => by simp [valI]
  | x :: a, b => by
    simp only [List.cons_append, valI, valI_append a b, List.length_cons, Int.pow_succ]
    rw [Int.mul_add, ← Int.mul_assoc, Int.mul_comm 65536 (65536 ^ a.length)]
    omega

theorem mulFold_ok {t : List Int} (ht : t.length = 31) (hb : ∀ k, -78400000000 ≤ t.getD k 0 ∧ t.getD k 0 ≤ 78400000000) : (mulFold t).length = 16 ∧ (∀ x ∈ mulFold t, -3057600000000 ≤ x ∧ x ≤ 3057600000000) ∧ valI (mulFold t) % (P25 : Int) = valI t % (P25 : Int) := by
  have e0 : ((List.replicate 16 0).take 0).map Int.ofNat ++ t.take 16 ++ ((List.replicate 16 0).drop (0 + 16)).map Int.ofNat = t.take 16 := by simp
  have e : mulFold t = iter (fun i o => o.set i (w64 (o.getD i 0 + w64 (38 * t.getD (16 + i) 0)))) 15 (t.take 16) := by
    unfold mulFold; rw [e0]
  have hl : (t.take 16).length = 16 := by simp [ht]
  obtain ⟨h1, h2⟩ : (mulFold t).length = (t.take 16).length ∧ ∀ j, (mulFold t).getD j 0 = if j < 15 then w64 ((t.take 16).getD j 0 + w64 (38 * t.getD (16 + j) 0)) else (t.take 16).getD j 0 := by
    rw [e]
    exact iter_set_get (fun i x => w64 (x + w64 (38 * t.getD (16 + i) 0))) (t.take 16) 15 (by omega)
  generalize mulFold t = m at *
  have hg : ∀ j, j < 16 → (t.take 16).getD j 0 = t.getD j 0 := fun j hj => by
    simp only [List.getD_eq_getElem?_getD]
    rw [List.getElem?_take_of_lt hj]
  have hr : ∀ j, j < 16 → m.getD j 0 = (t.take 16).getD j 0 + 38 * (t.drop 16 ++ [0]).getD j 0 := by
    intro j hj
    have b1 := hb j
    have b2 := hb (16 + j)
    rw [h2 j, hg j hj]
    split
    · rename_i h15
      have ez : (t.drop 16 ++ [0]).getD j 0 = t.getD (16 + j) 0 := by
        simp only [List.getD_eq_getElem?_getD]
        rw [List.getElem?_append_left (by simp [ht]; omega), List.getElem?_drop]
      rw [w64_id (z := 38 * t.getD (16 + j) 0) (by omega) (by omega), w64_id (by omega) (by omega), ez]
    · have : j = 15 := by omega
      subst this
      have : (t.drop 16 ++ [0]).getD 15 0 = 0 := by
        simp only [List.getD_eq_getElem?_getD]
        rw [List.getElem?_append_right (by simp [ht])]
        simp [ht]
      rw [this]; omega
  have hlen : m.length = 16 := by rw [h1, hl]
  refine ⟨hlen, getD_mem fun j hj => ?_, ?_⟩
  · rw [h2 j, hg j (by omega)]
    have b1 := hb j
    have b2 := hb (16 + j)
    split
    · rw [w64_id (z := 38 * t.getD (16 + j) 0) (by omega) (by omega), w64_id (by omega) (by omega)]; omega
    · omega
  · have hv := valI_lin 38 m (t.take 16) (t.drop 16 ++ [0]) (by rw [hlen, hl]) (by rw [hl]; simp [ht]) fun j => by
      rcases Nat.lt_or_ge j 16 with hj | hj
      · exact hr j hj
      · rw [getD_out (by omega), getD_out (by omega), getD_out (by simp [ht]; omega)]; omega
    have ht2 : valI t = valI (t.take 16) + 65536 ^ 16 * valI (t.drop 16) := by
      have := valI_append (t.take 16) (t.drop 16)
      rw [List.take_append_drop, hl] at this
      exact this
    have h0 : valI (t.drop 16 ++ [0]) = valI (t.drop 16) := by rw [valI_append]; simp [valI]
    rw [hv, ht2, h0]
    simp only [P25]
    omega

theorem mulW_ok {xs ys : List Int} (hx : Elem xs) (hy : Elem ys) : Elem (mulW xs ys) ∧ fval (mulW xs ys) = fval xs * fval ys % P25 := by
  obtain ⟨t1, t2, t3⟩ := mulT_ok hx hy
  obtain ⟨f1, f2, f3⟩ := mulFold_ok t1 t2
  have e : mulW xs ys = carryW (carryW (mulFold (mulT xs ys))) := rfl
  generalize mulFold (mulT xs ys) = r at *
  have hbig : ∀ x ∈ r, -(2 : Int) ^ 60 ≤ x ∧ x ≤ 2 ^ 60 := fun x hx => by have := f2 x hx; omega
  have hbb := valI_bound 3057600000000 r f2
  rw [f1] at hbb
  obtain ⟨D, d1, d2, d3, d4⟩ := carryW_spec f1 hbig
  have hd := fun j => getD_all (p := fun x => 0 ≤ x ∧ x ≤ 65535) d2 (by decide) j
  have c1 : (carryW r).length = 16 := by rw [d4]; simpa using d1
  have c2 : ∀ x ∈ carryW r, -(2 : Int) ^ 60 ≤ x ∧ x ≤ 2 ^ 60 := getD_mem fun j hj => by
    rw [d4, getD_setI _ _ _ _ (by omega)]
    have h0 := hd 0
    have hj := hd j
    split <;> omega
  have cv := carryW_val f1 hbig
  have q : -100 ≤ valI (carryW r) / 2 ^ 256 ∧ valI (carryW r) / 2 ^ 256 ≤ 100 := by
    rw [cv]; omega
  rw [e]
  refine ⟨carry_elem c1 c2 q, nat_of_int ?_⟩
  rw [fval_eq, carry_mod c1 c2, carry_mod f1 hbig, f3, t3, Int.natCast_emod, Int.natCast_mul, fval_eq, fval_eq, ← Int.mul_emod]

end Go.Bx

/-
  fe: the digits and the bytes of a value.
-/
namespace Go.Bx

noncomputable def digN (n : Nat) : List Nat := (List.range 16).map fun i => n / 65536 ^ i % 65536

theorem valL_getD : ∀ (l : List Nat), (∀ d ∈ l, d ≤ 65535) → ∀ i, valL l / 65536 ^ i % 65536 = l.getD i 0
  | [], _, i => by simp [valL]
  | a :: l, h, 0 => by
    have := h a (List.mem_cons_self ..)
    simp [valL]; omega
  | a :: l, h, i + 1 => by
    have ih := valL_getD l (fun d hd => h d (List.mem_cons_of_mem _ hd)) i
    have ha := h a (List.mem_cons_self ..)
    have e : (a + 65536 * valL l) / 65536 = valL l := by omega
    rw [Nat.pow_succ, Nat.mul_comm, ← Nat.div_div_eq_div_mul]
    simp only [valL, e, ih, List.getD_cons_succ]

theorem digN_len (n : Nat) : (digN n).length = 16 := by simp [digN]
theorem digN_le (n : Nat) : ∀ d ∈ digN n, d ≤ 65535 := fun d h => by
  obtain ⟨i, _, rfl⟩ := List.mem_map.1 h
  have := Nat.mod_lt (n / 65536 ^ i) (show 0 < 65536 by decide)
  omega
theorem digN_get {n i : Nat} (h : i < 16) : (digN n).getD i 0 = n / 65536 ^ i % 65536 := by
  simp only [digN, List.getD_eq_getElem?_getD, List.getElem?_map, List.getElem?_range h]; rfl

theorem ext_getD {α : Type} {d : α} {l r : List α} (h : l.length = r.length) (h' : ∀ j, j < l.length → l.getD j d = r.getD j d) : l = r := by
  apply List.ext_getElem h
  intro j h1 h2
  have := h' j h1
  simp only [List.getD_eq_getElem?_getD, List.getElem?_eq_getElem h1, List.getElem?_eq_getElem h2] at this
  exact this

theorem digN_valL {l : List Nat} (hl : l.length = 16) (h : ∀ d ∈ l, d ≤ 65535) : digN (valL l) = l := by
  refine ext_getD (d := 0) (by rw [digN_len, hl]) fun j hj => ?_
  rw [digN_len] at hj
  rw [digN_get hj, valL_getD l h]

theorem valL_digN_go (n : Nat) : ∀ k, valL ((List.range k).map fun i => n / 65536 ^ i % 65536) = n % 65536 ^ k
  | 0 => by simp [valL, Nat.mod_one]
  | k + 1 => by
    rw [List.range_succ, List.map_append, valL_append, valL_digN_go n k]
    simp only [List.map_cons, List.map_nil, valL, List.length_map, List.length_range]
    rw [Nat.pow_succ, Nat.mod_mul]
    simp only [Nat.mul_zero, Nat.add_zero]

theorem valL_digN {n : Nat} (h : n < 65536 ^ 16) : valL (digN n) = n := by
  rw [digN, valL_digN_go, Nat.mod_eq_of_lt h]

/-- Digits, as integers. -/
noncomputable def digI (n : Nat) : List Int := (digN n).map Int.ofNat

theorem valI_ofNat : ∀ l : List Nat, valI (l.map Int.ofNat) = (valL l : Int)
  | [] => rfl
  | a :: l => by
    simp only [List.map_cons, valI, valL, valI_ofNat l]
    simp

theorem digI_of {D : List Int} (hl : D.length = 16) (h : ∀ d ∈ D, 0 ≤ d ∧ d ≤ 65535) : D = digI (valI D).toNat := by
  have e : D = (D.map Int.toNat).map Int.ofNat := by
    rw [List.map_map]
    conv => lhs; rw [← List.map_id D]
    refine List.map_congr_left fun d hd => ?_
    have := h d hd
    simp only [Function.comp, id]
    show d = ((d.toNat : Nat) : Int)
    omega
  have hv : valI D = (valL (D.map Int.toNat) : Int) := by
    conv => lhs; rw [e]
    exact valI_ofNat _
  rw [digI, hv, Int.toNat_natCast, digN_valL (by simpa using hl) fun d hd => ?_]
  · exact e
  · obtain ⟨z, hz, rfl⟩ := List.mem_map.1 hd
    have := h z hz
    omega

theorem digI_len (n : Nat) : (digI n).length = 16 := by simp [digI, digN_len]
theorem digI_get (n j : Nat) : (digI n).getD j 0 = (((digN n).getD j 0 : Nat) : Int) := by
  simp only [digI, List.getD_eq_getElem?_getD, List.getElem?_map]
  cases (digN n)[j]? <;> rfl
theorem digI_le (n : Nat) : ∀ d ∈ digI n, 0 ≤ d ∧ d ≤ 65535 := fun d h => by
  obtain ⟨i, hi, rfl⟩ := List.mem_map.1 h
  have := digN_le n i hi
  show 0 ≤ ((i : Nat) : Int) ∧ ((i : Nat) : Int) ≤ 65535
  omega
theorem digI_val {n : Nat} (h : n < 65536 ^ 16) : valI (digI n) = (n : Int) := by rw [digI, valI_ofNat, valL_digN h]

/-- Three carries: the digits of a number. -/
theorem red3 {xs : List Int} (hx : Elem xs) : ∃ n, n < 65536 ^ 16 ∧ n % P25 = fval xs ∧ carryW (carryW (carryW xs)) = digI n := by
  have b0 : ∀ x ∈ xs, -(2 : Int) ^ 60 ≤ x ∧ x ≤ 2 ^ 60 := fun x h => by have := hx.le x h; omega
  have hbb := valI_bound 70000 xs hx.le
  rw [hx.len] at hbb
  have e1 := carry_elem hx.len b0 (by omega)
  have v1 := carryW_val hx.len b0
  have m1 := carry_mod hx.len b0
  generalize carryW xs = ys at *
  have b1 : ∀ x ∈ ys, -(2 : Int) ^ 60 ≤ x ∧ x ≤ 2 ^ 60 := fun x h => by have := e1.le x h; omega
  have e2 := carry_elem e1.len b1 (by omega)
  have v2 := carryW_val e1.len b1
  have m2 := carry_mod e1.len b1
  generalize carryW ys = zs at *
  have b2 : ∀ x ∈ zs, -(2 : Int) ^ 60 ≤ x ∧ x ≤ 2 ^ 60 := fun x h => by have := e2.le x h; omega
  have hz : 0 ≤ valI zs ∧ valI zs < 2 ^ 256 := by omega
  obtain ⟨D, d1, d2, d3, d4⟩ := carryW_spec e2.len b2
  have hq : valI zs / 2 ^ 256 = 0 := by omega
  have hm : valI zs % 2 ^ 256 = valI zs := by omega
  refine ⟨(valI zs).toNat, by omega, ?_, ?_⟩
  · have : (((valI zs).toNat % P25 : Nat) : Int) = (fval xs : Int) := by
      rw [Int.natCast_emod, Int.toNat_of_nonneg hz.1, fval_eq, m2, m1]
    exact_mod_cast this
  · rw [d4, hq, ← hm, ← d3, ← digI_of d1 d2]
    refine ext_getD (d := 0) (by simp) fun j hj => ?_
    rw [getD_setI _ _ _ _ (by omega)]
    split
    · rename_i e; subst e; omega
    · rfl

theorem and64_low (a : Int) : and64 a 65535 = a % 65536 := by
  have h : (BitVec.ofInt IntKind.i64.bits a &&& BitVec.ofInt IntKind.i64.bits 65535).toNat = (a % 2 ^ 64).toNat % 65536 := by
    rw [BitVec.toNat_and, BitVec.toNat_ofInt, BitVec.toNat_ofInt]
    exact Nat.and_two_pow_sub_one_eq_mod _ 16
  unfold and64
  rw [h, wrap_nat (by simp [kmax]; omega)]
  omega

theorem and64_one (a : Int) : and64 a 1 = a % 2 := by
  have h : (BitVec.ofInt IntKind.i64.bits a &&& BitVec.ofInt IntKind.i64.bits 1).toNat = (a % 2 ^ 64).toNat % 2 := by
    rw [BitVec.toNat_and, BitVec.toNat_ofInt, BitVec.toNat_ofInt]
    exact Nat.and_two_pow_sub_one_eq_mod _ 1
  unfold and64
  rw [h, wrap_nat (by simp [kmax]; omega)]
  omega

theorem w64_mod (z : Int) : w64 z % 2 ^ 64 = z % 2 ^ 64 := by
  have key : ∀ c : Bool, (if c = true then z % 2 ^ 64 - 2 ^ 64 else z % 2 ^ 64) % 2 ^ 64 = z % 2 ^ 64 := by
    intro c
    cases c
    · rw [if_neg (by decide)]; omega
    · rw [if_pos rfl]; omega
  exact key _

theorem ofInt_w64 (v : BitVec 64) : BitVec.ofInt 64 (w64 (v.toNat : Int)) = v := by
  apply BitVec.eq_of_toNat_eq
  rw [BitVec.toNat_ofInt]
  have h := w64_mod (v.toNat : Int)
  have h2 := v.isLt
  show (w64 (v.toNat : Int) % ((2 ^ 64 : Nat) : Int)).toNat = v.toNat
  have e : ((2 ^ 64 : Nat) : Int) = 2 ^ 64 := rfl
  rw [e, h]
  omega

theorem w64_ofInt {z : Int} (h : -9223372036854775808 ≤ z) (h' : z ≤ 9223372036854775807) : w64 ((BitVec.ofInt 64 z).toNat : Int) = z := by
  rw [BitVec.toNat_ofInt]
  show w64 ((z % ((2 ^ 64 : Nat) : Int)).toNat : Int) = z
  have e : ((2 ^ 64 : Nat) : Int) = 2 ^ 64 := rfl
  rw [e]
  have key : w64 (z % 2 ^ 64) = w64 z := by
    have h : z % 2 ^ 64 % 2 ^ 64 = z % 2 ^ 64 := Int.emod_emod_of_dvd _ (Int.dvd_refl _)
    exact congrArg (fun m : Int => if (true && decide (m ≥ 2 ^ (64 - 1))) = true then m - 2 ^ 64 else m) h
  rw [Int.toNat_of_nonneg (by omega), key]
  exact w64_id h h'

theorem choose_part {x y : Int} {b : Bool} (hx : -9223372036854775808 ≤ x ∧ x ≤ 9223372036854775807) (hy : -9223372036854775808 ≤ y ∧ y ≤ 9223372036854775807) :
    xor64 x (and64 (w64 (0 - ((cond b 1 0 : Nat) : Int))) (xor64 x y)) = cond b y x := by
  have hxor : ∀ a b : Int, xor64 a b = w64 ((BitVec.ofInt 64 a ^^^ BitVec.ofInt 64 b).toNat : Int) := fun _ _ => rfl
  have hand : ∀ a b : Int, and64 a b = w64 ((BitVec.ofInt 64 a &&& BitVec.ofInt 64 b).toNat : Int) := fun _ _ => rfl
  rw [hxor x y, hand, ofInt_w64, hxor, ofInt_w64]
  cases b
  · have e : BitVec.ofInt 64 (w64 (0 - ((cond false 1 0 : Nat) : Int))) = 0#64 := by decide
    rw [e, BitVec.zero_and, BitVec.xor_zero]
    exact w64_ofInt hx.1 hx.2
  · have e : BitVec.ofInt 64 (w64 (0 - ((cond true 1 0 : Nat) : Int))) = BitVec.allOnes 64 := by decide
    rw [e, BitVec.allOnes_and, ← BitVec.xor_assoc, BitVec.xor_self, BitVec.zero_xor]
    exact w64_ofInt hy.1 hy.2

theorem chooseW_ok {xs ys : List Int} {b : Bool} (hl : xs.length = 16) (hl' : ys.length = 16) (hx : ∀ x ∈ xs, -9223372036854775808 ≤ x ∧ x ≤ 9223372036854775807) (hy : ∀ y ∈ ys, -9223372036854775808 ≤ y ∧ y ≤ 9223372036854775807) :
    chooseW xs ys ((cond b 1 0 : Nat) : Int) = cond b ys xs := by
  obtain ⟨h1, h2⟩ := iter_set_get (fun i x => xor64 x (and64 (w64 (0 - ((cond b 1 0 : Nat) : Int))) (xor64 x (ys.getD i 0)))) xs 16 (by omega)
  refine ext_getD (d := 0) ?_ fun j hj => ?_
  · exact h1.trans (by cases b <;> simp [hl, hl'])
  · have hj' : j < 16 := by have : j < (iter (fun i l => l.set i (xor64 (l.getD i 0) (and64 (w64 (0 - ((cond b 1 0 : Nat) : Int))) (xor64 (l.getD i 0) (ys.getD i 0))))) 16 xs).length := hj; omega
    have h3 := h2 j
    rw [if_pos hj', choose_part (getD_all (p := fun x => -9223372036854775808 ≤ x ∧ x ≤ 9223372036854775807) hx (by decide) j) (getD_all (p := fun x => -9223372036854775808 ≤ x ∧ x ≤ 9223372036854775807) hy (by decide) j)] at h3
    refine Eq.trans h3 ?_
    cases b <;> rfl

def pI : List Int := [65517, 65535, 65535, 65535, 65535, 65535, 65535, 65535, 65535, 65535, 65535, 65535, 65535, 65535, 65535, 32767]

theorem lessPart_eq : ∀ i, i < 16 → lessPart i = pI.getD i 0 ∧ 0 ≤ lessPart i ∧ lessPart i ≤ 65535 := by decide

structure LessInv (l : List Int) (k : Nat) (p : List Int × Int) : Prop where
  len : p.1.length = 16
  bit : p.2 = 0 ∨ p.2 = 1
  lo : ∀ j, j < k → 0 ≤ p.1.getD j 0 ∧ p.1.getD j 0 ≤ 65535
  hi : ∀ j, k ≤ j → p.1.getD j 0 = l.getD j 0
  val : valI p.1 - p.2 * 65536 ^ k = valI l - valI (pI.take k)

theorem less_inv {l : List Int} (hl : l.length = 16) (hd : ∀ j, 0 ≤ l.getD j 0 ∧ l.getD j 0 ≤ 65535) : ∀ k, k ≤ 16 → LessInv l k (iter lessStep k (l, 0))
  | 0, _ => ⟨hl, .inl rfl, fun j h => by omega, fun _ _ => rfl, by simp [iter, valI]⟩
  | k + 1, hk => by
    obtain ⟨h1, h2, h3, h4, h5⟩ := less_inv hl hd k (by omega)
    have hs : iter lessStep (k + 1) (l, 0) = lessStep k (iter lessStep k (l, 0)) := rfl
    rw [hs]
    generalize iter lessStep k (l, 0) = p at *
    obtain ⟨r, b⟩ := p
    simp only at h1 h2 h3 h4 h5
    obtain ⟨q1, q2, q3⟩ := lessPart_eq k (by omega)
    have ha := hd k
    have hg := h4 k (Nat.le_refl _)
    have hn : w64 (w64 (r.getD k 0 - lessPart k) - b) = r.getD k 0 - lessPart k - b := by
      rw [w64_id (z := r.getD k 0 - lessPart k) (by omega) (by omega), w64_id (by omega) (by omega)]
    have e : lessStep k (r, b) = (r.set k ((r.getD k 0 - lessPart k - b) % 65536), (r.getD k 0 - lessPart k - b) / 65536 % 2) := by
      simp only [lessStep, hn, and64_low, fdiv16, and64_one]
    rw [e]
    have hlen : k < r.length := by omega
    refine ⟨by simpa using h1, by simp only; omega, fun j hj => ?_, fun j hj => ?_, ?_⟩
    · simp only
      rw [getD_setI _ _ _ _ hlen]
      split
      · omega
      · exact h3 j (by omega)
    · simp only
      rw [getD_setI _ _ _ _ hlen, if_neg (by omega)]
      exact h4 j (by omega)
    · have v := valI_set r k ((r.getD k 0 - lessPart k - b) % 65536) hlen
      simp only
      rw [valI_take, ← q1]
      generalize hm : r.getD k 0 - lessPart k - b = n at *
      have hneg : n / 65536 % 2 = -(n / 65536) := by omega
      rw [hneg, Int.pow_succ]
      have e1 : n / 65536 * (65536 ^ k * 65536) + n % 65536 * 65536 ^ k = n * 65536 ^ k := by
        rw [Int.mul_comm (65536 ^ k), ← Int.mul_assoc, ← Int.add_mul]
        congr 1; omega
      have e2 : n * 65536 ^ k = r.getD k 0 * 65536 ^ k - lessPart k * 65536 ^ k - b * 65536 ^ k := by rw [← hm, Int.sub_mul, Int.sub_mul]
      have e3 : -(n / 65536) * (65536 ^ k * 65536) = -(n / 65536 * (65536 ^ k * 65536)) := Int.neg_mul ..
      rw [e3]
      omega

/-- The prime taken off, where it goes. -/
theorem choose_round {n : Nat} (h : n < 65536 ^ 16) : chooseW (digI n) (lessW (digI n)).1 (lessW (digI n)).2 = digI (if P25 ≤ n then n - P25 else n) := by
  have hd := fun j => getD_all (p := fun x => 0 ≤ x ∧ x ≤ 65535) (digI_le n) (by decide) j
  have inv := less_inv (digI_len n) hd 16 (Nat.le_refl _)
  have e0 : lessW (digI n) = ((iter lessStep 16 (digI n, 0)).1, w64 (1 - (iter lessStep 16 (digI n, 0)).2)) := by simp only [lessW]
  rw [e0]
  generalize iter lessStep 16 (digI n, 0) = p at *
  obtain ⟨r, b⟩ := p
  obtain ⟨h1, h2, h3, h4, h5⟩ := inv
  simp only at h1 h2 h3 h4 h5
  rw [digI_val h] at h5
  have hp : valI (pI.take 16) = (P25 : Int) := by decide
  rw [hp] at h5
  obtain ⟨q, hq⟩ : ∃ q, q = P25 := ⟨_, rfl⟩
  rw [← hq] at h5 ⊢
  have hq' : q = 57896044618658097711785492504343953926634992332820282019728792003956564819949 := hq
  clear hq hp e0
  have hr : ∀ x ∈ r, 0 ≤ x ∧ x ≤ 65535 := getD_mem fun j hj => h3 j (by omega)
  have hrange := valI_range r hr
  rw [h1] at hrange
  have big : ∀ l : List Int, (∀ x ∈ l, 0 ≤ x ∧ x ≤ 65535) → ∀ x ∈ l, -9223372036854775808 ≤ x ∧ x ≤ 9223372036854775807 := fun l hl x hx => by have := hl x hx; omega
  simp only
  rcases h2 with rfl | rfl
  · have : q ≤ n := by omega
    rw [if_pos this]
    have e : w64 (1 - 0) = ((cond true 1 0 : Nat) : Int) := by decide
    rw [e, chooseW_ok (digI_len n) h1 (big _ (digI_le n)) (big _ hr)]
    simp only [cond_true]
    rw [digI_of h1 hr]
    congr 1; omega
  · have : ¬ q ≤ n := by omega
    rw [if_neg this]
    have e : w64 (1 - 1) = ((cond false 1 0 : Nat) : Int) := by decide
    rw [e, chooseW_ok (digI_len n) h1 (big _ (digI_le n)) (big _ hr)]
    rfl

theorem reducedW_ok {xs : List Int} (hx : Elem xs) : reducedW xs = digI (fval xs) := by
  obtain ⟨n, h1, h2, h3⟩ := red3 hx
  simp only [reducedW, iter, h3]
  rw [choose_round h1, choose_round (by split <;> omega), ← h2]
  obtain ⟨q, hq⟩ : ∃ q, q = P25 := ⟨_, rfl⟩
  rw [← hq]
  have hq' : q = 57896044618658097711785492504343953926634992332820282019728792003956564819949 := hq
  clear hq h2
  have : (if q ≤ if q ≤ n then n - q else n then (if q ≤ n then n - q else n) - q else if q ≤ n then n - q else n) = n % q := by
    subst hq'
    split
    · split <;> omega
    · omega
  rw [this]

theorem getD_setN (l : List Nat) (i j d : Nat) (h : i < l.length) : (l.set i d).getD j 0 = if i = j then d else l.getD j 0 := by
  simp only [List.getD_eq_getElem?_getD, List.getElem?_set]
  split
  · rename_i e; subst e; simp
  · rfl

theorem pairs_get (f g : Nat → Nat) : ∀ k, k ≤ 16 → (iter (fun i (o : List Nat) => (o.set (2 * i) (f i)).set (2 * i + 1) (g i)) k (List.replicate 32 0)).length = 32 ∧ ∀ j, (iter (fun i (o : List Nat) => (o.set (2 * i) (f i)).set (2 * i + 1) (g i)) k (List.replicate 32 0)).getD j 0 = if j < 2 * k then (if j % 2 = 0 then f (j / 2) else g (j / 2)) else 0
  | 0, _ => ⟨rfl, fun j => by
    simp only [iter, List.getD_eq_getElem?_getD, List.getElem?_replicate]
    split <;> simp⟩
  | k + 1, hk => by
    obtain ⟨h1, h2⟩ := pairs_get f g k (by omega)
    have hs : iter (fun i (o : List Nat) => (o.set (2 * i) (f i)).set (2 * i + 1) (g i)) (k + 1) (List.replicate 32 0) = ((iter (fun i (o : List Nat) => (o.set (2 * i) (f i)).set (2 * i + 1) (g i)) k (List.replicate 32 0)).set (2 * k) (f k)).set (2 * k + 1) (g k) := rfl
    rw [hs]
    generalize iter (fun i (o : List Nat) => (o.set (2 * i) (f i)).set (2 * i + 1) (g i)) k (List.replicate 32 0) = r at *
    refine ⟨by simpa using h1, fun j => ?_⟩
    rw [getD_setN _ _ _ _ (by simp; omega), getD_setN _ _ _ _ (by omega), h2 j]
    by_cases e1 : 2 * k + 1 = j
    · subst e1
      rw [if_pos rfl, if_pos (by omega), if_neg (by omega)]
      congr 1; omega
    · rw [if_neg e1]
      by_cases e2 : 2 * k = j
      · subst e2
        rw [if_pos rfl, if_pos (by omega), if_pos (by omega)]
        congr 1; omega
      · rw [if_neg e2]
        by_cases e3 : j < 2 * k
        · rw [if_pos e3, if_pos (show j < 2 * (k + 1) by omega)]
        · rw [if_neg e3, if_neg (by omega)]

theorem leBytes_len (n : Nat) : (leBytes n).length = 32 := rfl
theorem leBytes_get {n j : Nat} (h : j < 32) : (leBytes n).getD j 0 = n / 256 ^ j % 256 := by
  have e : leBytes n = (List.range 32).map fun i => n / 256 ^ i % 256 := rfl
  rw [e]
  simp only [List.getD_eq_getElem?_getD, List.getElem?_map, List.getElem?_range h]; rfl

/-- The reference's bytes of a number's digits. -/
theorem rbytesW_ok (n : Nat) : rbytesW (digN n) = leBytes n := by
  obtain ⟨h1, h2⟩ := pairs_get (fun i => (digN n).getD i 0 % 256) (fun i => (digN n).getD i 0 / 256) 16 (Nat.le_refl _)
  refine ext_getD (d := 0) h1 fun j hj => ?_
  have hj : j < 32 := by have := h1; exact Nat.lt_of_lt_of_le hj (Nat.le_of_eq this)
  rw [leBytes_get hj]
  refine (h2 j).trans ?_
  rw [if_pos (by omega), digN_get (by omega)]
  have e : 65536 ^ (j / 2) = 256 ^ (2 * (j / 2)) := by rw [Nat.pow_mul]
  split
  · have : j = 2 * (j / 2) := by omega
    rw [e, ← this]
    omega
  · have hj2 : j = 2 * (j / 2) + 1 := by omega
    have : n / 256 ^ j = n / 256 ^ (2 * (j / 2)) / 256 := by
      conv => lhs; rw [hj2]
      rw [Nat.pow_succ, Nat.div_div_eq_div_mul]
    rw [this, e]
    omega

theorem w8_nat (d : Nat) : w8 ((d : Nat) : Int) = d % 256 := by
  show (((d : Nat) : Int) % 2 ^ 8).toNat = d % 256
  omega

theorem bytesW_ok {xs : List Int} (hx : Elem xs) : bytesW xs = leBytes (fval xs) := by
  rw [← rbytesW_ok]
  unfold bytesW rbytesW
  simp only [reducedW_ok hx]
  congr 1
  funext i o
  have hle : (digN (fval xs)).getD i 0 ≤ 65535 := getD_le (digN_le _) i
  have e : ((((digN (fval xs)).getD i 0 : Nat) : Int)).fdiv (2 ^ 8) = (((digN (fval xs)).getD i 0 / 256 : Nat) : Int) := by
    rw [Int.fdiv_eq_ediv_of_nonneg _ (by decide)]
    omega
  rw [digI_get, e, w8_nat, w8_nat]
  congr 1
  omega

/-- What 32 bytes stand for, but for the highest bit. -/
noncomputable def ofV (bs : List Nat) : Nat := valL ((digitsW bs).set 15 ((digitsW bs).getD 15 0 % 32768))

theorem ofW_eq {bs : List Nat} (hb : ∀ b ∈ bs, b ≤ 255) : ofW bs = (digitsW bs).set 15 ((digitsW bs).getD 15 0 % 32768) := by
  have hl : ∀ k, k ≤ 16 → (iter (fun i (o : List Nat) => o.set i (bs.getD (2 * i) 0 ||| bs.getD (2 * i + 1) 0 * 2 ^ 8)) k (List.replicate 16 0)).length = 16 ∧ ∀ j, j < k → (iter (fun i (o : List Nat) => o.set i (bs.getD (2 * i) 0 ||| bs.getD (2 * i + 1) 0 * 2 ^ 8)) k (List.replicate 16 0)).getD j 0 = bs.getD (2 * j) 0 + 256 * bs.getD (2 * j + 1) 0 := by
    intro k
    induction k with
    | zero => intro _; exact ⟨rfl, fun j h => by omega⟩
    | succ k ih =>
      intro hk
      obtain ⟨h1, h2⟩ := ih (by omega)
      have hs : iter (fun i (o : List Nat) => o.set i (bs.getD (2 * i) 0 ||| bs.getD (2 * i + 1) 0 * 2 ^ 8)) (k + 1) (List.replicate 16 0) = (iter (fun i (o : List Nat) => o.set i (bs.getD (2 * i) 0 ||| bs.getD (2 * i + 1) 0 * 2 ^ 8)) k (List.replicate 16 0)).set k (bs.getD (2 * k) 0 ||| bs.getD (2 * k + 1) 0 * 2 ^ 8) := rfl
      rw [hs]
      generalize iter (fun i (o : List Nat) => o.set i (bs.getD (2 * i) 0 ||| bs.getD (2 * i + 1) 0 * 2 ^ 8)) k (List.replicate 16 0) = r at *
      refine ⟨by simpa using h1, fun j hj => ?_⟩
      rw [getD_setN _ _ _ _ (by omega)]
      split
      · rename_i e; subst e
        have b1 := getD_le hb (2 * k)
        have := Nat.two_pow_add_eq_or_of_lt (show bs.getD (2 * k) 0 < 2 ^ 8 by omega) (bs.getD (2 * k + 1) 0)
        rw [Nat.or_comm, Nat.mul_comm (bs.getD (2 * k + 1) 0), ← this]
        omega
      · exact h2 j (by omega)
  obtain ⟨h1, h2⟩ := hl 16 (Nat.le_refl _)
  have e : iter (fun i (o : List Nat) => o.set i (bs.getD (2 * i) 0 ||| bs.getD (2 * i + 1) 0 * 2 ^ 8)) 16 (List.replicate 16 0) = digitsW bs := by
    refine ext_getD (d := 0) (by rw [h1]; rfl) fun j hj => ?_
    rw [h1] at hj
    rw [h2 j hj]
    have e : digitsW bs = (List.range 16).map fun i => bs.getD (2 * i) 0 + 256 * bs.getD (2 * i + 1) 0 := rfl
    rw [e]
    simp only [List.getD_eq_getElem?_getD, List.getElem?_map, List.getElem?_range hj]; rfl
  unfold ofW
  simp only [e]
  congr 1
  exact Nat.and_two_pow_sub_one_eq_mod _ 15

theorem digitsW_le {bs : List Nat} (hb : ∀ b ∈ bs, b ≤ 255) : ∀ d ∈ digitsW bs, d ≤ 65535 := fun d h => by
  obtain ⟨i, _, rfl⟩ := List.mem_map.1 h
  have b1 := getD_le hb (2 * i)
  have b2 := getD_le hb (2 * i + 1)
  omega

theorem ofL_le {bs : List Nat} (hb : ∀ b ∈ bs, b ≤ 255) : ∀ d ∈ (digitsW bs).set 15 ((digitsW bs).getD 15 0 % 32768), d ≤ 65535 := fun d h => by
  rcases List.mem_or_eq_of_mem_set h with h | rfl
  · exact digitsW_le hb d h
  · omega

theorem ofE {bs : List Nat} (hb : ∀ b ∈ bs, b ≤ 255) : Elem ((ofW bs).map Int.ofNat) ∧ fval ((ofW bs).map Int.ofNat) = ofV bs % P25 := by
  rw [ofW_eq hb]
  refine ⟨⟨rfl, fun x hx => ?_⟩, ?_⟩
  · obtain ⟨d, hd, rfl⟩ := List.mem_map.1 hx
    have := ofL_le hb d hd
    show -70000 ≤ ((d : Nat) : Int) ∧ ((d : Nat) : Int) ≤ 70000
    omega
  · rw [fval, valI_ofNat]
    unfold ofV
    omega

end Go.Bx

/-
  The reference's numbers: comparing, differences, and what a round of the reduction does to a value.
-/
namespace Go.Bx

theorem take_val_lt {l : List Nat} (h : ∀ d ∈ l, d ≤ 65535) (k : Nat) : valL (l.take k) < 65536 ^ k := take_lt h k

theorem atLeastW_ok {xs ys : List Nat} (hx : ∀ d ∈ xs, d ≤ 65535) (hy : ∀ d ∈ ys, d ≤ 65535) : ∀ i, atLeastW xs ys i = decide (valL (ys.take i) ≤ valL (xs.take i))
  | 0 => by simp [atLeastW, valL]
  | i + 1 => by
    have ih := atLeastW_ok hx hy i
    have a := take_val_lt hx i
    have b := take_val_lt hy i
    simp only [atLeastW, valL_take, ih]
    generalize xs.getD i 0 = u
    generalize ys.getD i 0 = v
    generalize valL (xs.take i) = p at *
    generalize valL (ys.take i) = q at *
    generalize 65536 ^ i = t at *
    cases hb : Nat.beq u v
    · have hne : u ≠ v := fun e => by rw [e] at hb; have : Nat.beq v v = true := Nat.beq_refl v; rw [this] at hb; simp at hb
      simp only [Bool.not_false, cond_true]
      rcases Nat.lt_or_ge v u with h | h
      · have e1 : Nat.blt v u = true := by rw [Nat.blt_eq]; exact h
        rw [e1]
        have := Nat.mul_le_mul_right t (show v + 1 ≤ u from h)
        rw [Nat.add_mul] at this
        exact (decide_eq_true (by omega)).symm
      · have h' : u < v := by omega
        have e1 : Nat.blt v u = false := by
          cases hh : Nat.blt v u
          · rfl
          · have := blt_lt hh; omega
        rw [e1]
        have := Nat.mul_le_mul_right t (show u + 1 ≤ v from h')
        rw [Nat.add_mul] at this
        exact (decide_eq_false (by omega)).symm
    · have := beq_eq' hb
      subst this
      simp only [Bool.not_true, cond_false]
      by_cases h : q ≤ p
      · rw [decide_eq_true h, decide_eq_true (by omega)]
      · rw [decide_eq_false h, decide_eq_false (by omega)]

theorem valL_all {l : List Nat} {n : Nat} (h : l.length ≤ n) : l.take n = l := List.take_of_length_le h

theorem atLeast16 {xs ys : List Nat} (hl : xs.length = 16) (hl' : ys.length = 16) (hx : ∀ d ∈ xs, d ≤ 65535) (hy : ∀ d ∈ ys, d ≤ 65535) : atLeastW xs ys 16 = decide (valL ys ≤ valL xs) := by
  rw [atLeastW_ok hx hy, valL_all (by omega), valL_all (by omega)]

theorem rlessW_get {xs ys : List Nat} {i : Nat} (h : i < 16) : (rlessW xs ys).getD i 0 = (cond (decide (rlessD xs ys i < ((0 : Nat) : Int))) (w64 (rlessD xs ys i + ((65536 : Nat) : Int))) (rlessD xs ys i)).toNat := by
  have e : rlessW xs ys = (List.range 16).map fun i => (cond (decide (rlessD xs ys i < ((0 : Nat) : Int))) (w64 (rlessD xs ys i + ((65536 : Nat) : Int))) (rlessD xs ys i)).toNat := rfl
  rw [e]
  simp only [List.getD_eq_getElem?_getD, List.getElem?_map, List.getElem?_range h]; rfl

noncomputable def borrow (xs ys : List Nat) : Nat → Int
  | 0 => 0
  | i + 1 => cond (decide (rlessD xs ys i < 0)) 1 0

theorem rlessD_bor {xs ys : List Nat} (hx : ∀ x ∈ xs, x ≤ 65535) (hy : ∀ y ∈ ys, y ≤ 65535) (i : Nat) : -65536 ≤ rlessD xs ys i ∧ rlessD xs ys i ≤ 65535 ∧ rlessD xs ys i = (xs.getD i 0 : Int) - (ys.getD i 0 : Int) - borrow xs ys i := by
  obtain ⟨h1, h2, h3⟩ := rlessD_eq hx hy i
  refine ⟨h1, h2, ?_⟩
  cases i <;> exact h3

theorem rlessW_sum {xs ys : List Nat} (hx : ∀ d ∈ xs, d ≤ 65535) (hy : ∀ d ∈ ys, d ≤ 65535) : ∀ k, k ≤ 16 → (valL ((rlessW xs ys).take k) : Int) - borrow xs ys k * 65536 ^ k = (valL (xs.take k) : Int) - (valL (ys.take k) : Int)
  | 0, _ => by simp [valL, borrow]
  | k + 1, hk => by
    have ih := rlessW_sum hx hy k (by omega)
    obtain ⟨h1, h2, h3⟩ := rlessD_bor hx hy k
    simp only [valL_take, rlessW_get (show k < 16 by omega)]
    simp only [borrow]
    generalize rlessD xs ys k = z at *
    generalize borrow xs ys k = b at *
    have hz : ∃ c : Int, (c = 0 ∨ c = 1) ∧ (cond (decide (z < 0)) 1 0 : Int) = c ∧ (((cond (decide (z < ((0 : Nat) : Int))) (w64 (z + ((65536 : Nat) : Int))) z).toNat : Nat) : Int) = z + c * 65536 := by
      by_cases h0 : z < 0
      · rw [decide_eq_true h0, decide_eq_true (show z < ((0 : Nat) : Int) from h0)]
        refine ⟨1, .inr rfl, rfl, ?_⟩
        simp only [cond_true]
        rw [w64_small (by omega) (by omega)]
        omega
      · rw [decide_eq_false h0, decide_eq_false (show ¬ z < ((0 : Nat) : Int) from h0)]
        refine ⟨0, .inl rfl, rfl, ?_⟩
        simp only [cond_false]
        omega
    obtain ⟨c, _, e1, e2⟩ := hz
    rw [e1]
    generalize (cond (decide (z < ((0 : Nat) : Int))) (w64 (z + ((65536 : Nat) : Int))) z).toNat = d at *
    rw [Int.natCast_add, Int.natCast_mul, e2, Int.natCast_add, Int.natCast_mul, Int.natCast_add, Int.natCast_mul]
    have ep : ((65536 ^ k : Nat) : Int) = 65536 ^ k := Int.natCast_pow 65536 k
    rw [ep, Int.pow_succ, Int.add_mul]
    generalize (65536 : Int) ^ k = t at *
    have e3 : c * (t * 65536) = c * 65536 * t := by rw [Int.mul_comm t, Int.mul_assoc]
    have e4 : z * t = (xs.getD k 0 : Int) * t - (ys.getD k 0 : Int) * t - b * t := by rw [h3, Int.sub_mul, Int.sub_mul]
    rw [e3]
    omega

theorem rlessW_le {xs ys : List Nat} (hx : ∀ x ∈ xs, x ≤ 65535) (hy : ∀ y ∈ ys, y ≤ 65535) : ∀ d ∈ rlessW xs ys, d ≤ 65535 := fun d hd => by
  obtain ⟨z, hz, rfl⟩ := List.mem_map.1 hd
  have := rlessI_range hx hy z hz
  omega

/-- A difference's digits. -/
theorem rlessW_ok {xs ys : List Nat} (hl : xs.length = 16) (hl' : ys.length = 16) (hx : ∀ d ∈ xs, d ≤ 65535) (hy : ∀ d ∈ ys, d ≤ 65535) (hle : valL ys ≤ valL xs) : rlessW xs ys = digN (valL xs - valL ys) := by
  have hs := rlessW_sum hx hy 16 (Nat.le_refl _)
  have hlen : (rlessW xs ys).length = 16 := rfl
  rw [valL_all (l := rlessW xs ys) (n := 16) (by omega), valL_all (l := xs) (n := 16) (by omega), valL_all (l := ys) (n := 16) (by omega)] at hs
  have hlt := valL_lt _ (rlessW_le hx hy)
  rw [hlen] at hlt
  have hb : borrow xs ys 16 = 0 ∨ borrow xs ys 16 = 1 := by
    show (cond (decide (rlessD xs ys 15 < 0)) 1 0 : Int) = 0 ∨ (cond (decide (rlessD xs ys 15 < 0)) 1 0 : Int) = 1
    cases decide (rlessD xs ys 15 < 0)
    · exact .inl rfl
    · exact .inr rfl
  have he : valL (rlessW xs ys) = valL xs - valL ys := by
    rcases hb with hb | hb <;> rw [hb] at hs <;> omega
  rw [← he, digN_valL hlen (rlessW_le hx hy)]

theorem pW_ok : pW.length = 16 ∧ (∀ d ∈ pW, d ≤ 65535) ∧ valL pW = P25 := by
  refine ⟨rfl, by decide, by decide⟩

/-- The last round's end. -/
theorem mod_end {low : List Nat} (hl : low.length = 16) (hd : ∀ d ∈ low, d ≤ 65535) (hv : valL low < 2 ^ 255) : cond (atLeastW low pW 16) (rlessW low pW) low = digN (valL low % P25) := by
  obtain ⟨p1, p2, p3⟩ := pW_ok
  obtain ⟨q, hq⟩ : ∃ q, q = P25 := ⟨_, rfl⟩
  rw [atLeast16 hl p1 hd p2, p3, ← hq]
  have hq' : q = 57896044618658097711785492504343953926634992332820282019728792003956564819949 := hq
  by_cases h : q ≤ valL low
  · rw [decide_eq_true h, cond_true, rlessW_ok hl p1 hd p2 (by rw [p3, ← hq]; exact h), p3, ← hq]
    congr 1
    clear hq p3
    subst hq'
    omega
  · rw [decide_eq_false h, cond_false, Nat.mod_eq_of_lt (by omega), digN_valL hl hd]

theorem valL_zero : ∀ (l : List Nat), (∀ i, l.getD i 0 = 0) → valL l = 0
  | [], _ => rfl
  | a :: l, h => by
    have h0 := h 0
    simp only [List.getD_cons_zero] at h0
    rw [valL, valL_zero l fun i => by simpa using h (i + 1), h0]

theorem zero_of_valL : ∀ (l : List Nat), valL l = 0 → ∀ i, l.getD i 0 = 0
  | [], _, i => by simp
  | a :: l, h, 0 => by simp only [valL] at h; simp; omega
  | a :: l, h, i + 1 => by
    simp only [valL] at h
    simpa using zero_of_valL l (by omega) i

theorem zeroW_iff (hs : List Nat) : ∀ h, zeroW hs h = true ↔ ∀ i, i < h → hs.getD i 0 = 0
  | 0 => ⟨fun _ i hi => by omega, fun _ => rfl⟩
  | h + 1 => by
    have ih := zeroW_iff hs h
    simp only [zeroW]
    cases hb : Nat.blt 0 (hs.getD h 0)
    · have := not_blt hb
      simp only [cond_false]
      rw [ih]
      refine ⟨fun k i hi => ?_, fun k i hi => k i (by omega)⟩
      by_cases e : i = h
      · subst e; omega
      · exact k i (by omega)
    · have := blt_lt hb
      simp only [cond_true, Bool.false_eq_true, false_iff]
      intro k
      have := k h (by omega)
      omega

theorem zeroW_val {hs : List Nat} {h : Nat} (hl : hs.length = h) : zeroW hs h = true ↔ valL hs = 0 := by
  rw [zeroW_iff]
  refine ⟨fun k => valL_zero hs fun i => ?_, fun k i _ => zero_of_valL hs k i⟩
  rcases Nat.lt_or_ge i h with hi | hi
  · exact k i hi
  · rw [List.getD_eq_getElem?_getD, List.getElem?_eq_none (by omega)]; rfl

/-- Nothing is left behind a sum, whatever its digits' number. -/
theorem carry0k {k h : Nat} {hs low : List Nat} (hl : low.length = k) (hv : valL low + 19 * valL (hs.take (min k h)) < 65536 ^ k) : (sumW k h hs low).2 = 0 ∧ valL (sumW k h hs low).1 = valL low + 19 * valL (hs.take (min k h)) := by
  obtain ⟨_, _, e⟩ := sumW_val (h := h) (hs := hs) (low := low) k (by omega)
  generalize (sumW k h hs low).2 = c at *
  generalize valL (sumW k h hs low).1 = v at *
  generalize valL (hs.take (min k h)) = t at *
  cases c with
  | zero => exact ⟨rfl, by omega⟩
  | succ c =>
    have : (c + 1) * 65536 ^ k ≥ 65536 ^ k := Nat.le_mul_of_pos_left _ (by omega)
    omega

theorem sumW_le {h : Nat} {hs low : List Nat} (hd : ∀ d ∈ low, d ≤ 65535) : ∀ k, ∀ d ∈ (sumW k h hs low).1, d ≤ 65535
  | 0 => hd
  | k + 1 => by
    have ih := sumW_le (h := h) (hs := hs) hd k
    have hs' : sumW (k + 1) h hs low = sumStep h hs k (sumW k h hs low) := rfl
    rw [hs']
    generalize sumW k h hs low = p at *
    intro d hdm
    simp only [sumStep] at hdm
    rcases List.mem_or_eq_of_mem_set hdm with hm | rfl
    · exact ih d hm
    · have := Nat.mod_lt (bif Nat.blt k h then p.1.getD k 0 + p.2 + 19 * hs.getD k 0 else p.1.getD k 0 + p.2) (show 0 < 65536 by decide)
      omega

theorem sumW_len {h : Nat} {hs low : List Nat} (k : Nat) (hk : k ≤ low.length) : (sumW k h hs low).1.length = low.length := (sumW_val k hk).1

theorem highW_ok {n : Nat} {x : List Nat} (hn : x.length = n) (hd : ∀ d ∈ x, d ≤ 65535) : (highW n x).length = n - 15 ∧ ∀ d ∈ highW n x, d ≤ 65535 := by
  rw [highW_eq hn]
  exact ⟨by rw [hiL_len, List.length_drop, hn], hiL_le _ fun d h => hd d (List.mem_of_mem_drop h)⟩

/-- What a round comes to, where something is above: `k` digits. -/
theorem round_val {n k : Nat} {x low : List Nat} (hn : x.length = n) (h16 : 16 ≤ n) (hd : ∀ d ∈ x, d ≤ 65535) (hlow : low.length = k ∧ (∀ d ∈ low, d ≤ 65535) ∧ valL low = valL (lowW x)) (hk : n - 15 ≤ k) (hv : valL low + 19 * valL (highW n x) < 65536 ^ k)
    (hz : zeroW (highW n x) (n - 15) = false) :
    (sumW k (n - 15) (highW n x) low).2 = 0 ∧ (sumW k (n - 15) (highW n x) low).1.length = k ∧ (∀ d ∈ (sumW k (n - 15) (highW n x) low).1, d ≤ 65535) ∧ valL (sumW k (n - 15) (highW n x) low).1 < valL x ∧ valL (sumW k (n - 15) (highW n x) low).1 % P25 = valL x % P25 := by
  obtain ⟨h1, h2⟩ := highW_ok hn hd
  have ht : (highW n x).take (min k (n - 15)) = highW n x := valL_all (by omega)
  obtain ⟨c1, c2⟩ := carry0k (k := k) (h := n - 15) (hs := highW n x) (low := low) hlow.1 (by rw [ht]; exact hv)
  rw [ht] at c2
  have hsp := split_val hn h16
  have hpos : valL (highW n x) ≠ 0 := fun e => by
    have := (zeroW_val h1).2 e
    rw [this] at hz; simp at hz
  refine ⟨c1, (sumW_len k (by omega)).trans hlow.1, sumW_le hlow.2.1 k, ?_, ?_⟩
  · rw [c2, hsp, hlow.2.2]; omega
  · rw [c2, hsp, hlow.2.2]
    obtain ⟨q, hq⟩ : ∃ q, q = P25 := ⟨_, rfl⟩
    rw [← hq]
    have hq' : q = 57896044618658097711785492504343953926634992332820282019728792003956564819949 := hq
    clear hq c2 hsp
    generalize valL (highW n x) = u at *
    generalize valL (lowW x) = v at *
    have e : v + 2 ^ 255 * u = v + 19 * u + q * u := by subst hq'; omega
    rw [e, Nat.add_mul_mod_self_left]

/-- Where nothing is above. -/
theorem round_zero {n : Nat} {x : List Nat} (hn : x.length = n) (h16 : 16 ≤ n) (hd : ∀ d ∈ x, d ≤ 65535) (hz : zeroW (highW n x) (n - 15) = true) :
    cond (atLeastW (lowW x) pW 16) (rlessW (lowW x) pW) (lowW x) = digN (valL x % P25) := by
  obtain ⟨h1, h2⟩ := highW_ok hn hd
  have h0 := (zeroW_val h1).1 hz
  obtain ⟨l1, l2, l3⟩ := lowW_val x hd
  rw [mod_end l1 l2 l3, split_val hn h16, h0, Nat.mul_zero, Nat.add_zero]

end Go.Bx

/-
  Runs in pieces: the head of a sequence, then its rest.
-/
namespace Go.Bx

noncomputable def chain : Nat → Code → Bool
  | 0, _ => true
  | n + 1, .seq _ b => chain n b
  | _ + 1, _ => false

section
variable {P : Program} {nt m : Nat} {σ : List (Nat × Sum)}

theorem xA_first (hσ : ∀ f s, lk? σ f = some s → SumOk P f s) (hm : P.follows .mixedOrders = true) : ∀ (k n : Nat) (c : Code) (s s' : St), chain k c = true → xA P σ nt n (firstN k c) s = some (true, .normal, s') → ∀ K, Runs P nt m (dropN k c) s' K → Runs P nt m c s K
  | 0, n, c, s, s', _, h, K, hr => by
    cases n with
    | zero => simp [xA] at h
    | succ n =>
      simp only [firstN, xA, Option.some.injEq, Prod.mk.injEq, true_and] at h
      subst h
      exact hr
  | k + 1, n, c, s, s', hc, h, K, hr => by
    cases c <;> simp only [chain, Bool.false_eq_true] at hc
    case seq a b =>
      cases n with
      | zero => simp [xA] at h
      | succ n =>
        simp only [firstN, xA] at h
        split at h
        · rename_i c s1 hx
          obtain ⟨rfl, hy⟩ := andX_ok h
          have q1 := (xA_ok (m := m) hσ hm n a s _ _ hx).1.1
          refine Runs.seq q1 fun o2 s2 hk => ?_
          obtain ⟨rfl, rfl⟩ := hk
          exact xA_first hσ hm k n b _ s' hc hy K hr
        · rename_i hne
          exact absurd h (hne _ _)

/-- The head of a sequence that was computed, then the rest. -/
theorem runs_head (hσ : ∀ f s, lk? σ f = some s → SumOk P f s) (hm : P.follows .mixedOrders = true) {k n : Nat} {c : Code} {s S : St} {rn : List (Nat × Nat)} {E : List Nat} {C : Bool}
    (hc : chain k c = true) (h : okX m rn E (xA P σ nt n (firstN k c) s) C .normal S = selfX E C S) (hC : C = true) {K : Out → St → Prop} (hr : Runs P nt m (dropN k c) S K) : Runs P nt m c s K := by
  have h := h.mpr (selfX_true E C S)
  unfold okX at h
  split at h
  · rename_i c' o' s' hx
    obtain ⟨rfl, ho, hf⟩ := h
    subst hC
    have := outEq_eq ho
    subst this
    exact xA_first hσ hm k n c s s' hc hx K (Runs.recast hf hr)
  · exact h.elim

/-- What is found at a function's end. -/
theorem endK_of {fn : Func} {o : Out} {s : St} {C : Bool} {cres : AVal} {srcs : List (Nat × List AVal)} (h : okK P fn.results.toList (some (C, o, s)) C cres srcs = selfK C cres srcs) : endK P fn (KF cres srcs) o s := by
  have h := h.mpr (selfK_true C cres srcs)
  unfold okK at h
  obtain ⟨_, ho, he⟩ := h
  split at he
  · rename_i d v hv
    obtain ⟨rfl, h1, h2⟩ := he
    have hend : endA P fn.results.toList s (KF cres srcs) := endA_of hv ⟨fitF_fit h1, fitSrc_ok h2⟩
    cases o with
    | normal => exact hend
    | ret => exact hend
    | exit id => exact ho.elim
  · exact he.elim

end
end Go.Bx

/-
  Digits in slices of a known length; the reduction's summary.
-/
namespace Go.Bx

/-- A slice of `k` digits: its name and they. -/
noncomputable def numK? (k : Nat) (H : Heap) (a : AVal) : Option (Nat × List Nat) :=
  match a with
  | .slice n off sz _ lo hi _ => bif Nat.beq off 0 && Nat.beq sz 1 && Nat.beq lo k && Nat.beq hi k then match lk? H n with
    | some r => match r.c with
      | [.nats q h m ds] => bif keq q .i64 && Nat.ble h 65535 && Nat.beq m k then some (n, ds) else none
      | _ => none
    | none => none
    else none
  | _ => none

theorem numK_fit {k : Nat} (hk : k ≠ 0) {H : Heap} {a : AVal} {n : Nat} {ds : List Nat} (h : numK? k H a = some (n, ds)) : Fit a (slN n k) ∧ ∃ q, lk? H n = some q ∧ FitL q.c (rowN k ds) := by
  unfold numK? at h
  split at h
  · rename_i n' off sz len lo hi cap
    cases hkk : (Nat.beq off 0 && Nat.beq sz 1 && Nat.beq lo k && Nat.beq hi k) <;> rw [hkk] at h <;> simp only [cond_false, cond_true, reduceCtorEq] at h
    simp only [Bool.and_eq_true] at hkk
    obtain ⟨⟨⟨k1, k2⟩, k3⟩, k4⟩ := hkk
    have k1 := beq_eq' k1; have k2 := beq_eq' k2; have k3 := beq_eq' k3; have k4 := beq_eq' k4
    subst k1; subst k2
    split at h
    · rename_i r hr
      split at h
      · rename_i kk hh m es hc
        cases hkk : (keq kk .i64 && Nat.ble hh 65535 && Nat.beq m k) <;> rw [hkk] at h <;> simp only [cond_false, cond_true, reduceCtorEq, Option.some.injEq, Prod.mk.injEq] at h
        obtain ⟨rfl, rfl⟩ := h
        simp only [Bool.and_eq_true] at hkk
        have e1 := keq_eq hkk.1.1; subst e1
        have e2 := ble_le hkk.1.2
        have e3 := beq_eq' hkk.2; subst e3
        refine ⟨fun L v hv => ?_, r, hr, fun L cs hcs => ?_⟩
        · obtain ⟨h1, h2, h3⟩ := hv
          have : len = m := by omega
          subst this
          refine ⟨by omega, by omega, ?_⟩
          rcases h3 with ⟨z, _⟩ | ⟨hl, c, e, h4, h5, h6⟩
          · omega
          · exact .inr ⟨hl, c, e, h4, h5, fun c' hc' => by simp at hc'⟩
        · rw [hc] at hcs
          obtain ⟨c, d, e, ⟨p1, p2, p3⟩, hd⟩ := hcs
          exact ⟨c, d, e, ⟨p1, fun x hx => Nat.le_trans (p2 x hx) e2, p3⟩, hd⟩
      · simp at h
    · simp at h
  · simp at h

theorem numK_le {k : Nat} (hk : k ≠ 0) {H : Heap} (hH : InhH H) {a : AVal} {n : Nat} {ds : List Nat} (h : numK? k H a = some (n, ds)) : ds.length = k ∧ ∀ d ∈ ds, d ≤ 65535 := by
  obtain ⟨_, q, hq, hf⟩ := numK_fit hk h
  obtain ⟨L, cs, hc⟩ := hH n q hq
  obtain ⟨c, d, e, ⟨p1, p2, p3⟩, hd⟩ := hf L cs hc
  exact ⟨p1, p2⟩

theorem canon_numK {k : Nat} (hk : k ≠ 0) {fn : Func} {H : Heap} {a : AVal} {n : Nat} {ds : List Nat} (ht : 1 ≤ fn.ntmps) (h : numK? k H a = some (n, ds)) : Canon [a] H fn 1 [slN 0 k] [(0, ⟨true, rowN k ds⟩)] (fun _ => n) := by
  obtain ⟨h1, q, h2, h3⟩ := numK_fit hk h
  refine ⟨rfl, fun i => ?_, rfl, ht, fun m r hr => ?_⟩
  · cases i with
    | zero => exact h1
    | succ i => simp [ren]; exact Fit.refl _
  · rw [lk?_cons] at hr
    split at hr
    · rename_i e
      simp only at e hr
      subst e
      simp only [Option.some.injEq] at hr; subst hr
      exact ⟨by omega, rfl, rfl, q, h2, h3⟩
    · simp [lk?_nil] at hr

noncomputable def modD (fr : Nat) (ds : List Nat) : Option (Bool × AVal × Ups) := some (true, sl16 fr, [(fr, some ⟨false, row16 (digN (valL ds % P25))⟩)])

noncomputable def modSum : Sum := fun args H fr => match args with
  | [x] => match numK? 16 H x with
    | some (_, ds) => modD fr ds
    | none => match numK? 17 H x with
      | some (_, ds) => modD fr ds
      | none => match numK? 32 H x with
        | some (_, ds) => modD fr ds
        | none => none
  | _ => none

theorem modSum_ok {P : Program} {f : FuncId} {fn : Func} (hf : P.funcs[f]? = some fn) (hn : (fn.name == "runtime.NumGoroutine") = false) (hb : fn.body.isNone = false) (ht : 1 ≤ fn.ntmps) {X : Nat} (hX : 1 ≤ X)
    (h : ∀ n x, (n = 16 ∨ n = 17 ∨ n = 32) → x.length = n → (∀ d ∈ x, d ≤ 65535) → RunF P fn 1 [slN 0 n] [(0, ⟨true, rowN n x⟩)] (KF (sl16 X) [(X, row16 (digN (valL x % P25)))])) : SumOk P f modSum := by
  refine fun_new hf hn hb fun args H fr v us he hi hH => ?_
  have key : ∀ n x a m, (n = 16 ∨ n = 17 ∨ n = 32) → numK? n H a = some (m, x) → modD fr x = some (true, v, us) → ∃ ds, v = sl16 fr ∧ us = [(fr, some ⟨false, row16 ds⟩)] ∧ ∃ k cargs CH ρ X, k ≤ X ∧ Canon [a] H fn k cargs CH ρ ∧ RunF P fn k cargs CH (KF (sl16 X) [(X, row16 ds)]) := by
    intro n x a m hn ha hd
    simp only [modD, Option.some.injEq, Prod.mk.injEq, true_and] at hd
    obtain ⟨rfl, rfl⟩ := hd
    have h0 : n ≠ 0 := by omega
    have hl := numK_le h0 hH ha
    exact ⟨_, rfl, rfl, 1, _, _, _, X, hX, canon_numK h0 ht ha, h n x hn hl.1 hl.2⟩
  unfold modSum at he
  split at he
  · rename_i x
    split at he
    · rename_i m ds hx
      exact key 16 ds x m (.inl rfl) hx he
    · split at he
      · rename_i m ds hx
        exact key 17 ds x m (.inr (.inl rfl)) hx he
      · split at he
        · rename_i m ds hx
          exact key 32 ds x m (.inr (.inr rfl)) hx he
        · simp at he
  · simp at he

end Go.Bx

/-
  The reference's numbers: small numbers, numbers of bytes, sums.
-/
namespace Go.Bx

noncomputable def smallN (n : Nat) : List Nat := n :: [0, 0, 0, 0, 0, 0, 0, 0, 0, 0, 0, 0, 0, 0, 0]
noncomputable def smallI (n : Int) : List Int := n :: [0, 0, 0, 0, 0, 0, 0, 0, 0, 0, 0, 0, 0, 0, 0]

noncomputable def rsmallS : Sum := fun args _ fr => match args with
  | [.nat k n _ hi] => bif keq k .i64 && Nat.ble hi 65535 then some (true, sl16 fr, [(fr, some ⟨false, row16 (smallN n)⟩)]) else none
  | _ => none

noncomputable def rofS : Sum := fun args _ fr => match args with
  | [x] => match bytes? x with
    | some bs => some (true, sl16 fr, [(fr, some ⟨false, row16 (digN (ofV bs % P25))⟩)])
    | none => none
  | _ => none

/-- A sum's carries. -/
noncomputable def raddC (xs ys : List Nat) : Nat → Nat
  | 0 => 0
  | i + 1 => (xs.getD i 0 + ys.getD i 0 + raddC xs ys i) / 65536
noncomputable def raddL (xs ys : List Nat) : List Nat := ([0, 1, 2, 3, 4, 5, 6, 7, 8, 9, 10, 11, 12, 13, 14, 15].map fun i => (xs.getD i 0 + ys.getD i 0 + raddC xs ys i) % 65536) ++ [raddC xs ys 16]

theorem raddC_sum (xs ys : List Nat) : ∀ k, valL ((List.range k).map fun i => (xs.getD i 0 + ys.getD i 0 + raddC xs ys i) % 65536) + raddC xs ys k * 65536 ^ k = valL (xs.take k) + valL (ys.take k)
  | 0 => by simp [valL, raddC]
  | k + 1 => by
    have ih := raddC_sum xs ys k
    rw [List.range_succ, List.map_append, valL_append, valL_take, valL_take]
    simp only [List.map_cons, List.map_nil, valL, List.length_map, List.length_range, raddC, Nat.mul_zero, Nat.add_zero]
    generalize xs.getD k 0 = u at *
    generalize ys.getD k 0 = v at *
    generalize raddC xs ys k = c at *
    rw [Nat.pow_succ]
    generalize 65536 ^ k = t at *
    have e : (u + v + c) / 65536 * (t * 65536) + t * ((u + v + c) % 65536) = u * t + v * t + c * t := by
      rw [Nat.mul_comm t 65536, ← Nat.mul_assoc, Nat.mul_comm t, ← Nat.add_mul, ← Nat.add_mul, ← Nat.add_mul]
      congr 1; omega
    omega

theorem raddL_val {xs ys : List Nat} (hl : xs.length = 16) (hl' : ys.length = 16) : valL (raddL xs ys) = valL xs + valL ys := by
  have h := raddC_sum xs ys 16
  rw [valL_all (l := xs) (n := 16) (by omega), valL_all (l := ys) (n := 16) (by omega)] at h
  have e : raddL xs ys = ((List.range 16).map fun i => (xs.getD i 0 + ys.getD i 0 + raddC xs ys i) % 65536) ++ [raddC xs ys 16] := rfl
  rw [e, valL_append]
  simp only [valL, List.length_map, List.length_range, Nat.mul_zero, Nat.add_zero]
  rw [Nat.mul_comm]
  exact h

section
variable {P : Program}

theorem rsmallS_ok {f : FuncId} {fn : Func} (hf : P.funcs[f]? = some fn) (hn : (fn.name == "runtime.NumGoroutine") = false) (hb : fn.body.isNone = false) (ht : 1 ≤ fn.ntmps) {X : Nat}
    (h : ∀ n, RunF P fn 0 [.int .i64 n] [] (KF (sl16 X) [(X, [.ints .i64 16 (smallI n)])])) : SumOk P f rsmallS := by
  refine fun_new hf hn hb fun args H fr v us he hin _ => ?_
  unfold rsmallS at he
  split at he
  · rename_i k n lo hi
    cases hk : (keq k .i64 && Nat.ble hi 65535) <;> rw [hk] at he <;> simp only [cond_false, cond_true, reduceCtorEq, Option.some.injEq, Prod.mk.injEq, true_and] at he
    simp only [Bool.and_eq_true] at hk
    have := keq_eq hk.1; subst this
    have hhi := ble_le hk.2
    obtain ⟨rfl, rfl⟩ := he
    obtain ⟨L, u, hu⟩ := hin 0
    have hle : n ≤ 65535 := by
      have h2 : val L (.nat .i64 n lo hi) u := hu
      exact Nat.le_trans h2.2.2 hhi
    refine ⟨smallN n, rfl, rfl, 0, [.int .i64 (n : Int)], [], id, X, Nat.zero_le _, ⟨rfl, fun i => ?_, rfl, ht, fun n r hr => by simp [lk?_nil] at hr⟩, ?_⟩
    · cases i with
      | zero => exact fun L v hv => hv.1
      | succ i => simp [ren]; exact Fit.refl _
    · refine (h n).mono fun v H hk => ⟨hk.1, fun p hp => ?_⟩
      simp only [List.mem_singleton] at hp; subst hp
      obtain ⟨r, hr, hro, hf⟩ := hk.2 _ (List.mem_singleton.2 rfl)
      refine ⟨r, hr, hro, hf.trans ?_⟩
      have hz : ∀ z ∈ smallI (n : Int), 0 ≤ z ∧ z ≤ ((65535 : Nat) : Int) := by
        intro z hz
        simp only [smallI, List.mem_cons, List.not_mem_nil, or_false] at hz
        omega
      exact fitL_nats (hi := 65535) hz
  · simp at he

theorem rofS_ok {f : FuncId} {fn : Func} (hf : P.funcs[f]? = some fn) (hn : (fn.name == "runtime.NumGoroutine") = false) (hb : fn.body.isNone = false) (ht : 1 ≤ fn.ntmps) {X : Nat}
    (h : ∀ bs, RunF P fn 0 [.nats .u8 255 32 bs] [] (KF (sl16 X) [(X, row16 (digN (ofV bs % P25)))])) : SumOk P f rofS := by
  refine fun_new hf hn hb fun args H fr v us he _ _ => ?_
  unfold rofS at he
  split at he
  · rename_i x
    split at he
    · rename_i bs hx
      simp only [Option.some.injEq, Prod.mk.injEq, true_and] at he
      obtain ⟨rfl, rfl⟩ := he
      exact ⟨_, rfl, rfl, 0, _, [], id, X, Nat.zero_le _, canon_bytes ht hx, h bs⟩
    · simp at he
  · simp at he

end

theorem smallN_ok {n : Nat} (h : n ≤ 65535) : smallN n = digN n := by
  have : valL (smallN n) = n := by simp [smallN, valL]
  rw [← digN_valL (l := smallN n) rfl (fun d hd => by simp [smallN] at hd; omega), this]

end Go.Bx

/-
  The reference's numbers: products, differences.
-/
namespace Go.Bx

noncomputable def rmulIn (x : Nat) (ys : List Nat) (i j : Nat) (p : List Nat × Nat) : List Nat × Nat :=
  let n := p.1.getD (i + j) 0 + x * ys.getD j 0 + p.2
  (p.1.set (i + j) (n % 65536), n / 65536)
noncomputable def rmulRow (xs ys : List Nat) (i : Nat) (t : List Nat) : List Nat :=
  let p := iter (rmulIn (xs.getD i 0) ys i) 16 (t, 0)
  p.1.set (i + 16) (p.1.getD (i + 16) 0 + p.2)
noncomputable def rmulW (xs ys : List Nat) : List Nat := iter (rmulRow xs ys) 16 (List.replicate 32 0)

theorem set_le {l : List Nat} {i d b : Nat} (h : ∀ x ∈ l, x ≤ b) (hd : d ≤ b) : ∀ x ∈ l.set i d, x ≤ b := fun x hx => by
  rcases List.mem_or_eq_of_mem_set hx with hx | rfl
  · exact h x hx
  · exact hd

theorem rmulIn_ok {x i : Nat} {ys t : List Nat} (hx : x ≤ 65535) (hy : ∀ y ∈ ys, y ≤ 65535) (ht : t.length = 32) (hd : ∀ d ∈ t, d ≤ 65535) (hi : i < 16) : ∀ j, j ≤ 16 → ∀ p, p = iter (rmulIn x ys i) j (t, 0) →
    p.1.length = 32 ∧ (∀ d ∈ p.1, d ≤ 65535) ∧ p.2 ≤ 65535 ∧ (∀ k, i + j ≤ k → p.1.getD k 0 = t.getD k 0) ∧ valL p.1 + p.2 * 65536 ^ (i + j) = valL t + 65536 ^ i * (x * valL (ys.take j))
  | 0, _, p, hp => by
    subst hp
    exact ⟨ht, hd, Nat.zero_le _, fun _ _ => rfl, by simp [iter, valL]⟩
  | j + 1, hj, p, hp => by
    obtain ⟨h1, h2, h3, h4, h5⟩ := rmulIn_ok hx hy ht hd hi j (by omega) _ rfl
    have hs : iter (rmulIn x ys i) (j + 1) (t, 0) = rmulIn x ys i j (iter (rmulIn x ys i) j (t, 0)) := rfl
    rw [hs] at hp
    generalize iter (rmulIn x ys i) j (t, 0) = q at *
    obtain ⟨r, c⟩ := q
    simp only at h1 h2 h3 h4 h5
    have hr := getD_le h2 (i + j)
    have hyj := getD_le hy j
    have hxy : x * ys.getD j 0 ≤ 65535 * 65535 := Nat.mul_le_mul hx hyj
    generalize hn : r.getD (i + j) 0 + x * ys.getD j 0 + c = n
    have e : rmulIn x ys i j (r, c) = (r.set (i + j) (n % 65536), n / 65536) := by simp only [rmulIn, hn]
    rw [e] at hp
    subst hp
    have hlen : i + j < r.length := by omega
    have hset := valL_set r (i + j) (n % 65536) hlen
    simp only
    refine ⟨by simpa using h1, set_le h2 (by omega), by omega, fun k hk => ?_, ?_⟩
    · rw [getD_setN _ _ _ _ hlen, if_neg (by omega)]
      exact h4 k (by omega)
    · rw [valL_take, Nat.mul_add, Nat.mul_add, show i + (j + 1) = (i + j) + 1 by omega, Nat.pow_succ]
      have e2 : 65536 ^ i * (x * (ys.getD j 0 * 65536 ^ j)) = x * ys.getD j 0 * 65536 ^ (i + j) := by
        rw [Nat.pow_add, ← Nat.mul_assoc x, Nat.mul_left_comm]
      rw [e2]
      generalize 65536 ^ (i + j) = u at *
      have e3 : n / 65536 * (u * 65536) + n % 65536 * u = n * u := by
        rw [Nat.mul_comm u 65536, ← Nat.mul_assoc, ← Nat.add_mul]
        congr 1; omega
      have e4 : n * u = r.getD (i + j) 0 * u + x * ys.getD j 0 * u + c * u := by rw [← hn, Nat.add_mul, Nat.add_mul]
      omega

theorem rmulW_ok {xs ys : List Nat} (hl : xs.length = 16) (hl' : ys.length = 16) (hx : ∀ x ∈ xs, x ≤ 65535) (hy : ∀ y ∈ ys, y ≤ 65535) : (rmulW xs ys).length = 32 ∧ (∀ d ∈ rmulW xs ys, d ≤ 65535) ∧ valL (rmulW xs ys) = valL xs * valL ys := by
  have key : ∀ i, i ≤ 16 → ∀ t, t = iter (rmulRow xs ys) i (List.replicate 32 0) → t.length = 32 ∧ (∀ d ∈ t, d ≤ 65535) ∧ (∀ k, i + 16 ≤ k → t.getD k 0 = 0) ∧ valL t = valL (xs.take i) * valL ys := by
    intro i
    induction i with
    | zero =>
      intro _ t ht
      subst ht
      refine ⟨rfl, fun d hd => by simp [iter] at hd; omega, fun k hk => ?_, ?_⟩
      · rw [List.getD_eq_getElem?_getD]
        simp only [iter, List.getElem?_replicate]
        split <;> rfl
      · simp only [iter, List.take_zero, valL, Nat.zero_mul]; decide
    | succ i ih =>
      intro hi t ht
      obtain ⟨h1, h2, h3, h4⟩ := ih (by omega) _ rfl
      have hs : iter (rmulRow xs ys) (i + 1) (List.replicate 32 0) = rmulRow xs ys i (iter (rmulRow xs ys) i (List.replicate 32 0)) := rfl
      rw [hs] at ht
      generalize iter (rmulRow xs ys) i (List.replicate 32 0) = r at *
      obtain ⟨g1, g2, g3, g4, g5⟩ := rmulIn_ok (getD_le hx i) hy h1 h2 (i := i) (by omega) 16 (Nat.le_refl _) _ rfl
      have e : rmulRow xs ys i r = (iter (rmulIn (xs.getD i 0) ys i) 16 (r, 0)).1.set (i + 16) ((iter (rmulIn (xs.getD i 0) ys i) 16 (r, 0)).1.getD (i + 16) 0 + (iter (rmulIn (xs.getD i 0) ys i) 16 (r, 0)).2) := by simp only [rmulRow]
      rw [e] at ht
      generalize iter (rmulIn (xs.getD i 0) ys i) 16 (r, 0) = p at *
      have hz : p.1.getD (i + 16) 0 = 0 := by rw [g4 _ (Nat.le_refl _), h3 _ (Nat.le_refl _)]
      rw [hz, Nat.zero_add] at ht
      subst ht
      have hlen : i + 16 < p.1.length := by omega
      have hset := valL_set p.1 (i + 16) p.2 hlen
      rw [hz] at hset
      refine ⟨by simpa using g1, set_le g2 g3, fun k hk => ?_, ?_⟩
      · rw [getD_setN _ _ _ _ hlen, if_neg (by omega), g4 k (by omega), h3 k (by omega)]
      · rw [valL_all (l := ys) (n := 16) (by omega)] at g5
        rw [valL_take, Nat.add_mul, ← h4, Nat.mul_comm (xs.getD i 0), Nat.mul_assoc]
        omega
  obtain ⟨h1, h2, _, h4⟩ := key 16 (Nat.le_refl _) _ rfl
  rw [valL_all (l := xs) (n := 16) (by omega)] at h4
  exact ⟨h1, h2, h4⟩

/-- A difference, modulo the prime. -/
noncomputable def rsubW (xs ys : List Nat) : List Nat := cond (atLeastW xs ys 16) (rlessW xs ys) (rlessW pW (rlessW ys xs))

theorem rsubW_ok {a b : Nat} (ha : a < P25) (hb : b < P25) : rsubW (digN a) (digN b) = digN ((a + (P25 - b)) % P25) := by
  obtain ⟨p1, p2, p3⟩ := pW_ok
  obtain ⟨q, hq⟩ : ∃ q, q = P25 := ⟨_, rfl⟩
  rw [← hq] at ha hb p3 ⊢
  have hq' : q = 57896044618658097711785492504343953926634992332820282019728792003956564819949 := hq
  have va : valL (digN a) = a := valL_digN (by omega)
  have vb : valL (digN b) = b := valL_digN (by omega)
  unfold rsubW
  rw [atLeast16 (digN_len a) (digN_len b) (digN_le a) (digN_le b), va, vb]
  by_cases h : b ≤ a
  · rw [decide_eq_true h, cond_true, rlessW_ok (digN_len a) (digN_len b) (digN_le a) (digN_le b) (by rw [va, vb]; exact h), va, vb]
    have e : a + (q - b) = (a - b) + q := by omega
    rw [e, Nat.add_mod_right, Nat.mod_eq_of_lt (by omega)]
  · have hv : valL (digN (b - a)) = b - a := valL_digN (by omega)
    rw [decide_eq_false h, cond_false, rlessW_ok (digN_len b) (digN_len a) (digN_le b) (digN_le a) (by rw [va, vb]; omega), va, vb, rlessW_ok p1 (digN_len _) p2 (digN_le _) (by rw [p3, hv]; omega), p3, hv]
    have e : a + (q - b) = q - (b - a) := by omega
    rw [e, Nat.mod_eq_of_lt (by omega)]

end Go.Bx

/-
  fe's laws, without a program.
-/
namespace Go.Bx

theorem leBytes_inj_go {n m : Nat} (h : ∀ j, j < 32 → n / 256 ^ j % 256 = m / 256 ^ j % 256) : ∀ k, k ≤ 32 → n % 256 ^ k = m % 256 ^ k
  | 0, _ => by simp [Nat.mod_one]
  | k + 1, hk => by
    rw [Nat.pow_succ, Nat.mod_mul, Nat.mod_mul, leBytes_inj_go h k (by omega), h k (by omega)]

theorem leBytes_inj {n m : Nat} (hn : n < 65536 ^ 16) (hm : m < 65536 ^ 16) : leBytes n = leBytes m ↔ n = m := by
  refine ⟨fun h => ?_, fun h => by rw [h]⟩
  have := leBytes_inj_go (n := n) (m := m) (fun j hj => by rw [← leBytes_get hj, ← leBytes_get hj, h]) 32 (Nat.le_refl _)
  rw [Nat.mod_eq_of_lt (by omega), Nat.mod_eq_of_lt (by omega)] at this
  exact this

theorem P25_lt : P25 < 65536 ^ 15 * 32768 := by decide

theorem fval_lt16 (l : List Int) : fval l < 65536 ^ 16 := Nat.lt_trans (fval_lt l) (by decide)
theorem modP_lt (n : Nat) : n % P25 < P25 := Nat.mod_lt _ (by decide)
theorem modP_lt16 (n : Nat) : n % P25 < 65536 ^ 16 := Nat.lt_trans (modP_lt n) (by decide)

theorem bytesW_eq {xs ys : List Int} (hx : Elem xs) (hy : Elem ys) : (bytesW xs == bytesW ys) = decide (fval xs = fval ys) := by
  rw [bytesW_ok hx, bytesW_ok hy]
  by_cases h : fval xs = fval ys
  · rw [h, decide_eq_true rfl]; simp
  · rw [decide_eq_false h]
    have : ¬ leBytes (fval xs) = leBytes (fval ys) := fun e => h ((leBytes_inj (fval_lt16 _) (fval_lt16 _)).1 e)
    simpa using this

theorem odd_ok {xs : List Int} (hx : Elem xs) : Nat.beq ((bytesW xs).getD 0 0 &&& 1) 1 = Nat.beq (fval xs % 2) 1 := by
  rw [bytesW_ok hx, leBytes_get (by omega), Nat.and_one_is_mod]
  congr 1
  simp

theorem same_ok {n m : Nat} (hn : n < 65536 ^ 16) (hm : m < 65536 ^ 16) : (cond (atLeastW (digN n) (digN m) 16) (atLeastW (digN m) (digN n) 16) false) = decide (n = m) := by
  rw [atLeast16 (digN_len _) (digN_len _) (digN_le _) (digN_le _), atLeast16 (digN_len _) (digN_len _) (digN_le _) (digN_le _), valL_digN hn, valL_digN hm]
  by_cases h : n = m
  · subst h; simp
  · rw [decide_eq_false h]
    by_cases h1 : m ≤ n
    · rw [decide_eq_true h1, decide_eq_false (by omega)]; rfl
    · rw [decide_eq_false h1]; rfl

theorem getD_cast_digN (n : Nat) : (digN n).getD 0 0 % 2 = n % 2 := by
  rw [digN_get (by omega)]
  simp
end Go.Bx

/-
  Arguments that are arrays of integers, opened; a law's call from its run.
-/
namespace Go.Bx
open Go.ChangeShapes Go.WideShapes Go.ChangeAt Go.RowKit
section
variable {H : Type} {enc : TypeId × Value → H} {P : Program} {W : World} {base : Nat} {sp : Nat → Bool} {held : Bool} {e t : TypeId} {q : IntKind}

theorem mapM_ints (he : P.underlying e = some (.int q)) {fuel : Nat} {xs : List Value} : ∀ (L : List Nat) (ys : List (DataW H × List MemPlace)),
    L.mapM (fun i => DataW.trod enc P W base sp held fuel e (List.take 1 (List.drop (i * 1) xs))) = some ys → ∀ i ∈ L, ∃ a, xs[i]? = some (.int q a) ∧ (Lit.int q a).wf = true
  | [], _, _, i, hi => by simp at hi
  | j :: L, ys, h, i, hi => by
    rw [List.mapM_cons] at h
    simp only [bind, Option.bind_eq_some_iff, pure, Option.some.injEq] at h
    obtain ⟨y, hy, zs, hzs, rfl⟩ := h
    rcases List.mem_cons.1 hi with rfl | hi
    · obtain ⟨a, ea, _, wa⟩ := DataW.trod_int he hy
      refine ⟨a, ?_, wa⟩
      have : (List.take 1 (List.drop (i * 1) xs))[0]? = some (.int q a) := by rw [ea]; rfl
      simpa using this
    · exact mapM_ints he L zs hzs i hi

/-- An array of integers that came in. -/
theorem open_array {n : Nat} (hu : P.underlying t = some (.array n e)) (he : P.underlying e = some (.int q)) (h1 : P.cellsOf e = 1) (hn : P.cellsOf t = n) {r : Reach} {b0 : Nat} {v : Value} {d : DataW H} {ps : List MemPlace} (hval : Value.okWide P W r b0 t v) (hd : DataW.Trod enc P W base sp held t v d ps) :
    ∃ zs : List Int, v = .agg (zs.map (Value.int q)).toArray ∧ zs.length = n ∧ ∀ z ∈ zs, (Lit.int q z).wf = true := by
  unfold Value.okWide at hval
  simp only [hu] at hval
  obtain ⟨xs, rfl, hsz, _⟩ := hval
  obtain ⟨fuel, hf⟩ := hd
  cases fuel with
  | zero => simp [DataW.trod] at hf
  | succ m =>
    rw [DataW.trod_step] at hf
    unfold DataW.trodStep at hf
    simp only [hu, Value.cells, h1] at hf
    rw [if_pos (by rw [← hsz]; simp)] at hf
    simp only [Option.map_eq_some_iff] at hf
    obtain ⟨ys, hy, _⟩ := hf
    have hall := mapM_ints he _ ys hy
    rw [hn] at hsz
    let g : Value → Int := fun v => match v with | .int _ a => a | _ => 0
    have hat : ∀ i, i < n → ∃ a, xs.toList[i]? = some (.int q a) ∧ (Lit.int q a).wf = true := fun i hi => hall i (List.mem_range.2 hi)
    refine ⟨xs.toList.map g, ?_, by simpa using hsz, fun z hz => ?_⟩
    · congr 1
      apply Array.ext'
      simp only [List.map_map]
      apply List.ext_getElem?
      intro i
      rcases Nat.lt_or_ge i n with hi | hi
      · obtain ⟨a, ha, _⟩ := hat i hi
        rw [ha, List.getElem?_map, ha]; rfl
      · rw [List.getElem?_eq_none (by simpa [hsz] using hi), List.getElem?_eq_none (by simpa [hsz] using hi)]
    · obtain ⟨v, hv, rfl⟩ := List.mem_map.1 hz
      obtain ⟨i, hi, rfl⟩ := List.mem_iff_getElem.1 hv
      obtain ⟨a, ha, hw⟩ := hat i (by simpa [hsz] using hi)
      rw [List.getElem?_eq_getElem hi] at ha
      simp only [Option.some.injEq] at ha
      rw [ha]; exact hw
end

/-- Bytes that came in. -/
theorem bytes_val {L : Lo} {zs : List Int} {n : Nat} (hl : zs.length = n) (h : ∀ z ∈ zs, (Lit.int .u8 z).wf = true) : (∀ b ∈ zs.map Int.toNat, b ≤ 255) ∧ val L (.nats .u8 255 n (zs.map Int.toNat)) (.agg (zs.map (Value.int .u8)).toArray) := by
  have hz : ∀ z ∈ zs, 0 ≤ z ∧ z ≤ 255 := fun z hz => by
    have := h z hz
    simp [Lit.wf, IntKind.min, IntKind.max, IntKind.signed, IntKind.bits] at this
    omega
  have hb : ∀ b ∈ zs.map Int.toNat, b ≤ 255 := fun b hb => by
    obtain ⟨z, hzm, rfl⟩ := List.mem_map.1 hb
    have := hz z hzm
    omega
  refine ⟨hb, _, ⟨by simpa using hl, hb, rfl⟩, ?_⟩
  congr 2
  rw [List.map_map]
  refine List.map_congr_left fun z hzm => ?_
  have := (hz z hzm).1
  simp only [Function.comp]
  congr 1; omega

/-- A law's call: it gives true, and what was there is as it was. -/
theorem law_calls {P : Program} {f : FuncId} {fn : Func} (hf : P.funcs[f]? = some fn) {cargs : List AVal} (hw : RunF P fn 0 cargs [] (KF (.bool true) [])) (hn : cargs.length ≤ fn.ntmps) {w : World} {vs : List Value}
    (hrel : cargs.length = vs.length ∧ ∀ i, val ⟨fun _ => ⟨0, 0, 0⟩, fun _ => False⟩ (cargs.getD i .any) (vs.getD i undef)) :
    Calls P f vs.toArray w fun e w' => e = .returned (.bool true) ∧ Below w.heap.size w w' := by
  have g : Good (fun b => b < w.heap.size) w ⟨fun _ => ⟨0, 0, 0⟩, fun _ => False⟩ (lk? []) w := by
    refine ⟨rfl, rfl, rfl, Nat.le_refl _, fun _ _ => rfl, fun _ h => h, ?_, ?_, ?_, ?_, ?_⟩ <;> intros <;> simp_all [lk?_nil]
  refine (calls_ok (F := fun b => b < w.heap.size) (w0 := w) hf hw hn g (fun _ _ h => h) hrel).mono fun e w' h => ?_
  obtain ⟨v, v', L', h', rfl, _, hv, hg, hk⟩ := h
  have := hk.1 _ _ hv
  simp only [val, val1, val0] at this
  subst this
  exact ⟨rfl, hg.os, hg.tape, hg.output, hg.size, hg.keep⟩

end Go.Bx
