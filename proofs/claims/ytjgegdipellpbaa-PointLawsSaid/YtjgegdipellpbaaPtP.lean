/-
  Parts of the proofs: PtA0, PtB0, PtM0, PtO0, RpA0, RpB0, RpD0, RpE0, RpM0, RpN0, PtG, PtG2, RpG, PtH, PtI.
  No condition.
-/
import Derived.Test.YtjgegdipellpbaaFeG
import Derived.Test.YtjgegdipellpbaaEdA
/-
  Points: what their functions compute.
-/
namespace Go.Bx

structure P4 where
  x : List Int
  y : List Int
  z : List Int
  t : List Int

noncomputable def ptV (p : P4) : AVal := .agg [el p.x, el p.y, el p.z, el p.t]
noncomputable def pt? : AVal → Option P4
  | .agg [a, b, c, d] => match i64s a, i64s b, i64s c, i64s d with
    | some x, some y, some z, some t => some ⟨x, y, z, t⟩
    | _, _, _, _ => none
  | _ => none

noncomputable def invW (x : List Int) : List Int := powW x (numW 21 0)
noncomputable def oneW : List Int := small1 (1 : Nat)
noncomputable def curveW : List Int := negW (mulW (addW (small1 (60832 : Nat)) (small1 (60833 : Nat))) (invW (addW (small1 (60833 : Nat)) (small1 (60833 : Nat)))))
noncomputable def madeW (x y : List Int) : P4 := ⟨x, y, oneW, mulW x y⟩
noncomputable def noughtW : P4 := madeW (small1 (0 : Nat)) oneW
noncomputable def firstX (y : List Int) : List Int := mulW (subW (mulW y y) oneW) (invW (addW (mulW curveW (mulW y y)) oneW))
noncomputable def baseY : List Int := mulW (small1 (4 : Nat)) (invW (small1 (5 : Nat)))

theorem fit_agg4 {a b c d a' b' c' d' : AVal} (h1 : FitL [a, b, c, d] [a', b', c', d']) : Fit (.agg [a, b, c, d]) (.agg [a', b', c', d']) := fun L v hv => by
  obtain ⟨cs, h, e⟩ := hv
  exact ⟨cs, h1 L cs h, e⟩

theorem i64s_piece {a : AVal} {xs : List Int} (h : i64s a = some xs) (L : Lo) (cs : List Value) (hp : piece L a cs) : piece L (el xs) cs := by
  have ha : isArr a = true := by cases a <;> simp [i64s] at h <;> rfl
  exact (piece_arr (a := el xs) rfl).2 (i64s_fit h L _ ((piece_arr ha).1 hp))

theorem pt_fit {a : AVal} {p : P4} (h : pt? a = some p) : Fit a (ptV p) := by
  unfold pt? at h
  split at h
  · rename_i a b c d
    split at h
    · rename_i x y z t h1 h2 h3 h4
      simp only [Option.some.injEq] at h
      subst h
      refine fit_agg4 fun L cs hc => ?_
      obtain ⟨c1, r1, e1, p1, q1⟩ := hc
      obtain ⟨c2, r2, e2, p2, q2⟩ := q1
      obtain ⟨c3, r3, e3, p3, q3⟩ := q2
      obtain ⟨c4, r4, e4, p4, q4⟩ := q3
      exact ⟨c1, r1, e1, i64s_piece h1 L _ p1, c2, r2, e2, i64s_piece h2 L _ p2, c3, r3, e3, i64s_piece h3 L _ p3, c4, r4, e4, i64s_piece h4 L _ p4, q4⟩
    · simp at h
  · simp at h

noncomputable def psum1 (g : P4 → AVal) : Sum := fun args _ _ => match args with
  | [x] => match pt? x with
    | some p => some (true, g p, [])
    | none => none
  | _ => none
noncomputable def psum2 (g : P4 → P4 → AVal) : Sum := fun args _ _ => match args with
  | [x, y] => match pt? x, pt? y with
    | some p, some q => some (true, g p q, [])
    | _, _ => none
  | _ => none

section
variable {P : Program}
theorem psum1_ok {f : FuncId} {fn : Func} (hf : P.funcs[f]? = some fn) (hn : (fn.name == "runtime.NumGoroutine") = false) (hb : fn.body.isNone = false) (ht : 1 ≤ fn.ntmps) {g : P4 → AVal} (hg : ∀ p, allN (fun _ => false) (g p) = true)
    (h : ∀ p, RunF P fn 0 [ptV p] [] (KF (g p) [])) : SumOk P f (psum1 g) := by
  refine fun_val hf hn hb fun args H fr v us he => ?_
  unfold psum1 at he
  split at he
  · rename_i x
    split at he
    · rename_i p hx
      simp only [Option.some.injEq, Prod.mk.injEq, true_and] at he
      obtain ⟨rfl, rfl⟩ := he
      exact ⟨rfl, [ptV p], rfl, fits_get rfl (by simpa using pt_fit hx), rfl, hg p, ht, h p⟩
    · simp at he
  · simp at he
theorem psum2_ok {f : FuncId} {fn : Func} (hf : P.funcs[f]? = some fn) (hn : (fn.name == "runtime.NumGoroutine") = false) (hb : fn.body.isNone = false) (ht : 2 ≤ fn.ntmps) {g : P4 → P4 → AVal} (hg : ∀ p q, allN (fun _ => false) (g p q) = true)
    (h : ∀ p q, RunF P fn 0 [ptV p, ptV q] [] (KF (g p q) [])) : SumOk P f (psum2 g) := by
  refine fun_val hf hn hb fun args H fr v us he => ?_
  unfold psum2 at he
  split at he
  · rename_i x y
    split at he
    · rename_i p q hx hy
      simp only [Option.some.injEq, Prod.mk.injEq, true_and] at he
      obtain ⟨rfl, rfl⟩ := he
      exact ⟨rfl, [ptV p, ptV q], rfl, fits_get rfl (by simpa using ⟨pt_fit hx, pt_fit hy⟩), rfl, hg p q, ht, h p q⟩
    · simp at he
  · simp at he
end
end Go.Bx

/-
  Points: sums, bytes.
-/
namespace Go.Bx

noncomputable def oddX (x : List Int) : Bool := Nat.beq ((bytesW x).getD 0 0 &&& 1) 1
noncomputable def pbytesW (p : P4) : List Nat := cond (oddX (mulW p.x (invW p.z))) ((bytesW (mulW p.y (invW p.z))).set 31 ((bytesW (mulW p.y (invW p.z))).getD 31 0 ||| 128)) (bytesW (mulW p.y (invW p.z)))
noncomputable def psumW (p q : P4) (dd : List Int) : P4 :=
  let a := mulW (subW p.y p.x) (subW q.y q.x)
  let b := mulW (addW p.y p.x) (addW q.y q.x)
  let c := mulW (mulW p.t q.t) dd
  let d := addW (mulW p.z q.z) (mulW p.z q.z)
  let e := subW b a
  let f := subW d c
  let g := addW d c
  let h := addW b a
  ⟨mulW e f, mulW g h, mulW f g, mulW e h⟩
noncomputable def ddW : List Int := addW curveW curveW
noncomputable def paddW (p q : P4) : P4 := psumW p q ddW
noncomputable def pnegW (p : P4) : P4 := ⟨negW p.x, p.y, p.z, negW p.t⟩
noncomputable def ponW (p : P4) : Bool :=
  cond (bytesW p.z == bytesW (small1 (0 : Nat))) false
    (bytesW (subW (mulW (mulW p.y (invW p.z)) (mulW p.y (invW p.z))) (mulW (mulW p.x (invW p.z)) (mulW p.x (invW p.z)))) ==
      bytesW (addW oneW (mulW (mulW curveW (mulW (mulW p.x (invW p.z)) (mulW p.x (invW p.z)))) (mulW (mulW p.y (invW p.z)) (mulW p.y (invW p.z))))))
noncomputable def pswapW (p q : P4) (b : Bool) : P4 × P4 := (⟨chB p.x q.x b, chB p.y q.y b, chB p.z q.z b, chB p.t q.t b⟩, ⟨chB q.x p.x b, chB q.y p.y b, chB q.z p.z b, chB q.t p.t b⟩)
noncomputable def baseP : P4 := madeW (rtW (firstX baseY)) baseY

noncomputable def sumS : Sum := fun args _ _ => match args with
  | [x, y, d] => match pt? x, pt? y, i64s d with
    | some p, some q, some dd => some (true, ptV (psumW p q dd), [])
    | _, _, _ => none
  | _ => none
noncomputable def swapPS : Sum := fun args _ _ => match args with
  | [x, y, b] => match pt? x, pt? y, boolOf b with
    | some p, some q, some b => some (true, .tuple [ptV (pswapW p q b).1, ptV (pswapW p q b).2], [])
    | _, _, _ => none
  | _ => none

section
variable {P : Program}
theorem sumS_ok {f : FuncId} {fn : Func} (hf : P.funcs[f]? = some fn) (hn : (fn.name == "runtime.NumGoroutine") = false) (hb : fn.body.isNone = false) (ht : 3 ≤ fn.ntmps)
    (h : ∀ p q d, RunF P fn 0 [ptV p, ptV q, el d] [] (KF (ptV (psumW p q d)) [])) : SumOk P f sumS := by
  refine fun_val hf hn hb fun args H fr v us he => ?_
  unfold sumS at he
  split at he
  · rename_i x y d
    split at he
    · rename_i p q dd hx hy hd
      simp only [Option.some.injEq, Prod.mk.injEq, true_and] at he
      obtain ⟨rfl, rfl⟩ := he
      exact ⟨rfl, [ptV p, ptV q, el dd], rfl, fits_get rfl (by simpa using ⟨pt_fit hx, pt_fit hy, i64s_fit hd⟩), rfl, rfl, ht, h p q dd⟩
    · simp at he
  · simp at he
theorem swapPS_ok {f : FuncId} {fn : Func} (hf : P.funcs[f]? = some fn) (hn : (fn.name == "runtime.NumGoroutine") = false) (hb : fn.body.isNone = false) (ht : 3 ≤ fn.ntmps)
    (h : ∀ p q b, RunF P fn 0 [ptV p, ptV q, .ob b] [] (KF (.tuple [ptV (pswapW p q b).1, ptV (pswapW p q b).2]) [])) : SumOk P f swapPS := by
  refine fun_val hf hn hb fun args H fr v us he => ?_
  unfold swapPS at he
  split at he
  · rename_i x y d
    split at he
    · rename_i p q b hx hy hd
      simp only [Option.some.injEq, Prod.mk.injEq, true_and] at he
      obtain ⟨rfl, rfl⟩ := he
      exact ⟨rfl, [ptV p, ptV q, .ob b], rfl, fits_get rfl (by simpa using ⟨pt_fit hx, pt_fit hy, boolOf_fit hd⟩), rfl, rfl, ht, h p q b⟩
    · simp at he
  · simp at he
end
end Go.Bx

/-
  Points: a number of times one.
-/
namespace Go.Bx

structure PM where
  o : P4
  m : P4

noncomputable def pmStep (dd : List Int) (bit : Bool) (s : PM) : PM :=
  let w := pswapW s.o s.m bit
  let m := psumW w.2 w.1 dd
  let o := psumW w.1 w.1 dd
  let v := pswapW o m bit
  ⟨v.1, v.2⟩
noncomputable def pmD (dd : List Int) (bs : List Nat) (p : P4) : Nat → PM
  | 0 => ⟨noughtW, p⟩
  | k + 1 => pmStep dd (powBit bs (255 - k)) (pmD dd bs p k)
noncomputable def zeroP : P4 := ⟨zI 16, zI 16, zI 16, zI 16⟩
noncomputable def noZ (p : P4) : Bool := bytesW p.z == bytesW (small1 (0 : Nat))
noncomputable def pmulW (p : P4) (bs : List Nat) : P4 := bif noZ p then zeroP else (pmD ddW bs p 256).o

noncomputable def rowP (p : P4) : List AVal := [el p.x, el p.y, el p.z, el p.t]
noncomputable def z16 : AVal := .nats .i64 0 16 (List.replicate 16 0)
noncomputable def pmSt (c : AVal) (bs : List Nat) (dd : List Int) (o m : P4) : St :=
  ⟨[(3, .ptr 0 0), (4, .ptr 1 0), (6, .ptr 2 0), (7, .ptr 3 0), (8, .ptr 4 0), (9, c)],
   [(0, ⟨false, [by32 bs]⟩), (1, ⟨false, [z16, z16, z16, z16]⟩), (2, ⟨false, [el dd]⟩), (3, ⟨false, rowP o⟩), (4, ⟨false, rowP m⟩)], 5, [], []⟩

noncomputable def pbS (g : P4 → List Nat → AVal) : Sum := fun args _ _ => match args with
  | [x, y] => match pt? x, bytes? y with
    | some p, some bs => some (true, g p bs, [])
    | _, _ => none
  | _ => none
theorem pbS_ok {P : Program} {f : FuncId} {fn : Func} (hf : P.funcs[f]? = some fn) (hn : (fn.name == "runtime.NumGoroutine") = false) (hb : fn.body.isNone = false) (ht : 2 ≤ fn.ntmps) {g : P4 → List Nat → AVal} (hg : ∀ p q, allN (fun _ => false) (g p q) = true)
    (h : ∀ p bs, RunF P fn 0 [ptV p, by32 bs] [] (KF (g p bs) [])) : SumOk P f (pbS g) := by
  refine fun_val hf hn hb fun args H fr v us he => ?_
  unfold pbS at he
  split at he
  · rename_i x y
    split at he
    · rename_i p q hx hy
      simp only [Option.some.injEq, Prod.mk.injEq, true_and] at he
      obtain ⟨rfl, rfl⟩ := he
      exact ⟨rfl, [ptV p, by32 q], rfl, fits_get rfl (by simpa [by32] using ⟨pt_fit hx, bytes_fit hy⟩), rfl, hg p q, ht, h p q⟩
    · simp at he
  · simp at he
end Go.Bx

/-
  Points: of bytes.
-/
namespace Go.Bx

noncomputable def yB (bs : List Nat) : List Nat := bs.set 31 (bs.getD 31 0 &&& 127)
noncomputable def yE (bs : List Nat) : List Int := (ofW (yB bs)).map Int.ofNat
noncomputable def oddB (bs : List Nat) : Bool := !Nat.beq (bs.getD 31 0 &&& 128) 0
noncomputable def ofBad (bs : List Nat) : Bool :=
  bif !okW (firstX (yE bs)) then true else bif !bytesW (yE bs) == yB bs then true else bif bytesW (rtW (firstX (yE bs))) == bytesW (small1 (0 : Nat)) then oddB bs else false
noncomputable def ofX (bs : List Nat) : List Int := bif oddB bs then negW (rtW (firstX (yE bs))) else rtW (firstX (yE bs))
noncomputable def pofP (bs : List Nat) : P4 := ⟨bif ofBad bs then zI 16 else (madeW (ofX bs) (yE bs)).x, bif ofBad bs then zI 16 else (madeW (ofX bs) (yE bs)).y, bif ofBad bs then zI 16 else (madeW (ofX bs) (yE bs)).z, bif ofBad bs then zI 16 else (madeW (ofX bs) (yE bs)).t⟩
noncomputable def pofV (bs : List Nat) : AVal := .tuple [ptV (pofP bs), .nat .i64 (bif ofBad bs then 21 else 0) 0 21]
end Go.Bx

/-
  The reference's points: slices in an aggregate: what is asked for their summaries.
-/
namespace Go.Bx

/-- A point's parts' digits. -/
structure N3 where
  x : List Nat
  y : List Nat
  z : List Nat

noncomputable def rp? (H : Heap) : AVal → Option ((Nat × Nat × Nat) × N3)
  | .agg [a, b, c] => match num? H a, num? H b, num? H c with
    | some (n, x), some (m, y), some (k, z) => some ((n, m, k), ⟨x, y, z⟩)
    | _, _, _ => none
  | _ => none

def agg3 (n m k : Nat) : AVal := .agg [sl16 n, sl16 m, sl16 k]

theorem sl_piece {a : AVal} {n : Nat} {H : Heap} {ds : List Nat} (h : num? H a = some (n, ds)) (L : Lo) (cs : List Value) (hp : piece L a cs) : piece L (sl16 n) cs := by
  have hf := (num_fit h).1
  have ha : ∃ n' off sz len lo hi cap, a = .slice n' off sz len lo hi cap := by
    unfold num? at h
    split at h
    · exact ⟨_, _, _, _, _, _, _, rfl⟩
    · simp at h
  obtain ⟨n', off, sz, len, lo, hi, cap, rfl⟩ := ha
  obtain ⟨v, rfl, hv⟩ := hp
  exact ⟨v, rfl, hf L v hv⟩

theorem fit_agg3 {a b c : AVal} {n m k : Nat} {H : Heap} {x y z : List Nat} (h1 : num? H a = some (n, x)) (h2 : num? H b = some (m, y)) (h3 : num? H c = some (k, z)) : Fit (.agg [a, b, c]) (agg3 n m k) := fun L v hv => by
  obtain ⟨cs, hc, e⟩ := hv
  obtain ⟨c1, r1, e1, p1, q1⟩ := hc
  obtain ⟨c2, r2, e2, p2, q2⟩ := q1
  obtain ⟨c3, r3, e3, p3, q3⟩ := q2
  exact ⟨cs, ⟨c1, r1, e1, sl_piece h1 L _ p1, c2, r2, e2, sl_piece h2 L _ p2, c3, r3, e3, sl_piece h3 L _ p3, q3⟩, e⟩

theorem rp_fit {H : Heap} {a : AVal} {n m k : Nat} {p : N3} (h : rp? H a = some ((n, m, k), p)) : Fit a (agg3 n m k) ∧ (∃ q, lk? H n = some q ∧ FitL q.c (row16 p.x)) ∧ (∃ q, lk? H m = some q ∧ FitL q.c (row16 p.y)) ∧ (∃ q, lk? H k = some q ∧ FitL q.c (row16 p.z)) := by
  unfold rp? at h
  split at h
  · rename_i a b c
    split at h
    · rename_i n' x m' y k' z h1 h2 h3
      simp only [Option.some.injEq, Prod.mk.injEq] at h
      obtain ⟨⟨rfl, rfl, rfl⟩, rfl⟩ := h
      exact ⟨fit_agg3 h1 h2 h3, (num_fit h1).2, (num_fit h2).2, (num_fit h3).2⟩
    · simp at h
  · simp at h

section
variable {P : Program}

/-- Rows that come in, in order: their names and digits. -/
noncomputable def chRows : Nat → List (Nat × List Nat) → Heap
  | _, [] => []
  | i, (_, ds) :: l => (i, ⟨true, row16 ds⟩) :: chRows (i + 1) l
def nameAt (l : List (Nat × List Nat)) (i : Nat) : Nat := (l.getD i (0, [])).1

theorem chRows_lk : ∀ (l : List (Nat × List Nat)) (i n : Nat) (r : Row), lk? (chRows i l) n = some r → i ≤ n ∧ n < i + l.length ∧ ∃ p, l[n - i]? = some p ∧ r = ⟨true, row16 p.2⟩
  | [], i, n, r, h => by simp [chRows, lk?_nil] at h
  | (m, ds) :: l, i, n, r, h => by
    simp only [chRows] at h
    rw [lk?_cons] at h
    split at h
    · rename_i e
      simp only at e h
      subst e
      simp only [Option.some.injEq] at h
      subst h
      exact ⟨Nat.le_refl _, by simp, (m, ds), by simp, rfl⟩
    · obtain ⟨h1, h2, p, h3, h4⟩ := chRows_lk l (i + 1) n r h
      refine ⟨by omega, by simp; omega, p, ?_, h4⟩
      have : n - i = (n - (i + 1)) + 1 := by omega
      rw [this]
      simpa using h3

/-- Canonical arguments over such rows. -/
theorem canon_rows {fn : Func} {H : Heap} {args cargs : List AVal} {l : List (Nat × List Nat)} (hl : args.length = cargs.length) (hf : ∀ i, Fit (args.getD i .any) (ren (nameAt l) (cargs.getD i .any))) (hin : allNL (Nat.blt · l.length) cargs = true) (ht : cargs.length ≤ fn.ntmps)
    (hr : ∀ p ∈ l, ∃ q, lk? H p.1 = some q ∧ FitL q.c (row16 p.2)) : Canon args H fn l.length cargs (chRows 0 l) (nameAt l) := by
  refine ⟨hl, hf, hin, ht, fun n r h => ?_⟩
  obtain ⟨h1, h2, p, h3, rfl⟩ := chRows_lk l 0 n r h
  have h3 : l[n]? = some p := h3
  have hp := List.mem_of_getElem? h3
  obtain ⟨q, q1, q2⟩ := hr p hp
  refine ⟨by omega, rfl, rfl, q, ?_, q2⟩
  have : nameAt l n = p.1 := by
    unfold nameAt
    rw [List.getD_eq_getElem?_getD, h3]; rfl
  rw [this]; exact q1

/-- A function that only looks, and gives three new numbers. -/
theorem fun_new3 {f : FuncId} {fn : Func} (hf : P.funcs[f]? = some fn) (hn : (fn.name == "runtime.NumGoroutine") = false) (hb : fn.body.isNone = false) {s : Sum}
    (hs : ∀ args H fr v us, s args H fr = some (true, v, us) → Inh args → InhH H → ∃ p : N3, v = agg3 fr (fr + 1) (fr + 2) ∧ us = [(fr, some ⟨false, row16 p.x⟩), (fr + 1, some ⟨false, row16 p.y⟩), (fr + 2, some ⟨false, row16 p.z⟩)] ∧
      ∃ k cargs CH ρ X Y Z, k ≤ X ∧ k ≤ Y ∧ k ≤ Z ∧ X ≠ Y ∧ X ≠ Z ∧ Y ≠ Z ∧ Canon args H fn k cargs CH ρ ∧ RunF P fn k cargs CH (KF (agg3 X Y Z) [(X, row16 p.x), (Y, row16 p.y), (Z, row16 p.z)])) : SumOk P f s := by
  refine fun_ok hf hn hb fun args H fr v us he hi hH => ?_
  obtain ⟨p, rfl, rfl, k, cargs, CH, ρ, X, Y, Z, hX, hY, hZ, n1, n2, n3, c, hr⟩ := hs args H fr v us he hi hH
  have iX : [X, Y, Z].idxOf X = 0 := by simp
  have b1 : (X == Y) = false := by simpa using n1
  have b2 : (X == Z) = false := by simpa using n2
  have b3 : (Y == Z) = false := by simpa using n3
  have iY : [X, Y, Z].idxOf Y = 1 := by simp [List.idxOf_cons, b1]
  have iZ : [X, Y, Z].idxOf Z = 2 := by simp [List.idxOf_cons, b2, b3]
  have rX : ren2 k ρ fr [X, Y, Z] X = fr := by simp only [ren2]; rw [if_neg (by omega), iX]; rfl
  have rY : ren2 k ρ fr [X, Y, Z] Y = fr + 1 := by simp only [ren2]; rw [if_neg (by omega), iY]
  have rZ : ren2 k ρ fr [X, Y, Z] Z = fr + 2 := by simp only [ren2]; rw [if_neg (by omega), iZ]
  exact ⟨{
    k := k, cargs := cargs, CH := CH, ρ := ρ, outs := [X, Y, Z], cres := agg3 X Y Z, srcs := [(X, row16 p.x), (Y, row16 p.y), (Z, row16 p.z)]
    args_sz := c.sz
    args_fit := c.fit
    args_in := c.inn
    args_len := c.len
    rows := fun n r h => by
      obtain ⟨h1, h2, h3, q, h4, h5⟩ := c.rows n r h
      exact ⟨h1, allN_mono.go (p := fun _ => false) (fun _ h => by simp at h) _ h3, q, h4, by rw [ren_id.renL_id _ h3]; exact h5, fun h => by rw [h2] at h; simp at h⟩
    apart := fun n m r q h1 h2 _ hro => by
      have := (c.rows n r h1).2.1
      have := (c.rows m q h2).2.1
      simp_all
    run := hr
    outs_len := by simp
    outs_new := fun x h => by simp at h; omega
    outs_nd := by simp [n1, n2, n3]
    wrote := fun i r h hro => by have := (c.rows i r h).2.1; rw [this] at hro; simp at hro
    from_ := fun q h => by
      simp only [List.mem_cons, List.not_mem_nil, or_false] at h
      left
      rcases h with rfl | rfl | rfl <;> simp
    srcs_nd := by simp [n1, n2, n3]
    srcs_in := fun q h => by
      simp only [List.mem_cons, List.not_mem_nil, or_false] at h
      rcases h with rfl | rfl | rfl <;> rfl
    cres_in := by simp [agg3, sl16, allN, allNL, mem]
    v_eq := by simp [agg3, sl16, ren, renL, rX, rY, rZ]
    us_eq := by simp [rX, rY, rZ, row16, renL, ren] }⟩

end
end Go.Bx

/-
  The reference's points: what its functions compute.
-/
namespace Go.Bx

noncomputable def rinvN (ds : List Nat) : List Nat := rpowW ds (rbytesW (rlessW pW (smallN 2)))
noncomputable def rby2W : List Nat := [56130, 1, 0, 0, 0, 0, 0, 0, 0, 0, 0, 0, 0, 0, 0, 0]
noncomputable def rDW : List Nat := rsubW (smallN 0) (rMul rbyW (rinvN rby2W))
noncomputable def raddP (p q : N3) (d : List Nat) : N3 :=
  let a := rMul p.z q.z
  let b := rMul a a
  let c := rMul p.x q.x
  let e := rMul p.y q.y
  let f := rMul d (rMul c e)
  let less := rsubW b f
  let more := rAdd b f
  let cross := rsubW (rsubW (rMul (rAdd p.x p.y) (rAdd q.x q.y)) c) e
  ⟨rMul a (rMul less cross), rMul a (rMul more (rAdd e c)), rMul less more⟩
noncomputable def rpbytesW (p : N3) : List Nat :=
  bif Nat.beq ((rMul p.x (rinvN p.z)).getD 0 0 % 2) 1 then (rbytesW (rMul p.y (rinvN p.z))).set 31 (((rbytesW (rMul p.y (rinvN p.z))).getD 31 0 + 128) % 256) else rbytesW (rMul p.y (rinvN p.z))
noncomputable def ronW (x y : List Nat) : Bool := sameW (rsubW (rMul y y) (rMul x x)) (rAdd (smallN 1) (rMul rDW (rMul (rMul x x) (rMul y y))))

noncomputable def new1 (g : List Nat → List Nat) : Sum := fun args H fr => match args with
  | [x] => match num? H x with
    | some (_, ds) => some (true, sl16 fr, [(fr, some ⟨false, row16 (g ds)⟩)])
    | none => none
  | _ => none
noncomputable def new0 (ds : List Nat) : Sum := fun args _ fr => match args with
  | [] => some (true, sl16 fr, [(fr, some ⟨false, row16 ds⟩)])
  | _ => none
noncomputable def rpOfS : Sum := fun args H fr => match args with
  | [x, y] => match num? H x, num? H y with
    | some (n, _), some (m, _) => some (true, agg3 n m fr, [(fr, some ⟨false, row16 (smallN 1)⟩)])
    | _, _ => none
  | _ => none
noncomputable def rlookS (g : N3 → AVal) : Sum := fun args H _ => match args with
  | [x] => match rp? H x with
    | some (_, p) => some (true, g p, [])
    | none => none
  | _ => none
noncomputable def raddS : Sum := fun args H fr => match args with
  | [x, y, z] => match rp? H x, rp? H y, num? H z with
    | some (_, p), some (_, q), some (_, d) => some (true, agg3 fr (fr + 1) (fr + 2), [(fr, some ⟨false, row16 (raddP p q d).x⟩), (fr + 1, some ⟨false, row16 (raddP p q d).y⟩), (fr + 2, some ⟨false, row16 (raddP p q d).z⟩)])
    | _, _, _ => none
  | _ => none

section
variable {P : Program}

theorem new1_ok {f : FuncId} {fn : Func} (hf : P.funcs[f]? = some fn) (hn : (fn.name == "runtime.NumGoroutine") = false) (hb : fn.body.isNone = false) (ht : 1 ≤ fn.ntmps) {g : List Nat → List Nat} {X : Nat} (hX : 1 ≤ X)
    (h : ∀ ds, RunF P fn 1 [sl16 0] [(0, ⟨true, row16 ds⟩)] (KF (sl16 X) [(X, row16 (g ds))])) : SumOk P f (new1 g) := by
  refine fun_new hf hn hb fun args H fr v us he _ _ => ?_
  unfold new1 at he
  split at he
  · rename_i x
    split at he
    · rename_i n ds hx
      simp only [Option.some.injEq, Prod.mk.injEq, true_and] at he
      obtain ⟨rfl, rfl⟩ := he
      exact ⟨g ds, rfl, rfl, 1, _, _, _, X, hX, canon_num ht hx, h ds⟩
    · simp at he
  · simp at he

theorem new0_ok {f : FuncId} {fn : Func} (hf : P.funcs[f]? = some fn) (hn : (fn.name == "runtime.NumGoroutine") = false) (hb : fn.body.isNone = false) {ds : List Nat} {X : Nat}
    (h : RunF P fn 0 [] [] (KF (sl16 X) [(X, row16 ds)])) : SumOk P f (new0 ds) := by
  refine fun_new hf hn hb fun args H fr v us he _ _ => ?_
  unfold new0 at he
  split at he
  · simp only [Option.some.injEq, Prod.mk.injEq, true_and] at he
    obtain ⟨rfl, rfl⟩ := he
    exact ⟨ds, rfl, rfl, 0, _, [], id, X, Nat.zero_le _, canon_nil H, h⟩
  · simp at he

theorem rlookS_ok {f : FuncId} {fn : Func} (hf : P.funcs[f]? = some fn) (hn : (fn.name == "runtime.NumGoroutine") = false) (hb : fn.body.isNone = false) (ht : 1 ≤ fn.ntmps) {g : N3 → AVal} (hg : ∀ p, allN (fun _ => false) (g p) = true)
    (h : ∀ p : N3, RunF P fn 3 [agg3 0 1 2] [(0, ⟨true, row16 p.x⟩), (1, ⟨true, row16 p.y⟩), (2, ⟨true, row16 p.z⟩)] (KF (g p) [])) : SumOk P f (rlookS g) := by
  refine fun_look hf hn hb fun args H fr v us he _ _ => ?_
  unfold rlookS at he
  split at he
  · rename_i x
    split at he
    · rename_i nm p hx
      obtain ⟨n, m, k⟩ := nm
      simp only [Option.some.injEq, Prod.mk.injEq, true_and] at he
      obtain ⟨rfl, rfl⟩ := he
      obtain ⟨h1, h2, h3, h4⟩ := rp_fit hx
      refine ⟨rfl, hg p, 3, [agg3 0 1 2], _, _, canon_rows (l := [(n, p.x), (m, p.y), (k, p.z)]) rfl (fun i => ?_) rfl ht ?_, h p⟩
      · cases i with
        | zero => exact h1
        | succ i => simp [ren]; exact Fit.refl _
      · intro q hq
        simp only [List.mem_cons, List.not_mem_nil, or_false] at hq
        rcases hq with rfl | rfl | rfl
        · exact h2
        · exact h3
        · exact h4
    · simp at he
  · simp at he

theorem raddS_ok {f : FuncId} {fn : Func} (hf : P.funcs[f]? = some fn) (hn : (fn.name == "runtime.NumGoroutine") = false) (hb : fn.body.isNone = false) (ht : 3 ≤ fn.ntmps) {X Y Z : Nat} (hX : 7 ≤ X) (hY : 7 ≤ Y) (hZ : 7 ≤ Z) (n1 : X ≠ Y) (n2 : X ≠ Z) (n3 : Y ≠ Z)
    (h : ∀ (p q : N3) (d : List Nat), RunF P fn 7 [agg3 0 1 2, agg3 3 4 5, sl16 6] [(0, ⟨true, row16 p.x⟩), (1, ⟨true, row16 p.y⟩), (2, ⟨true, row16 p.z⟩), (3, ⟨true, row16 q.x⟩), (4, ⟨true, row16 q.y⟩), (5, ⟨true, row16 q.z⟩), (6, ⟨true, row16 d⟩)]
      (KF (agg3 X Y Z) [(X, row16 (raddP p q d).x), (Y, row16 (raddP p q d).y), (Z, row16 (raddP p q d).z)])) : SumOk P f raddS := by
  refine fun_new3 hf hn hb fun args H fr v us he _ _ => ?_
  unfold raddS at he
  split at he
  · rename_i x y z
    split at he
    · rename_i nm p nm' q n7 d hx hy hz
      obtain ⟨a1, a2, a3⟩ := nm
      obtain ⟨b1, b2, b3⟩ := nm'
      simp only [Option.some.injEq, Prod.mk.injEq, true_and] at he
      obtain ⟨rfl, rfl⟩ := he
      obtain ⟨f1, f2, f3, f4⟩ := rp_fit hx
      obtain ⟨g1, g2, g3, g4⟩ := rp_fit hy
      obtain ⟨k1, k2⟩ := num_fit hz
      refine ⟨_, rfl, rfl, 7, [agg3 0 1 2, agg3 3 4 5, sl16 6], _, _, X, Y, Z, hX, hY, hZ, n1, n2, n3, canon_rows (l := [(a1, p.x), (a2, p.y), (a3, p.z), (b1, q.x), (b2, q.y), (b3, q.z), (n7, d)]) rfl (fun i => ?_) rfl ht ?_, h p q d⟩
      · match i with
        | 0 => exact f1
        | 1 => exact g1
        | 2 => exact k1
        | i + 3 => simp [ren]; exact Fit.refl _
      · intro q hq
        simp only [List.mem_cons, List.not_mem_nil, or_false] at hq
        rcases hq with rfl | rfl | rfl | rfl | rfl | rfl | rfl
        · exact f2
        · exact f3
        · exact f4
        · exact g2
        · exact g3
        · exact g4
        · exact k2
    · simp at he
  · simp at he

end
end Go.Bx

/-
  The reference's points: of two numbers; the base.
-/
namespace Go.Bx

section
variable {P : Program}
theorem rpOfS_ok {f : FuncId} {fn : Func} (hf : P.funcs[f]? = some fn) (hn : (fn.name == "runtime.NumGoroutine") = false) (hb : fn.body.isNone = false) (ht : 2 ≤ fn.ntmps) {X : Nat} (hX : 2 ≤ X)
    (h : ∀ ds es, RunF P fn 2 [sl16 0, sl16 1] [(0, ⟨true, row16 ds⟩), (1, ⟨true, row16 es⟩)] (KF (agg3 0 1 X) [(X, row16 (smallN 1))])) : SumOk P f rpOfS := by
  refine fun_ok hf hn hb fun args H fr v us he _ _ => ?_
  unfold rpOfS at he
  split at he
  · rename_i x y
    split at he
    · rename_i n ds m es hx hy
      simp only [Option.some.injEq, Prod.mk.injEq, true_and] at he
      obtain ⟨rfl, rfl⟩ := he
      have c := canon_num2 (fn := fn) ht hx hy
      have hidx : [X].idxOf X = 0 := by simp
      have r0 : ren2 2 (fun i => if i = 0 then n else m) fr [X] 0 = n := by simp [ren2]
      have r1 : ren2 2 (fun i => if i = 0 then n else m) fr [X] 1 = m := by simp [ren2]
      have rX : ren2 2 (fun i => if i = 0 then n else m) fr [X] X = fr := by
        simp only [ren2]
        rw [if_neg (by omega), hidx]; omega
      exact ⟨{
        k := 2, cargs := _, CH := _, ρ := _, outs := [X], cres := agg3 0 1 X, srcs := [(X, row16 (smallN 1))]
        args_sz := c.sz
        args_fit := c.fit
        args_in := c.inn
        args_len := c.len
        rows := fun n r h => by
          obtain ⟨h1, h2, h3, q, h4, h5⟩ := c.rows n r h
          exact ⟨h1, allN_mono.go (p := fun _ => false) (fun _ h => by simp at h) _ h3, q, h4, by rw [ren_id.renL_id _ h3]; exact h5, fun h => by rw [h2] at h; simp at h⟩
        apart := fun n m r q h1 h2 _ hro => by
          have := (c.rows n r h1).2.1
          have := (c.rows m q h2).2.1
          simp_all
        run := h ds es
        outs_len := by simp
        outs_new := fun x h => by simp at h; omega
        outs_nd := by simp
        wrote := fun i r h hro => by have := (c.rows i r h).2.1; rw [this] at hro; simp at hro
        from_ := fun p h => by simp at h; subst h; exact .inl (by simp)
        srcs_nd := by simp
        srcs_in := fun p h => by simp at h; subst h; rfl
        cres_in := by simp [agg3, sl16, allN, allNL, mem, isRow, lk?_cons]
        v_eq := by simp [agg3, sl16, ren, renL, r0, r1, rX]
        us_eq := by simp [rX, row16, renL, ren] }⟩
    · simp at he
  · simp at he

noncomputable def new30 (p : N3) : Sum := fun args _ fr => match args with
  | [] => some (true, agg3 fr (fr + 1) (fr + 2), [(fr, some ⟨false, row16 p.x⟩), (fr + 1, some ⟨false, row16 p.y⟩), (fr + 2, some ⟨false, row16 p.z⟩)])
  | _ => none
theorem new30_ok {f : FuncId} {fn : Func} (hf : P.funcs[f]? = some fn) (hn : (fn.name == "runtime.NumGoroutine") = false) (hb : fn.body.isNone = false) {p : N3} {X Y Z : Nat} (n1 : X ≠ Y) (n2 : X ≠ Z) (n3 : Y ≠ Z)
    (h : RunF P fn 0 [] [] (KF (agg3 X Y Z) [(X, row16 p.x), (Y, row16 p.y), (Z, row16 p.z)])) : SumOk P f (new30 p) := by
  refine fun_new3 hf hn hb fun args H fr v us he _ _ => ?_
  unfold new30 at he
  split at he
  · simp only [Option.some.injEq, Prod.mk.injEq, true_and] at he
    obtain ⟨rfl, rfl⟩ := he
    exact ⟨p, rfl, rfl, 0, _, [], id, X, Y, Z, Nat.zero_le _, Nat.zero_le _, Nat.zero_le _, n1, n2, n3, canon_nil H, h⟩
  · simp at he
end
end Go.Bx

/-
  The reference's base: its first part, digit by digit.
-/
namespace Go.Bx

noncomputable def baseDig : List Nat := [1, 5, 1, 1, 2, 2, 2, 1, 3, 4, 9, 5, 3, 5, 4, 0, 0, 7, 7, 2, 5, 0, 1, 1, 5, 1, 4, 0, 9, 5, 8, 8, 5, 3, 1, 5, 1, 1, 4, 5, 4, 0, 1, 2, 6, 9, 3, 0, 4, 1, 8, 5, 7, 2, 0, 6, 0, 4, 6, 1, 1, 3, 2, 8, 3, 9, 4, 9, 8, 4, 7, 7, 6, 2, 2, 0, 2]
noncomputable def tenStep (k : Nat) (p : List Nat × Nat) : List Nat × Nat :=
  (p.1.set k ((10 * p.1.getD k 0 + p.2) % 65536), (10 * p.1.getD k 0 + p.2) / 65536)
noncomputable def tenW (d : Nat) (x : List Nat) : List Nat := (iter tenStep 16 (x, d)).1
noncomputable def rbX : Nat → List Nat
  | 0 => List.replicate 16 0
  | i + 1 => tenW (baseDig.getD i 0) (rbX i)

noncomputable def nilS : AVal := .slice 0 0 0 0 0 0 (some 0)
noncomputable def rbSt (str i v : AVal) (x : List Nat) : St := ⟨[(0, .ptr 0 0), (1, str), (2, sl16 1), (3, i), (4, v)], [(0, ⟨false, [nilS, nilS, nilS]⟩), (1, ⟨false, row16 x⟩)], 2, [], []⟩
noncomputable def rbP : N3 := ⟨rbX 77, rMul (smallN 4) (rinvN (smallN 5)), smallN 1⟩

theorem rbSt_wid {i i' v v' : AVal} (h : Fit i i') (k : Fit v v') (str : AVal) (x : List Nat) : Wid (rbSt str i v x) (rbSt str i' v' x) := by
  refine ⟨fun t => ?_, WidH.refl _, Nat.le_refl _⟩
  simp only [rbSt, lk_eq, lk?_cons, lk?_nil]
  repeat (split <;> first | exact Fit.refl _ | exact h | exact k | skip)
end Go.Bx

/-
  The reference's points: a number of times one.
-/
namespace Go.Bx

/-- How many bytes count. -/
noncomputable def lastN (bs : List Nat) : Nat → Nat
  | 0 => 0
  | k + 1 => bif Nat.blt 0 (bs.getD k 0) then k + 1 else lastN bs k

noncomputable def rmSt (i last c k : AVal) (bs : List Nat) (d : List Nat) (p o : N3) : St :=
  ⟨[(2, .ptr 3 0), (3, .ptr 4 0), (4, .ptr 5 0), (5, sl16 6), (6, .ptr 7 0), (7, last), (9, i), (10, c), (11, k)],
   [(3, ⟨false, [sl16 8, sl16 9, sl16 10]⟩), (4, ⟨false, [by32 bs]⟩), (5, ⟨false, [nilS, nilS, nilS]⟩), (6, ⟨true, row16 d⟩), (7, ⟨false, [sl16 11, sl16 12, sl16 13]⟩),
    (8, ⟨true, row16 p.x⟩), (9, ⟨true, row16 p.y⟩), (10, ⟨true, row16 p.z⟩), (11, ⟨false, row16 o.x⟩), (12, ⟨false, row16 o.y⟩), (13, ⟨false, row16 o.z⟩)], 14, [], []⟩
noncomputable def rmQ (i last c k q : AVal) (bs : List Nat) (d : List Nat) (p o : N3) : St :=
  ⟨[(2, .ptr 3 0), (3, .ptr 4 0), (4, .ptr 5 0), (5, sl16 6), (6, .ptr 7 0), (7, last), (9, i), (10, c), (11, k), (41, q)],
   [(3, ⟨false, [sl16 8, sl16 9, sl16 10]⟩), (4, ⟨false, [by32 bs]⟩), (5, ⟨false, [nilS, nilS, nilS]⟩), (6, ⟨true, row16 d⟩), (7, ⟨false, [sl16 11, sl16 12, sl16 13]⟩),
    (8, ⟨true, row16 p.x⟩), (9, ⟨true, row16 p.y⟩), (10, ⟨true, row16 p.z⟩), (11, ⟨false, row16 o.x⟩), (12, ⟨false, row16 o.y⟩), (13, ⟨false, row16 o.z⟩)], 14, [], []⟩
noncomputable def rmL (i last q : AVal) (bs : List Nat) (d : List Nat) (p o : N3) : St :=
  ⟨[(2, .ptr 3 0), (3, .ptr 4 0), (4, .ptr 5 0), (5, sl16 6), (6, .ptr 7 0), (7, last), (9, i), (28, q)],
   [(3, ⟨false, [sl16 8, sl16 9, sl16 10]⟩), (4, ⟨false, [by32 bs]⟩), (5, ⟨false, [nilS, nilS, nilS]⟩), (6, ⟨true, row16 d⟩), (7, ⟨false, [sl16 11, sl16 12, sl16 13]⟩),
    (8, ⟨true, row16 p.x⟩), (9, ⟨true, row16 p.y⟩), (10, ⟨true, row16 p.z⟩), (11, ⟨false, row16 o.x⟩), (12, ⟨false, row16 o.y⟩), (13, ⟨false, row16 o.z⟩)], 14, [], []⟩

theorem rmSt_wid {i i' last last' c c' k k' : AVal} (h1 : Fit i i') (h2 : Fit last last') (h3 : Fit c c') (h4 : Fit k k') (bs d : List Nat) (p o : N3) : Wid (rmSt i last c k bs d p o) (rmSt i' last' c' k' bs d p o) := by
  refine ⟨fun t => ?_, WidH.refl _, Nat.le_refl _⟩
  simp only [rmSt, lk_eq, lk?_cons, lk?_nil]
  repeat (split <;> first | exact Fit.refl _ | exact h1 | exact h2 | exact h3 | exact h4 | skip)
theorem rmQ_wid (i last c k : AVal) (b : Bool) (bs d : List Nat) (p o : N3) : Wid (rmQ i last c k (.ob b) bs d p o) (rmQ i last c k (.bool b) bs d p o) := by
  refine ⟨fun t => ?_, WidH.refl _, Nat.le_refl _⟩
  simp only [rmQ, lk_eq, lk?_cons, lk?_nil]
  repeat (split <;> first | exact Fit.refl _ | exact (fun _ _ h => h) | skip)
theorem rmL_wid (i last : AVal) (b : Bool) (bs d : List Nat) (p o : N3) : Wid (rmL i last (.ob b) bs d p o) (rmL i last (.bool b) bs d p o) := by
  refine ⟨fun t => ?_, WidH.refl _, Nat.le_refl _⟩
  simp only [rmL, lk_eq, lk?_cons, lk?_nil]
  repeat (split <;> first | exact Fit.refl _ | exact (fun _ _ h => h) | skip)

noncomputable def rNought : N3 := ⟨smallN 0, smallN 1, smallN 1⟩
noncomputable def rmS (d : List Nat) (p : N3) (bs : List Nat) : Nat → N3 × N3
  | 0 => (p, rNought)
  | m + 1 => (raddP (rmS d p bs m).1 (rmS d p bs m).1 d, cond (Nat.beq (bs.getD (m / 8) 0 / 2 ^ (m % 8) % 2) 1) (raddP (rmS d p bs m).2 (rmS d p bs m).1 d) (rmS d p bs m).2)
noncomputable def rmulP (p : N3) (bs : List Nat) : N3 := (rmS rDW p bs (8 * lastN bs 32)).2

end Go.Bx

/-
  The reference's points: a number of times one: the summary.
-/
namespace Go.Bx

noncomputable def rmulS : Sum := fun args H fr => match args with
  | [x, y] => match rp? H x, bytes? y with
    | some (_, p), some bs => some (true, agg3 fr (fr + 1) (fr + 2), [(fr, some ⟨false, row16 (rmulP p bs).x⟩), (fr + 1, some ⟨false, row16 (rmulP p bs).y⟩), (fr + 2, some ⟨false, row16 (rmulP p bs).z⟩)])
    | _, _ => none
  | _ => none

theorem rmulS_ok {P : Program} {f : FuncId} {fn : Func} (hf : P.funcs[f]? = some fn) (hn : (fn.name == "runtime.NumGoroutine") = false) (hb : fn.body.isNone = false) (ht : 2 ≤ fn.ntmps) {X Y Z : Nat} (hX : 3 ≤ X) (hY : 3 ≤ Y) (hZ : 3 ≤ Z) (n1 : X ≠ Y) (n2 : X ≠ Z) (n3 : Y ≠ Z)
    (h : ∀ (p : N3) (bs : List Nat), RunF P fn 3 [agg3 0 1 2, by32 bs] [(0, ⟨true, row16 p.x⟩), (1, ⟨true, row16 p.y⟩), (2, ⟨true, row16 p.z⟩)]
      (KF (agg3 X Y Z) [(X, row16 (rmulP p bs).x), (Y, row16 (rmulP p bs).y), (Z, row16 (rmulP p bs).z)])) : SumOk P f rmulS := by
  refine fun_new3 hf hn hb fun args H fr v us he _ _ => ?_
  unfold rmulS at he
  split at he
  · rename_i x y
    split at he
    · rename_i nm p bs hx hy
      obtain ⟨a1, a2, a3⟩ := nm
      simp only [Option.some.injEq, Prod.mk.injEq, true_and] at he
      obtain ⟨rfl, rfl⟩ := he
      obtain ⟨f1, f2, f3, f4⟩ := rp_fit hx
      refine ⟨_, rfl, rfl, 3, [agg3 0 1 2, by32 bs], _, _, X, Y, Z, hX, hY, hZ, n1, n2, n3, canon_rows (l := [(a1, p.x), (a2, p.y), (a3, p.z)]) rfl (fun i => ?_) rfl ht ?_, h p bs⟩
      · match i with
        | 0 => exact f1
        | 1 => exact bytes_fit hy
        | i + 2 => simp [ren]; exact Fit.refl _
      · intro q hq
        simp only [List.mem_cons, List.not_mem_nil, or_false] at hq
        rcases hq with rfl | rfl | rfl
        · exact f2
        · exact f3
        · exact f4
    · simp at he
  · simp at he
end Go.Bx

/-
  Points: what their parts stand for.
-/
namespace Go.Bx

/-- A root of -1. -/
noncomputable def iF : Fp := fp rtI
theorem iF_sq : iF * iF = -1 := rtI_sq

/-- The curve's number: of -x^2 + y^2 = 1 + d x^2 y^2. -/
noncomputable def dF : Fp := -D1

theorem fac_a : fp 60832 + fp 60833 = facF := by decide +kernel
theorem fac_b : fp 60833 + fp 60833 = 1 + facF := by decide +kernel
theorem curve_alg {f j : Fp} (hD : D1 * (1 + f) = f) (hj : (1 + f) * j = 1) : -(f * j) = -D1 := by
  have : f * j = D1 := by
    rw [← hD]
    generalize D1 = d at *
    grobner
  rw [this]

theorem curve_el {A B : List Int} {a b : Fp} (hA : Fe A a) (hB : Fe B b) (ha : a = facF) (hb : b = 1 + facF) : Fe (negW (mulW A (invW B))) dF := by
  have h := (hA.mul hB.inv).neg
  have hi := finv_mul (hb ▸ fac_ne.2 : b ≠ 0)
  rw [hb] at hi
  have e : -(a * finv b) = dF := by
    rw [ha, hb]
    exact curve_alg D1_mul hi
  rw [e] at h
  exact h

theorem curveW_ok : Fe curveW dF := by
  have h1 : Fe (small1 (60832 : Nat)) (fp 60832) := Fe.small (by decide)
  have h2 : Fe (small1 (60833 : Nat)) (fp 60833) := Fe.small (by decide)
  exact curve_el (h1.add h2) (h2.add h2) fac_a fac_b

/-- Parts that stand for a point: `x`, `y`: its own. -/
structure PRep (p : P4) (x y : Fp) : Prop where
  ex : ∃ z : Fp, z ≠ 0 ∧ Fe p.x (x * z) ∧ Fe p.y (y * z) ∧ Fe p.z z ∧ Fe p.t (x * y * z)

/-- The point on the standard curve. -/
noncomputable def stdP (x y : Fp) : Pt := ⟨iF * x, y⟩
def OnE (x y : Fp) : Prop := On D1 (stdP x y)

theorem made_ok {x y : List Int} {a b : Fp} (h : Fe x a) (k : Fe y b) : PRep (madeW x y) a b := by
  have h1 : Fe oneW 1 := Fe.small (n := 1) (by decide)
  refine ⟨1, fp_one_ne, ?_, ?_, h1, ?_⟩
  · have e : a * 1 = a := by grobner
    rw [e]; exact h
  · have e : b * 1 = b := by grobner
    rw [e]; exact k
  · have e : a * b * 1 = a * b := by grobner
    have e2 : (madeW x y).t = mulW x y := by simp only [madeW]
    rw [e, e2]
    exact h.mul k

theorem nought_ok : PRep noughtW 0 1 := by
  have h0 : Fe (small1 (0 : Nat)) 0 := Fe.small (n := 0) (by decide)
  have h1 : Fe oneW 1 := Fe.small (n := 1) (by decide)
  exact made_ok h0 h1

theorem sum_x {x1 y1 x2 y2 z1 z2 d s : Fp} (hs : s * (1 + d * (x1 * x2 * (y1 * y2))) = x1 * y2 + y1 * x2) :
    ((y1 * z1 + x1 * z1) * (y2 * z2 + x2 * z2) - (y1 * z1 - x1 * z1) * (y2 * z2 - x2 * z2)) * ((z1 * z2 + z1 * z2) - x1 * y1 * z1 * (x2 * y2 * z2) * (d + d)) = s * (((z1 * z2 + z1 * z2) - x1 * y1 * z1 * (x2 * y2 * z2) * (d + d)) * ((z1 * z2 + z1 * z2) + x1 * y1 * z1 * (x2 * y2 * z2) * (d + d))) := by
  have e1 : (y1 * z1 + x1 * z1) * (y2 * z2 + x2 * z2) - (y1 * z1 - x1 * z1) * (y2 * z2 - x2 * z2) = 2 * (z1 * z2) * (x1 * y2 + y1 * x2) := by grobner
  have e2 : (z1 * z2 + z1 * z2) + x1 * y1 * z1 * (x2 * y2 * z2) * (d + d) = 2 * (z1 * z2) * (1 + d * (x1 * x2 * (y1 * y2))) := by grobner
  rw [e1, e2, ← hs]
  grobner
theorem sum_y {x1 y1 x2 y2 z1 z2 d w : Fp} (hw : w * (1 - d * (x1 * x2 * (y1 * y2))) = y1 * y2 + x1 * x2) :
    ((z1 * z2 + z1 * z2) + x1 * y1 * z1 * (x2 * y2 * z2) * (d + d)) * ((y1 * z1 + x1 * z1) * (y2 * z2 + x2 * z2) + (y1 * z1 - x1 * z1) * (y2 * z2 - x2 * z2)) = w * (((z1 * z2 + z1 * z2) - x1 * y1 * z1 * (x2 * y2 * z2) * (d + d)) * ((z1 * z2 + z1 * z2) + x1 * y1 * z1 * (x2 * y2 * z2) * (d + d))) := by
  have e1 : (y1 * z1 + x1 * z1) * (y2 * z2 + x2 * z2) + (y1 * z1 - x1 * z1) * (y2 * z2 - x2 * z2) = 2 * (z1 * z2) * (y1 * y2 + x1 * x2) := by grobner
  have e2 : (z1 * z2 + z1 * z2) - x1 * y1 * z1 * (x2 * y2 * z2) * (d + d) = 2 * (z1 * z2) * (1 - d * (x1 * x2 * (y1 * y2))) := by grobner
  rw [e1, e2, ← hw]
  grobner
theorem sum_t {x1 y1 x2 y2 z1 z2 d s w : Fp} (hs : s * (1 + d * (x1 * x2 * (y1 * y2))) = x1 * y2 + y1 * x2) (hw : w * (1 - d * (x1 * x2 * (y1 * y2))) = y1 * y2 + x1 * x2) :
    ((y1 * z1 + x1 * z1) * (y2 * z2 + x2 * z2) - (y1 * z1 - x1 * z1) * (y2 * z2 - x2 * z2)) * ((y1 * z1 + x1 * z1) * (y2 * z2 + x2 * z2) + (y1 * z1 - x1 * z1) * (y2 * z2 - x2 * z2)) = s * w * (((z1 * z2 + z1 * z2) - x1 * y1 * z1 * (x2 * y2 * z2) * (d + d)) * ((z1 * z2 + z1 * z2) + x1 * y1 * z1 * (x2 * y2 * z2) * (d + d))) := by
  have e1 : (y1 * z1 + x1 * z1) * (y2 * z2 + x2 * z2) + (y1 * z1 - x1 * z1) * (y2 * z2 - x2 * z2) = 2 * (z1 * z2) * (y1 * y2 + x1 * x2) := by grobner
  have e3 : (y1 * z1 + x1 * z1) * (y2 * z2 + x2 * z2) - (y1 * z1 - x1 * z1) * (y2 * z2 - x2 * z2) = 2 * (z1 * z2) * (x1 * y2 + y1 * x2) := by grobner
  have e2 : (z1 * z2 + z1 * z2) - x1 * y1 * z1 * (x2 * y2 * z2) * (d + d) = 2 * (z1 * z2) * (1 - d * (x1 * x2 * (y1 * y2))) := by grobner
  have e4 : (z1 * z2 + z1 * z2) + x1 * y1 * z1 * (x2 * y2 * z2) * (d + d) = 2 * (z1 * z2) * (1 + d * (x1 * x2 * (y1 * y2))) := by grobner
  rw [e1, e2, e3, e4, ← hw, ← hs]
  grobner

theorem iF_back (r : Fp) : iF * -(iF * r) = r := by
  have hi := iF_sq
  generalize iF = i at *
  have : i * -(i * r) = -(i * i * r) := by grobner
  rw [this, hi]
  grobner

/-- The curve's law on its own parts. -/
theorem std_sum {x1 y1 x2 y2 : Fp} (h1 : OnE x1 y1) (h2 : OnE x2 y2) : ∃ s w, OnE s w ∧ padd D1 (stdP x1 y1) (stdP x2 y2) = stdP s w ∧
    s * (1 + dF * (x1 * x2 * (y1 * y2))) = x1 * y2 + y1 * x2 ∧ w * (1 - dF * (x1 * x2 * (y1 * y2))) = y1 * y2 + x1 * x2 ∧ 1 + dF * (x1 * x2 * (y1 * y2)) ≠ 0 ∧ 1 - dF * (x1 * x2 * (y1 * y2)) ≠ 0 := by
  have hon := padd_on lc1.ns h1 h2
  obtain ⟨d1, d2⟩ := den_ne lc1.ns h1 h2
  obtain ⟨e1, e2⟩ := padd_eq lc1.ns h1 h2
  have hi := iF_sq
  have hd : dF = -D1 := rfl
  have k : D1 * (iF * x1 * (iF * x2) * (y1 * y2)) = dF * (x1 * x2 * (y1 * y2)) := by
    rw [hd]
    generalize D1 = D at *
    generalize iF = i at *
    have : D * (i * x1 * (i * x2) * (y1 * y2)) = D * (i * i) * (x1 * x2 * (y1 * y2)) := by grobner
    rw [this, hi]
    grobner
  have hp : ∀ a b : Fp, (stdP a b).x = iF * a ∧ (stdP a b).y = b := fun _ _ => ⟨rfl, rfl⟩
  rw [(hp x1 y1).1, (hp x1 y1).2, (hp x2 y2).1, (hp x2 y2).2, k] at e1 e2 d1 d2
  have hr : padd D1 (stdP x1 y1) (stdP x2 y2) = stdP (-(iF * (padd D1 (stdP x1 y1) (stdP x2 y2)).x)) (padd D1 (stdP x1 y1) (stdP x2 y2)).y := by
    generalize padd D1 (stdP x1 y1) (stdP x2 y2) = r
    obtain ⟨rx, ry⟩ := r
    unfold stdP
    simp only
    rw [iF_back]
  refine ⟨-(iF * (padd D1 (stdP x1 y1) (stdP x2 y2)).x), (padd D1 (stdP x1 y1) (stdP x2 y2)).y, ?_, hr, ?_, ?_, d1, d2⟩
  · unfold OnE
    rw [← hr]
    exact hon
  · generalize (padd D1 (stdP x1 y1) (stdP x2 y2)).x = rx at *
    generalize 1 + dF * (x1 * x2 * (y1 * y2)) = A at *
    have : -(iF * rx) * A = -(iF * (rx * A)) := by
      generalize iF = i
      grobner
    rw [this, e1]
    generalize iF = i at *
    have : -(i * (i * x1 * y2 + y1 * (i * x2))) = -(i * i) * (x1 * y2 + y1 * x2) := by grobner
    rw [this, hi]
    grobner
  · rw [e2]
    generalize iF = i at *
    have : y1 * y2 - i * x1 * (i * x2) = y1 * y2 - i * i * (x1 * x2) := by grobner
    rw [this, hi]
    grobner

theorem ddW_ok : Fe ddW (dF + dF) := curveW_ok.add curveW_ok

/-- The sum of two. -/
theorem psumW_ok {p q : P4} {x1 y1 x2 y2 s w : Fp} (hp : PRep p x1 y1) (hq : PRep q x2 y2) {dd : List Int} (hd : Fe dd (dF + dF))
    (hs : s * (1 + dF * (x1 * x2 * (y1 * y2))) = x1 * y2 + y1 * x2) (hw : w * (1 - dF * (x1 * x2 * (y1 * y2))) = y1 * y2 + x1 * x2)
    (n1 : 1 + dF * (x1 * x2 * (y1 * y2)) ≠ 0) (n2 : 1 - dF * (x1 * x2 * (y1 * y2)) ≠ 0) : PRep (psumW p q dd) s w := by
  obtain ⟨z1, hz1, a1, a2, a3, a4⟩ := hp.ex
  obtain ⟨z2, hz2, b1, b2, b3, b4⟩ := hq.ex
  have A := (a2.sub a1).mul (b2.sub b1)
  have B := (a2.add a1).mul (b2.add b1)
  have C := (a4.mul b4).mul hd
  have D := (a3.mul b3).add (a3.mul b3)
  have E := B.sub A
  have F := D.sub C
  have G := D.add C
  have H := B.add A
  have hx := E.mul F
  have hy := G.mul H
  have hz := F.mul G
  have ht := E.mul H
  rw [sum_x hs] at hx
  rw [sum_y hw] at hy
  rw [sum_t hs hw] at ht
  have hne : ((z1 * z2 + z1 * z2) - x1 * y1 * z1 * (x2 * y2 * z2) * (dF + dF)) * ((z1 * z2 + z1 * z2) + x1 * y1 * z1 * (x2 * y2 * z2) * (dF + dF)) ≠ 0 := by
    have e2 : (z1 * z2 + z1 * z2) - x1 * y1 * z1 * (x2 * y2 * z2) * (dF + dF) = 2 * (z1 * z2) * (1 - dF * (x1 * x2 * (y1 * y2))) := by
      generalize dF = d
      grobner
    have e4 : (z1 * z2 + z1 * z2) + x1 * y1 * z1 * (x2 * y2 * z2) * (dF + dF) = 2 * (z1 * z2) * (1 + dF * (x1 * x2 * (y1 * y2))) := by
      generalize dF = d
      grobner
    rw [e2, e4]
    have h2 := fp_mul_ne fp_two (fp_mul_ne hz1 hz2)
    exact fp_mul_ne (fp_mul_ne h2 n2) (fp_mul_ne h2 n1)
  refine ⟨_, hne, ?_, ?_, ?_, ?_⟩
  · simpa only [psumW] using hx
  · simpa only [psumW] using hy
  · simpa only [psumW] using hz
  · simpa only [psumW] using ht

end Go.Bx

/-
  Points: a number of times one is the curve's.
-/
namespace Go.Bx

/-- These parts stand for this point. -/
def PIs (p : P4) (Q : Pt) : Prop := ∃ x y, OnE x y ∧ Q = stdP x y ∧ PRep p x y

theorem PIs.on {p : P4} {Q : Pt} (h : PIs p Q) : On D1 Q := by
  obtain ⟨x, y, h1, rfl, _⟩ := h
  exact h1

theorem PIs.sum {p q : P4} {Q R : Pt} (h : PIs p Q) (k : PIs q R) {dd : List Int} (hd : Fe dd (dF + dF)) : PIs (psumW p q dd) (padd D1 Q R) := by
  obtain ⟨x1, y1, a1, rfl, a3⟩ := h
  obtain ⟨x2, y2, b1, rfl, b3⟩ := k
  obtain ⟨s, w, c1, c2, c3, c4, c5, c6⟩ := std_sum a1 b1
  exact ⟨s, w, c1, c2, psumW_ok a3 b3 hd c3 c4 c5 c6⟩

theorem onE_zero : OnE 0 1 := by
  unfold OnE stdP
  rw [fp_mul0]
  exact pzero_on D1
theorem stdP_zero : stdP 0 1 = pzero := by
  unfold stdP pzero
  rw [fp_mul0]
theorem nought_is : PIs noughtW pzero := ⟨0, 1, onE_zero, stdP_zero.symm, nought_ok⟩

structure El4 (p : P4) : Prop where
  x : Elem p.x
  y : Elem p.y
  z : Elem p.z
  t : Elem p.t

theorem PIs.el {p : P4} {Q : Pt} (h : PIs p Q) : El4 p := by
  obtain ⟨x, y, _, _, hr⟩ := h
  obtain ⟨z, _, h1, h2, h3, h4⟩ := hr.ex
  exact ⟨h1.1, h2.1, h3.1, h4.1⟩

theorem pswap_eq {p q : P4} (hp : El4 p) (hq : El4 q) (b : Bool) : pswapW p q b = (cond b q p, cond b p q) := by
  unfold pswapW chB
  rw [chooseE hp.x hq.x, chooseE hp.y hq.y, chooseE hp.z hq.z, chooseE hp.t hq.t, chooseE hq.x hp.x, chooseE hq.y hp.y, chooseE hq.z hp.z, chooseE hq.t hp.t]
  cases b <;> rfl

/-- A step: twice, and one more where the bit is set. -/
theorem pmStep_ok {dd : List Int} (hd : Fe dd (dF + dF)) {Q : Pt} (hQ : On D1 Q) {s : PM} {n : Nat} (h1 : PIs s.o (ptimes D1 Q n)) (h2 : PIs s.m (ptimes D1 Q (n + 1))) (b : Bool) :
    PIs (pmStep dd b s).o (ptimes D1 Q (n + n + cond b 1 0)) ∧ PIs (pmStep dd b s).m (ptimes D1 Q (n + n + cond b 1 0 + 1)) := by
  obtain ⟨o, m⟩ := s
  simp only at h1 h2
  have on1 := ptimes_on lc1.ns hQ n
  have on2 := ptimes_on lc1.ns hQ (n + 1)
  have oo := h1.sum h1 hd
  have mm := h2.sum h2 hd
  have om := h1.sum h2 hd
  have mo := h2.sum h1 hd
  rw [← ptimes_add lc1.ns hQ] at oo mm om mo
  have e1 : n + (n + 1) = n + n + 1 := by omega
  have e2 : n + 1 + n = n + n + 1 := by omega
  have e3 : n + 1 + (n + 1) = n + n + 1 + 1 := by omega
  rw [e1] at om
  rw [e2] at mo
  rw [e3] at mm
  unfold pmStep
  simp only
  rw [pswap_eq h1.el h2.el]
  cases b
  · simp only [cond_false, Nat.add_zero]
    rw [pswap_eq oo.el mo.el]
    exact ⟨oo, mo⟩
  · simp only [cond_true]
    rw [pswap_eq mm.el om.el]
    exact ⟨om, mm⟩

theorem pmD_ok {dd : List Int} (hd : Fe dd (dF + dF)) {p : P4} {Q : Pt} (hp : PIs p Q) (bs : List Nat) {T : Nat} (hT : bitS bs 256 = T) : ∀ k m, m + k = 256 → ∃ e, e * 2 ^ m + bitS bs m = T ∧ PIs (pmD dd bs p k).o (ptimes D1 Q e) ∧ PIs (pmD dd bs p k).m (ptimes D1 Q (e + 1))
  | 0, m, hm => by
    have : m = 256 := hm
    subst this
    refine ⟨0, by rw [hT, Nat.zero_mul, Nat.zero_add], nought_is, ?_⟩
    show PIs p (ptimes D1 Q 1)
    rw [ptimes_one lc1.ns hp.on]
    exact hp
  | k + 1, m, hm => by
    obtain ⟨e, h1, h2, h3⟩ := pmD_ok hd hp bs hT k (m + 1) (by omega)
    have e1 : 255 - k = m := by omega
    rw [pmD, e1]
    obtain ⟨r1, r2⟩ := pmStep_ok hd hp.on h2 h3 (powBit bs m)
    refine ⟨e + e + cond (powBit bs m) 1 0, ?_, r1, r2⟩
    rw [bitS, Nat.pow_succ] at h1
    rw [← h1, Nat.add_mul]
    have e3 : e * (2 ^ m * 2) = (e + e) * 2 ^ m := by rw [Nat.mul_comm (2 ^ m), ← Nat.mul_assoc, Nat.mul_two]
    rw [e3]
    omega

theorem noZ_ok {p : P4} {Q : Pt} (h : PIs p Q) : noZ p = false := by
  obtain ⟨x, y, _, _, hr⟩ := h
  obtain ⟨z, hz, _, _, h3, _⟩ := hr.ex
  have h0 : Fe (small1 (0 : Nat)) 0 := Fe.small (n := 0) (by decide)
  rw [noZ, h3.eq h0, decide_eq_false hz]

/-- A number of times a point. -/
theorem pmulW_ok {p : P4} {Q : Pt} (h : PIs p Q) (bs : List Nat) : PIs (pmulW p bs) (ptimes D1 Q (bitS bs 256)) := by
  obtain ⟨T, hT⟩ : ∃ T, bitS bs 256 = T := ⟨_, rfl⟩
  obtain ⟨e, h1, h2, _⟩ := pmD_ok ddW_ok h bs hT 256 0 rfl
  have : e = T := by rw [← h1, bitS, Nat.pow_zero, Nat.mul_one, Nat.add_zero]
  rw [hT, ← this]
  unfold pmulW
  generalize (pmD ddW bs p 256).o = o at *
  rw [noZ_ok h, cond_false]
  exact h2

theorem paddW_ok {p q : P4} {Q R : Pt} (h : PIs p Q) (k : PIs q R) : PIs (paddW p q) (padd D1 Q R) := h.sum k ddW_ok

/-- It is on the curve. -/
theorem ponW_ok {p : P4} {Q : Pt} (h : PIs p Q) : ponW p = true := by
  have hz := noZ_ok h
  obtain ⟨x, y, h1, _, hr⟩ := h
  obtain ⟨z, hz0, a1, a2, a3, _⟩ := hr.ex
  have hi := finv_mul hz0
  have bx := a1.mul a3.inv
  have byy := a2.mul a3.inv
  generalize finv z = i at *
  have ex : x * z * i = x := by
    have : x * z * i = x * (z * i) := by grobner
    rw [this, hi]; grobner
  have ey : y * z * i = y := by
    have : y * z * i = y * (z * i) := by grobner
    rw [this, hi]; grobner
  rw [ex] at bx
  rw [ey] at byy
  have h1' : Fe oneW 1 := Fe.small (n := 1) (by decide)
  have l := (byy.mul byy).sub (bx.mul bx)
  have r := h1'.add ((curveW_ok.mul (bx.mul bx)).mul (byy.mul byy))
  have e : y * y - x * x = 1 + dF * (x * x) * (y * y) := by
    unfold OnE On stdP at h1
    simp only at h1
    have hi2 := iF_sq
    have hd : dF = -D1 := rfl
    rw [hd]
    generalize D1 = D at *
    generalize iF = j at *
    have k1 : j * x * (j * x) = -(x * x) := by
      have : j * x * (j * x) = j * j * (x * x) := by grobner
      rw [this, hi2]; grobner
    rw [k1] at h1
    clear bx byy l r hr a1 a2 a3 hi ex ey
    grobner
  unfold ponW
  unfold noZ at hz
  rw [hz, cond_false]
  have := l.eq r
  rw [decide_eq_true e] at this
  exact this

end Go.Bx

/-
  The reference's points: what their parts stand for.
-/
namespace Go.Bx

/-- These digits stand for this point. -/
def NIs (p : N3) (Q : Pt) : Prop := ∃ x y, OnE x y ∧ Q = stdP x y ∧ ∃ z : Fp, z ≠ 0 ∧ Rd p.x (x * z) ∧ Rd p.y (y * z) ∧ Rd p.z z

theorem NIs.on {p : N3} {Q : Pt} (h : NIs p Q) : On D1 Q := by
  obtain ⟨x, y, h1, rfl, _⟩ := h
  exact h1

theorem rinvN_ok {w : List Nat} {a : Fp} (h : Rd w a) : Rd (rinvN w) (finv a) := by
  unfold rinvN
  rw [rinv_ok]
  exact h.pow (by decide)

theorem rby2_ok : Rd rby2W (1 + facF) := by
  show rby2W = _
  decide +kernel

theorem rD_el {A B : List Nat} {a b : Fp} (hA : Rd A a) (hB : Rd B b) (ha : a = facF) (hb : b = 1 + facF) : Rd (rsubW (smallN 0) (rMul A (rinvN B))) dF := by
  have h0 : Rd (smallN 0) 0 := Rd.small (n := 0) (by decide)
  have h := h0.sub (hA.mul (rinvN_ok hB))
  have hi := finv_mul (hb ▸ fac_ne.2 : b ≠ 0)
  rw [hb] at hi
  have e : 0 - a * finv b = dF := by
    rw [ha, hb]
    have k := curve_alg D1_mul hi
    have z : (0 : Fp) - facF * finv (1 + facF) = -(facF * finv (1 + facF)) := by
      generalize facF * finv (1 + facF) = t
      grobner
    rw [z]
    exact k
  rw [e] at h
  exact h

theorem rDW_ok : Rd rDW dF := rD_el rbyW_ok rby2_ok rfl rfl

theorem radd_x {x1 y1 x2 y2 z1 z2 d s : Fp} (hs : s * (1 + d * (x1 * x2 * (y1 * y2))) = x1 * y2 + y1 * x2) :
    z1 * z2 * ((z1 * z2 * (z1 * z2) - d * (x1 * z1 * (x2 * z2) * (y1 * z1 * (y2 * z2)))) * ((x1 * z1 + y1 * z1) * (x2 * z2 + y2 * z2) - x1 * z1 * (x2 * z2) - y1 * z1 * (y2 * z2))) = s * ((z1 * z2 * (z1 * z2) - d * (x1 * z1 * (x2 * z2) * (y1 * z1 * (y2 * z2)))) * (z1 * z2 * (z1 * z2) + d * (x1 * z1 * (x2 * z2) * (y1 * z1 * (y2 * z2))))) := by
  have e1 : (x1 * z1 + y1 * z1) * (x2 * z2 + y2 * z2) - x1 * z1 * (x2 * z2) - y1 * z1 * (y2 * z2) = z1 * z2 * (x1 * y2 + y1 * x2) := by grobner
  have e2 : z1 * z2 * (z1 * z2) + d * (x1 * z1 * (x2 * z2) * (y1 * z1 * (y2 * z2))) = z1 * z2 * (z1 * z2) * (1 + d * (x1 * x2 * (y1 * y2))) := by grobner
  rw [e1, e2, ← hs]
  grobner
theorem radd_y {x1 y1 x2 y2 z1 z2 d w : Fp} (hw : w * (1 - d * (x1 * x2 * (y1 * y2))) = y1 * y2 + x1 * x2) :
    z1 * z2 * ((z1 * z2 * (z1 * z2) + d * (x1 * z1 * (x2 * z2) * (y1 * z1 * (y2 * z2)))) * (y1 * z1 * (y2 * z2) + x1 * z1 * (x2 * z2))) = w * ((z1 * z2 * (z1 * z2) - d * (x1 * z1 * (x2 * z2) * (y1 * z1 * (y2 * z2)))) * (z1 * z2 * (z1 * z2) + d * (x1 * z1 * (x2 * z2) * (y1 * z1 * (y2 * z2))))) := by
  have e1 : y1 * z1 * (y2 * z2) + x1 * z1 * (x2 * z2) = z1 * z2 * (y1 * y2 + x1 * x2) := by grobner
  have e2 : z1 * z2 * (z1 * z2) - d * (x1 * z1 * (x2 * z2) * (y1 * z1 * (y2 * z2))) = z1 * z2 * (z1 * z2) * (1 - d * (x1 * x2 * (y1 * y2))) := by grobner
  rw [e1, e2, ← hw]
  grobner

theorem raddP_ok {p q : N3} {Q R : Pt} (h : NIs p Q) (k : NIs q R) {d : List Nat} (hd : Rd d dF) : NIs (raddP p q d) (padd D1 Q R) := by
  obtain ⟨x1, y1, a0, rfl, z1, hz1, a1, a2, a3⟩ := h
  obtain ⟨x2, y2, b0, rfl, z2, hz2, b1, b2, b3⟩ := k
  obtain ⟨s, w, c1, c2, hs, hw, n1, n2⟩ := std_sum a0 b0
  have A := a3.mul b3
  have B := A.mul A
  have C := a1.mul b1
  have E := a2.mul b2
  have F := hd.mul (C.mul E)
  have L := B.sub F
  have M := B.add F
  have X := (((a1.add a2).mul (b1.add b2)).sub C).sub E
  have rx := A.mul (L.mul X)
  have ry := A.mul (M.mul (E.add C))
  have rz := L.mul M
  rw [radd_x hs] at rx
  rw [radd_y hw] at ry
  refine ⟨s, w, c1, c2, (z1 * z2 * (z1 * z2) - dF * (x1 * z1 * (x2 * z2) * (y1 * z1 * (y2 * z2)))) * (z1 * z2 * (z1 * z2) + dF * (x1 * z1 * (x2 * z2) * (y1 * z1 * (y2 * z2)))), ?_, ?_, ?_, ?_⟩
  · have e1 : z1 * z2 * (z1 * z2) - dF * (x1 * z1 * (x2 * z2) * (y1 * z1 * (y2 * z2))) = z1 * z2 * (z1 * z2) * (1 - dF * (x1 * x2 * (y1 * y2))) := by
      generalize dF = d
      grobner
    have e2 : z1 * z2 * (z1 * z2) + dF * (x1 * z1 * (x2 * z2) * (y1 * z1 * (y2 * z2))) = z1 * z2 * (z1 * z2) * (1 + dF * (x1 * x2 * (y1 * y2))) := by
      generalize dF = d
      grobner
    rw [e1, e2]
    have hz := fp_mul_ne hz1 hz2
    have hzz := fp_mul_ne hz hz
    exact fp_mul_ne (fp_mul_ne hzz n2) (fp_mul_ne hzz n1)
  · simpa only [raddP] using rx
  · simpa only [raddP] using ry
  · simpa only [raddP] using rz

theorem rNought_ok : NIs rNought pzero := by
  have h0 : Rd (smallN 0) 0 := Rd.small (n := 0) (by decide)
  have h1 : Rd (smallN 1) 1 := Rd.small (n := 1) (by decide)
  refine ⟨0, 1, onE_zero, stdP_zero.symm, 1, fp_one_ne, ?_, ?_, h1⟩
  · rw [fp_0mul]; exact h0
  · have e : (1 : Fp) * 1 = 1 := by decide +kernel
    rw [e]; exact h1

theorem rmS_ok {p : N3} {Q : Pt} (h : NIs p Q) {d : List Nat} (hd : Rd d dF) (bs : List Nat) : ∀ m, NIs (rmS d p bs m).1 (ptimes D1 Q (2 ^ m)) ∧ NIs (rmS d p bs m).2 (ptimes D1 Q (bitS bs m))
  | 0 => by
    refine ⟨?_, rNought_ok⟩
    show NIs p (ptimes D1 Q 1)
    rw [ptimes_one lc1.ns h.on]
    exact h
  | m + 1 => by
    obtain ⟨h1, h2⟩ := rmS_ok h hd bs m
    rw [rmS]
    generalize rmS d p bs m = s at *
    obtain ⟨a, o⟩ := s
    simp only at h1 h2 ⊢
    have dbl := raddP_ok h1 h1 hd
    have ad := raddP_ok h2 h1 hd
    rw [← ptimes_add lc1.ns h.on] at dbl ad
    have e1 : 2 ^ m + 2 ^ m = 2 ^ (m + 1) := by rw [Nat.pow_succ]; omega
    rw [e1] at dbl
    refine ⟨dbl, ?_⟩
    have e2 : powBit bs m = Nat.beq (bs.getD (m / 8) 0 / 2 ^ (m % 8) % 2) 1 := by rw [powBit, Nat.and_one_is_mod]
    rw [bitS, e2]
    cases Nat.beq (bs.getD (m / 8) 0 / 2 ^ (m % 8) % 2) 1
    · simp only [cond_false, Nat.zero_mul, Nat.add_zero]; exact h2
    · simp only [cond_true, Nat.one_mul]; exact ad

theorem lastN_zero (bs : List Nat) : ∀ k i, lastN bs k ≤ i → i < k → bs.getD i 0 = 0
  | 0, i, _, h => by omega
  | k + 1, i, h1, h2 => by
    rw [lastN] at h1
    cases hb : Nat.blt 0 (bs.getD k 0)
    · rw [hb, cond_false] at h1
      by_cases e : i = k
      · subst e
        have := not_blt hb
        omega
      · exact lastN_zero bs k i h1 (by omega)
    · rw [hb, cond_true] at h1
      omega

theorem bitS_last (bs : List Nat) : ∀ j, 8 * lastN bs 32 ≤ j → j ≤ 256 → bitS bs j = bitS bs (8 * lastN bs 32)
  | 0, h, _ => by
    have : 8 * lastN bs 32 = 0 := by omega
    rw [this]
  | j + 1, h, hj => by
    by_cases e : 8 * lastN bs 32 = j + 1
    · rw [e]
    · rw [bitS, bitS_last bs j (by omega) (by omega)]
      have hz : bs.getD (j / 8) 0 = 0 := lastN_zero bs 32 (j / 8) (by omega) (by omega)
      have : powBit bs j = false := by
        unfold powBit
        rw [hz, Nat.zero_div]
        rfl
      rw [this, cond_false, Nat.zero_mul, Nat.add_zero]

theorem lastN_le' (bs : List Nat) : ∀ k, lastN bs k ≤ k
  | 0 => Nat.le_refl _
  | k + 1 => by
    have := lastN_le' bs k
    rw [lastN]
    cases Nat.blt 0 (bs.getD k 0)
    · simp only [cond_false]; omega
    · simp only [cond_true]; omega

theorem rmulP_ok {p : N3} {Q : Pt} (h : NIs p Q) (bs : List Nat) : NIs (rmulP p bs) (ptimes D1 Q (bitS bs 256)) := by
  have hl := lastN_le' bs 32
  have := (rmS_ok h rDW_ok bs (8 * lastN bs 32)).2
  rw [← bitS_last bs 256 (by omega) (Nat.le_refl _)] at this
  exact this

end Go.Bx

/-
  Points: the base, and bytes.
-/
namespace Go.Bx

def bxN : Nat := 15112221349535400772501151409588531511454012693041857206046113283949847762202
def byN : Nat := 46316835694926478169428394003475163141307993866256225615783033603165251855960

theorem val_fp {n : Nat} (h : n < P25) : (fp n).val = n := Nat.mod_eq_of_lt h
theorem fp_mul1 (a : Fp) : a * 1 = a := by grobner
theorem five_by : fp 5 * fp byN = fp 4 := by decide +kernel
theorem five_ne : fp 5 ≠ 0 := by decide +kernel
/-- The curve's equation at the base, by the inverse-free form of its number. -/
theorem base_on_f : fp bxN * fp bxN * (-(facF * (fp byN * fp byN)) + (1 + facF)) = (fp byN * fp byN - 1) * (1 + facF) := by decide +kernel

theorem base_on {d f x y : Fp} (hd : -d * (1 + f) = f) (hf : 1 + f ≠ 0) (h : x * x * (-(f * (y * y)) + (1 + f)) = (y * y - 1) * (1 + f)) : x * x * (d * (y * y) + 1) = y * y - 1 := by
  refine fp_cancel hf ?_
  have e : (1 + f) * (x * x * (d * (y * y) + 1)) = x * x * (-(-d * (1 + f) * (y * y)) + (1 + f)) := by grobner
  rw [e, hd, h]
  grobner

theorem dF_def : dF = -D1 := rfl
theorem d_gen {d D f : Fp} (h : d = -D) (k : D * (1 + f) = f) : -d * (1 + f) = f := by
  have : -d = D := by grobner
  rw [this, k]
theorem d_neg {d D : Fp} (h : d = -D) : D = -d := by grobner
theorem d_den {d D t : Fp} (h : d = -D) : d * t + 1 = 1 - D * t := by grobner
theorem dF_f : -dF * (1 + facF) = facF := d_gen dF_def D1_mul

theorem base_curve : fp bxN * fp bxN * (dF * (fp byN * fp byN) + 1) = fp byN * fp byN - 1 := base_on dF_f fac_ne.2 base_on_f

theorem onE_of {x y : Fp} (h : x * x * (dF * (y * y) + 1) = y * y - 1) : OnE x y := by
  unfold OnE On stdP
  simp only
  have hi := iF_sq
  have hd : D1 = -dF := d_neg dF_def
  rw [hd]
  generalize dF = d at *
  generalize iF = j at *
  have k1 : j * x * (j * x) = -(x * x) := by
    have : j * x * (j * x) = j * j * (x * x) := by grobner
    rw [this, hi]; grobner
  rw [k1]
  clear hd
  grobner

theorem base_onE : OnE (fp bxN) (fp byN) := onE_of base_curve

theorem baseY_ok : Fe baseY (fp byN) := by
  have h4 : Fe (small1 (4 : Nat)) (fp 4) := Fe.small (by decide)
  have h5 : Fe (small1 (5 : Nat)) (fp 5) := Fe.small (by decide)
  have h := h4.mul h5.inv
  have hi := finv_mul five_ne
  have hb := five_by
  generalize finv (fp 5) = i at *
  have e : fp 4 * i = fp byN := by
    rw [← hb]
    generalize fp 5 = f at *
    generalize fp byN = b at *
    have : f * b * i = b * (f * i) := by grobner
    rw [this, hi]; grobner
  rw [e] at h
  exact h

theorem firstX_ok {Y : List Int} {y x : Fp} (h : Fe Y y) (hc : x * x * (dF * (y * y) + 1) = y * y - 1) (hn : dF * (y * y) + 1 ≠ 0) : Fe (firstX Y) (x * x) := by
  have h1 : Fe oneW 1 := Fe.small (n := 1) (by decide)
  have k := ((h.mul h).sub h1).mul (((curveW_ok.mul (h.mul h)).add h1).inv)
  have hi := finv_mul hn
  generalize finv (dF * (y * y) + 1) = i at *
  have e : (y * y - 1) * i = x * x := by
    rw [← hc]
    generalize dF * (y * y) + 1 = g at *
    have : x * x * g * i = x * x * (g * i) := by grobner
    rw [this, hi]; grobner
  rw [e] at k
  exact k

theorem den_E (y : Fp) : dF * (y * y) + 1 ≠ 0 := by
  have h := one_ne_dyy lc1.ns y
  have e : dF * (y * y) + 1 = 1 - D1 * (y * y) := d_den dF_def
  rw [e]; exact h

/-- Of a square's two roots, the even one. -/
theorem rt_even {n : Nat} (hn : n < P25) (he : n % 2 = 0) : rt3 (n * n % P25) = n := by
  rcases rt_back hn with h | h
  · exact h
  · have h2 := rt3_even (n * n % P25)
    rw [h] at h2 ⊢
    obtain ⟨q, hq⟩ : ∃ q, q = P25 := ⟨_, rfl⟩
    rw [← hq] at hn h2 ⊢
    have hq' : q = 57896044618658097711785492504343953926634992332820282019728792003956564819949 := hq
    clear hq
    by_cases h0 : n = 0
    · subst h0; simp
    · rw [Nat.mod_eq_of_lt (show q - n < q by omega)] at h2
      omega

theorem rt_fe {X : List Int} {a : Fp} (h : Fe X (a * a)) (he : a.val % 2 = 0) : Fe (rtW X) a ∧ okW X = true := by
  have hv : (a * a).val = a.val * a.val % P25 := rfl
  have hs : IsSq (a * a).val := by rw [hv]; exact sq_is a.val
  have h1 := rtW_is h.is hs
  rw [hv, rt_even a.isLt he] at h1
  refine ⟨⟨h1.1, by rw [h1.2, fp_surj]⟩, ?_⟩
  rw [okW_is h.is]
  exact decide_eq_true (rt2_sq (a * a).isLt hs)

theorem bx_val : (fp bxN).val % 2 = 0 := by decide +kernel

noncomputable def baseQ : Pt := stdP (fp bxN) (fp byN)
theorem baseP_ok : PIs baseP baseQ := by
  have hx := (rt_fe (firstX_ok baseY_ok base_curve (den_E _)) bx_val).1
  exact ⟨fp bxN, fp byN, base_onE, rfl, made_ok hx baseY_ok⟩

theorem rbX_val : rbX 77 = digN bxN := by decide +kernel
theorem bx_lt : bxN < P25 := by decide +kernel
theorem rd_of {w : List Nat} {n : Nat} (h : w = digN n) (hn : n < P25) : Rd w (fp n) := by
  unfold Rd
  rw [h, val_fp hn]
theorem rbX_rd : Rd (rbX 77) (fp bxN) := rd_of rbX_val bx_lt
theorem rbP_x : rbP.x = rbX 77 := by
  unfold rbP
  generalize rbX 77 = l
  rfl
theorem rbP_xd : Rd rbP.x (fp bxN) := by rw [rbP_x]; exact rbX_rd
theorem rbY_rd : Rd rbP.y (fp byN) := by
  have h4 : Rd (smallN 4) (fp 4) := Rd.small (by decide)
  have h5 : Rd (smallN 5) (fp 5) := Rd.small (by decide)
  have hy := h4.mul (rinvN_ok h5)
  have hi := finv_mul five_ne
  have hb := five_by
  have e : fp 4 * finv (fp 5) = fp byN := by
    generalize finv (fp 5) = i at *
    rw [← hb]
    generalize fp 5 = f at *
    generalize fp byN = b at *
    have : f * b * i = b * (f * i) := by grobner
    rw [this, hi]; grobner
  rw [e] at hy
  exact hy
theorem rbP_ok : NIs rbP baseQ := by
  have h1 : Rd (smallN 1) 1 := Rd.small (n := 1) (by decide)
  refine ⟨fp bxN, fp byN, base_onE, rfl, 1, fp_one_ne, ?_, ?_, h1⟩
  · rw [fp_mul1, rbP_x]; exact rbX_rd
  · rw [fp_mul1]; exact rbY_rd

end Go.Bx

/-
  Points: the bytes, and the law of sums.
-/
namespace Go.Bx

/-- What a point's bytes are. -/
noncomputable def ptB (x y : Fp) : List Nat := cond (Nat.beq (x.val % 2) 1) ((leBytes y.val).set 31 ((leBytes y.val).getD 31 0 + 128)) (leBytes y.val)

theorem or_hi : ∀ b, b < 128 → b ||| 128 = b + 128 := by decide +kernel

theorem y31 (y : Fp) : (leBytes y.val).getD 31 0 < 128 := by
  rw [leBytes_get (by omega)]
  have h := y.isLt
  generalize y.val = n at *
  obtain ⟨q, hq⟩ : ∃ q, q = P25 := ⟨_, rfl⟩
  rw [← hq] at h
  have hq' : q = 57896044618658097711785492504343953926634992332820282019728792003956564819949 := hq
  clear hq
  omega

theorem back_z {x z i : Fp} (hi : z * i = 1) : x * z * i = x := by
  have : x * z * i = x * (z * i) := by grobner
  rw [this, hi]; grobner

theorem pbytes_ok {p : P4} {x y : Fp} (h : PRep p x y) : pbytesW p = ptB x y := by
  obtain ⟨z, hz, a1, a2, a3, _⟩ := h.ex
  have hi := finv_mul hz
  have bx := a1.mul a3.inv
  have byy := a2.mul a3.inv
  rw [back_z hi] at bx byy
  have e1 : bytesW (mulW p.y (invW p.z)) = leBytes y.val := byy.bytes
  have e2 : oddX (mulW p.x (invW p.z)) = Nat.beq (x.val % 2) 1 := by
    unfold oddX
    have := odd_ok bx.1
    rw [bx.fv] at this
    exact this
  unfold pbytesW ptB
  rw [e1, e2, or_hi _ (y31 y)]

theorem rpbytes_ok {p : N3} {x y : Fp} (h : ∃ z : Fp, z ≠ 0 ∧ Rd p.x (x * z) ∧ Rd p.y (y * z) ∧ Rd p.z z) : rpbytesW p = ptB x y := by
  obtain ⟨z, hz, a1, a2, a3⟩ := h
  have hi := finv_mul hz
  have bx := a1.mul (rinvN_ok a3)
  have byy := a2.mul (rinvN_ok a3)
  rw [back_z hi] at bx byy
  have e1 := byy.bytes
  have e2 : (rMul p.x (rinvN p.z)).getD 0 0 % 2 = x.val % 2 := by
    rw [bx, getD_cast_digN]
  have h31 := y31 y
  unfold rpbytesW ptB
  rw [e1, e2, Nat.mod_eq_of_lt (show (leBytes y.val).getD 31 0 + 128 < 256 by omega)]

theorem std_inj {x y s w : Fp} (h : stdP x y = stdP s w) : x = s ∧ y = w := by
  unfold stdP at h
  simp only [Pt.mk.injEq] at h
  refine ⟨?_, h.2⟩
  have h1 := h.1
  have hi := iF_sq
  generalize iF = j at *
  have e1 : x = -(j * (j * x)) := by
    have : -(j * (j * x)) = -(j * j) * x := by grobner
    rw [this, hi]; grobner
  have e2 : s = -(j * (j * s)) := by
    have : -(j * (j * s)) = -(j * j) * s := by grobner
    rw [this, hi]; grobner
  rw [e1, e2, h1]

/-- Both are the same point's bytes. -/
theorem bytes_same {p : P4} {q : N3} {Q : Pt} (h : PIs p Q) (k : NIs q Q) : (pbytesW p == rpbytesW q) = true := by
  obtain ⟨x, y, _, e, hr⟩ := h
  obtain ⟨s, w, _, e2, hz⟩ := k
  obtain ⟨rfl, rfl⟩ := std_inj (e.symm.trans e2)
  rw [pbytes_ok hr, rpbytes_ok hz]
  simp

noncomputable def psE (b c : List Nat) : Bool :=
  bif bif !pbytesW baseP == rpbytesW rbP then true else bif !ronW rbP.x rbP.y then true else !pbytesW noughtW == (List.replicate 32 0).set 0 1 then false
  else bif pbytesW (pmulW baseP b) == rpbytesW (rmulP rbP b) then
    bif pbytesW (paddW (pmulW baseP b) (pmulW baseP c)) == rpbytesW (raddP (rmulP rbP b) (rmulP rbP c) rDW) then ponW (pmulW baseP b) else false
  else false

theorem ron_ok {x y : List Nat} {a b : Fp} (hx : Rd x a) (hy : Rd y b) (h : a * a * (dF * (b * b) + 1) = b * b - 1) : ronW x y = true := by
  have h1 : Rd (smallN 1) 1 := Rd.small (n := 1) (by decide)
  have l := (hy.mul hy).sub (hx.mul hx)
  have r := h1.add (rDW_ok.mul ((hx.mul hx).mul (hy.mul hy)))
  have e : b * b - a * a = 1 + dF * (a * a * (b * b)) := by
    generalize dF = d at *
    grobner
  unfold ronW
  rw [l.same r, decide_eq_true e]

theorem psE_true (b c : List Nat) : psE b c = true := by
  have hb := pmulW_ok baseP_ok b
  have hc := pmulW_ok baseP_ok c
  have kb := rmulP_ok rbP_ok b
  have kc := rmulP_ok rbP_ok c
  have e1 := bytes_same baseP_ok rbP_ok
  have e2 := bytes_same hb kb
  have e3 := bytes_same (paddW_ok hb hc) (raddP_ok kb kc rDW_ok)
  have e4 := ponW_ok hb
  have hx := rbP_xd
  have hy := rbY_rd
  have e5 := ron_ok hx hy base_curve
  have e6 : (pbytesW noughtW == (List.replicate 32 0).set 0 1) = true := by
    rw [pbytes_ok nought_ok]
    decide +kernel
  unfold psE
  rw [e1, e2, e3, e4, e5, e6]
  rfl
end Go.Bx
