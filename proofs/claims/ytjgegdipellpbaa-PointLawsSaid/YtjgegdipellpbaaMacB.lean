/-
  The abstract machine: that its operations are what the model does (second part).
  No condition.
-/
import Derived.Test.YtjgegdipellpbaaMacA
import Derived.Laws.MakeOwn
/-
  The operations, continued: conversions, addresses, parts of values.
-/
namespace Go.Bx

section
variable {P : Program} {w w0 : World} {F : Nat → Prop} {L : Lo} {h : HF} {H : Heap} {fr : Nat}

theorem conv_ok (g : Good F w0 L h w) {o : Oper} {rho : Operand → Value} {s d : TypeId} {x : Operand} (ho : o.op = .convert s d x) {a v : AVal} (ha : val L a (rho x))
    {ds : TypeDesc} {k : IntKind} (hs : P.underlying s = some ds) (hd : P.underlying d = some (.int k)) (he : convA k a = some v) :
    OpRun P (execOp rho o) w (Post F w0 L h fr [] v) := by
  have key : ∃ k' n, rho x = .int k' n ∧ val0 L v (.int k (k.wrap n)) := by
    have uns : ∀ (n : Int) (v : AVal), (bif kuns k then some (AVal.nat k (k.wrap n).toNat 0 (kmax k)) else some (.int k (k.wrap n))) = some v → val0 L v (.int k (k.wrap n)) := by
      intro n v h
      cases hu : kuns k <;> rw [hu] at h <;> simp only [cond_false, cond_true, Option.some.injEq] at h <;> subst h
      · rfl
      · have h1 := wrap_uns hu n
        have h2 := kmod_uns hu
        have h3 := Int.emod_nonneg n (show (kmod k : Int) ≠ 0 by omega)
        have h4 := Int.emod_lt_of_pos n (show (0 : Int) < (kmod k : Int) by omega)
        simp only [val0]
        refine ⟨?_, Nat.zero_le _, by omega⟩
        congr 1
        omega
    cases a <;> simp only [convA, reduceCtorEq, Option.some.injEq] at he <;> simp only [val, val1, val0] at ha
    · exact ⟨_, _, ha, uns _ _ he⟩
    · exact ⟨_, _, ha, uns _ _ he⟩
    · subst he; obtain ⟨e, h1, h2⟩ := ha; exact ⟨_, _, e, fitN_ok h1 h2⟩
  obtain ⟨k', n, e, hv⟩ := key
  refine OpRun.value (v := .int k (k.wrap n)) (w' := w) ?_ (Post.pure g (val_of0 hv))
  simp [execOp, ho, e, convert, run_underlying hs, run_underlying hd, Conv.intToInt]

theorem not_ok (g : Good F w0 L h w) {o : Oper} {rho : Operand → Value} {t : TypeId} {x : Operand} (ho : o.op = .unOp .not t x) {b : Bool} (ha : val L (.bool b) (rho x)) :
    OpRun P (execOp rho o) w (Post F w0 L h fr [] (.bool (!b))) := by
  simp only [val, val1, val0] at ha
  refine OpRun.value (v := .bool (!b)) (w' := w) ?_ (Post.pure g rfl)
  simp [execOp, ho, ha, Op.unary]

theorem notO_ok (g : Good F w0 L h w) {o : Oper} {rho : Operand → Value} {t : TypeId} {x : Operand} (ho : o.op = .unOp .not t x) {b : Bool} (ha : val L (.ob b) (rho x)) :
    OpRun P (execOp rho o) w (Post F w0 L h fr [] (.ob (!b))) := by
  simp only [val, val1, val0] at ha
  refine OpRun.value (v := .bool (!b)) (w' := w) ?_ (Post.pure g rfl)
  simp [execOp, ho, ha, Op.unary]

theorem neg_ok (g : Good F w0 L h w) {o : Oper} {rho : Operand → Value} {t : TypeId} {x : Operand} (ho : o.op = .unOp .neg t x) {k : IntKind} {n : Int} (ha : rho x = .int k n) {v : AVal} (hv : val0 L v (.int k (k.wrap (0 - n)))) :
    OpRun P (execOp rho o) w (Post F w0 L h fr [] v) := by
  refine OpRun.value (v := .int k (k.wrap (0 - n))) (w' := w) ?_ (Post.pure g (val_of0 hv))
  simp [execOp, ho, ha, Op.unary, Op.intArith]

theorem compl_ok (g : Good F w0 L h w) {o : Oper} {rho : Operand → Value} {t : TypeId} {x : Operand} (ho : o.op = .unOp .xor t x) {k : IntKind} {n lo hi : Nat} (ha : val L (.nat k n lo hi) (rho x)) (hu : kuns k = true) (hh : hi ≤ kmax k) :
    OpRun P (execOp rho o) w (Post F w0 L h fr [] (.nat k (kmax k - n) (kmax k - hi) (kmax k - lo))) := by
  simp only [val, val1, val0] at ha
  obtain ⟨e, h1, h2⟩ := ha
  refine OpRun.value (v := .int k ((kmax k - n : Nat) : Int)) (w' := w) ?_ (Post.pure g (val_of0 ⟨rfl, by omega, by omega⟩))
  have hx : (kmax k) ^^^ n = kmax k - n := by
    have hm : kmax k = 2 ^ k.bits - 1 := by cases k <;> simp [kuns] at hu <;> rfl
    rw [hm]
    have hlt : n < 2 ^ k.bits := by have := kmax_lt k; omega
    rw [Nat.xor_comm]
    apply Nat.eq_of_testBit_eq
    intro i
    rw [Nat.testBit_xor, Nat.testBit_two_pow_sub_one, show 2 ^ k.bits - 1 - n = 2 ^ k.bits - (n + 1) by omega, Nat.testBit_two_pow_sub_succ hlt]
    by_cases hi : i < k.bits
    · simp [hi]
    · have : n.testBit i = false := Nat.testBit_lt_two_pow (Nat.lt_of_lt_of_le hlt (Nat.pow_le_pow_right (by omega) (by omega)))
      simp [hi, this]
  have hr := run_bits (P := P) w .xor k (kmax k) n (kmax k - n) (Nat.le_refl _) (by omega) (by omega) (.inr (.inr ⟨rfl, hx.symm⟩))
  have hs : k.signed = false := by cases k <;> simp [kuns] at hu <;> rfl
  have hmx : k.max = (kmax k : Int) := by cases k <;> simp [kuns] at hu <;> rfl
  simp [execOp, ho, e, Op.unary, hs, hmx, hr]

theorem nilCheck_ok (g : Good F w0 L h w) {o : Oper} {rho : Operand → Value} {x : Operand} (ho : o.op = .nilCheck x) {n off : Nat} (ha : val L (.ptr n off) (rho x)) :
    OpRun P (execOp rho o) w (Post F w0 L h fr [] (.ptr n off)) := by
  have ha' := ha
  simp only [val, val1, val0] at ha
  refine OpRun.value (v := rho x) (w' := w) ?_ (Post.pure g ha')
  simp [execOp, ho, ha.2]

theorem ptr_add {n off k : Nat} {v : Value} (ha : val L (.ptr n off) v) : val L (.ptr n (off + k)) (.pointer (some ((L.addr n off).add k))) := by
  simp only [val, val1, val0] at ha ⊢
  exact ⟨ha.1, by rw [addr_add]⟩

theorem fieldAddr_ok (g : Good F w0 L h w) {o : Oper} {rho : Operand → Value} {t : TypeId} {x : Operand} {f : Nat} (ho : o.op = .fieldAddr t x f) {n off : Nat} (ha : val L (.ptr n off) (rho x))
    {fs : Array Field} {fd : Field} (ht : P.underlying t = some (.struct fs)) (hf : fs[f]? = some fd) {i : TypeInfo} (hi : P.info? fd.type = some i) (hs : i.size ≠ 0) :
    OpRun P (execOp rho o) w (Post F w0 L h fr [] (.ptr n (addOff off fd.offset))) := by
  have hv := ptr_add (k := fd.offset) ha
  simp only [val, val1, val0] at ha
  rw [addOff_eq]
  refine OpRun.value (v := .pointer (some ((L.addr n off).add fd.offset))) (w' := w) ?_ (Post.pure g hv)
  have hso : sizeT P fd.type ≠ 0 := by simpa [sizeT, hi] using hs
  simp [execOp, ho, Instr.fieldAt, run_underlying ht, hf, ha.2, Instr.sureAddr, fieldPlace, run_so hi, hso]

theorem part_ok {t : TypeId} {d : TypeDesc} (hd : P.underlying t = some d) {l : List AVal} {cs : List Value} (hc : cells L l cs) {off : Nat} {v : AVal}
    (he : (isAggT P t = true ∧ ∃ m, rdRange l off (sizeT P t) = some m ∧ v = mkAgg m) ∨ (isAggT P t = false ∧ rdCell l off = some (true, v))) :
    ∃ u, (part t cs.toArray off).run P w = .ok u w ∧ val1 L v u := by
  obtain ⟨i, hi⟩ := info_of hd
  rcases he with ⟨ha, m, hm, rfl⟩ | ⟨ha, hm⟩
  · obtain ⟨h1, h2⟩ := rdRange_ok hc hm
    refine ⟨.agg ((cs.drop off).take (sizeT P t)).toArray, ?_, mkAgg_ok h2⟩
    simp only [part, Sem.run_bind, run_ia hd, ha, Result.andThen_ok, if_true, run_so hi, Sem.run_pure]
    congr 2
    apply Array.ext'
    simp [List.take_drop]
  · obtain ⟨u, hu, h0⟩ := rdCell_ok hc hm
    refine ⟨u, ?_, ?_⟩
    · simp [part, run_ia hd, ha, hu]
    · have : ∀ a, val0 L a u → val1 L a u := by
        intro a ha
        cases a <;> simp only [val1] <;> first | exact ha | exact trivial | (simp only [val0] at ha)
      exact this v h0

theorem agg_of {a : AVal} {v : Value} (hb : boxable a = true) (h : val L a v) : cells L (pieces a) v.cells.toList := pieces_ok hb (val1_of hb h)

theorem cells_toArray (v : Value) : v.cells.toList.toArray = v.cells := by simp

theorem field_ok (g : Good F w0 L h w) {o : Oper} {rho : Operand → Value} {t : TypeId} {x : Operand} {f : Nat} (ho : o.op = .field t x f) {a : AVal} (hb : boxable a = true) (ha : val L a (rho x)) {cs : Array Value} (hagg : rho x = .agg cs)
    {fs : Array Field} {fd : Field} (ht : P.underlying t = some (.struct fs)) (hf : fs[f]? = some fd) {d : TypeDesc} (hd : P.underlying fd.type = some d) {v : AVal}
    (he : (isAggT P fd.type = true ∧ ∃ m, rdRange (pieces a) fd.offset (sizeT P fd.type) = some m ∧ v = mkAgg m) ∨ (isAggT P fd.type = false ∧ rdCell (pieces a) fd.offset = some (true, v))) :
    OpRun P (execOp rho o) w (Post F w0 L h fr [] v) := by
  have hc := agg_of hb ha
  obtain ⟨u, hu, hv⟩ := part_ok (P := P) (w := w) hd hc he
  rw [cells_toArray] at hu
  refine OpRun.value (v := u) (w' := w) ?_ (Post.pure g (val_of1 hv))
  rw [hagg] at hu
  simp [execOp, ho, Instr.field, run_underlying ht, hf, hagg, asAgg, Value.cells] at hu ⊢
  simp [hu]

theorem extract_ok (g : Good F w0 L h w) {o : Oper} {rho : Operand → Value} {x : Operand} {i : Nat} (ho : o.op = .extract x i) {l : List AVal} (ha : val L (.tuple l) (rho x)) {v : AVal} (hv : l[i]? = some v) :
    OpRun P (execOp rho o) w (Post F w0 L h fr [] v) := by
  obtain ⟨vs, hvs, e⟩ := ha
  have key : ∀ (l : List AVal) (vs : List Value) (i : Nat), vals1 L l vs → l[i]? = some v → ∃ u, vs[i]? = some u ∧ val1 L v u := by
    intro l
    induction l with
    | nil => intro vs i _ h; simp at h
    | cons a l ih =>
      intro vs i hvs hi
      obtain ⟨u, ws, rfl, h1, h2⟩ := hvs
      cases i with
      | zero => simp at hi; subst hi; exact ⟨u, rfl, h1⟩
      | succ i => simpa using ih ws i h2 (by simpa using hi)
  obtain ⟨u, hu, h1⟩ := key l vs i hvs hv
  refine OpRun.value (v := u) (w' := w) ?_ (Post.pure g (val_of1 h1))
  simp [execOp, ho, e, Instr.extract, hu]

theorem pick_ok (g : Good F w0 L h w) {o : Oper} {rho : Operand → Value} {c x y : Operand} (ho : o.op = .pick c x y) {b : Bool} (hc : val L (.bool b) (rho c)) {v : AVal} (hv : val L v (if b then rho x else rho y)) :
    OpRun P (execOp rho o) w (Post F w0 L h fr [] v) := by
  simp only [val, val1, val0] at hc
  refine OpRun.value (v := if b then rho x else rho y) (w' := w) ?_ (Post.pure g hv)
  simp [execOp, ho, hc, asBool]

theorem pickO_ok (g : Good F w0 L h w) {o : Oper} {rho : Operand → Value} {c x y : Operand} (ho : o.op = .pick c x y) {b : Bool} (hc : val L (.ob b) (rho c)) {v : AVal} (hv : val L v (if b then rho x else rho y)) :
    OpRun P (execOp rho o) w (Post F w0 L h fr [] v) := by
  simp only [val, val1, val0] at hc
  refine OpRun.value (v := if b then rho x else rho y) (w' := w) ?_ (Post.pure g hv)
  simp [execOp, ho, hc, asBool]

theorem move_ok (g : Good F w0 L h w) {o : Oper} {rho : Operand → Value} {x : Operand} (ho : o.op = .move x ∨ o.op = .assign x) {v : AVal} (hv : val L v (rho x)) :
    OpRun P (execOp rho o) w (Post F w0 L h fr [] v) := by
  refine OpRun.value (v := rho x) (w' := w) ?_ (Post.pure g hv)
  rcases ho with ho | ho <;> simp [execOp, ho]

/-! ### Indexes -/

theorem indexArr_ok (g : Good F w0 L h w) {o : Oper} {rho : Operand → Value} {t e : TypeId} {x i : Operand} (ho : o.op = .indexAddr t x i) {m off n j lo hi : Nat} {k : IntKind} (hx : val L (.ptr m off) (rho x)) (hi' : val L (.nat k j lo hi) (rho i))
    (ht : P.underlying t = some (.array n e)) {ie : TypeInfo} (he : P.info? e = some ie) (hb : idx j hi n = true) :
    OpRun P (execOp rho o) w (Post F w0 L h fr [] (.ptr m (addIdx off (mulSz j ie.size)))) := by
  have hv := ptr_add (k := j * ie.size) hx
  simp only [val, val1, val0] at hx hi'
  have hj := idx_lt hb hi'.2.2
  rw [addIdx_eq, mulSz_eq]
  refine OpRun.value (v := .pointer (some ((L.addr m off).add (j * ie.size)))) (w' := w) ?_ (Post.pure g hv)
  have hs : sizeT P e = ie.size := by simp [sizeT, he]
  simp [execOp, ho, Instr.indexAt, hx.2, hi'.1, asIntOf, run_underlying ht, Instr.sureAddr, run_so he, hs, hj]

theorem indexSl_ok (g : Good F w0 L h w) {o : Oper} {rho : Operand → Value} {t e : TypeId} {x i : Operand} (ho : o.op = .indexAddr t x i) {m off sz len ll lh j lo hi : Nat} {cap : Option Nat} {k : IntKind} (hx : val L (.slice m off sz len ll lh cap) (rho x)) (hi' : val L (.nat k j lo hi) (rho i))
    (ht : P.underlying t = some (.slice e)) {ie : TypeInfo} (he : P.info? e = some ie) (hb : (Nat.blt hi ll || Nat.blt j len) = true) :
    OpRun P (execOp rho o) w (Post F w0 L h fr [] (.ptr m (addIdx off (mulSz j ie.size)))) := by
  simp only [val, val1, val0] at hx hi'
  obtain ⟨h1, h2, hx⟩ := hx
  have hj : j < len := by
    rcases Bool.or_eq_true _ _ |>.mp hb with hb | hb <;> have := blt_lt hb <;> omega
  rw [addIdx_eq, mulSz_eq]
  rcases hx with ⟨h0, _⟩ | ⟨hl, c, hx, _⟩
  · omega
  · refine OpRun.value (v := .pointer (some ((L.addr m off).add (j * ie.size)))) (w' := w) ?_ (Post.pure g ?_)
    · have hs : sizeT P e = ie.size := by simp [sizeT, he]
      simp [execOp, ho, Instr.indexAt, hx, hi'.1, asIntOf, run_underlying ht, run_so he, hs, hj]
    · exact ⟨hl, by rw [addr_add]⟩

theorem index_ok (g : Good F w0 L h w) {o : Oper} {rho : Operand → Value} {t e : TypeId} {x i : Operand} (ho : o.op = .index t x i) {n j lo hi : Nat} {k : IntKind} {a : AVal} (hb : boxable a = true) (hx : val L a (rho x)) {cs : Array Value} (hagg : rho x = .agg cs) (hi' : val L (.nat k j lo hi) (rho i))
    (ht : P.underlying t = some (.array n e)) {d : TypeDesc} (hd : P.underlying e = some d) (hid : idx j hi n = true) {v : AVal}
    (he : (isAggT P e = true ∧ ∃ m, rdRange (pieces a) (mulSz j (sizeT P e)) (sizeT P e) = some m ∧ v = mkAgg m) ∨ (isAggT P e = false ∧ rdCell (pieces a) (mulSz j (sizeT P e)) = some (true, v))) :
    OpRun P (execOp rho o) w (Post F w0 L h fr [] v) := by
  have hc := agg_of hb hx
  obtain ⟨u, hu, hv⟩ := part_ok (P := P) (w := w) hd hc he
  rw [cells_toArray, mulSz_eq, hagg] at hu
  simp only [val, val1, val0] at hi'
  have hj := idx_lt hid hi'.2.2
  obtain ⟨ie, hie⟩ := info_of hd
  refine OpRun.value (v := u) (w' := w) ?_ (Post.pure g (val_of1 hv))
  simp only [Value.cells] at hu
  simp [execOp, ho, Instr.index, run_underlying ht, hagg, hi'.1, asIntOf, run_so hie, hj, hu]

theorem indexStr_ok (g : Good F w0 L h w) {o : Oper} {rho : Operand → Value} {t : TypeId} {x i : Operand} (ho : o.op = .index t x i) {j lo hi : Nat} {k : IntKind} {s : ByteArray} (hx : val L (.str s) (rho x)) (hi' : val L (.nat k j lo hi) (rho i))
    (ht : P.underlying t = some .string) (hid : idx j hi s.size = true) :
    OpRun P (execOp rho o) w (Post F w0 L h fr [] (.nat .u8 (strAt s j) (strLo s lo hi) (strHi s lo hi))) := by
  simp only [val, val1, val0] at hx hi'
  have hj := idx_lt hid hi'.2.2
  have hget : s[j]? = some (s.data.getD j 0) := by
    have hd : j < s.data.size := hj
    rw [getElem?_pos s j hj]
    simp only [Array.getD, hd, dite_true]
    rfl
  have hb : strLo s lo hi ≤ strAt s j ∧ strAt s j ≤ strHi s lo hi := by
    unfold strLo strHi
    cases hl : Nat.beq lo hi
    · have := (s.data.getD j 0).toNat_lt
      simp only [cond_false, strAt]; omega
    · have := beq_eq' hl
      have e : lo = j := by omega
      simp only [cond_true, e]
      exact ⟨Nat.le_refl _, Nat.le_refl _⟩
  refine OpRun.value (v := .int .u8 ((s.data.getD j 0).toNat : Int)) (w' := w) ?_ (Post.pure g (val_of0 ⟨rfl, hb.1, hb.2⟩))
  simp [execOp, ho, Instr.index, run_underlying ht, hx, hi'.1, asIntOf, hget]

end
end Go.Bx

/-
  The operations, continued: literals, slices.
-/
namespace Go.Bx

theorem aggV_box {a : AVal} (h : aggV a = true) : boxable a = true := by cases a <;> first | rfl | (simp [aggV] at h)

theorem aggV_agg {L : Lo} {a : AVal} {v : Value} (h : aggV a = true) (hv : val L a v) : ∃ cs, v = .agg cs := by
  cases a <;> simp only [aggV, reduceCtorEq] at h <;> (obtain ⟨cs, _, rfl⟩ := hv; exact ⟨_, rfl⟩)

section
variable {P : Program} {w w0 : World} {F : Nat → Prop} {L : Lo} {h : HF} {H : Heap} {fr : Nat}

/-! ### Literals -/

theorem fold_set (pv : List Value) : ∀ (off k : Nat) (arr : Array Value), off + k + pv.length ≤ arr.size →
    ((pv.zipIdx k).foldl (fun (cs : Array Value) (x : Value × Nat) => cs.setIfInBounds (off + x.2) x.1) arr).toList = arr.toList.take (off + k) ++ pv ++ arr.toList.drop (off + k + pv.length) := by
  induction pv with
  | nil => intro off k arr _; simp
  | cons v pv ih =>
    intro off k arr hl
    simp only [List.length_cons] at hl
    simp only [List.zipIdx_cons, List.foldl_cons]
    rw [ih off (k + 1) _ (by simp; omega)]
    have e := list_seg_step arr.toList (off + k) v pv (by simp; omega)
    simpa [Array.toList_setIfInBounds, Nat.add_assoc] using e

theorem fill_ok {pl pl' : Nat → Option (Nat × Nat)} (hpl : ∀ i, pl i = pl' i) : ∀ {ps : List (Nat × AVal)} {vs : List (Nat × Value)} {l l' : List AVal} {cs : List Value},
    cells L l cs → ps.length = vs.length → (∀ (j : Nat) (p : Nat × AVal) (q : Nat × Value), ps[j]? = some p → vs[j]? = some q → p.1 = q.1 ∧ val L p.2 q.2) → fillA pl l ps = some (true, l') →
    ∃ cs', Instr.fill pl' cs.toArray vs = some cs'.toArray ∧ cells L l' cs'
  | [], vs, l, l', cs, hc, hl, _, he => by
    cases vs with
    | nil => simp only [fillA, Option.some.injEq, Prod.mk.injEq, true_and] at he; subst he; exact ⟨cs, rfl, hc⟩
    | cons v vs => simp at hl
  | (i, a) :: ps, vs, l, l', cs, hc, hl, hv, he => by
    cases vs with
    | nil => simp at hl
    | cons q vs =>
      obtain ⟨j, v⟩ := q
      obtain ⟨e1, e2⟩ := hv 0 (i, a) (j, v) rfl rfl
      simp only at e1 e2
      subst e1
      have hb : boxable a = true := by cases a <;> first | rfl | (simp [fillA] at he)
      have he' : (match pl i with
          | none => none
          | some (off, size) => bif Nat.beq (sizes (pieces a)) size && !Nat.beq size 0 then
              match wrPieces l off (pieces a) with
              | some (c, l) => match fillA pl l ps with
                | some (d, l) => some (c && d, l)
                | none => none
              | none => none
            else none) = some (true, l') := by
        cases a <;> first | exact he | (simp [boxable] at hb)
      cases hp : pl i with
      | none => rw [hp] at he'; simp at he'
      | some os =>
        obtain ⟨off, size⟩ := os
        rw [hp] at he'
        simp only at he'
        cases hs : (Nat.beq (sizes (pieces a)) size && !Nat.beq size 0) <;> rw [hs] at he' <;> simp only [cond_false, cond_true, reduceCtorEq] at he'
        simp only [Bool.and_eq_true, Bool.not_eq_true'] at hs
        have hs0 : size ≠ 0 := fun e => by rw [e] at hs; simp at hs
        have hs := beq_eq' hs.1
        cases hw : wrPieces l off (pieces a) with
        | none => rw [hw] at he'; simp at he'
        | some x =>
          obtain ⟨c, l1⟩ := x
          rw [hw] at he'
          simp only at he'
          cases hf : fillA pl l1 ps with
          | none => rw [hf] at he'; simp at he'
          | some y =>
            obtain ⟨d, l2⟩ := y
            rw [hf] at he'
            simp only [Option.some.injEq, Prod.mk.injEq, Bool.and_eq_true] at he'
            obtain ⟨⟨rfl, rfl⟩, rfl⟩ := he'
            have hpc := agg_of hb e2
            obtain ⟨h1, h2⟩ := wrPieces_ok hc hpc hw
            have hlen := cells_length hpc
            obtain ⟨cs', h3, h4⟩ := fill_ok hpl h2 (by simpa using hl) (fun j p q hp hq => hv (j + 1) p q (by simpa using hp) (by simpa using hq)) hf
            refine ⟨cs', ?_, h4⟩
            have hvl : v.cells.size = size := by rw [← hs, ← hlen]; simp
            have h1' : off + v.cells.size ≤ cs.length := by
              rcases h1 with h1 | h1
              · rw [← Array.length_toList, h1] at hvl; simp at hvl; omega
              · simpa using h1
            have hfit : ¬ ((v.cells.size != size || decide (off + v.cells.size > cs.toArray.size)) = true) := by
              simp [hvl]; omega
            unfold Instr.fill
            rw [← hpl i, hp]
            simp only
            rw [if_neg (by simpa using hfit)]
            rw [← h3]
            congr 1
            apply Array.ext'
            rw [← Array.foldl_toList, Array.toList_zipIdx]
            have := fold_set v.cells.toList off 0 cs.toArray (by simpa using h1')
            simpa using this

end
end Go.Bx

/-
  The operations, continued: struct and slice literals, make, slice expressions.
-/
namespace Go.Bx

section
variable {P : Program} {w w0 : World} {F : Nat → Prop} {L : Lo} {h : HF} {H : Heap} {fr : Nat}

theorem allInfo_get : ∀ {fs : List Field} {i : Nat} {f : Field}, allInfo P fs = true → fs[i]? = some f → ∃ ti, P.info? f.type = some ti
  | [], _, _, _, h => by simp at h
  | g :: fs, i, f, ha, h => by
    simp only [allInfo] at ha
    cases hi : P.info? g.type with
    | none => rw [hi] at ha; simp at ha
    | some ti =>
      rw [hi] at ha
      cases i with
      | zero => simp at h; subst h; exact ⟨ti, hi⟩
      | succ i => exact allInfo_get ha (by simpa using h)

theorem places_run : ∀ {fs : List Field}, allInfo P fs = true →
    (fs.mapM fun (f : Field) => (do pure (f.offset, ← sizeOf f.type) : Sem (Nat × Nat))).run P w = .ok (fs.map fun f => (f.offset, sizeT P f.type)) w
  | [], _ => rfl
  | g :: fs, ha => by
    simp only [allInfo] at ha
    cases hi : P.info? g.type with
    | none => rw [hi] at ha; simp at ha
    | some ti =>
      rw [hi] at ha
      simp only [List.mapM_cons, Sem.run_bind, run_so hi, Sem.run_pure, Result.andThen_ok, places_run ha, List.map_cons]

theorem parts_rel {r : Operand → AVal} {rho : Operand → Value} {parts : Array (Nat × Operand)} (hv : ∀ x ∈ parts.toList.map (·.2), val L (r x) (rho x)) :
    (parts.toList.map fun (i, x) => (i, r x)).length = (parts.map fun (i, x) => (i, rho x)).toList.length ∧
    ∀ (j : Nat) (p : Nat × AVal) (q : Nat × Value), (parts.toList.map fun (i, x) => (i, r x))[j]? = some p → (parts.map fun (i, x) => (i, rho x)).toList[j]? = some q → p.1 = q.1 ∧ val L p.2 q.2 := by
  refine ⟨by simp, fun j p q hp hq => ?_⟩
  simp only [Array.toList_map, List.getElem?_map] at hp hq
  cases he : parts.toList[j]? with
  | none => rw [he] at hp; simp at hp
  | some e =>
    rw [he] at hp hq
    simp only [Option.map_some, Option.some.injEq] at hp hq
    subst hp; subst hq
    exact ⟨rfl, hv e.2 (List.mem_map.2 ⟨e, List.mem_of_getElem? he, rfl⟩)⟩

theorem build_ok (g : Good F w0 L h w) {o : Oper} {r : Operand → AVal} {rho : Operand → Value} {t : TypeId} {parts : Array (Nat × Operand)} (ho : o.op = .build t parts)
    (hv : ∀ x ∈ parts.toList.map (·.2), val L (r x) (rho x)) {z l : List AVal} (hz : zeroOf P t = some z)
    (he : (∃ fs, P.underlying t = some (.struct fs) ∧ allInfo P fs.toList = true ∧ fillA (fun i => (fs.toList[i]?).map fun f => (f.offset, sizeT P f.type)) z (parts.toList.map fun (i, x) => (i, r x)) = some (true, l)) ∨
      (∃ n e ie, P.underlying t = some (.array n e) ∧ P.info? e = some ie ∧ fillA (fun i => some (i * sizeT P e, sizeT P e)) z (parts.toList.map fun (i, x) => (i, r x)) = some (true, l))) :
    OpRun P (execOp rho o) w (Post F w0 L h fr [] (mkAgg l)) := by
  obtain ⟨i, zv, hi, hz', hr, hc⟩ := zeroOf_ok (w := w) (L := L) hz
  obtain ⟨hl, hp⟩ := parts_rel hv
  rcases he with ⟨fs, ht, ha, he⟩ | ⟨n, e, ie, ht, hie, he⟩
  · obtain ⟨cs', h1, h2⟩ := fill_ok (pl' := fun i => (fs.map fun f => (f.offset, sizeT P f.type))[i]?) (fun i => by rw [Array.getElem?_map, Array.getElem?_toList]) hc hl hp he
    refine OpRun.value (v := .agg cs'.toArray) (w' := w) ?_ (Post.pure g (val_of1 (mkAgg_ok h2)))
    have hm : (fs.mapM fun (f : Field) => (do pure (f.offset, ← sizeOf f.type) : Sem (Nat × Nat))).run P w = .ok (fs.map fun f => (f.offset, sizeT P f.type)) w := by
      rw [Array.mapM_eq_mapM_toList, Sem.run_map, places_run ha]
      simp only [Result.andThen_ok]
      congr 1
      apply Array.ext'
      simp
    rw [cells_toArray] at h1
    simp only [execOp, ho, Instr.build, Sem.run_bind, hr, Result.andThen_ok, run_underlying ht, hm, h1, Sem.run_pure]
  · obtain ⟨cs', h1, h2⟩ := fill_ok (pl' := fun i => some (i * sizeT P e, sizeT P e)) (fun i => rfl) hc hl hp he
    refine OpRun.value (v := .agg cs'.toArray) (w' := w) ?_ (Post.pure g (val_of1 (mkAgg_ok h2)))
    rw [cells_toArray] at h1
    simp only [execOp, ho, Instr.build, Sem.run_bind, hr, Result.andThen_ok, run_underlying ht, run_so hie, h1, Sem.run_pure]

/-! ### Zero elements -/

theorem cells_flat {c : List AVal} {cs : List Value} (hc : cells L c cs) : ∀ n, cells L ((List.replicate n c).flatten) ((List.replicate n cs).flatten)
  | 0 => rfl
  | n + 1 => by
    simp only [List.replicate_succ, List.flatten_cons]
    exact cells_append hc (cells_flat hc n)

theorem flat_get (z : List Value) (hz : z ≠ []) : ∀ (n i : Nat), i < n * z.length → ((List.replicate n z).flatten)[i]? = z[i % z.length]?
  | 0, i, h => by simp at h
  | n + 1, i, h => by
    have hp : 0 < z.length := by
      cases z with
      | nil => exact absurd rfl hz
      | cons a l => simp
    simp only [List.replicate_succ, List.flatten_cons]
    rcases Nat.lt_or_ge i z.length with h' | h'
    · rw [List.getElem?_append_left h', Nat.mod_eq_of_lt h']
    · rw [List.getElem?_append_right h', flat_get z hz n (i - z.length) (by rw [Nat.succ_mul] at h; omega)]
      rw [Nat.mod_eq_sub_mod h']

theorem zeroElems_ok {e : TypeId} {n : Nat} {l : List AVal} (he : zeroElems P e n = some l) :
    ∃ i zv, P.info? e = some i ∧ i.zero = some zv ∧ (∀ w, (zeroValue e).run P w = .ok zv w) ∧ zv.cells.size = i.size ∧
      ∃ cs, cells L l cs ∧ cs.length = n * zv.cells.size ∧ (∀ j, j < n * zv.cells.size → cs[j]? = some (zv.cells[j % zv.cells.size]!)) := by
  unfold zeroElems at he
  cases hi : P.info? e with
  | none => rw [hi] at he; simp at he
  | some i =>
    rw [hi] at he
    simp only at he
    cases hz : i.zero with
    | none => rw [hz] at he; simp at he
    | some zv =>
      rw [hz] at he
      simp only at he
      cases hs : Nat.beq zv.cells.size i.size <;> rw [hs] at he <;> simp only [cond_false, cond_true, reduceCtorEq] at he
      have hs := beq_eq' hs
      refine ⟨i, zv, rfl, hz, fun w => by simp [zeroValue, run_ti hi, hz], hs, ?_⟩
      split at he
      · rename_i k _
        simp only [Option.some.injEq] at he; subst he
        refine ⟨(List.replicate n 0).map (fun (x : Nat) => Value.int k (x : Int)), ?_, by simp [Value.cells], ?_⟩
        · exact ⟨_, [], by simp, ⟨by simp, fun x hx => by simp at hx; omega, rfl⟩, rfl⟩
        · intro j hj
          simp only [Value.cells, List.size_toArray, List.length_cons, List.length_nil, Nat.zero_add, Nat.mul_one] at hj
          simp [Value.cells, hj, Nat.mod_one]
      · cases hzo : zeroOf P e with
        | none => rw [hzo] at he; simp at he
        | some c =>
          rw [hzo] at he
          simp only [Option.some.injEq] at he; subst he
          obtain ⟨i', z', a1, a2, _, hc⟩ := zeroOf_ok (w := default) (L := L) hzo
          rw [hi] at a1; cases a1
          rw [hz] at a2; cases a2
          refine ⟨_, cells_flat hc n, by simp, fun j hj => ?_⟩
          by_cases h0 : zv.cells.toList = []
          · have : zv.cells.size = 0 := by rw [← Array.length_toList, h0]; rfl
            rw [this] at hj; simp at hj
          · have hp : 0 < zv.cells.size := by
              rcases Nat.eq_zero_or_pos zv.cells.size with h | h
              · exact absurd (by rw [← Array.length_toList] at h; exact List.length_eq_zero_iff.1 h) h0
              · exact h
            have := flat_get zv.cells.toList h0 n j (by simpa using hj)
            rw [this]
            simp only [Array.length_toList, Array.getElem?_toList]
            have hm := Nat.mod_lt j hp
            simp [hm]

theorem sizeT_of {e : TypeId} {ie : TypeInfo} (h : P.info? e = some ie) : sizeT P e = ie.size := by simp [sizeT, h]

theorem fill_size {pl : Nat → Option (Nat × Nat)} : ∀ {vs : List (Nat × Value)} {a b : Array Value}, Instr.fill pl a vs = some b → b.size = a.size
  | [], a, b, h => by simp [Instr.fill] at h; rw [h]
  | (i, v) :: vs, a, b, h => by
    unfold Instr.fill at h
    cases hp : pl i with
    | none => rw [hp] at h; simp at h
    | some x =>
      obtain ⟨off, size⟩ := x
      rw [hp] at h
      simp only at h
      split at h
      · simp at h
      · have := fill_size h
        rw [this, ← Array.foldl_toList]
        rename_i hc
        generalize v.cells.zipIdx.toList = l
        clear h this hc
        induction l generalizing a with
        | nil => rfl
        | cons x l ih => simp only [List.foldl_cons]; rw [ih]; simp

theorem range_map {cs : List Value} {m : Nat} {f : Nat → Value} (hl : cs.length = m) (hg : ∀ j, j < m → cs[j]? = some (f j)) : (Array.range m).map f = cs.toArray := by
  apply Array.ext'
  apply List.ext_getElem?
  intro j
  simp only [Array.toList_map, Array.toList_range, List.getElem?_map]
  rcases Nat.lt_or_ge j m with h | h
  · rw [hg j h]; simp [h]
  · rw [List.getElem?_eq_none (show cs.length ≤ j by omega)]; simp [h]

theorem buildSlice_ok (g : Good F w0 L h w) (hfr : ∀ n, fr ≤ n → n < fr + 16 → ¬ L.live n) {o : Oper} {r : Operand → AVal} {rho : Operand → Value} {t e : TypeId} {n : Nat} {parts : Array (Nat × Operand)} (ho : o.op = .buildSlice t n parts)
    (hv : ∀ x ∈ parts.toList.map (·.2), val L (r x) (rho x)) {z l : List AVal} (ht : P.underlying t = some (.slice e)) (hz : zeroElems P e n = some z)
    (he : fillA (fun i => some (i * sizeT P e, sizeT P e)) z (parts.toList.map fun (i, x) => (i, r x)) = some (true, l)) (hb : n * sizeT P e ≤ 16777216) :
    OpRun P (execOp rho o) w (Post F w0 L h fr [(fr, some ⟨false, l⟩)] (.slice fr 0 (sizeT P e) n n n (some n))) := by
  obtain ⟨i, zv, hi, hz', hr, hzs, cs, hc, hlen, hget⟩ := zeroElems_ok (L := L) hz
  obtain ⟨hl, hp⟩ := parts_rel hv
  obtain ⟨cs', h1, h2⟩ := fill_ok (pl' := fun i => some (i * sizeT P e, sizeT P e)) (fun i => rfl) hc hl hp he
  have hl' := fill_size h1
  simp only [List.size_toArray] at hl'
  have hse := sizeT_of hi
  have hn := new_le hfr ⟨w.heap.size, 0, cs'.toArray.size⟩
  refine OpRun.value (v := .slice (some ⟨w.heap.size, 0, none⟩) n n) (w' := pushRow w cs'.toArray e) ?_ ⟨_, hn.1, hn.2, ?_, g.alloc (hfr fr (Nat.le_refl _) (by omega)) cs'.toArray e h2 (by simp) (fun i hi => by simp)⟩
  · have hnb : ¬ (16777216 < n * sizeT P e) := by omega
    by_cases h0 : n * sizeT P e = 0
    · have hcs : cs = [] := by
        have : cs.length = 0 := by rw [hlen, hzs, ← hse]; exact h0
        simpa using this
      subst hcs
      have h1' : Instr.fill (fun i => some (i * sizeT P e, sizeT P e)) #[] (parts.map fun (i, x) => (i, rho x)).toList = some cs'.toArray := h1
      simp only [Array.toList_map] at h1'
      have hr0 : ∀ f : Nat → Value, Array.map f (Array.range 0) = #[] := fun _ => by simp [Array.range_zero']
      simp [execOp, ho, Instr.buildSlice, run_underlying ht, run_so hi, h0, hr0, h1', newRow, pushRow]
    · have harr : (Array.range (n * sizeT P e)).map (fun j => zv.cells[j % zv.cells.size]!) = cs.toArray := by
        rw [hse, ← hzs]
        exact range_map hlen hget
      simp only [Array.toList_map] at h1
      simp [execOp, ho, Instr.buildSlice, run_underlying ht, run_so hi, h0, hnb, hr, harr, h1, newRow, pushRow]
  · refine ⟨Nat.le_refl _, Nat.le_refl _, .inr ⟨.inl rfl, n, by simp [Lo.addr, Lo.new], Nat.le_refl _, ?_, fun c' hc' => by simpa using hc'⟩⟩
    simp only [Lo.new, if_true, List.size_toArray]
    rw [hl', hlen, hzs, hse]; omega

end
end Go.Bx

/-
  The operations, continued: make, slice expressions, pointers to arrays.
-/
namespace Go.Bx

section
variable {P : Program} {w w0 : World} {F : Nat → Prop} {L : Lo} {h : HF} {H : Heap} {fr : Nat}

theorem leN_le {a ha b lb : Nat} (h : leN a ha b lb = true) (h1 : a ≤ ha) (h2 : lb ≤ b) : a ≤ b := by
  unfold leN at h
  rcases Bool.or_eq_true _ _ |>.mp h with h | h <;> have := ble_le h <;> omega

theorem makeSlice_ok (g : Good F w0 L h w) (hfr : ∀ n, fr ≤ n → n < fr + 16 → ¬ L.live n) {o : Oper} {rho : Operand → Value} {t e : TypeId} {x y : Operand} (ho : o.op = .makeSlice t x y)
    {n nl nh m ml mh : Nat} (hx : val L (.nat .i64 n nl nh) (rho x)) (hy : val L (.nat .i64 m ml mh) (rho y)) (ht : P.underlying t = some (.slice e)) {z : List AVal} (hz : zeroElems P e n = some z) {ie : TypeInfo} (hi : P.info? e = some ie)
    (h1 : leN n nh m ml = true) (h2 : mh ≤ limit) (h3 : ie.bytes ≤ 64) :
    OpRun P (execOp rho o) w (Post F w0 L h fr [(fr, some ⟨false, z⟩)] (.slice fr 0 ie.size n nl nh none)) := by
  obtain ⟨i, zv, hi', hz', hr, hzs, cs, hc, hlen, hget⟩ := zeroElems_ok (L := L) hz
  rw [hi] at hi'; cases hi'
  simp only [val, val1, val0] at hx hy
  have hnm := leN_le h1 hx.2.2 hy.2.1
  have hm : m ≤ 1099511627776 := by have := hy.2.2; simp only [limit] at h2; omega
  have hb : ie.bytes * m ≤ 64 * 1099511627776 := Nat.mul_le_mul h3 hm
  have hmk := run_make (P := P) w t e ie zv ht hi hz' .i64 .i64 (n : Int) (m : Int) (by omega) (by omega) (by
    have : ((ie.bytes * m : Nat) : Int) ≤ ((64 * 1099511627776 : Nat) : Int) := by exact_mod_cast hb
    rw [Int.natCast_mul] at this
    omega) (by omega)
  simp only [Int.toNat_natCast] at hmk
  have hsz : (madeCells zv.cells (m * ie.size)).size = m * ie.size := size_madeCells _ _
  have hn := new_le hfr ⟨w.heap.size, 0, (madeCells zv.cells (m * ie.size)).size⟩
  have hle : n * ie.size ≤ m * ie.size := Nat.mul_le_mul_right _ hnm
  refine OpRun.value (v := .slice (some ⟨w.heap.size, 0, none⟩) n m) (w' := pushRow w (madeCells zv.cells (m * ie.size)) e) ?_ ⟨_, hn.1, hn.2, ?_, g.alloc (hfr fr (Nat.le_refl _) (by omega)) _ e hc (by rw [hlen, hzs, hsz]; exact hle) ?_⟩
  · simp only [execOp, ho, hx.1, hy.1, Sem.run_bind, hmk, Result.andThen_ok, Sem.run_pure]; rfl
  · refine ⟨hx.2.1, hx.2.2, .inr ⟨.inl rfl, m, by simp [Lo.addr, Lo.new], hnm, ?_, fun c' hc' => by simp at hc'⟩⟩
    simp only [Lo.new, if_true, hsz]; omega
  · intro j hj
    rw [hlen] at hj
    rw [hget j hj]
    have hj2 : j < m * ie.size := by rw [hzs] at hj; omega
    simp [madeCells, hj2]

/-! ### Slice expressions -/

def orel (L : Lo) : Option AVal → Option Value → Prop
  | none, none => True
  | some a, some v => val L a v
  | _, _ => False

theorem bnd_ok {d dl dh : Nat} {a : Option AVal} {v : Option Value} {l ll lh : Nat} (hr : orel L a v) (hd : dl ≤ d ∧ d ≤ dh) (h : bnd d dl dh a = some (l, ll, lh)) :
    ll ≤ l ∧ l ≤ lh ∧ ((v = none ∧ a = none ∧ l = d) ∨ ∃ k, v = some (.int k (l : Int))) := by
  cases a with
  | none =>
    simp only [bnd, Option.some.injEq, Prod.mk.injEq] at h
    obtain ⟨rfl, rfl, rfl⟩ := h
    cases v with
    | none => exact ⟨hd.1, hd.2, .inl ⟨rfl, rfl, rfl⟩⟩
    | some v => exact hr.elim
  | some a =>
    cases v with
    | none => exact hr.elim
    | some v =>
      cases a <;> simp only [bnd, natOf, reduceCtorEq, Option.some.injEq, Prod.mk.injEq] at h
      obtain ⟨rfl, rfl, rfl⟩ := h
      simp only [orel, val, val1, val0] at hr
      exact ⟨hr.2.1, hr.2.2, .inr ⟨_, by rw [hr.1]⟩⟩

theorem sliceBound_ok (k : IntKind) (i y : Nat) (code : BoundsCode) (hle : i ≤ y) : (Instr.sliceBound (.int k (i : Int)) y code).run P w = .ok i w := by
  simp [Instr.sliceBound, asIntOf, hle]

theorem bounds_ok {sl : Bool} {len cap : Nat} {lov hiv mxv : Option Value} {l hh c : Nat} (hl : (lov = none ∧ l = 0) ∨ ∃ k, lov = some (.int k (l : Int)))
    (hhi : (hiv = none ∧ mxv = none ∧ hh = len) ∨ ∃ k, hiv = some (.int k (hh : Int))) (hc : (mxv = none ∧ c = cap) ∨ ∃ k, mxv = some (.int k (c : Int))) (h1 : l ≤ hh) (h2 : hh ≤ c) (h3 : c ≤ cap) :
    (Instr.sliceBounds sl len cap lov hiv mxv).run P w = .ok (l, hh, c) w := by
  rcases hl with ⟨rfl, rfl⟩ | ⟨k1, rfl⟩ <;> rcases hc with ⟨rfl, rfl⟩ | ⟨k3, rfl⟩ <;> rcases hhi with ⟨rfl, he, rfl⟩ | ⟨k2, rfl⟩ <;>
    first
    | (simp at he; done)
    | simp [Instr.sliceBounds, sliceBound_ok _ _ _ _ h1, sliceBound_ok _ _ _ _ h2, sliceBound_ok _ _ _ _ h3]

theorem sliceArr_ok (g : Good F w0 L h w) {o : Oper} {rho : Operand → Value} {t e : TypeId} {x : Operand} {lo hi mx : Option Operand} (ho : o.op = .slice t x lo hi mx)
    {n m off l ll lh hh hl hu c cl cu : Nat} (hx : val L (.ptr m off) (rho x)) (ht : P.underlying t = some (.array n e)) {ie : TypeInfo} (hi' : P.info? e = some ie)
    {la ha ca : Option AVal} (rl : orel L la (lo.map rho)) (rh : orel L ha (hi.map rho)) (rc : orel L ca (mx.map rho))
    (bl : bnd 0 0 0 la = some (l, ll, lh)) (bh : bnd n n n ha = some (hh, hl, hu)) (bc : bnd n n n ca = some (c, cl, cu)) (hmx : (ca.isSome && !ha.isSome) = false)
    (h1 : leN l lh hh hl = true) (h2 : leN hh hu c cl = true) (h3 : leN c cu n n = true) (hext : ∃ r, h m = some r ∧ ((off : Nat) + n * ie.size ≤ sizes r.c)) :
    OpRun P (execOp rho o) w (Post F w0 L h fr [] (.slice m (addOff off (mulSz l ie.size)) ie.size (hh - l) (hl - lh) (hu - ll) (some (c - l)))) := by
  obtain ⟨a1, a2, a3⟩ := bnd_ok rl ⟨Nat.le_refl _, Nat.le_refl _⟩ bl
  obtain ⟨b1, b2, b3⟩ := bnd_ok rh ⟨Nat.le_refl _, Nat.le_refl _⟩ bh
  obtain ⟨c1, c2, c3⟩ := bnd_ok rc ⟨Nat.le_refl _, Nat.le_refl _⟩ bc
  have e1 := leN_le h1 a2 b1
  have e2 := leN_le h2 b2 c1
  have e3 := leN_le h3 c2 (Nat.le_refl _)
  have hb := bounds_ok (P := P) (w := w) (sl := false) (len := n) (cap := n) (lov := lo.map rho) (hiv := hi.map rho) (mxv := mx.map rho) (l := l) (hh := hh) (c := c)
    (by rcases a3 with ⟨x1, _, x2⟩ | x1
        · exact .inl ⟨x1, x2⟩
        · exact .inr x1)
    (by rcases b3 with ⟨x1, x2, x3⟩ | x1
        · rcases c3 with ⟨y1, y2, y3⟩ | y1
          · exact .inl ⟨x1, y1, x3⟩
          · subst x2
            cases ca with
            | none => obtain ⟨k, y1⟩ := y1; rw [y1] at rc; exact rc.elim
            | some a => simp at hmx
        · exact .inr x1)
    (by rcases c3 with ⟨x1, _, x2⟩ | x1
        · exact .inl ⟨x1, x2⟩
        · exact .inr x1) e1 e2 e3
  simp only [val, val1, val0] at hx
  rw [addOff_eq, mulSz_eq]
  have hse := sizeT_of hi'
  refine OpRun.value (v := .slice (some (if c = l then L.addr m off else (L.addr m off).add (l * ie.size))) (hh - l) (c - l)) (w' := w) ?_ (Post.pure g (val_of0 ?_))
  · simp [execOp, ho, Instr.sliceAt, run_underlying ht, hx.2, Instr.sureAddr, hb, run_so hi', hse]
  · refine ⟨by omega, by omega, ?_⟩
    by_cases hcl : c = l
    · refine .inl ⟨by omega, fun c' hc' => ?_, ?_⟩
      · simp at hc'; omega
      · have z1 : hh - l = 0 := by omega
        have z2 : c - l = 0 := by omega
        exact ⟨some (L.addr m off), by rw [if_pos hcl, z1, z2]⟩
    · refine .inr ⟨hx.1, c - l, by rw [if_neg hcl, addr_add], by omega, ?_, fun c' hc' => by simpa using hc'⟩
      obtain ⟨r, hr, hsz⟩ := hext
      obtain ⟨cs, hc, hrow⟩ := g.row m r hr
      have hcl' := cells_length hc
      have hle : cs.length ≤ (L.loc m).ext := by
        rcases hrow with ⟨rfl, _⟩ | ⟨_, _, _, _, h, _⟩
        · simp
        · exact h
      have : l * ie.size + (c - l) * ie.size ≤ n * ie.size := by
        rw [← Nat.add_mul]; exact Nat.mul_le_mul_right _ (by omega)
      omega

theorem sliceSl_ok (g : Good F w0 L h w) {o : Oper} {rho : Operand → Value} {t e : TypeId} {x : Operand} {lo hi : Option Operand} (ho : o.op = .slice t x lo hi none)
    {m off sz n nl nh l ll lh hh hl hu : Nat} {cap : Option Nat} (hx : val L (.slice m off sz n nl nh cap) (rho x)) (ht : P.underlying t = some (.slice e)) {ie : TypeInfo} (hi' : P.info? e = some ie) (hsz : sz = ie.size)
    {la ha : Option AVal} (rl : orel L la (lo.map rho)) (rh : orel L ha (hi.map rho))
    (bl : bnd 0 0 0 la = some (l, ll, lh)) (bh : bnd n nl nh ha = some (hh, hl, hu))
    (h1 : leN l lh hh hl = true) (h2 : slHi ha hh hu n nl = true) :
    OpRun P (execOp rho o) w (Post F w0 L h fr [] (.slice m (addOff off (mulSz l ie.size)) ie.size (slLen la hh l) (hl - lh) (hu - ll) (slCap cap l))) := by
  have hx' := hx
  simp only [val, val1, val0] at hx'
  obtain ⟨n1, n2, hx'⟩ := hx'
  obtain ⟨a1, a2, a3⟩ := bnd_ok rl ⟨Nat.le_refl _, Nat.le_refl _⟩ bl
  obtain ⟨b1, b2, b3⟩ := bnd_ok rh ⟨n1, n2⟩ bh
  have e1 := leN_le h1 a2 b1
  have e2 : hh ≤ n := by
    cases ha with
    | none =>
      rcases b3 with ⟨_, _, x3⟩ | ⟨k, x1⟩
      · omega
      · rw [x1] at rh; exact rh.elim
    | some a => exact leN_le h2 b2 n1
  have hlen : slLen la hh l = hh - l := by
    cases la with
    | none =>
      rcases a3 with ⟨_, _, x3⟩ | ⟨k, x1⟩
      · show hh = hh - l; omega
      · rw [x1] at rl; exact rl.elim
    | some a => rfl
  rw [hlen, addOff_eq, mulSz_eq]
  have hse := sizeT_of hi'
  subst hsz
  have hb : ∀ c, n ≤ c → (Instr.sliceBounds true n c (lo.map rho) (hi.map rho) none).run P w = .ok (l, hh, c) w := fun c hc =>
    bounds_ok (P := P) (w := w) (by rcases a3 with ⟨x1, _, x2⟩ | x1
                                    · exact .inl ⟨x1, x2⟩
                                    · exact .inr x1)
      (by rcases b3 with ⟨x1, _, x3⟩ | x1
          · exact .inl ⟨x1, rfl, x3⟩
          · exact .inr x1) (.inl ⟨rfl, rfl⟩) e1 (by omega) (Nat.le_refl _)
  rcases hx' with ⟨z0, z1, a, z2⟩ | ⟨hl', c, z2, z3, z4, z5⟩
  · have hl0 : l = 0 := by omega
    have hh0 : hh = 0 := by omega
    subst hl0; subst hh0
    refine OpRun.value (v := .slice a 0 0) (w' := w) ?_ (Post.pure g (val_of0 ⟨by omega, by omega, .inl ⟨rfl, fun c' hc' => ?_, a, rfl⟩⟩))
    · have hb' := hb 0 (by omega)
      rw [z0] at hb'
      simp [execOp, ho, Instr.sliceAt, Instr.slice, run_underlying ht, z2, hb', run_so hi']
    · cases cap with
      | none => simp [slCap] at hc'
      | some c => simp [slCap] at hc'; have := z1 c rfl; omega
  · have hb' := hb c z3
    refine OpRun.value (v := .slice (if c = l then some (L.addr m off) else some ((L.addr m off).add (l * ie.size))) (hh - l) (c - l)) (w' := w) ?_ (Post.pure g (val_of0 ⟨by omega, by omega, ?_⟩))
    · simp [execOp, ho, Instr.sliceAt, Instr.slice, run_underlying ht, z2, hb', run_so hi', hse]
    · by_cases hcl : c = l
      · refine .inl ⟨by omega, fun c' hc' => ?_, some (L.addr m off), ?_⟩
        · cases cap with
          | none => simp [slCap] at hc'
          | some c0 => simp [slCap] at hc'; have := z5 c0 rfl; omega
        · have y1 : hh - l = 0 := by omega
          have y2 : c - l = 0 := by omega
          rw [if_pos hcl, y1, y2]
      · refine .inr ⟨hl', c - l, by rw [if_neg hcl, addr_add], by omega, ?_, fun c' hc' => ?_⟩
        · have : l * ie.size + (c - l) * ie.size = c * ie.size := by rw [← Nat.add_mul]; congr 1; omega
          omega
        · cases cap with
          | none => simp [slCap] at hc'
          | some c0 => simp [slCap] at hc'; have := z5 c0 rfl; omega

theorem s2ap_ok (g : Good F w0 L h w) {o : Oper} {rho : Operand → Value} {t e : TypeId} {x : Operand} (ho : o.op = .sliceToArrayPointer t x)
    {m off sz len lo hi n : Nat} {cap : Option Nat} (hx : val L (.slice m off sz len lo hi cap) (rho x)) (ht : P.underlying t = some (.array n e)) (h1 : leN n n len lo = true) (h2 : 0 < n) :
    OpRun P (execOp rho o) w (Post F w0 L h fr [] (.ptr m off)) := by
  simp only [val, val1, val0] at hx
  obtain ⟨n1, n2, hx⟩ := hx
  have e1 := leN_le h1 (Nat.le_refl _) n1
  rcases hx with ⟨z0, _⟩ | ⟨hl, c, z2, _⟩
  · omega
  · refine OpRun.value (v := .pointer (some (L.addr m off))) (w' := w) ?_ (Post.pure g ⟨hl, rfl⟩)
    have : ¬ len < n := by omega
    simp [execOp, ho, Instr.arrayAt, run_underlying ht, z2, this]

end
end Go.Bx

/-
  The operations, continued: append and copy.
-/
namespace Go.Bx

theorem dropS_eq {α : Type} (off : Nat) (xs : List α) : dropS off xs = xs.drop off := by
  unfold dropS
  cases h : Nat.beq off 0
  · rfl
  · have := beq_eq' h; subst this; rfl

section
variable {P : Program} {w w0 : World} {F : Nat → Prop} {L : Lo} {h : HF} {H : Heap} {fr : Nat}

theorem elems_ok {l m : List AVal} {cs : List Value} {off c : Nat} (hc : cells L l cs) (he : elems l off c = some (true, m)) :
    (c = 0 ∨ off + c ≤ cs.length) ∧ cells L m ((cs.drop off).take c) := by
  unfold elems at he
  split at he
  · simp only [Option.some.injEq, Prod.mk.injEq] at he
    obtain ⟨h1, rfl⟩ := he
    have := beq_eq' h1; subst this
    exact ⟨.inl rfl, by simp [cells]⟩
  · simp only [Option.some.injEq, Prod.mk.injEq] at he
    obtain ⟨h1, rfl⟩ := he
    have h1 := ble_le h1
    obtain ⟨c1, d, e, ⟨rfl, rfl⟩, hd⟩ := hc
    simp only [cells] at hd; subst hd; subst e
    refine ⟨.inr (by simpa using h1), _, [], ?_, ⟨?_, rfl⟩, rfl⟩
    · simp [dropS_eq, List.map_take, List.map_drop]
    · simp [dropS_eq]; omega
  · simp only [Option.some.injEq, Prod.mk.injEq] at he
    obtain ⟨h1, rfl⟩ := he
    have h1 := ble_le h1
    obtain ⟨c1, d, e, ⟨rfl, hx, rfl⟩, hd⟩ := hc
    simp only [cells] at hd; subst hd; subst e
    refine ⟨.inr (by simpa using h1), _, [], ?_, ⟨?_, fun x hx' => ?_, rfl⟩, rfl⟩
    · simp [dropS_eq, List.map_take, List.map_drop]
    · simp [dropS_eq]; omega
    · rw [dropS_eq] at hx'; exact hx x (List.mem_of_mem_drop (List.mem_of_mem_take hx'))
  · cases hr : rdRange l off c with
    | none => rw [hr] at he; simp at he
    | some q =>
      rw [hr] at he
      simp only [Option.map_some, Option.some.injEq, Prod.mk.injEq, true_and] at he; subst he
      exact rdRange_ok hc hr

theorem tailOf_ok {l m : List AVal} {cs : List Value} {off c : Nat} (hc : cells L l cs) (he : tailOf l off c = some (true, m)) :
    (cs.drop off).length = c ∧ cells L m (cs.drop off) := by
  unfold tailOf at he
  split at he
  · simp only [Option.some.injEq, Prod.mk.injEq] at he
    obtain ⟨h1, rfl⟩ := he
    have := beq_eq' h1; subst this
    simp only [cells] at hc; subst hc
    exact ⟨by simp, by simp [cells]⟩
  · simp only [Option.some.injEq, Prod.mk.injEq] at he
    obtain ⟨h1, rfl⟩ := he
    have h1 := beq_eq' h1
    obtain ⟨c1, d, e, ⟨rfl, rfl⟩, hd⟩ := hc
    simp only [cells] at hd; subst hd; subst e
    refine ⟨by simp; omega, _, [], ?_, ⟨?_, rfl⟩, rfl⟩
    · simp [dropS_eq, List.map_drop]
    · simp [dropS_eq]; omega
  · simp only [Option.some.injEq, Prod.mk.injEq] at he
    obtain ⟨h1, rfl⟩ := he
    have h1 := beq_eq' h1
    obtain ⟨c1, d, e, ⟨rfl, hx, rfl⟩, hd⟩ := hc
    simp only [cells] at hd; subst hd; subst e
    refine ⟨by simp; omega, _, [], ?_, ⟨?_, fun x hx' => ?_, rfl⟩, rfl⟩
    · simp [dropS_eq, List.map_drop]
    · simp [dropS_eq]; omega
    · rw [dropS_eq] at hx'; exact hx x (List.mem_of_mem_drop hx')
  · cases hb : (Nat.beq off 0 && Nat.beq c (sizes l)) <;> rw [hb] at he <;> simp only [cond_false, cond_true, reduceCtorEq, Option.some.injEq, Prod.mk.injEq, true_and] at he
    subst he
    simp only [Bool.and_eq_true] at hb
    have e1 := beq_eq' hb.1
    have e2 := beq_eq' hb.2
    subst e1
    have := cells_length hc
    exact ⟨by simp; omega, by simpa using hc⟩

theorem joinP_ok {a b z : List AVal} {cs ds : List Value} (ha : cells L a cs) (hb : cells L b ds) (he : joinP a b = some z) : cells L z (cs ++ ds) := by
  unfold joinP at he
  split at he
  · simp only [cells] at ha; subst ha
    simp only [Option.some.injEq] at he; subst he; simpa using hb
  · simp only [cells] at hb; subst hb
    simp only [Option.some.injEq] at he; subst he; simpa using ha
  · rename_i k hh n xs k' h' m ys
    cases hk : keq k k' <;> rw [hk] at he <;> simp only [cond_false, cond_true, reduceCtorEq, Option.some.injEq] at he
    have := keq_eq hk; subst this; subst he
    obtain ⟨c1, d, e, ⟨rfl, hx, rfl⟩, hd⟩ := ha
    simp only [cells] at hd; subst hd; subst e
    obtain ⟨c1, d, e, ⟨rfl, hy, rfl⟩, hd⟩ := hb
    simp only [cells] at hd; subst hd; subst e
    refine ⟨_, [], ?_, ⟨by simp, fun x hx' => ?_, rfl⟩, rfl⟩
    · simp
    · have mx := @max_of h' hh
      rcases List.mem_append.1 hx' with hm | hm
      · have := hx x hm; omega
      · have := hy x hm; omega
  · rename_i k n xs k' m ys
    cases hk : keq k k' <;> rw [hk] at he <;> simp only [cond_false, cond_true, reduceCtorEq, Option.some.injEq] at he
    have := keq_eq hk; subst this; subst he
    obtain ⟨c1, d, e, ⟨rfl, rfl⟩, hd⟩ := ha
    simp only [cells] at hd; subst hd; subst e
    obtain ⟨c1, d, e, ⟨rfl, rfl⟩, hd⟩ := hb
    simp only [cells] at hd; subst hd; subst e
    exact ⟨_, [], by simp, ⟨by simp, rfl⟩, rfl⟩
  · rename_i k n xs k' hh m ys
    cases hk : keq k k' <;> rw [hk] at he <;> simp only [cond_false, cond_true, reduceCtorEq, Option.some.injEq] at he
    have := keq_eq hk; subst this; subst he
    obtain ⟨c1, d, e, ⟨rfl, rfl⟩, hd⟩ := ha
    simp only [cells] at hd; subst hd; subst e
    obtain ⟨c1, d, e, ⟨rfl, hy, rfl⟩, hd⟩ := hb
    simp only [cells] at hd; subst hd; subst e
    refine ⟨_, [], ?_, ⟨by simp, rfl⟩, rfl⟩
    simp [List.map_map, Function.comp_def]
  · rename_i k hh n xs k' m ys
    cases hk : keq k k' <;> rw [hk] at he <;> simp only [cond_false, cond_true, reduceCtorEq, Option.some.injEq] at he
    have := keq_eq hk; subst this; subst he
    obtain ⟨c1, d, e, ⟨rfl, hx, rfl⟩, hd⟩ := ha
    simp only [cells] at hd; subst hd; subst e
    obtain ⟨c1, d, e, ⟨rfl, rfl⟩, hd⟩ := hb
    simp only [cells] at hd; subst hd; subst e
    refine ⟨_, [], ?_, ⟨by simp, rfl⟩, rfl⟩
    simp [List.map_map, Function.comp_def]
  · simp at he
  · simp at he
  · simp at he
  · simp at he
  · simp only [Option.some.injEq] at he; subst he
    exact cells_append ha hb

theorem min_sub {a b c : Nat} (h : a = 0 ∨ b + a ≤ c) : min a (c - b) = a := by omega

/-- The cells of a slice's elements, as the model takes them. -/
theorem firstCells_ok (g : Good F w0 L h w) {n off sz len lo hi : Nat} {cap : Option Nat} {u : Value} (hu : val L (.slice n off sz len lo hi cap) u) {r : Row} (hr : h n = some r) {size : Nat} {m : List AVal}
    (hm : ∀ cs, cells L r.c cs → (len * size = 0 ∨ off + len * size ≤ cs.length) ∧ cells L m ((cs.drop off).take (len * size))) :
    ∃ ns, cells L m ns ∧ ns.length = len * size ∧ (∀ w', w'.heap = w.heap → (Builtin.firstCells size len u).run P w' = .ok ns.toArray w') := by
  obtain ⟨cs, hc, hcell⟩ := cell_of g hr
  obtain ⟨h1, h2⟩ := hm cs hc
  have hlen : ((cs.drop off).take (len * size)).length = len * size := by
    rw [List.length_take, List.length_drop]; exact min_sub h1
  refine ⟨_, h2, hlen, fun w' hw => ?_⟩
  simp only [val, val1, val0] at hu
  obtain ⟨_, _, hu⟩ := hu
  rcases hu with ⟨z0, _, a, rfl⟩ | ⟨_, c, rfl, _⟩
  · subst z0
    cases a with
    | none => simp [Builtin.firstCells]
    | some a =>
      have := run_loadCells_list (P := P) w' a [] (by simp)
      simpa [Builtin.firstCells] using this
  · have hlc := run_loadCells_list (P := P) w' (L.addr n off) ((cs.drop off).take (len * size)) (by
      intro j v hj
      have hcell' : w'.cell? ((L.addr n off).add j) = w.cell? ((L.addr n off).add j) := by simp only [World.cell?, hw]
      rw [hcell', addr_add]
      apply hcell
      rw [List.getElem?_take] at hj
      split at hj
      · simpa using hj
      · simp at hj)
    rw [hlen] at hlc
    simpa [Builtin.firstCells] using hlc

theorem srcElems_ok (g : Good F w0 L h w) (hsub : ∀ n q, lk? H n = some q → h n = some q) {x : AVal} {u : Value} (hu : val L x u) {size len lo hi : Nat} {m : List AVal} (he : srcElems H size x = some (true, m, len, lo, hi)) :
    lo ≤ len ∧ len ≤ hi ∧ (∃ a c, u = .slice a len c) ∧ ∃ ns, cells L m ns ∧ ns.length = len * size ∧ (∀ w', w'.heap = w.heap → (Builtin.firstCells size len u).run P w' = .ok ns.toArray w') := by
  cases x <;> simp only [srcElems, reduceCtorEq] at he
  rename_i n off sz ln l2 h2 cap
  have hu' := hu
  simp only [val, val1, val0] at hu'
  obtain ⟨b1, b2, b3⟩ := hu'
  have hsl : ∃ a c, u = .slice a ln c := by
    rcases b3 with ⟨z0, _, a, rfl⟩ | ⟨_, c, rfl, _⟩
    · exact ⟨a, 0, by rw [z0]⟩
    · exact ⟨_, c, rfl⟩
  cases hh : Nat.beq h2 0 <;> rw [hh] at he <;> simp only [cond_false, cond_true, Option.some.injEq, Prod.mk.injEq, true_and] at he
  · cases hr : lk? H n with
    | none => rw [hr] at he; simp at he
    | some r =>
      rw [hr] at he
      simp only at he
      cases hel : elems r.c off (mulSz ln size) with
      | none => rw [hel] at he; simp at he
      | some p =>
        obtain ⟨c, l⟩ := p
        rw [hel] at he
        simp only [Option.some.injEq, Prod.mk.injEq] at he
        obtain ⟨rfl, rfl, rfl, rfl, rfl⟩ := he
        rw [mulSz_eq] at hel
        exact ⟨b1, b2, hsl, firstCells_ok (P := P) g hu (hsub _ _ hr) (fun cs hc => elems_ok hc hel)⟩
  · have := beq_eq' hh; subst this
    obtain ⟨rfl, rfl, rfl, rfl⟩ := he
    have z : ln = 0 := by omega
    subst z
    refine ⟨Nat.le_refl _, Nat.le_refl _, hsl, [], rfl, by simp, fun w' _ => ?_⟩
    rcases b3 with ⟨_, _, a, rfl⟩ | ⟨_, c, rfl, _⟩
    · cases a with
      | none => simp [Builtin.firstCells]
      | some a =>
        have := run_loadCells_list (P := P) w' a [] (by simp)
        simpa [Builtin.firstCells] using this
    · have := run_loadCells_list (P := P) w' (L.addr n off) [] (by simp)
      simpa [Builtin.firstCells] using this

theorem growBy_le (need : Nat) : ∀ (k c : Nat), c ≤ 2 * need + 200 → Builtin.growBy need k c ≤ 2 * need + 200
  | 0, _, h => h
  | k + 1, c, h => by
    unfold Builtin.growBy
    split
    · exact h
    · exact growBy_le need k _ (by omega)

theorem nextslicecap_le (need old : Nat) (h : old < need) : Builtin.nextslicecap need old ≤ 2 * need + 200 := by
  unfold Builtin.nextslicecap
  split
  · omega
  · split
    · omega
    · exact growBy_le need 4 old (by omega)

theorem grownCap_ge (w : World) (need old : Nat) (e : TypeId) : need ≤ grownCap w need old e := by
  unfold grownCap
  simp only [Question.cut]
  omega

/-- What append comes to, whichever way it goes. -/
theorem append_run {t t' ty e e' : TypeId} (ht : P.underlying t = some (.slice e)) (ht' : P.underlying t' = some (.slice e')) {ie : TypeInfo} (hi : P.info? e = some ie) {z : Value} (hz : ie.zero = some z)
    {base a2 : Option Addr} {len cap len2 c2 : Nat} {os ns : List Value}
    (ho : ∀ w', w'.heap = w.heap → (Builtin.firstCells ie.size len (.slice base len cap)).run P w' = .ok os.toArray w')
    (hn : ∀ w', w'.heap = w.heap → (Builtin.firstCells ie.size len2 (.slice a2 len2 c2)).run P w' = .ok ns.toArray w')
    (hb : len + len2 ≤ 1099511627776) (hby : ie.bytes ≤ 64) :
    (len + len2 ≤ cap → (Builtin.append_ #[t, t'] ty #[.slice base len cap, .slice a2 len2 c2]).run P w =
        (((match base with | some a => storeCells (a.add (len * ie.size)) ns | none => pure ()) : Sem Unit).run P w).andThen fun _ w' => .ok (.slice base (len + len2) cap) w') ∧
    (cap < len + len2 → (Builtin.append_ #[t, t'] ty #[.slice base len cap, .slice a2 len2 c2]).run P w =
        .ok (.slice (some ⟨w.heap.size, 0, none⟩) (len + len2) (grownCap w (len + len2) cap e))
          (pushRow w.drew (os.toArray ++ ns.toArray ++ Builtin.zeroCells z.cells (grownCap w (len + len2) cap e - (len + len2))) e)) := by
  have hse := sizeT_of hi
  have hso : ∀ w', (sizeOf e).run P w' = .ok ie.size w' := fun w' => by rw [run_so hi, hse]
  have hti : ∀ w', (typeInfo e).run P w' = .ok ie w' := fun w' => run_ti hi
  have hzv : ∀ w', (zeroValue e).run P w' = .ok z w' := fun w' => by simp [zeroValue, hti, hz]
  constructor
  · intro hle
    have hnw := hn w rfl
    cases base with
    | none => simp [Builtin.append_, run_underlying ht, run_underlying ht', hso, Builtin.lenOf, hle, hnw]
    | some a => simp [Builtin.append_, run_underlying ht, run_underlying ht', hso, Builtin.lenOf, hle, hnw]
  · intro hlt
    have hnc : ¬ (len + len2 ≤ cap) := by omega
    have h63 : ¬ (9223372036854775807 < ((len : Int) + (len2 : Int))) := by omega
    have hcap := nextslicecap_le (len + len2) cap hlt
    have h48 : ¬ (281474976710656 < Builtin.nextslicecap (len + len2) cap * ie.bytes) := by
      have : Builtin.nextslicecap (len + len2) cap * ie.bytes ≤ (2 * 1099511627776 + 200) * 64 := Nat.mul_le_mul (by omega) hby
      omega
    have how := ho w.drew rfl
    have hnw := hn w.drew rfl
    simp [Builtin.append_, run_underlying ht, run_underlying ht', hso, hti, hzv, Builtin.lenOf, hnc, h63, h48, Question.forced, how, hnw, newRow, grownCap, pushRow]
    refine congrArg (fun a => w.drew.alloc (.cells a e)) ?_
    apply Array.ext'
    simp

end
end Go.Bx

/-
  The operations, continued: append, copy, len, min, max, calls.
-/
namespace Go.Bx

section
variable {P : Program} {w w0 : World} {F : Nat → Prop} {L : Lo} {h : HF} {H : Heap} {fr : Nat}

theorem okElem_ok {ie : TypeInfo} (h : okElem ie = true) : ∃ z, ie.zero = some z ∧ z.cells.size = ie.size ∧ 0 < ie.size ∧ ie.bytes ≤ 64 := by
  unfold okElem at h
  cases hz : ie.zero with
  | none => rw [hz] at h; simp at h
  | some z =>
    rw [hz] at h
    simp only [Bool.and_eq_true] at h
    exact ⟨z, rfl, beq_eq' h.1.1, blt_lt h.1.2, ble_le h.2⟩

theorem builtin_run {b : Builtin} {ts : Array TypeId} {o : Oper} {rho : Operand → Value} {args : Array Operand} (ho : o.op = .call { callee := .builtin b, args := args, argTypes := ts }) :
    (execOp rho o).run P w = (builtin b ts o.type (args.map fun | .const _ => true | _ => false) (args.map rho)).run P w := by
  simp only [execOp, ho, resolve, invoke, pure_bind]
  rfl

/-- A row in new memory, where append has grown. -/
theorem grow_ok (g : Good F w0 L h w) (hfr : ∀ n, fr ≤ n → n < fr + 16 → ¬ L.live n) {e : TypeId} {zs : List AVal} {cs : List Value} (hc : cells L zs cs) {rest : Array Value} {need cap sz lo hi : Nat}
    (hlen : cs.length = need * sz) (hrest : rest.size = (cap - need) * sz) (hcap : need ≤ cap) (h1 : lo ≤ need) (h2 : need ≤ hi) :
    Post F w0 L h fr [(fr, some ⟨false, zs⟩)] (.slice fr 0 sz need lo hi none) (.slice (some ⟨w.heap.size, 0, none⟩) need cap) (pushRow w (cs.toArray ++ rest) e) := by
  have hn := new_le hfr ⟨w.heap.size, 0, (cs.toArray ++ rest).size⟩
  refine ⟨_, hn.1, hn.2, ?_, g.alloc (hfr fr (Nat.le_refl _) (by omega)) (cs.toArray ++ rest) e hc (by simp) (fun i hi => by rw [Array.getElem?_append_left (by simpa using hi)]; simp)⟩
  refine ⟨h1, h2, .inr ⟨.inl rfl, cap, by simp [Lo.addr, Lo.new], hcap, ?_, fun c' hc' => by simp at hc'⟩⟩
  simp only [Lo.new, if_true, Array.size_append, List.size_toArray, hlen, hrest, Nat.zero_add]
  rw [← Nat.add_mul, show need + (cap - need) = cap by omega]
  exact Nat.le_refl _

theorem zero_post (g : Good F w0 L h w) (hfr : ∀ n, fr ≤ n → n < fr + 16 → ¬ L.live n) {zs : List AVal} (hc : cells L zs []) {a : Option Addr} {sz lo hi : Nat} (hl : lo = 0) :
    Post F w0 L h fr [(fr, some ⟨false, zs⟩)] (.slice fr 0 sz 0 lo hi none) (.slice a 0 0) w := by
  have hn := new_le hfr ⟨0, 0, 0⟩
  refine ⟨_, hn.1, hn.2, ⟨by omega, by omega, .inl ⟨rfl, fun c' hc' => by simp at hc', a, rfl⟩⟩, ?_⟩
  exact g.add (hfr fr (Nat.le_refl _) (by omega)) (cells_mono hn.1 hc) rfl (.inl ⟨rfl, rfl⟩) (.inl rfl) (fun m q hm => .inl rfl)

theorem appendNil_ok (g : Good F w0 L h w) (hsub : ∀ n q, lk? H n = some q → h n = some q) (hfr : ∀ n, fr ≤ n → n < fr + 16 → ¬ L.live n) {o : Oper} {rho : Operand → Value} {t t' e e' : TypeId} {x y : Operand}
    (ho : o.op = .call { callee := .builtin .append, args := #[x, y], argTypes := #[t, t'] }) (ht : P.underlying t = some (.slice e)) (ht' : P.underlying t' = some (.slice e')) {ie : TypeInfo} (hi : P.info? e = some ie)
    {n off sz len lo hi' len2 lo2 hi2 : Nat} {a : AVal} (hx : val L (.slice n off sz len lo hi' (some 0)) (rho x)) (hy : val L a (rho y)) {ys : List AVal} (hs : srcElems H ie.size a = some (true, ys, len2, lo2, hi2))
    (h1 : hi2 ≤ limit) (h2 : okElem ie = true) :
    OpRun P (execOp rho o) w (Post F w0 L h fr [(fr, some ⟨false, ys⟩)] (.slice fr 0 ie.size len2 lo2 hi2 none)) := by
  obtain ⟨z, hz, hzs, hsz, hby⟩ := okElem_ok h2
  obtain ⟨b1, b2, ⟨a2, c2, hu⟩, ns, hc, hnl, hfc⟩ := srcElems_ok (P := P) g hsub hy hs
  have hxs : ∃ b, rho x = .slice b 0 0 := by
    simp only [val, val1, val0] at hx
    obtain ⟨_, _, hx⟩ := hx
    rcases hx with ⟨z0, _, b, e⟩ | ⟨_, c, e, hle, _, hcc⟩
    · exact ⟨b, e⟩
    · have := hcc 0 rfl
      subst this
      have : len = 0 := by omega
      subst this
      exact ⟨_, e⟩
  obtain ⟨b, hb⟩ := hxs
  have hlim : len2 ≤ 1099511627776 := by simp only [limit] at h1; omega
  have hob : ∀ w' : World, w'.heap = w.heap → (Builtin.firstCells ie.size 0 (.slice b 0 0)).run P w' = .ok ([] : List Value).toArray w' := by
    intro w' _
    cases b with
    | none => simp [Builtin.firstCells]
    | some b =>
      have := run_loadCells_list (P := P) w' b [] (by simp)
      simpa [Builtin.firstCells] using this
  rw [hu] at hfc
  obtain ⟨r1, r2⟩ := append_run (P := P) (w := w) (ty := o.type) (base := b) (a2 := a2) (len := 0) (cap := 0) (len2 := len2) (c2 := c2) ht ht' hi hz hob hfc (by omega) hby
  have hrun : ∀ v w', (Builtin.append_ #[t, t'] o.type #[rho x, rho y]).run P w = .ok v w' → (execOp rho o).run P w = .ok (.value v) w' := by
    intro v w' hv
    rw [builtin_run ho]
    simp [builtin, hv]
  rw [hb, hu] at hrun
  by_cases h0 : len2 = 0
  · subst h0
    have hns : ns = [] := by
      have : ns.length = 0 := by rw [hnl]; simp
      simpa using this
    subst hns
    have := r1 (Nat.le_refl _)
    refine OpRun.value (v := .slice b 0 0) (w' := w) (hrun _ _ ?_) (zero_post g hfr hc (by omega))
    rw [this]
    cases b <;> simp [storeCells]
  · have := r2 (by omega)
    simp only [Nat.zero_add] at this
    refine OpRun.value (hrun _ _ this) ?_
    have hpost := grow_ok (g.drew (w.drawn + 1)) hfr (e := e) hc (rest := Builtin.zeroCells z.cells (grownCap w len2 0 e - len2)) (need := len2) (cap := grownCap w len2 0 e) (sz := ie.size) (lo := lo2) (hi := hi2)
      hnl (by rw [size_zeroCells, hzs]) (grownCap_ge w len2 0 e) b1 b2
    simpa using hpost

theorem append_ok (g : Good F w0 L h w) (hsub : ∀ n q, lk? H n = some q → h n = some q) (hfr : ∀ n, fr ≤ n → n < fr + 16 → ¬ L.live n) {o : Oper} {rho : Operand → Value} {t t' e e' : TypeId} {x y : Operand}
    (ho : o.op = .call { callee := .builtin .append, args := #[x, y], argTypes := #[t, t'] }) (ht : P.underlying t = some (.slice e)) (ht' : P.underlying t' = some (.slice e')) {ie : TypeInfo} (hi : P.info? e = some ie)
    {n off sz len lo hi' len2 lo2 hi2 : Nat} {cap : Option Nat} {a : AVal} (hx : val L (.slice n off sz len lo hi' cap) (rho x)) (hy : val L a (rho y)) {ys : List AVal} (hs : srcElems H ie.size a = some (true, ys, len2, lo2, hi2))
    {r : Row} (hr : h n = some r) (hro : r.ro = false) (hsz' : sz = ie.size) {xs zs : List AVal} (hxs : tailOf r.c off (mulSz len ie.size) = some (true, xs)) (hzs : joinP xs ys = some zs)
    (h1 : hi' + hi2 ≤ limit) (h2 : okElem ie = true) :
    OpRun P (execOp rho o) w (Post F w0 L h fr [(n, none), (fr, some ⟨false, zs⟩)] (.slice fr 0 ie.size (len + len2) (lo + lo2) (hi' + hi2) none)) := by
  obtain ⟨z, hz, hzz, hsz, hby⟩ := okElem_ok h2
  obtain ⟨b1, b2, ⟨a2, c2, hu⟩, ns, hc, hnl, hfc⟩ := srcElems_ok (P := P) g hsub hy hs
  rw [mulSz_eq] at hxs
  -- the row's own cells
  obtain ⟨cs, hcs, hrow⟩ := g.row n r hr
  obtain ⟨t1, t2⟩ := tailOf_ok hcs hxs
  have hjoin := joinP_ok t2 hc hzs
  have hlim : len + len2 ≤ 1099511627776 := by
    simp only [limit] at h1
    simp only [val, val1, val0] at hx
    have := hx.2.1; omega
  have hfo : ∀ w' : World, w'.heap = w.heap → (Builtin.firstCells ie.size len (rho x)).run P w' = .ok (cs.drop off).toArray w' := by
    obtain ⟨os, q1, q2, q3⟩ := firstCells_ok (P := P) (r := ⟨r.ro, r.c⟩) (size := ie.size) (m := xs) g hx hr (fun ds hds => by
      obtain ⟨t1', t2'⟩ := tailOf_ok hds hxs
      have hl : (ds.drop off).take (len * ie.size) = ds.drop off := List.take_of_length_le (by omega)
      rw [hl]
      refine ⟨?_, t2'⟩
      simp only [List.length_drop] at t1'
      by_cases hz : len * ie.size = 0
      · exact .inl hz
      · exact .inr (by omega))
    -- both readings are of the same memory
    intro w' hw
    simp only [val, val1, val0] at hx
    obtain ⟨_, _, hx⟩ := hx
    rcases hx with ⟨z0, _, b, e⟩ | ⟨hl, c, e, _⟩
    · have : cs.drop off = [] := by
        have : (cs.drop off).length = 0 := by rw [t1, z0]; simp
        exact List.length_eq_zero_iff.1 this
      rw [this, e, z0]
      cases b with
      | none => simp [Builtin.firstCells]
      | some b =>
        have := run_loadCells_list (P := P) w' b [] (by simp)
        simpa [Builtin.firstCells] using this
    · have hcell : ∀ i v, cs[i]? = some v → w.cell? (L.addr n i) = some v := by
        intro i v hi
        rcases hrow with ⟨rfl, _⟩ | ⟨c, e, fz, h1, h2, h3, h4, h5⟩
        · simp at hi
        · have hlt : i < cs.length := by
            rcases Nat.lt_or_ge i cs.length with h | h
            · exact h
            · rw [List.getElem?_eq_none h] at hi; simp at hi
          simp only [World.cell?, Lo.addr, h1]
          simp [h4 i hlt, hi]
      have hlc := run_loadCells_list (P := P) w' (L.addr n off) (cs.drop off) (by
        intro j v hj
        have hcell' : w'.cell? ((L.addr n off).add j) = w.cell? ((L.addr n off).add j) := by simp only [World.cell?, hw]
        rw [hcell', addr_add]
        apply hcell
        simpa using hj)
      rw [t1] at hlc
      rw [e]
      simpa [Builtin.firstCells] using hlc
  have hrun : ∀ v w', (Builtin.append_ #[t, t'] o.type #[rho x, rho y]).run P w = .ok v w' → (execOp rho o).run P w = .ok (.value v) w' := by
    intro v w' hv
    rw [builtin_run ho]
    simp [builtin, hv]
  have growth : ∀ base cap, rho x = .slice base len cap → cap < len + len2 → lo ≤ len → len ≤ hi' →
      OpRun P (execOp rho o) w (Post F w0 L h fr [(n, none), (fr, some ⟨false, zs⟩)] (.slice fr 0 ie.size (len + len2) (lo + lo2) (hi' + hi2) none)) := by
    intro base cap hb hlt q1 q2
    rw [hb] at hfo hrun
    rw [hu] at hfc hrun
    obtain ⟨r1, r2⟩ := append_run (P := P) (w := w) (ty := o.type) (base := base) (a2 := a2) (len := len) (cap := cap) (len2 := len2) (c2 := c2) ht ht' hi hz hfo hfc hlim hby
    have hr2 := r2 hlt
    refine OpRun.value (hrun _ _ hr2) ?_
    have hpost := grow_ok ((g.drop n).drew (w.drawn + 1)) hfr (e := e) hjoin (rest := Builtin.zeroCells z.cells (grownCap w (len + len2) cap e - (len + len2))) (need := len + len2) (cap := grownCap w (len + len2) cap e) (sz := ie.size) (lo := lo + lo2) (hi := hi' + hi2)
      (by rw [List.length_append, t1, hnl, Nat.add_mul]) (by rw [size_zeroCells, hzz]) (grownCap_ge w _ _ e) (by omega) (by omega)
    obtain ⟨L', p1, p2, p3, p4⟩ := hpost
    refine ⟨L', p1, p2, ?_, ?_⟩
    · simpa using p3
    · simpa [applyUps] using p4
  have hx' := hx
  simp only [val, val1, val0] at hx'
  obtain ⟨q1, q2, hx'⟩ := hx'
  rcases hx' with ⟨z0, _, b, hb⟩ | ⟨hl, c, hb, hlc, hext, _⟩
  · -- nothing in it
    by_cases h0 : len2 = 0
    · subst h0
      subst z0
      have hns : ns = [] := by
        have : ns.length = 0 := by rw [hnl]; simp
        simpa using this
      subst hns
      have hos : cs.drop off = [] := by
        have : (cs.drop off).length = 0 := by rw [t1]; simp
        exact List.length_eq_zero_iff.1 this
      rw [hb] at hfo hrun
      rw [hu] at hfc hrun
      obtain ⟨r1, r2⟩ := append_run (P := P) (w := w) (ty := o.type) (base := b) (a2 := a2) (len := 0) (cap := 0) (len2 := 0) (c2 := c2) ht ht' hi hz hfo hfc hlim hby
      have hr1 := r1 (Nat.le_refl _)
      rw [hos] at hjoin
      have hpost := zero_post (a := b) (sz := ie.size) (lo := lo + lo2) (hi := hi' + hi2) (g.drop n) hfr (zs := zs) (by simpa using hjoin) (by omega)
      obtain ⟨L', p1, p2, p3, p4⟩ := hpost
      refine OpRun.value (v := .slice b 0 0) (w' := w) (hrun _ _ ?_) ⟨L', p1, p2, p3, p4⟩
      rw [hr1]
      cases b <;> simp [storeCells]
    · exact growth b 0 (by rw [hb, z0]) (by omega) q1 q2
  · by_cases hroom : len + len2 ≤ c
    · -- in its place
      rw [hb] at hfo hrun
      rw [hu] at hfc hrun
      obtain ⟨r1, r2⟩ := append_run (P := P) (w := w) (ty := o.type) (base := some (L.addr n off)) (a2 := a2) (len := len) (cap := c) (len2 := len2) (c2 := c2) ht ht' hi hz hfo hfc hlim hby
      have hr1 := r1 hroom
      simp only [addr_add] at hr1
      subst hsz'
      have hmul : (len + len2) * ie.size ≤ c * ie.size := Nat.mul_le_mul_right _ hroom
      rw [Nat.add_mul] at hmul
      have hn := new_le hfr ⟨(L.loc n).block, (L.loc n).off + off, (L.loc n).ext - off⟩
      have hval : val (L.new fr ⟨(L.loc n).block, (L.loc n).off + off, (L.loc n).ext - off⟩) (.slice fr 0 ie.size (len + len2) (lo + lo2) (hi' + hi2) none) (.slice (some (L.addr n off)) (len + len2) c) := by
        refine ⟨by omega, by omega, .inr ⟨.inl rfl, c, by simp [Lo.addr, Lo.new], hroom, ?_, fun c' hc' => by simp at hc'⟩⟩
        simp only [Lo.new, if_true]; omega
      -- what was written
      have hkey : ∃ w', (storeCells (L.addr n (off + len * ie.size)) ns).run P w = .ok () w' ∧ Good F w0 (L.new fr ⟨(L.loc n).block, (L.loc n).off + off, (L.loc n).ext - off⟩) (updH (updH h n none) fr (some ⟨false, zs⟩)) w' := by
        have hnone : ∀ m q, updH h n none m = some q → m ≠ n ∧ h m = some q := by
          intro m q e
          simp only [updH] at e
          split at e
          · simp at e
          · rename_i hm; exact ⟨hm, e⟩
        have hap : ∀ m q, updH h n none m = some q → (L.loc n).ext - off = 0 ∨ (L.loc m).ext = 0 ∨ (L.loc n).block ≠ (L.loc m).block := by
          intro m q e
          obtain ⟨hm, e⟩ := hnone m q e
          rcases g.apart n m r q hr e (Ne.symm hm) (by simp [hro]) with h | h | h
          · exact .inl (by omega)
          · exact .inr (.inl h)
          · exact .inr (.inr h)
        have hFn : (L.loc n).ext - off = 0 ∨ ¬ F (L.loc n).block := by
          rcases g.own n r hr hro with h | h
          · exact .inl (by omega)
          · exact .inr h
        rcases hrow with ⟨hcs0, hx0⟩ | ⟨arr, te, fz, k1, k2, k3, k4, k5⟩
        · -- an empty row
          have hlen0 : len * ie.size = 0 := by rw [← t1, hcs0]; simp
          have hn0 : len2 * ie.size = 0 := by omega
          have hns : ns = [] := by
            have : ns.length = 0 := by omega
            simpa using this
          subst hns
          refine ⟨w, rfl, (g.drop n).add (hfr fr (Nat.le_refl _) (by omega)) (cells_mono hn.1 hjoin) rfl (.inl ⟨?_, by simp [hx0]⟩) hFn hap⟩
          rw [hcs0]; simp
        · have hfz := k5 hro
          subst hfz
          by_cases hns : ns = []
          · subst hns
            refine ⟨w, rfl, (g.drop n).add (hfr fr (Nat.le_refl _) (by omega)) (cells_mono hn.1 hjoin) rfl (.inr ⟨arr, te, k1, ?_, ?_, ?_⟩) hFn hap⟩
            · simp; omega
            · simp only; omega
            · intro i hi
              simp at hi
              rw [List.append_nil, List.getElem?_drop]
              rw [show (L.loc n).off + off + i = (L.loc n).off + (off + i) by omega]
              exact k4 (off + i) (by omega)
          · have hnpos : 0 < ns.length := by
              cases ns with
              | nil => exact absurd rfl hns
              | cons a l => simp
            have hx0 : (L.loc n).ext ≠ 0 := by omega
            have hst := run_storeCells_at P (L.loc n).block ((L.loc n).off + (off + len * ie.size)) te ns 0 arr w k1 (by omega) (cells_one hc)
            refine ⟨_, hst, ?_⟩
            generalize harr : (arr.toList.take ((L.loc n).off + (off + len * ie.size) + 0) ++ ns ++ arr.toList.drop ((L.loc n).off + (off + len * ie.size) + 0 + ns.length)).toArray = arr'
            have hsz2 : arr'.size = arr.size := by rw [← harr]; simp; omega
            refine (g.set hr hro hx0 arr').add (hfr fr (Nat.le_refl _) (by omega)) (cells_mono hn.1 hjoin) rfl (.inr ⟨arr', te, setRow_heap w _ arr arr' te (0, 0) k1, ?_, ?_, ?_⟩) hFn hap
            · simp; simp at t1; omega
            · simp only; omega
            · intro i hi
              rw [← harr]
              simp only [Nat.add_zero, List.getElem?_toArray]
              simp only [List.length_append, t1] at hi
              rcases Nat.lt_or_ge i (len * ie.size) with h' | h'
              · rw [List.append_assoc, List.getElem?_append_left (by simp; omega), List.getElem?_take_of_lt (by omega), List.getElem?_append_left (by rw [t1]; exact h'), List.getElem?_drop]
                simp only [Array.getElem?_toList]
                rw [show (L.loc n).off + off + i = (L.loc n).off + (off + i) by omega]
                simp at t1
                exact k4 (off + i) (by omega)
              · rw [List.append_assoc, List.getElem?_append_right (by simp; omega), List.getElem?_append_left (by simp; omega), List.getElem?_append_right (by rw [t1]; exact h')]
                congr 1
                rw [t1]; simp; omega
      obtain ⟨w', hw, hg⟩ := hkey
      refine OpRun.value (v := .slice (some (L.addr n off)) (len + len2) c) (w' := w') (hrun _ _ ?_) ⟨_, hn.1, hn.2, hval, hg⟩
      rw [hr1, hw]; rfl
    · exact growth _ c hb (by omega) q1 q2

end
end Go.Bx

/-
  The operations, the end: copy, len, min, max, calls; and all of them in one.
-/
namespace Go.Bx

section
variable {P : Program} {w w0 : World} {F : Nat → Prop} {L : Lo} {h : HF} {H : Heap} {fr : Nat}

theorem splice_ok {l ys z : List AVal} {cs ds : List Value} {off c : Nat} (hc : cells L l cs) (hd : cells L ys ds) (hl : ds.length = c) (hf : off + c ≤ cs.length) (he : splice off c ys l = some z) :
    cells L z (cs.take off ++ ds ++ cs.drop (off + c)) := by
  unfold splice at he
  split at he
  · obtain ⟨c1, d, e, ⟨rfl, rfl⟩, hd0⟩ := hc
    simp only [cells] at hd0; subst hd0; subst e
    split at he
    · rename_i k n xs k' _ ys
      cases hk : keq k k' <;> rw [hk] at he <;> simp only [cond_false, cond_true, reduceCtorEq, Option.some.injEq] at he
      have := keq_eq hk; subst this; subst he
      obtain ⟨c1, d, e, ⟨rfl, rfl⟩, hd0⟩ := hd
      simp only [cells] at hd0; subst hd0; subst e
      simp at hl hf
      refine ⟨_, [], ?_, ⟨?_, rfl⟩, rfl⟩
      · simp [List.map_take, List.map_drop]
      · simp; omega
    · rename_i k n xs k' _ _ ys
      cases hk : keq k k' <;> rw [hk] at he <;> simp only [cond_false, cond_true, reduceCtorEq, Option.some.injEq] at he
      have := keq_eq hk; subst this; subst he
      obtain ⟨c1, d, e, ⟨rfl, hy, rfl⟩, hd0⟩ := hd
      simp only [cells] at hd0; subst hd0; subst e
      simp at hl hf
      refine ⟨_, [], ?_, ⟨?_, rfl⟩, rfl⟩
      · simp [List.map_take, List.map_drop, List.map_map, Function.comp_def]
      · simp; omega
    · simp at he
  · obtain ⟨c1, d, e, ⟨rfl, hx, rfl⟩, hd0⟩ := hc
    simp only [cells] at hd0; subst hd0; subst e
    split at he
    · rename_i k hh n xs k' _ ys
      cases hk : keq k k' <;> rw [hk] at he <;> simp only [cond_false, cond_true, reduceCtorEq, Option.some.injEq] at he
      have := keq_eq hk; subst this; subst he
      obtain ⟨c1, d, e, ⟨rfl, rfl⟩, hd0⟩ := hd
      simp only [cells] at hd0; subst hd0; subst e
      simp at hl hf
      refine ⟨_, [], ?_, ⟨?_, rfl⟩, rfl⟩
      · simp [List.map_take, List.map_drop, List.map_map, Function.comp_def]
      · simp; omega
    · rename_i k hh n xs k' h' _ ys
      cases hk : keq k k' <;> rw [hk] at he <;> simp only [cond_false, cond_true, reduceCtorEq, Option.some.injEq] at he
      have := keq_eq hk; subst this; subst he
      obtain ⟨c1, d, e, ⟨rfl, hy, rfl⟩, hd0⟩ := hd
      simp only [cells] at hd0; subst hd0; subst e
      simp at hl hf
      refine ⟨_, [], ?_, ⟨?_, ?_, rfl⟩, rfl⟩
      · simp [List.map_take, List.map_drop]
      · simp; omega
      · have mx := @max_of h' hh
        intro x hm
        rcases List.mem_append.1 hm with hm | hm
        · rcases List.mem_append.1 hm with hm | hm
          · have := hx x (List.mem_of_mem_take hm); omega
          · have := hy x hm; omega
        · have := hx x (List.mem_of_mem_drop hm); omega
    · simp at he
  · simp at he

theorem minN_eq {a b la ha lb hb : Nat} (h1 : la ≤ a) (h2 : a ≤ ha) (h3 : lb ≤ b) (h4 : b ≤ hb) : minN a b la ha lb hb = Nat.min a b := by
  unfold minN
  cases c1 : Nat.ble ha lb
  · cases c2 : Nat.ble hb la
    · rfl
    · have := ble_le c2; show b = Nat.min a b; exact (Nat.min_eq_right (by omega)).symm
  · have := ble_le c1; show a = Nat.min a b; exact (Nat.min_eq_left (by omega)).symm

theorem copy_ok (g : Good F w0 L h w) {o : Oper} {rho : Operand → Value} {t e : TypeId} {x y : Operand} {ts : Array TypeId} (hts : ts[0]? = some t)
    (ho : o.op = .call { callee := .builtin .copy, args := #[x, y], argTypes := ts }) (ht : P.underlying t = some (.slice e)) (hs1 : sizeT P e = 1) {ie : TypeInfo} (hi : P.info? e = some ie)
    {n off sz len lo hi' m off2 sz2 len2 lo2 hi2 : Nat} {cap cap2 : Option Nat} (hx : val L (.slice n off sz len lo hi' cap) (rho x)) (hy : val L (.slice m off2 sz2 len2 lo2 hi2 cap2) (rho y))
    {r q : Row} (hr : h n = some r) (hq : h m = some q) (hro : r.ro = false) {ys zs : List AVal} (he : elems q.c off2 (minN len2 len lo2 hi2 lo hi') = some (true, ys))
    (hsp : splice off (minN len2 len lo2 hi2 lo hi') ys r.c = some zs) (hfit : off + minN len2 len lo2 hi2 lo hi' ≤ sizes r.c) :
    OpRun P (execOp rho o) w (Post F w0 L h fr [(n, some { r with c := zs })] (.nat .i64 (minN len2 len lo2 hi2 lo hi') 0 (bif Nat.ble hi2 hi' then hi2 else hi'))) := by
  have hx' := hx
  have hy' := hy
  simp only [val, val1, val0] at hx' hy'
  obtain ⟨a1, a2, hx'⟩ := hx'
  obtain ⟨b1, b2, hy'⟩ := hy'
  rw [minN_eq b1 b2 a1 a2] at he hsp hfit ⊢
  generalize hcc : Nat.min len2 len = c at *
  have hc1 : c ≤ len2 := by rw [← hcc]; exact Nat.min_le_left _ _
  have hc2 : c ≤ len := by rw [← hcc]; exact Nat.min_le_right _ _
  -- the source's cells
  obtain ⟨cs, hcs, hcell⟩ := cell_of g hq
  obtain ⟨e1, e2⟩ := elems_ok hcs he
  have hlen : ((cs.drop off2).take c).length = c := by rw [List.length_take, List.length_drop]; exact min_sub e1
  have hfc : (Builtin.firstCells 1 c (rho y)).run P w = .ok ((cs.drop off2).take c).toArray w := by
    rcases hy' with ⟨z0, _, a, hb⟩ | ⟨hl, cc, hb, _⟩
    · have hc0 : c = 0 := by omega
      rw [hb, hc0]
      cases a with
      | none => simp [Builtin.firstCells]
      | some a =>
        have := run_loadCells_list (P := P) w a [] (by simp)
        simpa [Builtin.firstCells] using this
    · have hlc := run_loadCells_list (P := P) w (L.addr m off2) ((cs.drop off2).take c) (by
        intro j v hj
        rw [addr_add]
        apply hcell
        rw [List.getElem?_take] at hj
        split at hj
        · simpa using hj
        · simp at hj)
      rw [hlen] at hlc
      rw [hb]
      simpa [Builtin.firstCells] using hlc
  obtain ⟨w', hw, hg⟩ := write_ok (P := P) (off := off) (pv := (cs.drop off2).take c) (l' := zs) g hr hro (cells_one e2) (fun ds hds => by
    have hdl := cells_length hds
    refine ⟨.inr (by rw [hlen]; omega), ?_⟩
    have := splice_ok hds e2 hlen (by omega) hsp
    rw [hlen]; exact this)
  refine OpRun.value (v := .int .i64 (c : Int)) (w' := w') ?_ ⟨L, L.le_refl, fun _ hn => .inl hn, ⟨rfl, Nat.zero_le _, ?_⟩, hg⟩
  · rw [builtin_run ho]
    have hlo : ∃ b cc, rho y = .slice b len2 cc := by
      rcases hy' with ⟨z0, _, a, hb⟩ | ⟨hl, cc, hb, _⟩
      · exact ⟨a, 0, by rw [hb, z0]⟩
      · exact ⟨_, _, hb⟩
    obtain ⟨b, cc, hlo⟩ := hlo
    rw [hlo] at hfc
    rcases hx' with ⟨z0, _, a, hb⟩ | ⟨hl, c', hb, _⟩
    · have hc0 : c = 0 := by omega
      have hnil : (cs.drop off2).take c = [] := by rw [hc0]; simp
      rw [hnil] at hw hfc
      have hww : w' = w := by simpa [storeCells] using hw.symm
      subst hww
      subst z0
      subst hc0
      cases a <;> simp [builtin, Builtin.copy_, hts, run_underlying ht, hb, hlo, Builtin.lenOf, run_so hi, hs1, hfc, storeCells, goInt]
    · simp [builtin, Builtin.copy_, hts, run_underlying ht, hb, hlo, Builtin.lenOf, run_so hi, hs1, hcc, hfc, hw, goInt]
  · cases hk : Nat.ble hi2 hi'
    · simp only [cond_false]; omega
    · simp only [cond_true]; omega

theorem lenSl_ok (g : Good F w0 L h w) {o : Oper} {rho : Operand → Value} {t e : TypeId} {x : Operand} {ts : Array TypeId} (hts : ts[0]? = some t) (ho : o.op = .call { callee := .builtin .len, args := #[x], argTypes := ts })
    (ht : P.underlying t = some (.slice e)) {n off sz len lo hi : Nat} {cap : Option Nat} (hx : val L (.slice n off sz len lo hi cap) (rho x)) :
    OpRun P (execOp rho o) w (Post F w0 L h fr [] (.nat .i64 len lo hi)) := by
  simp only [val, val1, val0] at hx
  obtain ⟨a1, a2, hx⟩ := hx
  refine OpRun.value (v := .int .i64 (len : Int)) (w' := w) ?_ (Post.pure g ⟨rfl, a1, a2⟩)
  rw [builtin_run ho]
  rcases hx with ⟨z0, _, a, hb⟩ | ⟨hl, c', hb, _⟩
  · simp [builtin, Builtin.len_, hts, run_underlying ht, hb, z0, goInt]
  · simp [builtin, Builtin.len_, hts, run_underlying ht, hb, goInt]

theorem lenStr_ok (g : Good F w0 L h w) {o : Oper} {rho : Operand → Value} {t : TypeId} {x : Operand} {ts : Array TypeId} (hts : ts[0]? = some t) (ho : o.op = .call { callee := .builtin .len, args := #[x], argTypes := ts })
    (ht : P.underlying t = some .string) {s : ByteArray} (hx : val L (.str s) (rho x)) :
    OpRun P (execOp rho o) w (Post F w0 L h fr [] (.nat .i64 s.size s.size s.size)) := by
  simp only [val, val1, val0] at hx
  refine OpRun.value (v := .int .i64 (s.size : Int)) (w' := w) ?_ (Post.pure g ⟨rfl, Nat.le_refl _, Nat.le_refl _⟩)
  rw [builtin_run ho]
  simp [builtin, Builtin.len_, hts, run_underlying ht, hx, goInt]

theorem max_ok (g : Good F w0 L h w) {o : Oper} {rho : Operand → Value} {x y : Operand} {ts : Array TypeId} (ho : o.op = .call { callee := .builtin .max, args := #[x, y], argTypes := ts })
    {a b v : AVal} (hx : val L a (rho x)) (hy : val L b (rho y)) {us : Ups} (he : maxA a b = some (true, v, us)) : us = [] ∧ OpRun P (execOp rho o) w (Post F w0 L h fr [] v) := by
  have key : us = [] ∧ ∃ k p q, rho x = .int k p ∧ rho y = .int k q ∧ val0 L v (.int k (if q > p then q else p)) := by
    have gen : ∀ {k k' p q}, toInt? a = some (k, p) → toInt? b = some (k', q) → (bif keq k k' then pureR (.int k (bif decide (p < q) then q else p)) else none) = some (true, v, us) →
        us = [] ∧ ∃ k p q, rho x = .int k p ∧ rho y = .int k q ∧ val0 L v (.int k (if q > p then q else p)) := by
      intro k k' p q h1 h2 h3
      cases hk : keq k k' <;> rw [hk] at h3 <;> simp only [cond_false, cond_true, reduceCtorEq, pureR, Option.some.injEq, Prod.mk.injEq, true_and] at h3
      have := keq_eq hk; subst this
      obtain ⟨rfl, rfl⟩ := h3
      refine ⟨rfl, k, p, q, toInt_ok hx h1, toInt_ok hy h2, ?_⟩
      simp only [val0]
      by_cases hpq : p < q <;> simp [hpq]
    unfold maxA at he
    split at he
    · rename_i k a la ha k' b lb hb
      cases hk : keq k k' <;> rw [hk] at he <;> simp only [cond_false, cond_true, reduceCtorEq, pureR, Option.some.injEq, Prod.mk.injEq, true_and] at he
      have := keq_eq hk; subst this
      obtain ⟨rfl, rfl⟩ := he
      simp only [val, val1, val0] at hx hy
      refine ⟨rfl, k, _, _, hx.1, hy.1, ?_⟩
      obtain ⟨_, x1, x2⟩ := hx
      obtain ⟨_, y1, y2⟩ := hy
      cases c1 : Nat.ble ha lb
      · have := not_ble c1
        cases c2 : Nat.ble hb la
        · simp only [cond_false, val0]
          by_cases hab : a < b
          · have hb' : Nat.blt a b = true := by simpa using hab
            rw [hb']
            have i1 : ((b : Int) > (a : Int)) := by omega
            rw [if_pos i1]
            refine ⟨rfl, ?_, ?_⟩
            · cases Nat.ble la lb <;> simp only [cond_false, cond_true] <;> omega
            · cases hhh : Nat.ble ha hb <;> simp only [cond_false, cond_true]
              · have := not_ble hhh; omega
              · omega
          · have hb' : Nat.blt a b = false := by
              cases hh : Nat.blt a b
              · rfl
              · exact absurd (blt_lt hh) hab
            rw [hb']
            have i1 : ¬ ((b : Int) > (a : Int)) := by omega
            rw [if_neg i1]
            refine ⟨rfl, ?_, ?_⟩
            · cases hll : Nat.ble la lb <;> simp only [cond_false, cond_true]
              · exact x1
              · omega
            · cases hhh : Nat.ble ha hb <;> simp only [cond_false, cond_true]
              · exact x2
              · have := ble_le hhh; omega
        · have := ble_le c2
          simp only [cond_false, cond_true, val0]
          refine ⟨?_, x1, x2⟩
          congr 1
          have i1 : ¬ ((b : Int) > (a : Int)) := by omega
          rw [if_neg i1]
      · have := ble_le c1
        simp only [cond_true, val0]
        refine ⟨?_, y1, y2⟩
        congr 1
        by_cases i1 : ((b : Int) > (a : Int))
        · rw [if_pos i1]
        · rw [if_neg i1]; omega
    · cases h1 : toInt? a with
      | none => rw [h1] at he; simp at he
      | some p =>
        cases h2 : toInt? b with
        | none => rw [h1, h2] at he; simp at he
        | some q =>
          obtain ⟨k, p⟩ := p
          obtain ⟨k', q⟩ := q
          rw [h1, h2] at he
          exact gen h1 h2 he
  obtain ⟨hus, k, p, q, e1, e2, hv⟩ := key
  refine ⟨hus, OpRun.value (w' := w) ?_ (Post.pure g (val_of0 hv))⟩
  rw [builtin_run ho]
  simp [builtin, Builtin.max_, e1, e2, Builtin.max2]

theorem min_ok (g : Good F w0 L h w) {o : Oper} {rho : Operand → Value} {x y : Operand} {ts : Array TypeId} (ho : o.op = .call { callee := .builtin .min, args := #[x, y], argTypes := ts })
    {a b v : AVal} (hx : val L a (rho x)) (hy : val L b (rho y)) {us : Ups} (he : minA a b = some (true, v, us)) : us = [] ∧ OpRun P (execOp rho o) w (Post F w0 L h fr [] v) := by
  have key : us = [] ∧ ∃ k p q, rho x = .int k p ∧ rho y = .int k q ∧ val0 L v (.int k (if q < p then q else p)) := by
    have gen : ∀ {k k' p q}, toInt? a = some (k, p) → toInt? b = some (k', q) → (bif keq k k' then pureR (.int k (bif decide (q < p) then q else p)) else none) = some (true, v, us) →
        us = [] ∧ ∃ k p q, rho x = .int k p ∧ rho y = .int k q ∧ val0 L v (.int k (if q < p then q else p)) := by
      intro k k' p q h1 h2 h3
      cases hk : keq k k' <;> rw [hk] at h3 <;> simp only [cond_false, cond_true, reduceCtorEq, pureR, Option.some.injEq, Prod.mk.injEq, true_and] at h3
      have := keq_eq hk; subst this
      obtain ⟨rfl, rfl⟩ := h3
      refine ⟨rfl, k, p, q, toInt_ok hx h1, toInt_ok hy h2, ?_⟩
      simp only [val0]
      by_cases hpq : q < p <;> simp [hpq]
    unfold minA at he
    split at he
    · rename_i k a la ha k' b lb hb
      cases hk : keq k k' <;> rw [hk] at he <;> simp only [cond_false, cond_true, reduceCtorEq, pureR, Option.some.injEq, Prod.mk.injEq, true_and] at he
      have := keq_eq hk; subst this
      obtain ⟨rfl, rfl⟩ := he
      simp only [val, val1, val0] at hx hy
      refine ⟨rfl, k, _, _, hx.1, hy.1, ?_⟩
      obtain ⟨_, x1, x2⟩ := hx
      obtain ⟨_, y1, y2⟩ := hy
      cases c1 : Nat.ble ha lb
      · have := not_ble c1
        cases c2 : Nat.ble hb la
        · simp only [cond_false, val0]
          by_cases hab : b < a
          · have hb' : Nat.blt b a = true := by simpa using hab
            rw [hb']
            have i1 : ((b : Int) < (a : Int)) := by omega
            rw [if_pos i1]
            refine ⟨rfl, ?_, ?_⟩
            · cases hll : Nat.ble la lb <;> simp only [cond_false, cond_true]
              · exact y1
              · have := ble_le hll; omega
            · cases hhh : Nat.ble ha hb <;> simp only [cond_false, cond_true] <;> omega
          · have hb' : Nat.blt b a = false := by
              cases hh : Nat.blt b a
              · rfl
              · exact absurd (blt_lt hh) hab
            rw [hb']
            have i1 : ¬ ((b : Int) < (a : Int)) := by omega
            rw [if_neg i1]
            refine ⟨rfl, ?_, ?_⟩
            · cases hll : Nat.ble la lb <;> simp only [cond_false, cond_true]
              · have := not_ble hll; omega
              · omega
            · cases hhh : Nat.ble ha hb <;> simp only [cond_false, cond_true] <;> omega
        · have := ble_le c2
          simp only [cond_false, cond_true, val0]
          refine ⟨?_, y1, y2⟩
          congr 1
          by_cases i1 : ((b : Int) < (a : Int))
          · rw [if_pos i1]
          · rw [if_neg i1]; omega
      · have := ble_le c1
        simp only [cond_true, val0]
        refine ⟨?_, x1, x2⟩
        congr 1
        have i1 : ¬ ((b : Int) < (a : Int)) := by omega
        rw [if_neg i1]
    · cases h1 : toInt? a with
      | none => rw [h1] at he; simp at he
      | some p =>
        cases h2 : toInt? b with
        | none => rw [h1, h2] at he; simp at he
        | some q =>
          obtain ⟨k, p⟩ := p
          obtain ⟨k', q⟩ := q
          rw [h1, h2] at he
          exact gen h1 h2 he
  obtain ⟨hus, k, p, q, e1, e2, hv⟩ := key
  refine ⟨hus, OpRun.value (w' := w) ?_ (Post.pure g (val_of0 hv))⟩
  rw [builtin_run ho]
  simp [builtin, Builtin.min_, e1, e2, Builtin.min2]

end
end Go.Bx

/-
  The operations, the end: calls, and all of them together.
-/
namespace Go.Bx

section
variable {P : Program} {w w0 : World} {F : Nat → Prop} {L : Lo} {h : HF} {H : Heap} {fr : Nat}

theorem vals1_len {L : Lo} : ∀ {l : List AVal} {vs : List Value}, vals1 L l vs → l.length = vs.length
  | [], vs, hv => by simp only [vals1] at hv; simp [hv]
  | _ :: _, _, ⟨v, ws, e, _, h2⟩ => by subst e; simp [vals1_len h2]

theorem vals1_get {L : Lo} : ∀ {l : List AVal} {vs : List Value}, vals1 L l vs → ∀ i, val L (l.getD i .any) (vs.getD i undef)
  | [], vs, hv, i => by simp only [vals1] at hv; subst hv; exact trivial
  | a :: l, _, ⟨v, ws, e, h1, h2⟩, i => by
    subst e
    cases i with
    | zero => exact val_of1 h1
    | succ i => simpa using vals1_get h2 i

theorem args_rel {L : Lo} {r : Operand → AVal} {rho : Operand → Value} : ∀ {xs : List Operand} {caps : List AVal} {vs : List Value}, (∀ x ∈ xs, val L (r x) (rho x)) → vals1 L caps vs →
    (xs.map r ++ caps).length = (xs.map rho ++ vs).length ∧ ∀ i, val L ((xs.map r ++ caps).getD i .any) ((xs.map rho ++ vs).getD i undef)
  | [], _, _, _, hc => by simpa using ⟨vals1_len hc, fun i => by simpa using vals1_get hc i⟩
  | x :: xs, caps, vs, hx, hc => by
    obtain ⟨h1, h2⟩ := args_rel (r := r) (rho := rho) (fun y hy => hx y (List.mem_cons_of_mem _ hy)) hc
    refine ⟨by simpa using h1, fun i => ?_⟩
    cases i with
    | zero => simpa using hx x (List.mem_cons_self ..)
    | succ i => simpa using h2 i

theorem call_ok (g : Good F w0 L h w) (hsub : ∀ n q, lk? H n = some q → h n = some q) (hfr : ∀ n, fr ≤ n → n < fr + 16 → ¬ L.live n) {o : Oper} {r : Operand → AVal} {rho : Operand → Value} {c : Call} {x : Operand} (ho : o.op = .call c) (hcal : c.callee = .value x)
    {f : FuncId} {caps : List AVal} (hx : val L (.func f caps) (rho x)) (hargs : ∀ y ∈ c.args.toList, val L (r y) (rho y)) {s : Sum} (hs : SumOk P f s) {v : AVal} {us : Ups} (he : s (c.args.toList.map r ++ caps) H fr = some (true, v, us)) :
    OpRun P (execOp rho o) w (Post F w0 L h fr us v) := by
  obtain ⟨vs, hvs, hval⟩ := hx
  obtain ⟨⟨fn, hf, hn, hb⟩, hs⟩ := hs
  have hrel := args_rel hargs hvs
  have hcall := hs F w0 w L h H fr _ _ v us g hsub hfr hrel he
  have hrun : (execOp rho o).run P w = .ok (.enter f (c.args.toList.map rho ++ vs).toArray) w := by
    simp only [execOp, ho, resolve, hcal, hval, Deferred.ofValue, pure_bind, invoke, callFunc]
    have hn' : fn.name ≠ "runtime.NumGoroutine" := by simpa using hn
    have hb' : fn.body ≠ none := by intro e; simp [e] at hb
    simp [hf, hn', hb']
  unfold OpRun
  rw [hrun]
  refine Calls.mono hcall fun e w' he => ?_
  obtain ⟨v', e1, hp⟩ := he
  exact ⟨v', e1, hp⟩

theorem args1 {c : Call} {r : Operand → AVal} {a : AVal} (h : c.args.toList.map r = [a]) : ∃ x, c.args = #[x] ∧ r x = a ∧ x ∈ c.args.toList := by
  obtain ⟨⟨l⟩⟩ : ∃ l : Array Operand, l = c.args := ⟨_, rfl⟩
  rename_i hl
  rw [← hl] at h ⊢
  cases l with
  | nil => simp at h
  | cons x l => cases l with
    | nil => simp at h; exact ⟨x, rfl, h, by simp⟩
    | cons y l => simp at h

theorem args2 {c : Call} {r : Operand → AVal} {a b : AVal} (h : c.args.toList.map r = [a, b]) : ∃ x y, c.args = #[x, y] ∧ r x = a ∧ r y = b ∧ x ∈ c.args.toList ∧ y ∈ c.args.toList := by
  obtain ⟨⟨l⟩⟩ : ∃ l : Array Operand, l = c.args := ⟨_, rfl⟩
  rename_i hl
  rw [← hl] at h ⊢
  cases l with
  | nil => simp at h
  | cons x l => cases l with
    | nil => simp at h
    | cons y l => cases l with
      | nil => simp at h; exact ⟨x, y, rfl, h.1, h.2, by simp, by simp⟩
      | cons z l => simp at h

theorem builtin_eq {c : Call} {b : Builtin} {args : Array Operand} (hc : c.callee = .builtin b) (ha : c.args = args) : c = { callee := .builtin b, args := args, argTypes := c.argTypes } := by
  cases c; simp_all

end
end Go.Bx

/-
  All the operations together.
-/
namespace Go.Bx

section
variable {P : Program} {w w0 : World} {F : Nat → Prop} {L : Lo} {h : HF} {H : Heap} {fr : Nat}

theorem builtinA_ok (g : Good F w0 L h w) (hsub : ∀ n q, lk? H n = some q → h n = some q) (hfr : ∀ n, fr ≤ n → n < fr + 16 → ¬ L.live n) {o : Oper} {r : Operand → AVal} {rho : Operand → Value} {c : Call} {b : Builtin} (ho : o.op = .call c) (hcal : c.callee = .builtin b)
    (hr : ∀ y ∈ c.args.toList, val L (r y) (rho y)) {v : AVal} {us : Ups} (he : builtinA P b c.argTypes (c.args.toList.map r) H fr = some (true, v, us)) :
    OpRun P (execOp rho o) w (Post F w0 L h fr us v) := by
  unfold builtinA at he
  split at he
  · rename_i n off sz len lo hi cap heq
    obtain ⟨x, hx, h1, hm⟩ := args1 heq
    have ho' := ho.trans (congrArg Op.call (builtin_eq hcal hx))
    have hv := hr x hm
    rw [h1] at hv
    split at he
    · rename_i t ht
      split at he
      · rename_i e hu
        simp only [Option.some.injEq, Prod.mk.injEq, true_and] at he
        obtain ⟨rfl, rfl⟩ := he
        exact lenSl_ok g ht ho' hu hv
      · simp at he
    · simp at he
  · rename_i s heq
    obtain ⟨x, hx, h1, hm⟩ := args1 heq
    have ho' := ho.trans (congrArg Op.call (builtin_eq hcal hx))
    have hv := hr x hm
    rw [h1] at hv
    split at he
    · rename_i t ht
      split at he
      · rename_i hu
        simp only [Option.some.injEq, Prod.mk.injEq, true_and] at he
        obtain ⟨rfl, rfl⟩ := he
        exact lenStr_ok g ht ho' hu hv
      · simp at he
    · simp at he
  · rename_i a b heq
    obtain ⟨x, y, hx, h1, h2, hm1, hm2⟩ := args2 heq
    have hv1 := hr x hm1
    have hv2 := hr y hm2
    rw [h1] at hv1
    rw [h2] at hv2
    have ho' := ho.trans (congrArg Op.call (builtin_eq hcal hx))
    split at he
    · rename_i t t' hts
      split at he
      · rename_i e' hu'
        rw [hts] at ho'
        unfold appendA at he
        split at he
        · rename_i e hu
          split at he
          · rename_i ie hi
            split at he
            · rename_i n off sz len lo hi' cap c1 ys len2 lo2 hi2 hsrc
              split at he
              · simp only [Option.some.injEq, Prod.mk.injEq, Bool.and_eq_true] at he
                obtain ⟨⟨⟨hc1, hl⟩, hok⟩, rfl, rfl⟩ := he
                subst hc1
                exact appendNil_ok g hsub hfr ho' hu hu' hi hv1 hv2 hsrc (ble_le hl) hok
              · split at he
                · simp at he
                · rename_i row hrow
                  cases hro : (row.ro || !Nat.beq sz ie.size) <;> rw [hro] at he <;> simp only [cond_false, cond_true, reduceCtorEq] at he
                  simp only [Bool.or_eq_false_iff, Bool.not_eq_false'] at hro
                  split at he
                  · rename_i c2 xs hxs
                    split at he
                    · rename_i zs hzs
                      simp only [Option.some.injEq, Prod.mk.injEq, Bool.and_eq_true] at he
                      obtain ⟨⟨⟨⟨hc1, hc2⟩, hl⟩, hok⟩, rfl, rfl⟩ := he
                      subst hc1; subst hc2
                      exact append_ok g hsub hfr ho' hu hu' hi hv1 hv2 hsrc (hsub _ _ hrow) hro.1 (beq_eq' hro.2) hxs hzs (ble_le hl) hok
                    · simp at he
                  · simp at he
            · simp at he
          · simp at he
        · simp at he
      · simp at he
    · simp at he
  · rename_i a b heq
    obtain ⟨x, y, hx, h1, h2, hm1, hm2⟩ := args2 heq
    have hv1 := hr x hm1
    have hv2 := hr y hm2
    rw [h1] at hv1
    rw [h2] at hv2
    have ho' := ho.trans (congrArg Op.call (builtin_eq hcal hx))
    split at he
    · rename_i t ht
      unfold copyA at he
      split at he
      · rename_i e hu
        cases hsz : Nat.beq (sizeT P e) 1 <;> rw [hsz] at he <;> simp only [cond_false, cond_true, reduceCtorEq] at he
        split at he
        · rename_i n off sz len lo hi' cap m off2 sz2 len2 lo2 hi2 cap2
          split at he
          · rename_i row q hrow hq
            cases hro : row.ro <;> rw [hro] at he <;> simp only [cond_false, cond_true, reduceCtorEq] at he
            split at he
            · rename_i c1 ys hel
              split at he
              · rename_i zs hsp
                simp only [Option.some.injEq, Prod.mk.injEq, Bool.and_eq_true] at he
                obtain ⟨⟨hc1, hfit⟩, rfl, rfl⟩ := he
                subst hc1
                have hs1 := beq_eq' hsz
                have hi : ∃ ie, P.info? e = some ie := by
                  cases hie : P.info? e with
                  | none => simp [sizeT, hie] at hs1
                  | some ie => exact ⟨ie, rfl⟩
                obtain ⟨ie, hie⟩ := hi
                have := copy_ok (F := F) (w0 := w0) (fr := fr) (h := h) g ht ho' hu hs1 hie hv1 hv2 (hsub _ _ hrow) (hsub _ _ hq) hro hel hsp (ble_le hfit)
                rw [hro] at this; exact this
              · simp at he
            · simp at he
          · simp at he
        · simp at he
      · simp at he
    · simp at he
  · rename_i a b heq
    obtain ⟨x, y, hx, h1, h2, hm1, hm2⟩ := args2 heq
    have hv1 := hr x hm1
    have hv2 := hr y hm2
    rw [h1] at hv1
    rw [h2] at hv2
    have ho' := ho.trans (congrArg Op.call (builtin_eq hcal hx))
    obtain ⟨rfl, hh⟩ := max_ok (F := F) (w0 := w0) (fr := fr) (h := h) g ho' hv1 hv2 he
    exact hh
  · rename_i a b heq
    obtain ⟨x, y, hx, h1, h2, hm1, hm2⟩ := args2 heq
    have hv1 := hr x hm1
    have hv2 := hr y hm2
    rw [h1] at hv1
    rw [h2] at hv2
    have ho' := ho.trans (congrArg Op.call (builtin_eq hcal hx))
    obtain ⟨rfl, hh⟩ := min_ok (F := F) (w0 := w0) (fr := fr) (h := h) g ho' hv1 hv2 he
    exact hh
  · simp at he

end
end Go.Bx

/-
  Two values, one of which it is.
-/
namespace Go.Bx

/-- Whatever the first is a value for, the second is. -/
def Fit (a b : AVal) : Prop := ∀ L v, val L a v → val L b v
def FitL (a b : List AVal) : Prop := ∀ L cs, cells L a cs → cells L b cs

theorem Fit.refl (a : AVal) : Fit a a := fun _ _ h => h
theorem FitL.refl (a : List AVal) : FitL a a := fun _ _ h => h

theorem Fit.trans {a b c : AVal} (h : Fit a b) (k : Fit b c) : Fit a c := fun L v hv => k L v (h L v hv)
theorem FitL.trans {a b c : List AVal} (h : FitL a b) (k : FitL b c) : FitL a c := fun L v hv => k L v (h L v hv)
theorem Fit.any (a : AVal) : Fit a .any := fun _ _ _ => trivial

theorem lo_le {a b : Nat} : (bif Nat.ble a b then a else b) ≤ a ∧ (bif Nat.ble a b then a else b) ≤ b := by
  cases h : Nat.ble a b
  · have := not_ble h; simp only [cond_false]; omega
  · have := ble_le h; simp only [cond_true]; omega

theorem hi_le {a b : Nat} : a ≤ (bif Nat.ble a b then b else a) ∧ b ≤ (bif Nat.ble a b then b else a) := by
  cases h : Nat.ble a b
  · have := not_ble h; simp only [cond_false]; omega
  · have := ble_le h; simp only [cond_true]; omega

/-- Pieces: what the cells of the one are, the cells of the other are. -/
def FitP (a b : AVal) : Prop := ∀ L cs, piece L a cs → piece L b cs

theorem one0 {L : Lo} {a : AVal} {v : Value} (h : val0 L a v) : v.oneCell' = true := val0_one h

theorem joinV0_true (x y : AVal) : Fit x (joinV0 true x y) := by
  intro L v hv
  unfold joinV0
  split
  all_goals try (rename_i k n lo hi k' n' lo' hi'
                 cases hk : keq k k' <;> simp only [cond_false, cond_true]
                 · exact trivial
                 · obtain ⟨e, h1, h2⟩ := hv
                   have := lo_le (a := lo) (b := lo')
                   have := hi_le (a := hi) (b := hi')
                   exact ⟨e, by omega, by omega⟩
                 done)
  · rename_i k n k' n'
    cases hk : keq k k' <;> simp only [cond_false, cond_true]
    · exact trivial
    · exact hv
  · rename_i k n k' n' _ _
    cases hk : keq k k' <;> simp only [cond_false, cond_true]
    · exact trivial
    · exact hv
  · rename_i k m k' n' _ _
    cases hk : keq k k' <;> simp only [cond_false, cond_true]
    · exact trivial
    · exact hv
  · rename_i k n _ _ k' m
    cases hk : keq k k' <;> simp only [cond_false, cond_true]
    · exact trivial
    · exact hv.1
  · rename_i k m k' n'
    cases hk : keq k k' <;> simp only [cond_false, cond_true]
    · exact trivial
    · exact hv
  · rename_i k n k' m
    cases hk : keq k k' <;> simp only [cond_false, cond_true]
    · exact trivial
    · exact hv
  · rename_i k m k' m'
    cases hk : keq k k' <;> simp only [cond_false, cond_true]
    · exact trivial
    · exact hv
  · rename_i k n _ _ k' n'
    cases hk : keq k k' <;> simp only [cond_false, cond_true]
    · exact trivial
    · exact hv.1
  · exact hv
  · exact hv
  · exact hv
  · exact hv
  · rename_i k n xs k' n' ys
    cases hk : (keq k k' && Nat.beq n n') <;> simp only [cond_false, cond_true]
    · exact trivial
    · exact hv
  · rename_i k h n xs k' h' n' ys
    cases hk : (keq k k' && Nat.beq n n') <;> simp only [cond_false, cond_true]
    · exact trivial
    · obtain ⟨cs, ⟨e1, e2, e3⟩, e4⟩ := hv
      have := hi_le (a := h) (b := h')
      exact ⟨cs, ⟨e1, fun x hx => Nat.le_trans (e2 x hx) this.1, e3⟩, e4⟩
  · rename_i k h n xs k' n' ys
    cases hk : (keq k k' && Nat.beq n n') <;> simp only [cond_false, cond_true]
    · exact trivial
    · obtain ⟨cs, ⟨e1, e2, e3⟩, e4⟩ := hv
      exact ⟨cs, ⟨by simpa using e1, by rw [e3]; simp [List.map_map, Function.comp_def]⟩, e4⟩
  · rename_i k n xs k' h' n' ys
    cases hk : (keq k k' && Nat.beq n n') <;> simp only [cond_false, cond_true]
    · exact trivial
    · exact hv
  · rename_i n o n' o'
    cases hk : (Nat.beq n n' && Nat.beq o o') <;> simp only [cond_false, cond_true]
    · exact trivial
    · exact hv
  · exact hv
  · rename_i n o sz len lo hi cap n' o' sz' len' lo' hi' cap'
    cases hk : (Nat.beq n n' && Nat.beq o o' && Nat.beq sz sz') <;> simp only [cond_false, cond_true]
    · exact trivial
    · obtain ⟨h1, h2, h3⟩ := hv
      have a1 := lo_le (a := lo) (b := lo')
      have a2 := hi_le (a := hi) (b := hi')
      have hcap : ∀ c, joinCap true cap cap' = some c → cap = some c := by
        intro c hc
        cases cap <;> cases cap' <;> simp [joinCap] at hc ⊢
        exact hc
      refine ⟨by omega, by omega, ?_⟩
      rcases h3 with ⟨z, h4, h5⟩ | ⟨hl, c, e, h4, h5, h6⟩
      · exact .inl ⟨z, fun c hc => h4 c (hcap c hc), h5⟩
      · exact .inr ⟨hl, c, e, h4, h5, fun c' hc => h6 c' (hcap c' hc)⟩
  · exact trivial

theorem joinV0_false (x y : AVal) : Fit y (joinV0 false x y) := by
  intro L v hv
  unfold joinV0
  split
  all_goals try (rename_i k n lo hi k' n' lo' hi'
                 cases hk : keq k k' <;> simp only [cond_false, cond_true]
                 · exact trivial
                 · have := keq_eq hk; subst this
                   obtain ⟨e, h1, h2⟩ := hv
                   have := lo_le (a := lo) (b := lo')
                   have := hi_le (a := hi) (b := hi')
                   exact ⟨e, by omega, by omega⟩
                 done)
  · rename_i k n k' n'
    cases hk : keq k k' <;> simp only [cond_false, cond_true]
    · exact trivial
    · have := keq_eq hk; subst this; exact hv
  · rename_i k n k' n' _ _
    cases hk : keq k k' <;> simp only [cond_false, cond_true]
    · exact trivial
    · have := keq_eq hk; subst this; exact hv.1
  · rename_i k m k' n' _ _
    cases hk : keq k k' <;> simp only [cond_false, cond_true]
    · exact trivial
    · have := keq_eq hk; subst this; exact hv.1
  · rename_i k n _ _ k' m
    cases hk : keq k k' <;> simp only [cond_false, cond_true]
    · exact trivial
    · have := keq_eq hk; subst this; exact hv
  · rename_i k m k' n'
    cases hk : keq k k' <;> simp only [cond_false, cond_true]
    · exact trivial
    · have := keq_eq hk; subst this; exact hv
  · rename_i k n k' m
    cases hk : keq k k' <;> simp only [cond_false, cond_true]
    · exact trivial
    · have := keq_eq hk; subst this; exact hv
  · rename_i k m k' m'
    cases hk : keq k k' <;> simp only [cond_false, cond_true]
    · exact trivial
    · have := keq_eq hk; subst this; exact hv
  · rename_i k n _ _ k' n'
    cases hk : keq k k' <;> simp only [cond_false, cond_true]
    · exact trivial
    · have := keq_eq hk; subst this; exact hv
  · exact hv
  · exact hv
  · exact hv
  · exact hv
  · rename_i k n xs k' n' ys
    cases hk : (keq k k' && Nat.beq n n') <;> simp only [cond_false, cond_true]
    · exact trivial
    · simp only [Bool.and_eq_true] at hk
      have := keq_eq hk.1; subst this
      have := beq_eq' hk.2; subst this
      exact hv
  · rename_i k h n xs k' h' n' ys
    cases hk : (keq k k' && Nat.beq n n') <;> simp only [cond_false, cond_true]
    · exact trivial
    · simp only [Bool.and_eq_true] at hk
      have := keq_eq hk.1; subst this
      have := beq_eq' hk.2; subst this
      obtain ⟨cs, ⟨e1, e2, e3⟩, e4⟩ := hv
      have := hi_le (a := h) (b := h')
      exact ⟨cs, ⟨e1, fun x hx => Nat.le_trans (e2 x hx) this.2, e3⟩, e4⟩
  · rename_i k h n xs k' n' ys
    cases hk : (keq k k' && Nat.beq n n') <;> simp only [cond_false, cond_true]
    · exact trivial
    · simp only [Bool.and_eq_true] at hk
      have := keq_eq hk.1; subst this
      have := beq_eq' hk.2; subst this
      exact hv
  · rename_i k n xs k' h' n' ys
    cases hk : (keq k k' && Nat.beq n n') <;> simp only [cond_false, cond_true]
    · exact trivial
    · simp only [Bool.and_eq_true] at hk
      have := keq_eq hk.1; subst this
      have := beq_eq' hk.2; subst this
      obtain ⟨cs, ⟨e1, e2, e3⟩, e4⟩ := hv
      exact ⟨cs, ⟨by simpa using e1, by rw [e3]; simp [List.map_map, Function.comp_def]⟩, e4⟩
  · rename_i n o n' o'
    cases hk : (Nat.beq n n' && Nat.beq o o') <;> simp only [cond_false, cond_true]
    · exact trivial
    · simp only [Bool.and_eq_true] at hk
      have := beq_eq' hk.1; subst this
      have := beq_eq' hk.2; subst this
      exact hv
  · exact hv
  · rename_i n o sz len lo hi cap n' o' sz' len' lo' hi' cap'
    cases hk : (Nat.beq n n' && Nat.beq o o' && Nat.beq sz sz') <;> simp only [cond_false, cond_true]
    · exact trivial
    · simp only [Bool.and_eq_true] at hk
      have := beq_eq' hk.1.1; subst this
      have := beq_eq' hk.1.2; subst this
      have := beq_eq' hk.2; subst this
      obtain ⟨h1, h2, h3⟩ := hv
      have a1 := lo_le (a := lo) (b := lo')
      have a2 := hi_le (a := hi) (b := hi')
      have hcap : ∀ c, joinCap false cap cap' = some c → cap' = some c := by
        intro c hc
        cases cap <;> cases cap' <;> simp [joinCap] at hc ⊢
        exact hc
      refine ⟨by omega, by omega, ?_⟩
      rcases h3 with ⟨z, h4, h5⟩ | ⟨hl, c, e, h4, h5, h6⟩
      · exact .inl ⟨z, fun c hc => h4 c (hcap c hc), h5⟩
      · exact .inr ⟨hl, c, e, h4, h5, fun c' hc => h6 c' (hcap c' hc)⟩
  · exact trivial

/-- A piece is its cells: an array's are those of its value; another's are one. -/
theorem piece_arr {L : Lo} {a : AVal} (h : isArr a = true) {cs : List Value} : piece L a cs ↔ val L a (.agg cs.toArray) := by
  cases a <;> simp only [isArr, reduceCtorEq] at h
  · constructor
    · intro hp; exact ⟨cs, hp, rfl⟩
    · rintro ⟨ds, hp, e⟩
      have : cs = ds := by simpa using e
      subst this; exact hp
  · constructor
    · intro hp; exact ⟨cs, hp, rfl⟩
    · rintro ⟨ds, hp, e⟩
      have : cs = ds := by simpa using e
      subst this; exact hp

theorem piece_one' {L : Lo} {a : AVal} (h : isArr a = false) {cs : List Value} : piece L a cs ↔ ∃ v, cs = [v] ∧ val0 L a v := by
  cases a <;> simp only [isArr, reduceCtorEq] at h <;> exact Iff.rfl

theorem arr_shape (b : Bool) {x y : AVal} (hx : isArr x = true) (hy : isArr y = true) : joinV0 b x y = .any ∨ isArr (joinV0 b x y) = true := by
  cases x <;> simp only [isArr, reduceCtorEq] at hx <;> cases y <;> simp only [isArr, reduceCtorEq] at hy <;>
    (unfold joinV0; simp only; rename_i k _ _ k' _ _ ; first
      | (generalize (keq _ _ && _) = c; cases c <;> simp [isArr]))

/-- What one cell is, the join is. -/
theorem one_fit {L : Lo} (b : Bool) {x y : AVal} (hx : isArr x = false) (hy : isArr y = false) {v : Value} :
    (b = true → val0 L x v → isArr (joinV0 b x y) = false ∧ val0 L (joinV0 b x y) v) ∧ (b = false → val0 L y v → isArr (joinV0 b x y) = false ∧ val0 L (joinV0 b x y) v) := by
  have hs : isArr (joinV0 b x y) = false := by
    cases x <;> simp only [isArr, reduceCtorEq] at hx <;> cases y <;> simp only [isArr, reduceCtorEq] at hy <;>
      first
      | rfl
      | (unfold joinV0; simp only; generalize (keq _ _) = c; cases c <;> rfl)
      | (unfold joinV0; simp only; generalize (Nat.beq _ _ && Nat.beq _ _) = c; cases c <;> rfl)
      | (unfold joinV0; simp only; generalize (Nat.beq _ _ && Nat.beq _ _ && Nat.beq _ _) = c; cases c <;> rfl)
  have back : ∀ z : AVal, isArr z = false → (∀ v, val0 L z v ↔ (val L z v ∧ (z = .any → v.oneCell' = true) ∧ (match z with | .agg _ => False | .tuple _ => False | .func _ _ => False | _ => True))) := by
    intro z hz v
    cases z <;> simp only [isArr, reduceCtorEq] at hz <;> simp [val, val1, val0]
  have hno : ∀ z : AVal, z = joinV0 b x y → isArr z = false → (match z with | .agg _ => False | .tuple _ => False | .func _ _ => False | _ => True) := by
    intro z hz _
    unfold joinV0 at hz
    split at hz <;> (try (subst hz; exact trivial)) <;> (revert hz; first
      | (generalize (keq _ _) = c; cases c <;> (intro hz; subst hz; exact trivial))
      | (generalize (keq _ _ && Nat.beq _ _) = c; cases c <;> (intro hz; subst hz; exact trivial))
      | (generalize (Nat.beq _ _ && Nat.beq _ _) = c; cases c <;> (intro hz; subst hz; exact trivial))
      | (generalize (Nat.beq _ _ && Nat.beq _ _ && Nat.beq _ _) = c; cases c <;> (intro hz; subst hz; exact trivial)))
  constructor
  · intro hb hv
    subst hb
    exact ⟨hs, (back _ hs v).2 ⟨joinV0_true x y L v ((back x hx v).1 hv).1, fun _ => val0_one hv, hno _ rfl hs⟩⟩
  · intro hb hv
    subst hb
    exact ⟨hs, (back _ hs v).2 ⟨joinV0_false x y L v ((back y hy v).1 hv).1, fun _ => val0_one hv, hno _ rfl hs⟩⟩

theorem joinPc_true {x y z : AVal} (h : joinPc true x y = some z) : FitP x z := by
  intro L cs hp
  unfold joinPc at h
  split at h
  · rename_i hx hy
    have hs := arr_shape true hx hy
    split at h
    · simp at h
    · rename_i hne
      simp only [Option.some.injEq] at h; subst h
      have hs := hs.resolve_left (fun e => hne e)
      rw [piece_arr hs]; exact joinV0_true x y L _ ((piece_arr hx).1 hp)
  · rename_i hx hy
    simp only [Option.some.injEq] at h; subst h
    obtain ⟨v, e, hv⟩ := (piece_one' hx).1 hp
    have := (one_fit (L := L) true hx hy (v := v)).1 rfl hv
    exact (piece_one' this.1).2 ⟨v, e, this.2⟩
  · simp at h

theorem joinPc_false {x y z : AVal} (h : joinPc false x y = some z) : FitP y z := by
  intro L cs hp
  unfold joinPc at h
  split at h
  · rename_i hx hy
    have hs := arr_shape false hx hy
    split at h
    · simp at h
    · rename_i hne
      simp only [Option.some.injEq] at h; subst h
      have hs := hs.resolve_left (fun e => hne e)
      rw [piece_arr hs]; exact joinV0_false x y L _ ((piece_arr hy).1 hp)
  · rename_i hx hy
    simp only [Option.some.injEq] at h; subst h
    obtain ⟨v, e, hv⟩ := (piece_one' hy).1 hp
    have := (one_fit (L := L) false hx hy (v := v)).2 rfl hv
    exact (piece_one' this.1).2 ⟨v, e, this.2⟩
  · simp at h

theorem joinPs_true : ∀ {l m r : List AVal}, joinPs true l m = some r → FitL l r
  | [], [], r, h => by simp only [joinPs, Option.some.injEq] at h; subst h; exact FitL.refl _
  | [], _ :: _, _, h => by simp [joinPs] at h
  | _ :: _, [], _, h => by simp [joinPs] at h
  | x :: l, y :: m, r, h => by
    simp only [joinPs] at h
    split at h
    · rename_i v r' h1 h2
      simp only [Option.some.injEq] at h; subst h
      intro L cs hc
      obtain ⟨c, d, e, hp, hd⟩ := hc
      exact ⟨c, d, e, joinPc_true h1 L c hp, joinPs_true h2 L d hd⟩
    · simp at h

theorem joinPs_false : ∀ {l m r : List AVal}, joinPs false l m = some r → FitL m r
  | [], [], r, h => by simp only [joinPs, Option.some.injEq] at h; subst h; exact FitL.refl _
  | [], _ :: _, _, h => by simp [joinPs] at h
  | _ :: _, [], _, h => by simp [joinPs] at h
  | x :: l, y :: m, r, h => by
    simp only [joinPs] at h
    split at h
    · rename_i v r' h1 h2
      simp only [Option.some.injEq] at h; subst h
      intro L cs hc
      obtain ⟨c, d, e, hp, hd⟩ := hc
      exact ⟨c, d, e, joinPc_false h1 L c hp, joinPs_false h2 L d hd⟩
    · simp at h

theorem joinV_true (x y : AVal) : Fit x (joinV true x y) := by
  unfold joinV
  split
  · rename_i l m
    cases hj : joinPs true l m with
    | none => exact Fit.any _
    | some r =>
      intro L v hv
      obtain ⟨cs, hc, e⟩ := hv
      exact ⟨cs, joinPs_true hj L cs hc, e⟩
  · exact joinV0_true _ _

theorem joinV_false (x y : AVal) : Fit y (joinV false x y) := by
  unfold joinV
  split
  · rename_i l m
    cases hj : joinPs false l m with
    | none => exact Fit.any _
    | some r =>
      intro L v hv
      obtain ⟨cs, hc, e⟩ := hv
      exact ⟨cs, joinPs_false hj L cs hc, e⟩
  · exact joinV0_false _ _

end Go.Bx

/-
  All the operations together: the dispatch.
-/
namespace Go.Bx

section
variable {P : Program} {w w0 : World} {F : Nat → Prop} {L : Lo} {h : HF} {H : Heap} {fr : Nat}

theorem pureR_eq {a v : AVal} {us : Ups} (h : pureR a = some (true, v, us)) : v = a ∧ us = [] := by
  simp only [pureR, Option.some.injEq, Prod.mk.injEq, true_and] at h
  exact ⟨h.1.symm, h.2.symm⟩

theorem orel_of {r : Operand → AVal} {rho : Operand → Value} {a : Option Operand} (h : ∀ x, a = some x → val L (r x) (rho x)) : orel L (a.map r) (a.map rho) := by
  cases a with
  | none => trivial
  | some x => exact h x rfl

theorem sliceA_ok (g : Good F w0 L h w) (hsub : ∀ n q, lk? H n = some q → h n = some q) {o : Oper} {r : Operand → AVal} {rho : Operand → Value} {t : TypeId} {x : Operand} {lo hi mx : Option Operand} (ho : o.op = .slice t x lo hi mx)
    (hr : ∀ y ∈ o.op.operands.toList, val L (r y) (rho y)) {v : AVal} {us : Ups} (he : sliceA P t H (r x) (lo.map r) (hi.map r) (mx.map r) = some (true, v, us)) :
    OpRun P (execOp rho o) w (Post F w0 L h fr us v) := by
  rw [ho] at hr
  have hx := hr x (by simp [Op.operands])
  have rl : orel L (lo.map r) (lo.map rho) := orel_of fun y e => hr y (by subst e; simp [Op.operands])
  have rh : orel L (hi.map r) (hi.map rho) := orel_of fun y e => hr y (by subst e; simp [Op.operands])
  have rm : orel L (mx.map r) (mx.map rho) := orel_of fun y e => hr y (by subst e; simp [Op.operands])
  unfold sliceA at he
  split at he
  · rename_i n e hu
    split at he
    · rename_i ie m off hie hrx
      rw [hrx] at hx
      split at he
      · rename_i l ll lh hh hl hu' c cl cu bl bh bc
        cases hmx : ((mx.map r).isSome && !(hi.map r).isSome) <;> rw [hmx] at he <;> simp only [cond_false, cond_true, reduceCtorEq] at he
        split at he
        · simp at he
        · rename_i row hrow
          simp only [Option.some.injEq, Prod.mk.injEq, Bool.and_eq_true] at he
          obtain ⟨⟨⟨⟨q1, q2⟩, q3⟩, q4⟩, rfl, rfl⟩ := he
          exact sliceArr_ok g ho hx hu hie rl rh rm bl bh bc hmx q1 q2 q3 ⟨row, hsub _ _ hrow, ble_le q4⟩
      · simp at he
    · simp at he
  · rename_i e hu
    split at he
    · rename_i ie m off sz n nl nh cap hie hrx
      rw [hrx] at hx
      split at he
      · rename_i l ll lh hh hl hu' bl bh hmx
        simp only [Option.some.injEq, Prod.mk.injEq, Bool.and_eq_true] at he
        obtain ⟨⟨⟨q1, q2⟩, q3⟩, rfl, rfl⟩ := he
        have : mx = none := by simpa using hmx
        subst this
        exact sliceSl_ok g ho hx hu hie (beq_eq' q3) rl rh bl bh q1 q2
      · simp at he
    · simp at he
  · simp at he

theorem indexA_ok (g : Good F w0 L h w) {o : Oper} {r : Operand → AVal} {rho : Operand → Value} {t : TypeId} {x i : Operand} (ho : o.op = .index t x i)
    (hx : val L (r x) (rho x)) (hi : val L (r i) (rho i)) {v : AVal} {us : Ups} (he : indexA P t (r x) (r i) = some (true, v, us)) :
    OpRun P (execOp rho o) w (Post F w0 L h fr us v) := by
  unfold indexA at he
  split at he
  · rename_i s k j lo hi' hu hrx hri
    rw [hrx] at hx; rw [hri] at hi
    simp only [Option.some.injEq, Prod.mk.injEq] at he
    obtain ⟨q1, rfl, rfl⟩ := he
    exact indexStr_ok g ho hx hi hu q1
  · rename_i n e k j lo hi' hu hri
    rw [hri] at hi
    cases hag : aggV (r x) <;> rw [hag] at he <;> simp only [Bool.not_false, Bool.not_true, cond_false, cond_true, reduceCtorEq] at he
    split at he
    · rename_i d hd
      obtain ⟨cs, hcs⟩ := aggV_agg hag hx
      cases ha : isAggT P e <;> rw [ha] at he <;> simp only [cond_false, cond_true] at he
      · split at he
        · rename_i c u hc
          simp only [Option.some.injEq, Prod.mk.injEq, Bool.and_eq_true] at he
          obtain ⟨⟨rfl, q2⟩, rfl, rfl⟩ := he
          exact index_ok g ho (aggV_box hag) hx hcs hi hu hd q2 (.inr ⟨ha, hc⟩)
        · simp at he
      · cases hm : rdRange (pieces (r x)) (mulSz j (sizeT P e)) (sizeT P e) with
        | none => rw [hm] at he; simp at he
        | some m =>
          rw [hm] at he
          simp only [Option.map_some, Option.some.injEq, Prod.mk.injEq] at he
          obtain ⟨q2, rfl, rfl⟩ := he
          exact index_ok g ho (aggV_box hag) hx hcs hi hu hd q2 (.inl ⟨ha, m, hm, rfl⟩)
    · simp at he
  · simp at he

theorem flat_ok {r : Operand → AVal} {rho : Operand → Value} : ∀ {xs : List Operand}, flatAll (xs.map r) = true → (∀ x ∈ xs, val L (r x) (rho x)) → vals1 L (xs.map r) (xs.map rho)
  | [], _, _ => rfl
  | x :: xs, hf, hx => by
    simp only [List.map_cons, flatAll] at hf ⊢
    have h1 := hx x (List.mem_cons_self ..)
    have hrest : ∀ y ∈ xs, val L (r y) (rho y) := fun y hy => hx y (List.mem_cons_of_mem _ hy)
    generalize r x = a at *
    cases a <;> simp only [Bool.false_eq_true] at hf <;> exact ⟨_, _, rfl, h1, flat_ok hf hrest⟩

theorem opA_ok {σ : List (Nat × Sum)} (hσ : ∀ f s, lk? σ f = some s → SumOk P f s) (g : Good F w0 L h w) (hsub : ∀ n q, lk? H n = some q → h n = some q) (hfr : ∀ n, fr ≤ n → n < fr + 16 → ¬ L.live n)
    {o : Oper} {r : Operand → AVal} {rho : Operand → Value} (hr : ∀ y ∈ o.op.operands.toList, val L (r y) (rho y)) {v : AVal} {us : Ups} (he : opA P σ o.op r H fr = some (true, v, us)) :
    OpRun P (execOp rho o) w (Post F w0 L h fr us v) := by
  generalize ho : o.op = op at *
  cases op
  case move x =>
    obtain ⟨rfl, rfl⟩ := pureR_eq he
    exact move_ok g (.inl ho) (hr x (by simp [Op.operands]))
  case assign x =>
    obtain ⟨rfl, rfl⟩ := pureR_eq he
    exact move_ok g (.inr ho) (hr x (by simp [Op.operands]))
  case pick c a b =>
    simp only [opA] at he
    have hc := hr c (by simp [Op.operands])
    split at he
    · rename_i hrc
      rw [hrc] at hc
      obtain ⟨rfl, rfl⟩ := pureR_eq he
      exact pick_ok g ho hc (hr a (by simp [Op.operands]))
    · rename_i hrc
      rw [hrc] at hc
      obtain ⟨rfl, rfl⟩ := pureR_eq he
      exact pick_ok g ho hc (by simpa using hr b (by simp [Op.operands]))
    · rename_i v' hrc
      rw [hrc] at hc
      obtain ⟨rfl, rfl⟩ := pureR_eq he
      have h1 := hr a (by simp [Op.operands])
      have h2 := hr b (by simp [Op.operands])
      refine pickO_ok g ho hc ?_
      cases v'
      · exact joinV_false (r a) (r b) L _ h2
      · exact joinV_true (r a) (r b) L _ h1
    · simp at he
  case alloc t =>
    simp only [opA] at he
    split at he
    · rename_i c hz
      simp only [Option.some.injEq, Prod.mk.injEq, true_and] at he
      obtain ⟨rfl, rfl⟩ := he
      exact alloc_ok g hfr ho hz
    · simp at he
  case box t x =>
    have hx := hr x (by simp [Op.operands])
    simp only [opA] at he
    split at he <;> first
      | (simp at he; done)
      | (simp only [Option.some.injEq, Prod.mk.injEq, true_and] at he
         obtain ⟨rfl, rfl⟩ := he
         refine box_ok g hfr ho ?_ hx
         revert he1; skip)
      | skip
    rename_i h1 h2 h3
    simp only [Option.some.injEq, Prod.mk.injEq, true_and] at he
    obtain ⟨rfl, rfl⟩ := he
    refine box_ok g hfr ho ?_ hx
    generalize r x = a at *
    cases a <;> first | rfl | simp_all
  case build t parts =>
    have hv : ∀ x ∈ parts.toList.map (·.2), val L (r x) (rho x) := fun x hx => hr x (by simpa [Op.operands] using hx)
    simp only [opA] at he
    split at he
    · rename_i z hz
      split at he
      · rename_i c l hl
        simp only [Option.some.injEq, Prod.mk.injEq] at he
        obtain ⟨rfl, rfl, rfl⟩ := he
        refine build_ok g ho hv hz ?_
        split at hl
        · rename_i fs hu
          cases ha : allInfo P fs.toList <;> rw [ha] at hl <;> simp only [cond_false, cond_true, reduceCtorEq] at hl
          exact .inl ⟨fs, hu, ha, hl⟩
        · rename_i n e hu
          split at hl
          · rename_i ie hie
            exact .inr ⟨n, e, ie, hu, hie, hl⟩
          · simp at hl
        · simp at hl
      · simp at he
    · simp at he
  case buildSlice t n parts =>
    have hv : ∀ x ∈ parts.toList.map (·.2), val L (r x) (rho x) := fun x hx => hr x (by simpa [Op.operands] using hx)
    simp only [opA] at he
    split at he
    · rename_i e hu
      split at he
      · rename_i z hz
        split at he
        · rename_i c l hl
          simp only [Option.some.injEq, Prod.mk.injEq, Bool.and_eq_true] at he
          obtain ⟨⟨rfl, hb⟩, rfl, rfl⟩ := he
          exact buildSlice_ok g hfr ho hv hu hz hl (ble_le hb)
        · simp at he
      · simp at he
    · simp at he
  case load t x =>
    have hx := hr x (by simp [Op.operands])
    simp only [opA] at he
    split at he
    · rename_i n off hrx
      rw [hrx] at hx
      cases hl : loadA P t H n off with
      | none => rw [hl] at he; simp at he
      | some p =>
        obtain ⟨c, u⟩ := p
        rw [hl] at he
        simp only [Option.map_some, Option.some.injEq, Prod.mk.injEq] at he
        obtain ⟨rfl, rfl, rfl⟩ := he
        exact load_ok g hsub ho hx hl
    · simp at he
  case store t x y =>
    have hx := hr x (by simp [Op.operands])
    have hy := hr y (by simp [Op.operands])
    simp only [opA] at he
    split at he
    · rename_i n off hrx
      rw [hrx] at hx
      split at he
      · rename_i row hrow
        cases hro : row.ro <;> rw [hro] at he <;> simp only [cond_false, cond_true, reduceCtorEq] at he
        split at he
        · simp at he
        · simp at he
        · simp at he
        · rename_i a h1 h2 h3
          split at he
          · rename_i i hi
            cases hs : Nat.beq (sizes (pieces (r y))) i.size <;> rw [hs] at he <;> simp only [cond_false, cond_true, reduceCtorEq] at he
            cases hw : wrPieces row.c off (pieces (r y)) with
            | none => rw [hw] at he; simp at he
            | some p =>
              obtain ⟨c, l⟩ := p
              rw [hw] at he
              simp only [Option.map_some, Option.some.injEq, Prod.mk.injEq] at he
              obtain ⟨rfl, rfl, rfl⟩ := he
              have hb : boxable (r y) = true := by
                generalize r y = a at *
                cases a <;> first | rfl | simp_all
              have := store_ok (F := F) (w0 := w0) (fr := fr) g ho hx (hsub _ _ hrow) hro hb hy hi (beq_eq' hs) hw
              rw [hro] at this
              exact this
          · simp at he
      · simp at he
    · simp at he
  case nilCheck x =>
    have hx := hr x (by simp [Op.operands])
    simp only [opA] at he
    split at he
    · rename_i n off hrx
      rw [hrx] at hx
      obtain ⟨rfl, rfl⟩ := pureR_eq he
      exact nilCheck_ok g ho hx
    · simp at he
  case binOp op t x y t' =>
    have hx := hr x (by simp [Op.operands])
    have hy := hr y (by simp [Op.operands])
    simp only [opA] at he
    split at he
    · rename_i c u hb
      simp only [Option.some.injEq, Prod.mk.injEq] at he
      obtain ⟨rfl, rfl, rfl⟩ := he
      exact binOp_ok g ho hx hy hb
    · cases hq : eqOp P op t (r x) (r y) with
      | none => rw [hq] at he; simp at he
      | some u =>
        rw [hq] at he
        simp only [Option.map_some, Option.some.injEq, Prod.mk.injEq, true_and] at he
        obtain ⟨rfl, rfl⟩ := he
        exact eqOp_ok g ho hx hy hq
  case unOp op t x =>
    have hx := hr x (by simp [Op.operands])
    cases op
    case not =>
      simp only [opA] at he
      split at he
      · rename_i b hrx
        rw [hrx] at hx
        obtain ⟨rfl, rfl⟩ := pureR_eq he
        exact not_ok g ho hx
      · rename_i b hrx
        rw [hrx] at hx
        obtain ⟨rfl, rfl⟩ := pureR_eq he
        exact notO_ok g ho hx
      · simp at he
    case neg =>
      simp only [opA] at he
      split at he
      · rename_i k n lo hi hrx
        rw [hrx] at hx
        simp only [val, val1, val0] at hx
        obtain ⟨e, h1, h2⟩ := hx
        cases hk : kuns k <;> rw [hk] at he <;> simp only [cond_false, cond_true] at he
        · obtain ⟨rfl, rfl⟩ := pureR_eq he
          exact neg_ok g ho e rfl
        · simp only [Option.some.injEq, Prod.mk.injEq] at he
          obtain ⟨hm, rfl, rfl⟩ := he
          have hm := ble_le hm
          have hw : k.wrap (0 - (n : Int)) = k.wrap ((kmod k - n : Nat) : Int) := by
            rw [wrap_uns hk, wrap_uns hk]
            have e2 : ((kmod k - n : Nat) : Int) = (0 - (n : Int)) + (kmod k : Int) := by omega
            rw [e2, Int.add_emod_right]
          refine neg_ok g ho e ?_
          rw [hw]
          exact fitN_ok (by omega) (by omega)
      · rename_i k n hrx
        rw [hrx] at hx
        simp only [val, val1, val0] at hx
        obtain ⟨rfl, rfl⟩ := pureR_eq he
        exact neg_ok g ho hx rfl
      · rename_i k m hrx
        rw [hrx] at hx
        simp only [val, val1, val0] at hx
        obtain ⟨rfl, rfl⟩ := pureR_eq he
        exact neg_ok g ho hx rfl
      · simp at he
    case xor =>
      simp only [opA] at he
      split at he
      · rename_i k n lo hi hrx
        rw [hrx] at hx
        cases hk : kuns k <;> rw [hk] at he <;> simp only [cond_false, cond_true, reduceCtorEq] at he
        simp only [Option.some.injEq, Prod.mk.injEq] at he
        obtain ⟨hm, rfl, rfl⟩ := he
        exact compl_ok g ho hx hk (ble_le hm)
      · simp at he
    all_goals (simp [opA] at he)
  case convert s d x =>
    have hx := hr x (by simp [Op.operands])
    simp only [opA] at he
    split at he
    · rename_i ds k hs hd
      cases hc : convA k (r x) with
      | none => rw [hc] at he; simp at he
      | some u =>
        rw [hc] at he
        simp only [Option.map_some, Option.some.injEq, Prod.mk.injEq, true_and] at he
        obtain ⟨rfl, rfl⟩ := he
        exact conv_ok g ho hx hs hd hc
    · simp at he
  case sliceToArrayPointer t x =>
    have hx := hr x (by simp [Op.operands])
    simp only [opA] at he
    split at he
    · rename_i n e m off sz len lo hi cap hu hrx
      rw [hrx] at hx
      simp only [Option.some.injEq, Prod.mk.injEq, Bool.and_eq_true] at he
      obtain ⟨⟨q1, q2⟩, rfl, rfl⟩ := he
      exact s2ap_ok g ho hx hu q1 (blt_lt q2)
    · simp at he
  case makeFunc fn first caps =>
    cases fn
    case func f =>
      simp only [opA] at he
      cases hs : (Nat.beq first.size 0 && flatAll (caps.toList.map r)) <;> rw [hs] at he <;> simp only [cond_false, cond_true, reduceCtorEq] at he
      simp only [Bool.and_eq_true] at hs
      obtain ⟨rfl, rfl⟩ := pureR_eq he
      have h0 : first = #[] := Array.eq_empty_of_size_eq_zero (beq_eq' hs.1)
      subst h0
      refine OpRun.value (v := .func (.func f) #[] (caps.map rho)) (w' := w) (by simp [execOp, ho, Instr.makeFunc]) (Post.pure g ⟨caps.toList.map rho, flat_ok hs.2 fun x hx => hr x (by simpa [Op.operands] using hx), by congr 1; apply Array.ext'; simp⟩)
    all_goals (simp [opA] at he)
  case makeSlice t x y =>
    have hx := hr x (by simp [Op.operands])
    have hy := hr y (by simp [Op.operands])
    simp only [opA] at he
    split at he
    · rename_i e n nl nh m ml mh hu hrx hry
      rw [hrx] at hx; rw [hry] at hy
      split at he
      · rename_i z ie hz hie
        simp only [Option.some.injEq, Prod.mk.injEq, Bool.and_eq_true] at he
        obtain ⟨⟨⟨q1, q2⟩, q3⟩, rfl, rfl⟩ := he
        exact makeSlice_ok g hfr ho hx hy hu hz hie q1 (ble_le q2) (ble_le q3)
      · simp at he
    · simp at he
  case slice t x lo hi mx => exact sliceA_ok g hsub ho (by rw [ho]; exact hr) he
  case fieldAddr t x f =>
    have hx := hr x (by simp [Op.operands])
    simp only [opA] at he
    split at he
    · rename_i fs n off hu hrx
      rw [hrx] at hx
      split at he
      · rename_i fd hf
        split at he
        · rename_i i hi
          cases hs : Nat.beq i.size 0 <;> rw [hs] at he <;> simp only [cond_false, cond_true, reduceCtorEq] at he
          obtain ⟨rfl, rfl⟩ := pureR_eq he
          exact fieldAddr_ok g ho hx hu hf hi (by intro e; rw [e] at hs; simp at hs)
        · simp at he
      · simp at he
    · simp at he
  case field t x f =>
    have hx := hr x (by simp [Op.operands])
    simp only [opA] at he
    split at he
    · rename_i fs hu
      split at he
      · rename_i fd hf
        cases hag : aggV (r x) <;> rw [hag] at he <;> simp only [cond_false, cond_true, reduceCtorEq] at he
        obtain ⟨cs, hcs⟩ := aggV_agg hag hx
        split at he
        · rename_i d hd
          cases ha : isAggT P fd.type <;> rw [ha] at he <;> simp only [cond_false, cond_true] at he
          · cases hc : rdCell (pieces (r x)) fd.offset with
            | none => rw [hc] at he; simp at he
            | some p =>
              obtain ⟨c, u⟩ := p
              rw [hc] at he
              simp only [Option.map_some, Option.some.injEq, Prod.mk.injEq] at he
              obtain ⟨rfl, rfl, rfl⟩ := he
              exact field_ok g ho (aggV_box hag) hx hcs hu hf hd (.inr ⟨ha, hc⟩)
          · cases hm : rdRange (pieces (r x)) fd.offset (sizeT P fd.type) with
            | none => rw [hm] at he; simp at he
            | some m =>
              rw [hm] at he
              simp only [Option.map_some, Option.some.injEq, Prod.mk.injEq, true_and] at he
              obtain ⟨rfl, rfl⟩ := he
              exact field_ok g ho (aggV_box hag) hx hcs hu hf hd (.inl ⟨ha, m, hm, rfl⟩)
        · simp at he
      · simp at he
    · simp at he
  case indexAddr t x i =>
    have hx := hr x (by simp [Op.operands])
    have hi := hr i (by simp [Op.operands])
    simp only [opA] at he
    split at he
    · rename_i n e m off k j lo hi' hu hrx hri
      rw [hrx] at hx; rw [hri] at hi
      split at he
      · rename_i ie hie
        simp only [Option.some.injEq, Prod.mk.injEq] at he
        obtain ⟨q1, rfl, rfl⟩ := he
        exact indexArr_ok g ho hx hi hu hie q1
      · simp at he
    · rename_i e m off sz len ll lh cap k j lo hi' hu hrx hri
      rw [hrx] at hx; rw [hri] at hi
      split at he
      · rename_i ie hie
        simp only [Option.some.injEq, Prod.mk.injEq] at he
        obtain ⟨q1, rfl, rfl⟩ := he
        exact indexSl_ok g ho hx hi hu hie q1
      · simp at he
    · simp at he
  case index t x i => exact indexA_ok g ho (hr x (by simp [Op.operands])) (hr i (by simp [Op.operands])) he
  case extract x i =>
    have hx := hr x (by simp [Op.operands])
    simp only [opA] at he
    split at he
    · rename_i l hrx
      rw [hrx] at hx
      split at he
      · rename_i u hu
        obtain ⟨rfl, rfl⟩ := pureR_eq he
        exact extract_ok g ho hx hu
      · simp at he
    · simp at he
  case call c =>
    simp only [opA] at he
    have hargs : ∀ y ∈ c.args.toList, val L (r y) (rho y) := fun y hy => hr y (by simp [Op.operands, Call.operands]; exact .inr (by simpa using hy))
    split at he
    · rename_i b hcal
      exact builtinA_ok g hsub hfr ho hcal hargs he
    · rename_i x hcal
      have hx := hr x (by simp [Op.operands, Call.operands, hcal])
      split at he
      · rename_i f caps hrx
        rw [hrx] at hx
        split at he
        · rename_i s hs
          exact call_ok g hsub hfr ho hcal hx hargs (hσ f s hs) he
        · simp at he
      · simp at he
    · simp at he
  all_goals (simp [opA] at he)

end
end Go.Bx
