/-
  The abstract machine: regions, code, functions.
  No condition.
-/
import Derived.Test.YtjgegdipellpbaaMacB
import Derived.Orders
import Derived.Scope
import Derived.KernelRfl
/-
  Regions: the run in the order of the text, as a chain of entries.
-/
namespace Go.Bx

noncomputable def evF (f : Nat → AVal) : Operand → AVal
  | .tmp t => f t
  | .const v => ofConst v
  | .func g => .func g []
  | .global _ => .any

theorem ev_eq (s : List (Nat × AVal)) : ev s = evF (lk .any s) := by
  funext x; cases x <;> rfl

theorem evF_ok {L : Lo} {f : Nat → AVal} {a : Act} (hs : ∀ t, val L (f t) (a.tmps.getD t undef)) (x : Operand) : val L (evF f x) (a.eval x) := by
  cases x with
  | tmp t => exact hs t
  | const v => exact (ofConst_ok v).1
  | global g => exact trivial
  | func g => exact ⟨[], rfl, rfl⟩

theorem evF_congr {f f' : Nat → AVal} : ∀ {xs : List Operand}, (∀ t ∈ tmpsOf xs, f t = f' t) → ∀ x ∈ xs, evF f x = evF f' x
  | [], _, _, hx => by simp at hx
  | y :: xs, h, x, hx => by
    rcases List.mem_cons.1 hx with rfl | hx
    · cases x with
      | tmp t => exact h t (by simp [tmpsOf])
      | const v => rfl
      | global g => rfl
      | func g => rfl
    · refine evF_congr (fun t ht => h t ?_) x hx
      cases y <;> simp [tmpsOf, ht]

theorem evF_fit {L : Lo} {f f' : Nat → AVal} {a : Act} (hs : ∀ t, val L (f t) (a.tmps.getD t undef)) : ∀ {xs : List Operand}, (∀ t ∈ tmpsOf xs, Fit (f t) (f' t)) → ∀ x ∈ xs, val L (evF f' x) (a.eval x)
  | [], _, _, hx => by simp at hx
  | y :: xs, h, x, hx => by
    rcases List.mem_cons.1 hx with rfl | hx
    · cases x with
      | tmp t => exact h t (by simp [tmpsOf]) _ _ (hs t)
      | const v => exact (ofConst_ok v).1
      | global g => exact trivial
      | func g => exact ⟨[], rfl, rfl⟩
    · refine evF_fit hs (fun t ht => h t ?_) x hx
      cases y <;> simp [tmpsOf, ht]

noncomputable def updF (f : Nat → AVal) (d : Option Nat) (v : AVal) : Nat → AVal :=
  match d with
  | some t => fun u => if u = t then v else f u
  | none => f

theorem lk_put (s : List (Nat × AVal)) (t : Nat) (v : AVal) : lk .any (put s t v) = fun u => if u = t then v else lk .any s u := by
  funext u
  rw [lk_eq, lk_eq, lk?_put]
  split <;> rfl

theorem lk_putD (s : List (Nat × AVal)) (d : Option Nat) (v : AVal) : lk .any (putD s d v) = updF (lk .any s) d v := by
  cases d with
  | none => rfl
  | some t => exact lk_put s t v

theorem lk_put_same {s : List (Nat × AVal)} {t : Nat} {v : AVal} (h : lk .any s t = v) : lk .any (put s t v) = lk .any s := by
  rw [lk_put]; funext u; split
  · rename_i e; rw [e, h]
  · rfl

/-- What one operation did. -/
structure Ent where
  v : AVal
  us : Ups
  tr : Tr

/-- What the guard says: `f` knows. -/
def guardOk (ops : List Oper) (f : Nat → AVal) (o : Oper) (b : Bool) : Prop :=
  match o.guard with
  | none => b = true
  | some (g, want) => ∃ t, dstAt ops g = some t ∧ ((∃ x, Fit (f t) (.bool x) ∧ b = (x == want)) ∨ (Fit (f t) (.tuple []) ∧ b = false))

def EntOk (P : Program) (σ : List (Nat × Sum)) (nt : Nat) (draw : Bool) (ops : List Oper) (base : Nat) (o : Oper) (j : Nat) (f : Nat → AVal) (h : HF) (e : Ent) : Prop :=
  okD nt o.dst = true ∧
  ((guardOk ops f o true ∧ ∃ (f0 : Nat → AVal) (H : Heap), (∀ t ∈ tmpsOf o.op.operands.toList, Fit (f t) (f0 t)) ∧ (∀ n q, lk? H n = some q → h n = some q) ∧ opA P σ o.op (evF f0) H (base + 16 * j) = some (true, e.v, e.us) ∧
      (draw = true → e.tr = ⟨o.dst, guardSlot ops o ++ tmpsOf o.op.operands.toList, keysOf H, keysOf e.us⟩)) ∨
   (guardOk ops f o false ∧ e.v = .tuple [] ∧ e.us = [] ∧ (draw = true → e.tr = ⟨o.dst, guardSlot ops o, [], []⟩)))

def Chain (P : Program) (σ : List (Nat × Sum)) (nt : Nat) (draw : Bool) (ops : List Oper) (base : Nat) : List Oper → Nat → (Nat → AVal) → HF → List Ent → (Nat → AVal) → HF → Prop
  | [], _, f, h, es, f', h' => es = [] ∧ f' = f ∧ h' = h
  | o :: os, j, f, h, es, f', h' => ∃ e es', es = e :: es' ∧ EntOk P σ nt draw ops base o j f h e ∧ Chain P σ nt draw ops base os (j + 1) (updF f o.dst e.v) (applyUps h e.us) es' f' h'

theorem lk?_mem {H : Heap} : ∀ {acc : Heap}, (∀ m q, lk? acc m = some q → lk? H m = some q) → ∀ d ns m q, lk? (reach H d ns acc) m = some q → lk? H m = some q := by
  intro acc hacc d
  induction d generalizing acc with
  | zero => intro ns m q h; exact hacc m q (by simpa [reach] using h)
  | succ d ih =>
    intro ns m q h
    cases ns with
    | nil => exact hacc m q (by simpa [reach] using h)
    | cons k ns =>
      simp only [reach] at h
      split at h
      · exact ih hacc ns m q h
      · split at h
        · rename_i r hr
          refine ih ?_ _ m q h
          intro m' q' h'
          rw [lk?_cons] at h'
          split at h'
          · rename_i e
            simp only at e h'
            rw [← e, hr]; exact h'
          · exact hacc m' q' h'
        · exact ih hacc ns m q h

theorem chain_of_step {P : Program} {σ : List (Nat × Sum)} {nt : Nat} {draw : Bool} {ops : List Oper} {base : Nat} {o : Oper} {j : Nat} {s s' : St} {t : Tr} {c : Bool} (hc : c = true) {f : Nat → AVal} (hf : ∀ t, Fit (f t) (lk .any s.sl t))
    (h : stepR P σ nt draw ops (base + 16 * j) o s = some (c, s', t)) :
    ∃ e : Ent, e.tr = t ∧ EntOk P σ nt draw ops base o j f (lk? s.hp) e ∧ lk .any s'.sl = updF (lk .any s.sl) o.dst e.v ∧ lk? s'.hp = applyUps (lk? s.hp) e.us ∧ s'.nx = s.nx ∧ s'.ls = o.dst.toList ++ s.ls ∧ s'.lr = keysOf e.us ++ s.lr := by
  subst hc
  unfold stepR at h
  have hg : ∀ b, guardOf ops s.sl o = (if b then Guard.run else Guard.skip) → guardOk ops f o b := by
    intro b hb
    unfold guardOf at hb
    unfold guardOk
    cases ho : o.guard with
    | none => rw [ho] at hb; cases b <;> simp at hb ⊢
    | some p =>
      obtain ⟨g, want⟩ := p
      rw [ho] at hb
      simp only at hb ⊢
      cases hd : dstAt ops g with
      | none => rw [hd] at hb; cases b <;> simp at hb
      | some t =>
        rw [hd] at hb
        simp only at hb ⊢
        have hft := hf t
        generalize lk .any s.sl t = x at *
        cases x <;> (try simp only at hb) <;> try (cases b <;> simp at hb; done)
        · rename_i v
          refine ⟨t, rfl, .inl ⟨v, hft, ?_⟩⟩
          cases v <;> cases want <;> cases b <;> simp at hb ⊢
        · rename_i l
          cases l with
          | nil => exact ⟨t, rfl, .inr ⟨hft, by cases b <;> simp at hb ⊢⟩⟩
          | cons y l => cases b <;> simp at hb
  split at h
  · rename_i hgo
    have hb := hg false (by simpa using hgo)
    simp only [Option.some.injEq, Prod.mk.injEq] at h
    obtain ⟨h1, rfl, rfl⟩ := h
    exact ⟨⟨.tuple [], [], _⟩, rfl, ⟨h1, .inr ⟨hb, rfl, rfl, fun _ => rfl⟩⟩, lk_putD _ _ _, rfl, rfl, rfl, rfl⟩
  · rename_i hgo
    have hb := hg true (by simpa using hgo)
    simp only at h
    split at h
    · rename_i c v us hop
      simp only [Option.some.injEq, Prod.mk.injEq, Bool.and_eq_true] at h
      obtain ⟨⟨rfl, h1⟩, rfl, rfl⟩ := h
      refine ⟨⟨v, us, _⟩, rfl, ⟨h1, .inl ⟨hb, lk .any s.sl, _, fun t _ => hf t, ?_, by rw [← ev_eq]; exact hop, ?_⟩⟩, lk_putD _ _ _, ?_, rfl, rfl, rfl⟩
      · intro n q hq
        cases draw
        · simpa using hq
        · simp only [cond_true] at hq
          exact lk?_mem (by simp [lk?_nil]) _ _ _ _ hq
      · intro hd; subst hd; rfl
      · funext m; exact lk?_putUps us s.hp (lk? s.hp) (fun _ => rfl) m
    · simp at h
  · simp at h

/-- The heap of the one state stands for the other. -/
def WidH (h : HF) (hp : Heap) : Prop := ∀ n r, lk? hp n = some r → ∃ q, h n = some q ∧ FitL q.c r.c ∧ (r.ro = false → q.ro = false)

theorem WidH.refl (hp : Heap) : WidH (lk? hp) hp := fun _ r h => ⟨r, h, FitL.refl _, id⟩

/-- Which slots and rows may have changed. -/
def Trk (s s' : St) : Prop := ∃ new newr, s'.ls = new ++ s.ls ∧ s'.lr = newr ++ s.lr ∧ (∀ t, t ∉ new → lk .any s'.sl t = lk .any s.sl t) ∧ (∀ n, n ∉ newr → lk? s'.hp n = lk? s.hp n)

theorem Trk.refl (s : St) : Trk s s := ⟨[], [], rfl, rfl, fun _ _ => rfl, fun _ _ => rfl⟩

theorem Trk.trans {a b c : St} (h : Trk a b) (k : Trk b c) : Trk a c := by
  obtain ⟨n1, r1, h1, h2, h3, h4⟩ := h
  obtain ⟨n2, r2, k1, k2, k3, k4⟩ := k
  refine ⟨n2 ++ n1, r2 ++ r1, by rw [k1, h1]; simp, by rw [k2, h2]; simp, fun t ht => ?_, fun n hn => ?_⟩
  · simp only [List.mem_append, not_or] at ht
    rw [k3 t ht.1, h3 t ht.2]
  · simp only [List.mem_append, not_or] at hn
    rw [k4 n hn.1, h4 n hn.2]

theorem Trk.nx {s s' : St} (h : Trk s s') (n : Nat) : Trk s { s' with nx := n } := h

theorem applyUps_ne {n : Nat} : ∀ {us : Ups} {h : HF}, n ∉ keysOf us → applyUps h us n = h n
  | [], _, _ => rfl
  | (k, r) :: us, h, hn => by
    simp only [keysOf, List.mem_cons, not_or] at hn
    simp only [applyUps]
    rw [applyUps_ne hn.2]
    simp [updH, hn.1]

theorem lk_joinSl (b : Bool) (s1 s2 : List (Nat × AVal)) : ∀ (ts : List Nat) (sl : List (Nat × AVal)) (t : Nat), lk .any (joinSl b s1 s2 ts sl) t = if t ∈ ts then joinV b (lk .any s1 t) (lk .any s2 t) else lk .any sl t
  | [], sl, t => by simp [joinSl]
  | u :: ts, sl, t => by
    simp only [joinSl]
    rw [lk_joinSl b s1 s2 ts, lk_put]
    by_cases h : t ∈ ts
    · simp [h]
    · by_cases e : t = u
      · subst e; simp [h]
      · simp [h, e]

theorem lk_joinHp (b : Bool) (h1 h2 : Heap) : ∀ (ns : List Nat) (hp : Heap) (n : Nat), (n ∉ ns → lk? (joinHp b h1 h2 ns hp) n = lk? hp n) ∧
    (n ∈ ns → ∀ r, lk? (joinHp b h1 h2 ns hp) n = some r → ∃ r1 r2, lk? h1 n = some r1 ∧ lk? h2 n = some r2 ∧ joinRow b r1 r2 = some r)
  | [], hp, n => ⟨fun _ => by simp [joinHp], fun h => by simp at h⟩
  | m :: ns, hp, n => by
    have go : ∀ hp', (n ≠ m → lk? hp' n = lk? hp n) → (n = m → ∀ r, lk? hp' n = some r → ∃ r1 r2, lk? h1 n = some r1 ∧ lk? h2 n = some r2 ∧ joinRow b r1 r2 = some r) →
        (n ∉ m :: ns → lk? (joinHp b h1 h2 ns hp') n = lk? hp n) ∧ (n ∈ m :: ns → ∀ r, lk? (joinHp b h1 h2 ns hp') n = some r → ∃ r1 r2, lk? h1 n = some r1 ∧ lk? h2 n = some r2 ∧ joinRow b r1 r2 = some r) := by
      intro hp' e1 e2
      obtain ⟨i1, i2⟩ := lk_joinHp b h1 h2 ns hp' n
      refine ⟨fun hn => ?_, fun hn r hr => ?_⟩
      · simp only [List.mem_cons, not_or] at hn
        rw [i1 hn.2, e1 hn.1]
      · by_cases hm : n ∈ ns
        · exact i2 hm r hr
        · rw [i1 hm] at hr
          exact e2 ((List.mem_cons.1 hn).resolve_right hm) r hr
    simp only [joinHp]
    split
    · rename_i r1 r2 hr1 hr2
      split
      · rename_i r hj
        refine go _ (fun hne => by rw [lk?_put, if_neg hne]) (fun e r' hr' => ?_)
        subst e
        rw [lk?_put, if_pos rfl] at hr'
        cases hr'
        exact ⟨r1, r2, hr1, hr2, hj⟩
      · refine go _ (fun hne => by rw [lk?_del, if_neg hne]) (fun e r' hr' => ?_)
        subst e
        rw [lk?_del, if_pos rfl] at hr'; simp at hr'
    · refine go _ (fun hne => by rw [lk?_del, if_neg hne]) (fun e r' hr' => ?_)
      subst e
      rw [lk?_del, if_pos rfl] at hr'; simp at hr'

theorem fit_lit (b : Bool) : Fit (.ob b) (.bool b) := fun _ _ h => h
theorem fit_open (b : Bool) : Fit (.bool b) (.ob b) := fun _ _ h => h

/-- One branch, and what both come to. -/
theorem join_fit {s s1 s2 : St} {t : Nat} {v b : Bool} (hb : b = v) (ht : lk .any s.sl t = .ob b) {s0 sx : St} (h0 : (v = true ∧ s0 = s1 ∧ sx = s2) ∨ (v = false ∧ s0 = s2 ∧ sx = s1)) (hk : Trk (s.branch t v) s0) :
    (∀ u, Fit (lk .any s0.sl u) (lk .any (joinS b s s1 s2).sl u)) ∧ WidH (lk? s0.hp) (joinS b s s1 s2).hp ∧ Trk s (joinS b s s1 s2) := by
  subst hb
  obtain ⟨new, newr, k1, k2, k3, k4⟩ := hk
  have e1 : s0.ls = new := by simpa [St.branch] using k1
  have e2 : s0.lr = newr := by simpa [St.branch] using k2
  subst e1; subst e2
  have inls : ∀ u, u ∈ s0.ls → u ∈ s1.ls ++ s2.ls := fun u hu => by
    rcases h0 with ⟨_, rfl, _⟩ | ⟨_, rfl, _⟩ <;> simp [hu]
  have inlr : ∀ u, u ∈ s0.lr → u ∈ s1.lr ++ s2.lr := fun u hu => by
    rcases h0 with ⟨_, rfl, _⟩ | ⟨_, rfl, _⟩ <;> simp [hu]
  refine ⟨fun u => ?_, fun n r hr => ?_, ⟨s1.ls ++ s2.ls, s1.lr ++ s2.lr, rfl, rfl, fun u hu => ?_, fun n hn => ?_⟩⟩
  · show Fit _ (lk .any (joinSl b s1.sl s2.sl (s1.ls ++ s2.ls) s.sl) u)
    rw [lk_joinSl]
    split
    · rcases h0 with ⟨rfl, rfl, _⟩ | ⟨rfl, rfl, _⟩
      · exact joinV_true _ _
      · exact joinV_false _ _
    · rename_i hu
      rw [k3 u (fun h => hu (inls u h))]
      simp only [St.branch]
      rw [lk_put]
      simp only
      split
      · rename_i e; subst e; rw [ht]; exact fit_open b
      · exact Fit.refl _
  · obtain ⟨i1, i2⟩ := lk_joinHp b s1.hp s2.hp (s1.lr ++ s2.lr) s.hp n
    by_cases hn : n ∈ s1.lr ++ s2.lr
    · obtain ⟨r1, r2, hr1, hr2, hj⟩ := i2 hn r hr
      unfold joinRow at hj
      split at hj
      · rename_i c hc
        simp only [Option.some.injEq] at hj
        subst hj
        rcases h0 with ⟨rfl, rfl, _⟩ | ⟨rfl, rfl, _⟩
        · exact ⟨r1, hr1, joinPs_true hc, fun h => by simp only [Bool.or_eq_false_iff] at h; exact h.1⟩
        · exact ⟨r2, hr2, joinPs_false hc, fun h => by simp only [Bool.or_eq_false_iff] at h; exact h.2⟩
      · simp at hj
    · have hr' : lk? s.hp n = some r := by rw [← i1 hn]; exact hr
      refine ⟨r, ?_, FitL.refl _, id⟩
      rw [k4 n (fun h => hn (inlr n h))]
      exact hr'
  · show lk .any (joinSl b s1.sl s2.sl (s1.ls ++ s2.ls) s.sl) u = _
    rw [lk_joinSl, if_neg hu]
  · exact (lk_joinHp b s1.hp s2.hp (s1.lr ++ s2.lr) s.hp n).1 hn

theorem WidH.trans {h : HF} {h1 h2 : Heap} (a : WidH h h1) (b : WidH (lk? h1) h2) : WidH h h2 := by
  intro n r hr
  obtain ⟨q, hq, f1, o1⟩ := b n r hr
  obtain ⟨p, hp, f2, o2⟩ := a n q hq
  exact ⟨p, hp, f2.trans f1, fun h => o2 (o1 h)⟩

theorem joinB_false {c1 c2 : Bool} (h : joinB false c1 c2 = true) : c2 = true := by cases c1 <;> cases c2 <;> simp [joinB] at h ⊢
theorem joinB_true {c1 c2 : Bool} (h : joinB true c1 c2 = true) : c1 = true := by cases c1 <;> cases c2 <;> simp [joinB] at h ⊢

theorem xR_chain {P : Program} {σ : List (Nat × Sum)} {nt : Nat} {draw : Bool} {ops : List Oper} {base : Nat} : ∀ (os : List Oper) (j : Nat) (s : St) (trs : List Tr) (s' : St) (f : Nat → AVal),
    xR P σ nt draw ops base os j s trs = some (true, s') → (∀ t, Fit (f t) (lk .any s.sl t)) →
    ∃ es f1 h1, Chain P σ nt draw ops base os j f (lk? s.hp) es f1 h1 ∧ (draw = true → checkAll ops (trs.reverse ++ es.map fun (e : Ent) => e.tr) [] [] = true) ∧ (∀ t, Fit (f1 t) (lk .any s'.sl t)) ∧ WidH h1 s'.hp ∧ Trk s s'
  | [], j, s, trs, s', f, h, hf => by
    simp only [xR, Option.some.injEq, Prod.mk.injEq] at h
    obtain ⟨hc, rfl⟩ := h
    refine ⟨[], f, lk? s.hp, ⟨rfl, rfl, rfl⟩, fun hd => ?_, hf, WidH.refl _, Trk.refl s⟩
    subst hd
    simpa using hc
  | o :: os, j, s, trs, s', f, h, hf => by
    have go : ∀ (s0 s1 : St), (∀ t, Fit (f t) (lk .any s0.sl t)) → s0.hp = s.hp → goX (stepR P σ nt draw ops (base + 16 * j) o s0) (fun s t => xR P σ nt draw ops base os (j + 1) s (t :: trs)) = some (true, s1) →
        ∃ es f1 h1, Chain P σ nt draw ops base (o :: os) j f (lk? s.hp) es f1 h1 ∧ (draw = true → checkAll ops (trs.reverse ++ es.map fun (e : Ent) => e.tr) [] [] = true) ∧ (∀ t, Fit (f1 t) (lk .any s1.sl t)) ∧ WidH h1 s1.hp ∧ Trk s0 s1 := by
      intro s0 s1 hf0 hhp hgo
      unfold goX at hgo
      split at hgo
      · rename_i c s2 t hst
        split at hgo
        · rename_i d s3 hx
          simp only [Option.some.injEq, Prod.mk.injEq, Bool.and_eq_true] at hgo
          obtain ⟨⟨rfl, rfl⟩, rfl⟩ := hgo
          obtain ⟨e, e1, e2, e3, e4, e5, e6, e7⟩ := chain_of_step rfl hf0 hst
          have hf' : ∀ t, Fit (updF f o.dst e.v t) (lk .any s2.sl t) := by
            intro t
            rw [e3]
            cases o.dst with
            | none => exact hf0 t
            | some d => simp only [updF]; split <;> first | exact Fit.refl _ | exact hf0 t
          obtain ⟨es, f1, h1, c1, c2, c3, c4, c6⟩ := xR_chain os (j + 1) s2 (t :: trs) s3 _ hx hf'
          rw [hhp] at e2 e4
          rw [e4] at c1
          refine ⟨e :: es, f1, h1, ⟨e, es, rfl, e2, c1⟩, fun hd => ?_, c3, c4, ?_⟩
          · have := c2 hd
            simpa [e1] using this
          · refine Trk.trans ⟨o.dst.toList, keysOf e.us, e6, e7, fun t ht => ?_, fun n hn => ?_⟩ c6
            · rw [e3]
              cases hd : o.dst with
              | none => rfl
              | some d =>
                rw [hd] at ht
                simp at ht
                simp [updF, ht]
            · rw [e4, hhp, applyUps_ne hn]
        · simp at hgo
      · simp at hgo
    unfold xR at h
    split at h
    · exact go s s' hf rfl h
    · split at h
      · rename_i t ht
        split at h
        · exact go s s' hf rfl h
        · exact go s s' hf rfl h
        · rename_i b hb
          unfold joinO at h
          split at h
          · rename_i c1 s1 c2 s2 hx1 hx2
            simp only [Option.some.injEq, Prod.mk.injEq] at h
            obtain ⟨hc, rfl⟩ := h
            have hfb : ∀ v, b = v → ∀ u, Fit (f u) (lk .any (s.branch t v).sl u) := by
              intro v hv u
              subst hv
              simp only [St.branch]
              rw [lk_put]
              simp only
              split
              · rename_i e; subst e
                have := hf u
                rw [hb] at this
                exact this.trans (fit_lit b)
              · exact hf u
            cases hbv : b
            · rw [hbv] at hc
              have hc := joinB_false hc
              subst hc
              obtain ⟨es, f1, h1, q1, q2, q3, q4, q6⟩ := go (s.branch t false) s2 (hfb false hbv) rfl hx2
              obtain ⟨j1, j2, j3⟩ := join_fit hbv hb (s1 := s1) (s2 := s2) (s0 := s2) (sx := s1) (.inr ⟨rfl, rfl, rfl⟩) q6
              rw [hbv] at j1 j2 j3
              refine ⟨es, f1, h1, q1, q2, fun u => (q3 u).trans (j1 u), q4.trans j2, j3⟩
            · rw [hbv] at hc
              have hc := joinB_true hc
              subst hc
              obtain ⟨es, f1, h1, q1, q2, q3, q4, q6⟩ := go (s.branch t true) s1 (hfb true hbv) rfl hx1
              obtain ⟨j1, j2, j3⟩ := join_fit hbv hb (s1 := s1) (s2 := s2) (s0 := s1) (sx := s2) (.inl ⟨rfl, rfl, rfl⟩) q6
              rw [hbv] at j1 j2 j3
              refine ⟨es, f1, h1, q1, q2, fun u => (q3 u).trans (j1 u), q4.trans j2, j3⟩
          · simp at h
        · simp at h
      · simp at h

/-! ### One operation, carried out -/

structure Sit (F : Nat → Prop) (w0 : World) (nt : Nat) (L : Lo) (f : Nat → AVal) (h : HF) (a : Act) (w : World) : Prop where
  good : Good F w0 L h w
  slots : ∀ t, val L (f t) (a.tmps.getD t undef)
  size : a.tmps.size = nt
  defers : a.defers = []

section
variable {P : Program} {w w0 : World} {F : Nat → Prop} {L : Lo} {h : HF} {nt : Nat} {f : Nat → AVal} {a : Act}

theorem slots_put (hs : ∀ t, val L (f t) (a.tmps.getD t undef)) {d : Option Nat} {v : AVal} {v' : Value} (hd : okD a.tmps.size d = true) (hv : val L v v') :
    ∀ t, val L (updF f d v t) ((a.put d v').tmps.getD t undef) := by
  intro t
  cases d with
  | none => exact hs t
  | some d =>
    have hlt := blt_lt hd
    simp only [updF, Act.put]
    split
    · rename_i e; subst e
      simpa [hlt] using hv
    · rename_i e
      have := hs t
      simpa [Array.getElem?_setIfInBounds_ne (Ne.symm e)] using this

theorem put_size (a : Act) (d : Option Nat) (v : Value) : (a.put d v).tmps.size = a.tmps.size := by
  cases d <;> simp [Act.put]
theorem put_defers (a : Act) (d : Option Nat) (v : Value) : (a.put d v).defers = a.defers := by
  cases d <;> rfl

theorem op_step {σ : List (Nat × Sum)} (hσ : ∀ f s, lk? σ f = some s → SumOk P f s) (sit : Sit F w0 nt L f h a w) {H : Heap} (hsub : ∀ n q, lk? H n = some q → h n = some q) {fr : Nat} (hfr : ∀ n, fr ≤ n → n < fr + 16 → ¬ L.live n)
    {o : Oper} {f0 : Nat → AVal} (hf : ∀ t ∈ tmpsOf o.op.operands.toList, Fit (f t) (f0 t)) {v : AVal} {us : Ups} (he : opA P σ o.op (evF f0) H fr = some (true, v, us)) (hd : okD nt o.dst = true) {K : Act → World → Prop} {Q : Exit → Act → World → Prop}
    (hK : ∀ L' a' w', L.le L' → (∀ n, L'.live n → L.live n ∨ (fr ≤ n ∧ n < fr + 16)) → Sit F w0 nt L' (updF f o.dst v) (applyUps h us) a' w' → K a' w') : o.wp P a w K Q := by
  have hrun := opA_ok (F := F) (w0 := w0) hσ sit.good hsub hfr (o := o) (rho := a.eval) (r := evF f0) (evF_fit sit.slots hf) he
  have key : ∀ v' w', Post F w0 L h fr us v v' w' → K (a.put o.dst v') w' := by
    rintro v' w' ⟨L', p1, p2, p3, p4⟩
    refine hK L' _ _ p1 p2 ⟨p4, slots_put (fun t => val_mono p1 (sit.slots t)) (by rw [sit.size]; exact hd) p3, by rw [put_size, sit.size], by rw [put_defers, sit.defers]⟩
  unfold Oper.wp
  unfold OpRun at hrun
  generalize (execOp a.eval o).run P w = r at *
  split at hrun
  · exact key _ _ hrun
  · exact key _ _ hrun
  · refine Calls.mono hrun fun e w' he => ?_
    obtain ⟨v', rfl, hp⟩ := he
    exact key _ _ hp
  · exact hrun.elim

theorem wanted_of {ops : List Oper} {o : Oper} (hs : ∀ t, val L (f t) (a.tmps.getD t undef)) {b : Bool} (hg : guardOk ops f o b) : Region.wanted o (yielded ops.toArray a.tmps) = b := by
  unfold guardOk at hg
  unfold Region.wanted
  split at hg
  · rename_i hn; rw [hn]; simpa using hg.symm
  · rename_i g want hn
    rw [hn]
    simp only
    obtain ⟨t, ht, ⟨x, hx, rfl⟩ | ⟨hx, rfl⟩⟩ := hg
    · have hv := hx _ _ (hs t)
      simp only [val, val1, val0] at hv
      have hy : yielded ops.toArray a.tmps g = some x := by
        unfold yielded
        unfold dstAt at ht
        split at ht
        · rename_i og hog
          have h1 : ops.toArray[g]? = some og := by simpa using hog
          rw [h1]
          simp only [Option.bind_some]
          rw [ht]
          simp only [Option.bind_some]
          rcases Nat.lt_or_ge t a.tmps.size with hlt | hge
          · simp [hlt] at hv ⊢
            rw [hv]
          · simp [hge, undef] at hv
        · simp at ht
      rw [hy]
      cases x <;> cases want <;> rfl
    · have hv := hx _ _ (hs t)
      obtain ⟨vs, hvs, hv⟩ := hv
      have hvs : vs = [] := hvs
      subst hvs
      have hy : yielded ops.toArray a.tmps g = none := by
        unfold yielded
        unfold dstAt at ht
        split at ht
        · rename_i og hog
          have h1 : ops.toArray[g]? = some og := by simpa using hog
          rw [h1]
          simp only [Option.bind_some]
          rw [ht]
          simp only [Option.bind_some]
          rcases Nat.lt_or_ge t a.tmps.size with hlt | hge
          · simp [hlt] at hv ⊢
            rw [hv]
          · simp [hge]
        · simp at ht
      rw [hy]
      cases want <;> rfl

end
end Go.Bx

/-
  Regions: in the order of the text, and in whatever order.
-/
namespace Go.Bx

section
variable {P : Program} {w0 : World} {F : Nat → Prop} {nt : Nat} {σ : List (Nat × Sum)}

/-- The order of the text. -/
theorem seq_ok (hσ : ∀ f s, lk? σ f = some s → SumOk P f s) {ops : List Oper} {base : Nat} {Q : Exit → Act → World → Prop} {f' : Nat → AVal} {h' : HF} : ∀ (os : List Oper) (j : Nat) (f : Nat → AVal) (h : HF) (es : List Ent) (L : Lo) (a : Act) (w : World),
    (∀ i, os[i]? = ops[j + i]?) → Chain P σ nt false ops base os j f h es f' h' → Sit F w0 nt L f h a w → (∀ n, base + 16 * j ≤ n → ¬ L.live n) →
    (∀ L' a' w', L.le L' → Sit F w0 nt L' f' h' a' w' → (∀ n, base + 16 * (j + os.length) ≤ n → ¬ L'.live n) → Q .normal a' w') → wpOps P ops.toArray Q (List.range' j os.length) a w
  | [], j, f, h, es, L, a, w, _, hc, sit, hl, hK => by
    obtain ⟨_, rfl, rfl⟩ := hc
    exact hK L a w L.le_refl sit (by simpa using hl)
  | o :: os, j, f, h, es, L, a, w, hi, hc, sit, hl, hK => by
    obtain ⟨e, es', rfl, hent, hc⟩ := hc
    simp only [List.length_cons, List.range'_succ]
    rw [wpOps_cons]
    have ho : ops.toArray[j]? = some o := by have := hi 0; simpa using this.symm
    unfold wpOp
    rw [ho]
    simp only
    have next : ∀ L' a' w', L.le L' → (∀ n, L'.live n → L.live n ∨ (base + 16 * j ≤ n ∧ n < base + 16 * j + 16)) → Sit F w0 nt L' (updF f o.dst e.v) (applyUps h e.us) a' w' → wpOps P ops.toArray Q (List.range' (j + 1) os.length) a' w' := by
      intro L' a' w' p1 p2 p3
      refine seq_ok hσ os (j + 1) _ _ es' L' a' w' (fun i => by have := hi (i + 1); simpa [Nat.add_assoc, Nat.add_comm 1 i] using this) hc p3 ?_ ?_
      · intro n hn hlv
        rcases p2 n hlv with h1 | h1
        · exact hl n (by omega) h1
        · omega
      · intro L2 a2 w2 q1 q2 q3
        refine hK L2 a2 w2 (Lo.le_trans p1 q1) q2 (fun n hn => q3 n ?_)
        simp only [List.length_cons] at hn; omega
    obtain ⟨hd, hent | hent⟩ := hent
    · obtain ⟨hg, f0, H, hf0, hsub, hop, _⟩ := hent
      rw [wanted_of sit.slots hg]
      simp only [if_true]
      exact .inl (op_step hσ sit hsub (fun n h1 h2 => hl n h1) hf0 hop hd next)
    · obtain ⟨hg, hv, hus, _⟩ := hent
      rw [wanted_of sit.slots hg]
      simp only [Bool.false_eq_true, if_false]
      refine next L _ w L.le_refl (fun n hn => .inl hn) ⟨by rw [hus]; exact sit.good, ?_, by rw [put_size, sit.size], by rw [put_defers, sit.defers]⟩
      rw [hv]
      exact slots_put sit.slots (by rw [sit.size]; exact hd) ⟨[], rfl, rfl⟩

/-! ### Folds over those that have come up -/

noncomputable def foldS (l : Nat → Bool) : List Oper → List Ent → Nat → (Nat → AVal) → (Nat → AVal)
  | o :: os, e :: es, j, f => foldS l os es (j + 1) (if l j then updF f o.dst e.v else f)
  | _, _, _, f => f

def foldH (l : Nat → Bool) : List Ent → Nat → HF → HF
  | e :: es, j, h => foldH l es (j + 1) (if l j then applyUps h e.us else h)
  | _, _, h => h

theorem updF_ne {f : Nat → AVal} {d : Option Nat} {v : AVal} {t : Nat} (h : d ≠ some t) : updF f d v t = f t := by
  cases d with
  | none => rfl
  | some u => simp only [updF]; split <;> rename_i e <;> first | rfl | (exact absurd (congrArg some e.symm) h)

theorem updF_congr {f f' : Nat → AVal} {d : Option Nat} {v : AVal} {t : Nat} (h : f t = f' t) : updF f d v t = updF f' d v t := by
  cases d with
  | none => exact h
  | some u => simp only [updF]; split <;> first | rfl | exact h

theorem foldS_congr {l l' : Nat → Bool} {t : Nat} : ∀ (os : List Oper) (es : List Ent) (j : Nat) (f f' : Nat → AVal), f t = f' t → (∀ k o, os[k]? = some o → o.dst = some t → l (j + k) = l' (j + k)) → foldS l os es j f t = foldS l' os es j f' t
  | [], es, j, f, f', hf, _ => by simpa [foldS] using hf
  | o :: os, [], j, f, f', hf, _ => by simpa [foldS] using hf
  | o :: os, e :: es, j, f, f', hf, hl => by
    simp only [foldS]
    refine foldS_congr os es (j + 1) _ _ ?_ (fun k o' hk hd => by have := hl (k + 1) o' (by simpa using hk) hd; simpa [Nat.add_assoc, Nat.add_comm 1 k] using this)
    by_cases hd : o.dst = some t
    · have := hl 0 o (by simp) hd
      simp only [Nat.add_zero] at this
      rw [this]
      split
      · exact updF_congr hf
      · exact hf
    · have e1 : ∀ f : Nat → AVal, updF f o.dst e.v t = f t := fun f => updF_ne hd
      split <;> split <;> simp [e1, hf]

theorem applyUps_congr {n : Nat} : ∀ {us : Ups} {h h' : HF}, h n = h' n → applyUps h us n = applyUps h' us n
  | [], _, _, e => e
  | (k, r) :: us, h, h', e => by
    simp only [applyUps]
    exact applyUps_congr (by simp only [updH]; split <;> first | rfl | exact e)

theorem applyUps_mem {n : Nat} : ∀ {us : Ups} {h h' : HF}, n ∈ keysOf us → applyUps h us n = applyUps h' us n
  | [], _, _, e => by simp [keysOf] at e
  | (k, r) :: us, h, h', e => by
    simp only [applyUps]
    by_cases hm : n ∈ keysOf us
    · exact applyUps_mem hm
    · simp only [keysOf, List.mem_cons] at e
      have hk := e.resolve_right hm
      subst hk
      exact applyUps_congr (by simp [updH])

theorem foldH_congr {l l' : Nat → Bool} {n : Nat} : ∀ (es : List Ent) (j : Nat) (h h' : HF), h n = h' n → (∀ k e, es[k]? = some e → n ∈ keysOf e.us → l (j + k) = l' (j + k)) → foldH l es j h n = foldH l' es j h' n
  | [], j, h, h', hh, _ => by simpa [foldH] using hh
  | e :: es, j, h, h', hh, hl => by
    simp only [foldH]
    refine foldH_congr es (j + 1) _ _ ?_ (fun k o' hk hd => by have := hl (k + 1) o' (by simpa using hk) hd; simpa [Nat.add_assoc, Nat.add_comm 1 k] using this)
    by_cases hd : n ∈ keysOf e.us
    · have := hl 0 e (by simp) hd
      simp only [Nat.add_zero] at this
      rw [this]
      split
      · exact applyUps_congr hh
      · exact hh
    · split <;> split <;> simp [applyUps_ne hd, hh]

/-- One put more, ahead of all that do not touch it. -/
theorem foldS_put {l : Nat → Bool} {d : Option Nat} {v : AVal} : ∀ (os : List Oper) (es : List Ent) (j : Nat) (f : Nat → AVal), (∀ k o, os[k]? = some o → l (j + k) = true → ∀ t, d = some t → o.dst ≠ some t) →
    foldS l os es j (updF f d v) = updF (foldS l os es j f) d v
  | [], es, j, f, _ => by simp [foldS]
  | o :: os, [], j, f, _ => by simp [foldS]
  | o :: os, e :: es, j, f, hl => by
    simp only [foldS]
    have h1 : (if l j then updF (updF f d v) o.dst e.v else updF f d v) = updF (if l j then updF f o.dst e.v else f) d v := by
      split
      · rename_i hlj
        have hne := hl 0 o (by simp) (by simpa using hlj)
        funext u
        cases d with
        | none => rfl
        | some t =>
          have hne := hne t rfl
          by_cases hu : u = t
          · subst hu
            rw [updF_ne hne]; simp [updF]
          · have e1 : ∀ g : Nat → AVal, updF g (some t) v u = g u := fun g => by simp [updF, hu]
            rw [e1]
            exact updF_congr (e1 _)
      · rfl
    rw [h1]
    exact foldS_put os es (j + 1) _ (fun k o' hk hlk => hl (k + 1) o' (by simpa using hk) (by simpa [Nat.add_assoc, Nat.add_comm 1 k] using hlk))

theorem foldH_ups {l : Nat → Bool} {us : Ups} : ∀ (es : List Ent) (j : Nat) (h : HF), (∀ k e, es[k]? = some e → l (j + k) = true → ∀ n ∈ keysOf us, n ∉ keysOf e.us) →
    foldH l es j (applyUps h us) = applyUps (foldH l es j h) us
  | [], j, h, _ => by simp [foldH]
  | e :: es, j, h, hl => by
    simp only [foldH]
    have h1 : (if l j then applyUps (applyUps h us) e.us else applyUps h us) = applyUps (if l j then applyUps h e.us else h) us := by
      split
      · rename_i hlj
        have hne := hl 0 e (by simp) (by simpa using hlj)
        funext n
        by_cases hn : n ∈ keysOf us
        · rw [applyUps_ne (hne n hn)]
          exact applyUps_mem hn
        · rw [applyUps_ne (us := us) hn]
          exact applyUps_congr (applyUps_ne hn)
      · rfl
    rw [h1]
    exact foldH_ups es (j + 1) _ (fun k o' hk hlk => hl (k + 1) o' (by simpa using hk) (by simpa [Nat.add_assoc, Nat.add_comm 1 k] using hlk))

theorem foldS_ext {l l' : Nat → Bool} : ∀ (os : List Oper) (es : List Ent) (j : Nat) (f : Nat → AVal), (∀ k, k < os.length → l (j + k) = l' (j + k)) → foldS l os es j f = foldS l' os es j f := by
  intro os es j f hl
  funext t
  refine foldS_congr os es j f f rfl (fun k o hk _ => hl k ?_)
  rcases Nat.lt_or_ge k os.length with h | h
  · exact h
  · rw [List.getElem?_eq_none h] at hk; simp at hk

theorem foldH_ext {l l' : Nat → Bool} : ∀ (es : List Ent) (j : Nat) (h : HF), (∀ k, k < es.length → l (j + k) = l' (j + k)) → foldH l es j h = foldH l' es j h := by
  intro es j h hl
  funext t
  refine foldH_congr es j h h rfl (fun k o hk _ => hl k ?_)
  rcases Nat.lt_or_ge k es.length with h | h
  · exact h
  · rw [List.getElem?_eq_none h] at hk; simp at hk

/-- Number `i` more. -/
theorem foldS_add {l l' : Nat → Bool} {i : Nat} {oi : Oper} {ei : Ent} : ∀ (os : List Oper) (es : List Ent) (j : Nat) (f : Nat → AVal) (m : Nat), i = j + m → os[m]? = some oi → es[m]? = some ei → l i = false → (∀ k, l' k = (l k || k == i)) →
    (∀ k o, os[k]? = some o → i < j + k → l (j + k) = true → ∀ t, oi.dst = some t → o.dst ≠ some t) →
    foldS l' os es j f = updF (foldS l os es j f) oi.dst ei.v
  | [], es, j, f, m, _, ho, _, _, _, _ => by simp at ho
  | o :: os, [], j, f, m, _, _, he, _, _, _ => by simp at he
  | o :: os, e :: es, j, f, m, hi, ho, he, hl, hl', hne => by
    simp only [foldS]
    cases m with
    | zero =>
      simp only [List.getElem?_cons_zero, Option.some.injEq] at ho he
      subst ho; subst he
      have hij : i = j := by omega
      subst hij
      have h1 : l' i = true := by simp [hl']
      rw [h1, hl]
      simp only [if_true, Bool.false_eq_true, if_false]
      rw [foldS_ext (l := l') (l' := l) os es (i + 1) _ (fun k _ => by rw [hl']; have : (i + 1 + k == i) = false := by simp; omega
                                                                       rw [this]; simp)]
      exact foldS_put os es (i + 1) f (fun k o' hk hlk => hne (k + 1) o' (by simpa using hk) (by omega) (by simpa [Nat.add_assoc, Nat.add_comm 1 k] using hlk))
    | succ m =>
      have h1 : l' j = l j := by
        rw [hl']
        have : (j == i) = false := by simp; omega
        simp [this]
      rw [h1]
      exact foldS_add os es (j + 1) _ m (by omega) (by simpa using ho) (by simpa using he) hl hl' (fun k o' hk hik hlk => hne (k + 1) o' (by simpa using hk) (by omega) (by simpa [Nat.add_assoc, Nat.add_comm 1 k] using hlk))

theorem foldH_add {l l' : Nat → Bool} {i : Nat} {ei : Ent} : ∀ (es : List Ent) (j : Nat) (h : HF) (m : Nat), i = j + m → es[m]? = some ei → l i = false → (∀ k, l' k = (l k || k == i)) →
    (∀ k e, es[k]? = some e → i < j + k → l (j + k) = true → ∀ n ∈ keysOf ei.us, n ∉ keysOf e.us) →
    foldH l' es j h = applyUps (foldH l es j h) ei.us
  | [], j, f, m, _, he, _, _, _ => by simp at he
  | e :: es, j, f, m, hi, he, hl, hl', hne => by
    simp only [foldH]
    cases m with
    | zero =>
      simp only [List.getElem?_cons_zero, Option.some.injEq] at he
      subst he
      have hij : i = j := by omega
      subst hij
      have h1 : l' i = true := by simp [hl']
      rw [h1, hl]
      simp only [if_true, Bool.false_eq_true, if_false]
      rw [foldH_ext (l := l') (l' := l) es (i + 1) _ (fun k _ => by rw [hl']; have : (i + 1 + k == i) = false := by simp; omega
                                                                    rw [this]; simp)]
      exact foldH_ups es (i + 1) f (fun k o' hk hlk => hne (k + 1) o' (by simpa using hk) (by omega) (by simpa [Nat.add_assoc, Nat.add_comm 1 k] using hlk))
    | succ m =>
      have h1 : l' j = l j := by
        rw [hl']
        have : (j == i) = false := by simp; omega
        simp [this]
      rw [h1]
      exact foldH_add es (j + 1) _ m (by omega) (by simpa using he) hl hl' (fun k o' hk hik hlk => hne (k + 1) o' (by simpa using hk) (by omega) (by simpa [Nat.add_assoc, Nat.add_comm 1 k] using hlk))

theorem foldS_none : ∀ (os : List Oper) (es : List Ent) (j : Nat) (f : Nat → AVal), foldS (fun _ => false) os es j f = f
  | [], _, _, _ => by simp [foldS]
  | _ :: _, [], _, _ => by simp [foldS]
  | o :: os, e :: es, j, f => by simp only [foldS, Bool.false_eq_true, if_false]; exact foldS_none os es (j + 1) f

theorem foldH_none : ∀ (es : List Ent) (j : Nat) (h : HF), foldH (fun _ => false) es j h = h
  | [], _, _ => by simp [foldH]
  | e :: es, j, h => by simp only [foldH, Bool.false_eq_true, if_false]; exact foldH_none es (j + 1) h

/-- The entry of each operation, over the state of the text's order. -/
theorem chain_at {draw : Bool} {ops : List Oper} {base : Nat} {f' : Nat → AVal} {h' : HF} : ∀ (os : List Oper) (j : Nat) (f : Nat → AVal) (h : HF) (es : List Ent), Chain P σ nt draw ops base os j f h es f' h' →
    es.length = os.length ∧ (∀ l : Nat → Bool, (∀ k, k < os.length → l (j + k) = true) → f' = foldS l os es j f ∧ h' = foldH l es j h) ∧
    ∀ k o, os[k]? = some o → ∃ e, es[k]? = some e ∧ EntOk P σ nt draw ops base o (j + k) (foldS (fun i => Nat.blt i (j + k)) os es j f) (foldH (fun i => Nat.blt i (j + k)) es j h) e
  | [], j, f, h, es, hc => by
    obtain ⟨rfl, rfl, rfl⟩ := hc
    exact ⟨rfl, fun l _ => ⟨by simp [foldS], by simp [foldH]⟩, fun k o hk => by simp at hk⟩
  | o :: os, j, f, h, es, hc => by
    obtain ⟨e, es', rfl, hent, hc⟩ := hc
    obtain ⟨i1, i2, i3⟩ := chain_at os (j + 1) _ _ es' hc
    refine ⟨by simp [i1], fun l hl => ?_, fun k o' hk => ?_⟩
    · have := i2 l (fun k hk => by have := hl (k + 1) (by simpa using hk); simpa [Nat.add_assoc, Nat.add_comm 1 k] using this)
      have hj := hl 0 (by simp)
      simp only [Nat.add_zero] at hj
      simp only [foldS, foldH, hj, if_true]
      exact this
    · cases k with
      | zero =>
        simp only [List.getElem?_cons_zero, Option.some.injEq] at hk
        subst hk
        refine ⟨e, rfl, ?_⟩
        have hb : ∀ k, Nat.blt (j + k) (j + 0) = false := fun k => by
          cases hh : Nat.blt (j + k) (j + 0)
          · rfl
          · have := blt_lt hh; omega
        have e1 : foldS (fun i => Nat.blt i (j + 0)) (o :: os) (e :: es') j f = f := by
          rw [foldS_ext (l' := fun _ => false) _ _ _ _ (fun k _ => hb k)]
          exact foldS_none _ _ _ _
        have e2 : foldH (fun i => Nat.blt i (j + 0)) (e :: es') j h = h := by
          rw [foldH_ext (l' := fun _ => false) _ _ _ (fun k _ => hb k)]
          exact foldH_none _ _ _
        rw [e1, e2]
        exact hent
      | succ k =>
        obtain ⟨e', h1, h2⟩ := i3 k o' (by simpa using hk)
        refine ⟨e', by simpa using h1, ?_⟩
        have hj : Nat.blt j (j + (k + 1)) = true := by simp
        simp only [foldS, foldH, hj, if_true]
        have ea : j + 1 + k = j + (k + 1) := by omega
        rw [ea] at h2
        exact h2

end
end Go.Bx

/-
  Regions in whatever order.
-/
namespace Go.Bx

/-- Those that operation `o` waits for have come up. -/
def ReadyF (l : Nat → Bool) (o : Oper) : Prop := ∀ e ∈ o.after.toList, Region.binds .any e = true → l e.on = true

def ClosedF (ops : List Oper) (l : Nat → Bool) : Prop := ∀ i o, ops[i]? = some o → l i = true → ReadyF l o

/-- The bits of `a` are operations that have come up wherever the operation `i` may. -/
def AncOk (ops : List Oper) (i : Nat) (a : Nat) : Prop := ∀ l, ClosedF ops l → (∀ o, ops[i]? = some o → ReadyF l o) → ∀ j, Nat.testBit a j = true → l j = true

theorem ancOf_ok {ops : List Oper} {acc : List Nat} (hacc : ∀ k, k < acc.length → AncOk ops k (acc.getD (acc.length - 1 - k) 0)) {l : Nat → Bool} (hl : ClosedF ops l) :
    ∀ (es : List Edge), (∀ e ∈ es, Region.binds .any e = true → l e.on = true) → ∀ j, Nat.testBit (ancOf acc es) j = true → l j = true
  | [], _, j, h => by simp [ancOf] at h
  | e :: es, hes, j, h => by
    simp only [ancOf, Nat.testBit_or, Bool.or_eq_true] at h
    rcases h with h | h
    · cases hc : (Region.binds .any e && Nat.blt e.on acc.length) <;> rw [hc] at h <;> simp only [cond_false, cond_true] at h
      · simp at h
      · simp only [Bool.and_eq_true] at hc
        have hon := hes e (List.mem_cons_self ..) hc.1
        simp only [Nat.testBit_or, Bool.or_eq_true] at h
        rcases h with h | h
        · rw [Nat.testBit_two_pow] at h
          have : e.on = j := by simpa using h
          rw [← this]; exact hon
        · exact hacc e.on (blt_lt hc.2) l hl (fun o ho => hl e.on o ho hon) j h
    · exact ancOf_ok hacc hl es (fun e' he' => hes e' (List.mem_cons_of_mem _ he')) j h

theorem backAll_ok {n : Nat} : ∀ {es : List Edge}, backAll n es = true → ∀ e ∈ es, Region.binds .any e = true → e.on < n
  | [], _, e, he, _ => by simp at he
  | x :: es, h, e, he, hb => by
    simp only [backAll, Bool.and_eq_true, Bool.or_eq_true, Bool.not_eq_true'] at h
    rcases List.mem_cons.1 he with rfl | he
    · rcases h.1 with h1 | h1
      · rw [h1] at hb; simp at hb
      · exact blt_lt h1
    · exact backAll_ok h.2 e he hb

theorem indepAll_ok {anc : Nat} {t : Tr} : ∀ {prev : List Tr}, indepAll anc t prev = true → ∀ j, j < prev.length → ∀ u, prev[prev.length - 1 - j]? = some u → Nat.testBit anc j = true ∨ indep u t = true
  | [], _, j, hj, _, _ => by simp at hj
  | x :: prev, h, j, hj, u, hu => by
    simp only [indepAll, Bool.and_eq_true, Bool.or_eq_true] at h
    simp only [List.length_cons] at hj hu
    by_cases e : j = prev.length
    · subst e
      have : prev.length + 1 - 1 - prev.length = 0 := by omega
      rw [this] at hu
      simp only [List.getElem?_cons_zero, Option.some.injEq] at hu
      subst hu
      exact h.1
    · have : prev.length + 1 - 1 - j = (prev.length - 1 - j) + 1 := by omega
      rw [this] at hu
      exact indepAll_ok h.2 j (by omega) u (by simpa using hu)

/-- What the check says. -/
theorem checkAll_ok {ops : List Oper} : ∀ (os : List Oper) (ts : List Tr) (acc : List Nat) (prev : List Tr), checkAll os ts acc prev = true → prev.length = acc.length → (∀ i, os[i]? = ops[acc.length + i]?) →
    (∀ k, k < acc.length → AncOk ops k (acc.getD (acc.length - 1 - k) 0)) →
    (∀ k o, os[k]? = some o → ∀ e ∈ o.after.toList, Region.binds .any e = true → e.on < acc.length + k) ∧
    (∀ k t, ts[k]? = some t → ∀ j u, j < acc.length + k → (prev.reverse ++ ts)[j]? = some u → (∀ l, ClosedF ops l → (∀ o, ops[acc.length + k]? = some o → ReadyF l o) → l j = true) ∨ indep u t = true)
  | [], [], _, _, _, _, _, _ => ⟨fun k o hk => by simp at hk, fun k t hk => by simp at hk⟩
  | [], _ :: _, _, _, h, _, _, _ => by simp [checkAll] at h
  | _ :: _, [], _, _, h, _, _, _ => by simp [checkAll] at h
  | o :: os, t :: ts, acc, prev, h, hlen, hops, hacc => by
    simp only [checkAll, Bool.and_eq_true] at h
    obtain ⟨⟨hb, hi⟩, hc⟩ := h
    have ho : ops[acc.length]? = some o := by have := hops 0; simpa using this.symm
    have hanc : AncOk ops acc.length (ancOf acc o.after.toList) := by
      intro l hl hr j hj
      exact ancOf_ok hacc hl _ (hr o ho) j hj
    obtain ⟨r1, r2⟩ := checkAll_ok (ops := ops) os ts (ancOf acc o.after.toList :: acc) (t :: prev) hc (by simp [hlen]) (fun i => by have := hops (i + 1); simpa [Nat.add_assoc, Nat.add_comm 1 i] using this) (by
      intro k hk
      simp only [List.length_cons] at hk ⊢
      by_cases e : k = acc.length
      · subst e
        have : acc.length + 1 - 1 - acc.length = 0 := by omega
        rw [this]; exact hanc
      · have e2 : acc.length + 1 - 1 - k = (acc.length - 1 - k) + 1 := by omega
        rw [e2]
        simpa using hacc k (by omega))
    refine ⟨fun k o' hk => ?_, fun k t' hk j u hj hu => ?_⟩
    · cases k with
      | zero =>
        simp only [List.getElem?_cons_zero, Option.some.injEq] at hk
        subst hk
        exact backAll_ok hb
      | succ k =>
        have := r1 k o' (by simpa using hk)
        simpa [Nat.add_assoc, Nat.add_comm 1 k] using this
    · cases k with
      | zero =>
        simp only [List.getElem?_cons_zero, Option.some.injEq] at hk
        subst hk
        rw [Nat.add_zero] at hj ⊢
        rw [List.getElem?_append_left (by simp [hlen]; omega), List.getElem?_reverse (by omega)] at hu
        rcases indepAll_ok hi j (by omega) u hu with h1 | h1
        · exact .inl fun l hl hr => hanc l hl hr j h1
        · exact .inr h1
      | succ k =>
        have := r2 k t' (by simpa using hk) j u (by simp only [List.length_cons]; omega) (by simpa using hu)
        simpa [Nat.add_assoc, Nat.add_comm 1 k] using this

theorem mem_spec {n : Nat} : ∀ {l : List Nat}, mem n l = true ↔ n ∈ l
  | [] => by simp [mem]
  | k :: l => by
    simp only [mem, Bool.or_eq_true, List.mem_cons, mem_spec (l := l)]
    constructor
    · rintro (h | h)
      · exact .inl (beq_eq' h).symm
      · exact .inr h
    · rintro (h | h)
      · exact .inl (by subst h; simp)
      · exact .inr h

theorem disj_spec : ∀ {l m : List Nat}, disj l m = true → ∀ n ∈ l, n ∉ m
  | [], _, _, n, hn => by simp at hn
  | k :: l, m, h, n, hn => by
    simp only [disj, Bool.and_eq_true, Bool.not_eq_true'] at h
    rcases List.mem_cons.1 hn with rfl | hn
    · intro hm
      have := mem_spec.2 hm
      rw [h.1] at this; simp at this
    · exact disj_spec h.2 n hn

structure Indep (a b : Tr) : Prop where
  d1 : ∀ t, a.dst = some t → t ∉ b.reads
  d2 : ∀ t, a.dst = some t → b.dst ≠ some t
  d3 : ∀ t, b.dst = some t → t ∉ a.reads
  h1 : ∀ n ∈ a.wrote, n ∉ b.foot
  h2 : ∀ n ∈ b.wrote, n ∉ a.foot
  h3 : ∀ n ∈ a.wrote, n ∉ b.wrote

theorem indep_spec {a b : Tr} (h : indep a b = true) : Indep a b := by
  unfold indep at h
  simp only [Bool.and_eq_true] at h
  obtain ⟨⟨⟨⟨h1, h2⟩, h3⟩, h4⟩, h5⟩ := h
  have key : ∀ t, a.dst = some t → t ∉ b.reads ∧ b.dst ≠ some t := by
    intro t ht
    rw [ht] at h1
    simp only [Bool.and_eq_true, Bool.not_eq_true'] at h1
    refine ⟨fun hm => by have := mem_spec.2 hm; rw [h1.1] at this; simp at this, fun e => ?_⟩
    rw [e] at h1
    simp at h1
  refine ⟨fun t ht => (key t ht).1, fun t ht => (key t ht).2, fun t ht hm => ?_, disj_spec h3, disj_spec h4, disj_spec h5⟩
  rw [ht] at h2
  simp only [Bool.not_eq_true'] at h2
  have := mem_spec.2 hm
  rw [h2] at this; simp at this

section
variable {P : Program} {w0 : World} {F : Nat → Prop} {nt : Nat} {σ : List (Nat × Sum)}

theorem keysOf_mem {H : Heap} {n : Nat} {q : Row} (h : lk? H n = some q) : n ∈ keysOf H := by
  induction H with
  | nil => simp [lk?_nil] at h
  | cons p l ih =>
    rw [lk?_cons] at h
    simp only [keysOf, List.mem_cons]
    split at h
    · rename_i e; exact .inl e.symm
    · exact .inr (ih h)

/-- How many have not come up. -/
def unl : List Bool → Nat
  | [] => 0
  | b :: l => (if b then 0 else 1) + unl l

theorem unl_set : ∀ (l : List Bool) (i : Nat), l[i]? = some false → unl (l.set i true) + 1 = unl l
  | [], _, h => by simp at h
  | b :: l, 0, h => by simp at h; subst h; simp [unl]; omega
  | b :: l, i + 1, h => by
    have := unl_set l i (by simpa using h)
    simp only [List.set_cons_succ, unl]; omega

theorem unl_zero : ∀ {l : List Bool}, unl l = 0 → ∀ i, i < l.length → l[i]? = some true
  | [], _, i, h => by simp at h
  | b :: l, h, i, hi => by
    simp only [unl] at h
    cases b
    · simp at h
    · cases i with
      | zero => rfl
      | succ i => simpa using unl_zero (l := l) (by simpa using h) i (by simpa using hi)

theorem unl_rep : ∀ n, unl (List.replicate n false) = n
  | 0 => rfl
  | n + 1 => by simp [List.replicate_succ, unl, unl_rep n]; omega

theorem draw_ok (hσ : ∀ f s, lk? σ f = some s → SumOk P f s) {ops : List Oper} {base : Nat} {Q : Exit → Act → World → Prop} {f f' : Nat → AVal} {h h' : HF} {es : List Ent} {L0 : Lo}
    (hc : Chain P σ nt true ops base ops 0 f h es f' h') (hck : checkAll ops (es.map (·.tr)) [] [] = true)
    (hK : ∀ L' a' w', L0.le L' → Sit F w0 nt L' f' h' a' w' → (∀ n, base + 16 * ops.length ≤ n → ¬ L'.live n) → Q .normal a' w') :
    ∀ (fuel : Nat) (listed : Array Bool) (a : Act) (w : World) (L : Lo), listed.size = ops.length → unl listed.toList ≤ fuel → L0.le L →
      Sit F w0 nt L (foldS (fun i => listed.getD i false) ops es 0 f) (foldH (fun i => listed.getD i false) es 0 h) a w → ClosedF ops (fun i => listed.getD i false) →
      (∀ n, L.live n → base ≤ n → ∃ j, j < ops.length ∧ listed.getD j false = true ∧ base + 16 * j ≤ n ∧ n < base + 16 * j + 16) →
      wpAny P .any ops.toArray Q fuel listed a w := by
  obtain ⟨c1, c2, c3⟩ := chain_at ops 0 f h es hc
  obtain ⟨k1, k2⟩ := checkAll_ok (ops := ops) ops (es.map (·.tr)) [] [] hck rfl (fun i => by simp) (fun k hk => by simp at hk)
  simp only [List.length_nil, Nat.zero_add] at k1 k2 c2 c3
  -- when all have come up
  have done : ∀ (listed : Array Bool) (a : Act) (w : World) (L : Lo), listed.size = ops.length → (∀ i, i < ops.length → listed.getD i false = true) → L0.le L →
      Sit F w0 nt L (foldS (fun i => listed.getD i false) ops es 0 f) (foldH (fun i => listed.getD i false) es 0 h) a w →
      (∀ n, L.live n → base ≤ n → ∃ j, j < ops.length ∧ listed.getD j false = true ∧ base + 16 * j ≤ n ∧ n < base + 16 * j + 16) → Q .normal a w := by
    intro listed a w L hsz hall hle sit hlive
    obtain ⟨q1, q2⟩ := c2 (fun i => listed.getD i false) hall
    rw [← q1, ← q2] at sit
    refine hK L a w hle sit (fun n hn hlv => ?_)
    obtain ⟨j, j1, _, j3, j4⟩ := hlive n hlv (by omega)
    omega
  -- whoever waits for nobody that is missing is ready
  have stuck : ∀ (listed : Array Bool), listed.size = ops.length → Region.ready .any ops.toArray listed = [] → ∀ i, i < ops.length → listed.getD i false = true := by
    intro listed hsz hr i
    induction i using Nat.strongRecOn with
    | _ i ih =>
      intro hi
      have ho : ops[i]? = some ops[i] := List.getElem?_eq_getElem hi
      cases hli : listed.getD i false with
      | true => rfl
      | false =>
        have : i ∈ Region.ready .any ops.toArray listed := by
          rw [mem_ready]
          refine ⟨?_, ops[i], by simp, fun e he hb => ?_⟩
          · have hlt : i < listed.size := by omega
            simp [hlt] at hli ⊢; exact hli
          · have := k1 i _ ho e (by simpa using he) hb
            exact ih e.on this (by omega)
        rw [hr] at this; simp at this
  intro fuel
  induction fuel with
  | zero =>
    intro listed a w L hsz hu hle sit hcl hlive
    have hall : ∀ i, i < ops.length → listed.getD i false = true := by
      intro i hi
      have := unl_zero (l := listed.toList) (by omega) i (by simp; omega)
      have hlt : i < listed.size := by omega
      simp [hlt] at this ⊢; exact this
    refine ⟨?_, done listed a w L hsz hall hle sit hlive⟩
    cases hr : Region.ready .any ops.toArray listed with
    | nil => rfl
    | cons i rs =>
      have : i ∈ Region.ready .any ops.toArray listed := by rw [hr]; simp
      rw [mem_ready] at this
      obtain ⟨h1, o, ho, _⟩ := this
      have hi : i < ops.length := by
        rcases Nat.lt_or_ge i ops.length with h | h
        · exact h
        · simp [h] at ho
      have h2 := hall i hi
      have hlt : i < listed.size := by omega
      simp [hlt] at h1 h2
      rw [h1] at h2; simp at h2
  | succ fuel ih =>
    intro listed a w L hsz hu hle sit hcl hlive
    refine ⟨fun hr => done listed a w L hsz (stuck listed hsz hr) hle sit hlive, fun i hi => ?_⟩
    rw [mem_ready] at hi
    obtain ⟨hil, o, ho, haft⟩ := hi
    have ho' : ops[i]? = some o := by simpa using ho
    have hilt : i < ops.length := by
      rcases Nat.lt_or_ge i ops.length with h | h
      · exact h
      · rw [List.getElem?_eq_none h] at ho'; simp at ho'
    have hlt : i < listed.size := by omega
    have hil' : listed.getD i false = false := by simp [hlt] at hil ⊢; exact hil
    have hready : ReadyF (fun i => listed.getD i false) o := fun e he hb => haft e (by simpa using he) hb
    obtain ⟨e, he, hent⟩ := c3 i o ho'
    have htr : (es.map (·.tr))[i]? = some e.tr := by simp [he]
    -- those that have not come up and stand ahead, and those that have and stand behind
    have ahead : ∀ (j : Nat) (o' : Oper) (e' : Ent), ops[j]? = some o' → es[j]? = some e' → j < i → listed.getD j false = false → Indep e'.tr e.tr := by
      intro j o' e' hj he' hji hlj
      rcases k2 i e.tr htr j e'.tr hji (by simp [he']) with q | q
      · have := q (fun i => listed.getD i false) hcl (fun o2 ho2 => by rw [ho'] at ho2; cases ho2; exact hready)
        rw [hlj] at this; simp at this
      · exact indep_spec q
    have behind : ∀ (j : Nat) (o' : Oper) (e' : Ent), ops[j]? = some o' → es[j]? = some e' → i < j → listed.getD j false = true → Indep e.tr e'.tr := by
      intro j o' e' hj he' hij hlj
      rcases k2 j e'.tr (by simp [he']) i e.tr hij (by simp [he]) with q | q
      · have := q (fun i => listed.getD i false) hcl (fun o2 ho2 => by rw [hj] at ho2; cases ho2; exact hcl j o' hj hlj)
        rw [hil'] at this; simp at this
      · exact indep_spec q
    have entDst : ∀ (j : Nat) (o' : Oper) (e' : Ent), ops[j]? = some o' → es[j]? = some e' → e'.tr.dst = o'.dst ∧ (∀ n ∈ keysOf e'.us, n ∈ e'.tr.wrote) := by
      intro j o' e' hj he'
      obtain ⟨e2, h2, h3⟩ := c3 j o' hj
      rw [he'] at h2; cases h2
      obtain ⟨_, h3 | h3⟩ := h3
      · obtain ⟨_, _, H, _, _, _, h4⟩ := h3
        rw [h4 rfl]; exact ⟨rfl, fun n hn => hn⟩
      · obtain ⟨_, _, h5, h4⟩ := h3
        rw [h4 rfl, h5]; exact ⟨rfl, fun n hn => by simp [keysOf] at hn⟩
    have hEx : ∀ j o', ops[j]? = some o' → ∃ e', es[j]? = some e' := fun j o' hj => by
      obtain ⟨e', h', _⟩ := c3 j o' hj; exact ⟨e', h'⟩
    -- what is read is as it was
    have slotEq : ∀ t, t ∈ e.tr.reads → foldS (fun k => Nat.blt k i) ops es 0 f t = foldS (fun k => listed.getD k false) ops es 0 f t := by
      intro t ht
      refine foldS_congr ops es 0 f f rfl (fun k o' hk hd => ?_)
      simp only [Nat.zero_add]
      obtain ⟨e', he'⟩ := hEx k o' hk
      have hdst := (entDst k o' e' hk he').1
      rcases Nat.lt_trichotomy k i with hki | hki | hki
      · have hb : Nat.blt k i = true := by simpa using hki
        rw [hb]
        cases hlk : listed.getD k false with
        | true => rfl
        | false => exact absurd ht ((ahead k o' e' hk he' hki hlk).d1 t (hdst.trans hd))
      · subst hki
        rw [hil']
        cases hb : Nat.blt k k with
        | false => rfl
        | true => have := blt_lt hb; omega
      · cases hlk : listed.getD k false with
        | true => exact absurd ht ((behind k o' e' hk he' hki hlk).d3 t (hdst.trans hd))
        | false =>
          cases hb : Nat.blt k i with
          | false => rfl
          | true => have := blt_lt hb; omega
    have rowEq : ∀ n, n ∈ e.tr.foot → foldH (fun k => Nat.blt k i) es 0 h n = foldH (fun k => listed.getD k false) es 0 h n := by
      intro n hn
      refine foldH_congr es 0 h h rfl (fun k e' hk hd => ?_)
      simp only [Nat.zero_add]
      have hkl : k < ops.length := by
        rw [← c1]
        rcases Nat.lt_or_ge k es.length with h | h
        · exact h
        · rw [List.getElem?_eq_none h] at hk; simp at hk
      have hok : ops[k]? = some ops[k] := List.getElem?_eq_getElem hkl
      have hw := (entDst k _ e' hok hk).2 n hd
      rcases Nat.lt_trichotomy k i with hki | hki | hki
      · have hb : Nat.blt k i = true := by simpa using hki
        rw [hb]
        cases hlk : listed.getD k false with
        | true => rfl
        | false => exact absurd hn ((ahead k _ e' hok hk hki hlk).h1 n hw)
      · subst hki
        rw [hil']
        cases hb : Nat.blt k k with
        | false => rfl
        | true => have := blt_lt hb; omega
      · cases hlk : listed.getD k false with
        | true => exact absurd hn ((behind k _ e' hok hk hki hlk).h2 n hw)
        | false =>
          cases hb : Nat.blt k i with
          | false => rfl
          | true => have := blt_lt hb; omega
    -- the state behind it
    have hl' : ∀ k, (listed.setIfInBounds i true).getD k false = (listed.getD k false || k == i) := by
      intro k
      by_cases hki : k = i
      · subst hki; simp [hlt]
      · have : (k == i) = false := by simpa using hki
        rw [getD_set_ne false (Ne.symm hki), this, Bool.or_false]
    have hfS : foldS (fun k => (listed.setIfInBounds i true).getD k false) ops es 0 f = updF (foldS (fun k => listed.getD k false) ops es 0 f) o.dst e.v :=
      foldS_add ops es 0 f i (by omega) ho' he hil' hl' (fun k o' hk hik hlk t ht => by
        simp only [Nat.zero_add] at hik hlk
        obtain ⟨e', he'⟩ := hEx k o' hk
        have := (behind k o' e' hk he' hik hlk).d2 t ((entDst i o e ho' he).1.trans ht)
        rw [(entDst k o' e' hk he').1] at this
        exact this)
    have hfH : foldH (fun k => (listed.setIfInBounds i true).getD k false) es 0 h = applyUps (foldH (fun k => listed.getD k false) es 0 h) e.us :=
      foldH_add es 0 h i (by omega) he hil' hl' (fun k e' hk hik hlk n hn hn' => by
        simp only [Nat.zero_add] at hik hlk
        have hkl : k < ops.length := by
          rw [← c1]
          rcases Nat.lt_or_ge k es.length with h | h
          · exact h
          · rw [List.getElem?_eq_none h] at hk; simp at hk
        have hok : ops[k]? = some ops[k] := List.getElem?_eq_getElem hkl
        exact (behind k _ e' hok hk hik hlk).h3 n ((entDst i o e ho' he).2 n hn) ((entDst k _ e' hok hk).2 n hn'))
    have hcl' : ClosedF ops (fun k => (listed.setIfInBounds i true).getD k false) := by
      intro j o' hj hlj ed hed hb
      simp only [hl'] at hlj ⊢
      rw [Bool.or_eq_true] at hlj ⊢
      rcases hlj with hlj | hlj
      · exact .inl (hcl j o' hj hlj ed hed hb)
      · have : j = i := by simpa using hlj
        subst this
        rw [ho'] at hj; cases hj
        exact .inl (hready ed hed hb)
    have hu' : unl (listed.setIfInBounds i true).toList ≤ fuel := by
      have := unl_set listed.toList i (by simp [hlt] at hil ⊢; exact hil)
      rw [Array.toList_setIfInBounds]; omega
    have next : ∀ L' a' w', L.le L' → (∀ n, L'.live n → L.live n ∨ (base + 16 * i ≤ n ∧ n < base + 16 * i + 16)) → Sit F w0 nt L' (updF (foldS (fun k => listed.getD k false) ops es 0 f) o.dst e.v) (applyUps (foldH (fun k => listed.getD k false) es 0 h) e.us) a' w' →
        wpAny P .any ops.toArray Q fuel (listed.setIfInBounds i true) a' w' := by
      intro L' a' w' p1 p2 p3
      refine ih (listed.setIfInBounds i true) a' w' L' (by simp [hsz]) hu' (Lo.le_trans hle p1) (by rw [hfS, hfH]; exact p3) hcl' (fun n hlv hbn => ?_)
      rcases p2 n hlv with q | q
      · obtain ⟨j, j1, j2, j3, j4⟩ := hlive n q hbn
        exact ⟨j, j1, by rw [hl', j2]; rfl, j3, j4⟩
      · exact ⟨i, hilt, by rw [hl']; simp, q.1, q.2⟩
    unfold wpOp
    rw [ho]
    simp only
    obtain ⟨hd, hent | hent⟩ := hent
    · obtain ⟨hg, f0, H, hf0, hsub, hop, htre⟩ := hent
      have htre := htre rfl
      have hg' : guardOk ops (foldS (fun k => listed.getD k false) ops es 0 f) o true := by
        unfold guardOk at hg ⊢
        split at hg
        · exact hg
        · rename_i g want hgd
          obtain ⟨t, h1, h2⟩ := hg
          refine ⟨t, h1, ?_⟩
          rw [← slotEq t]
          · exact h2
          · rw [htre]
            simp [guardSlot, hgd, h1]
      rw [wanted_of sit.slots hg']
      simp only [if_true]
      refine .inl (op_step hσ sit (H := H) ?_ ?_ (f0 := f0) ?_ hop hd next)
      · intro n q hq
        rw [← rowEq n]
        · exact hsub n q hq
        · rw [htre]
          simp only
          exact keysOf_mem hq
      · intro n h1 h2 hlv
        obtain ⟨j, j1, j2, j3, j4⟩ := hlive n hlv (by omega)
        have : j = i := by omega
        subst this
        rw [hil'] at j2; simp at j2
      · intro t ht
        rw [← slotEq t (by rw [htre]; simp [ht])]
        exact hf0 t ht
    · obtain ⟨hg, hv, hus, htre⟩ := hent
      have htre := htre rfl
      have hg' : guardOk ops (foldS (fun k => listed.getD k false) ops es 0 f) o false := by
        unfold guardOk at hg ⊢
        split at hg
        · exact hg
        · rename_i g want hgd
          obtain ⟨t, h1, h2⟩ := hg
          refine ⟨t, h1, ?_⟩
          rw [← slotEq t]
          · exact h2
          · rw [htre]
            simp [guardSlot, hgd, h1]
      rw [wanted_of sit.slots hg']
      simp only [Bool.false_eq_true, if_false]
      refine next L _ w L.le_refl (fun n hn => .inl hn) ⟨by rw [hus]; exact sit.good, ?_, by rw [put_size, sit.size], by rw [put_defers, sit.defers]⟩
      rw [hv]
      exact slots_put sit.slots (by rw [sit.size]; exact hd) ⟨[], rfl, rfl⟩

end
end Go.Bx

/-
  Code on the abstract machine.
-/
namespace Go.Bx

/-- What was live among the first `m` names is where it was. -/
def Lo.leN (m : Nat) (L L' : Lo) : Prop := ∀ n, n < m → L.live n → L'.live n ∧ L'.loc n = L.loc n

theorem Lo.leN_refl (m : Nat) (L : Lo) : Lo.leN m L L := fun _ _ h => ⟨h, rfl⟩
theorem Lo.leN_trans {m : Nat} {A B C : Lo} (h : Lo.leN m A B) (k : Lo.leN m B C) : Lo.leN m A C := fun n hm hn =>
  have h1 := h n hm hn
  have h2 := k n hm h1.1
  ⟨h2.1, h2.2.trans h1.2⟩
theorem Lo.leN_of {m : Nat} {L L' : Lo} (h : L.le L') : Lo.leN m L L' := fun n _ hn => h n hn

structure CodeSit (F : Nat → Prop) (w0 : World) (nt : Nat) (L : Lo) (s : St) (a : Act) (w : World) : Prop where
  sit : Sit F w0 nt L (lk .any s.sl) (lk? s.hp) a w
  fresh : ∀ n, s.nx ≤ n → ¬ L.live n

def toExit : Out → Exit
  | .normal => .normal
  | .exit id => .exit id
  | .ret => .ret

def PostC (F : Nat → Prop) (w0 : World) (nt m : Nat) (L : Lo) (K : Out → St → Prop) : Exit → Act → World → Prop := fun e a' w' =>
  ∃ o s' L', toExit o = e ∧ Lo.leN m L L' ∧ CodeSit F w0 nt L' s' a' w' ∧ K o s'

/-- From such a state the code goes to states with `K`. -/
def Runs (P : Program) (nt m : Nat) (c : Code) (s : St) (K : Out → St → Prop) : Prop :=
  ∀ F w0 L a w, CodeSit F w0 nt L s a w → c.wp P (PostC F w0 nt m L K) a w

/-- Inside a loop: its body, and round again. -/
def LoopWp (P : Program) (c : Code) (Q : Exit → Act → World → Prop) (a : Act) (w : World) : Prop :=
  ∀ (b : Frame) (k : List Item) (cs : List Frame), ∃ e a' w', Q e a' w' ∧ Arrives P (lone (b.at a (.code c :: .inLoop c :: k)) cs w) b k cs e a' w'

section
variable {P : Program} {nt m : Nat} {σ : List (Nat × Sum)}

theorem LoopWp.loop {c : Code} {Q : Exit → Act → World → Prop} {a : Act} {w : World} (h : LoopWp P c Q a w) : (Code.loop c).wp P Q a w := by
  intro b k cs
  obtain ⟨e, a', w', hq, harr⟩ := h b k cs
  exact ⟨e, a', w', hq, .of_steps (.one step_loop) harr⟩

theorem LoopWp.round {c : Code} {Q : Exit → Act → World → Prop} {a : Act} {w : World} (h : c.wp P (Exit.then (LoopWp P c Q) Q) a w) : LoopWp P c Q a w := by
  intro b k cs
  obtain ⟨e, a₁, w₁, hq, harr⟩ := h b (.inLoop c :: k) cs
  cases e with
  | normal =>
    obtain ⟨e₂, a₂, w₂, hq₂, harr₂⟩ := hq b k cs
    exact ⟨e₂, a₂, w₂, hq₂, .of_steps (Steps.trans harr (.one step_inLoop)) harr₂⟩
  | exit id => exact ⟨_, a₁, w₁, hq, .pass (x := .inLoop c) rfl (fun _ _ => .inl (by simp)) harr⟩
  | goto l => exact ⟨_, a₁, w₁, hq, .pass (x := .inLoop c) rfl (fun _ _ => .inl (by simp)) harr⟩
  | ret => exact ⟨_, a₁, w₁, hq, .pass (x := .inLoop c) rfl (fun _ _ => .inl (by simp)) harr⟩
  | panic ch => exact ⟨_, a₁, w₁, hq, .pass (x := .inLoop c) rfl (fun _ _ => .inl (by simp)) harr⟩
  | outgrown => exact ⟨_, a₁, w₁, hq, .pass (x := .inLoop c) rfl (fun _ _ => .inl (by simp)) harr⟩

def RunsL (P : Program) (nt m : Nat) (c : Code) (s : St) (K : Out → St → Prop) : Prop :=
  ∀ F w0 L a w, CodeSit F w0 nt L s a w → LoopWp P c (PostC F w0 nt m L K) a w

theorem PostC.mono {F : Nat → Prop} {w0 : World} {L L' : Lo} {K K' : Out → St → Prop} (hle : Lo.leN m L L') (hk : ∀ o s, K o s → K' o s) {e : Exit} {a : Act} {w : World} (h : PostC F w0 nt m L' K e a w) : PostC F w0 nt m L K' e a w := by
  obtain ⟨o, s', L2, h1, h2, h3, h4⟩ := h
  exact ⟨o, s', L2, h1, Lo.leN_trans hle h2, h3, hk _ _ h4⟩

theorem Runs.mono {c : Code} {s : St} {K K' : Out → St → Prop} (h : Runs P nt m c s K) (hk : ∀ o s, K o s → K' o s) : Runs P nt m c s K' :=
  fun F w0 L a w cs => wp_mono (h F w0 L a w cs) fun _ _ _ q => q.mono (Lo.leN_refl m L) hk

theorem Runs.seq {x y : Code} {s : St} {K K' : Out → St → Prop} (h : Runs P nt m x s K) (hk : ∀ o s, K o s → match o with | .normal => Runs P nt m y s K' | o => K' o s) : Runs P nt m (.seq x y) s K' := by
  intro F w0 L a w cs
  refine wp_seq (wp_mono (h F w0 L a w cs) ?_)
  rintro e a' w' ⟨o, s', L', rfl, h2, h3, h4⟩
  have := hk o s' h4
  cases o with
  | normal => exact wp_mono (this F w0 L' a' w' h3) fun _ _ _ q => q.mono h2 fun _ _ q => q
  | exit id => exact ⟨.exit id, s', L', rfl, h2, h3, this⟩
  | ret => exact ⟨.ret, s', L', rfl, h2, h3, this⟩

theorem Runs.block {id : Nat} {c : Code} {s : St} {K K' : Out → St → Prop} (h : Runs P nt m c s K) (hk : ∀ o s, K o s → match o with | .exit j => if id = j then K' .normal s else K' (.exit j) s | o => K' o s) : Runs P nt m (.block id c) s K' := by
  intro F w0 L a w cs
  refine wp_block (wp_mono (h F w0 L a w cs) ?_)
  rintro e a' w' ⟨o, s', L', rfl, h2, h3, h4⟩
  have := hk o s' h4
  cases o with
  | normal => exact ⟨.normal, s', L', rfl, h2, h3, this⟩
  | ret => exact ⟨.ret, s', L', rfl, h2, h3, this⟩
  | exit j =>
    simp only [toExit, Exit.inBlock]
    simp only at this
    split at this
    · rename_i e; rw [if_pos e.symm]; exact ⟨.normal, s', L', rfl, h2, h3, this⟩
    · rename_i e; rw [if_neg (fun q => e q.symm)]; exact ⟨.exit j, s', L', rfl, h2, h3, this⟩

theorem Runs.scope {c : Code} {s : St} {K : Out → St → Prop} (h : Runs P nt m c s K) : Runs P nt m (.scope c) s K := by
  intro F w0 L a w cs
  refine wp_scope_straight (wp_mono (h F w0 L a w cs) ?_)
  rintro e a' w' ⟨o, s', L', rfl, h2, h3, h4⟩
  cases o <;> exact ⟨_, s', L', rfl, h2, h3, h4⟩

theorem RunsL.loop {c : Code} {s : St} {K : Out → St → Prop} (h : RunsL P nt m c s K) : Runs P nt m (.loop c) s K :=
  fun F w0 L a w cs => (h F w0 L a w cs).loop

theorem RunsL.round {c : Code} {s : St} {K K' : Out → St → Prop} (h : Runs P nt m c s K) (hk : ∀ o s, K o s → match o with | .normal => RunsL P nt m c s K' | o => K' o s) : RunsL P nt m c s K' := by
  intro F w0 L a w cs
  refine LoopWp.round (wp_mono (h F w0 L a w cs) ?_)
  rintro e a' w' ⟨o, s', L', rfl, h2, h3, h4⟩
  have := hk o s' h4
  cases o with
  | normal =>
    intro b k cs'
    obtain ⟨e, a2, w2, q, r⟩ := this F w0 L' a' w' h3 b k cs'
    exact ⟨e, a2, w2, q.mono h2 fun _ _ q => q, r⟩
  | exit id => exact ⟨.exit id, s', L', rfl, h2, h3, this⟩
  | ret => exact ⟨.ret, s', L', rfl, h2, h3, this⟩

/-- A loop, by what holds at the head of each round. -/
theorem RunsL.inv {c : Code} {ι : Type} (S : ι → St) (I : ι → Prop) (μ : ι → Nat) {K : Out → St → Prop}
    (h : ∀ i, I i → Runs P nt m c (S i) fun o s => match o with | .normal => ∃ j, I j ∧ μ j < μ i ∧ s = S j | o => K o s) : ∀ i, I i → RunsL P nt m c (S i) K := by
  have key : ∀ x i, μ i = x → I i → RunsL P nt m c (S i) K := by
    intro x
    induction x using Nat.strongRecOn with
    | _ x ih =>
      intro i hm hi
      refine RunsL.round (h i hi) fun o s ho => ?_
      cases o with
      | normal =>
        obtain ⟨j, hj, hlt, rfl⟩ := ho
        exact ih (μ j) (hm ▸ hlt) j rfl hj
      | exit id => exact ho
      | ret => exact ho
  exact fun i hi => key _ i rfl hi

theorem Good.wid {F : Nat → Prop} {w0 w : World} {L : Lo} {h : HF} {hp : Heap} (g : Good F w0 L h w) (hw : WidH h hp) : Good F w0 L (lk? hp) w := by
  refine ⟨g.os, g.tape, g.output, g.size, g.keep, g.old, ?_, ?_, ?_, ?_, ?_⟩
  · intro n r hr
    obtain ⟨q, hq, _⟩ := hw n r hr
    exact g.live n q hq
  · intro n r hr
    obtain ⟨q, hq, hf, ho⟩ := hw n r hr
    obtain ⟨cs, hc, hx⟩ := g.row n q hq
    refine ⟨cs, hf _ _ hc, ?_⟩
    rcases hx with hx | ⟨c, e, fz, h1, h2, h3, h4, h5⟩
    · exact .inl hx
    · exact .inr ⟨c, e, fz, h1, h2, h3, h4, fun hr => h5 (ho hr)⟩
  · intro n m r q hr hq hne hro
    obtain ⟨r', hr', _, ho1⟩ := hw n r hr
    obtain ⟨q', hq', _, ho2⟩ := hw m q hq
    refine g.apart n m r' q' hr' hq' hne ?_
    rw [Bool.and_eq_false_iff] at hro ⊢
    exact hro.imp ho1 ho2
  · intro n r hr hro
    obtain ⟨r', hr', _, ho1⟩ := hw n r hr
    exact g.own n r' hr' (ho1 hro)
  · intro n r hr
    obtain ⟨r', hr', _⟩ := hw n r hr
    exact g.inside n r' hr'

/-- The one state stands for the other. -/
def Wid (s S : St) : Prop := (∀ t, Fit (lk .any s.sl t) (lk .any S.sl t)) ∧ WidH (lk? s.hp) S.hp ∧ s.nx ≤ S.nx

theorem CodeSit.wid {F : Nat → Prop} {w0 w : World} {L : Lo} {s S : St} {a : Act} (cs : CodeSit F w0 nt L s a w) (h : Wid s S) : CodeSit F w0 nt L S a w :=
  ⟨⟨cs.sit.good.wid h.2.1, fun t => h.1 t _ _ (cs.sit.slots t), cs.sit.size, cs.sit.defers⟩, fun n hn => cs.fresh n (Nat.le_trans h.2.2 hn)⟩

theorem Runs.wid {c : Code} {s S : St} {K : Out → St → Prop} (h : Wid s S) (hr : Runs P nt m c S K) : Runs P nt m c s K :=
  fun F w0 L a w cs => hr F w0 L a w (cs.wid h)

theorem Runs.out {c : Code} {s : St} {K K' : Out → St → Prop} (h : Runs P nt m c s K) (hk : ∀ o s1, K o s1 → ∃ S, Wid s1 S ∧ K' o S) : Runs P nt m c s K' := by
  intro F w0 L a w cs
  refine wp_mono (h F w0 L a w cs) ?_
  rintro e a' w' ⟨o, s', L', rfl, h2, h3, h4⟩
  obtain ⟨S, hw, hS⟩ := hk o s' h4
  exact ⟨o, S, L', rfl, h2, h3.wid hw, hS⟩

theorem runs_region (hσ : ∀ f s, lk? σ f = some s → SumOk P f s) (hm : P.follows .mixedOrders = true) {id : Nat} {ops : Array Oper} {draw : Bool} {s s' : St} {K : Out → St → Prop}
    (h : xR P σ nt draw ops.toList s.nx ops.toList 0 s [] = some (true, s')) (hk : K .normal { s' with nx := s.nx + 16 * ops.size }) :
    Runs P nt m (.region id ops draw) s K := by
  intro F w0 L a w cs
  obtain ⟨es, f1, h1, hc, hck, hfit, hwid, _⟩ := xR_chain ops.toList 0 s [] s' (lk .any s.sl) h (fun _ => Fit.refl _)
  have fin : ∀ L' a' w', L.le L' → Sit F w0 nt L' f1 h1 a' w' → (∀ n, s.nx + 16 * (0 + ops.toList.length) ≤ n → ¬ L'.live n) → PostC F w0 nt m L K .normal a' w' := by
    intro L' a' w' p1 p2 p3
    exact ⟨.normal, { s' with nx := s.nx + 16 * ops.size }, L', rfl, Lo.leN_of p1, ⟨⟨p2.good.wid hwid, fun t => hfit t _ _ (p2.slots t), p2.size, p2.defers⟩, by simpa using p3⟩, hk⟩
  cases draw
  · refine wp_region ?_
    have := seq_ok hσ (ops := ops.toList) (base := s.nx) (Q := PostC F w0 nt m L K) ops.toList 0 _ _ es L a w (fun i => by simp) hc cs.sit (by simpa using cs.fresh) fin
    rw [List.range_eq_range']
    simpa using this
  · have hck' : checkAll ops.toList (es.map fun (e : Ent) => e.tr) [] [] = true := by simpa using hck rfl
    refine wp_region_any hm ?_
    have h0 : ∀ i, (Array.replicate ops.size false).getD i false = false := by
      intro i
      by_cases hi : i < ops.size <;> simp [hi]
    have := draw_ok (F := F) (w0 := w0) hσ (Q := PostC F w0 nt m L K) (L0 := L) hc hck' (by simpa using fin) ops.size (Array.replicate ops.size false) a { w with drawn := w.drawn + 1 } L (by simp) (by rw [Array.toList_replicate, unl_rep]; exact Nat.le_refl _) L.le_refl ?_ ?_ ?_
    · simpa using this
    · have e1 : (fun i => (Array.replicate ops.size false).getD i false) = fun _ => false := funext h0
      rw [e1, foldS_none, foldH_none]
      exact ⟨cs.sit.good.drew _, cs.sit.slots, cs.sit.size, cs.sit.defers⟩
    · intro i o ho hi
      exact absurd (hi.symm.trans (h0 i)) (by simp)
    · intro n hl hn
      exact absurd hl (cs.fresh n hn)

theorem branch_wid {s : St} {t : Nat} {v : Bool} (hv : lk .any s.sl t = .ob v) : Wid s (s.branch t v) := by
  refine ⟨fun u => ?_, WidH.refl _, Nat.le_refl _⟩
  simp only [St.branch]
  rw [lk_put]
  simp only
  split
  · rename_i e; subst e; rw [hv]; exact fit_lit v
  · exact Fit.refl _

theorem runs_now {c : Code} {s : St} {o : Out} {K : Out → St → Prop} (hk : K o s) (h : ∀ (Q : Exit → Act → World → Prop) a w, Q (toExit o) a w → c.wp P Q a w) : Runs P nt m c s K :=
  fun _ _ L a w cs => h _ a w ⟨o, s, L, rfl, Lo.leN_refl m L, cs, hk⟩

theorem Runs.cond {t : Nat} {x y : Code} {s : St} {v : Bool} {K : Out → St → Prop} (hv : Fit (lk .any s.sl t) (.bool v)) (h : if v then Runs P nt m x s K else Runs P nt m y s K) : Runs P nt m (.cond (.tmp t) x y) s K := by
  intro F w0 L a w cs
  have hval := hv _ _ (cs.sit.slots t)
  simp only [val, val1, val0] at hval
  cases v
  · exact wp_cond_false hval (h F w0 L a w cs)
  · exact wp_cond_true hval (h F w0 L a w cs)

theorem outEq_eq {o o' : Out} (h : outEq o o' = true) : o = o' := by
  cases o <;> cases o' <;> simp only [outEq, Bool.false_eq_true] at h <;> first | rfl | (rw [beq_eq' h])

/-- One end. -/
def KE (o : Out) (s : St) : Out → St → Prop := fun o' s' => o' = o ∧ s' = s

theorem joinC_ok {x y : Code} {t : Nat} {v : Bool} {s s' : St} {o : Out} {r1 r2 : Option (Bool × Out × St)} (hv : lk .any s.sl t = .ob v) (h : joinC v s r1 r2 = some (true, o, s'))
    (h1 : ∀ o s1, r1 = some (true, o, s1) → Runs P nt m x (s.branch t true) (KE o s1) ∧ Trk (s.branch t true) s1)
    (h2 : ∀ o s1, r2 = some (true, o, s1) → Runs P nt m y (s.branch t false) (KE o s1) ∧ Trk (s.branch t false) s1) :
    Runs P nt m (.cond (.tmp t) x y) s (KE o s') ∧ Trk s s' := by
  unfold joinC at h
  split at h
  · rename_i c1 o1 s1 c2 o2 s2
    cases ho : outEq o1 o2 <;> rw [ho] at h <;> simp only [cond_false, cond_true, reduceCtorEq, Option.some.injEq, Prod.mk.injEq] at h
    obtain ⟨hc, rfl, rfl⟩ := h
    have ho := outEq_eq ho
    subst ho
    have nxl : s1.nx ≤ (joinS v s s1 s2).nx ∧ s2.nx ≤ (joinS v s s1 s2).nx := by
      simp only [joinS]; exact hi_le
    cases v
    · have hc := joinB_false hc
      subst hc
      obtain ⟨q1, q2⟩ := h2 o1 s2 rfl
      obtain ⟨j1, j2, j3⟩ := join_fit rfl hv (s1 := s1) (s2 := s2) (s0 := s2) (sx := s1) (.inr ⟨rfl, rfl, rfl⟩) q2
      refine ⟨Runs.cond (v := false) (by rw [hv]; exact fit_lit false) ?_, j3⟩
      simp only [Bool.false_eq_true, if_false]
      refine (Runs.wid (branch_wid hv) q1).out fun o s3 hk => ?_
      obtain ⟨rfl, rfl⟩ := hk
      exact ⟨_, ⟨j1, j2, nxl.2⟩, rfl, rfl⟩
    · have hc := joinB_true hc
      subst hc
      obtain ⟨q1, q2⟩ := h1 o1 s1 rfl
      obtain ⟨j1, j2, j3⟩ := join_fit rfl hv (s1 := s1) (s2 := s2) (s0 := s1) (sx := s2) (.inl ⟨rfl, rfl, rfl⟩) q2
      refine ⟨Runs.cond (v := true) (by rw [hv]; exact fit_lit true) ?_, j3⟩
      simp only [if_true]
      refine (Runs.wid (branch_wid hv) q1).out fun o s3 hk => ?_
      obtain ⟨rfl, rfl⟩ := hk
      exact ⟨_, ⟨j1, j2, nxl.1⟩, rfl, rfl⟩
  · simp at h

theorem andX_ok {c : Bool} {r : Option (Bool × Out × St)} {o : Out} {s : St} (h : andX c r = some (true, o, s)) : c = true ∧ r = some (true, o, s) := by
  unfold andX at h
  split at h
  · simp only [Option.some.injEq, Prod.mk.injEq, Bool.and_eq_true] at h
    obtain ⟨⟨rfl, rfl⟩, rfl, rfl⟩ := h
    exact ⟨rfl, rfl⟩
  · simp at h

theorem xA_ok (hσ : ∀ f s, lk? σ f = some s → SumOk P f s) (hm : P.follows .mixedOrders = true) : ∀ (n : Nat) (c : Code) (s : St) (o : Out) (s' : St), xA P σ nt n c s = some (true, o, s') → (Runs P nt m c s (KE o s') ∧ Trk s s') ∧ ∀ b, c = .loop b → RunsL P nt m b s (KE o s')
  | 0, _, _, _, _, h => by simp [xA] at h
  | n + 1, c, s, o, s', h => by
    have ih := xA_ok hσ hm n
    cases c <;> simp only [xA, reduceCtorEq] at h
    case skip =>
      simp only [Option.some.injEq, Prod.mk.injEq, true_and] at h
      obtain ⟨rfl, rfl⟩ := h
      exact ⟨⟨runs_now (o := .normal) ⟨rfl, rfl⟩ fun _ _ _ => wp_skip, Trk.refl _⟩, fun b e => by simp at e⟩
    case label l =>
      simp only [Option.some.injEq, Prod.mk.injEq, true_and] at h
      obtain ⟨rfl, rfl⟩ := h
      exact ⟨⟨runs_now (o := .normal) ⟨rfl, rfl⟩ fun _ _ _ => wp_label, Trk.refl _⟩, fun b e => by simp at e⟩
    case ret =>
      simp only [Option.some.injEq, Prod.mk.injEq, true_and] at h
      obtain ⟨rfl, rfl⟩ := h
      exact ⟨⟨runs_now (o := .ret) ⟨rfl, rfl⟩ fun _ _ _ => wp_ret, Trk.refl _⟩, fun b e => by simp at e⟩
    case exit id =>
      simp only [Option.some.injEq, Prod.mk.injEq, true_and] at h
      obtain ⟨rfl, rfl⟩ := h
      exact ⟨⟨runs_now (o := .exit id) ⟨rfl, rfl⟩ fun _ _ _ => wp_exit, Trk.refl _⟩, fun b e => by simp at e⟩
    case region id ops draw =>
      split at h
      · rename_i c s1 hx
        simp only [Option.some.injEq, Prod.mk.injEq] at h
        obtain ⟨rfl, rfl, rfl⟩ := h
        obtain ⟨_, _, _, _, _, _, _, htrk⟩ := xR_chain ops.toList 0 s [] s1 (lk .any s.sl) hx (fun _ => Fit.refl _)
        exact ⟨⟨runs_region hσ hm hx ⟨rfl, rfl⟩, htrk.nx _⟩, fun b e => by simp at e⟩
      · simp at h
    case seq x y =>
      refine ⟨?_, fun b e => by simp at e⟩
      split at h
      · rename_i c s1 hx
        obtain ⟨rfl, hy⟩ := andX_ok h
        have q1 := (ih _ _ _ _ hx).1
        have q2 := (ih _ _ _ _ hy).1
        exact ⟨Runs.seq q1.1 fun o2 s2 hk => by obtain ⟨rfl, rfl⟩ := hk; exact q2.1, q1.2.trans q2.2⟩
      · rename_i hne
        have q1 := (ih _ _ _ _ h).1
        refine ⟨Runs.seq q1.1 fun o2 s2 hk => ?_, q1.2⟩
        obtain ⟨rfl, rfl⟩ := hk
        cases o2 with
        | normal => exact (hne _ _ h).elim
        | exit id => exact ⟨rfl, rfl⟩
        | ret => exact ⟨rfl, rfl⟩
    case cond c x y =>
      refine ⟨?_, fun b e => by simp at e⟩
      cases c with
      | tmp t =>
        simp only at h
        split at h
        · rename_i hv
          have q1 := (ih _ _ _ _ h).1
          exact ⟨Runs.cond (v := true) (by rw [hv]; exact Fit.refl _) (by simpa using q1.1), q1.2⟩
        · rename_i hv
          have q1 := (ih _ _ _ _ h).1
          exact ⟨Runs.cond (v := false) (by rw [hv]; exact Fit.refl _) (by simpa using q1.1), q1.2⟩
        · rename_i v hv
          exact joinC_ok hv h (fun o s1 hx => (ih _ _ _ _ hx).1) (fun o s1 hx => (ih _ _ _ _ hx).1)
        · simp at h
      | const v => simp at h
      | global g => simp at h
      | func f => simp at h
    case block id b =>
      refine ⟨?_, fun b e => by simp at e⟩
      split at h
      · rename_i c j s1 hx
        cases hb : Nat.beq id j <;> rw [hb] at h <;> simp only [cond_false, cond_true, Option.some.injEq, Prod.mk.injEq] at h <;> obtain ⟨rfl, rfl, rfl⟩ := h <;> have q1 := (ih _ _ _ _ hx).1
        · refine ⟨Runs.block q1.1 fun o2 s2 hk => ?_, q1.2⟩
          obtain ⟨rfl, rfl⟩ := hk
          simp only
          rw [if_neg (by intro e; subst e; simp at hb)]
          exact ⟨rfl, rfl⟩
        · refine ⟨Runs.block q1.1 fun o2 s2 hk => ?_, q1.2⟩
          obtain ⟨rfl, rfl⟩ := hk
          simp only
          rw [if_pos (beq_eq' hb)]
          exact ⟨rfl, rfl⟩
      · rename_i hne
        have q1 := (ih _ _ _ _ h).1
        refine ⟨Runs.block q1.1 fun o2 s2 hk => ?_, q1.2⟩
        obtain ⟨rfl, rfl⟩ := hk
        cases o2 with
        | normal => exact ⟨rfl, rfl⟩
        | ret => exact ⟨rfl, rfl⟩
        | exit j => exact (hne _ _ _ h).elim
    case scope b =>
      have q1 := (ih _ _ _ _ h).1
      exact ⟨⟨Runs.scope q1.1, q1.2⟩, fun b e => by simp at e⟩
    case loop b =>
      have key : RunsL P nt m b s (KE o s') ∧ Trk s s' := by
        split at h
        · rename_i c s1 hx
          obtain ⟨rfl, hy⟩ := andX_ok h
          have q1 := (ih _ _ _ _ hx).1
          have q2 := ih _ _ _ _ hy
          exact ⟨RunsL.round q1.1 fun o2 s2 hk => by obtain ⟨rfl, rfl⟩ := hk; exact q2.2 b rfl, q1.2.trans q2.1.2⟩
        · rename_i hne
          have q1 := (ih _ _ _ _ h).1
          refine ⟨RunsL.round q1.1 fun o2 s2 hk => ?_, q1.2⟩
          obtain ⟨rfl, rfl⟩ := hk
          cases o2 with
          | normal => exact (hne _ _ h).elim
          | exit id => exact ⟨rfl, rfl⟩
          | ret => exact ⟨rfl, rfl⟩
      exact ⟨⟨key.1.loop, key.2⟩, fun b' e => by cases e; exact key.1⟩

theorem wpA_ok (hσ : ∀ f s, lk? σ f = some s → SumOk P f s) (hm : P.follows .mixedOrders = true) : ∀ (n : Nat) (c : Code) (s : St) (K : Out → St → Prop), wpA P σ nt n c s K → Runs P nt m c s K ∧ ∀ b, c = .loop b → RunsL P nt m b s K
  | 0, _, _, _, h => h.elim
  | n + 1, c, s, K, h => by
    have ih := wpA_ok hσ hm n
    cases c
    case skip => exact ⟨runs_now (o := .normal) h fun _ _ _ => wp_skip, fun b e => by simp at e⟩
    case label l => exact ⟨runs_now (o := .normal) h fun _ _ _ => wp_label, fun b e => by simp at e⟩
    case ret => exact ⟨runs_now (o := .ret) h fun _ _ _ => wp_ret, fun b e => by simp at e⟩
    case exit id => exact ⟨runs_now (o := .exit id) h fun _ _ _ => wp_exit, fun b e => by simp at e⟩
    case region id ops draw =>
      refine ⟨?_, fun b e => by simp at e⟩
      simp only [wpA] at h
      split at h
      · rename_i c s1 hx
        cases c
        · exact h.elim
        · exact runs_region hσ hm hx h
      · exact h.elim
    case seq x y =>
      simp only [wpA] at h
      refine ⟨Runs.seq (ih _ _ _ h).1 fun o s' ho => ?_, fun b e => by simp at e⟩
      cases o with
      | normal => exact (ih _ _ _ ho).1
      | exit id => exact ho
      | ret => exact ho
    case cond c x y =>
      refine ⟨?_, fun b e => by simp at e⟩
      cases c with
      | tmp t =>
        simp only [wpA] at h
        split at h
        · rename_i hv
          exact Runs.cond (v := true) (by rw [hv]; exact Fit.refl _) (by simpa using (ih _ _ _ h).1)
        · rename_i hv
          exact Runs.cond (v := false) (by rw [hv]; exact Fit.refl _) (by simpa using (ih _ _ _ h).1)
        · rename_i v hv
          split at h
          · rename_i c o s' hj
            cases c
            · exact h.elim
            · have := (joinC_ok (P := P) (nt := nt) (m := m) hv hj (fun o s1 hx => (xA_ok hσ hm _ _ _ _ _ hx).1) (fun o s1 hx => (xA_ok hσ hm _ _ _ _ _ hx).1)).1
              exact this.mono fun o2 s2 hk => by obtain ⟨rfl, rfl⟩ := hk; exact h
          · have hw : ∀ v', v = v' → Wid s { s with sl := put s.sl t (.bool v') } := by
              intro v' e
              subst e
              refine ⟨fun u => ?_, WidH.refl _, Nat.le_refl _⟩
              rw [lk_put]
              simp only
              split
              · rename_i e; subst e; rw [hv]; exact fit_lit v
              · exact Fit.refl _
            cases v
            · exact Runs.cond (v := false) (by rw [hv]; exact fit_lit _) (by simpa using Runs.wid (hw false rfl) (ih _ _ _ h).1)
            · exact Runs.cond (v := true) (by rw [hv]; exact fit_lit _) (by simpa using Runs.wid (hw true rfl) (ih _ _ _ h).1)
        · exact h.elim
      | const v => exact h.elim
      | global g => exact h.elim
      | func f => exact h.elim
    case block id b =>
      simp only [wpA] at h
      refine ⟨Runs.block (ih _ _ _ h).1 fun o s' ho => ?_, fun b e => by simp at e⟩
      cases o with
      | normal => exact ho
      | ret => exact ho
      | exit j =>
        simp only at ho ⊢
        cases hb : Nat.beq id j <;> rw [hb] at ho
        · simp only [cond_false] at ho
          rw [if_neg]
          · exact ho
          · intro e; subst e; simp at hb
        · simp only [cond_true] at ho
          rw [if_pos (beq_eq' hb)]; exact ho
    case scope b =>
      simp only [wpA] at h
      exact ⟨Runs.scope (ih _ _ _ h).1, fun b e => by simp at e⟩
    case loop b =>
      simp only [wpA] at h
      have hl : RunsL P nt m b s K := by
        refine RunsL.round (ih _ _ _ h).1 fun o s' ho => ?_
        cases o with
        | normal => exact (ih _ _ _ ho).2 b rfl
        | exit id => exact ho
        | ret => exact ho
      exact ⟨hl.loop, fun b' e => by cases e; exact hl⟩
    case goto l => exact h.elim
    case rangeFunc => exact h.elim
    case refuse => exact h.elim

theorem RunsL.mono {c : Code} {s : St} {K K' : Out → St → Prop} (h : RunsL P nt m c s K) (hk : ∀ o s, K o s → K' o s) : RunsL P nt m c s K' :=
  fun F w0 L a w cs b k cs' => let ⟨e, a', w', q, r⟩ := h F w0 L a w cs b k cs'; ⟨e, a', w', q.mono (Lo.leN_refl m L) hk, r⟩

theorem Wid.refl (s : St) : Wid s s := ⟨fun _ => Fit.refl _, WidH.refl _, Nat.le_refl _⟩
theorem Wid.trans {a b c : St} (h : Wid a b) (k : Wid b c) : Wid a c := ⟨fun t => (h.1 t).trans (k.1 t), h.2.1.trans k.2.1, Nat.le_trans h.2.2 k.2.2⟩

/-- What the frames come to. -/
def Cont (P : Program) (nt m : Nat) (Q : Out → St → Prop) : List Fr → Out → St → Prop
  | [], o, s => ∃ S, Wid s S ∧ Q o S
  | .seq c :: K, o, s => match o with
    | .normal => Runs P nt m c s (Cont P nt m Q K)
    | .ret => Cont P nt m Q K .ret s
    | .exit j => Cont P nt m Q K (.exit j) s
  | .block id :: K, o, s => match o with
    | .normal => Cont P nt m Q K .normal s
    | .ret => Cont P nt m Q K .ret s
    | .exit j => if id = j then Cont P nt m Q K .normal s else Cont P nt m Q K (.exit j) s
  | .loop b :: K, o, s => match o with
    | .normal => RunsL P nt m b s (Cont P nt m Q K)
    | .ret => Cont P nt m Q K .ret s
    | .exit j => Cont P nt m Q K (.exit j) s

theorem Cont.mono {Q Q' : Out → St → Prop} (hq : ∀ o S, Q o S → ∃ S', Wid S S' ∧ Q' o S') : ∀ (K : List Fr) (o : Out) (s : St), Cont P nt m Q K o s → Cont P nt m Q' K o s
  | [], o, s, h => by
    obtain ⟨S, hw, hS⟩ := h
    obtain ⟨S', hw', hS'⟩ := hq o S hS
    exact ⟨S', hw.trans hw', hS'⟩
  | .seq c :: K, o, s, h => by
    cases o with
    | normal => exact Runs.mono (K := Cont P nt m Q K) h (Cont.mono hq K)
    | ret => exact Cont.mono hq K .ret s h
    | exit j => exact Cont.mono hq K (.exit j) s h
  | .block id :: K, o, s, h => by
    cases o with
    | normal => exact Cont.mono hq K .normal s h
    | ret => exact Cont.mono hq K .ret s h
    | exit j =>
      simp only [Cont] at h ⊢
      split
      · rename_i e; rw [if_pos e] at h; exact Cont.mono hq K .normal s h
      · rename_i e; rw [if_neg e] at h; exact Cont.mono hq K (.exit j) s h
  | .loop b :: K, o, s, h => by
    cases o with
    | normal => exact RunsL.mono (K := Cont P nt m Q K) h (Cont.mono hq K)
    | ret => exact Cont.mono hq K .ret s h
    | exit j => exact Cont.mono hq K (.exit j) s h

theorem xK_ok (hσ : ∀ f s, lk? σ f = some s → SumOk P f s) (hm : P.follows .mixedOrders = true) : ∀ (n : Nat) (td : Todo) (K : List Fr) (s : St) (o : Out) (s' : St), xK P σ nt n td K s = some (true, o, s') →
    Trk s s' ∧ (match td with | .pop o1 => Cont P nt m (KE o s') K o1 s | .run c => Runs P nt m c s (Cont P nt m (KE o s') K))
  | 0, _, _, _, _, _, h => by simp [xK] at h
  | n + 1, td, K, s, o, s', h => by
    have ih := xK_ok hσ hm n
    cases td with
    | pop o1 =>
      cases K with
      | nil =>
        simp only [xK, Option.some.injEq, Prod.mk.injEq, true_and] at h
        obtain ⟨rfl, rfl⟩ := h
        exact ⟨Trk.refl _, s, Wid.refl s, rfl, rfl⟩
      | cons f K =>
        cases f with
        | seq c => cases o1 <;> simp only [xK] at h <;> exact ih _ _ _ _ _ h
        | block id =>
          cases o1 <;> simp only [xK] at h
          case exit j =>
            simp only [Cont]
            cases hb : Nat.beq id j <;> rw [hb] at h
            · rw [if_neg (by intro e; subst e; simp at hb)]
              exact ih _ _ _ _ _ h
            · rw [if_pos (beq_eq' hb)]
              exact ih _ _ _ _ _ h
          all_goals exact ih _ _ _ _ _ h
        | loop b =>
          cases o1 <;> simp only [xK] at h
          case normal =>
            obtain ⟨q1, q2⟩ := ih _ _ _ _ _ h
            refine ⟨q1, RunsL.round q2 fun o2 s2 hk => ?_⟩
            cases o2 <;> exact hk
          all_goals exact ih _ _ _ _ _ h
    | run c =>
      have now : ∀ (o2 : Out) (hw : ∀ (Q : Exit → Act → World → Prop) a w, Q (toExit o2) a w → c.wp P Q a w), xK P σ nt n (.pop o2) K s = some (true, o, s') → Trk s s' ∧ Runs P nt m c s (Cont P nt m (KE o s') K) := by
        intro o2 hw hx
        obtain ⟨q1, q2⟩ := ih _ _ _ _ _ hx
        exact ⟨q1, runs_now q2 hw⟩
      cases c <;> simp only [xK, reduceCtorEq] at h
      case skip => exact now .normal (fun _ _ _ => wp_skip) h
      case label l => exact now .normal (fun _ _ _ => wp_label) h
      case ret => exact now .ret (fun _ _ _ => wp_ret) h
      case exit id => exact now (.exit id) (fun _ _ _ => wp_exit) h
      case region id ops draw =>
        split at h
        · rename_i c s1 hx
          obtain ⟨rfl, hy⟩ := andX_ok h
          obtain ⟨_, _, _, _, _, _, _, htrk⟩ := xR_chain ops.toList 0 s [] s1 (lk .any s.sl) hx (fun _ => Fit.refl _)
          obtain ⟨q1, q2⟩ := ih _ _ _ _ _ hy
          exact ⟨(htrk.nx _).trans q1, runs_region hσ hm hx q2⟩
        · simp at h
      case seq x y =>
        obtain ⟨q1, q2⟩ := ih _ _ _ _ _ h
        refine ⟨q1, Runs.seq q2 fun o2 s2 hk => ?_⟩
        cases o2 <;> exact hk
      case block id b =>
        obtain ⟨q1, q2⟩ := ih _ _ _ _ _ h
        refine ⟨q1, Runs.block q2 fun o2 s2 hk => ?_⟩
        cases o2 <;> exact hk
      case scope b =>
        obtain ⟨q1, q2⟩ := ih _ _ _ _ _ h
        exact ⟨q1, Runs.scope q2⟩
      case loop b =>
        obtain ⟨q1, q2⟩ := ih _ _ _ _ _ h
        refine ⟨q1, RunsL.loop (RunsL.round q2 fun o2 s2 hk => ?_)⟩
        cases o2 <;> exact hk
      case cond c x y =>
        cases c with
        | tmp t =>
          simp only at h
          split at h
          · rename_i hv
            obtain ⟨q1, q2⟩ := ih _ _ _ _ _ h
            exact ⟨q1, Runs.cond (v := true) (by rw [hv]; exact Fit.refl _) (by simpa using q2)⟩
          · rename_i hv
            obtain ⟨q1, q2⟩ := ih _ _ _ _ _ h
            exact ⟨q1, Runs.cond (v := false) (by rw [hv]; exact Fit.refl _) (by simpa using q2)⟩
          · rename_i v hv
            split at h
            · rename_i c o2 s2 hj
              obtain ⟨rfl, hy⟩ := andX_ok h
              obtain ⟨q1, q2⟩ := ih _ _ _ _ _ hy
              have hj := joinC_ok (P := P) (nt := nt) (m := m) hv hj (fun o s1 hx => (xA_ok hσ hm _ _ _ _ _ hx).1) (fun o s1 hx => (xA_ok hσ hm _ _ _ _ _ hx).1)
              exact ⟨hj.2.trans q1, hj.1.mono fun o3 s3 hk => by obtain ⟨rfl, rfl⟩ := hk; exact q2⟩
            · unfold joinC at h
              split at h
              · rename_i c1 o1 s1 c2 o2 s2 hx1 hx2
                cases ho : outEq o1 o2 <;> rw [ho] at h <;> simp only [cond_false, cond_true, reduceCtorEq, Option.some.injEq, Prod.mk.injEq] at h
                obtain ⟨hc, rfl, rfl⟩ := h
                have ho := outEq_eq ho
                subst ho
                have nxl : s1.nx ≤ (joinS v s s1 s2).nx ∧ s2.nx ≤ (joinS v s s1 s2).nx := by
                  simp only [joinS]; exact hi_le
                cases v
                · have hc := joinB_false hc
                  subst hc
                  obtain ⟨q1, q2⟩ := ih _ _ _ _ _ hx2
                  obtain ⟨j1, j2, j3⟩ := join_fit rfl hv (s1 := s1) (s2 := s2) (s0 := s2) (sx := s1) (.inr ⟨rfl, rfl, rfl⟩) q1
                  refine ⟨j3, Runs.cond (v := false) (by rw [hv]; exact fit_lit false) ?_⟩
                  simp only [Bool.false_eq_true, if_false]
                  refine (Runs.wid (branch_wid hv) q2).mono (Cont.mono (fun o3 s3 hk => ?_) K)
                  obtain ⟨rfl, rfl⟩ := hk
                  exact ⟨_, ⟨j1, j2, nxl.2⟩, rfl, rfl⟩
                · have hc := joinB_true hc
                  subst hc
                  obtain ⟨q1, q2⟩ := ih _ _ _ _ _ hx1
                  obtain ⟨j1, j2, j3⟩ := join_fit rfl hv (s1 := s1) (s2 := s2) (s0 := s1) (sx := s2) (.inl ⟨rfl, rfl, rfl⟩) q1
                  refine ⟨j3, Runs.cond (v := true) (by rw [hv]; exact fit_lit true) ?_⟩
                  simp only [if_true]
                  refine (Runs.wid (branch_wid hv) q2).mono (Cont.mono (fun o3 s3 hk => ?_) K)
                  obtain ⟨rfl, rfl⟩ := hk
                  exact ⟨_, ⟨j1, j2, nxl.1⟩, rfl, rfl⟩
              · simp at h
          · simp at h
        | const v => simp at h
        | global g => simp at h
        | func f => simp at h

end
end Go.Bx

/-
  Names changed.
-/
namespace Go.Bx

mutual
def ren (ρ : Nat → Nat) : AVal → AVal
  | .ptr n off => .ptr (ρ n) off
  | .slice n off sz len lo hi cap => .slice (ρ n) off sz len lo hi cap
  | .func f caps => .func f (renL ρ caps)
  | .agg l => .agg (renL ρ l)
  | .tuple l => .tuple (renL ρ l)
  | a => a
def renL (ρ : Nat → Nat) : List AVal → List AVal
  | [] => []
  | a :: l => ren ρ a :: renL ρ l
end

mutual
/-- Each name is one of those. -/
def allN (p : Nat → Bool) : AVal → Bool
  | .ptr n _ => p n
  | .slice n _ _ _ _ _ _ => p n
  | .func _ caps => allNL p caps
  | .agg l => allNL p l
  | .tuple l => allNL p l
  | _ => true
def allNL (p : Nat → Bool) : List AVal → Bool
  | [] => true
  | a :: l => allN p a && allNL p l
end

section
variable {L L' : Lo} {ρ : Nat → Nat} {p : Nat → Bool}

/-- From a state with names to one with other names. -/
def Moves (L L' : Lo) (ρ : Nat → Nat) (p : Nat → Bool) : Prop := ∀ n, p n = true → L.live n → L'.live (ρ n) ∧ L'.loc (ρ n) = L.loc n

theorem Moves.addr (h : Moves L L' ρ p) {n : Nat} (hp : p n = true) (hl : L.live n) (off : Nat) : L'.addr (ρ n) off = L.addr n off := by
  simp only [Lo.addr, (h n hp hl).2]

theorem val0_ren (h : Moves L L' ρ p) {a : AVal} {v : Value} (hn : allN p a = true) (hv : val0 L a v) : val0 L' (ren ρ a) v := by
  cases a <;> simp only [ren, val0, allN] at hv hn ⊢ <;> try exact hv
  case ptr n off => exact ⟨(h n hn hv.1).1, by rw [h.addr hn hv.1]; exact hv.2⟩
  case slice n off sz len lo hi cap =>
    obtain ⟨h1, h2, h3⟩ := hv
    refine ⟨h1, h2, ?_⟩
    rcases h3 with h3 | ⟨hl, c, e, h4, h5, h6⟩
    · exact .inl h3
    · exact .inr ⟨(h n hn hl).1, c, by rw [h.addr hn hl]; exact e, h4, by rw [(h n hn hl).2]; exact h5, h6⟩

theorem piece_ren (h : Moves L L' ρ p) {a : AVal} {cs : List Value} (hn : allN p a = true) (hp : piece L a cs) : piece L' (ren ρ a) cs := by
  cases a <;> simp only [piece, ren] at hp ⊢ <;> first
    | exact hp
    | (obtain ⟨v, e, hv⟩ := hp; refine ⟨v, e, ?_⟩; have := val0_ren h hn hv; simpa only [ren] using this)

theorem cells_ren (h : Moves L L' ρ p) : ∀ {l : List AVal} {cs : List Value}, allNL p l = true → cells L l cs → cells L' (renL ρ l) cs
  | [], _, _, hc => hc
  | a :: l, _, hn, ⟨c, d, e, hp, hc⟩ => by
    simp only [allNL, Bool.and_eq_true] at hn
    exact ⟨c, d, e, piece_ren h hn.1 hp, cells_ren h hn.2 hc⟩

theorem val1_ren (h : Moves L L' ρ p) {a : AVal} {v : Value} (hn : allN p a = true) (hv : val1 L a v) : val1 L' (ren ρ a) v := by
  cases a <;> simp only [val1, ren] at hv ⊢ <;> first
    | exact trivial
    | (have := val0_ren h hn hv; simpa only [ren] using this)
    | (obtain ⟨cs, hc, e⟩ := hv; exact ⟨cs, hc, e⟩)
    | (obtain ⟨cs, hc, e⟩ := hv; exact ⟨cs, cells_ren h hn hc, e⟩)

theorem vals1_ren (h : Moves L L' ρ p) : ∀ {l : List AVal} {vs : List Value}, allNL p l = true → vals1 L l vs → vals1 L' (renL ρ l) vs
  | [], _, _, hv => hv
  | a :: l, _, hn, ⟨v, ws, e, h1, h2⟩ => by
    simp only [allNL, Bool.and_eq_true] at hn
    exact ⟨v, ws, e, val1_ren h hn.1 h1, vals1_ren h hn.2 h2⟩

theorem val_ren (h : Moves L L' ρ p) {a : AVal} {v : Value} (hn : allN p a = true) (hv : val L a v) : val L' (ren ρ a) v := by
  cases a <;> simp only [val, ren] at hv ⊢ <;> first
    | (have := val1_ren h hn hv; simpa only [ren] using this)
    | (obtain ⟨vs, hc, e⟩ := hv; exact ⟨vs, vals1_ren h hn hc, e⟩)

/-- The other way: a state's values under other names. -/
def Back (L L' : Lo) (ρ : Nat → Nat) (p : Nat → Bool) : Prop := ∀ n, p n = true → L.live (ρ n) → L'.live n ∧ L'.loc n = L.loc (ρ n)

theorem Back.addr (h : Back L L' ρ p) {n : Nat} (hp : p n = true) (hl : L.live (ρ n)) (off : Nat) : L'.addr n off = L.addr (ρ n) off := by
  simp only [Lo.addr, (h n hp hl).2]

theorem val0_unren (h : Back L L' ρ p) {a : AVal} {v : Value} (hn : allN p a = true) (hv : val0 L (ren ρ a) v) : val0 L' a v := by
  cases a <;> simp only [ren, val0, allN] at hv hn ⊢ <;> try exact hv
  case ptr n off => exact ⟨(h n hn hv.1).1, by rw [h.addr hn hv.1]; exact hv.2⟩
  case slice n off sz len lo hi cap =>
    obtain ⟨h1, h2, h3⟩ := hv
    refine ⟨h1, h2, ?_⟩
    rcases h3 with h3 | ⟨hl, c, e, h4, h5, h6⟩
    · exact .inl h3
    · exact .inr ⟨(h n hn hl).1, c, by rw [h.addr hn hl]; exact e, h4, by rw [(h n hn hl).2]; exact h5, h6⟩

theorem piece_unren (h : Back L L' ρ p) {a : AVal} {cs : List Value} (hn : allN p a = true) (hp : piece L (ren ρ a) cs) : piece L' a cs := by
  cases a <;> simp only [piece, ren] at hp ⊢ <;> first
    | exact hp
    | (obtain ⟨v, e, hv⟩ := hp; refine ⟨v, e, ?_⟩; refine val0_unren h hn ?_; simpa only [ren] using hv)

theorem cells_unren (h : Back L L' ρ p) : ∀ {l : List AVal} {cs : List Value}, allNL p l = true → cells L (renL ρ l) cs → cells L' l cs
  | [], _, _, hc => hc
  | a :: l, _, hn, ⟨c, d, e, hp, hc⟩ => by
    simp only [allNL, Bool.and_eq_true] at hn
    exact ⟨c, d, e, piece_unren h hn.1 hp, cells_unren h hn.2 hc⟩

theorem val1_unren (h : Back L L' ρ p) {a : AVal} {v : Value} (hn : allN p a = true) (hv : val1 L (ren ρ a) v) : val1 L' a v := by
  cases a <;> simp only [val1, ren] at hv ⊢ <;> first
    | (refine val0_unren h hn ?_; simpa only [ren] using hv)
    | (obtain ⟨cs, hc, e⟩ := hv; exact ⟨cs, hc, e⟩)
    | (obtain ⟨cs, hc, e⟩ := hv; exact ⟨cs, cells_unren h hn hc, e⟩)

theorem vals1_unren (h : Back L L' ρ p) : ∀ {l : List AVal} {vs : List Value}, allNL p l = true → vals1 L (renL ρ l) vs → vals1 L' l vs
  | [], _, _, hv => hv
  | a :: l, _, hn, ⟨v, ws, e, h1, h2⟩ => by
    simp only [allNL, Bool.and_eq_true] at hn
    exact ⟨v, ws, e, val1_unren h hn.1 h1, vals1_unren h hn.2 h2⟩

theorem val_unren (h : Back L L' ρ p) {a : AVal} {v : Value} (hn : allN p a = true) (hv : val L (ren ρ a) v) : val L' a v := by
  cases a <;> simp only [val, ren] at hv ⊢ <;> first
    | (refine val1_unren h hn ?_; simpa only [ren] using hv)
    | (obtain ⟨vs, hc, e⟩ := hv; exact ⟨vs, vals1_unren h hn hc, e⟩)

end

end Go.Bx

/-
  A function, from its run on the abstract machine.
-/
namespace Go.Bx

theorem renL_map (ρ : Nat → Nat) : ∀ l : List AVal, renL ρ l = l.map (ren ρ)
  | [] => rfl
  | a :: l => by simp [renL, renL_map ρ l]

theorem allNL_get {p : Nat → Bool} : ∀ {l : List AVal}, allNL p l = true → ∀ i, allN p (l.getD i .any) = true
  | [], _, i => by simp [allN]
  | a :: l, h, i => by
    simp only [allNL, Bool.and_eq_true] at h
    cases i with
    | zero => exact h.1
    | succ i => simpa using allNL_get h.2 i

theorem lk_argSlots : ∀ (l : List AVal) (i t : Nat), lk .any (argSlots i l) t = if t < i then .any else l.getD (t - i) .any
  | [], i, t => by simp [argSlots, lk]
  | a :: l, i, t => by
    have h : lk AVal.any (argSlots i (a :: l)) t = if i = t then a else lk .any (argSlots (i + 1) l) t := by
      rw [lk_eq, lk_eq]
      simp only [argSlots, lk?_cons]
      split <;> rfl
    rw [h, lk_argSlots l (i + 1) t]
    split
    · rename_i e; subst e; simp
    · rename_i e
      split
      · rename_i h1
        rw [if_pos (by omega)]
      · rename_i h1
        rw [if_neg (by omega)]
        have : t - i = (t - (i + 1)) + 1 := by omega
        rw [this]; simp

section
variable {P : Program} {w0 : World} {F : Nat → Prop} {σ : List (Nat × Sum)} {nt : Nat}

def resOne (tmps : Array Value) : ResultVar → Sem Value
  | .tmp t => pure (tmps.getD t undef)
  | .cell x t => do loadVar t (← asAddr (tmps.getD x undef))

theorem resA_ok {L : Lo} {s : St} {a : Act} {w : World} (cs : CodeSit F w0 nt L s a w) : ∀ (rs : List ResultVar) (vs : List AVal), resA P s rs = some (true, vs) →
    ∃ us : List Value, (rs.mapM (resOne a.tmps) : Sem (List Value)).run P w = .ok us w ∧ vs.length = us.length ∧ ∀ i, val L (vs.getD i .any) (us.getD i undef)
  | [], vs, h => by
    simp only [resA, Option.some.injEq, Prod.mk.injEq, true_and] at h
    subst h
    exact ⟨[], by simp, rfl, fun i => trivial⟩
  | .tmp t :: rs, vs, h => by
    simp only [resA] at h
    split at h
    · rename_i c ws hr
      simp only [Option.some.injEq, Prod.mk.injEq] at h
      obtain ⟨rfl, rfl⟩ := h
      obtain ⟨us, h1, h2, h3⟩ := resA_ok cs rs ws hr
      refine ⟨a.tmps.getD t undef :: us, ?_, by simp [h2], fun i => ?_⟩
      · simp only [List.mapM_cons, Sem.run_bind, resOne, Sem.run_pure, Result.andThen_ok]
        rw [h1]; rfl
      · cases i with
        | zero => exact cs.sit.slots t
        | succ i => simpa using h3 i
    · simp at h
  | .cell x t :: rs, vs, h => by
    simp only [resA] at h
    split at h
    · rename_i n off hx
      split at h
      · rename_i c v d ws hl hr
        simp only [Option.some.injEq, Prod.mk.injEq, Bool.and_eq_true] at h
        obtain ⟨⟨rfl, rfl⟩, rfl⟩ := h
        obtain ⟨us, h1, h2, h3⟩ := resA_ok cs rs ws hr
        have hs := cs.sit.slots x
        rw [hx] at hs
        simp only [val, val1, val0] at hs
        obtain ⟨u, hu, hv⟩ := loadA_ok (P := P) cs.sit.good (fun _ _ h => h) hl
        refine ⟨u :: us, ?_, by simp [h2], fun i => ?_⟩
        · have e1 : (resOne a.tmps (.cell x t)).run P w = .ok u w := by simp only [resOne, hs.2, asAddr, Sem.run_bind, Sem.run_pure, Result.andThen_ok, hu]
          simp only [List.mapM_cons, Sem.run_bind, e1, Result.andThen_ok]
          rw [h1]; rfl
        · cases i with
          | zero => exact val_of1 hv
          | succ i => simpa using h3 i
      · simp at h
    · simp at h

theorem flat_vals {L : Lo} : ∀ {vs : List AVal} {us : List Value}, flatAll vs = true → vs.length = us.length → (∀ i, val L (vs.getD i .any) (us.getD i undef)) → vals1 L vs us
  | [], us, _, hl, _ => by
    cases us with
    | nil => rfl
    | cons u us => simp at hl
  | a :: vs, us, hf, hl, hv => by
    cases us with
    | nil => simp at hl
    | cons u us =>
      have h0 := hv 0
      have hr : ∀ i, val L (vs.getD i .any) (us.getD i undef) := fun i => by simpa using hv (i + 1)
      simp only [List.getD_cons_zero] at h0
      simp only [flatAll] at hf
      cases a <;> simp only [Bool.false_eq_true] at hf <;> exact ⟨_, _, rfl, h0, flat_vals hf (by simpa using hl) hr⟩

theorem endA_ok {L : Lo} {s : St} {a : Act} {w : World} (cs : CodeSit F w0 nt L s a w) {fn : Func} {K : AVal → Heap → Prop} (h : endA P fn.results.toList s K) :
    ∃ v v', (results fn a.tmps).run P w = .ok v' w ∧ val L v v' ∧ K v s.hp := by
  unfold endA at h
  split at h
  · rename_i c vs hr
    cases hc : (c && okOut vs) <;> rw [hc] at h
    · exact h.elim
    · simp only [cond_true] at h
      simp only [Bool.and_eq_true] at hc
      obtain ⟨rfl, ho⟩ := hc
      obtain ⟨us, h1, h2, h3⟩ := resA_ok cs _ _ hr
      refine ⟨oneOf vs, (if h : us.length = 1 then us.getD 0 undef else .tuple us.toArray), ?_, ?_, h⟩
      · unfold results
        rw [Array.mapM_eq_mapM_toList]
        have e2 : (fun (x : ResultVar) => (match x with
            | .tmp t => pure (a.tmps.getD t undef)
            | .cell x t => do loadVar t (← asAddr (a.tmps.getD x undef)) : Sem Value)) = resOne a.tmps := by
          funext x; cases x <;> rfl
        have e3 : ∀ rs : List ResultVar, (List.mapM (fun (x : ResultVar) => (match x with
            | .tmp t => pure (a.tmps.getD t undef)
            | .cell x t => do loadVar t (← asAddr (a.tmps.getD x undef)) : Sem Value)) rs).run P w = (rs.mapM (resOne a.tmps)).run P w := fun rs => by rw [e2]
        simp only [map_eq_pure_bind, Sem.run_bind, Sem.run_pure]
        refine (congrArg (fun r => Result.andThen (Result.andThen r _) _) ((e3 _).trans h1)).trans ?_
        simp only [Result.andThen_ok]
        congr 1
        match us with
        | [] => rfl
        | [u] => rfl
        | u :: u' :: us => simp
      · match vs, us, h2, ho, h3 with
        | [], [], _, _, _ => exact ⟨[], rfl, rfl⟩
        | [v], [u], _, _, h3 => exact h3 0
        | v :: v' :: vs, u :: u' :: us, h2, ho, h3 =>
          have := flat_vals ho h2 h3
          have hl : ¬ ((u :: u' :: us).length = 1) := by simp
          rw [dif_neg hl]
          exact ⟨_, this, rfl⟩
  · exact h.elim

/-- What is asked of the end of a run. -/
def KF (cres : AVal) (srcs : List (Nat × List AVal)) : AVal → Heap → Prop := fun v H => Fit v cres ∧ ∀ p ∈ srcs, ∃ r, lk? H p.1 = some r ∧ r.ro = false ∧ FitL r.c p.2

def ren2 (k : Nat) (ρ : Nat → Nat) (fr : Nat) (outs : List Nat) : Nat → Nat := fun n => if n < k then ρ n else fr + outs.idxOf n

/-- The end of a function's body. -/
def endK (P : Program) (fn : Func) (K : AVal → Heap → Prop) : Out → St → Prop := fun o s => match o with
  | .normal => endA P fn.results.toList s K
  | .ret => endA P fn.results.toList s K
  | .exit _ => False

/-- A function's body, from its arguments on. -/
def RunF (P : Program) (fn : Func) (k : Nat) (cargs : List AVal) (CH : Heap) (K : AVal → Heap → Prop) : Prop :=
  ∃ c, fn.body = some c ∧ Runs P fn.ntmps k c ⟨argSlots 0 cargs, CH, k, [], []⟩ (endK P fn K)

theorem runF_of (hσ : ∀ f s, lk? σ f = some s → SumOk P f s) (hm : P.follows .mixedOrders = true) {fn : Func} {fuel : Nat} {cargs : List AVal} {CH : Heap} {k : Nat} {K : AVal → Heap → Prop}
    (hw : wpF P σ fn fuel cargs CH k K) : RunF P fn k cargs CH K := by
  unfold wpF at hw
  split at hw
  · rename_i c hb
    refine ⟨c, hb, (wpA_ok hσ hm fuel c _ _ hw).1.mono fun o s h => ?_⟩
    cases o <;> exact h
  · exact hw.elim

theorem RunF.mono {fn : Func} {k : Nat} {cargs : List AVal} {CH : Heap} {K K' : AVal → Heap → Prop} (h : RunF P fn k cargs CH K) (hk : ∀ v H, K v H → K' v H) : RunF P fn k cargs CH K' := by
  obtain ⟨c, hb, hr⟩ := h
  have key : ∀ s, endA P fn.results.toList s K → endA P fn.results.toList s K' := by
    intro s h
    unfold endA at h ⊢
    split at h
    · rename_i c vs hr
      cases hc : (c && okOut vs) <;> rw [hc] at h
      · exact h.elim
      · exact hk _ _ h
    · exact h.elim
  refine ⟨c, hb, hr.mono fun o s h => ?_⟩
  cases o with
  | normal => exact key s h
  | ret => exact key s h
  | exit id => exact h

theorem calls_ok {f : FuncId} {fn : Func} (hf : P.funcs[f]? = some fn) {cargs : List AVal} {CH : Heap} {k : Nat} {K : AVal → Heap → Prop}
    (hw : RunF P fn k cargs CH K) (hn : cargs.length ≤ fn.ntmps) {L : Lo} {w : World} {vs : List Value} (g : Good F w0 L (lk? CH) w) (hl : ∀ n, k ≤ n → ¬ L.live n) (hrel : cargs.length = vs.length ∧ ∀ i, val L (cargs.getD i .any) (vs.getD i undef)) :
    Calls P f vs.toArray w fun e w' => ∃ v v' L' h', e = .returned v' ∧ Lo.leN k L L' ∧ val L' v v' ∧ Good F w0 L' (lk? h') w' ∧ K v h' := by
  obtain ⟨c, hb, hr⟩ := hw
  have hsz : vs.toArray.size ≤ fn.ntmps := by simp [← hrel.1]; exact hn
  have cs : CodeSit F w0 fn.ntmps L ⟨argSlots 0 cargs, CH, k, [], []⟩ { tmps := vs.toArray ++ Array.replicate (fn.ntmps - vs.toArray.size) undef, defers := [] } w := by
    refine ⟨⟨g, fun t => ?_, by simp at hsz ⊢; omega, rfl⟩, hl⟩
    rw [lk_argSlots]
    simp only [Nat.not_lt_zero, if_false, Nat.sub_zero]
    have e : (vs.toArray ++ Array.replicate (fn.ntmps - vs.toArray.size) undef).getD t undef = vs.getD t undef := by
      simp only [Array.getD_eq_getD_getElem?, List.getD_eq_getElem?_getD]
      rcases Nat.lt_or_ge t vs.length with h | h
      · rw [Array.getElem?_append_left (by simpa using h)]; simp
      · rw [Array.getElem?_append_right (by simpa using h), List.getElem?_eq_none h]
        simp only [List.size_toArray, Array.getElem?_replicate]
        split <;> rfl
    rw [e]
    exact hrel.2 t
  have run := hr F w0 L _ w cs
  refine calls_of_wp hf hb (wp_mono run ?_)
  rintro e a' w' ⟨o, s', L', rfl, h2, h3, h4⟩
  have fin : endA P fn.results.toList s' K → a'.defers = [] ∧ ∃ v', (results fn a'.tmps).run P w' = .ok v' w' ∧ ∃ v v'' L' h', Ending.returned v' = .returned v'' ∧ Lo.leN k L L' ∧ val L' v v'' ∧ Good F w0 L' (lk? h') w' ∧ K v h' := by
    intro he
    obtain ⟨v, v', e1, e2, e3⟩ := endA_ok h3 he
    exact ⟨h3.sit.defers, v', e1, v, v', L', s'.hp, rfl, h2, e2, h3.sit.good, e3⟩
  cases o with
  | normal => exact fin h4
  | ret => exact fin h4
  | exit id => exact h4.elim

end
end Go.Bx

/-
  A function's summary, from its run on the abstract machine.
-/
namespace Go.Bx

noncomputable def isRow (CH : Heap) (n : Nat) : Bool := match lk? CH n with | some _ => true | none => false

/-- What a function is shown to do. `cargs`, `CH`: its arguments and the heap, under names of their own below `k`; `outs`: the names of the new rows that are handed out;
`srcs`: the rows behind it, those that it may write and the new ones. -/
structure Run (P : Program) (fn : Func) (args : List AVal) (H : Heap) (fr : Nat) (v : AVal) (us : Ups) where
  k : Nat
  cargs : List AVal
  CH : Heap
  ρ : Nat → Nat
  outs : List Nat
  cres : AVal
  srcs : List (Nat × List AVal)
  args_sz : args.length = cargs.length
  args_fit : ∀ i, Fit (args.getD i .any) (ren ρ (cargs.getD i .any))
  args_in : allNL (Nat.blt · k) cargs = true
  args_len : cargs.length ≤ fn.ntmps
  rows : ∀ n r, lk? CH n = some r → n < k ∧ allNL (Nat.blt · k) r.c = true ∧ ∃ q, lk? H (ρ n) = some q ∧ FitL q.c (renL ρ r.c) ∧ (r.ro = false → q.ro = false)
  apart : ∀ n m r q, lk? CH n = some r → lk? CH m = some q → n ≠ m → (r.ro && q.ro) = false → ρ n ≠ ρ m
  run : RunF P fn k cargs CH (KF cres srcs)
  outs_len : outs.length ≤ 16
  outs_new : ∀ x ∈ outs, k ≤ x
  outs_nd : outs.Nodup
  wrote : ∀ i r, lk? CH i = some r → r.ro = false → i ∈ srcs.map (·.1)
  from_ : ∀ p ∈ srcs, p.1 ∈ outs ∨ ∃ r, lk? CH p.1 = some r ∧ r.ro = false
  srcs_nd : (srcs.map (·.1)).Nodup
  srcs_in : ∀ p ∈ srcs, allNL (fun n => isRow CH n || mem n outs) p.2 = true
  cres_in : allN (fun n => isRow CH n || mem n outs) cres = true
  v_eq : v = ren (ren2 k ρ fr outs) cres
  us_eq : us = srcs.map fun p => (ren2 k ρ fr outs p.1, some ⟨false, renL (ren2 k ρ fr outs) p.2⟩)

theorem keysOf_map {α : Type} (g : Nat × List AVal → Nat) (f : Nat × List AVal → α) : ∀ l : List (Nat × List AVal), keysOf (l.map fun p => (g p, f p)) = l.map g
  | [] => rfl
  | p :: l => by simp [keysOf, keysOf_map g f l]

theorem applyUps_map (g : Nat × List AVal → Nat) (f : Nat × List AVal → Option Row) : ∀ (l : List (Nat × List AVal)) (h : HF), (l.map g).Nodup → ∀ p ∈ l, applyUps h (l.map fun p => (g p, f p)) (g p) = f p
  | [], _, _, p, hp => by simp at hp
  | q :: l, h, hnd, p, hp => by
    simp only [List.map_cons, List.nodup_cons] at hnd
    simp only [List.map_cons, applyUps]
    rcases List.mem_cons.1 hp with rfl | hp
    · rw [applyUps_ne (by rw [keysOf_map]; exact hnd.1)]
      simp [updH]
    · exact applyUps_map g f l _ hnd.2 p hp

theorem nodup_map {α β : Type} {f : α → β} : ∀ {l : List α}, l.Nodup → (∀ x ∈ l, ∀ y ∈ l, f x = f y → x = y) → (l.map f).Nodup
  | [], _, _ => by simp
  | a :: l, h, hi => by
    simp only [List.nodup_cons] at h
    simp only [List.map_cons, List.nodup_cons, List.mem_map, not_exists, not_and]
    refine ⟨fun b hb e => ?_, nodup_map h.2 fun x hx y hy => hi x (List.mem_cons_of_mem _ hx) y (List.mem_cons_of_mem _ hy)⟩
    have := hi b (List.mem_cons_of_mem _ hb) a (List.mem_cons_self ..) e
    subst this
    exact h.1 hb

/-- What is known of rows: they are of some memory. -/
def InhH (H : Heap) : Prop := ∀ n q, lk? H n = some q → ∃ L cs, cells L q.c cs
def Inh (args : List AVal) : Prop := ∀ i, ∃ L v, val L (args.getD i .any) v

theorem fun_ok {P : Program} {f : FuncId} {fn : Func} (hf : P.funcs[f]? = some fn) (hn : (fn.name == "runtime.NumGoroutine") = false) (hb : fn.body.isNone = false)
    {s : Sum} (hs : ∀ args H fr v us, s args H fr = some (true, v, us) → Inh args → InhH H → Nonempty (Run P fn args H fr v us)) : SumOk P f s := by
  refine ⟨⟨fn, hf, hn, hb⟩, fun F w0 w L h H fr args vs v us g hsub hfr hrel he => ?_⟩
  obtain ⟨R⟩ := hs _ _ _ _ _ he (fun i => ⟨L, _, hrel.2 i⟩) (fun n q hq => by
    obtain ⟨cs, hc, _⟩ := g.row n q (hsub n q hq)
    exact ⟨L, cs, hc⟩)
  obtain ⟨k, cargs, CH, ρ, outs, cres, srcs, q0, q1, q2, q3, q4, q5, q6, q7, q8, q9, q10, q11, q12, q13, q14, q15, q16⟩ := R
  let L1 : Lo := ⟨fun n => L.loc (ρ n), fun n => n < k ∧ L.live (ρ n)⟩
  have hback : Back L L1 ρ (Nat.blt · k) := fun n hp hl => ⟨⟨blt_lt hp, hl⟩, rfl⟩
  let F' : Nat → Prop := fun b => F b ∨ ∃ m q, h m = some q ∧ (∀ i r, lk? CH i = some r → r.ro = false → ρ i ≠ m) ∧ (L.loc m).ext ≠ 0 ∧ (L.loc m).block = b
  have hrow : ∀ n r, lk? CH n = some r → ∃ q, h (ρ n) = some q ∧ FitL q.c (renL ρ r.c) ∧ (r.ro = false → q.ro = false) := fun n r hr => by
    obtain ⟨_, _, q, h1, h2⟩ := q4 n r hr
    exact ⟨q, hsub _ _ h1, h2⟩
  have g1 : Good F' w L1 (lk? CH) w := by
    refine ⟨rfl, rfl, rfl, Nat.le_refl _, fun _ _ => rfl, ?_, ?_, ?_, ?_, ?_, ?_⟩
    · rintro b (hb | ⟨m, q, hq, _, hx, rfl⟩)
      · exact Nat.lt_of_lt_of_le (g.old b hb) g.size
      · exact (g.inside m q hq).resolve_left hx
    · intro n r hr
      obtain ⟨q, hq, _⟩ := hrow n r hr
      exact ⟨(q4 n r hr).1, g.live _ _ hq⟩
    · intro n r hr
      obtain ⟨q, hq, hfit, hro⟩ := hrow n r hr
      obtain ⟨cs, hc, hx⟩ := g.row _ _ hq
      refine ⟨cs, cells_unren hback (q4 n r hr).2.1 (hfit _ _ hc), ?_⟩
      rcases hx with hx | ⟨c, e, fz, h1, h2, h3, h4, h5⟩
      · exact .inl hx
      · exact .inr ⟨c, e, fz, h1, h2, h3, h4, fun hr => h5 (hro hr)⟩
    · intro n m r q hr hq hne hro
      obtain ⟨r', hr', _, hro1⟩ := hrow n r hr
      obtain ⟨q', hq', _, hro2⟩ := hrow m q hq
      refine g.apart _ _ r' q' hr' hq' (q5 n m r q hr hq hne hro) ?_
      rw [Bool.and_eq_false_iff] at hro ⊢
      exact hro.imp hro1 hro2
    · intro n r hr hro
      obtain ⟨r', hr', _, hro1⟩ := hrow n r hr
      by_cases hx : (L.loc (ρ n)).ext = 0
      · exact .inl hx
      · refine .inr ?_
        rintro (hb | ⟨m, q, hq, hall, hxm, hbm⟩)
        · exact ((g.own _ _ hr' (hro1 hro)).resolve_left hx) hb
        · have hne : ρ n ≠ m := hall n r hr hro
          rcases g.apart _ _ _ _ hr' hq hne (by simp [hro1 hro]) with h | h | h
          · exact hx h
          · exact hxm h
          · exact h hbm.symm
    · intro n r hr
      obtain ⟨r', hr', _⟩ := hrow n r hr
      exact g.inside _ _ hr'
  have hcrel : cargs.length = vs.length ∧ ∀ i, val L1 (cargs.getD i .any) (vs.getD i undef) := by
    refine ⟨q0.symm.trans hrel.1, fun i => ?_⟩
    exact val_unren hback (allNL_get q2 i) (q1 i _ _ (hrel.2 i))
  refine Calls.mono (calls_ok hf q6 q3 g1 (fun n hn hl => by have := hl.1; omega) hcrel) fun e w' he => ?_
  obtain ⟨v0, v', L2, h2, rfl, hle, hval, G2, hfit, hsrc⟩ := he
  refine ⟨v', rfl, ?_⟩
  -- where things lie behind it
  let L' : Lo := ⟨fun n => if fr ≤ n ∧ n < fr + outs.length then L2.loc (outs.getD (n - fr) 0) else L.loc n, fun n => L.live n ∨ ∃ x ∈ outs, n = fr + outs.idxOf x ∧ L2.live x⟩
  have hold : ∀ n, L.live n → L'.loc n = L.loc n := by
    intro n hl
    show (if fr ≤ n ∧ n < fr + outs.length then _ else _) = _
    rw [if_neg]
    rintro ⟨h1, h2⟩
    exact hfr n h1 (by omega) hl
  have hle' : L.le L' := fun n hl => ⟨.inl hl, hold n hl⟩
  have hidx : ∀ x ∈ outs, outs.idxOf x < outs.length := fun x hx => List.idxOf_lt_length_iff.2 hx
  have hmoves : Moves L2 L' (ren2 k ρ fr outs) (fun n => isRow CH n || mem n outs) := by
    intro n hp hl
    simp only [Bool.or_eq_true] at hp
    rcases hp with hp | hp
    · unfold isRow at hp
      split at hp
      · rename_i r hr
        obtain ⟨q, hq, _⟩ := hrow n r hr
        have hnk := (q4 n r hr).1
        have hlive := g.live _ _ hq
        simp only [ren2, if_pos hnk]
        refine ⟨.inl hlive, ?_⟩
        rw [hold _ hlive]
        exact ((hle n hnk ⟨hnk, hlive⟩).2).symm
      · simp at hp
    · have hx := mem_spec.1 hp
      have hnk : ¬ n < k := by have := q8 n hx; omega
      simp only [ren2, if_neg hnk]
      refine ⟨.inr ⟨n, hx, rfl, hl⟩, ?_⟩
      have := hidx n hx
      show (if fr ≤ fr + outs.idxOf n ∧ fr + outs.idxOf n < fr + outs.length then _ else _) = _
      rw [if_pos ⟨by omega, by omega⟩]
      have e : fr + outs.idxOf n - fr = outs.idxOf n := by omega
      rw [e, List.getD_eq_getElem?_getD, List.getElem?_eq_getElem this]
      simp
  have hsrcLive : ∀ p ∈ srcs, L2.live p.1 := fun p hp => by
    obtain ⟨r, hr, _⟩ := hsrc p hp
    exact G2.live _ _ hr
  have hin : ∀ p ∈ srcs, (isRow CH p.1 || mem p.1 outs) = true := fun p hp => by
    rcases q11 p hp with h | ⟨r, hr, _⟩
    · rw [mem_spec.2 h]; simp
    · simp [isRow, hr]
  have hinj : ∀ p ∈ srcs, ∀ q ∈ srcs, ren2 k ρ fr outs p.1 = ren2 k ρ fr outs q.1 → p.1 = q.1 := by
    intro p hp q hq e
    have hlt : ∀ r, lk? CH p.1 = some r → p.1 < k := fun r hr => (q4 _ _ hr).1
    rcases q11 p hp with h1 | ⟨r1, hr1, hro1⟩ <;> rcases q11 q hq with h2 | ⟨r2, hr2, hro2⟩
    · have a1 : ¬ p.1 < k := by have := q8 _ h1; omega
      have a2 : ¬ q.1 < k := by have := q8 _ h2; omega
      simp only [ren2, if_neg a1, if_neg a2] at e
      have e : outs.idxOf p.1 = outs.idxOf q.1 := by omega
      have b1 := hidx _ h1
      have b2 := hidx _ h2
      have c1 : outs[outs.idxOf p.1] = p.1 := List.getElem_idxOf b1
      have c2 : outs[outs.idxOf q.1] = q.1 := List.getElem_idxOf b2
      rw [← c1, ← c2]
      simp only [e]
    · exfalso
      have a1 : ¬ p.1 < k := by have := q8 _ h1; omega
      have a2 : q.1 < k := (q4 _ _ hr2).1
      simp only [ren2, if_neg a1, if_pos a2] at e
      obtain ⟨q', hq', _⟩ := hrow _ _ hr2
      have := hidx _ h1
      exact hfr (ρ q.1) (by omega) (by omega) (g.live _ _ hq')
    · exfalso
      have a1 : ¬ q.1 < k := by have := q8 _ h2; omega
      have a2 : p.1 < k := (q4 _ _ hr1).1
      simp only [ren2, if_neg a1, if_pos a2] at e
      obtain ⟨q', hq', _⟩ := hrow _ _ hr1
      have := hidx _ h2
      exact hfr (ρ p.1) (by omega) (by omega) (g.live _ _ hq')
    · have a1 : p.1 < k := (q4 _ _ hr1).1
      have a2 : q.1 < k := (q4 _ _ hr2).1
      simp only [ren2, if_pos a1, if_pos a2] at e
      rcases Nat.decEq p.1 q.1 with hne | heq
      · exact absurd e (q5 _ _ _ _ hr1 hr2 hne (by simp [hro1]))
      · exact heq
  have hkeys : (srcs.map fun p => ren2 k ρ fr outs p.1).Nodup := by
    have e : (srcs.map fun p => ren2 k ρ fr outs p.1) = (srcs.map (·.1)).map (ren2 k ρ fr outs) := by simp [List.map_map, Function.comp_def]
    rw [e]
    refine nodup_map q12 fun x hx y hy hxy => ?_
    obtain ⟨p, hp, rfl⟩ := List.mem_map.1 hx
    obtain ⟨q, hq, rfl⟩ := List.mem_map.1 hy
    exact hinj p hp q hq hxy
  have hcls : ∀ n r, applyUps h us n = some r → (∃ p ∈ srcs, n = ren2 k ρ fr outs p.1 ∧ r = ⟨false, renL (ren2 k ρ fr outs) p.2⟩) ∨ ((∀ p ∈ srcs, n ≠ ren2 k ρ fr outs p.1) ∧ h n = some r) := by
    intro n r hr
    by_cases hex : ∃ p ∈ srcs, n = ren2 k ρ fr outs p.1
    · obtain ⟨p, hp, rfl⟩ := hex
      rw [q16, applyUps_map (fun p => ren2 k ρ fr outs p.1) (fun p => some ⟨false, renL (ren2 k ρ fr outs) p.2⟩) srcs h hkeys p hp] at hr
      simp only [Option.some.injEq] at hr
      exact .inl ⟨p, hp, rfl, hr.symm⟩
    · have hall : ∀ p ∈ srcs, n ≠ ren2 k ρ fr outs p.1 := fun p hp e => hex ⟨p, hp, e⟩
      refine .inr ⟨hall, ?_⟩
      rw [q16, applyUps_ne] at hr
      · exact hr
      · rw [keysOf_map]
        intro hmem
        obtain ⟨p, hp, e⟩ := List.mem_map.1 hmem
        exact hall p hp e.symm
  have hmv : ∀ p ∈ srcs, L'.live (ren2 k ρ fr outs p.1) ∧ L'.loc (ren2 k ρ fr outs p.1) = L2.loc p.1 := fun p hp => hmoves p.1 (hin p hp) (hsrcLive p hp)
  have hunch : ∀ n r, (∀ p ∈ srcs, n ≠ ren2 k ρ fr outs p.1) → h n = some r → (L.loc n).ext ≠ 0 → F' (L.loc n).block := by
    intro n r hall hr hx
    refine .inr ⟨n, r, hr, fun i r' hi hro e => ?_, hx, rfl⟩
    obtain ⟨p, hp, hpi⟩ := List.mem_map.1 (q10 i r' hi hro)
    have hik := (q4 i r' hi).1
    refine hall p hp ?_
    have : p.1 = i := hpi
    simp only [ren2, this, if_pos hik, e]
  refine ⟨L', hle', ?_, ?_, ?_⟩
  · rintro n (hl | ⟨x, hx, rfl, _⟩)
    · exact .inl hl
    · have := hidx x hx
      exact .inr ⟨by omega, by omega⟩
  · rw [q15]
    exact val_ren hmoves q14 (hfit _ _ hval)
  · refine ⟨G2.os.trans g.os, G2.tape.trans g.tape, G2.output.trans g.output, Nat.le_trans g.size G2.size, ?_, g.old, ?_, ?_, ?_, ?_, ?_⟩
    · intro b hb
      exact (G2.keep b (.inl hb)).trans (g.keep b hb)
    · intro n r hr
      rcases hcls n r hr with ⟨p, hp, rfl, rfl⟩ | ⟨hall, hh⟩
      · exact (hmv p hp).1
      · exact .inl (g.live n r hh)
    · intro n r hr
      rcases hcls n r hr with ⟨p, hp, rfl, rfl⟩ | ⟨hall, hh⟩
      · obtain ⟨r0, hr0, hro0, hfit0⟩ := hsrc p hp
        obtain ⟨cs, hc, hx⟩ := G2.row _ _ hr0
        refine ⟨cs, cells_ren hmoves (q13 p hp) (hfit0 _ _ hc), ?_⟩
        rw [(hmv p hp).2]
        rcases hx with hx | ⟨c, e, fz, h1, h2, h3, h4, h5⟩
        · exact .inl hx
        · exact .inr ⟨c, e, fz, h1, h2, h3, h4, fun _ => h5 hro0⟩
      · refine rowOK_of hle' (g.live n r hh) (g.row n r hh) ?_
        by_cases hx : (L.loc n).ext = 0
        · exact .inl hx
        · exact .inr (G2.keep _ (hunch n r hall hh hx))
    · have mixed : ∀ p ∈ srcs, ∀ m q, (∀ p ∈ srcs, m ≠ ren2 k ρ fr outs p.1) → h m = some q → (L2.loc p.1).ext = 0 ∨ (L.loc m).ext = 0 ∨ (L2.loc p.1).block ≠ (L.loc m).block := by
        intro p hp m q hall hq
        obtain ⟨r0, hr0, hro0, _⟩ := hsrc p hp
        by_cases hx : (L.loc m).ext = 0
        · exact .inr (.inl hx)
        · rcases G2.own _ _ hr0 hro0 with h1 | h1
          · exact .inl h1
          · refine .inr (.inr fun e => h1 ?_)
            rw [e]; exact hunch m q hall hq hx
      intro n m r q hr hq hne hro
      rcases hcls n r hr with ⟨p, hp, rfl, rfl⟩ | ⟨hall, hh⟩ <;> rcases hcls m q hq with ⟨p', hp', rfl, rfl⟩ | ⟨hall', hh'⟩
      · obtain ⟨r0, hr0, hro0, _⟩ := hsrc p hp
        obtain ⟨r1, hr1, hro1, _⟩ := hsrc p' hp'
        rw [(hmv p hp).2, (hmv p' hp').2]
        refine G2.apart _ _ _ _ hr0 hr1 (fun e => hne (by rw [e])) (by simp [hro0])
      · rw [(hmv p hp).2, hold m (g.live _ _ hh')]
        exact mixed p hp m q hall' hh'
      · rw [(hmv p' hp').2, hold n (g.live _ _ hh)]
        rcases mixed p' hp' n r hall hh with h1 | h1 | h1
        · exact .inr (.inl h1)
        · exact .inl h1
        · exact .inr (.inr (Ne.symm h1))
      · rw [hold n (g.live _ _ hh), hold m (g.live _ _ hh')]
        exact g.apart n m r q hh hh' hne hro
    · intro n r hr hro
      rcases hcls n r hr with ⟨p, hp, rfl, rfl⟩ | ⟨hall, hh⟩
      · obtain ⟨r0, hr0, hro0, _⟩ := hsrc p hp
        rw [(hmv p hp).2]
        exact (G2.own _ _ hr0 hro0).imp id fun h hb => h (.inl hb)
      · rw [hold n (g.live _ _ hh)]
        exact g.own n r hh hro
    · intro n r hr
      rcases hcls n r hr with ⟨p, hp, rfl, rfl⟩ | ⟨hall, hh⟩
      · obtain ⟨r0, hr0, _⟩ := hsrc p hp
        rw [(hmv p hp).2]
        exact G2.inside _ _ hr0
      · rw [hold n (g.live _ _ hh)]
        exact (g.inside n r hh).imp id fun h => Nat.lt_of_lt_of_le h G2.size

end Go.Bx

/-
  A state seen as another: forgetting what is no more needed, names changed.
-/
namespace Go.Bx

noncomputable def nm (rn : List (Nat × Nat)) (n : Nat) : Nat := match lk? rn n with | some m => m | none => n

noncomputable def capFit : Option Nat → Option Nat → Bool
  | _, none => true
  | some c, some d => Nat.beq c d
  | _, _ => false

/-- What the first is, the second is. `rn`: the first state's names for the second's; `E`: names of new empty rows. -/
noncomputable def fitV0 (rn : List (Nat × Nat)) (E : List Nat) (a A : AVal) : Prop :=
  match A with
  | .any => True ∧ true = true
  | .nat k n lo hi => match a with
    | .nat k' n' lo' hi' => n' = n ∧ (keq k' k && Nat.ble lo lo' && Nat.ble hi' hi) = true
    | _ => False
  | .int k n => match a with
    | .int k' n' => n' = n ∧ keq k' k = true
    | .nat k' n' _ _ => (n' : Int) = n ∧ keq k' k = true
    | .neg k' m' => Int.negSucc m' = n ∧ keq k' k = true
    | _ => False
  | .neg k m => match a with
    | .neg k' m' => m' = m ∧ keq k' k = true
    | _ => False
  | .bool b => match a with
    | .bool b' => b' = b ∧ true = true
    | _ => False
  | .ob b => match a with
    | .bool b' => b' = b ∧ true = true
    | .ob b' => b' = b ∧ true = true
    | _ => False
  | .str s => match a with
    | .str s' => s' = s ∧ true = true
    | _ => False
  | .ints k n xs => match a with
    | .ints k' n' xs' => (n' = n ∧ xs' = xs) ∧ keq k' k = true
    | .nats k' _ n' xs' => (n' = n ∧ xs'.map Int.ofNat = xs) ∧ keq k' k = true
    | _ => False
  | .nats k h n xs => match a with
    | .nats k' h' n' xs' => (n' = n ∧ xs' = xs) ∧ (keq k' k && Nat.ble h' h) = true
    | _ => False
  | .ptr n off => match a with
    | .ptr n' off' => off' = off ∧ (Nat.beq n' (nm rn n) && !mem n E) = true
    | _ => False
  | .nilp => match a with
    | .nilp => True ∧ true = true
    | _ => False
  | .slice n off sz len lo hi cap => match a with
    | .slice n' off' sz' len' lo' hi' cap' =>
        (Bool.rec (motive := fun _ => Prop) (len' = len ∧ off' = off) (len = 0) (mem n E)) ∧
        (bif mem n E then capFit cap' (some 0) && Nat.ble lo 0 && capFit (some 0) cap else Nat.beq n' (nm rn n) && Nat.beq sz' sz && Nat.ble lo lo' && Nat.ble hi' hi && capFit cap' cap) = true
    | _ => False
  | _ => False

noncomputable def sameArr (a A : AVal) : Bool := match isArr a, isArr A with | true, true => true | false, false => true | _, _ => false

noncomputable def fitL (rn : List (Nat × Nat)) (E : List Nat) : List AVal → List AVal → Prop
  | [], l' => match l' with
    | [] => True
    | _ => False
  | A :: l, l' => match l' with
    | a :: l' => (fitV0 rn E a A ∧ sameArr a A = true) ∧ fitL rn E l l'
    | [] => False

noncomputable def fitV (rn : List (Nat × Nat)) (E : List Nat) (a A : AVal) : Prop :=
  match A with
  | .agg l => match a with
    | .agg l' => fitL rn E l l'
    | _ => False
  | .func f l => match l with
    | [] => match a with
      | .func f' l' => match l' with
        | [] => f' = f
        | _ => False
      | _ => False
    | _ => False
  | A => fitV0 rn E a A

noncomputable def fitSl (rn : List (Nat × Nat)) (E : List Nat) (sl : List (Nat × AVal)) : List (Nat × AVal) → Prop
  | [] => True
  | (t, A) :: l => fitV rn E (lk .any sl t) A ∧ fitSl rn E sl l

noncomputable def isNil : List AVal → Bool
  | [] => true
  | a :: l => match a with
    | .ints _ n xs => match xs with | [] => Nat.beq n 0 && isNil l | _ => false
    | .nats _ _ n xs => match xs with | [] => Nat.beq n 0 && isNil l | _ => false
    | _ => false

noncomputable def fitRow (rn : List (Nat × Nat)) (E : List Nat) (q : Option Row) (R : Row) (n : Nat) : Prop :=
  Bool.rec (motive := fun _ => Prop) (match q with
    | some q => fitL rn E R.c q.c ∧ (R.ro || !q.ro) = true
    | none => False) (isNil R.c = true) (mem n E)

noncomputable def fitHp (rn : List (Nat × Nat)) (E : List Nat) (hp : Heap) : Heap → Prop
  | [] => True
  | (n, R) :: l => fitRow rn E (lk? hp (nm rn n)) R n ∧ fitHp rn E hp l

/-- Rows of different names lie under different names. -/
noncomputable def injOk (rn : List (Nat × Nat)) (E : List Nat) : Heap → Bool
  | [] => true
  | (n, R) :: l => injOne rn E n R l && injOk rn E l
where injOne (rn : List (Nat × Nat)) (E : List Nat) (n : Nat) (R : Row) : Heap → Bool
  | [] => true
  | (k, Q) :: l => (Nat.beq n k || mem n E || mem k E || (R.ro && Q.ro) || !Nat.beq (nm rn n) (nm rn k)) && injOne rn E n R l

noncomputable def namesOk (p : Nat → Bool) : List (Nat × AVal) → Bool
  | [] => true
  | (_, A) :: l => allN0 p A && namesOk p l
where
  allN0 (p : Nat → Bool) : AVal → Bool
  | .ptr n _ => p n
  | .slice n _ _ _ _ _ _ => p n
  | .agg l => allP p l
  | _ => true
  allP (p : Nat → Bool) : List AVal → Bool
  | [] => true
  | a :: l => (match a with | .ptr n _ => p n | .slice n _ _ _ _ _ _ => p n | .agg _ => false | .tuple _ => false | _ => true) && allP p l

noncomputable def rowsOk (p : Nat → Bool) : Heap → Bool
  | [] => true
  | (n, R) :: l => p n && namesOk.allP p R.c && rowsOk p l

noncomputable def highAll (m : Nat) : List Nat → Bool
  | [] => true
  | n :: l => Nat.ble m n && highAll m l

noncomputable def checkS (m : Nat) (rn : List (Nat × Nat)) (E : List Nat) (S : St) : Bool :=
  Nat.ble m S.nx && highAll m (keysOf rn) && highAll m E && namesOk (Nat.blt · S.nx) S.sl && rowsOk (Nat.blt · S.nx) S.hp && injOk rn E S.hp

noncomputable def fitS (m : Nat) (rn : List (Nat × Nat)) (E : List Nat) (s S : St) : Prop :=
  fitSl rn E s.sl S.sl ∧ fitHp rn E s.hp S.hp ∧ checkS m rn E S = true

/-- The run has one end, and this is it; `C`: on condition. -/
noncomputable def okX (m : Nat) (rn : List (Nat × Nat)) (E : List Nat) (r : Option (Bool × Out × St)) (C : Bool) (o : Out) (S : St) : Prop :=
  match r with
  | some (c, o', s) => c = C ∧ outEq o' o = true ∧ fitS m rn E s S
  | none => False

/-! ### The same with itself -/

noncomputable def selfV0 (E : List Nat) : AVal → Prop
  | .nat _ n _ _ => n = n ∧ true = true
  | .int _ n => n = n ∧ true = true
  | .neg _ m => m = m ∧ true = true
  | .bool b => b = b ∧ true = true
  | .ob b => b = b ∧ true = true
  | .str s => s = s ∧ true = true
  | .ints _ n xs => (n = n ∧ xs = xs) ∧ true = true
  | .nats _ _ n xs => (n = n ∧ xs = xs) ∧ true = true
  | .ptr _ off => off = off ∧ true = true
  | .slice n off _ len _ _ _ => (Bool.rec (motive := fun _ => Prop) (len = len ∧ off = off) ((0 : Nat) = 0) (mem n E)) ∧ true = true
  | _ => True ∧ true = true

noncomputable def selfL (E : List Nat) : List AVal → Prop
  | [] => True
  | A :: l => (selfV0 E A ∧ true = true) ∧ selfL E l

noncomputable def selfV (E : List Nat) (A : AVal) : Prop :=
  match A with
  | .agg l => selfL E l
  | .func f _ => f = f
  | A => selfV0 E A

noncomputable def selfSl (E : List Nat) : List (Nat × AVal) → Prop
  | [] => True
  | (_, A) :: l => selfV E A ∧ selfSl E l

noncomputable def selfHp (E : List Nat) : Heap → Prop
  | [] => True
  | (n, R) :: l => (Bool.rec (motive := fun _ => Prop) (selfL E R.c ∧ true = true) (true = true) (mem n E)) ∧ selfHp E l

noncomputable def selfX (E : List Nat) (C : Bool) (S : St) : Prop := C = C ∧ true = true ∧ selfSl E S.sl ∧ selfHp E S.hp ∧ true = true

theorem selfV0_true (E : List Nat) (A : AVal) : selfV0 E A := by
  cases A <;> simp only [selfV0, and_self]
  case slice n off sz len lo hi cap => cases mem n E <;> simp

theorem selfL_true (E : List Nat) : ∀ l, selfL E l
  | [] => trivial
  | A :: l => ⟨⟨selfV0_true E A, rfl⟩, selfL_true E l⟩

theorem selfV_true (E : List Nat) (A : AVal) : selfV E A := by
  cases A <;> simp only [selfV] <;> first | exact selfL_true _ _ | exact selfV0_true _ _

theorem selfSl_true (E : List Nat) : ∀ l, selfSl E l
  | [] => trivial
  | (_, A) :: l => ⟨selfV_true E A, selfSl_true E l⟩

theorem selfHp_true (E : List Nat) : ∀ l, selfHp E l
  | [] => trivial
  | (n, R) :: l => ⟨by cases mem n E <;> simp [selfL_true], selfHp_true E l⟩

theorem selfX_true (E : List Nat) (C : Bool) (S : St) : selfX E C S := ⟨rfl, rfl, selfSl_true E _, selfHp_true E _, rfl⟩

/-- Where things lie, seen under the other names. -/
noncomputable def Lo.re (L : Lo) (rn : List (Nat × Nat)) (E : List Nat) (k : Nat) : Lo :=
  ⟨fun n => if n ∈ E then ⟨0, 0, 0⟩ else L.loc (nm rn n), fun n => n < k ∧ (n ∈ E ∨ L.live (nm rn n))⟩

theorem mem_false {n : Nat} {l : List Nat} (h : mem n l = false) : n ∉ l := fun hm => by
  have := mem_spec.2 hm
  rw [h] at this; simp at this

theorem re_addr {L : Lo} {rn : List (Nat × Nat)} {E : List Nat} {k n : Nat} (h : n ∉ E) (off : Nat) : (L.re rn E k).addr n off = L.addr (nm rn n) off := by
  simp [Lo.addr, Lo.re, h]

theorem val0_iff {L : Lo} {z : AVal} (hz : isArr z = false) (v : Value) : val0 L z v ↔ (val L z v ∧ (z = .any → v.oneCell' = true) ∧ (match z with | .agg _ => False | .tuple _ => False | .func _ _ => False | _ => True)) := by
  cases z <;> simp only [isArr, reduceCtorEq] at hz <;> simp [val, val1, val0]

theorem fitV0_val {L : Lo} {rn : List (Nat × Nat)} {E : List Nat} {k : Nat} {a A : AVal} (h : fitV0 rn E a A) (hn : namesOk.allN0 (Nat.blt · k) A = true) {v : Value} (hv : val L a v) : val (L.re rn E k) A v := by
  cases A <;> simp only [fitV0] at h
  case any => exact trivial
  case bool b =>
    cases a <;> simp only at h
    obtain ⟨rfl, _⟩ := h; exact hv
  case ob b =>
    cases a <;> simp only at h <;> (obtain ⟨rfl, _⟩ := h; exact hv)
  case int K n =>
    cases a <;> simp only at h
    · obtain ⟨rfl, hk⟩ := h; have := keq_eq hk; subst this; exact hv
    · obtain ⟨rfl, hk⟩ := h; have := keq_eq hk; subst this; exact hv
    · obtain ⟨rfl, hk⟩ := h; have := keq_eq hk; subst this; exact hv.1
  case neg K n =>
    cases a <;> simp only at h
    obtain ⟨rfl, hk⟩ := h; have := keq_eq hk; subst this; exact hv
  case nat K n lo hi =>
    cases a <;> simp only at h
    obtain ⟨rfl, hk⟩ := h
    simp only [Bool.and_eq_true] at hk
    have := keq_eq hk.1.1; subst this
    have h1 := ble_le hk.1.2
    have h2 := ble_le hk.2
    obtain ⟨e, e1, e2⟩ := hv
    exact ⟨e, by omega, by omega⟩
  case str s =>
    cases a <;> simp only at h
    obtain ⟨rfl, _⟩ := h; exact hv
  case nilp =>
    cases a <;> simp only at h
    exact hv
  case ptr n off =>
    cases a <;> simp only at h
    obtain ⟨rfl, hk⟩ := h
    simp only [Bool.and_eq_true, Bool.not_eq_true'] at hk
    have e1 := beq_eq' hk.1
    have e2 := mem_false hk.2
    obtain ⟨hl, e⟩ := hv
    subst e1
    refine ⟨⟨blt_lt hn, .inr hl⟩, ?_⟩
    rw [re_addr e2]; exact e
  case slice n off sz len lo hi cap =>
    cases a <;> simp only at h
    rename_i n' off' sz' len' lo' hi' cap'
    obtain ⟨h1, h2⟩ := h
    obtain ⟨b1, b2, b3⟩ := hv
    cases hm : mem n E <;> rw [hm] at h1 h2 <;> simp only [cond_false, cond_true] at h1 h2
    · obtain ⟨rfl, rfl⟩ := h1
      simp only [Bool.and_eq_true] at h2
      obtain ⟨⟨⟨⟨c1, c2⟩, c3⟩, c4⟩, c5⟩ := h2
      have c1 := beq_eq' c1
      have c2 := beq_eq' c2
      have c3 := ble_le c3
      have c4 := ble_le c4
      subst c1; subst c2
      have hc : ∀ c, cap = some c → cap' = some c := by
        intro c e
        subst e
        cases cap' with
        | none => simp [capFit] at c5
        | some d => simp only [capFit] at c5; rw [beq_eq' c5]
      refine ⟨by omega, by omega, ?_⟩
      rcases b3 with ⟨z, b4, b5⟩ | ⟨hl, c, e, b4, b5, b6⟩
      · exact .inl ⟨z, fun c e => b4 c (hc c e), b5⟩
      · refine .inr ⟨⟨blt_lt hn, .inr hl⟩, c, ?_, b4, ?_, fun c' e => b6 c' (hc c' e)⟩
        · rw [re_addr (mem_false hm)]; exact e
        · simpa [Lo.re, mem_false hm] using b5
    · subst h1
      simp only [Bool.and_eq_true] at h2
      obtain ⟨⟨c1, c2⟩, c3⟩ := h2
      have c2 := ble_le c2
      have e0 : cap' = some 0 := by
        cases cap' with
        | none => simp [capFit] at c1
        | some d => simp only [capFit] at c1; rw [beq_eq' c1]
      subst e0
      have hc : ∀ c, cap = some c → c = 0 := by
        intro c e
        subst e
        simp only [capFit] at c3
        exact (beq_eq' c3).symm
      refine ⟨by omega, by omega, .inl ⟨rfl, hc, ?_⟩⟩
      rcases b3 with ⟨z, b4, a, b5⟩ | ⟨hl, c, e, b4, b5, b6⟩
      · exact ⟨a, b5⟩
      · have := b6 0 rfl
        subst this
        have : len' = 0 := by omega
        subst this
        exact ⟨_, e⟩
  case ints K n xs =>
    cases a <;> simp only at h
    · obtain ⟨⟨rfl, rfl⟩, hk⟩ := h
      have := keq_eq hk; subst this
      exact hv
    · obtain ⟨⟨rfl, rfl⟩, hk⟩ := h
      have := keq_eq hk; subst this
      obtain ⟨cs, ⟨e1, e2, e3⟩, e4⟩ := hv
      exact ⟨cs, ⟨by simpa using e1, by rw [e3]; simp [List.map_map, Function.comp_def]⟩, e4⟩
  case nats K hh n xs =>
    cases a <;> simp only at h
    obtain ⟨⟨rfl, rfl⟩, hk⟩ := h
    simp only [Bool.and_eq_true] at hk
    have := keq_eq hk.1; subst this
    have h2 := ble_le hk.2
    obtain ⟨cs, ⟨e1, e2, e3⟩, e4⟩ := hv
    exact ⟨cs, ⟨e1, fun x hx => Nat.le_trans (e2 x hx) h2, e3⟩, e4⟩

theorem fitPc_ok {L : Lo} {rn : List (Nat × Nat)} {E : List Nat} {k : Nat} {a A : AVal} (h : fitV0 rn E a A) (hs : sameArr a A = true) (hn : namesOk.allN0 (Nat.blt · k) A = true) {cs : List Value} (hp : piece L a cs) : piece (L.re rn E k) A cs := by
  unfold sameArr at hs
  cases ha : isArr a <;> cases hA : isArr A <;> rw [ha, hA] at hs <;> simp only [Bool.false_eq_true] at hs
  · obtain ⟨v, rfl, hv⟩ := (piece_one' ha).1 hp
    refine (piece_one' hA).2 ⟨v, rfl, (val0_iff hA v).2 ⟨fitV0_val h hn ((val0_iff ha v).1 hv).1, fun _ => val0_one hv, ?_⟩⟩
    cases A <;> simp only [fitV0] at h <;> trivial
  · rw [piece_arr hA]
    exact fitV0_val h hn ((piece_arr ha).1 hp)

theorem allP_one {p : Nat → Bool} {A : AVal} {l : List AVal} (h : namesOk.allP p (A :: l) = true) : namesOk.allN0 p A = true ∧ namesOk.allP p l = true := by
  simp only [namesOk.allP, Bool.and_eq_true] at h
  refine ⟨?_, h.2⟩
  cases A <;> simp only [namesOk.allN0] <;> first | rfl | exact h.1 | simp at h

theorem fitL_ok {L : Lo} {rn : List (Nat × Nat)} {E : List Nat} {k : Nat} : ∀ {l l' : List AVal}, fitL rn E l l' → namesOk.allP (Nat.blt · k) l = true → ∀ {cs : List Value}, cells L l' cs → cells (L.re rn E k) l cs
  | [], l', h, _, cs, hc => by
    cases l' with
    | nil => exact hc
    | cons a l' => exact h.elim
  | A :: l, l', h, hn, cs, hc => by
    cases l' with
    | nil => exact h.elim
    | cons a l' =>
      obtain ⟨⟨h1, h2⟩, h3⟩ := h
      obtain ⟨n1, n2⟩ := allP_one hn
      obtain ⟨c, d, e, hp, hd⟩ := hc
      exact ⟨c, d, e, fitPc_ok h1 h2 n1 hp, fitL_ok h3 n2 hd⟩

theorem fitV_ok {L : Lo} {rn : List (Nat × Nat)} {E : List Nat} {k : Nat} {a A : AVal} (h : fitV rn E a A) (hn : namesOk.allN0 (Nat.blt · k) A = true) {v : Value} (hv : val L a v) : val (L.re rn E k) A v := by
  unfold fitV at h
  split at h
  · rename_i l
    split at h
    · rename_i l'
      obtain ⟨cs, hc, e⟩ := hv
      exact ⟨cs, fitL_ok h (by simpa [namesOk.allN0] using hn) hc, e⟩
    · exact h.elim
  · split at h
    · split at h
      · split at h
        · subst h
          obtain ⟨vs, hvs, e⟩ := hv
          exact ⟨vs, hvs, e⟩
        · exact h.elim
      · exact h.elim
    · exact h.elim
  · exact fitV0_val h hn hv

theorem fitSl_ok {L : Lo} {rn : List (Nat × Nat)} {E : List Nat} {k : Nat} {sl : List (Nat × AVal)} {tv : Nat → Value} (hv : ∀ t, val L (lk .any sl t) (tv t)) : ∀ {l : List (Nat × AVal)}, fitSl rn E sl l → namesOk (Nat.blt · k) l = true → ∀ t, val (L.re rn E k) (lk .any l t) (tv t)
  | [], _, _, t => trivial
  | (u, A) :: l, h, hn, t => by
    simp only [namesOk, Bool.and_eq_true] at hn
    have e : lk AVal.any ((u, A) :: l) t = if u = t then A else lk .any l t := by
      rw [lk_eq, lk_eq, lk?_cons]
      split <;> rfl
    rw [e]
    split
    · rename_i e; subst e
      exact fitV_ok h.1 hn.1 (hv u)
    · exact fitSl_ok hv h.2 hn.2 t

theorem fitHp_ok {rn : List (Nat × Nat)} {E : List Nat} {hp : Heap} : ∀ {l : Heap}, fitHp rn E hp l → ∀ n R, lk? l n = some R → fitRow rn E (lk? hp (nm rn n)) R n
  | [], _, n, R, h => by simp [lk?_nil] at h
  | (u, Q) :: l, hf, n, R, h => by
    rw [lk?_cons] at h
    split at h
    · rename_i e
      simp only at e h
      subst e
      simp only [Option.some.injEq] at h; subst h
      exact hf.1
    · exact fitHp_ok hf.2 n R h

theorem rowsOk_ok {p : Nat → Bool} : ∀ {l : Heap}, rowsOk p l = true → ∀ n R, lk? l n = some R → p n = true ∧ namesOk.allP p R.c = true
  | [], _, n, R, h => by simp [lk?_nil] at h
  | (u, Q) :: l, hf, n, R, h => by
    simp only [rowsOk, Bool.and_eq_true] at hf
    rw [lk?_cons] at h
    split at h
    · rename_i e
      simp only at e h
      subst e
      simp only [Option.some.injEq] at h; subst h
      exact hf.1
    · exact rowsOk_ok hf.2 n R h

theorem injOne_ok {rn : List (Nat × Nat)} {E : List Nat} {n : Nat} {R : Row} : ∀ {l : Heap}, injOk.injOne rn E n R l = true → ∀ k Q, lk? l k = some Q → n ≠ k → n ∉ E → k ∉ E → (R.ro && Q.ro) = false → nm rn n ≠ nm rn k
  | [], _, k, Q, h => by simp [lk?_nil] at h
  | (u, Q') :: l, hf, k, Q, h => by
    simp only [injOk.injOne, Bool.and_eq_true] at hf
    intro hne hE hE' hro
    rw [lk?_cons] at h
    split at h
    · rename_i e
      simp only at e h
      subst e
      simp only [Option.some.injEq] at h; subst h
      have := hf.1
      simp only [Bool.or_eq_true, Bool.not_eq_true'] at this
      rcases this with (((h1 | h1) | h1) | h1) | h1
      · exact absurd (beq_eq' h1) hne
      · exact absurd (mem_spec.1 h1) hE
      · exact absurd (mem_spec.1 h1) hE'
      · rw [h1] at hro; simp at hro
      · intro e; rw [e] at h1; simp at h1
    · exact injOne_ok hf.2 k Q h hne hE hE' hro

theorem injOk_ok {rn : List (Nat × Nat)} {E : List Nat} : ∀ {l : Heap}, injOk rn E l = true → ∀ n k R Q, lk? l n = some R → lk? l k = some Q → n ≠ k → n ∉ E → k ∉ E → (R.ro && Q.ro) = false → nm rn n ≠ nm rn k
  | [], _, n, k, R, Q, h, _ => by simp [lk?_nil] at h
  | (u, Q') :: l, hf, n, k, R, Q, h, h' => by
    simp only [injOk, Bool.and_eq_true] at hf
    intro hne hE hE' hro
    rw [lk?_cons] at h h'
    split at h
    · rename_i e
      simp only at e h
      subst e
      simp only [Option.some.injEq] at h; subst h
      split at h'
      · rename_i e; exact absurd e hne
      · exact injOne_ok hf.1 k Q h' hne hE hE' hro
    · split at h'
      · rename_i e
        simp only at e h'
        subst e
        simp only [Option.some.injEq] at h'; subst h'
        exact (injOne_ok hf.1 n R h (Ne.symm hne) hE' hE (by rw [Bool.and_comm]; exact hro)).symm
      · exact injOk_ok hf.2 n k R Q h h' hne hE hE' hro

theorem highAll_ok {m : Nat} : ∀ {l : List Nat}, highAll m l = true → ∀ n ∈ l, m ≤ n
  | [], _, n, h => by simp at h
  | k :: l, hf, n, h => by
    simp only [highAll, Bool.and_eq_true] at hf
    rcases List.mem_cons.1 h with rfl | h
    · exact ble_le hf.1
    · exact highAll_ok hf.2 n h

theorem keysOf_memR {α : Type} {H : List (Nat × α)} {n : Nat} {q : α} (h : lk? H n = some q) : n ∈ keysOf H := by
  induction H with
  | nil => simp [lk?_nil] at h
  | cons p l ih =>
    rw [lk?_cons] at h
    simp only [keysOf, List.mem_cons]
    split at h
    · rename_i e; exact .inl e.symm
    · exact .inr (ih h)

theorem isNil_ok {L : Lo} : ∀ {l : List AVal}, isNil l = true → cells L l []
  | [], _ => rfl
  | a :: l, h => by
    cases a <;> simp only [isNil, Bool.false_eq_true] at h
    · rename_i k n xs
      cases xs <;> simp only [Bool.false_eq_true, Bool.and_eq_true] at h
      have := beq_eq' h.1; subst this
      exact ⟨[], [], rfl, ⟨rfl, rfl⟩, isNil_ok h.2⟩
    · rename_i k hh n xs
      cases xs <;> simp only [Bool.false_eq_true, Bool.and_eq_true] at h
      have := beq_eq' h.1; subst this
      exact ⟨[], [], rfl, ⟨rfl, by simp, rfl⟩, isNil_ok h.2⟩

theorem recast {F : Nat → Prop} {w0 w : World} {nt m : Nat} {L : Lo} {s S : St} {a : Act} {rn : List (Nat × Nat)} {E : List Nat} (cs : CodeSit F w0 nt L s a w) (h : fitS m rn E s S) :
    Lo.leN m L (L.re rn E S.nx) ∧ CodeSit F w0 nt (L.re rn E S.nx) S a w := by
  obtain ⟨h1, h2, h3⟩ := h
  simp only [checkS, Bool.and_eq_true] at h3
  obtain ⟨⟨⟨⟨⟨c1, c2⟩, c3⟩, c4⟩, c5⟩, c6⟩ := h3
  have c1 := ble_le c1
  have g := cs.sit.good
  have row : ∀ n R, lk? S.hp n = some R → n < S.nx ∧ ((n ∈ E ∧ isNil R.c = true) ∨ (n ∉ E ∧ ∃ q, lk? s.hp (nm rn n) = some q ∧ fitL rn E R.c q.c ∧ (R.ro = false → q.ro = false))) := by
    intro n R hR
    have hr := rowsOk_ok c5 n R hR
    refine ⟨blt_lt hr.1, ?_⟩
    have := fitHp_ok h2 n R hR
    unfold fitRow at this
    cases hm : mem n E <;> rw [hm] at this
    · simp only at this
      split at this
      · rename_i q hq
        refine .inr ⟨mem_false hm, q, hq, this.1, fun hro => ?_⟩
        have h' := this.2
        rw [hro] at h'
        simpa using h'
      · exact this.elim
    · simp only at this
      exact .inl ⟨mem_spec.1 hm, this⟩
  refine ⟨fun n hn hl => ?_, ⟨⟨?_, fitSl_ok cs.sit.slots h1 c4, cs.sit.size, cs.sit.defers⟩, fun n hn hl => by have := hl.1; omega⟩⟩
  · have hE : n ∉ E := fun h => by have := highAll_ok c3 n h; omega
    have hnm : nm rn n = n := by
      unfold nm
      cases hl : lk? rn n with
      | none => rfl
      | some x =>
        have : n ∈ keysOf rn := keysOf_memR hl
        have := highAll_ok c2 n this; omega
    exact ⟨⟨by omega, .inr (by rw [hnm]; exact hl)⟩, by simp [Lo.re, hE, hnm]⟩
  · refine ⟨g.os, g.tape, g.output, g.size, g.keep, g.old, ?_, ?_, ?_, ?_, ?_⟩
    · intro n R hR
      obtain ⟨hlt, h | ⟨hE, q, hq, _⟩⟩ := row n R hR
      · exact ⟨hlt, .inl h.1⟩
      · exact ⟨hlt, .inr (g.live _ q hq)⟩
    · intro n R hR
      have hr := rowsOk_ok c5 n R hR
      obtain ⟨hlt, ⟨hE, hnil⟩ | ⟨hE, q, hq, hf, hro⟩⟩ := row n R hR
      · exact ⟨[], isNil_ok hnil, .inl ⟨rfl, by simp [Lo.re, hE]⟩⟩
      · obtain ⟨ds, hc, hx⟩ := g.row _ q hq
        refine ⟨ds, fitL_ok hf hr.2 hc, ?_⟩
        have hloc : (L.re rn E S.nx).loc n = L.loc (nm rn n) := by simp [Lo.re, hE]
        rw [hloc]
        rcases hx with hx | ⟨c, e, fz, b1, b2, b3, b4, b5⟩
        · exact .inl hx
        · exact .inr ⟨c, e, fz, b1, b2, b3, b4, fun hr => b5 (hro hr)⟩
    · intro n k R Q hR hQ hne hro
      obtain ⟨_, ⟨hE, _⟩ | ⟨hE, q, hq, _, ho⟩⟩ := row n R hR
      · exact .inl (by simp [Lo.re, hE])
      · obtain ⟨_, ⟨hE', _⟩ | ⟨hE', q', hq', _, ho'⟩⟩ := row k Q hQ
        · exact .inr (.inl (by simp [Lo.re, hE']))
        · have hl1 : (L.re rn E S.nx).loc n = L.loc (nm rn n) := by simp [Lo.re, hE]
          have hl2 : (L.re rn E S.nx).loc k = L.loc (nm rn k) := by simp [Lo.re, hE']
          rw [hl1, hl2]
          refine g.apart _ _ q q' hq hq' (injOk_ok c6 n k R Q hR hQ hne hE hE' hro) ?_
          rw [Bool.and_eq_false_iff] at hro ⊢
          exact hro.imp ho ho'
    · intro n R hR hro
      obtain ⟨_, ⟨hE, _⟩ | ⟨hE, q, hq, _, ho⟩⟩ := row n R hR
      · exact .inl (by simp [Lo.re, hE])
      · have hl1 : (L.re rn E S.nx).loc n = L.loc (nm rn n) := by simp [Lo.re, hE]
        rw [hl1]
        exact g.own _ q hq (ho hro)
    · intro n R hR
      obtain ⟨_, ⟨hE, _⟩ | ⟨hE, q, hq, _, ho⟩⟩ := row n R hR
      · exact .inl (by simp [Lo.re, hE])
      · have hl1 : (L.re rn E S.nx).loc n = L.loc (nm rn n) := by simp [Lo.re, hE]
        rw [hl1]
        exact g.inside _ q hq

section
variable {P : Program} {nt m : Nat} {σ : List (Nat × Sum)}

theorem Runs.recast {c : Code} {s S : St} {K : Out → St → Prop} {rn : List (Nat × Nat)} {E : List Nat} (h : fitS m rn E s S) (hr : Runs P nt m c S K) : Runs P nt m c s K := by
  intro F w0 L a w cs
  obtain ⟨q1, q2⟩ := Bx.recast cs h
  exact wp_mono (hr F w0 _ a w q2) fun _ _ _ q => q.mono q1 fun _ _ q => q

theorem Runs.fit {c : Code} {s : St} {K K' : Out → St → Prop} (h : Runs P nt m c s K) (hk : ∀ o s1, K o s1 → ∃ S rn E, fitS m rn E s1 S ∧ K' o S) : Runs P nt m c s K' := by
  intro F w0 L a w cs
  refine wp_mono (h F w0 L a w cs) ?_
  rintro e a' w' ⟨o, s', L', rfl, h2, h3, h4⟩
  obtain ⟨S, rn, E, hf, hS⟩ := hk o s' h4
  obtain ⟨q1, q2⟩ := Bx.recast h3 hf
  exact ⟨o, S, _, rfl, Lo.leN_trans h2 q1, q2, hS⟩

/-- A run that was computed. -/
theorem runs_x (hσ : ∀ f s, lk? σ f = some s → SumOk P f s) (hm : P.follows .mixedOrders = true) {n : Nat} {c : Code} {s S : St} {rn : List (Nat × Nat)} {E : List Nat} {C : Bool} {o : Out}
    (h : okX m rn E (xA P σ nt n c s) C o S = selfX E C S) (hC : C = true) : Runs P nt m c s (KE o S) := by
  have h := h.mpr (selfX_true E C S)
  unfold okX at h
  split at h
  · rename_i c' o' s' hx
    obtain ⟨rfl, ho, hf⟩ := h
    subst hC
    have := outEq_eq ho
    subst this
    refine (xA_ok hσ hm _ _ _ _ _ hx).1.1.fit fun o1 s1 hk => ?_
    obtain ⟨rfl, rfl⟩ := hk
    exact ⟨S, rn, E, hf, rfl, rfl⟩
  · exact h.elim

/-- A run to the end that was computed. -/
theorem runs_k (hσ : ∀ f s, lk? σ f = some s → SumOk P f s) (hm : P.follows .mixedOrders = true) {n : Nat} {c : Code} {s s' : St} {o : Out}
    (h : xK P σ nt n (.run c) [] s = some (true, o, s')) : Runs P nt m c s (KE o s') :=
  ((xK_ok hσ hm n (.run c) [] s o s' h).2).out fun _ _ hk => hk

end
end Go.Bx

/-
  For the walks: a function's run, computed.
-/
namespace Go.Bx

def bodyOf (f : Func) : Code := match f.body with | some c => c | none => .skip
def seqA : Code → Code | .seq a _ => a | c => c
def seqB : Code → Code | .seq _ b => b | c => c
def inner : Code → Code | .loop b => b | .block _ b => b | .scope b => b | c => c
def condA : Code → Code | .cond _ a _ => a | c => c
def condB : Code → Code | .cond _ _ b => b | c => c

/-- The value at a function's end. -/
noncomputable def endV (P : Program) (rs : List ResultVar) (s : St) : Option (Bool × AVal) :=
  match resA P s rs with
  | some (c, vs) => some (c && okOut vs, oneOf vs)
  | none => none

theorem endA_of {P : Program} {rs : List ResultVar} {s : St} {K : AVal → Heap → Prop} {v : AVal} (h : endV P rs s = some (true, v)) (hk : K v s.hp) : endA P rs s K := by
  unfold endV at h
  unfold endA
  split at h
  · rename_i c vs hr
    simp only [Option.some.injEq, Prod.mk.injEq] at h
    rw [hr]
    simp only
    rw [h.1, cond_true, h.2]
    exact hk
  · simp at h

noncomputable def okEl : AVal → Bool
  | .tuple _ => false
  | .func _ _ => false
  | _ => true

noncomputable def fitT : List AVal → List AVal → Prop
  | [], l' => match l' with
    | [] => True
    | _ => False
  | A :: l, l' => match l' with
    | a :: l' => (fitV [] [] a A ∧ (okEl A && namesOk.allN0 (Nat.blt · 1000000000) A) = true) ∧ fitT l l'
    | [] => False

noncomputable def fitF (a A : AVal) : Prop :=
  match A with
  | .tuple l => match a with
    | .tuple l' => fitT l l'
    | _ => False
  | A => fitV [] [] a A ∧ namesOk.allN0 (Nat.blt · 1000000000) A = true

noncomputable def fitSrc (hp : Heap) : List (Nat × List AVal) → Prop
  | [] => True
  | (n, l) :: rest => (match lk? hp n with
    | some r => fitL [] [] l r.c ∧ (!r.ro && namesOk.allP (Nat.blt · 1000000000) l) = true
    | none => False) ∧ fitSrc hp rest

noncomputable def okO : Out → Prop
  | .exit _ => False
  | _ => True

/-- A run to the end, and what is found there. -/
noncomputable def okK (P : Program) (rs : List ResultVar) (r : Option (Bool × Out × St)) (C : Bool) (cres : AVal) (srcs : List (Nat × List AVal)) : Prop :=
  match r with
  | some (c, o, s) => c = C ∧ okO o ∧ (match endV P rs s with
    | some (d, v) => d = true ∧ fitF v cres ∧ fitSrc s.hp srcs
    | none => False)
  | none => False

noncomputable def selfT : List AVal → Prop
  | [] => True
  | A :: l => (selfV [] A ∧ true = true) ∧ selfT l

noncomputable def selfF (A : AVal) : Prop :=
  match A with
  | .tuple l => selfT l
  | A => selfV [] A ∧ true = true

noncomputable def selfSrc : List (Nat × List AVal) → Prop
  | [] => True
  | (_, l) :: rest => (selfL [] l ∧ true = true) ∧ selfSrc rest

noncomputable def selfK (C : Bool) (cres : AVal) (srcs : List (Nat × List AVal)) : Prop := C = C ∧ True ∧ true = true ∧ selfF cres ∧ selfSrc srcs

theorem selfT_true : ∀ l, selfT l
  | [] => trivial
  | A :: l => ⟨⟨selfV_true [] A, rfl⟩, selfT_true l⟩

theorem selfF_true (A : AVal) : selfF A := by
  unfold selfF
  split
  · exact selfT_true _
  · exact ⟨selfV_true [] _, rfl⟩

theorem selfSrc_true : ∀ l, selfSrc l
  | [] => trivial
  | (_, l) :: rest => ⟨⟨selfL_true [] l, rfl⟩, selfSrc_true rest⟩

theorem selfK_true (C : Bool) (cres : AVal) (srcs : List (Nat × List AVal)) : selfK C cres srcs := ⟨rfl, trivial, rfl, selfF_true cres, selfSrc_true srcs⟩

theorem re_le (L : Lo) (k : Nat) : (L.re [] [] k).le L := fun n hn => by
  have h2 := hn.2
  simp only [List.not_mem_nil, false_or] at h2
  exact ⟨h2, by simp [Lo.re, nm, lk?_nil]⟩

theorem fitV_fit {a A : AVal} (h : fitV [] [] a A) (hn : namesOk.allN0 (Nat.blt · 1000000000) A = true) : Fit a A :=
  fun L _ hv => val_mono (re_le L 1000000000) (fitV_ok h hn hv)

theorem fitL_fit {l l' : List AVal} (h : fitL [] [] l l') (hn : namesOk.allP (Nat.blt · 1000000000) l = true) : FitL l' l :=
  fun L _ hv => cells_mono (re_le L 1000000000) (fitL_ok h hn hv)

theorem val1_el {L : Lo} {A : AVal} {v : Value} (h : okEl A = true) (hv : val L A v) : val1 L A v := by
  cases A <;> simp only [okEl, Bool.false_eq_true] at h <;> exact hv

theorem fitT_ok : ∀ {l l' : List AVal}, fitT l l' → ∀ {L : Lo} {vs : List Value}, vals1 L l' vs → vals1 L l vs
  | [], l', h, L, vs, hv => by
    cases l' with
    | nil => exact hv
    | cons a l' => exact h.elim
  | A :: l, l', h, L, vs, hv => by
    cases l' with
    | nil => exact h.elim
    | cons a l' =>
      obtain ⟨⟨h1, h2⟩, h3⟩ := h
      simp only [Bool.and_eq_true] at h2
      obtain ⟨v, ws, e, q1, q2⟩ := hv
      exact ⟨v, ws, e, val1_el h2.1 (fitV_fit h1 h2.2 L v (val_of1 q1)), fitT_ok h3 q2⟩

theorem fitF_fit {a A : AVal} (h : fitF a A) : Fit a A := by
  unfold fitF at h
  split at h
  · split at h
    · intro L v hv
      obtain ⟨vs, hvs, e⟩ := hv
      exact ⟨vs, fitT_ok h hvs, e⟩
    · exact h.elim
  · exact fitV_fit h.1 h.2

theorem fitSrc_ok {hp : Heap} : ∀ {srcs : List (Nat × List AVal)}, fitSrc hp srcs → ∀ p ∈ srcs, ∃ r, lk? hp p.1 = some r ∧ r.ro = false ∧ FitL r.c p.2
  | [], _, p, hp => by simp at hp
  | (n, l) :: rest, h, p, hp' => by
    obtain ⟨h1, h2⟩ := h
    rcases List.mem_cons.1 hp' with rfl | hp'
    · split at h1
      · rename_i r hr
        obtain ⟨q1, q2⟩ := h1
        simp only [Bool.and_eq_true, Bool.not_eq_true'] at q2
        exact ⟨r, hr, q2.1, fitL_fit q1 q2.2⟩
      · exact h1.elim
    · exact fitSrc_ok h2 p hp'

section
variable {P : Program} {σ : List (Nat × Sum)}

/-- A run to a function's end, computed. -/
theorem runs_end (hσ : ∀ f s, lk? σ f = some s → SumOk P f s) (hm : P.follows .mixedOrders = true) {fn : Func} {fuel nt m : Nat} {c : Code} {S : St} {C : Bool} {cres : AVal} {srcs : List (Nat × List AVal)}
    (h : okK P fn.results.toList (xK P σ nt fuel (.run c) [] S) C cres srcs = selfK C cres srcs) (hC : C = true) : Runs P nt m c S (endK P fn (KF cres srcs)) := by
  have h := h.mpr (selfK_true C cres srcs)
  unfold okK at h
  split at h
  · rename_i c o s hx
    obtain ⟨rfl, ho, he⟩ := h
    subst hC
    split at he
    · rename_i d v hv
      obtain ⟨rfl, h1, h2⟩ := he
      refine (runs_k hσ hm hx).mono fun o1 s1 hk => ?_
      obtain ⟨rfl, rfl⟩ := hk
      have hend : endA P fn.results.toList s1 (KF cres srcs) := endA_of hv ⟨fitF_fit h1, fitSrc_ok h2⟩
      cases o1 with
      | normal => exact hend
      | ret => exact hend
      | exit id => exact ho.elim
    · exact he.elim
  · exact h.elim

/-- A piece ahead, then the rest. -/
theorem runs_then {nt m : Nat} {c a b : Code} {s S : St} {K : Out → St → Prop} (hc : c = .seq a b) (h : Runs P nt m a s (KE .normal S)) (h' : Runs P nt m b S K) : Runs P nt m c s K := by
  subst hc
  exact Runs.seq h fun o s' hk => by obtain ⟨rfl, rfl⟩ := hk; exact h'

/-- A loop whose rounds are counted down: `S i`: with `i` rounds to come. -/
theorem runs_down {nt m : Nat} {c d : Code} {id : Nat} {S : Nat → St} {N : Nat} {S' : St} (hd : d = .block id (.loop c)) (h : ∀ i, i < N → Runs P nt m c (S (i + 1)) (KE .normal (S i))) (he : Runs P nt m c (S 0) (KE (.exit id) S')) :
    Runs P nt m d (S N) (KE .normal S') := by
  subst hd
  have key : ∀ i, i ≤ N → RunsL P nt m c (S i) (KE (.exit id) S') := by
    intro i
    induction i with
    | zero =>
      intro _
      refine RunsL.round he fun o s hk => ?_
      obtain ⟨rfl, rfl⟩ := hk
      exact ⟨rfl, rfl⟩
    | succ i ih =>
      intro hi
      refine RunsL.round (h i (by omega)) fun o s hk => ?_
      obtain ⟨rfl, rfl⟩ := hk
      exact ih (by omega)
  refine Runs.block (key N (Nat.le_refl _)).loop fun o s hk => ?_
  obtain ⟨rfl, rfl⟩ := hk
  simp only [if_true]
  exact ⟨rfl, rfl⟩

/-- A run that was computed: what it was seen to be. -/
theorem runs_seen (hσ : ∀ f s, lk? σ f = some s → SumOk P f s) (hm : P.follows .mixedOrders = true) {n nt m : Nat} {c : Code} {s S : St} {rn : List (Nat × Nat)} {E : List Nat} {o : Out}
    (h : okX m rn E (xA P σ nt n c s) true o S) : Runs P nt m c s (KE o S) :=
  runs_x (C := true) hσ hm (propext ⟨fun _ => selfX_true E true S, fun _ => h⟩) rfl

/-- A function's run, computed. -/
theorem runF_k (hσ : ∀ f s, lk? σ f = some s → SumOk P f s) (hm : P.follows .mixedOrders = true) {fn : Func} {fuel k : Nat} {cargs : List AVal} {CH : Heap} {C : Bool} {cres : AVal} {srcs : List (Nat × List AVal)}
    (hb : fn.body = some (bodyOf fn)) (h : okK P fn.results.toList (xK P σ fn.ntmps fuel (.run (bodyOf fn)) [] ⟨argSlots 0 cargs, CH, k, [], []⟩) C cres srcs = selfK C cres srcs) (hC : C = true) :
    RunF P fn k cargs CH (KF cres srcs) := by
  have h := h.mpr (selfK_true C cres srcs)
  unfold okK at h
  split at h
  · rename_i c o s hx
    obtain ⟨rfl, ho, he⟩ := h
    subst hC
    split at he
    · rename_i d v hv
      obtain ⟨rfl, h1, h2⟩ := he
      refine ⟨bodyOf fn, hb, (runs_k hσ hm hx).mono fun o1 s1 hk => ?_⟩
      obtain ⟨rfl, rfl⟩ := hk
      have hend : endA P fn.results.toList s1 (KF cres srcs) := endA_of hv ⟨fitF_fit h1, fitSrc_ok h2⟩
      cases o1 with
      | normal => exact hend
      | ret => exact hend
      | exit id => exact ho.elim
    · exact he.elim
  · exact h.elim

theorem ren_id : ∀ (a : AVal), allN (fun _ => false) a = true → ∀ ρ, ren ρ a = a
  | .any, _, _ => rfl
  | .bool _, _, _ => rfl
  | .ob _, _, _ => rfl
  | .int _ _, _, _ => rfl
  | .neg _ _, _, _ => rfl
  | .nat _ _ _ _, _, _ => rfl
  | .str _, _, _ => rfl
  | .ptr _ _, h, _ => by simp [allN] at h
  | .nilp, _, _ => rfl
  | .slice _ _ _ _ _ _ _, h, _ => by simp [allN] at h
  | .func f l, h, ρ => by simp only [ren]; rw [renL_id l (by simpa [allN] using h)]
  | .ints _ _ _, _, _ => rfl
  | .nats _ _ _ _, _, _ => rfl
  | .agg l, h, ρ => by simp only [ren]; rw [renL_id l (by simpa [allN] using h)]
  | .tuple l, h, ρ => by simp only [ren]; rw [renL_id l (by simpa [allN] using h)]
where renL_id : ∀ (l : List AVal), allNL (fun _ => false) l = true → ∀ ρ, renL ρ l = l
  | [], _, _ => rfl
  | a :: l, h, ρ => by
    simp only [allNL, Bool.and_eq_true] at h
    simp only [renL]
    rw [ren_id a h.1 ρ, renL_id l h.2 ρ]

theorem allN_mono {p q : Nat → Bool} (h : ∀ n, p n = true → q n = true) : ∀ (a : AVal), allN p a = true → allN q a = true
  | .any, _ => rfl
  | .bool _, _ => rfl
  | .ob _, _ => rfl
  | .int _ _, _ => rfl
  | .neg _ _, _ => rfl
  | .nat _ _ _ _, _ => rfl
  | .str _, _ => rfl
  | .ptr _ _, hh => h _ hh
  | .nilp, _ => rfl
  | .slice _ _ _ _ _ _ _, hh => h _ hh
  | .func f l, hh => by simp only [allN] at hh ⊢; exact go l hh
  | .ints _ _ _, _ => rfl
  | .nats _ _ _ _, _ => rfl
  | .agg l, hh => by simp only [allN] at hh ⊢; exact go l hh
  | .tuple l, hh => by simp only [allN] at hh ⊢; exact go l hh
where go : ∀ (l : List AVal), allNL p l = true → allNL q l = true
  | [], _ => rfl
  | a :: l, hh => by
    simp only [allNL, Bool.and_eq_true] at hh ⊢
    exact ⟨allN_mono h a hh.1, go l hh.2⟩

/-- A function of values alone. -/
theorem fun_val {f : FuncId} {fn : Func} (hf : P.funcs[f]? = some fn) (hn : (fn.name == "runtime.NumGoroutine") = false) (hb : fn.body.isNone = false) {s : Sum}
    (hs : ∀ args H fr v us, s args H fr = some (true, v, us) → us = [] ∧ ∃ cargs : List AVal, args.length = cargs.length ∧ (∀ i, Fit (args.getD i .any) (cargs.getD i .any)) ∧ allNL (fun _ => false) cargs = true ∧ allN (fun _ => false) v = true ∧
      cargs.length ≤ fn.ntmps ∧ RunF P fn 0 cargs [] (KF v [])) : SumOk P f s := by
  refine fun_ok hf hn hb fun args H fr v us he _ _ => ?_
  obtain ⟨rfl, cargs, h1, h2, h3, h4, h5, h6⟩ := hs args H fr v us he
  have hget : ∀ i, ren id (cargs.getD i .any) = cargs.getD i .any := fun i => ren_id _ (allNL_get h3 i) _
  exact ⟨{
    k := 0, cargs := cargs, CH := [], ρ := id, outs := [], cres := v, srcs := []
    args_sz := h1
    args_fit := fun i => by rw [hget]; exact h2 i
    args_in := allN_mono.go (p := fun _ => false) (fun _ h => by simp at h) _ h3
    args_len := h5
    rows := fun n r h => by simp [lk?_nil] at h
    apart := fun n m r q h => by simp [lk?_nil] at h
    run := h6
    outs_len := by simp
    outs_new := fun x h => by simp at h
    outs_nd := by simp
    wrote := fun i r h => by simp [lk?_nil] at h
    from_ := fun p h => by simp at h
    srcs_nd := by simp
    srcs_in := fun p h => by simp at h
    cres_in := allN_mono (p := fun _ => false) (fun _ h => by simp at h) _ h4
    v_eq := (ren_id v h4 _).symm
    us_eq := rfl }⟩

end
end Go.Bx
