/-
  PointSums: for every input (an array of 32 bytes, an array of 32 bytes) the law returns true, and its arguments read as they did.
  No condition.
-/
import Derived.Test.YtjgegdipellpbaaRpW
import Derived.Test.YtjgegdipellpbaaPtP
import Derived.Test.YtjgegdipellpbaaFeA
import Derived.Test.YtjgegdipellpbaaRows
import Derived.ChangeOld
namespace Go.Bx.W
open Go.Proofs
set_option maxRecDepth 100000
noncomputable def σ51 (p : P4) : List (Nat × Sum) := [(52, constS (ptV p)), (54, psum1 fun p => by32 (pbytesW p))]
theorem hσ51 {p : P4} (h : SumOk Try.prog 52 (constS (ptV p))) : ∀ f s, lk? (σ51 p) f = some s → SumOk Try.prog f s := sums_cons h (sums_cons f54_ok no_sums)
noncomputable def aw51 (l : List Nat) : Bool := bif Nat.beq (l.getD 0 0) 88 then bif Nat.beq (l.getD 1 0) 102 then Nat.beq (l.getD 31 0) 102 else false else false
theorem f51_run (p : P4) (h : SumOk Try.prog 52 (constS (ptV p))) : RunF Try.prog Try.f51 0 [] [] (KF (.ob (aw51 (pbytesW p))) []) :=
  runF_k (σ := σ51 p) (fuel := 1000) (C := true) (hσ51 h) mixed (by kernel_rfl) (by kernel_rfl) rfl
theorem aw51_true : aw51 (pbytesW baseP) = true := by
  obtain ⟨x, y, h1, h2, h3⟩ := baseP_ok
  obtain ⟨rfl, rfl⟩ := std_inj (show stdP (fp bxN) (fp byN) = stdP x y from h2)
  rw [pbytes_ok h3]
  decide +kernel
theorem f51_ok : SumOk Try.prog 51 (constS (.bool true)) := by
  refine constS_ok (fn := Try.f51) (by kernel_rfl) (by kernel_rfl) (by kernel_rfl) rfl ?_
  have h := f51_run baseP f52_ok
  rw [aw51_true] at h
  exact h.mono fun v H hk => ⟨hk.1.trans fun _ _ q => q, hk.2⟩
noncomputable def σ10g (p : P4) (q : N3) (n : P4) (d : List Nat) : List (Nat × Sum) := [(51, constS (.bool true)), (52, constS (ptV p)), (53, new30 q), (54, psum1 fun p => by32 (pbytesW p)), (55, rlookS fun p => by32 (rpbytesW p)), (56, look2 fun x y => .ob (ronW x y)), (57, constS (ptV n)), (58, pbS fun p bs => ptV (pmulW p bs)), (59, rmulS), (60, psum2 fun p q => ptV (paddW p q)), (61, raddS), (62, new0 d), (63, psum1 fun p => .ob (ponW p))]
theorem hσ10g {p : P4} {q : N3} {n : P4} {d : List Nat} (h1 : SumOk Try.prog 52 (constS (ptV p))) (h2 : SumOk Try.prog 53 (new30 q)) (h3 : SumOk Try.prog 57 (constS (ptV n))) (h4 : SumOk Try.prog 62 (new0 d)) : ∀ f s, lk? (σ10g p q n d) f = some s → SumOk Try.prog f s :=
  sums_cons f51_ok (sums_cons h1 (sums_cons h2 (sums_cons f54_ok (sums_cons f55_ok (sums_cons f56_ok (sums_cons h3 (sums_cons f58_ok (sums_cons f59_ok (sums_cons f60_ok (sums_cons f61_ok (sums_cons h4 (sums_cons f63_ok no_sums))))))))))))
noncomputable def psG (p : P4) (q : N3) (n : P4) (d : List Nat) (b c : List Nat) : Bool :=
  bif bif !pbytesW p == rpbytesW q then true else bif !ronW q.x q.y then true else !pbytesW n == (List.replicate 32 0).set 0 1 then false
  else bif pbytesW (pmulW p b) == rpbytesW (rmulP q b) then
    bif pbytesW (paddW (pmulW p b) (pmulW p c)) == rpbytesW (raddP (rmulP q b) (rmulP q c) d) then ponW (pmulW p b) else false
  else false
theorem f10_gen (p : P4) (q : N3) (n : P4) (d : List Nat) (h1 : SumOk Try.prog 52 (constS (ptV p))) (h2 : SumOk Try.prog 53 (new30 q)) (h3 : SumOk Try.prog 57 (constS (ptV n))) (h4 : SumOk Try.prog 62 (new0 d)) (b c : List Nat) :
    RunF Try.prog Try.f10 0 [.nats .u8 255 32 b, .nats .u8 255 32 c] [] (KF (.ob (psG p q n d b c)) []) :=
  runF_k (σ := σ10g p q n d) (fuel := 1000) (C := true) (hσ10g h1 h2 h3 h4) mixed (by kernel_rfl) (by kernel_rfl) rfl
theorem f10_run {b c : List Nat} (_ : ∀ x ∈ b, x ≤ 255) (_ : ∀ x ∈ c, x ≤ 255) : RunF Try.prog Try.f10 0 [.nats .u8 255 32 b, .nats .u8 255 32 c] [] (KF (.bool true) []) := by
  have h := f10_gen baseP rbP noughtW rDW f52_ok f53_ok f57_ok f62_ok b c
  have e : psG baseP rbP noughtW rDW b c = psE b c := by
    unfold psG psE
    generalize baseP = p
    generalize rbP = q
    generalize noughtW = n
    generalize rDW = d
    rfl
  rw [e, psE_true b c] at h
  exact h.mono fun v H hk => ⟨hk.1.trans fun _ _ q => q, hk.2⟩
end Go.Bx.W

namespace Go.Proofs.Ytjgegdipellpbaa.PointSumsDone
open Go.ChangeShapes Go.WideShapes Go.ChangeAt Go.RowKit Go.Bx

theorem own : ownKnob Try.prog.godebug = none := by kernel_rfl
theorem laidOut : laidOutB Try.prog = true := by kernel_rfl

theorem walk (z0 : List Int) (z1 : List Int) (l0 : z0.length = 32) (w0 : ∀ z ∈ z0, (Lit.int .u8 z).wf = true) (l1 : z1.length = 32) (w1 : ∀ z ∈ z1, (Lit.int .u8 z).wf = true) (w : World) :
    Calls Try.prog 10 #[.agg (z0.map (Value.int .u8)).toArray, .agg (z1.map (Value.int .u8)).toArray] w fun e w' => e = .returned (.bool true) ∧ Below w.heap.size w w' := by
  have b0 := bytes_val (L := ⟨fun _ => ⟨0, 0, 0⟩, fun _ => False⟩) l0 w0
  have b1 := bytes_val (L := ⟨fun _ => ⟨0, 0, 0⟩, fun _ => False⟩) l1 w1
  refine law_calls (fn := Try.f10) Try.func10 (W.f10_run b0.1 b1.1) (Nat.le_of_ble_eq_true rfl) (vs := [.agg (z0.map (Value.int .u8)).toArray, .agg (z1.map (Value.int .u8)).toArray]) ⟨rfl, fun i => ?_⟩
  match i with
  | 0 => exact b0.2
  | 1 => exact b1.2
  | i + 2 => exact trivial

set_option maxRecDepth 100000 in
theorem lifted (os : Os) (started : os.Started) (H : Type) (enc : TypeId × Value → H) :
    ReturnsInHanded {} Try.checked os 10 .any (Rows.pointSumsSpec.pre6 enc Try.prog Try.f10 Rows.pointSumsRow.domain false) (Rows.pointSumsSpec.post enc Try.prog Try.f10 false true false false) := by
  refine returnsInHanded_of_change (C := Try.checked) own started (by kernel_rfl) Try.func10
    (ChangeSpec.witness6 (enc := enc) (C := Try.checked) false ⟨#[], #[.agg (Array.replicate 32 (.int .u8 0)), .agg (Array.replicate 32 (.int .u8 0))], []⟩ 8 (by kernel_rfl) (by kernel_rfl) (by kernel_rfl) (by kernel_rfl)) ?_
  intro W base args ds gs before hval0 hW hcnd _
  have hval : ∀ (j : Nat) t v, Try.f10.params[j]? = some t → args[j]? = some v → Value.okWide Try.prog W .any base t v := hval0
  have hW' := hW
  obtain ⟨p, q, hA0, hV, rfl, hfz, hnd⟩ := hW
  have hA : DataW.TrodAll enc Try.prog W 0 (fun _ => true) true Try.f10.params.toList args.toList ds p := hA0
  rw [Try.params10] at hA hval
  obtain ⟨v0, vs0, d0, ds0, p0, q0, hargs, rfl, rfl, h0, r0⟩ := trodAll_cons hA
  obtain ⟨v1, vs1, d1, ds1, p1, q1, rfl, rfl, rfl, h1, r1⟩ := trodAll_cons r0
  obtain ⟨rfl, rfl, rfl⟩ := trodAll_nil r1
  obtain rfl : args = #[v0, v1] := by cases args; simp_all
  obtain ⟨rfl, rfl⟩ := trodVars_none hV
  have k0 := h0
  have lt0 : ∀ x ∈ p0, x.block < W.heap.size := by obtain ⟨m, hm⟩ := k0; exact DataW.trod_lt m _ _ _ hm
  have k1 := h1
  have lt1 : ∀ x ∈ p1, x.block < W.heap.size := by obtain ⟨m, hm⟩ := k1; exact DataW.trod_lt m _ _ _ hm
  obtain ⟨z0, rfl, l0, w0⟩ := open_array Try.underlying22 Try.underlying5 (by kernel_rfl) (by kernel_rfl) (hval 0 22 v0 rfl rfl) h0
  obtain ⟨z1, rfl, l1, w1⟩ := open_array Try.underlying22 Try.underlying5 (by kernel_rfl) (by kernel_rfl) (hval 1 22 v1 rfl rfl) h1
  clear hA0 hval0
  refine (walk z0 z1 l0 w0 l1 w1 W).mono fun e W' ⟨he, bel⟩ => ?_
  subst he
  exact ⟨_, rfl, _, _, _, [], _, [], hW', trodAll_mk1 (shut_bool Try.underlying4 _), (trodAll_cons_mk (Below.trod laidOut (by kernel_rfl) (of_decide_eq_true (by kernel_rfl)) k0 bel lt0) (trodAll_cons_mk (Below.trod laidOut (by kernel_rfl) (of_decide_eq_true (by kernel_rfl)) k1 bel lt1) trodAll_mk0)), rfl, bel.frame _, fun h => by cases h⟩

theorem over : Rows.pointSumsRow.holds Try.pinned (OpenSpec.ofChange Rows.pointSumsSpec) :=
  OpenClaim.holds_of_wide 10 Try.f10 rfl rfl rfl rfl rfl rfl rfl ⟨rfl, rfl, rfl, rfl, rfl⟩ rfl rfl rfl rfl rfl (by kernel_rfl) Try.func10 (by kernel_rfl)
    (of_decide_eq_true (by kernel_rfl)) (by unfold Func.isWrapper; first | (rw [if_pos (by decide +kernel)]; kernel_rfl) | (rw [if_neg (by decide +kernel)]; exact ⟨rfl, rfl⟩))
    (fun os started H enc _ => lifted os started H enc)

/-- The statement. -/
theorem proved : Rows.PointSumsSaid := over
#print axioms proved
end Go.Proofs.Ytjgegdipellpbaa.PointSumsDone
