/-
  PointLaws: for every input (an array of 32 bytes, an array of 32 bytes, an array of 32 bytes) the law returns true, and its arguments read as they did.
  No condition.
-/
import Derived.Test.YtjgegdipellpbaaPtR
import Derived.Test.YtjgegdipellpbaaPointOf
import Derived.Test.YtjgegdipellpbaaQsW
import Derived.Test.YtjgegdipellpbaaRows
import Derived.ChangeOld
namespace Go.Bx.W
open Go.Proofs
set_option maxRecDepth 100000
noncomputable def σ12 (B N : P4) : List (Nat × Sum) := [(23, r4Bytes_S), (51, constS (.bool true)), (52, constS (ptV B)), (57, constS (ptV N)), (58, pbS fun p bs => ptV (pmulW p bs)), (60, psum2 fun p q => ptV (paddW p q)), (63, psum1 fun p => .ob (ponW p)), (64, bsum1 pofV), (66, psum1 fun p => ptV (pnegW p)), (70, psum2 fun p q => .ob (pbytesW p == pbytesW q)), (71, r6Add_S), (72, r6Mul_S), (73, r6Q_S)]
theorem hσ12 {B N : P4} (h1 : SumOk Try.prog 52 (constS (ptV B))) (h2 : SumOk Try.prog 57 (constS (ptV N))) : ∀ f s, lk? (σ12 B N) f = some s → SumOk Try.prog f s :=
  sums_cons r4Bytes_ok (sums_cons f51_ok (sums_cons h1 (sums_cons h2 (sums_cons f58_ok (sums_cons f60_ok (sums_cons f63_ok (sums_cons f64_ok (sums_cons f66_ok (sums_cons f70_ok (sums_cons r6Add_ok (sums_cons r6Mul_ok (sums_cons r6Q_ok no_sums))))))))))))
noncomputable def plS (B p q : P4) (m n : List Nat) : St := ⟨[(4, .ptr 0 0), (5, .ptr 1 0), (7, .ptr 2 0), (8, .ptr 3 0), (10, .ptr 4 0)],
  [(0, ⟨false, [.nats .u8 255 32 m]⟩), (1, ⟨false, [.nats .u8 255 32 n]⟩), (2, ⟨false, rowP B⟩), (3, ⟨false, rowP p⟩), (4, ⟨false, rowP q⟩)], 5, [], []⟩
theorem pl_head (B N : P4) (h1 : SumOk Try.prog 52 (constS (ptV B))) (h2 : SumOk Try.prog 57 (constS (ptV N))) (a m n : List Nat) (K : Out → St → Prop)
    (h : Runs Try.prog 108 0 (dropN 6 (bodyOf Try.f12)) (plS B (plP B a) (pmulW B m) m n) K) :
    Runs Try.prog 108 0 (bodyOf Try.f12) ⟨argSlots 0 [.nats .u8 255 32 a, .nats .u8 255 32 m, .nats .u8 255 32 n], [], 0, [], []⟩ K :=
  runs_head (σ := σ12 B N) (k := 6) (n := 300) (rn := [(0, 16), (1, 32), (2, 112), (3, 224), (4, 416)]) (E := []) (C := true) (hσ12 h1 h2) mixed (by kernel_rfl) (by kernel_rfl) rfl h
theorem pl_tail (B N : P4) (h1 : SumOk Try.prog 52 (constS (ptV B))) (h2 : SumOk Try.prog 57 (constS (ptV N))) (p q : P4) (m n : List Nat) :
    Runs Try.prog 108 0 (dropN 6 (bodyOf Try.f12)) (plS B p q m n) (endK Try.prog Try.f12 (KF (.ob (plQ B N p q m n)) [])) :=
  runs_end (σ := σ12 B N) (fuel := 1000) (C := true) (hσ12 h1 h2) mixed (by kernel_rfl) rfl
theorem f12_gen (B N : P4) (h1 : SumOk Try.prog 52 (constS (ptV B))) (h2 : SumOk Try.prog 57 (constS (ptV N))) (a m n : List Nat) :
    RunF Try.prog Try.f12 0 [.nats .u8 255 32 a, .nats .u8 255 32 m, .nats .u8 255 32 n] [] (KF (.ob (plE B N a m n)) []) :=
  ⟨_, by kernel_rfl, pl_head B N h1 h2 a m n _ (pl_tail B N h1 h2 _ _ m n)⟩
end Go.Bx.W

namespace Go.Bx.W
open Go.Proofs
theorem f12_run {a m n : List Nat} (ha : ∀ x ∈ a, x ≤ 255) (la : a.length = 32) (hm : ∀ x ∈ m, x ≤ 255) (lm : m.length = 32) (hn : ∀ x ∈ n, x ≤ 255) (ln : n.length = 32) : RunF Try.prog Try.f12 0 [.nats .u8 255 32 a, .nats .u8 255 32 m, .nats .u8 255 32 n] [] (KF (.bool true) []) := by
  have h := f12_gen baseP noughtW f52_ok f57_ok a m n
  rw [plE_true la ha lm hm ln hn] at h
  exact h.mono fun v H hk => ⟨hk.1.trans fun _ _ q => q, hk.2⟩
end Go.Bx.W

namespace Go.Proofs.Ytjgegdipellpbaa.PointLawsDone
open Go.ChangeShapes Go.WideShapes Go.ChangeAt Go.RowKit Go.Bx

theorem own : ownKnob Try.prog.godebug = none := by kernel_rfl
theorem laidOut : laidOutB Try.prog = true := by kernel_rfl

theorem walk (z0 : List Int) (z1 : List Int) (z2 : List Int) (l0 : z0.length = 32) (w0 : ∀ z ∈ z0, (Lit.int .u8 z).wf = true) (l1 : z1.length = 32) (w1 : ∀ z ∈ z1, (Lit.int .u8 z).wf = true) (l2 : z2.length = 32) (w2 : ∀ z ∈ z2, (Lit.int .u8 z).wf = true) (w : World) :
    Calls Try.prog 12 #[.agg (z0.map (Value.int .u8)).toArray, .agg (z1.map (Value.int .u8)).toArray, .agg (z2.map (Value.int .u8)).toArray] w fun e w' => e = .returned (.bool true) ∧ Below w.heap.size w w' := by
  have b0 := bytes_val (L := ⟨fun _ => ⟨0, 0, 0⟩, fun _ => False⟩) l0 w0
  have b1 := bytes_val (L := ⟨fun _ => ⟨0, 0, 0⟩, fun _ => False⟩) l1 w1
  have b2 := bytes_val (L := ⟨fun _ => ⟨0, 0, 0⟩, fun _ => False⟩) l2 w2
  refine law_calls (fn := Try.f12) Try.func12 (W.f12_run b0.1 (by simpa using l0) b1.1 (by simpa using l1) b2.1 (by simpa using l2)) (Nat.le_of_ble_eq_true rfl) (vs := [.agg (z0.map (Value.int .u8)).toArray, .agg (z1.map (Value.int .u8)).toArray, .agg (z2.map (Value.int .u8)).toArray]) ⟨rfl, fun i => ?_⟩
  match i with
  | 0 => exact b0.2
  | 1 => exact b1.2
  | 2 => exact b2.2
  | i + 3 => exact trivial

set_option maxRecDepth 100000 in
theorem lifted (os : Os) (started : os.Started) (H : Type) (enc : TypeId × Value → H) :
    ReturnsInHanded {} Try.checked os 12 .any (Rows.pointLawsSpec.pre6 enc Try.prog Try.f12 Rows.pointLawsRow.domain false) (Rows.pointLawsSpec.post enc Try.prog Try.f12 false true false false) := by
  refine returnsInHanded_of_change (C := Try.checked) own started (by kernel_rfl) Try.func12
    (ChangeSpec.witness6 (enc := enc) (C := Try.checked) false ⟨#[], #[.agg (Array.replicate 32 (.int .u8 0)), .agg (Array.replicate 32 (.int .u8 0)), .agg (Array.replicate 32 (.int .u8 0))], []⟩ 8 (by kernel_rfl) (by kernel_rfl) (by kernel_rfl) (by kernel_rfl)) ?_
  intro W base args ds gs before hval0 hW hcnd _
  have hval : ∀ (j : Nat) t v, Try.f12.params[j]? = some t → args[j]? = some v → Value.okWide Try.prog W .any base t v := hval0
  have hW' := hW
  obtain ⟨p, q, hA0, hV, rfl, hfz, hnd⟩ := hW
  have hA : DataW.TrodAll enc Try.prog W 0 (fun _ => true) true Try.f12.params.toList args.toList ds p := hA0
  rw [Try.params12] at hA hval
  obtain ⟨v0, vs0, d0, ds0, p0, q0, hargs, rfl, rfl, h0, r0⟩ := trodAll_cons hA
  obtain ⟨v1, vs1, d1, ds1, p1, q1, rfl, rfl, rfl, h1, r1⟩ := trodAll_cons r0
  obtain ⟨v2, vs2, d2, ds2, p2, q2, rfl, rfl, rfl, h2, r2⟩ := trodAll_cons r1
  obtain ⟨rfl, rfl, rfl⟩ := trodAll_nil r2
  obtain rfl : args = #[v0, v1, v2] := by cases args; simp_all
  obtain ⟨rfl, rfl⟩ := trodVars_none hV
  have k0 := h0
  have lt0 : ∀ x ∈ p0, x.block < W.heap.size := by obtain ⟨m, hm⟩ := k0; exact DataW.trod_lt m _ _ _ hm
  have k1 := h1
  have lt1 : ∀ x ∈ p1, x.block < W.heap.size := by obtain ⟨m, hm⟩ := k1; exact DataW.trod_lt m _ _ _ hm
  have k2 := h2
  have lt2 : ∀ x ∈ p2, x.block < W.heap.size := by obtain ⟨m, hm⟩ := k2; exact DataW.trod_lt m _ _ _ hm
  obtain ⟨z0, rfl, l0, w0⟩ := open_array Try.underlying22 Try.underlying5 (by kernel_rfl) (by kernel_rfl) (hval 0 22 v0 rfl rfl) h0
  obtain ⟨z1, rfl, l1, w1⟩ := open_array Try.underlying22 Try.underlying5 (by kernel_rfl) (by kernel_rfl) (hval 1 22 v1 rfl rfl) h1
  obtain ⟨z2, rfl, l2, w2⟩ := open_array Try.underlying22 Try.underlying5 (by kernel_rfl) (by kernel_rfl) (hval 2 22 v2 rfl rfl) h2
  clear hA0 hval0
  refine (walk z0 z1 z2 l0 w0 l1 w1 l2 w2 W).mono fun e W' ⟨he, bel⟩ => ?_
  subst he
  exact ⟨_, rfl, _, _, _, [], _, [], hW', trodAll_mk1 (shut_bool Try.underlying4 _), (trodAll_cons_mk (Below.trod laidOut (by kernel_rfl) (of_decide_eq_true (by kernel_rfl)) k0 bel lt0) (trodAll_cons_mk (Below.trod laidOut (by kernel_rfl) (of_decide_eq_true (by kernel_rfl)) k1 bel lt1) (trodAll_cons_mk (Below.trod laidOut (by kernel_rfl) (of_decide_eq_true (by kernel_rfl)) k2 bel lt2) trodAll_mk0))), rfl, bel.frame _, fun h => by cases h⟩

theorem over : Rows.pointLawsRow.holds Try.pinned (OpenSpec.ofChange Rows.pointLawsSpec) :=
  OpenClaim.holds_of_wide 12 Try.f12 rfl rfl rfl rfl rfl rfl rfl ⟨rfl, rfl, rfl, rfl, rfl⟩ rfl rfl rfl rfl rfl (by kernel_rfl) Try.func12 (by kernel_rfl)
    (of_decide_eq_true (by kernel_rfl)) (by unfold Func.isWrapper; first | (rw [if_pos (by decide +kernel)]; kernel_rfl) | (rw [if_neg (by decide +kernel)]; exact ⟨rfl, rfl⟩))
    (fun os started H enc _ => lifted os started H enc)

/-- The statement. -/
theorem proved : Rows.PointLawsSaid := over
#print axioms proved
end Go.Proofs.Ytjgegdipellpbaa.PointLawsDone
