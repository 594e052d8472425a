/-
  PointOf: for every input (an array of 32 bytes) the law returns true, and its arguments read as they did.
  No condition.
-/
import Derived.Test.YtjgegdipellpbaaPointSums
import Derived.Test.YtjgegdipellpbaaWalkC
import Derived.Test.YtjgegdipellpbaaPtQ
import Derived.Test.YtjgegdipellpbaaRows
import Derived.ChangeOld
namespace Go.Bx.W
open Go.Proofs
set_option maxRecDepth 100000
noncomputable def σ11 (d : List Nat) : List (Nat × Sum) := [(28, rsmallS), (30, new2 rAdd), (32, new2 rsubW), (34, new2 rMul), (39, look1 fun xs => .ob (zeroN xs)), (42, look1 fun xs => .ob (squareN xs)), (51, constS (.bool true)), (54, psum1 fun p => by32 (pbytesW p)), (58, pbS fun p bs => ptV (pmulW p bs)), (60, psum2 fun p q => ptV (paddW p q)), (62, new0 d), (63, psum1 fun p => .ob (ponW p)), (64, bsum1 pofV), (65, digitsS), (66, psum1 fun p => ptV (pnegW p)), (67, look2 fun xs ys => .ob (atLeastW xs ys 16)), (68, pS), (69, new1 rinvN), (70, psum2 fun p q => .ob (pbytesW p == pbytesW q))]
end Go.Bx.W

namespace Go.Bx.W
open Go.Proofs
set_option maxRecDepth 100000
theorem hσ11 {d : List Nat} (h : SumOk Try.prog 62 (new0 d)) : ∀ f s, lk? (σ11 d) f = some s → SumOk Try.prog f s :=
  sums_cons f28_ok (sums_cons f30_ok (sums_cons f32_ok (sums_cons f34_ok (sums_cons f39_ok (sums_cons f42_ok (sums_cons f51_ok (sums_cons f54_ok (sums_cons f58_ok (sums_cons f60_ok (sums_cons h (sums_cons f63_ok (sums_cons f64_ok (sums_cons f65_ok (sums_cons f66_ok (sums_cons f67_ok (sums_cons f68_ok (sums_cons f69_ok (sums_cons f70_ok no_sums))))))))))))))))))
theorem f11_gen (d : List Nat) (h : SumOk Try.prog 62 (new0 d)) (b : List Nat) : RunF Try.prog Try.f11 0 [.nats .u8 255 32 b] [] (KF (.ob (poE b d)) []) :=
  runF_k (σ := σ11 d) (fuel := 1000) (C := true) (hσ11 h) mixed (by kernel_rfl) (by kernel_rfl) rfl
end Go.Bx.W

namespace Go.Bx.W
open Go.Proofs
theorem f11_run {b : List Nat} (hb : ∀ x ∈ b, x ≤ 255) (hl : b.length = 32) : RunF Try.prog Try.f11 0 [.nats .u8 255 32 b] [] (KF (.bool true) []) := by
  have h := f11_gen rDW f62_ok b
  rw [poE_true hl hb rDW_ok] at h
  exact h.mono fun v H hk => ⟨hk.1.trans fun _ _ q => q, hk.2⟩
end Go.Bx.W

namespace Go.Proofs.Ytjgegdipellpbaa.PointOfDone
open Go.ChangeShapes Go.WideShapes Go.ChangeAt Go.RowKit Go.Bx

theorem own : ownKnob Try.prog.godebug = none := by kernel_rfl
theorem laidOut : laidOutB Try.prog = true := by kernel_rfl

theorem walk (z0 : List Int) (l0 : z0.length = 32) (w0 : ∀ z ∈ z0, (Lit.int .u8 z).wf = true) (w : World) :
    Calls Try.prog 11 #[.agg (z0.map (Value.int .u8)).toArray] w fun e w' => e = .returned (.bool true) ∧ Below w.heap.size w w' := by
  have b0 := bytes_val (L := ⟨fun _ => ⟨0, 0, 0⟩, fun _ => False⟩) l0 w0
  refine law_calls (fn := Try.f11) Try.func11 (W.f11_run b0.1 (by simpa using l0)) (Nat.le_of_ble_eq_true rfl) (vs := [.agg (z0.map (Value.int .u8)).toArray]) ⟨rfl, fun i => ?_⟩
  match i with
  | 0 => exact b0.2
  | i + 1 => exact trivial

set_option maxRecDepth 100000 in
theorem lifted (os : Os) (started : os.Started) (H : Type) (enc : TypeId × Value → H) :
    ReturnsInHanded {} Try.checked os 11 .any (Rows.pointOfSpec.pre6 enc Try.prog Try.f11 Rows.pointOfRow.domain false) (Rows.pointOfSpec.post enc Try.prog Try.f11 false true false false) := by
  refine returnsInHanded_of_change (C := Try.checked) own started (by kernel_rfl) Try.func11
    (ChangeSpec.witness6 (enc := enc) (C := Try.checked) false ⟨#[], #[.agg (Array.replicate 32 (.int .u8 0))], []⟩ 8 (by kernel_rfl) (by kernel_rfl) (by kernel_rfl) (by kernel_rfl)) ?_
  intro W base args ds gs before hval0 hW hcnd _
  have hval : ∀ (j : Nat) t v, Try.f11.params[j]? = some t → args[j]? = some v → Value.okWide Try.prog W .any base t v := hval0
  have hW' := hW
  obtain ⟨p, q, hA0, hV, rfl, hfz, hnd⟩ := hW
  have hA : DataW.TrodAll enc Try.prog W 0 (fun _ => true) true Try.f11.params.toList args.toList ds p := hA0
  rw [Try.params11] at hA hval
  obtain ⟨v0, vs0, d0, ds0, p0, q0, hargs, rfl, rfl, h0, r0⟩ := trodAll_cons hA
  obtain ⟨rfl, rfl, rfl⟩ := trodAll_nil r0
  obtain rfl : args = #[v0] := by cases args; simp_all
  obtain ⟨rfl, rfl⟩ := trodVars_none hV
  have k0 := h0
  have lt0 : ∀ x ∈ p0, x.block < W.heap.size := by obtain ⟨m, hm⟩ := k0; exact DataW.trod_lt m _ _ _ hm
  obtain ⟨z0, rfl, l0, w0⟩ := open_array Try.underlying22 Try.underlying5 (by kernel_rfl) (by kernel_rfl) (hval 0 22 v0 rfl rfl) h0
  clear hA0 hval0
  refine (walk z0 l0 w0 W).mono fun e W' ⟨he, bel⟩ => ?_
  subst he
  exact ⟨_, rfl, _, _, _, [], _, [], hW', trodAll_mk1 (shut_bool Try.underlying4 _), (trodAll_cons_mk (Below.trod laidOut (by kernel_rfl) (of_decide_eq_true (by kernel_rfl)) k0 bel lt0) trodAll_mk0), rfl, bel.frame _, fun h => by cases h⟩

theorem over : Rows.pointOfRow.holds Try.pinned (OpenSpec.ofChange Rows.pointOfSpec) :=
  OpenClaim.holds_of_wide 11 Try.f11 rfl rfl rfl rfl rfl rfl rfl ⟨rfl, rfl, rfl, rfl, rfl⟩ rfl rfl rfl rfl rfl (by kernel_rfl) Try.func11 (by kernel_rfl)
    (of_decide_eq_true (by kernel_rfl)) (by unfold Func.isWrapper; first | (rw [if_pos (by decide +kernel)]; kernel_rfl) | (rw [if_neg (by decide +kernel)]; exact ⟨rfl, rfl⟩))
    (fun os started H enc _ => lifted os started H enc)

/-- The statement. -/
theorem proved : Rows.PointOfSaid := over
#print axioms proved
end Go.Proofs.Ytjgegdipellpbaa.PointOfDone
