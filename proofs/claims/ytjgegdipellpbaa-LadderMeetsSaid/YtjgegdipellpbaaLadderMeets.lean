/-
  LadderMeets: for every input (an array of 32 bytes, an array of 32 bytes, an array of 32 bytes) the law returns true, and its arguments read as they did.
  No condition.
-/
import Derived.Test.YtjgegdipellpbaaWalkE
import Derived.Test.YtjgegdipellpbaaEdA
import Derived.Test.YtjgegdipellpbaaFeA
import Derived.Test.YtjgegdipellpbaaRows
import Derived.ChangeOld
namespace Go.Bx.W
open Go.Proofs
set_option maxRecDepth 100000
theorem f9_run0 (b c d : List Nat) : RunF Try.prog Try.f9 0 [.nats .u8 255 32 b, .nats .u8 255 32 c, .nats .u8 255 32 d] [] (KF (.ob (lmeE b c d base9)) []) :=
  runF_k (σ := σ8) (fuel := 1000) (C := true) hσ8 mixed (by kernel_rfl) (by kernel_rfl) rfl

theorem f9_run {b c d : List Nat} (hb : ∀ x ∈ b, x ≤ 255) (hc : ∀ x ∈ c, x ≤ 255) (hd : ∀ x ∈ d, x ≤ 255) : RunF Try.prog Try.f9 0 [.nats .u8 255 32 b, .nats .u8 255 32 c, .nats .u8 255 32 d] [] (KF (.bool true) []) := by
  have h := f9_run0 b c d
  rw [lmeE_true hb hc hd base9_le] at h
  exact h.mono fun v H hk => ⟨hk.1.trans fun _ _ q => q, hk.2⟩
end Go.Bx.W

namespace Go.Proofs.Ytjgegdipellpbaa.LadderMeetsDone
open Go.ChangeShapes Go.WideShapes Go.ChangeAt Go.RowKit Go.Bx

theorem own : ownKnob Try.prog.godebug = none := by kernel_rfl
theorem laidOut : laidOutB Try.prog = true := by kernel_rfl

theorem walk (z0 : List Int) (z1 : List Int) (z2 : List Int) (l0 : z0.length = 32) (w0 : ∀ z ∈ z0, (Lit.int .u8 z).wf = true) (l1 : z1.length = 32) (w1 : ∀ z ∈ z1, (Lit.int .u8 z).wf = true) (l2 : z2.length = 32) (w2 : ∀ z ∈ z2, (Lit.int .u8 z).wf = true) (w : World) :
    Calls Try.prog 9 #[.agg (z0.map (Value.int .u8)).toArray, .agg (z1.map (Value.int .u8)).toArray, .agg (z2.map (Value.int .u8)).toArray] w fun e w' => e = .returned (.bool true) ∧ Below w.heap.size w w' := by
  have b0 := bytes_val (L := ⟨fun _ => ⟨0, 0, 0⟩, fun _ => False⟩) l0 w0
  have b1 := bytes_val (L := ⟨fun _ => ⟨0, 0, 0⟩, fun _ => False⟩) l1 w1
  have b2 := bytes_val (L := ⟨fun _ => ⟨0, 0, 0⟩, fun _ => False⟩) l2 w2
  refine law_calls (fn := Try.f9) Try.func9 (W.f9_run b0.1 b1.1 b2.1) (Nat.le_of_ble_eq_true rfl) (vs := [.agg (z0.map (Value.int .u8)).toArray, .agg (z1.map (Value.int .u8)).toArray, .agg (z2.map (Value.int .u8)).toArray]) ⟨rfl, fun i => ?_⟩
  match i with
  | 0 => exact b0.2
  | 1 => exact b1.2
  | 2 => exact b2.2
  | i + 3 => exact trivial

set_option maxRecDepth 100000 in
theorem lifted (os : Os) (started : os.Started) (H : Type) (enc : TypeId × Value → H) :
    ReturnsInHanded {} Try.checked os 9 .any (Rows.ladderMeetsSpec.pre6 enc Try.prog Try.f9 Rows.ladderMeetsRow.domain false) (Rows.ladderMeetsSpec.post enc Try.prog Try.f9 false true false false) := by
  refine returnsInHanded_of_change (C := Try.checked) own started (by kernel_rfl) Try.func9
    (ChangeSpec.witness6 (enc := enc) (C := Try.checked) false ⟨#[], #[.agg (Array.replicate 32 (.int .u8 0)), .agg (Array.replicate 32 (.int .u8 0)), .agg (Array.replicate 32 (.int .u8 0))], []⟩ 8 (by kernel_rfl) (by kernel_rfl) (by kernel_rfl) (by kernel_rfl)) ?_
  intro W base args ds gs before hval0 hW hcnd _
  have hval : ∀ (j : Nat) t v, Try.f9.params[j]? = some t → args[j]? = some v → Value.okWide Try.prog W .any base t v := hval0
  have hW' := hW
  obtain ⟨p, q, hA0, hV, rfl, hfz, hnd⟩ := hW
  have hA : DataW.TrodAll enc Try.prog W 0 (fun _ => true) true Try.f9.params.toList args.toList ds p := hA0
  rw [Try.params9] at hA hval
  obtain ⟨v0, vs0, d0, ds0, p0, q0, hargs, rfl, rfl, h0, r0⟩ := trodAll_cons hA
  obtain ⟨v1, vs1, d1, ds1, p1, q1, rfl, rfl, rfl, h1, r1⟩ := trodAll_cons r0
  obtain ⟨v2, vs2, d2, ds2, p2, q2, rfl, rfl, rfl, h2, r2⟩ := trodAll_cons r1
  obtain ⟨rfl, rfl, rfl⟩ := trodAll_nil r2
  obtain rfl : args = #[v0, v1, v2] := by cases args; simp_all
  obtain ⟨rfl, rfl⟩ := trodVars_none hV
  have k0 := h0
  have lt0 : ∀ x ∈ p0, x.block < W.heap.size := by obtain ⟨m, hm⟩ := k0; exact DataW.trod_lt m _ _ _ hm
  have k1 := h1
  have lt1 : ∀ x ∈ p1, x.block < W.heap.size := by obtain ⟨m, hm⟩ := k1; exact DataW.trod_lt m _ _ _ hm
  have k2 := h2
  have lt2 : ∀ x ∈ p2, x.block < W.heap.size := by obtain ⟨m, hm⟩ := k2; exact DataW.trod_lt m _ _ _ hm
  obtain ⟨z0, rfl, l0, w0⟩ := open_array Try.underlying22 Try.underlying5 (by kernel_rfl) (by kernel_rfl) (hval 0 22 v0 rfl rfl) h0
  obtain ⟨z1, rfl, l1, w1⟩ := open_array Try.underlying22 Try.underlying5 (by kernel_rfl) (by kernel_rfl) (hval 1 22 v1 rfl rfl) h1
  obtain ⟨z2, rfl, l2, w2⟩ := open_array Try.underlying22 Try.underlying5 (by kernel_rfl) (by kernel_rfl) (hval 2 22 v2 rfl rfl) h2
  clear hA0 hval0
  refine (walk z0 z1 z2 l0 w0 l1 w1 l2 w2 W).mono fun e W' ⟨he, bel⟩ => ?_
  subst he
  exact ⟨_, rfl, _, _, _, [], _, [], hW', trodAll_mk1 (shut_bool Try.underlying4 _), (trodAll_cons_mk (Below.trod laidOut (by kernel_rfl) (of_decide_eq_true (by kernel_rfl)) k0 bel lt0) (trodAll_cons_mk (Below.trod laidOut (by kernel_rfl) (of_decide_eq_true (by kernel_rfl)) k1 bel lt1) (trodAll_cons_mk (Below.trod laidOut (by kernel_rfl) (of_decide_eq_true (by kernel_rfl)) k2 bel lt2) trodAll_mk0))), rfl, bel.frame _, fun h => by cases h⟩

theorem over : Rows.ladderMeetsRow.holds Try.pinned (OpenSpec.ofChange Rows.ladderMeetsSpec) :=
  OpenClaim.holds_of_wide 9 Try.f9 rfl rfl rfl rfl rfl rfl rfl ⟨rfl, rfl, rfl, rfl, rfl⟩ rfl rfl rfl rfl rfl (by kernel_rfl) Try.func9 (by kernel_rfl)
    (of_decide_eq_true (by kernel_rfl)) (by unfold Func.isWrapper; first | (rw [if_pos (by decide +kernel)]; kernel_rfl) | (rw [if_neg (by decide +kernel)]; exact ⟨rfl, rfl⟩))
    (fun os started H enc _ => lifted os started H enc)

/-- The statement. -/
theorem proved : Rows.LadderMeetsSaid := over
#print axioms proved
end Go.Proofs.Ytjgegdipellpbaa.LadderMeetsDone
