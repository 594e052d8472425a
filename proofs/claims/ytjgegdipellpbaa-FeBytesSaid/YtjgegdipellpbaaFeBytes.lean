/-
  FeBytes: for every two arrays of 32 bytes and every integer the law returns true, and its arguments read as they did.
  No condition.
-/
import Derived.Test.YtjgegdipellpbaaWalkB
import Derived.Test.YtjgegdipellpbaaFeA
import Derived.Test.YtjgegdipellpbaaRows
import Derived.ChangeOld
namespace Go.Bx.W
open Go.Proofs
set_option maxRecDepth 100000

/-- FeBytes, ahead of its last line. -/
noncomputable def fbS (x y w v : List Nat) (n : Int) (m : AVal) : St :=
  ⟨[(2, .int .i64 n), (7, .ptr 0 0), (8, .ptr 1 0), (9, sl16 2), (10, sl16 3), (11, m)],
   [(0, ⟨false, [.nats .i64 65535 16 x]⟩), (1, ⟨false, [.nats .i64 65535 16 y]⟩), (2, ⟨false, row16 w⟩), (3, ⟨false, row16 v⟩)], 4, [], []⟩

noncomputable def fbm (n : Int) : Int := bif bif decide ((0 : Nat) ≤ n) then decide (n < (65536 : Nat)) else false then n else (0 : Nat)

noncomputable def fbE (x y w v : List Nat) (n : Int) (m : Nat) : Bool :=
  bif bytesW (x.map Int.ofNat) == rbytesW w then
    bif Nat.beq ((bytesW (x.map Int.ofNat)).getD 0 0 &&& 1) 1 == Nat.beq (w.getD 0 0 % 2) 1 then
      bif (bytesW (x.map Int.ofNat) == bytesW (y.map Int.ofNat)) == (bif atLeastW w v 16 then atLeastW v w 16 else false) then
        bif bytesW (small1 n) == rbytesW (smallN m) then
          bytesW (zI 16) == List.replicate 32 0
        else false
      else false
    else false
  else false

theorem fb_head (b c : List Nat) (n : Int) (K : Out → St → Prop) (h : Runs Try.prog 68 0 (dropN 6 (bodyOf Try.f3)) (fbS (ofW b) (ofW c) (digN (ofV b % P25)) (digN (ofV c % P25)) n (.int .i64 (fbm n))) K) :
    Runs Try.prog 68 0 (bodyOf Try.f3) ⟨argSlots 0 [.nats .u8 255 32 b, .nats .u8 255 32 c, .int .i64 n], [], 0, [], []⟩ K :=
  runs_head (σ := σl) (k := 6) (n := 3000) (rn := [(0, 144), (1, 160), (2, 224), (3, 256)]) (E := []) (C := true) hσl mixed (by kernel_rfl) (by kernel_rfl) rfl h

theorem fb_tail (x y w v : List Nat) (n : Int) (m : Nat) : Runs Try.prog 68 0 (dropN 6 (bodyOf Try.f3)) (fbS x y w v n (.nat .i64 m 0 65535)) (endK Try.prog Try.f3 (KF (.ob (fbE x y w v n m)) [])) :=
  runs_end (σ := σl) (fuel := 1000) (C := true) hσl mixed (by kernel_rfl) rfl
end Go.Bx.W

namespace Go.Bx.W
open Go.Proofs

theorem fbE_true {b c : List Nat} (hb : ∀ x ∈ b, x ≤ 255) (hc : ∀ x ∈ c, x ≤ 255) (n : Int) : fbE (ofW b) (ofW c) (digN (ofV b % P25)) (digN (ofV c % P25)) n (fbm n).toNat = true := by
  obtain ⟨b1, b2⟩ := ofE hb
  obtain ⟨c1, c2⟩ := ofE hc
  unfold fbE
  have h1 : (bytesW ((ofW b).map Int.ofNat) == rbytesW (digN (ofV b % P25))) = true := by
    rw [bytesW_ok b1, rbytesW_ok, b2]; simp
  have h2 : (Nat.beq ((bytesW ((ofW b).map Int.ofNat)).getD 0 0 &&& 1) 1 == Nat.beq ((digN (ofV b % P25)).getD 0 0 % 2) 1) = true := by
    rw [odd_ok b1, getD_cast_digN, b2]; simp
  have h3 : ((bytesW ((ofW b).map Int.ofNat) == bytesW ((ofW c).map Int.ofNat)) == (bif atLeastW (digN (ofV b % P25)) (digN (ofV c % P25)) 16 then atLeastW (digN (ofV c % P25)) (digN (ofV b % P25)) 16 else false)) = true := by
    rw [bytesW_eq b1 c1, same_ok (modP_lt16 _) (modP_lt16 _), b2, c2]; simp
  have h4 : (bytesW (small1 n) == rbytesW (smallN (fbm n).toNat)) = true := by
    obtain ⟨s1, s2⟩ := small1_ok n
    have hm : (fbm n).toNat = if 0 ≤ n ∧ n < 65536 then n.toNat else 0 := by
      unfold fbm
      by_cases q1 : 0 ≤ n
      · by_cases q2 : n < 65536
        · rw [if_pos ⟨q1, q2⟩, decide_eq_true (show ((0 : Nat) : Int) ≤ n from q1), decide_eq_true (show n < ((65536 : Nat) : Int) from q2)]; rfl
        · rw [if_neg (fun h => q2 h.2), decide_eq_true (show ((0 : Nat) : Int) ≤ n from q1), decide_eq_false (show ¬ n < ((65536 : Nat) : Int) from q2)]; rfl
      · rw [if_neg (fun h => q1 h.1), decide_eq_false (show ¬ ((0 : Nat) : Int) ≤ n from q1)]; rfl
    rw [bytesW_ok s1, s2, hm, smallN_ok (by split <;> omega), rbytesW_ok]; simp
  have h5 : (bytesW (zI 16) == List.replicate 32 0) = true := by
    rw [bytesW_ok zI_elem, zI_val]; decide
  rw [h1, h2, h3, h4, h5]
  rfl

theorem fbS_wid (x y w v : List Nat) (n m : Int) (hm : 0 ≤ m ∧ m ≤ 65535) : Wid (fbS x y w v n (.int .i64 m)) (fbS x y w v n (.nat .i64 m.toNat 0 65535)) := by
  have hf : Fit (.int .i64 m) (.nat .i64 m.toNat 0 65535) := by
    intro L u hu
    have hu : u = .int .i64 m := hu
    refine ⟨?_, Nat.zero_le _, by omega⟩
    rw [hu]
    congr 1; omega
  refine ⟨fun t => ?_, WidH.refl _, Nat.le_refl _⟩
  simp only [fbS, lk_eq, lk?_cons, lk?_nil]
  repeat (split <;> first | exact Fit.refl _ | exact hf | skip)

theorem fbm_range (n : Int) : 0 ≤ fbm n ∧ fbm n ≤ 65535 := by
  unfold fbm
  by_cases q1 : 0 ≤ n
  · by_cases q2 : n < 65536
    · rw [decide_eq_true (show ((0 : Nat) : Int) ≤ n from q1), decide_eq_true (show n < ((65536 : Nat) : Int) from q2)]
      simp only [cond_true]; omega
    · rw [decide_eq_true (show ((0 : Nat) : Int) ≤ n from q1), decide_eq_false (show ¬ n < ((65536 : Nat) : Int) from q2)]
      simp
  · rw [decide_eq_false (show ¬ ((0 : Nat) : Int) ≤ n from q1)]
    simp

theorem f3_run {b c : List Nat} (hb : ∀ x ∈ b, x ≤ 255) (hc : ∀ x ∈ c, x ≤ 255) (n : Int) : RunF Try.prog Try.f3 0 [.nats .u8 255 32 b, .nats .u8 255 32 c, .int .i64 n] [] (KF (.bool true) []) := by
  have h : RunF Try.prog Try.f3 0 [.nats .u8 255 32 b, .nats .u8 255 32 c, .int .i64 n] [] (KF (.ob (fbE (ofW b) (ofW c) (digN (ofV b % P25)) (digN (ofV c % P25)) n (fbm n).toNat)) []) :=
    ⟨bodyOf Try.f3, by kernel_rfl, fb_head b c n _ (Runs.wid (fbS_wid _ _ _ _ n _ (fbm_range n)) (fb_tail _ _ _ _ n _))⟩
  rw [fbE_true hb hc] at h
  exact h.mono fun v H hk => ⟨hk.1.trans fun _ _ q => q, hk.2⟩
end Go.Bx.W

namespace Go.Proofs.Ytjgegdipellpbaa.FeBytesDone
open Go.ChangeShapes Go.WideShapes Go.ChangeAt Go.RowKit Go.Bx

theorem own : ownKnob Try.prog.godebug = none := by kernel_rfl
theorem laidOut : laidOutB Try.prog = true := by kernel_rfl

theorem walk (z0 z1 : List Int) (n : Int) (l0 : z0.length = 32) (l1 : z1.length = 32) (w0 : ∀ z ∈ z0, (Lit.int .u8 z).wf = true) (w1 : ∀ z ∈ z1, (Lit.int .u8 z).wf = true) (w : World) :
    Calls Try.prog 3 #[.agg (z0.map (Value.int .u8)).toArray, .agg (z1.map (Value.int .u8)).toArray, .int .i64 n] w fun e w' => e = .returned (.bool true) ∧ Below w.heap.size w w' := by
  have b0 := bytes_val (L := ⟨fun _ => ⟨0, 0, 0⟩, fun _ => False⟩) l0 w0
  have b1 := bytes_val (L := ⟨fun _ => ⟨0, 0, 0⟩, fun _ => False⟩) l1 w1
  refine law_calls (fn := Try.f3) Try.func3 (W.f3_run b0.1 b1.1 n) (Nat.le_of_ble_eq_true rfl) (vs := [.agg (z0.map (Value.int .u8)).toArray, .agg (z1.map (Value.int .u8)).toArray, .int .i64 n]) ⟨rfl, fun i => ?_⟩
  match i with
  | 0 => exact b0.2
  | 1 => exact b1.2
  | 2 => exact rfl
  | i + 3 => exact trivial

set_option maxRecDepth 100000 in
theorem lifted (os : Os) (started : os.Started) (H : Type) (enc : TypeId × Value → H) :
    ReturnsInHanded {} Try.checked os 3 .any (Rows.feBytesSpec.pre6 enc Try.prog Try.f3 Rows.feBytesRow.domain false) (Rows.feBytesSpec.post enc Try.prog Try.f3 false true false false) := by
  refine returnsInHanded_of_change (C := Try.checked) own started (by kernel_rfl) Try.func3
    (ChangeSpec.witness6 (enc := enc) (C := Try.checked) false ⟨#[], #[.agg (Array.replicate 32 (.int .u8 0)), .agg (Array.replicate 32 (.int .u8 0)), .int .i64 0], []⟩ 8 (by kernel_rfl) (by kernel_rfl) (by kernel_rfl) (by kernel_rfl)) ?_
  intro W base args ds gs before hval0 hW hcnd _
  have hval : ∀ (j : Nat) t v, Try.f3.params[j]? = some t → args[j]? = some v → Value.okWide Try.prog W .any base t v := hval0
  have hW' := hW
  obtain ⟨p, q, hA0, hV, rfl, hfz, hnd⟩ := hW
  have hA : DataW.TrodAll enc Try.prog W 0 (fun _ => true) true Try.f3.params.toList args.toList ds p := hA0
  rw [Try.params3] at hA hval
  obtain ⟨v0, vs0, d0, ds0, p0, q0, hargs, rfl, rfl, h0, r0⟩ := trodAll_cons hA
  obtain ⟨v1, vs1, d1, ds1, p1, q1, rfl, rfl, rfl, h1, r1⟩ := trodAll_cons r0
  obtain ⟨v2, vs2, d2, ds2, p2, q2, rfl, rfl, rfl, h2, r2⟩ := trodAll_cons r1
  obtain ⟨rfl, rfl, rfl⟩ := trodAll_nil r2
  obtain rfl : args = #[v0, v1, v2] := by cases args; simp_all
  obtain ⟨rfl, rfl⟩ := trodVars_none hV
  have k0 := h0
  have k1 := h1
  have lt0 : ∀ x ∈ p0, x.block < W.heap.size := by obtain ⟨m, hm⟩ := k0; exact DataW.trod_lt m _ _ _ hm
  have lt1 : ∀ x ∈ p1, x.block < W.heap.size := by obtain ⟨m, hm⟩ := k1; exact DataW.trod_lt m _ _ _ hm
  obtain ⟨z0, rfl, l0, w0⟩ := open_array Try.underlying22 Try.underlying5 (by kernel_rfl) (by kernel_rfl) (hval 0 22 v0 rfl rfl) h0
  obtain ⟨z1, rfl, l1, w1⟩ := open_array Try.underlying22 Try.underlying5 (by kernel_rfl) (by kernel_rfl) (hval 1 22 v1 rfl rfl) h1
  obtain ⟨n, rfl, rfl, rfl, wn⟩ := open_int Try.underlying3 (hval 2 3 v2 rfl rfl) h2
  clear hA0 hval0
  refine (walk z0 z1 n l0 l1 w0 w1 W).mono fun e W' ⟨he, bel⟩ => ?_
  subst he
  exact ⟨_, rfl, _, _, _, [], _, [], hW', trodAll_mk1 (shut_bool Try.underlying4 _), (trodAll_cons_mk (Below.trod laidOut (by kernel_rfl) (of_decide_eq_true (by kernel_rfl)) k0 bel lt0) (trodAll_cons_mk (Below.trod laidOut (by kernel_rfl) (of_decide_eq_true (by kernel_rfl)) k1 bel lt1) (trodAll_cons_mk (shut_int Try.underlying3 wn) trodAll_mk0))), rfl, bel.frame _, fun h => by cases h⟩

theorem over : Rows.feBytesRow.holds Try.pinned (OpenSpec.ofChange Rows.feBytesSpec) :=
  OpenClaim.holds_of_wide 3 Try.f3 rfl rfl rfl rfl rfl rfl rfl ⟨rfl, rfl, rfl, rfl, rfl⟩ rfl rfl rfl rfl rfl (by kernel_rfl) Try.func3 (by kernel_rfl)
    (of_decide_eq_true (by kernel_rfl)) (by unfold Func.isWrapper; first | (rw [if_pos (by decide +kernel)]; kernel_rfl) | (rw [if_neg (by decide +kernel)]; exact ⟨rfl, rfl⟩))
    (fun os started H enc _ => lifted os started H enc)

/-- The statement. -/
theorem proved : Rows.FeBytesSaid := over
#print axioms proved
end Go.Proofs.Ytjgegdipellpbaa.FeBytesDone
