/-
  The walks through the reference products and differences; that the program is awake.
  No condition.
-/
import Derived.Test.YtjgegdipellpbaaFeA
import Derived.Test.YtjgegdipellpbaaWalkA
namespace Go.Bx.W
open Go.Proofs
set_option maxRecDepth 100000

noncomputable def ml : Code := bodyOf Try.f34
noncomputable def mulA (x y : List Nat) : St := ⟨argSlots 0 [sl16 0, sl16 1], [(0, ⟨true, row16 x⟩), (1, ⟨true, row16 y⟩)], 2, [], []⟩
noncomputable def mulB (h : Nat) (z : List Nat) : St := ⟨[(5, slN 2 32)], [(2, ⟨false, [.nats .i64 h 32 z]⟩)], 3, [], []⟩
theorem mul_head (x y : List Nat) (K : Out → St → Prop) (h : Runs Try.prog 72 2 (dropN 3 ml) (mulB 1114229 (rmulW x y)) K) : Runs Try.prog 72 2 ml (mulA x y) K :=
  runs_head (σ := []) (k := 3) (n := 3000) (rn := [(2, 98)]) (E := []) (C := true) no_sums mixed (by kernel_rfl) (by kernel_rfl) rfl h
theorem mul_tail (z : List Nat) : Runs Try.prog 72 2 (dropN 3 ml) (mulB 65535 z) (endK Try.prog Try.f34 (KF (sl16 19) [(19, row16 (digN (valL z % P25)))])) :=
  runs_end (σ := σo) (fuel := 1000) (C := true) hσo mixed (by kernel_rfl) rfl

theorem mulB_wid {h : Nat} {z : List Nat} (hz : ∀ d ∈ z, d ≤ 65535) : Wid (mulB h z) (mulB 65535 z) := by
  refine ⟨fun t => Fit.refl _, fun n r hr => ?_, Nat.le_refl _⟩
  simp only [mulB, lk?_cons, lk?_nil] at hr
  split at hr
  · rename_i e
    cases e
    cases hr
    refine ⟨_, rfl, fun L cs hc => ?_, id⟩
    obtain ⟨c, d, e, ⟨p1, p2, p3⟩, hd⟩ := hc
    exact ⟨c, d, e, ⟨p1, hz, p3⟩, hd⟩
  · simp at hr

theorem f34_ok : SumOk Try.prog 34 (new2 fun ds es => digN ((valL ds * valL es) % P25)) := by
  refine new2_ok (fn := Try.f34) (X := 19) (by kernel_rfl) (by kernel_rfl) (by kernel_rfl) (Nat.le_of_ble_eq_true rfl) (by omega) fun ds es h1 h2 h3 h4 => ?_
  refine ⟨ml, by kernel_rfl, ?_⟩
  obtain ⟨r1, r2, r3⟩ := rmulW_ok h3 h4 h1 h2
  refine mul_head ds es _ (Runs.wid (mulB_wid r2) ?_)
  have := mul_tail (rmulW ds es)
  rw [r3] at this
  exact this

/-! ### Differences -/
noncomputable def sc : Code := bodyOf Try.f32
noncomputable def subA (x y : List Nat) : St := ⟨[(0, sl16 0), (1, sl16 1)], [(0, ⟨true, row16 x⟩), (1, ⟨true, row16 y⟩)], 2, [], []⟩
noncomputable def subQ (x y : List Nat) (q : AVal) : St := ⟨[(0, sl16 0), (1, sl16 1), (7, q)], [(0, ⟨true, row16 x⟩), (1, ⟨true, row16 y⟩)], 2, [], []⟩
noncomputable def subR (l : List Nat) : St := ⟨[(4, slN 2 16)], [(2, ⟨false, rowN 16 l⟩)], 3, [], []⟩
theorem sub_a (x y : List Nat) : Runs Try.prog 16 2 (seqA sc) ⟨argSlots 0 [sl16 0, sl16 1], [(0, ⟨true, row16 x⟩), (1, ⟨true, row16 y⟩)], 2, [], []⟩ (KE .normal (subA x y)) :=
  runs_x (σ := []) (n := 300) (rn := []) (E := []) (C := true) no_sums mixed (by kernel_rfl) rfl
theorem sub_b (x y : List Nat) : Runs Try.prog 16 2 (seqA (seqA (seqB sc))) (subA x y) (KE .normal (subQ x y (.ob (atLeastW x y 16)))) :=
  runs_x (σ := σm) (n := 300) (rn := []) (E := []) (C := true) hσm mixed (by kernel_rfl) rfl
theorem sub_c (x y : List Nat) : Runs Try.prog 16 2 (seqB (seqA (seqB sc))) (subQ x y (.bool true)) (KE .ret (subR (rlessW x y))) :=
  runs_x (σ := σm) (n := 300) (rn := [(2, 34)]) (E := []) (C := true) hσm mixed (by kernel_rfl) rfl
theorem sub_d (x y : List Nat) : Runs Try.prog 16 2 (seqB (seqA (seqB sc))) (subQ x y (.bool false)) (KE .normal (subA x y)) :=
  runs_x (σ := σm) (n := 300) (rn := []) (E := []) (C := true) hσm mixed (by kernel_rfl) rfl
theorem sub_e (x y : List Nat) : Runs Try.prog 16 2 (seqB (seqB sc)) (subA x y) (KE .ret (subR (rlessW pW (rlessW y x)))) :=
  runs_x (σ := σm) (n := 300) (rn := [(2, 66)]) (E := []) (C := true) hσm mixed (by kernel_rfl) rfl
theorem sub_end (l : List Nat) : endK Try.prog Try.f32 (KF (sl16 2) [(2, row16 l)]) .ret (subR l) := endK_of (C := true) (by kernel_rfl)
theorem subQ_wid (x y : List Nat) (b : Bool) : Wid (subQ x y (.ob b)) (subQ x y (.bool b)) := by
  refine ⟨fun t => ?_, WidH.refl _, Nat.le_refl _⟩
  simp only [subQ, lk_eq, lk?_cons, lk?_nil]
  repeat (split <;> first | exact Fit.refl _ | exact fit_ob b | skip)

theorem eq_sc : sc = .seq (seqA sc) (.seq (.seq (seqA (seqA (seqB sc))) (seqB (seqA (seqB sc)))) (seqB (seqB sc))) := by kernel_rfl
theorem f32_ok : SumOk Try.prog 32 (new2 rsubW) := by
  refine new2_ok (fn := Try.f32) (X := 2) (by kernel_rfl) (by kernel_rfl) (by kernel_rfl) (Nat.le_of_ble_eq_true rfl) (by omega) fun ds es _ _ _ _ => ?_
  refine ⟨sc, by kernel_rfl, ?_⟩
  rw [eq_sc]
  refine Runs.seq (sub_a ds es) fun o s hk => ?_
  obtain ⟨rfl, rfl⟩ := hk
  simp only
  cases hb : atLeastW ds es 16
  · refine Runs.seq (K := KE .normal (subA ds es)) (Runs.seq (sub_b ds es) fun o s hk => ?_) fun o s hk => ?_
    · obtain ⟨rfl, rfl⟩ := hk
      simp only
      rw [hb]
      exact Runs.wid (subQ_wid ds es false) (sub_d ds es)
    · obtain ⟨rfl, rfl⟩ := hk
      simp only
      refine (sub_e ds es).mono fun o s hk => ?_
      obtain ⟨rfl, rfl⟩ := hk
      simp only [rsubW, hb, cond_false]
      exact sub_end _
  · refine Runs.seq (K := KE .ret (subR (rlessW ds es))) (Runs.seq (sub_b ds es) fun o s hk => ?_) fun o s hk => ?_
    · obtain ⟨rfl, rfl⟩ := hk
      simp only
      rw [hb]
      exact Runs.wid (subQ_wid ds es true) (sub_c ds es)
    · obtain ⟨rfl, rfl⟩ := hk
      simp only [rsubW, hb, cond_true]
      exact sub_end _
end Go.Bx.W

namespace Go.Bx.W
open Go.Proofs
set_option maxRecDepth 100000

/-- The program is awake. -/
noncomputable def awakeS : Sum := fun args _ _ => match args with
  | [] => some (true, .bool true, [])
  | _ => none

noncomputable def σw : List (Nat × Sum) := [(22, sum1 fun xs => .nats .u8 255 32 (bytesW xs)), (27, smallS), (33, sum2 fun xs ys => .ints .i64 16 (mulW xs ys))]
theorem hσw : ∀ f s, lk? σw f = some s → SumOk Try.prog f s := sums_cons f22_ok (sums_cons f27_ok (sums_cons f33_ok no_sums))

theorem f19_run : RunF Try.prog Try.f19 0 [] [] (KF (.ob (bytesW (mulW (small1 2) (small1 3)) == [6, 0, 0, 0, 0, 0, 0, 0, 0, 0, 0, 0, 0, 0, 0, 0, 0, 0, 0, 0, 0, 0, 0, 0, 0, 0, 0, 0, 0, 0, 0, 0])) []) :=
  runF_k (σ := σw) (fuel := 1000) (C := true) hσw mixed (by kernel_rfl) (by kernel_rfl) rfl

theorem awake_true : (bytesW (mulW (small1 2) (small1 3)) == [6, 0, 0, 0, 0, 0, 0, 0, 0, 0, 0, 0, 0, 0, 0, 0, 0, 0, 0, 0, 0, 0, 0, 0, 0, 0, 0, 0, 0, 0, 0, 0]) = true := by
  obtain ⟨h1, h2⟩ := mulW_ok (small1_ok 2).1 (small1_ok 3).1
  rw [(small1_ok 2).2, (small1_ok 3).2] at h2
  rw [bytesW_ok h1, h2]
  decide

theorem f19_ok : SumOk Try.prog 19 awakeS := by
  refine fun_val (fn := Try.f19) (by kernel_rfl) (by kernel_rfl) (by kernel_rfl) fun args H fr v us he => ?_
  unfold awakeS at he
  split at he
  · simp only [Option.some.injEq, Prod.mk.injEq, true_and] at he
    obtain ⟨rfl, rfl⟩ := he
    refine ⟨rfl, [], rfl, fun i => Fit.refl _, rfl, rfl, Nat.zero_le _, f19_run.mono fun v H hk => ⟨?_, hk.2⟩⟩
    have h := hk.1
    rw [awake_true] at h
    exact h.trans fun _ _ q => q
  · simp at he

noncomputable def elS (g : List Int → List Int → List Int) : Sum := sum2 fun xs ys => .ints .i64 16 (g xs ys)
noncomputable def σl : List (Nat × Sum) := [(19, awakeS), (20, ofS), (21, rofS), (22, sum1 fun xs => .nats .u8 255 32 (bytesW xs)), (23, look1 fun xs => .nats .u8 255 32 (rbytesW xs)),
  (24, sum1 fun xs => .ob (Nat.beq ((bytesW xs).getD 0 0 &&& 1) 1)), (25, sum2 fun xs ys => .ob (bytesW xs == bytesW ys)),
  (26, look2 fun xs ys => .ob (cond (atLeastW xs ys 16) (atLeastW ys xs 16) false)), (27, smallS), (28, rsmallS),
  (29, elS addW), (30, new2 fun ds es => digN ((valL ds + valL es) % P25)), (31, elS subW), (32, new2 rsubW), (33, elS mulW), (34, new2 fun ds es => digN ((valL ds * valL es) % P25)),
  (35, sum1 fun xs => .ints .i64 16 (negW xs))]
theorem hσl : ∀ f s, lk? σl f = some s → SumOk Try.prog f s :=
  sums_cons f19_ok (sums_cons f20_ok (sums_cons f21_ok (sums_cons f22_ok (sums_cons f23_ok (sums_cons f24_ok (sums_cons f25_ok (sums_cons f26_ok (sums_cons f27_ok (sums_cons f28_ok (sums_cons f29_ok (sums_cons f30_ok (sums_cons f31_ok (sums_cons f32_ok (sums_cons f33_ok (sums_cons f34_ok (sums_cons f35_ok no_sums))))))))))))))))
end Go.Bx.W
