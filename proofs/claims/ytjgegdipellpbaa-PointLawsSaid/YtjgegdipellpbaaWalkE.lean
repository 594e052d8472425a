/-
  Parts of the proofs: LadR, LadR2, LadR3, LadL, LadV.
  No condition.
-/
import Derived.Test.YtjgegdipellpbaaFeG
import Derived.Test.YtjgegdipellpbaaWalkD
namespace Go.Bx.W
open Go.Proofs
set_option maxRecDepth 100000
noncomputable def σk : List (Nat × Sum) := [(21, rofS), (23, look1 fun xs => .nats .u8 255 32 (rbytesW xs)), (28, rsmallS), (30, new2 rAdd), (32, new2 rsubW), (34, new2 rMul), (37, rpowS), (48, bsum1 fun bs => by32 (rclampW bs)), (68, pS), (99, new2 rlessW)]
theorem hσk : ∀ f s, lk? σk f = some s → SumOk Try.prog f s := sums_cons f21_ok (sums_cons f23_ok (sums_cons f28_ok (sums_cons f30_ok (sums_cons f32_ok (sums_cons f34_ok (sums_cons f37_ok (sums_cons f48_ok (sums_cons f68_ok (sums_cons f99_ok no_sums)))))))))
noncomputable def rl : Code := bodyOf Try.f44
noncomputable def rlR : Code := inner (inner (seqB (seqA (dropN 10 rl))))
noncomputable def rlB : Code := inner (seqA (seqB rlR))
end Go.Bx.W

namespace Go.Bx.W
open Go.Proofs
set_option maxRecDepth 100000
theorem eq_rl10 : dropN 10 rl = .seq (.seq (seqA (seqA (dropN 10 rl))) (.block 0 (.loop rlR))) (seqB (dropN 10 rl)) := by kernel_rfl
theorem eq_rlR : rlR = .seq (seqA rlR) (.seq (.block 1 rlB) (seqB (seqB rlR))) := by kernel_rfl

theorem rl_h (ns ps : List Nat) (K : Out → St → Prop) (h : Runs Try.prog 142 0 (dropN 10 rl) (rlSt .any .any (rclampW ns) (digN (ofV ps % P25)) rbyW (smallN 1) (smallN 0) (digN (ofV ps % P25)) (smallN 1)) K) :
    Runs Try.prog 142 0 rl ⟨argSlots 0 [by32 ns, by32 ps], [], 0, [], []⟩ K :=
  runs_head (σ := σk) (k := 10) (n := 300) (rn := [(0, 32), (1, 80), (2, 128), (3, 160), (4, 288), (5, 320), (6, 128), (7, 384)]) (E := []) (C := true) hσk mixed (by kernel_rfl) (by kernel_rfl) rfl h
theorem rl_z (bs u y x2 z2 x3 z3 : List Nat) : Runs Try.prog 142 0 (seqA (seqA (dropN 10 rl))) (rlSt .any .any bs u y x2 z2 x3 z3) (KE .normal (rlSt (powC 255) .any bs u y x2 z2 x3 z3)) :=
  runs_x (σ := σk) (n := 300) (rn := []) (E := []) (C := true) hσk mixed (by kernel_rfl) rfl

theorem rl_r1 (bs u y x2 z2 x3 z3 : List Nat) :
    andAll 255 (fun i => okX 0 [] [] (xA Try.prog σk 142 100 (seqA rlR) (rlSt (powC (i + 1)) .any bs u y x2 z2 x3 z3)) true .normal (rlSt (powC (i + 1)) .any bs u y x2 z2 x3 z3)) = andAll 255 (fun i => selfX [] true (rlSt (powC (i + 1)) .any bs u y x2 z2 x3 z3)) := by kernel_rfl
theorem rl_r2 (bs u y x2 z2 x3 z3 : List Nat) :
    andAll 255 (fun i => okX 0 [] [] (xA Try.prog σk 142 100 (firstN 3 rlB) (rlSt (powC (i + 1)) .any bs u y x2 z2 x3 z3)) true .normal (rlSt (powC (i + 1)) (.nat .i64 (rbit bs i) 0 1) bs u y x2 z2 x3 z3)) = andAll 255 (fun i => selfX [] true (rlSt (powC (i + 1)) (.nat .i64 (rbit bs i) 0 1) bs u y x2 z2 x3 z3)) := by kernel_rfl
theorem rl_r3 (bs u y x2 z2 x3 z3 : List Nat) :
    andAll 255 (fun i => okX 0 [] [] (xA Try.prog σk 142 100 (seqB (seqB rlR)) (rlSt (powC (i + 1)) .any bs u y x2 z2 x3 z3)) true .normal (rlSt (powC i) .any bs u y x2 z2 x3 z3)) = andAll 255 (fun i => selfX [] true (rlSt (powC i) .any bs u y x2 z2 x3 z3)) := by kernel_rfl
theorem rl_c0 (i : Nat) (bs u x2 z2 x3 z3 : List Nat) : Runs Try.prog 142 0 (dropN 3 rlB) (rlSt (bdA i 254) (litA 0) bs u rbyW x2 z2 x3 z3) (KE .normal (rlF (bdA i 254) .any bs u rbyW (rladStep u false ⟨x2, z2, x3, z3⟩))) :=
  runs_x (σ := σk) (n := 300) (rn := [(4, 456), (5, 584), (6, 1032), (7, 1128)]) (E := []) (C := true) hσk mixed (by kernel_rfl) rfl
theorem rl_c1 (i : Nat) (bs u x2 z2 x3 z3 : List Nat) : Runs Try.prog 142 0 (dropN 3 rlB) (rlSt (bdA i 254) (litA 1) bs u rbyW x2 z2 x3 z3) (KE .normal (rlF (bdA i 254) .any bs u rbyW (rladStep u true ⟨x2, z2, x3, z3⟩))) :=
  runs_x (σ := σk) (n := 300) (rn := [(4, 1096), (5, 1192), (6, 520), (7, 648)]) (E := []) (C := true) hσk mixed (by kernel_rfl) rfl
theorem rl_out (bs u y x2 z2 x3 z3 : List Nat) : Runs Try.prog 142 0 (seqA rlR) (rlSt (powC 0) .any bs u y x2 z2 x3 z3) (KE (.exit 0) (rlSt .any .any bs u y x2 z2 x3 z3)) :=
  runs_x (σ := σk) (n := 300) (rn := []) (E := []) (C := true) hσk mixed (by kernel_rfl) rfl
theorem rl_e (bs u y x2 z2 x3 z3 : List Nat) : Runs Try.prog 142 0 (seqB (dropN 10 rl)) (rlSt .any .any bs u y x2 z2 x3 z3) (endK Try.prog Try.f44 (KF (by32 (rbytesW (rMul x2 (rpowW z2 (rbytesW (rlessW pW (smallN 2))))))) [])) :=
  runs_end (σ := σk) (fuel := 300) (C := true) hσk mixed (by kernel_rfl) rfl
end Go.Bx.W

namespace Go.Bx.W
open Go.Proofs

theorem powC_lit : ∀ i, powC (i + 1) = litA i
  | 0 => rfl
  | _ + 1 => rfl

theorem rl_one (i : Nat) (bs u : List Nat) (s : FourN) : Runs Try.prog 142 0 (dropN 3 rlB) (rlF (bdA i 254) (.nat .i64 (rbit bs i) 0 1) bs u rbyW s) (KE .normal (rlF (bdA i 254) .any bs u rbyW (rladStep u (Nat.beq (rbit bs i) 1) s))) := by
  obtain ⟨x2, z2, x3, z3⟩ := s
  have h01 : rbit bs i = 0 ∨ rbit bs i = 1 := by unfold rbit; omega
  unfold rlF
  simp only
  rcases h01 with h | h
  · rw [h]
    exact Runs.wid (rlSt_wid (Fit.refl _) (show Fit (bdA 0 1) (litA 0) from fit_lit') _ _ _ _ _ _ _) (rl_c0 i bs u x2 z2 x3 z3)
  · rw [h]
    exact Runs.wid (rlSt_wid (Fit.refl _) (show Fit (bdA 1 1) (litA 1) from fit_lit') _ _ _ _ _ _ _) (rl_c1 i bs u x2 z2 x3 z3)

theorem rl_round (i : Nat) (hi : i < 255) (bs u : List Nat) (s : FourN) : Runs Try.prog 142 0 rlR (rlF (powC (i + 1)) .any bs u rbyW s) (KE .normal (rlF (powC i) .any bs u rbyW (rladStep u (Nat.beq (rbit bs i) 1) s))) := by
  have g1 := runs_seen (nt := 142) (m := 0) (n := 100) (rn := []) (E := []) hσk mixed (andAll_get ((rl_r1 bs u rbyW s.a s.b s.c s.d).mpr (andAll_of (fun _ => selfX_true [] true _) 255)) i hi)
  have g2 := andAll_get ((rl_r2 bs u rbyW s.a s.b s.c s.d).mpr (andAll_of (fun _ => selfX_true [] true _) 255)) i hi
  have hone := rl_one i bs u s
  generalize rladStep u (Nat.beq (rbit bs i) 1) s = t at *
  have g3 := runs_seen (nt := 142) (m := 0) (n := 100) (rn := []) (E := []) hσk mixed (andAll_get ((rl_r3 bs u rbyW t.a t.b t.c t.d).mpr (andAll_of (fun _ => selfX_true [] true _) 255)) i hi)
  rw [eq_rlR]
  refine Runs.seq g1 fun o s' hk => ?_
  obtain ⟨rfl, rfl⟩ := hk
  simp only
  refine Runs.seq (K := KE .normal (rlF (bdA i 254) .any bs u rbyW t)) ?_ fun o s' hk => ?_
  · refine Runs.block (K := KE .normal (rlF (bdA i 254) .any bs u rbyW t)) ?_ fun o s' hk => ?_
    · refine runs_head_seen (k := 3) hσk mixed (by kernel_rfl) g2 ?_
      refine Runs.wid (rlSt_wid ?_ (Fit.refl _) _ _ _ _ _ _ _) hone
      rw [powC_lit]
      exact fit_bd (by omega)
    · obtain ⟨rfl, rfl⟩ := hk
      exact ⟨rfl, rfl⟩
  · obtain ⟨rfl, rfl⟩ := hk
    refine Runs.wid (rlSt_wid ?_ (Fit.refl _) _ _ _ _ _ _ _) g3
    rw [powC_lit]
    exact fit_lit'

noncomputable def rlSn (u : List Nat) (bs : List Nat) (n : Nat) : St := rlF (powC n) .any bs u rbyW (rladD u bs (255 - n))

theorem rl_loop (u bs : List Nat) : Runs Try.prog 142 0 (.block 0 (.loop rlR)) (rlSn u bs 255) (KE .normal (rlF .any .any bs u rbyW (rladD u bs 255))) := by
  refine runs_down (c := rlR) (id := 0) (S := rlSn u bs) (N := 255) rfl (fun i hi => ?_) ?_
  · have hd : rladD u bs (255 - i) = rladStep u (Nat.beq (rbit bs i) 1) (rladD u bs (255 - (i + 1))) := by
      have e : 255 - i = (255 - (i + 1)) + 1 := by omega
      have e2 : 254 - (255 - (i + 1)) = i := by omega
      rw [e, rladD, e2]
    unfold rlSn
    rw [hd]
    exact rl_round i hi bs u _
  · unfold rlSn
    rw [Nat.sub_zero]
    have h := rl_out bs u rbyW (rladD u bs 255).a (rladD u bs 255).b (rladD u bs 255).c (rladD u bs 255).d
    rw [eq_rlR]
    refine Runs.seq h fun o s hk => ?_
    obtain ⟨rfl, rfl⟩ := hk
    exact ⟨rfl, rfl⟩

theorem rl_body (ns ps u : List Nat) (hu : u = digN (ofV ps % P25)) : Runs Try.prog 142 0 rl ⟨argSlots 0 [by32 ns, by32 ps], [], 0, [], []⟩ (endK Try.prog Try.f44 (KF (by32 (rladW ns ps)) [])) := by
  refine rl_h ns ps _ ?_
  rw [← hu, eq_rl10]
  refine Runs.seq (K := KE .normal (rlF .any .any (rclampW ns) u rbyW (rladD u (rclampW ns) 255))) (Runs.seq (rl_z (rclampW ns) u rbyW _ _ _ _) fun o s hk => ?_) fun o s hk => ?_
  · obtain ⟨rfl, rfl⟩ := hk
    simp only
    have e : rlSn u (rclampW ns) 255 = rlSt (powC 255) .any (rclampW ns) u rbyW (smallN 1) (smallN 0) u (smallN 1) := by
      unfold rlSn rlF
      rw [Nat.sub_self]
      simp only [rladD]
    rw [← e]
    exact rl_loop u (rclampW ns)
  · obtain ⟨rfl, rfl⟩ := hk
    simp only
    have e : rladW ns ps = rbytesW (rMul (rladD u (rclampW ns) 255).a (rpowW (rladD u (rclampW ns) 255).b (rbytesW (rlessW pW (smallN 2))))) := by
      rw [hu]
      simp only [rladW]
    rw [e]
    exact rl_e (rclampW ns) u rbyW _ _ _ _

theorem f44_ok : SumOk Try.prog 44 (bsum2 fun ns ps => by32 (rladW ns ps)) := by
  refine bsum2_ok (fn := Try.f44) (by kernel_rfl) (by kernel_rfl) (by kernel_rfl) (Nat.le_of_ble_eq_true rfl) (fun _ _ => rfl) fun ns ps => ?_
  exact ⟨rl, by kernel_rfl, rl_body ns ps _ rfl⟩
end Go.Bx.W

namespace Go.Bx.W
open Go.Proofs
set_option maxRecDepth 100000
noncomputable def σ46 : List (Nat × Sum) := [(46, bsum2 fun ns ps => by32 (ladW ns ps))]
theorem hσ46 : ∀ f s, lk? σ46 f = some s → SumOk Try.prog f s := sums_cons f46_ok no_sums
theorem f45_run (ns ps : List Nat) : RunF Try.prog Try.f45 0 [by32 ns, by32 ps] [] (KF (.tuple [by32 (cond (ladW ns ps == List.replicate 32 0) (ladW ns ps) (ladW ns ps)), .nat .i64 (cond (ladW ns ps == List.replicate 32 0) 21 0) 0 21]) []) :=
  runF_k (σ := σ46) (fuel := 1000) (C := true) hσ46 mixed (by kernel_rfl) (by kernel_rfl) rfl
theorem f45_ok : SumOk Try.prog 45 (bsum2 sharedV) := by
  refine bsum2_ok (fn := Try.f45) (by kernel_rfl) (by kernel_rfl) (by kernel_rfl) (Nat.le_of_ble_eq_true rfl) (fun _ _ => rfl) fun ns ps => ?_
  have h := f45_run ns ps
  rw [cond_same] at h
  unfold sharedV
  exact h
theorem f50_ok : SumOk Try.prog 50 (constS (by32 base9)) := by
  refine constS_ok (fn := Try.f50) (by kernel_rfl) (by kernel_rfl) (by kernel_rfl) rfl ?_
  exact runF_k (σ := []) (fuel := 1000) (C := true) no_sums mixed (by kernel_rfl) (by kernel_rfl) rfl
noncomputable def σ50 : List (Nat × Sum) := (50, constS (by32 base9)) :: σ46
theorem hσ50 : ∀ f s, lk? σ50 f = some s → SumOk Try.prog f s := sums_cons f50_ok hσ46
theorem f49_ok : SumOk Try.prog 49 (bsum1 fun ns => by32 (ladW ns base9)) := by
  refine bsum1_ok (fn := Try.f49) (by kernel_rfl) (by kernel_rfl) (by kernel_rfl) (Nat.le_of_ble_eq_true rfl) (fun _ => rfl) fun ns => ?_
  exact runF_k (σ := σ50) (fuel := 1000) (C := true) hσ50 mixed (by kernel_rfl) (by kernel_rfl) rfl
noncomputable def σ49 : List (Nat × Sum) := (49, bsum1 fun ns => by32 (ladW ns base9)) :: σ50
theorem hσ49 : ∀ f s, lk? σ49 f = some s → SumOk Try.prog f s := sums_cons f49_ok hσ50
theorem f43_run : RunF Try.prog Try.f43 0 [] [] (KF (.ob (cond (base9 == (List.replicate 32 0).set 0 9) (!(ladW ((List.replicate 32 0).set 0 8) base9 == List.replicate 32 0)) false)) []) :=
  runF_k (σ := σ49) (fuel := 1000) (C := true) hσ49 mixed (by kernel_rfl) (by kernel_rfl) rfl
end Go.Bx.W

namespace Go.Bx.W
open Go.Proofs
set_option maxRecDepth 100000

theorem ofV_base9 : ofV base9 = 9 := by decide +kernel
theorem base9_le : ∀ x ∈ base9, x ≤ 255 := by decide +kernel
theorem leBytes_zero : leBytes 0 = List.replicate 32 0 := by decide +kernel

theorem bytes_zero {a : Fp} : (leBytes a.val == List.replicate 32 0) = decide (a = 0) := by
  by_cases h : a = 0
  · rw [decide_eq_true h, h]
    have : (0 : Fp).val = 0 := rfl
    rw [this, leBytes_zero]; simp
  · rw [decide_eq_false h]
    have : ¬ leBytes a.val = List.replicate 32 0 := fun e => by
      rw [← leBytes_zero, leBytes_inj (val_lt a) (by decide)] at e
      exact h (Fin.ext e)
    simpa using this

theorem finv_ne {a : Fp} (h : a ≠ 0) : finv a ≠ 0 := fun e => by
  have := finv_mul h
  rw [e] at this
  have z : a * 0 = 0 := by grobner
  rw [z] at this
  exact absurd this (by decide +kernel)

theorem eight_true : (cond (base9 == (List.replicate 32 0).set 0 9) (!(ladW ((List.replicate 32 0).set 0 8) base9 == List.replicate 32 0)) false) = true := by
  have h1 : (base9 == (List.replicate 32 0).set 0 9) = true := by decide +kernel
  have h2 := ladW_ok (ns := (List.replicate 32 0).set 0 8) base9_le
  have h3 := eight_bits
  have h4 := eight_ne
  unfold eightL at h3
  have h5 : ladR (fp (ofV base9)) (powBit (clampW ((List.replicate 32 0).set 0 8))) ≠ 0 := by
    rw [ofV_base9]
    unfold ladR
    rw [h3]
    generalize ladF (fp 9) (fun i => Nat.beq i 3 || Nat.beq i 254) 255 = s at *
    intro e
    rcases fp_nozero e with q | q
    · exact h4.1 q
    · exact finv_ne h4.2 q
  rw [h1, h2, bytes_zero, decide_eq_false h5]
  rfl

theorem f43_ok : SumOk Try.prog 43 (constS (.bool true)) := by
  refine constS_ok (fn := Try.f43) (by kernel_rfl) (by kernel_rfl) (by kernel_rfl) rfl ?_
  have h := f43_run
  rw [eight_true] at h
  exact h.mono fun v H hk => ⟨hk.1.trans fun _ _ q => q, hk.2⟩

noncomputable def σ8 : List (Nat × Sum) := (43, constS (.bool true)) :: (44, bsum2 fun ns ps => by32 (rladW ns ps)) :: (45, bsum2 sharedV) :: (47, bsum1 fun bs => by32 (clampW bs)) :: (48, bsum1 fun bs => by32 (rclampW bs)) :: σ49
theorem hσ8 : ∀ f s, lk? σ8 f = some s → SumOk Try.prog f s := sums_cons f43_ok (sums_cons f44_ok (sums_cons f45_ok (sums_cons f47_ok (sums_cons f48_ok hσ49))))
end Go.Bx.W
