/-
  Parts of the proofs: LawS, RefP, RefP2, RefU, LawE0.
  No condition.
-/
import Derived.Test.YtjgegdipellpbaaWalkB
import Derived.Test.YtjgegdipellpbaaWalkA
import Derived.Test.YtjgegdipellpbaaFeF
namespace Go.Bx.W
open Go.Proofs
set_option maxRecDepth 100000
noncomputable def σl2 : List (Nat × Sum) := (38, sum1 fun xs => .ints .i64 16 (powW xs (numW 21 0))) :: σl
theorem hσl2 : ∀ f s, lk? σl2 f = some s → SumOk Try.prog f s := sums_cons f38_ok hσl

end Go.Bx.W

namespace Go.Bx.W
open Go.Proofs
set_option maxRecDepth 100000

noncomputable def σq : List (Nat × Sum) := [(28, rsmallS), (34, new2 rMul)]
theorem hσq : ∀ f s, lk? σq f = some s → SumOk Try.prog f s := sums_cons f28_ok (sums_cons f34_ok no_sums)

noncomputable def pw : Code := bodyOf Try.f37
noncomputable def pwR : Code := inner (inner (seqB (seqA (seqB (seqB pw)))))
noncomputable def pwB1 : Code := inner (seqA (seqB pwR))
noncomputable def pwIn : Code := inner (inner (seqB (seqB pwB1)))
noncomputable def pwB : Code := inner (seqA (seqB pwIn))

theorem eq_pwR : pwR = .seq (seqA pwR) (.seq (.block 1 pwB1) (seqB (seqB pwR))) := by kernel_rfl
theorem eq_pwB1 : dropN 2 pwB1 = .block 2 (.loop pwIn) := by kernel_rfl
theorem eq_pwIn : pwIn = .seq (seqA pwIn) (.seq (.block 3 (.seq (.seq (seqA (seqA pwB)) (seqB (seqA pwB))) (seqB pwB))) (seqB (seqB pwIn))) := by kernel_rfl

theorem pw_p1 (i k c : Nat) (bs a out : List Nat) : Runs Try.prog 34 1 (seqA (seqA pwB)) (pwI (bdA i 31) (bdA k 8) c bs a out) (KE .normal (pwJ (bdA i 31) (bdA k 8) c bs a out (.ob (Nat.beq (c % 2) 1)))) :=
  runs_x (σ := σq) (n := 300) (rn := []) (E := []) (C := true) hσq mixed (by kernel_rfl) rfl
theorem pw_p2t (i k c : Nat) (bs a out : List Nat) : Runs Try.prog 34 1 (seqB (seqA pwB)) (pwJ (bdA i 31) (bdA k 8) c bs a out (.bool true)) (KE .normal (pwI (bdA i 31) (bdA k 8) c bs a (rMul out a))) :=
  runs_x (σ := σq) (n := 300) (rn := [(3, 36)]) (E := []) (C := true) hσq mixed (by kernel_rfl) rfl
theorem pw_p2f (i k c : Nat) (bs a out : List Nat) : Runs Try.prog 34 1 (seqB (seqA pwB)) (pwJ (bdA i 31) (bdA k 8) c bs a out (.bool false)) (KE .normal (pwI (bdA i 31) (bdA k 8) c bs a out)) :=
  runs_x (σ := σq) (n := 300) (rn := []) (E := []) (C := true) hσq mixed (by kernel_rfl) rfl
theorem pw_p3 (i k c : Nat) (bs a out : List Nat) : Runs Try.prog 34 1 (seqB pwB) (pwI (bdA i 31) (bdA k 8) c bs a out) (KE .normal (pwI (bdA i 31) (bdA k 8) (c / 2) bs (rMul a a) out)) :=
  runs_x (σ := σq) (n := 300) (rn := [(2, 36)]) (E := []) (C := true) hσq mixed (by kernel_rfl) rfl

theorem pw_k1 (i c : Nat) (bs a out : List Nat) :
    andAll 8 (fun k => okX 1 [] [] (xA Try.prog σq 34 100 (seqA pwIn) (pwI (bdA i 31) (litA k) c bs a out)) true .normal (pwI (bdA i 31) (litA k) c bs a out)) = andAll 8 (fun k => selfX [] true (pwI (bdA i 31) (litA k) c bs a out)) := by kernel_rfl
theorem pw_k2 (i c : Nat) (bs a out : List Nat) :
    andAll 8 (fun k => okX 1 [] [] (xA Try.prog σq 34 100 (seqB (seqB pwIn)) (pwI (bdA i 31) (litA k) c bs a out)) true .normal (pwI (bdA i 31) (litA (k + 1)) c bs a out)) = andAll 8 (fun k => selfX [] true (pwI (bdA i 31) (litA (k + 1)) c bs a out)) := by kernel_rfl
theorem pw_k3 (i c : Nat) (bs a out : List Nat) : Runs Try.prog 34 1 (seqA pwIn) (pwI (bdA i 31) (litA 8) c bs a out) (KE (.exit 2) (pwI (bdA i 31) (litA 8) c bs a out)) :=
  runs_x (σ := σq) (n := 300) (rn := []) (E := []) (C := true) hσq mixed (by kernel_rfl) rfl

theorem pw_i1 (bs a out : List Nat) :
    andAll 32 (fun i => okX 1 [] [] (xA Try.prog σq 34 100 (seqA pwR) (pwO (litA i) bs a out)) true .normal (pwO (litA i) bs a out)) = andAll 32 (fun i => selfX [] true (pwO (litA i) bs a out)) := by kernel_rfl
theorem pw_i2 (bs a out : List Nat) :
    andAll 32 (fun i => okX 1 [] [] (xA Try.prog σq 34 100 (firstN 2 pwB1) (pwO (litA i) bs a out)) true .normal (pwI (litA i) (litA 0) (bs.getD i 0) bs a out)) = andAll 32 (fun i => selfX [] true (pwI (litA i) (litA 0) (bs.getD i 0) bs a out)) := by kernel_rfl
theorem pw_i3 (bs a out : List Nat) :
    andAll 32 (fun i => okX 1 [] [] (xA Try.prog σq 34 100 (seqB (seqB pwR)) (pwO (litA i) bs a out)) true .normal (pwO (litA (i + 1)) bs a out)) = andAll 32 (fun i => selfX [] true (pwO (litA (i + 1)) bs a out)) := by kernel_rfl
theorem pw_i4 (bs a out : List Nat) : Runs Try.prog 34 1 (seqA pwR) (pwO (litA 32) bs a out) (KE (.exit 0) (pwO (litA 32) bs a out)) :=
  runs_x (σ := σq) (n := 300) (rn := []) (E := []) (C := true) hσq mixed (by kernel_rfl) rfl
end Go.Bx.W

namespace Go.Bx.W
open Go.Proofs
set_option maxRecDepth 100000

theorem pw_first (i k c : Nat) (hk : k < 8) (bs a out : List Nat) : Runs Try.prog 34 1 (seqA pwIn) (pwI (bdA i 31) (litA k) c bs a out) (KE .normal (pwI (bdA i 31) (litA k) c bs a out)) :=
  runs_seen (σ := σq) (n := 100) (rn := []) (E := []) hσq mixed (andAll_get ((pw_k1 i c bs a out).mpr (andAll_of (fun _ => selfX_true [] true _) 8)) k hk)
theorem pw_next (i k c : Nat) (hk : k < 8) (bs a out : List Nat) : Runs Try.prog 34 1 (seqB (seqB pwIn)) (pwI (bdA i 31) (litA k) c bs a out) (KE .normal (pwI (bdA i 31) (litA (k + 1)) c bs a out)) :=
  runs_seen (σ := σq) (n := 100) (rn := []) (E := []) hσq mixed (andAll_get ((pw_k2 i c bs a out).mpr (andAll_of (fun _ => selfX_true [] true _) 8)) k hk)

/-- A bit. -/
theorem pw_bit (i k c : Nat) (hk : k < 8) (bs a out : List Nat) : Runs Try.prog 34 1 pwIn (pwI (bdA i 31) (litA k) c bs a out) (KE .normal (pwI (bdA i 31) (litA (k + 1)) (c / 2) bs (rMul a a) (cond (Nat.beq (c % 2) 1) (rMul out a) out))) := by
  rw [eq_pwIn]
  refine Runs.seq (pw_first i k c hk bs a out) fun o s hk1 => ?_
  obtain ⟨rfl, rfl⟩ := hk1
  simp only
  refine Runs.seq (K := KE .normal (pwI (bdA i 31) (bdA k 8) (c / 2) bs (rMul a a) (cond (Nat.beq (c % 2) 1) (rMul out a) out))) ?_ fun o s hk1 => ?_
  · refine Runs.block (K := KE .normal (pwI (bdA i 31) (bdA k 8) (c / 2) bs (rMul a a) (cond (Nat.beq (c % 2) 1) (rMul out a) out))) ?_ fun o s hk1 => ?_
    · refine Runs.wid (pwI_wid (kv' := bdA k 8) (Fit.refl _) (fit_bd (by omega)) c bs a out) ?_
      refine Runs.seq (K := KE .normal (pwI (bdA i 31) (bdA k 8) c bs a (cond (Nat.beq (c % 2) 1) (rMul out a) out))) ?_ fun o s hk1 => ?_
      · refine Runs.seq (pw_p1 i k c bs a out) fun o s hk1 => ?_
        obtain ⟨rfl, rfl⟩ := hk1
        simp only
        cases hb : Nat.beq (c % 2) 1
        · exact Runs.wid (pwJ_wid _ _ c bs a out false) (pw_p2f i k c bs a out)
        · exact Runs.wid (pwJ_wid _ _ c bs a out true) (pw_p2t i k c bs a out)
      · obtain ⟨rfl, rfl⟩ := hk1
        exact pw_p3 i k c bs a _
    · obtain ⟨rfl, rfl⟩ := hk1
      exact ⟨rfl, rfl⟩
  · obtain ⟨rfl, rfl⟩ := hk1
    exact Runs.wid (pwI_wid (Fit.refl _) fit_lit' _ bs _ _) (pw_next i k _ hk bs _ _)

/-- The bits of a byte that are to come. -/
theorem pw_bits (i : Nat) (bs a0 : List Nat) : ∀ j k, k + j = 8 → RunsL Try.prog 34 1 pwIn (pwI (bdA i 31) (litA k) (bs.getD i 0 / 2 ^ k) bs (rpS a0 bs (8 * i + k)).1 (rpS a0 bs (8 * i + k)).2) (KE (.exit 2) (pwI (bdA i 31) (litA 8) (bs.getD i 0 / 2 ^ 8) bs (rpS a0 bs (8 * i + 8)).1 (rpS a0 bs (8 * i + 8)).2))
  | 0, k, hk => by
    have : k = 8 := hk
    subst this
    rw [eq_pwIn]
    refine RunsL.round (K := KE (.exit 2) (pwI (bdA i 31) (litA 8) (bs.getD i 0 / 2 ^ 8) bs (rpS a0 bs (8 * i + 8)).1 (rpS a0 bs (8 * i + 8)).2)) (Runs.seq (pw_k3 i _ bs _ _) fun o s hk1 => ?_) fun o s hk1 => ?_
    · obtain ⟨rfl, rfl⟩ := hk1
      exact ⟨rfl, rfl⟩
    · obtain ⟨rfl, rfl⟩ := hk1
      exact ⟨rfl, rfl⟩
  | j + 1, k, hk => by
    refine RunsL.round (pw_bit i k _ (by omega) bs _ _) fun o s hk1 => ?_
    obtain ⟨rfl, rfl⟩ := hk1
    simp only
    have h := pw_bits i bs a0 j (k + 1) (by omega)
    have e1 : bs.getD i 0 / 2 ^ k / 2 = bs.getD i 0 / 2 ^ (k + 1) := by rw [Nat.pow_succ, Nat.div_div_eq_div_mul]
    have e2 : rpS a0 bs (8 * i + (k + 1)) = (rMul (rpS a0 bs (8 * i + k)).1 (rpS a0 bs (8 * i + k)).1, cond (Nat.beq (bs.getD i 0 / 2 ^ k % 2) 1) (rMul (rpS a0 bs (8 * i + k)).2 (rpS a0 bs (8 * i + k)).1) (rpS a0 bs (8 * i + k)).2) := by
      have q1 : (8 * i + k) / 8 = i := by omega
      have q2 : (8 * i + k) % 8 = k := by omega
      show rpS a0 bs (8 * i + k + 1) = _
      rw [rpS, q1, q2]
    rw [e2] at h
    rw [e1]
    exact h

/-- A byte. -/
theorem pw_byte (i : Nat) (hi : i < 32) (bs a0 : List Nat) : Runs Try.prog 34 1 pwR (pwO (litA i) bs (rpS a0 bs (8 * i)).1 (rpS a0 bs (8 * i)).2) (KE .normal (pwO (litA (i + 1)) bs (rpS a0 bs (8 * (i + 1))).1 (rpS a0 bs (8 * (i + 1))).2)) := by
  have g1 := runs_seen (nt := 34) (n := 100) (rn := []) (E := []) hσq mixed (andAll_get ((pw_i1 bs (rpS a0 bs (8 * i)).1 (rpS a0 bs (8 * i)).2).mpr (andAll_of (fun _ => selfX_true [] true _) 32)) i hi)
  have g2 := andAll_get ((pw_i2 bs (rpS a0 bs (8 * i)).1 (rpS a0 bs (8 * i)).2).mpr (andAll_of (fun _ => selfX_true [] true _) 32)) i hi
  have g3 := runs_seen (nt := 34) (n := 100) (rn := []) (E := []) hσq mixed (andAll_get ((pw_i3 bs (rpS a0 bs (8 * (i + 1))).1 (rpS a0 bs (8 * (i + 1))).2).mpr (andAll_of (fun _ => selfX_true [] true _) 32)) i hi)
  rw [eq_pwR]
  refine Runs.seq g1 fun o s hk1 => ?_
  obtain ⟨rfl, rfl⟩ := hk1
  simp only
  refine Runs.seq (K := KE .normal (pwI (bdA i 31) (litA 8) (bs.getD i 0 / 2 ^ 8) bs (rpS a0 bs (8 * i + 8)).1 (rpS a0 bs (8 * i + 8)).2)) ?_ fun o s hk1 => ?_
  · refine Runs.block (K := KE .normal (pwI (bdA i 31) (litA 8) (bs.getD i 0 / 2 ^ 8) bs (rpS a0 bs (8 * i + 8)).1 (rpS a0 bs (8 * i + 8)).2)) ?_ fun o s hk1 => ?_
    · refine runs_head_seen (k := 2) hσq mixed (by kernel_rfl) g2 ?_
      rw [eq_pwB1]
      refine Runs.block (K := KE (.exit 2) (pwI (bdA i 31) (litA 8) (bs.getD i 0 / 2 ^ 8) bs (rpS a0 bs (8 * i + 8)).1 (rpS a0 bs (8 * i + 8)).2)) (RunsL.loop ?_) fun o s hk1 => ?_
      · have h := pw_bits i bs a0 8 0 rfl
        rw [Nat.pow_zero, Nat.div_one] at h
        intro F w0 L a w cs
        exact h F w0 L a w (cs.wid (pwI_wid (fit_bd (by omega)) (Fit.refl _) _ bs _ _))
      · obtain ⟨rfl, rfl⟩ := hk1
        exact ⟨rfl, rfl⟩
    · obtain ⟨rfl, rfl⟩ := hk1
      exact ⟨rfl, rfl⟩
  · obtain ⟨rfl, rfl⟩ := hk1
    exact Runs.wid (pwIO_wid fit_lit' _ bs _ _) g3

/-- The bytes that are to come. -/
theorem pw_bytes (bs a0 : List Nat) : ∀ j i, i + j = 32 → RunsL Try.prog 34 1 pwR (pwO (litA i) bs (rpS a0 bs (8 * i)).1 (rpS a0 bs (8 * i)).2) (KE (.exit 0) (pwO (litA 32) bs (rpS a0 bs 256).1 (rpS a0 bs 256).2))
  | 0, i, hi => by
    have : i = 32 := hi
    subst this
    rw [eq_pwR]
    refine RunsL.round (K := KE (.exit 0) (pwO (litA 32) bs (rpS a0 bs 256).1 (rpS a0 bs 256).2)) (Runs.seq (pw_i4 bs _ _) fun o s hk1 => ?_) fun o s hk1 => ?_
    · obtain ⟨rfl, rfl⟩ := hk1
      exact ⟨rfl, rfl⟩
    · obtain ⟨rfl, rfl⟩ := hk1
      exact ⟨rfl, rfl⟩
  | j + 1, i, hi => by
    refine RunsL.round (pw_byte i (by omega) bs a0) fun o s hk1 => ?_
    obtain ⟨rfl, rfl⟩ := hk1
    exact pw_bytes bs a0 j (i + 1) (by omega)

theorem eq_pw2 : dropN 2 pw = .seq (.seq (seqA (seqA (seqB (seqB pw)))) (.block 0 (.loop pwR))) (seqB (seqB (seqB pw))) := by kernel_rfl

theorem pw_h (ds bs : List Nat) (K : Out → St → Prop) (h : Runs Try.prog 34 1 (dropN 2 pw) (pwO .any bs ds (smallN 1)) K) : Runs Try.prog 34 1 pw ⟨argSlots 0 [sl16 0, .nats .u8 255 32 bs], [(0, ⟨true, row16 ds⟩)], 1, [], []⟩ K :=
  runs_head (σ := σq) (k := 2) (n := 300) (rn := [(2, 0), (3, 33)]) (E := []) (C := true) hσq mixed (by kernel_rfl) (by kernel_rfl) rfl h
theorem pw_z (bs a out : List Nat) : Runs Try.prog 34 1 (seqA (seqA (seqB (seqB pw)))) (pwO .any bs a out) (KE .normal (pwO (litA 0) bs a out)) :=
  runs_x (σ := σq) (n := 300) (rn := []) (E := []) (C := true) hσq mixed (by kernel_rfl) rfl
theorem pw_e (bs a out : List Nat) : Runs Try.prog 34 1 (seqB (seqB (seqB pw))) (pwO (litA 32) bs a out) (endK Try.prog Try.f37 (KF (sl16 3) [(3, row16 out)])) :=
  runs_end (σ := σq) (fuel := 300) (C := true) hσq mixed (by kernel_rfl) rfl

theorem f37_ok : SumOk Try.prog 37 rpowS := by
  refine rpowS_ok (fn := Try.f37) (X := 3) (by kernel_rfl) (by kernel_rfl) (by kernel_rfl) (Nat.le_of_ble_eq_true rfl) (by omega) fun ds bs => ?_
  refine ⟨pw, by kernel_rfl, pw_h ds bs _ ?_⟩
  rw [eq_pw2]
  refine Runs.seq (K := KE .normal (pwO (litA 32) bs (rpS ds bs 256).1 (rpS ds bs 256).2)) (Runs.seq (pw_z bs ds (smallN 1)) fun o s hk1 => ?_) fun o s hk1 => ?_
  · obtain ⟨rfl, rfl⟩ := hk1
    simp only
    refine Runs.block (K := KE (.exit 0) (pwO (litA 32) bs (rpS ds bs 256).1 (rpS ds bs 256).2)) (RunsL.loop (pw_bytes bs ds 32 0 rfl)) fun o s hk1 => ?_
    obtain ⟨rfl, rfl⟩ := hk1
    exact ⟨rfl, rfl⟩
  · obtain ⟨rfl, rfl⟩ := hk1
    exact pw_e bs _ _
end Go.Bx.W

namespace Go.Bx.W
open Go.Proofs
set_option maxRecDepth 100000
noncomputable def σz : List (Nat × Sum) := [(26, look2 fun xs ys => .ob (cond (atLeastW xs ys 16) (atLeastW ys xs 16) false)), (28, rsmallS)]
theorem hσz : ∀ f s, lk? σz f = some s → SumOk Try.prog f s := sums_cons f26_ok (sums_cons f28_ok no_sums)
theorem f39_ok : SumOk Try.prog 39 (look1 fun xs => .ob (zeroN xs)) := by
  refine look1_ok (fn := Try.f39) (by kernel_rfl) (by kernel_rfl) (by kernel_rfl) (Nat.le_of_ble_eq_true rfl) (fun _ => rfl) fun xs => ?_
  exact runF_k (σ := σz) (fuel := 100000) (C := true) hσz mixed (by kernel_rfl) (by kernel_rfl) rfl
noncomputable def σs : List (Nat × Sum) := (23, look1 fun xs => .nats .u8 255 32 (rbytesW xs)) :: (37, rpowS) :: (39, look1 fun xs => .ob (zeroN xs)) :: (68, pS) :: (99, new2 rlessW) :: σz
theorem hσs : ∀ f s, lk? σs f = some s → SumOk Try.prog f s := sums_cons f23_ok (sums_cons f37_ok (sums_cons f39_ok (sums_cons f68_ok (sums_cons f99_ok hσz))))
theorem f42_ok : SumOk Try.prog 42 (look1 fun xs => .ob (squareN xs)) := by
  refine look1_ok (fn := Try.f42) (by kernel_rfl) (by kernel_rfl) (by kernel_rfl) (Nat.le_of_ble_eq_true rfl) (fun _ => rfl) fun xs => ?_
  exact runF_k (σ := σs) (fuel := 100000) (C := true) hσs mixed (by kernel_rfl) (by kernel_rfl) rfl
end Go.Bx.W

namespace Go.Bx.W
open Go.Proofs
set_option maxRecDepth 100000
noncomputable def σl3 : List (Nat × Sum) := (36, powS) :: (37, rpowS) :: (39, look1 fun xs => .ob (zeroN xs)) :: (40, swapS) :: (41, sum1 rootV) :: (42, look1 fun xs => .ob (squareN xs)) :: σl2
theorem hσl3 : ∀ f s, lk? σl3 f = some s → SumOk Try.prog f s := sums_cons f36_ok (sums_cons f37_ok (sums_cons f39_ok (sums_cons f40_ok (sums_cons f41_ok (sums_cons f42_ok hσl2)))))
end Go.Bx.W
