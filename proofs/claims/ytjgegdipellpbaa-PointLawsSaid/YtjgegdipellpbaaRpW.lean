/-
  Parts of the proofs: RpB, RpC, RpD, RpE, RpE2, RpM, RpM2, RpN, LawI0.
  No condition.
-/
import Derived.Test.YtjgegdipellpbaaPtP
import Derived.Test.YtjgegdipellpbaaWalkC
import Derived.Test.YtjgegdipellpbaaWalkE
import Derived.Test.YtjgegdipellpbaaPtW
namespace Go.Bx.W
open Go.Proofs
set_option maxRecDepth 100000
noncomputable def σrp : List (Nat × Sum) := [(23, look1 fun xs => .nats .u8 255 32 (rbytesW xs)), (26, look2 fun xs ys => .ob (sameW xs ys)), (28, rsmallS), (30, new2 rAdd), (32, new2 rsubW), (34, new2 rMul), (37, rpowS), (68, pS), (99, new2 rlessW)]
theorem hσrp : ∀ f s, lk? σrp f = some s → SumOk Try.prog f s := sums_cons f23_ok (sums_cons f26_ok (sums_cons f28_ok (sums_cons f30_ok (sums_cons f32_ok (sums_cons f34_ok (sums_cons f37_ok (sums_cons f68_ok (sums_cons f99_ok no_sums))))))))
end Go.Bx.W

namespace Go.Bx.W
open Go.Proofs
set_option maxRecDepth 100000
theorem f69_ok : SumOk Try.prog 69 (new1 rinvN) := by
  refine new1_ok (fn := Try.f69) (X := 97) (by kernel_rfl) (by kernel_rfl) (by kernel_rfl) (Nat.le_of_ble_eq_true rfl) (by omega) fun ds => ?_
  exact runF_k (σ := σrp) (fuel := 1000) (C := true) hσrp mixed (by kernel_rfl) (by kernel_rfl) rfl
noncomputable def σrp1 : List (Nat × Sum) := (69, new1 rinvN) :: σrp
theorem hσrp1 : ∀ f s, lk? σrp1 f = some s → SumOk Try.prog f s := sums_cons f69_ok hσrp
theorem f62_ok : SumOk Try.prog 62 (new0 rDW) := by
  refine new0_ok (fn := Try.f62) (X := 352) (by kernel_rfl) (by kernel_rfl) (by kernel_rfl) ?_
  exact runF_k (σ := σrp1) (fuel := 1000) (C := true) hσrp1 mixed (by kernel_rfl) (by kernel_rfl) rfl
theorem f55_ok : SumOk Try.prog 55 (rlookS fun p => by32 (rpbytesW p)) := by
  refine rlookS_ok (fn := Try.f55) (by kernel_rfl) (by kernel_rfl) (by kernel_rfl) (Nat.le_of_ble_eq_true rfl) (fun _ => rfl) fun p => ?_
  exact runF_k (σ := σrp1) (fuel := 1000) (C := true) hσrp1 mixed (by kernel_rfl) (by kernel_rfl) rfl
theorem f61_ok : SumOk Try.prog 61 raddS := by
  refine raddS_ok (fn := Try.f61) (X := 951) (Y := 1063) (Z := 1111) (by kernel_rfl) (by kernel_rfl) (by kernel_rfl) (Nat.le_of_ble_eq_true rfl) (by omega) (by omega) (by omega) (by omega) (by omega) (by omega) fun p q d => ?_
  exact runF_k (σ := σrp1) (fuel := 1000) (C := true) hσrp1 mixed (by kernel_rfl) (by kernel_rfl) rfl
noncomputable def σrp2 : List (Nat × Sum) := (62, new0 rDW) :: σrp1
theorem hσrp2 : ∀ f s, lk? σrp2 f = some s → SumOk Try.prog f s := sums_cons f62_ok hσrp1
theorem f56_ok : SumOk Try.prog 56 (look2 fun x y => .ob (ronW x y)) := by
  refine look2_ok (fn := Try.f56) (by kernel_rfl) (by kernel_rfl) (by kernel_rfl) (Nat.le_of_ble_eq_true rfl) (fun _ _ => rfl) fun x y => ?_
  exact runF_k (σ := σrp2) (fuel := 1000) (C := true) hσrp2 mixed (by kernel_rfl) (by kernel_rfl) rfl
end Go.Bx.W

namespace Go.Bx.W
open Go.Proofs
set_option maxRecDepth 100000
theorem f105_ok : SumOk Try.prog 105 rpOfS := by
  refine rpOfS_ok (fn := Try.f105) (X := 50) (by kernel_rfl) (by kernel_rfl) (by kernel_rfl) (Nat.le_of_ble_eq_true rfl) (by omega) fun ds es => ?_
  exact runF_k (σ := σrp) (fuel := 1000) (C := true) hσrp mixed (by kernel_rfl) (by kernel_rfl) rfl
end Go.Bx.W

namespace Go.Bx.W
open Go.Proofs
set_option maxRecDepth 100000
noncomputable def σbs : List (Nat × Sum) := (105, rpOfS) :: σrp2
theorem hσbs : ∀ f s, lk? σbs f = some s → SumOk Try.prog f s := sums_cons f105_ok hσrp2
noncomputable def bb : Code := bodyOf Try.f53
noncomputable def bX : Code := dropN 3 bb
noncomputable def bL : Code := inner (inner (seqB (seqA bX)))
noncomputable def bI : Code := inner (seqA (seqB bL))
noncomputable def rbStr : AVal := match xA Try.prog σbs 43 2000 (firstN 3 bb) ⟨argSlots 0 [], [], 0, [], []⟩ with | some (_, _, s) => lk .any s.sl 1 | none => .any
theorem eq_bX : bX = .seq (.seq (seqA (seqA bX)) (.block 0 (.loop bL))) (seqB bX) := by kernel_rfl
theorem eq_bL : bL = .seq (seqA bL) (.seq (.block 1 bI) (seqB (seqB bL))) := by kernel_rfl

theorem bs_h (K : Out → St → Prop) (h : Runs Try.prog 43 0 bX (rbSt rbStr .any .any (List.replicate 16 0)) K) : Runs Try.prog 43 0 bb ⟨argSlots 0 [], [], 0, [], []⟩ K :=
  runs_head (σ := σbs) (k := 3) (n := 2000) (rn := [(1, 32)]) (E := []) (C := true) hσbs mixed (by kernel_rfl) (by kernel_rfl) rfl h
theorem bs_z (x : List Nat) : Runs Try.prog 43 0 (seqA (seqA bX)) (rbSt rbStr .any .any x) (KE .normal (rbSt rbStr (litA 0) .any x)) :=
  runs_x (σ := σbs) (n := 300) (rn := []) (E := []) (C := true) hσbs mixed (by kernel_rfl) rfl
theorem bs_1 (x : List Nat) :
    andAll 77 (fun i => okX 0 [] [] (xA Try.prog σbs 43 300 (seqA bL) (rbSt rbStr (litA i) .any x)) true .normal (rbSt rbStr (litA i) .any x)) = andAll 77 (fun i => selfX [] true (rbSt rbStr (litA i) .any x)) := by kernel_rfl
theorem bs_2 (x : List Nat) :
    andAll 77 (fun i => okX 0 [] [] (xA Try.prog σbs 43 300 (firstN 1 bI) (rbSt rbStr (litA i) .any x)) true .normal (rbSt rbStr (litA i) (.int .i64 (Int.ofNat (baseDig.getD i 0))) x)) = andAll 77 (fun i => selfX [] true (rbSt rbStr (litA i) (.int .i64 (Int.ofNat (baseDig.getD i 0))) x)) := by kernel_rfl
theorem bs_3 (i d : Nat) (x : List Nat) : Runs Try.prog 43 0 (seqB bI) (rbSt rbStr (bdA i 76) (bdA d 9) x) (KE .normal (rbSt rbStr (bdA i 76) .any (tenW d x))) :=
  runs_x (σ := σbs) (n := 300) (rn := []) (E := []) (C := true) hσbs mixed (by kernel_rfl) rfl
theorem bs_4 (x : List Nat) :
    andAll 77 (fun i => okX 0 [] [] (xA Try.prog σbs 43 300 (seqB (seqB bL)) (rbSt rbStr (litA i) .any x)) true .normal (rbSt rbStr (litA (i + 1)) .any x)) = andAll 77 (fun i => selfX [] true (rbSt rbStr (litA (i + 1)) .any x)) := by kernel_rfl
theorem bs_5 (x : List Nat) : Runs Try.prog 43 0 (seqA bL) (rbSt rbStr (litA 77) .any x) (KE (.exit 0) (rbSt rbStr .any .any x)) :=
  runs_x (σ := σbs) (n := 300) (rn := []) (E := []) (C := true) hσbs mixed (by kernel_rfl) rfl
end Go.Bx.W

namespace Go.Bx.W
open Go.Proofs
set_option maxRecDepth 100000

theorem baseDig_le : ∀ i, i < 77 → baseDig.getD i 0 ≤ 9 := by decide +kernel

theorem bs_round (i : Nat) (hi : i < 77) (x : List Nat) : Runs Try.prog 43 0 bL (rbSt rbStr (litA i) .any x) (KE .normal (rbSt rbStr (litA (i + 1)) .any (tenW (baseDig.getD i 0) x))) := by
  have g1 := runs_seen (nt := 43) (m := 0) (n := 300) (rn := []) (E := []) hσbs mixed (andAll_get ((bs_1 x).mpr (andAll_of (fun _ => selfX_true [] true _) 77)) i hi)
  have g2 := andAll_get ((bs_2 x).mpr (andAll_of (fun _ => selfX_true [] true _) 77)) i hi
  have hd := baseDig_le i hi
  generalize baseDig.getD i 0 = d at *
  have g4 := runs_seen (nt := 43) (m := 0) (n := 300) (rn := []) (E := []) hσbs mixed (andAll_get ((bs_4 (tenW d x)).mpr (andAll_of (fun _ => selfX_true [] true _) 77)) i hi)
  rw [eq_bL]
  refine Runs.seq g1 fun o s hk => ?_
  obtain ⟨rfl, rfl⟩ := hk
  simp only
  refine Runs.seq (K := KE .normal (rbSt rbStr (bdA i 76) .any (tenW d x))) ?_ fun o s hk => ?_
  · refine Runs.block (K := KE .normal (rbSt rbStr (bdA i 76) .any (tenW d x))) ?_ fun o s hk => ?_
    · refine runs_head_seen (k := 1) hσbs mixed (by kernel_rfl) g2 ?_
      have hfit : Fit (.int .i64 (Int.ofNat d)) (bdA d 9) := fun L v hv => by
        have hv : v = .int .i64 (Int.ofNat d) := hv
        exact ⟨hv, Nat.zero_le _, hd⟩
      exact Runs.wid (rbSt_wid (fit_bd (by omega)) hfit rbStr x) (bs_3 i d x)
    · obtain ⟨rfl, rfl⟩ := hk
      exact ⟨rfl, rfl⟩
  · obtain ⟨rfl, rfl⟩ := hk
    exact Runs.wid (rbSt_wid fit_lit' (Fit.refl _) rbStr _) g4

theorem bs_all : ∀ j i, i + j = 77 → RunsL Try.prog 43 0 bL (rbSt rbStr (litA i) .any (rbX i)) (KE (.exit 0) (rbSt rbStr .any .any (rbX 77)))
  | 0, i, hi => by
    have : i = 77 := hi
    subst this
    rw [eq_bL]
    refine RunsL.round (K := KE (.exit 0) (rbSt rbStr .any .any (rbX 77))) (Runs.seq (bs_5 _) fun o s hk => ?_) fun o s hk => ?_
    · obtain ⟨rfl, rfl⟩ := hk
      exact ⟨rfl, rfl⟩
    · obtain ⟨rfl, rfl⟩ := hk
      exact ⟨rfl, rfl⟩
  | j + 1, i, hi => by
    refine RunsL.round (bs_round i (by omega) (rbX i)) fun o s hk => ?_
    obtain ⟨rfl, rfl⟩ := hk
    exact bs_all j (i + 1) (by omega)

theorem bs_e (x : List Nat) : Runs Try.prog 43 0 (seqB bX) (rbSt rbStr .any .any x) (endK Try.prog Try.f53 (KF (agg3 1 66 82) [(1, row16 x), (66, row16 (rMul (smallN 4) (rinvN (smallN 5)))), (82, row16 (smallN 1))])) :=
  runs_end (σ := σbs) (fuel := 300) (C := true) hσbs mixed (by kernel_rfl) rfl

theorem f53_ok : SumOk Try.prog 53 (new30 rbP) := by
  refine new30_ok (fn := Try.f53) (X := 1) (Y := 66) (Z := 82) (by kernel_rfl) (by kernel_rfl) (by kernel_rfl) (by omega) (by omega) (by omega) ?_
  refine ⟨bb, by kernel_rfl, bs_h _ ?_⟩
  rw [eq_bX]
  refine Runs.seq (K := KE .normal (rbSt rbStr .any .any (rbX 77))) (Runs.seq (bs_z _) fun o s hk => ?_) fun o s hk => ?_
  · obtain ⟨rfl, rfl⟩ := hk
    simp only
    refine Runs.block (K := KE (.exit 0) (rbSt rbStr .any .any (rbX 77))) (bs_all 77 0 rfl).loop fun o s hk => ?_
    obtain ⟨rfl, rfl⟩ := hk
    exact ⟨rfl, rfl⟩
  · obtain ⟨rfl, rfl⟩ := hk
    exact bs_e _
end Go.Bx.W

namespace Go.Bx.W
open Go.Proofs
set_option maxRecDepth 100000
noncomputable def σmm : List (Nat × Sum) := [(28, rsmallS), (61, raddS), (62, new0 rDW), (105, rpOfS)]
theorem hσmm : ∀ f s, lk? σmm f = some s → SumOk Try.prog f s := sums_cons f28_ok (sums_cons f61_ok (sums_cons f62_ok (sums_cons f105_ok no_sums)))
noncomputable def mm : Code := bodyOf Try.f59
noncomputable def mmX : Code := dropN 5 mm
noncomputable def mmR : Code := inner (inner (seqB (seqA mmX)))
noncomputable def mmB3 : Code := inner (seqA (seqB mmR))
noncomputable def mmI : Code := inner (inner (seqB (seqB mmB3)))
noncomputable def mmB : Code := inner (seqA (seqB mmI))
theorem eq_mmX : mmX = .seq (.seq (seqA (seqA mmX)) (.block 2 (.loop mmR))) (seqB mmX) := by kernel_rfl
theorem eq_mmR : mmR = .seq (.seq (seqA (seqA mmR)) (seqB (seqA mmR))) (.seq (.block 3 mmB3) (seqB (seqB mmR))) := by kernel_rfl
theorem eq_mmB3 : dropN 2 mmB3 = .block 4 (.loop mmI) := by kernel_rfl
theorem eq_mmI : mmI = .seq (seqA mmI) (.seq (.block 5 (.seq (.seq (seqA (seqA mmB)) (seqB (seqA mmB))) (seqB mmB))) (seqB (seqB mmI))) := by kernel_rfl

theorem mm_p1 (i l k c : Nat) (bs d : List Nat) (p o : N3) : Runs Try.prog 53 3 (seqA (seqA mmB)) (rmSt (bdA i 31) (bdA l 32) (bdA c 255) (bdA k 8) bs d p o) (KE .normal (rmQ (bdA i 31) (bdA l 32) (bdA c 255) (bdA k 8) (.ob (Nat.beq (c % 2) 1)) bs d p o)) :=
  runs_x (σ := σmm) (n := 300) (rn := []) (E := []) (C := true) hσmm mixed (by kernel_rfl) rfl
theorem mm_p2t (i l k c : Nat) (bs d : List Nat) (p o : N3) : Runs Try.prog 53 3 (seqB (seqA mmB)) (rmQ (bdA i 31) (bdA l 32) (bdA c 255) (bdA k 8) (.bool true) bs d p o) (KE .normal (rmSt (bdA i 31) (bdA l 32) (bdA c 255) (bdA k 8) bs d p (raddP o p d))) :=
  runs_x (σ := σmm) (n := 300) (rn := [(11, 62), (12, 63), (13, 64)]) (E := []) (C := true) hσmm mixed (by kernel_rfl) rfl
theorem mm_p2f (i l k c : Nat) (bs d : List Nat) (p o : N3) : Runs Try.prog 53 3 (seqB (seqA mmB)) (rmQ (bdA i 31) (bdA l 32) (bdA c 255) (bdA k 8) (.bool false) bs d p o) (KE .normal (rmSt (bdA i 31) (bdA l 32) (bdA c 255) (bdA k 8) bs d p o)) :=
  runs_x (σ := σmm) (n := 300) (rn := []) (E := []) (C := true) hσmm mixed (by kernel_rfl) rfl
theorem mm_p3 (i l k c : Nat) (bs d : List Nat) (p o : N3) : Runs Try.prog 53 3 (seqB mmB) (rmSt (bdA i 31) (bdA l 32) (bdA c 255) (bdA k 8) bs d p o) (KE .normal (rmSt (bdA i 31) (bdA l 32) (bdA (c / 2) 255) (bdA k 8) bs d (raddP p p d) o)) :=
  runs_x (σ := σmm) (n := 300) (rn := [(8, 62), (9, 63), (10, 64)]) (E := []) (C := true) hσmm mixed (by kernel_rfl) rfl
theorem mm_k1 (i l c : Nat) (bs d : List Nat) (p o : N3) :
    andAll 8 (fun k => okX 3 [] [] (xA Try.prog σmm 53 100 (seqA mmI) (rmSt (bdA i 31) (bdA l 32) (bdA c 255) (litA k) bs d p o)) true .normal (rmSt (bdA i 31) (bdA l 32) (bdA c 255) (litA k) bs d p o)) = andAll 8 (fun k => selfX [] true (rmSt (bdA i 31) (bdA l 32) (bdA c 255) (litA k) bs d p o)) := by kernel_rfl
theorem mm_k2 (i l c : Nat) (bs d : List Nat) (p o : N3) :
    andAll 8 (fun k => okX 3 [] [] (xA Try.prog σmm 53 100 (seqB (seqB mmI)) (rmSt (bdA i 31) (bdA l 32) (bdA c 255) (litA k) bs d p o)) true .normal (rmSt (bdA i 31) (bdA l 32) (bdA c 255) (litA (k + 1)) bs d p o)) = andAll 8 (fun k => selfX [] true (rmSt (bdA i 31) (bdA l 32) (bdA c 255) (litA (k + 1)) bs d p o)) := by kernel_rfl
theorem mm_k3 (i l c : Nat) (bs d : List Nat) (p o : N3) : Runs Try.prog 53 3 (seqA mmI) (rmSt (bdA i 31) (bdA l 32) (bdA c 255) (litA 8) bs d p o) (KE (.exit 4) (rmSt (bdA i 31) (bdA l 32) (bdA c 255) (litA 8) bs d p o)) :=
  runs_x (σ := σmm) (n := 300) (rn := []) (E := []) (C := true) hσmm mixed (by kernel_rfl) rfl
theorem mm_i0 (l : Nat) (bs d : List Nat) (p o : N3) :
    andAll 32 (fun i => okX 3 [] [] (xA Try.prog σmm 53 100 (seqA (seqA mmR)) (rmSt (litA i) (bdA l 32) .any .any bs d p o)) true .normal (rmL (litA i) (bdA l 32) (.ob (Nat.blt i l)) bs d p o)) = andAll 32 (fun i => selfX [] true (rmL (litA i) (bdA l 32) (.ob (Nat.blt i l)) bs d p o)) := by kernel_rfl
theorem mm_i1t (i l : Nat) (bs d : List Nat) (p o : N3) : Runs Try.prog 53 3 (seqB (seqA mmR)) (rmL (bdA i 31) (bdA l 32) (.bool true) bs d p o) (KE .normal (rmSt (bdA i 31) (bdA l 32) .any .any bs d p o)) :=
  runs_x (σ := σmm) (n := 300) (rn := []) (E := []) (C := true) hσmm mixed (by kernel_rfl) rfl
theorem mm_i1f (i l : Nat) (bs d : List Nat) (p o : N3) : Runs Try.prog 53 3 (seqB (seqA mmR)) (rmL (bdA i 32) (bdA l 32) (.bool false) bs d p o) (KE (.exit 2) (rmSt .any .any .any .any bs d p o)) :=
  runs_x (σ := σmm) (n := 300) (rn := []) (E := []) (C := true) hσmm mixed (by kernel_rfl) rfl
theorem mm_i2 (l : Nat) (bs d : List Nat) (p o : N3) :
    andAll 32 (fun i => okX 3 [] [] (xA Try.prog σmm 53 100 (firstN 2 mmB3) (rmSt (litA i) (bdA l 32) .any .any bs d p o)) true .normal (rmSt (litA i) (bdA l 32) (bdA (bs.getD i 0) 255) (litA 0) bs d p o)) = andAll 32 (fun i => selfX [] true (rmSt (litA i) (bdA l 32) (bdA (bs.getD i 0) 255) (litA 0) bs d p o)) := by kernel_rfl
theorem mm_i3 (l : Nat) (bs d : List Nat) (p o : N3) :
    andAll 32 (fun i => okX 3 [] [] (xA Try.prog σmm 53 100 (seqB (seqB mmR)) (rmSt (litA i) (bdA l 32) .any .any bs d p o)) true .normal (rmSt (litA (i + 1)) (bdA l 32) .any .any bs d p o)) = andAll 32 (fun i => selfX [] true (rmSt (litA (i + 1)) (bdA l 32) .any .any bs d p o)) := by kernel_rfl
theorem mm_i4 (l : Nat) (bs d : List Nat) (p o : N3) : Runs Try.prog 53 3 (seqA (seqA mmR)) (rmSt (litA 32) (bdA l 32) .any .any bs d p o) (KE .normal (rmL (litA 32) (bdA l 32) (.bool false) bs d p o)) :=
  runs_x (σ := σmm) (n := 300) (rn := []) (E := []) (C := true) hσmm mixed (by kernel_rfl) rfl
theorem mm_z (l : Nat) (bs d : List Nat) (p o : N3) : Runs Try.prog 53 3 (seqA (seqA mmX)) (rmSt .any (bdA l 32) .any .any bs d p o) (KE .normal (rmSt (litA 0) (bdA l 32) .any .any bs d p o)) :=
  runs_x (σ := σmm) (n := 300) (rn := []) (E := []) (C := true) hσmm mixed (by kernel_rfl) rfl
theorem mm_e (bs d : List Nat) (p o : N3) : Runs Try.prog 53 3 (seqB mmX) (rmSt .any .any .any .any bs d p o) (endK Try.prog Try.f59 (KF (agg3 11 12 13) [(11, row16 o.x), (12, row16 o.y), (13, row16 o.z)])) :=
  runs_end (σ := σmm) (fuel := 300) (C := true) hσmm mixed (by kernel_rfl) rfl
end Go.Bx.W

namespace Go.Bx.W
open Go.Proofs
set_option maxRecDepth 100000

theorem mm_h (p : N3) (bs : List Nat) (K : Out → St → Prop) (h : Runs Try.prog 53 3 mmX (rmSt .any (bdA (lastN bs 32) 32) .any .any bs rDW p rNought) K) :
    Runs Try.prog 53 3 mm ⟨argSlots 0 [agg3 0 1 2, by32 bs], [(0, ⟨true, row16 p.x⟩), (1, ⟨true, row16 p.y⟩), (2, ⟨true, row16 p.z⟩)], 3, [], []⟩ K :=
  runs_head (σ := σmm) (k := 5) (n := 300) (rn := [(4, 19), (5, 35), (6, 51), (7, 131), (8, 0), (9, 1), (10, 2), (11, 83), (12, 99), (13, 115)]) (E := []) (C := true) hσmm mixed (by kernel_rfl) (by kernel_rfl) rfl h

theorem mm_bit (i l k c : Nat) (hk : k < 8) (bs d : List Nat) (p o : N3) :
    Runs Try.prog 53 3 mmI (rmSt (bdA i 31) (bdA l 32) (bdA c 255) (litA k) bs d p o) (KE .normal (rmSt (bdA i 31) (bdA l 32) (bdA (c / 2) 255) (litA (k + 1)) bs d (raddP p p d) (cond (Nat.beq (c % 2) 1) (raddP o p d) o))) := by
  have g1 := runs_seen (nt := 53) (m := 3) (n := 100) (rn := []) (E := []) hσmm mixed (andAll_get ((mm_k1 i l c bs d p o).mpr (andAll_of (fun _ => selfX_true [] true _) 8)) k hk)
  have e : ∀ o', Runs Try.prog 53 3 (seqB (seqB mmI)) (rmSt (bdA i 31) (bdA l 32) (bdA (c / 2) 255) (litA k) bs d (raddP p p d) o') (KE .normal (rmSt (bdA i 31) (bdA l 32) (bdA (c / 2) 255) (litA (k + 1)) bs d (raddP p p d) o')) := fun o' =>
    runs_seen (nt := 53) (m := 3) (n := 100) (rn := []) (E := []) hσmm mixed (andAll_get ((mm_k2 i l (c / 2) bs d (raddP p p d) o').mpr (andAll_of (fun _ => selfX_true [] true _) 8)) k hk)
  have q3 : ∀ o', Runs Try.prog 53 3 (seqB mmB) (rmSt (bdA i 31) (bdA l 32) (bdA c 255) (bdA k 8) bs d p o') (KE .normal (rmSt (bdA i 31) (bdA l 32) (bdA (c / 2) 255) (bdA k 8) bs d (raddP p p d) o')) := fun o' => mm_p3 i l k c bs d p o'
  have q1 := mm_p1 i l k c bs d p o
  have q2t := mm_p2t i l k c bs d p o
  have q2f := mm_p2f i l k c bs d p o
  generalize raddP p p d = p' at *
  generalize raddP o p d = o' at *
  rw [eq_mmI]
  refine Runs.seq g1 fun _ s hk1 => ?_
  obtain ⟨rfl, rfl⟩ := hk1
  simp only
  refine Runs.seq (K := KE .normal (rmSt (bdA i 31) (bdA l 32) (bdA (c / 2) 255) (bdA k 8) bs d p' (cond (Nat.beq (c % 2) 1) o' o))) ?_ fun _ s hk1 => ?_
  · refine Runs.block (K := KE .normal (rmSt (bdA i 31) (bdA l 32) (bdA (c / 2) 255) (bdA k 8) bs d p' (cond (Nat.beq (c % 2) 1) o' o))) ?_ fun _ s hk1 => ?_
    · refine Runs.wid (rmSt_wid (i' := bdA i 31) (last' := bdA l 32) (c' := bdA c 255) (k' := bdA k 8) (Fit.refl _) (Fit.refl _) (Fit.refl _) (fit_bd (by omega)) bs d p o) ?_
      refine Runs.seq (K := KE .normal (rmSt (bdA i 31) (bdA l 32) (bdA c 255) (bdA k 8) bs d p (cond (Nat.beq (c % 2) 1) o' o))) ?_ fun _ s hk1 => ?_
      · refine Runs.seq q1 fun _ s hk1 => ?_
        obtain ⟨rfl, rfl⟩ := hk1
        simp only
        cases hb : Nat.beq (c % 2) 1
        · exact Runs.wid (rmQ_wid _ _ _ _ false bs d p o) q2f
        · exact Runs.wid (rmQ_wid _ _ _ _ true bs d p o) q2t
      · obtain ⟨rfl, rfl⟩ := hk1
        exact q3 _
    · obtain ⟨rfl, rfl⟩ := hk1
      exact ⟨rfl, rfl⟩
  · obtain ⟨rfl, rfl⟩ := hk1
    exact Runs.wid (rmSt_wid (Fit.refl _) (Fit.refl _) (Fit.refl _) fit_lit' bs d _ _) (e _)

theorem mm_bits (i l : Nat) (bs d : List Nat) (p0 : N3) : ∀ j k, k + j = 8 → RunsL Try.prog 53 3 mmI (rmSt (bdA i 31) (bdA l 32) (bdA (bs.getD i 0 / 2 ^ k) 255) (litA k) bs d (rmS d p0 bs (8 * i + k)).1 (rmS d p0 bs (8 * i + k)).2)
    (KE (.exit 4) (rmSt (bdA i 31) (bdA l 32) (bdA (bs.getD i 0 / 2 ^ 8) 255) (litA 8) bs d (rmS d p0 bs (8 * i + 8)).1 (rmS d p0 bs (8 * i + 8)).2))
  | 0, k, hk => by
    have : k = 8 := hk
    subst this
    rw [eq_mmI]
    refine RunsL.round (K := KE (.exit 4) (rmSt (bdA i 31) (bdA l 32) (bdA (bs.getD i 0 / 2 ^ 8) 255) (litA 8) bs d (rmS d p0 bs (8 * i + 8)).1 (rmS d p0 bs (8 * i + 8)).2)) (Runs.seq (mm_k3 i l _ bs d _ _) fun o s hk1 => ?_) fun o s hk1 => ?_
    · obtain ⟨rfl, rfl⟩ := hk1
      exact ⟨rfl, rfl⟩
    · obtain ⟨rfl, rfl⟩ := hk1
      exact ⟨rfl, rfl⟩
  | j + 1, k, hk => by
    refine RunsL.round (mm_bit i l k _ (by omega) bs d _ _) fun o s hk1 => ?_
    obtain ⟨rfl, rfl⟩ := hk1
    simp only
    have h := mm_bits i l bs d p0 j (k + 1) (by omega)
    have e1 : bs.getD i 0 / 2 ^ k / 2 = bs.getD i 0 / 2 ^ (k + 1) := by rw [Nat.pow_succ, Nat.div_div_eq_div_mul]
    have e2 : rmS d p0 bs (8 * i + (k + 1)) = (raddP (rmS d p0 bs (8 * i + k)).1 (rmS d p0 bs (8 * i + k)).1 d, cond (Nat.beq (bs.getD i 0 / 2 ^ k % 2) 1) (raddP (rmS d p0 bs (8 * i + k)).2 (rmS d p0 bs (8 * i + k)).1 d) (rmS d p0 bs (8 * i + k)).2) := by
      have q1 : (8 * i + k) / 8 = i := by omega
      have q2 : (8 * i + k) % 8 = k := by omega
      show rmS d p0 bs (8 * i + k + 1) = _
      rw [rmS, q1, q2]
    rw [e2] at h
    rw [e1]
    exact h

theorem mm_byte (i : Nat) (hi : i < 32) (l : Nat) (hl : Nat.blt i l = true) (bs d : List Nat) (p0 : N3) :
    Runs Try.prog 53 3 mmR (rmSt (litA i) (bdA l 32) .any .any bs d (rmS d p0 bs (8 * i)).1 (rmS d p0 bs (8 * i)).2) (KE .normal (rmSt (litA (i + 1)) (bdA l 32) .any .any bs d (rmS d p0 bs (8 * (i + 1))).1 (rmS d p0 bs (8 * (i + 1))).2)) := by
  have g1 := runs_seen (nt := 53) (m := 3) (n := 100) (rn := []) (E := []) hσmm mixed (andAll_get ((mm_i0 l bs d (rmS d p0 bs (8 * i)).1 (rmS d p0 bs (8 * i)).2).mpr (andAll_of (fun _ => selfX_true [] true _) 32)) i hi)
  have g2 := andAll_get ((mm_i2 l bs d (rmS d p0 bs (8 * i)).1 (rmS d p0 bs (8 * i)).2).mpr (andAll_of (fun _ => selfX_true [] true _) 32)) i hi
  have g3 := runs_seen (nt := 53) (m := 3) (n := 100) (rn := []) (E := []) hσmm mixed (andAll_get ((mm_i3 l bs d (rmS d p0 bs (8 * (i + 1))).1 (rmS d p0 bs (8 * (i + 1))).2).mpr (andAll_of (fun _ => selfX_true [] true _) 32)) i hi)
  have hbits := mm_bits i l bs d p0 8 0 rfl
  rw [Nat.pow_zero, Nat.div_one] at hbits
  have e8 : 8 * (i + 1) = 8 * i + 8 := by omega
  rw [e8] at g3 ⊢
  rw [Nat.add_zero] at hbits
  generalize rmS d p0 bs (8 * i) = s1 at *
  generalize rmS d p0 bs (8 * i + 8) = s2 at *
  rw [eq_mmR]
  refine Runs.seq (K := KE .normal (rmSt (bdA i 31) (bdA l 32) .any .any bs d s1.1 s1.2)) (Runs.seq g1 fun o s hk1 => ?_) fun o s hk1 => ?_
  · obtain ⟨rfl, rfl⟩ := hk1
    simp only
    rw [hl]
    refine Runs.wid (rmL_wid _ _ true bs d _ _) (Runs.wid ?_ (mm_i1t i l bs d _ _))
    refine ⟨fun t => ?_, WidH.refl _, Nat.le_refl _⟩
    simp only [rmL, lk_eq, lk?_cons, lk?_nil]
    repeat (split <;> first | exact Fit.refl _ | exact fit_bd (by omega) | skip)
  · obtain ⟨rfl, rfl⟩ := hk1
    simp only
    refine Runs.seq (K := KE .normal (rmSt (bdA i 31) (bdA l 32) (bdA (bs.getD i 0 / 2 ^ 8) 255) (litA 8) bs d s2.1 s2.2)) ?_ fun o s hk1 => ?_
    · refine Runs.block (K := KE .normal (rmSt (bdA i 31) (bdA l 32) (bdA (bs.getD i 0 / 2 ^ 8) 255) (litA 8) bs d s2.1 s2.2)) ?_ fun o s hk1 => ?_
      · refine Runs.wid (rmSt_wid fit_lit' (Fit.refl _) (Fit.refl _) (Fit.refl _) bs d _ _) ?_
        refine runs_head_seen (k := 2) hσmm mixed (by kernel_rfl) g2 ?_
        rw [eq_mmB3]
        refine Runs.block (K := KE (.exit 4) (rmSt (bdA i 31) (bdA l 32) (bdA (bs.getD i 0 / 2 ^ 8) 255) (litA 8) bs d s2.1 s2.2)) (RunsL.loop ?_) fun o s hk1 => ?_
        · intro F w0 L a w cs
          exact hbits F w0 L a w (cs.wid (rmSt_wid (fit_bd (by omega)) (Fit.refl _) (Fit.refl _) (Fit.refl _) bs d _ _))
        · obtain ⟨rfl, rfl⟩ := hk1
          exact ⟨rfl, rfl⟩
      · obtain ⟨rfl, rfl⟩ := hk1
        exact ⟨rfl, rfl⟩
    · obtain ⟨rfl, rfl⟩ := hk1
      exact Runs.wid (rmSt_wid fit_lit' (Fit.refl _) (Fit.any _) (Fit.any _) bs d _ _) g3

theorem mm_stop (i : Nat) (hi : i ≤ 32) (l : Nat) (hl : Nat.blt i l = false) (bs d : List Nat) (p o : N3) : Runs Try.prog 53 3 mmR (rmSt (litA i) (bdA l 32) .any .any bs d p o) (KE (.exit 2) (rmSt .any .any .any .any bs d p o)) := by
  rw [eq_mmR]
  refine Runs.seq (K := KE (.exit 2) (rmSt .any .any .any .any bs d p o)) ?_ fun o s hk1 => ?_
  · rcases Nat.lt_or_ge i 32 with h | h
    · have g1 := runs_seen (nt := 53) (m := 3) (n := 100) (rn := []) (E := []) hσmm mixed (andAll_get ((mm_i0 l bs d p o).mpr (andAll_of (fun _ => selfX_true [] true _) 32)) i h)
      refine Runs.seq g1 fun o' s hk1 => ?_
      obtain ⟨rfl, rfl⟩ := hk1
      simp only
      rw [hl]
      refine Runs.wid (rmL_wid _ _ false bs d _ _) (Runs.wid ?_ (mm_i1f i l bs d _ _))
      refine ⟨fun t => ?_, WidH.refl _, Nat.le_refl _⟩
      simp only [rmL, lk_eq, lk?_cons, lk?_nil]
      repeat (split <;> first | exact Fit.refl _ | exact fit_bd (by omega) | skip)
    · have : i = 32 := by omega
      subst this
      refine Runs.seq (mm_i4 l bs d p o) fun o' s hk1 => ?_
      obtain ⟨rfl, rfl⟩ := hk1
      simp only
      refine Runs.wid ?_ (mm_i1f 32 l bs d _ _)
      refine ⟨fun t => ?_, WidH.refl _, Nat.le_refl _⟩
      simp only [rmL, lk_eq, lk?_cons, lk?_nil]
      repeat (split <;> first | exact Fit.refl _ | exact fit_bd (by omega) | skip)
  · obtain ⟨rfl, rfl⟩ := hk1
    exact ⟨rfl, rfl⟩

theorem mm_bytes (l : Nat) (hl : l ≤ 32) (bs d : List Nat) (p0 : N3) : ∀ j i, i + j = l → RunsL Try.prog 53 3 mmR (rmSt (litA i) (bdA l 32) .any .any bs d (rmS d p0 bs (8 * i)).1 (rmS d p0 bs (8 * i)).2) (KE (.exit 2) (rmSt .any .any .any .any bs d (rmS d p0 bs (8 * l)).1 (rmS d p0 bs (8 * l)).2))
  | 0, i, hi => by
    have : i = l := hi
    subst this
    have hf : Nat.blt i i = false := by
      cases h : Nat.blt i i
      · rfl
      · have := blt_lt h; omega
    refine RunsL.round (mm_stop i hl i hf bs d _ _) fun o s hk1 => ?_
    obtain ⟨rfl, rfl⟩ := hk1
    exact ⟨rfl, rfl⟩
  | j + 1, i, hi => by
    have ht : Nat.blt i l = true := by rw [Nat.blt_eq]; omega
    refine RunsL.round (mm_byte i (by omega) l ht bs d p0) fun o s hk1 => ?_
    obtain ⟨rfl, rfl⟩ := hk1
    exact mm_bytes l hl bs d p0 j (i + 1) (by omega)

theorem lastN_le (bs : List Nat) : ∀ k, lastN bs k ≤ k
  | 0 => Nat.le_refl _
  | k + 1 => by
    have := lastN_le bs k
    rw [lastN]
    cases Nat.blt 0 (bs.getD k 0)
    · simp only [cond_false]; omega
    · simp only [cond_true]; omega

theorem mm_all (p : N3) (bs : List Nat) (l : Nat) (hl : l = lastN bs 32) (d : List Nat) : Runs Try.prog 53 3 mmX (rmSt .any (bdA l 32) .any .any bs d p rNought) (endK Try.prog Try.f59 (KF (agg3 11 12 13) [(11, row16 (rmS d p bs (8 * l)).2.x), (12, row16 (rmS d p bs (8 * l)).2.y), (13, row16 (rmS d p bs (8 * l)).2.z)])) := by
  have hle : l ≤ 32 := hl ▸ lastN_le bs 32
  have h := mm_bytes l hle bs d p l 0 (by omega)
  rw [eq_mmX]
  refine Runs.seq (K := KE .normal (rmSt .any .any .any .any bs d (rmS d p bs (8 * l)).1 (rmS d p bs (8 * l)).2)) (Runs.seq (mm_z l bs d _ _) fun o s hk => ?_) fun o s hk => ?_
  · obtain ⟨rfl, rfl⟩ := hk
    simp only
    refine Runs.block (K := KE (.exit 2) (rmSt .any .any .any .any bs d (rmS d p bs (8 * l)).1 (rmS d p bs (8 * l)).2)) (RunsL.loop h) fun o s hk => ?_
    obtain ⟨rfl, rfl⟩ := hk
    exact ⟨rfl, rfl⟩
  · obtain ⟨rfl, rfl⟩ := hk
    exact mm_e bs d _ _
end Go.Bx.W

namespace Go.Bx.W
open Go.Proofs
set_option maxRecDepth 100000
theorem f59_ok : SumOk Try.prog 59 rmulS := by
  refine rmulS_ok (fn := Try.f59) (X := 11) (Y := 12) (Z := 13) (by kernel_rfl) (by kernel_rfl) (by kernel_rfl) (Nat.le_of_ble_eq_true rfl) (by omega) (by omega) (by omega) (by omega) (by omega) (by omega) fun p bs => ?_
  refine ⟨mm, by kernel_rfl, mm_h p bs _ ?_⟩
  unfold rmulP
  generalize hl : lastN bs 32 = l
  exact mm_all p bs l hl.symm rDW
end Go.Bx.W

namespace Go.Bx.W
open Go.Proofs
set_option maxRecDepth 100000
noncomputable def σ10 : List (Nat × Sum) := (51, constS (.bool true)) :: (52, constS (ptV baseP)) :: (53, new30 rbP) :: (54, psum1 fun p => by32 (pbytesW p)) :: (55, rlookS fun p => by32 (rpbytesW p)) :: (56, look2 fun x y => .ob (ronW x y)) :: (57, constS (ptV noughtW)) :: (58, pbS fun p bs => ptV (pmulW p bs)) :: (59, rmulS) :: (60, psum2 fun p q => ptV (paddW p q)) :: (61, raddS) :: (62, new0 rDW) :: (63, psum1 fun p => .ob (ponW p)) :: (64, bsum1 pofV) :: (66, psum1 fun p => ptV (pnegW p)) :: (70, psum2 fun p q => .ob (pbytesW p == pbytesW q)) :: []
end Go.Bx.W
