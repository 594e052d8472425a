/-
  Parts of the proofs: PtA, PtB, PtM, PtM1, PtM2, PtO.
  No condition.
-/
import Derived.Test.YtjgegdipellpbaaPtP
import Derived.Test.YtjgegdipellpbaaWalkE
namespace Go.Bx.W
open Go.Proofs
set_option maxRecDepth 100000
theorem f106_ok : SumOk Try.prog 106 (constS (el curveW)) := by
  refine constS_ok (fn := Try.f106) (by kernel_rfl) (by kernel_rfl) (by kernel_rfl) rfl ?_
  exact runF_k (σ := σl3) (fuel := 1000) (C := true) hσl3 mixed (by kernel_rfl) (by kernel_rfl) rfl
theorem f104_ok : SumOk Try.prog 104 (sum2 fun x y => ptV (madeW x y)) := by
  refine sum2_ok (fn := Try.f104) (by kernel_rfl) (by kernel_rfl) (by kernel_rfl) (Nat.le_of_ble_eq_true rfl) (fun _ _ => rfl) fun xs ys => ?_
  exact runF_k (σ := σl3) (fuel := 1000) (C := true) hσl3 mixed (by kernel_rfl) (by kernel_rfl) rfl
end Go.Bx.W

namespace Go.Bx.W
open Go.Proofs
set_option maxRecDepth 100000
noncomputable def σpt : List (Nat × Sum) := (104, sum2 fun x y => ptV (madeW x y)) :: (106, constS (el curveW)) :: σl3
theorem hσpt : ∀ f s, lk? σpt f = some s → SumOk Try.prog f s := sums_cons f104_ok (sums_cons f106_ok hσl3)
theorem f57_ok : SumOk Try.prog 57 (constS (ptV noughtW)) := by
  refine constS_ok (fn := Try.f57) (by kernel_rfl) (by kernel_rfl) (by kernel_rfl) rfl ?_
  exact runF_k (σ := σpt) (fuel := 1000) (C := true) hσpt mixed (by kernel_rfl) (by kernel_rfl) rfl
theorem f103_ok : SumOk Try.prog 103 (sum1 fun y => .tuple [el (rtW (firstX y)), .ob (okW (firstX y))]) := by
  refine sum1_ok (fn := Try.f103) (by kernel_rfl) (by kernel_rfl) (by kernel_rfl) (Nat.le_of_ble_eq_true rfl) (fun _ => rfl) fun y => ?_
  exact runF_k (σ := σpt) (fuel := 1000) (C := true) hσpt mixed (by kernel_rfl) (by kernel_rfl) rfl
noncomputable def σpt1 : List (Nat × Sum) := (103, sum1 fun y => .tuple [el (rtW (firstX y)), .ob (okW (firstX y))]) :: σpt
theorem hσpt1 : ∀ f s, lk? σpt1 f = some s → SumOk Try.prog f s := sums_cons f103_ok hσpt
theorem f52_ok : SumOk Try.prog 52 (constS (ptV baseP)) := by
  refine constS_ok (fn := Try.f52) (by kernel_rfl) (by kernel_rfl) (by kernel_rfl) rfl ?_
  exact runF_k (σ := σpt1) (fuel := 1000) (C := true) hσpt1 mixed (by kernel_rfl) (by kernel_rfl) rfl
theorem f54_ok : SumOk Try.prog 54 (psum1 fun p => by32 (pbytesW p)) := by
  refine psum1_ok (fn := Try.f54) (by kernel_rfl) (by kernel_rfl) (by kernel_rfl) (Nat.le_of_ble_eq_true rfl) (fun _ => rfl) fun p => ?_
  exact runF_k (σ := σpt) (fuel := 1000) (C := true) hσpt mixed (by kernel_rfl) (by kernel_rfl) rfl
theorem f63_ok : SumOk Try.prog 63 (psum1 fun p => .ob (ponW p)) := by
  refine psum1_ok (fn := Try.f63) (by kernel_rfl) (by kernel_rfl) (by kernel_rfl) (Nat.le_of_ble_eq_true rfl) (fun _ => rfl) fun p => ?_
  exact runF_k (σ := σpt) (fuel := 1000) (C := true) hσpt mixed (by kernel_rfl) (by kernel_rfl) rfl
theorem f108_ok : SumOk Try.prog 108 sumS := by
  refine sumS_ok (fn := Try.f108) (by kernel_rfl) (by kernel_rfl) (by kernel_rfl) (Nat.le_of_ble_eq_true rfl) fun p q d => ?_
  exact runF_k (σ := σpt) (fuel := 1000) (C := true) hσpt mixed (by kernel_rfl) (by kernel_rfl) rfl
noncomputable def σpt2 : List (Nat × Sum) := (54, psum1 fun p => by32 (pbytesW p)) :: (57, constS (ptV noughtW)) :: (108, sumS) :: σpt1
theorem hσpt2 : ∀ f s, lk? σpt2 f = some s → SumOk Try.prog f s := sums_cons f54_ok (sums_cons f57_ok (sums_cons f108_ok hσpt1))
theorem f60_ok : SumOk Try.prog 60 (psum2 fun p q => ptV (paddW p q)) := by
  refine psum2_ok (fn := Try.f60) (by kernel_rfl) (by kernel_rfl) (by kernel_rfl) (Nat.le_of_ble_eq_true rfl) (fun _ _ => rfl) fun p q => ?_
  exact runF_k (σ := σpt2) (fuel := 1000) (C := true) hσpt2 mixed (by kernel_rfl) (by kernel_rfl) rfl
theorem f66_ok : SumOk Try.prog 66 (psum1 fun p => ptV (pnegW p)) := by
  refine psum1_ok (fn := Try.f66) (by kernel_rfl) (by kernel_rfl) (by kernel_rfl) (Nat.le_of_ble_eq_true rfl) (fun _ => rfl) fun p => ?_
  exact runF_k (σ := σpt) (fuel := 1000) (C := true) hσpt mixed (by kernel_rfl) (by kernel_rfl) rfl
theorem f107_ok : SumOk Try.prog 107 swapPS := by
  refine swapPS_ok (fn := Try.f107) (by kernel_rfl) (by kernel_rfl) (by kernel_rfl) (Nat.le_of_ble_eq_true rfl) fun p q b => ?_
  exact runF_k (σ := σpt) (fuel := 1000) (C := true) hσpt mixed (by kernel_rfl) (by kernel_rfl) rfl
theorem f70_ok : SumOk Try.prog 70 (psum2 fun p q => .ob (pbytesW p == pbytesW q)) := by
  refine psum2_ok (fn := Try.f70) (by kernel_rfl) (by kernel_rfl) (by kernel_rfl) (Nat.le_of_ble_eq_true rfl) (fun _ _ => rfl) fun p q => ?_
  exact runF_k (σ := σpt2) (fuel := 1000) (C := true) hσpt2 mixed (by kernel_rfl) (by kernel_rfl) rfl
end Go.Bx.W

namespace Go.Bx.W
open Go.Proofs
set_option maxRecDepth 100000
noncomputable def σpm : List (Nat × Sum) := [(25, sum2 fun xs ys => .ob (bytesW xs == bytesW ys)), (27, smallS), (29, sum2 fun xs ys => .ints .i64 16 (addW xs ys)), (57, constS (ptV noughtW)), (106, constS (el curveW)), (107, swapPS), (108, sumS)]
theorem hσpm : ∀ f s, lk? σpm f = some s → SumOk Try.prog f s := sums_cons f25_ok (sums_cons f27_ok (sums_cons f29_ok (sums_cons f57_ok (sums_cons f106_ok (sums_cons f107_ok (sums_cons f108_ok no_sums))))))
noncomputable def pm : Code := bodyOf Try.f58
noncomputable def pmR : Code := dropN 2 pm
noncomputable def pmL : Code := inner (inner (seqB (seqA (dropN 3 pmR))))
theorem eq_pm : pm = .seq (seqA pm) (.seq (.seq (seqA (seqA (seqB pm))) (seqB (seqA (seqB pm)))) pmR) := by kernel_rfl
theorem eq_pmR : dropN 3 pmR = .seq (.seq (seqA (seqA (dropN 3 pmR))) (.block 0 (.loop pmL))) (seqB (dropN 3 pmR)) := by kernel_rfl

noncomputable def pmA (p : P4) (bs : List Nat) : St := ⟨[(2, .ptr 0 0), (3, .ptr 1 0), (4, .ptr 2 0)], [(0, ⟨false, rowP p⟩), (1, ⟨false, [by32 bs]⟩), (2, ⟨false, [z16, z16, z16, z16]⟩)], 3, [], []⟩
noncomputable def pmQ (p : P4) (bs : List Nat) (q : AVal) : St := ⟨[(2, .ptr 0 0), (3, .ptr 1 0), (4, .ptr 2 0), (14, q)], [(0, ⟨false, rowP p⟩), (1, ⟨false, [by32 bs]⟩), (2, ⟨false, [z16, z16, z16, z16]⟩)], 3, [], []⟩
theorem pm_a (p : P4) (bs : List Nat) : Runs Try.prog 59 0 (seqA pm) ⟨argSlots 0 [ptV p, by32 bs], [], 0, [], []⟩ (KE .normal (pmA p bs)) :=
  runs_x (σ := σpm) (n := 300) (rn := [(1, 16), (2, 32)]) (E := []) (C := true) hσpm mixed (by kernel_rfl) rfl
theorem pm_b (p : P4) (bs : List Nat) : Runs Try.prog 59 0 (seqA (seqA (seqB pm))) (pmA p bs) (KE .normal (pmQ p bs (.ob (noZ p)))) :=
  runs_x (σ := σpm) (n := 300) (rn := []) (E := []) (C := true) hσpm mixed (by kernel_rfl) rfl
theorem pm_c (p : P4) (bs : List Nat) : Runs Try.prog 59 0 (seqB (seqA (seqB pm))) (pmQ p bs (.bool false)) (KE .normal (pmA p bs)) :=
  runs_x (σ := σpm) (n := 300) (rn := []) (E := []) (C := true) hσpm mixed (by kernel_rfl) rfl
noncomputable def pmZ : St := ⟨[(4, .ptr 0 0)], [(0, ⟨false, [z16, z16, z16, z16]⟩)], 1, [], []⟩
theorem pm_d (p : P4) (bs : List Nat) : Runs Try.prog 59 0 (seqB (seqA (seqB pm))) (pmQ p bs (.bool true)) (KE .ret pmZ) :=
  runs_x (σ := σpm) (n := 300) (rn := [(0, 2)]) (E := []) (C := true) hσpm mixed (by kernel_rfl) rfl
theorem pm_zend : endK Try.prog Try.f58 (KF (ptV zeroP) []) .ret pmZ := endK_of (C := true) (by kernel_rfl)
theorem pm_h (p : P4) (bs : List Nat) (K : Out → St → Prop) (h : Runs Try.prog 59 0 (dropN 3 pmR) (pmSt .any bs ddW noughtW p) K) : Runs Try.prog 59 0 pmR (pmA p bs) K :=
  runs_head (σ := σpm) (k := 3) (n := 300) (rn := [(0, 1), (1, 2), (2, 99), (3, 163), (4, 179)]) (E := []) (C := true) hσpm mixed (by kernel_rfl) (by kernel_rfl) rfl h
theorem pm_z (bs : List Nat) (dd : List Int) (o m : P4) : Runs Try.prog 59 0 (seqA (seqA (dropN 3 pmR))) (pmSt .any bs dd o m) (KE .normal (pmSt (powC 256) bs dd o m)) :=
  runs_x (σ := σpm) (n := 300) (rn := []) (E := []) (C := true) hσpm mixed (by kernel_rfl) rfl
theorem pm_out (bs : List Nat) (dd : List Int) (o m : P4) : Runs Try.prog 59 0 pmL (pmSt (powC 0) bs dd o m) (KE (.exit 0) (pmSt .any bs dd o m)) :=
  runs_x (σ := σpm) (n := 300) (rn := []) (E := []) (C := true) hσpm mixed (by kernel_rfl) rfl
theorem pm_e (bs : List Nat) (dd : List Int) (o m : P4) : Runs Try.prog 59 0 (seqB (dropN 3 pmR)) (pmSt .any bs dd o m) (endK Try.prog Try.f58 (KF (ptV o) [])) :=
  runs_end (σ := σpm) (fuel := 300) (C := true) hσpm mixed (by kernel_rfl) rfl
theorem pm_one (bs : List Nat) (dd : List Int) (o m : P4) : Runs Try.prog 59 0 pmL (pmSt (powC (5 + 1)) bs dd o m) (KE .normal (pmSt (powC (5)) bs dd (pmStep dd (powBit bs (5)) ⟨o, m⟩).o (pmStep dd (powBit bs (5)) ⟨o, m⟩).m)) :=
  runs_x (σ := σpm) (n := 300) (rn := []) (E := []) (C := true) hσpm mixed (by kernel_rfl) rfl
end Go.Bx.W

namespace Go.Bx.W
open Go.Proofs
set_option maxRecDepth 100000
theorem pm_rounds0 (bs : List Nat) (dd : List Int) (o m : P4) :
    andAll 52 (fun i => okX 0 [] [] (xA Try.prog σpm 59 100 pmL (pmSt (powC (0 + i + 1)) bs dd o m)) true .normal
      (pmSt (powC (0 + i)) bs dd (pmStep dd (powBit bs (0 + i)) ⟨o, m⟩).o (pmStep dd (powBit bs (0 + i)) ⟨o, m⟩).m)) =
    andAll 52 (fun i => selfX [] true
      (pmSt (powC (0 + i)) bs dd (pmStep dd (powBit bs (0 + i)) ⟨o, m⟩).o (pmStep dd (powBit bs (0 + i)) ⟨o, m⟩).m)) := by kernel_rfl
theorem pm_rounds1 (bs : List Nat) (dd : List Int) (o m : P4) :
    andAll 52 (fun i => okX 0 [] [] (xA Try.prog σpm 59 100 pmL (pmSt (powC (52 + i + 1)) bs dd o m)) true .normal
      (pmSt (powC (52 + i)) bs dd (pmStep dd (powBit bs (52 + i)) ⟨o, m⟩).o (pmStep dd (powBit bs (52 + i)) ⟨o, m⟩).m)) =
    andAll 52 (fun i => selfX [] true
      (pmSt (powC (52 + i)) bs dd (pmStep dd (powBit bs (52 + i)) ⟨o, m⟩).o (pmStep dd (powBit bs (52 + i)) ⟨o, m⟩).m)) := by kernel_rfl
theorem pm_rounds2 (bs : List Nat) (dd : List Int) (o m : P4) :
    andAll 52 (fun i => okX 0 [] [] (xA Try.prog σpm 59 100 pmL (pmSt (powC (104 + i + 1)) bs dd o m)) true .normal
      (pmSt (powC (104 + i)) bs dd (pmStep dd (powBit bs (104 + i)) ⟨o, m⟩).o (pmStep dd (powBit bs (104 + i)) ⟨o, m⟩).m)) =
    andAll 52 (fun i => selfX [] true
      (pmSt (powC (104 + i)) bs dd (pmStep dd (powBit bs (104 + i)) ⟨o, m⟩).o (pmStep dd (powBit bs (104 + i)) ⟨o, m⟩).m)) := by kernel_rfl
theorem pm_rounds3 (bs : List Nat) (dd : List Int) (o m : P4) :
    andAll 52 (fun i => okX 0 [] [] (xA Try.prog σpm 59 100 pmL (pmSt (powC (156 + i + 1)) bs dd o m)) true .normal
      (pmSt (powC (156 + i)) bs dd (pmStep dd (powBit bs (156 + i)) ⟨o, m⟩).o (pmStep dd (powBit bs (156 + i)) ⟨o, m⟩).m)) =
    andAll 52 (fun i => selfX [] true
      (pmSt (powC (156 + i)) bs dd (pmStep dd (powBit bs (156 + i)) ⟨o, m⟩).o (pmStep dd (powBit bs (156 + i)) ⟨o, m⟩).m)) := by kernel_rfl
theorem pm_rounds4 (bs : List Nat) (dd : List Int) (o m : P4) :
    andAll 48 (fun i => okX 0 [] [] (xA Try.prog σpm 59 100 pmL (pmSt (powC (208 + i + 1)) bs dd o m)) true .normal
      (pmSt (powC (208 + i)) bs dd (pmStep dd (powBit bs (208 + i)) ⟨o, m⟩).o (pmStep dd (powBit bs (208 + i)) ⟨o, m⟩).m)) =
    andAll 48 (fun i => selfX [] true
      (pmSt (powC (208 + i)) bs dd (pmStep dd (powBit bs (208 + i)) ⟨o, m⟩).o (pmStep dd (powBit bs (208 + i)) ⟨o, m⟩).m)) := by kernel_rfl
end Go.Bx.W

namespace Go.Bx.W
open Go.Proofs
set_option maxRecDepth 100000

theorem pm_round (bs : List Nat) (dd : List Int) (o m : P4) (i : Nat) (hi : i < 256) : okX 0 [] [] (xA Try.prog σpm 59 100 pmL (pmSt (powC (i + 1)) bs dd o m)) true .normal
      (pmSt (powC i) bs dd (pmStep dd (powBit bs i) ⟨o, m⟩).o (pmStep dd (powBit bs i) ⟨o, m⟩).m) := by
  by_cases h0 : i < 52
  · obtain ⟨j, hj⟩ : ∃ j, j = i - 0 := ⟨_, rfl⟩
    have e : i = 0 + j := by omega
    have := andAll_get ((pm_rounds0 bs dd o m).mpr (andAll_of (fun _ => selfX_true [] true _) 52)) j (by omega)
    rw [e]
    exact this
  by_cases h1 : i < 104
  · obtain ⟨j, hj⟩ : ∃ j, j = i - 52 := ⟨_, rfl⟩
    have e : i = 52 + j := by omega
    have := andAll_get ((pm_rounds1 bs dd o m).mpr (andAll_of (fun _ => selfX_true [] true _) 52)) j (by omega)
    rw [e]
    exact this
  by_cases h2 : i < 156
  · obtain ⟨j, hj⟩ : ∃ j, j = i - 104 := ⟨_, rfl⟩
    have e : i = 104 + j := by omega
    have := andAll_get ((pm_rounds2 bs dd o m).mpr (andAll_of (fun _ => selfX_true [] true _) 52)) j (by omega)
    rw [e]
    exact this
  by_cases h3 : i < 208
  · obtain ⟨j, hj⟩ : ∃ j, j = i - 156 := ⟨_, rfl⟩
    have e : i = 156 + j := by omega
    have := andAll_get ((pm_rounds3 bs dd o m).mpr (andAll_of (fun _ => selfX_true [] true _) 52)) j (by omega)
    rw [e]
    exact this
  by_cases h4 : i < 256
  · obtain ⟨j, hj⟩ : ∃ j, j = i - 208 := ⟨_, rfl⟩
    have e : i = 208 + j := by omega
    have := andAll_get ((pm_rounds4 bs dd o m).mpr (andAll_of (fun _ => selfX_true [] true _) 48)) j (by omega)
    rw [e]
    exact this
  omega

noncomputable def pmSn (dd : List Int) (bs : List Nat) (p : P4) (n : Nat) : St := pmSt (powC n) bs dd (pmD dd bs p (256 - n)).o (pmD dd bs p (256 - n)).m

theorem pm_loop (dd : List Int) (bs : List Nat) (p : P4) : Runs Try.prog 59 0 (.block 0 (.loop pmL)) (pmSn dd bs p 256) (KE .normal (pmSt .any bs dd (pmD dd bs p 256).o (pmD dd bs p 256).m)) := by
  refine runs_down (c := pmL) (id := 0) (S := pmSn dd bs p) (N := 256) rfl (fun i hi => ?_) ?_
  · have hd : pmD dd bs p (256 - i) = pmStep dd (powBit bs i) (pmD dd bs p (256 - (i + 1))) := by
      have e : 256 - i = (256 - (i + 1)) + 1 := by omega
      have e2 : 255 - (256 - (i + 1)) = i := by omega
      rw [e, pmD, e2]
    unfold pmSn
    rw [hd]
    generalize pmD dd bs p (256 - (i + 1)) = s
    obtain ⟨o, m⟩ := s
    exact runs_seen (σ := σpm) (n := 100) (nt := 59) (m := 0) (rn := []) (E := []) hσpm mixed (pm_round bs dd o m i hi)
  · unfold pmSn
    rw [Nat.sub_zero]
    exact pm_out bs dd _ _

theorem pmQ_wid (p : P4) (bs : List Nat) (b : Bool) : Wid (pmQ p bs (.ob b)) (pmQ p bs (.bool b)) := by
  refine ⟨fun t => ?_, WidH.refl _, Nat.le_refl _⟩
  simp only [pmQ, lk_eq, lk?_cons, lk?_nil]
  repeat (split <;> first | exact Fit.refl _ | exact fit_ob b | skip)

theorem pm_rest (p : P4) (bs : List Nat) (dd : List Int) (hd : dd = ddW) : Runs Try.prog 59 0 pmR (pmA p bs) (endK Try.prog Try.f58 (KF (ptV (pmD dd bs p 256).o) [])) := by
  refine pm_h p bs _ ?_
  rw [← hd, eq_pmR]
  refine Runs.seq (K := KE .normal (pmSt .any bs dd (pmD dd bs p 256).o (pmD dd bs p 256).m)) (Runs.seq (pm_z bs dd _ _) fun o s hk => ?_) fun o s hk => ?_
  · obtain ⟨rfl, rfl⟩ := hk
    simp only
    have e : pmSn dd bs p 256 = pmSt (powC 256) bs dd noughtW p := by
      unfold pmSn
      rw [Nat.sub_self]
      simp only [pmD]
    rw [← e]
    exact pm_loop dd bs p
  · obtain ⟨rfl, rfl⟩ := hk
    exact pm_e bs dd _ _

theorem pm_bad (p : P4) (bs : List Nat) (hb : noZ p = true) : Runs Try.prog 59 0 (.seq (.seq (seqA (seqA (seqB pm))) (seqB (seqA (seqB pm)))) pmR) (pmA p bs) (endK Try.prog Try.f58 (KF (ptV zeroP) [])) := by
  refine Runs.seq (K := KE .ret pmZ) (Runs.seq (pm_b p bs) fun o s hk => ?_) fun o s hk => ?_
  · obtain ⟨rfl, rfl⟩ := hk
    simp only
    rw [hb]
    exact Runs.wid (pmQ_wid p bs true) (pm_d p bs)
  · obtain ⟨rfl, rfl⟩ := hk
    have h := pm_zend
    generalize zeroP = zp at *
    exact h

theorem pm_good (p : P4) (bs : List Nat) (hb : noZ p = false) : Runs Try.prog 59 0 (.seq (.seq (seqA (seqA (seqB pm))) (seqB (seqA (seqB pm)))) pmR) (pmA p bs) (endK Try.prog Try.f58 (KF (ptV (pmD ddW bs p 256).o) [])) := by
  refine Runs.seq (K := KE .normal (pmA p bs)) (Runs.seq (pm_b p bs) fun o s hk => ?_) fun o s hk => ?_
  · obtain ⟨rfl, rfl⟩ := hk
    simp only
    rw [hb]
    exact Runs.wid (pmQ_wid p bs false) (pm_c p bs)
  · obtain ⟨rfl, rfl⟩ := hk
    simp only
    exact pm_rest p bs ddW rfl

theorem pmul_good {p : P4} {bs : List Nat} (hb : noZ p = false) : pmulW p bs = (pmD ddW bs p 256).o := by
  unfold pmulW
  generalize (pmD ddW bs p 256).o = o
  rw [hb, cond_false]
theorem pmul_bad {p : P4} {bs : List Nat} (hb : noZ p = true) : pmulW p bs = zeroP := by
  unfold pmulW
  generalize (pmD ddW bs p 256).o = o
  rw [hb, cond_true]

theorem f58_ok : SumOk Try.prog 58 (pbS fun p bs => ptV (pmulW p bs)) := by
  refine pbS_ok (fn := Try.f58) (by kernel_rfl) (by kernel_rfl) (by kernel_rfl) (Nat.le_of_ble_eq_true rfl) (fun _ _ => rfl) fun p bs => ?_
  refine ⟨pm, by kernel_rfl, ?_⟩
  have h : Runs Try.prog 59 0 pm ⟨argSlots 0 [ptV p, by32 bs], [], 0, [], []⟩ (endK Try.prog Try.f58 (KF (ptV (pmulW p bs)) [])) := by
    rw [eq_pm]
    refine Runs.seq (pm_a p bs) fun o s hk => ?_
    obtain ⟨rfl, rfl⟩ := hk
    simp only
    cases hb : noZ p
    · rw [pmul_good hb]
      exact pm_good p bs hb
    · rw [pmul_bad hb]
      exact pm_bad p bs hb
  exact h
end Go.Bx.W

namespace Go.Bx.W
open Go.Proofs
set_option maxRecDepth 100000
theorem f64_ok : SumOk Try.prog 64 (bsum1 pofV) := by
  refine bsum1_ok (fn := Try.f64) (by kernel_rfl) (by kernel_rfl) (by kernel_rfl) (Nat.le_of_ble_eq_true rfl) (fun _ => rfl) fun bs => ?_
  exact runF_k (σ := σpt2) (fuel := 1000) (C := true) hσpt2 mixed (by kernel_rfl) (by kernel_rfl) rfl
end Go.Bx.W
