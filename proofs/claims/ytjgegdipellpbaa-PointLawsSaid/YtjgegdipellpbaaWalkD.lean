/-
  Parts of the proofs: LadA, LadB, LadC, LadC2.
  No condition.
-/
import Derived.Test.YtjgegdipellpbaaFeG
import Derived.Test.YtjgegdipellpbaaWalkC
namespace Go.Bx.W
open Go.Proofs
set_option maxRecDepth 100000
theorem f137_ok : SumOk Try.prog 137 factorS := by
  refine factorS_ok (fn := Try.f137) (by kernel_rfl) (by kernel_rfl) (by kernel_rfl) ?_
  exact runF_k (σ := σl) (fuel := 100000) (C := true) hσl mixed (by kernel_rfl) (by kernel_rfl) rfl
noncomputable def σg : List (Nat × Sum) := (137, factorS) :: σl3
theorem hσg : ∀ f s, lk? σg f = some s → SumOk Try.prog f s := sums_cons f137_ok hσl3
theorem f102_ok : SumOk Try.prog 102 rungS := by
  refine rungS_ok (fn := Try.f102) (by kernel_rfl) (by kernel_rfl) (by kernel_rfl) (Nat.le_of_ble_eq_true rfl) fun a b c d e => ?_
  exact runF_k (σ := σg) (fuel := 100000) (C := true) hσg mixed (by kernel_rfl) (by kernel_rfl) rfl
theorem f47_ok : SumOk Try.prog 47 (bsum1 fun bs => by32 (clampW bs)) := by
  refine bsum1_ok (fn := Try.f47) (by kernel_rfl) (by kernel_rfl) (by kernel_rfl) (Nat.le_of_ble_eq_true rfl) (fun _ => rfl) fun bs => ?_
  exact runF_k (σ := []) (fuel := 100000) (C := true) no_sums mixed (by kernel_rfl) (by kernel_rfl) rfl
theorem f48_ok : SumOk Try.prog 48 (bsum1 fun bs => by32 (rclampW bs)) := by
  refine bsum1_ok (fn := Try.f48) (by kernel_rfl) (by kernel_rfl) (by kernel_rfl) (Nat.le_of_ble_eq_true rfl) (fun _ => rfl) fun bs => ?_
  exact runF_k (σ := []) (fuel := 100000) (C := true) no_sums mixed (by kernel_rfl) (by kernel_rfl) rfl
end Go.Bx.W

namespace Go.Bx.W
open Go.Proofs
set_option maxRecDepth 100000
noncomputable def σd : List (Nat × Sum) := [(20, ofS), (22, sum1 fun xs => .nats .u8 255 32 (bytesW xs)), (27, smallS), (33, sum2 fun xs ys => .ints .i64 16 (mulW xs ys)), (38, sum1 fun xs => .ints .i64 16 (powW xs (numW 21 0))), (40, swapS), (47, bsum1 fun bs => by32 (clampW bs)), (102, rungS)]
theorem hσd : ∀ f s, lk? σd f = some s → SumOk Try.prog f s := sums_cons f20_ok (sums_cons f22_ok (sums_cons f27_ok (sums_cons f33_ok (sums_cons f38_ok (sums_cons f40_ok (sums_cons f47_ok (sums_cons f102_ok no_sums)))))))

noncomputable def lm : Code := bodyOf Try.f46
noncomputable def lmX : Code := inner (seqB lm)
noncomputable def lmL : Code := inner (inner (seqB (seqA (dropN 5 lmX))))

theorem eq_lm : lm = .seq (seqA lm) (.scope lmX) := by kernel_rfl
theorem eq_lm5 : dropN 5 lmX = .seq (.seq (seqA (seqA (dropN 5 lmX))) (.block 0 (.loop lmL))) (seqB (dropN 5 lmX)) := by kernel_rfl

noncomputable def lmA (ns ps : List Nat) : St := ⟨argSlots 0 [by32 ns, by32 ps], [], 0, [], []⟩
noncomputable def lmB (ns ps : List Nat) : St := ⟨[(2, .ptr 0 0), (3, .ptr 1 0), (4, .ptr 2 0)], [(0, ⟨false, [by32 ns]⟩), (1, ⟨false, [by32 ps]⟩), (2, ⟨false, [.nats .u8 0 32 (List.replicate 32 0)]⟩)], 3, [], []⟩
theorem lm_a (ns ps : List Nat) : Runs Try.prog 77 0 (seqA lm) (lmA ns ps) (KE .normal (lmB ns ps)) :=
  runs_x (σ := σd) (n := 300) (rn := [(0, 0), (1, 16), (2, 32)]) (E := []) (C := true) hσd mixed (by kernel_rfl) rfl
theorem lm_h (ns ps : List Nat) (K : Out → St → Prop)
    (h : Runs Try.prog 77 0 (dropN 5 lmX) (ladSt .any ((ofW ps).map Int.ofNat) (clampW ns) (small1 (1 : Nat)) (small1 (0 : Nat)) ((ofW ps).map Int.ofNat) (small1 (1 : Nat)) false) K) : Runs Try.prog 77 0 lmX (lmB ns ps) K :=
  runs_head (σ := σd) (k := 5) (n := 300) (rn := [(0, 2), (1, 35), (2, 99), (3, 195), (4, 211), (5, 227), (6, 243)]) (E := []) (C := true) hσd mixed (by kernel_rfl) (by kernel_rfl) rfl h
end Go.Bx.W

namespace Go.Bx.W
open Go.Proofs
set_option maxRecDepth 100000

theorem lm_z (u bs x2 z2 x3 z3 : List _) (sw : Bool) : Runs Try.prog 77 0 (seqA (seqA (dropN 5 lmX))) (ladSt .any u bs x2 z2 x3 z3 sw) (KE .normal (ladSt (powC 255) u bs x2 z2 x3 z3 sw)) :=
  runs_x (σ := σd) (n := 300) (rn := []) (E := []) (C := true) hσd mixed (by kernel_rfl) rfl
theorem lm_rounds0 (u : List Int) (bs : List Nat) (x2 z2 x3 z3 : List Int) (sw : Bool) :
    andAll 52 (fun i => okX 0 [] [] (xA Try.prog σd 77 100 lmL (ladSt (powC (0 + i + 1)) u bs x2 z2 x3 z3 sw)) true .normal
      (ladSt (powC (0 + i)) u bs (ladStep u (powBit bs (0 + i)) ⟨x2, z2, x3, z3, sw⟩).x2 (ladStep u (powBit bs (0 + i)) ⟨x2, z2, x3, z3, sw⟩).z2 (ladStep u (powBit bs (0 + i)) ⟨x2, z2, x3, z3, sw⟩).x3 (ladStep u (powBit bs (0 + i)) ⟨x2, z2, x3, z3, sw⟩).z3 (powBit bs (0 + i)))) =
    andAll 52 (fun i => selfX [] true
      (ladSt (powC (0 + i)) u bs (ladStep u (powBit bs (0 + i)) ⟨x2, z2, x3, z3, sw⟩).x2 (ladStep u (powBit bs (0 + i)) ⟨x2, z2, x3, z3, sw⟩).z2 (ladStep u (powBit bs (0 + i)) ⟨x2, z2, x3, z3, sw⟩).x3 (ladStep u (powBit bs (0 + i)) ⟨x2, z2, x3, z3, sw⟩).z3 (powBit bs (0 + i)))) := by kernel_rfl
theorem lm_rounds1 (u : List Int) (bs : List Nat) (x2 z2 x3 z3 : List Int) (sw : Bool) :
    andAll 52 (fun i => okX 0 [] [] (xA Try.prog σd 77 100 lmL (ladSt (powC (52 + i + 1)) u bs x2 z2 x3 z3 sw)) true .normal
      (ladSt (powC (52 + i)) u bs (ladStep u (powBit bs (52 + i)) ⟨x2, z2, x3, z3, sw⟩).x2 (ladStep u (powBit bs (52 + i)) ⟨x2, z2, x3, z3, sw⟩).z2 (ladStep u (powBit bs (52 + i)) ⟨x2, z2, x3, z3, sw⟩).x3 (ladStep u (powBit bs (52 + i)) ⟨x2, z2, x3, z3, sw⟩).z3 (powBit bs (52 + i)))) =
    andAll 52 (fun i => selfX [] true
      (ladSt (powC (52 + i)) u bs (ladStep u (powBit bs (52 + i)) ⟨x2, z2, x3, z3, sw⟩).x2 (ladStep u (powBit bs (52 + i)) ⟨x2, z2, x3, z3, sw⟩).z2 (ladStep u (powBit bs (52 + i)) ⟨x2, z2, x3, z3, sw⟩).x3 (ladStep u (powBit bs (52 + i)) ⟨x2, z2, x3, z3, sw⟩).z3 (powBit bs (52 + i)))) := by kernel_rfl
theorem lm_rounds2 (u : List Int) (bs : List Nat) (x2 z2 x3 z3 : List Int) (sw : Bool) :
    andAll 52 (fun i => okX 0 [] [] (xA Try.prog σd 77 100 lmL (ladSt (powC (104 + i + 1)) u bs x2 z2 x3 z3 sw)) true .normal
      (ladSt (powC (104 + i)) u bs (ladStep u (powBit bs (104 + i)) ⟨x2, z2, x3, z3, sw⟩).x2 (ladStep u (powBit bs (104 + i)) ⟨x2, z2, x3, z3, sw⟩).z2 (ladStep u (powBit bs (104 + i)) ⟨x2, z2, x3, z3, sw⟩).x3 (ladStep u (powBit bs (104 + i)) ⟨x2, z2, x3, z3, sw⟩).z3 (powBit bs (104 + i)))) =
    andAll 52 (fun i => selfX [] true
      (ladSt (powC (104 + i)) u bs (ladStep u (powBit bs (104 + i)) ⟨x2, z2, x3, z3, sw⟩).x2 (ladStep u (powBit bs (104 + i)) ⟨x2, z2, x3, z3, sw⟩).z2 (ladStep u (powBit bs (104 + i)) ⟨x2, z2, x3, z3, sw⟩).x3 (ladStep u (powBit bs (104 + i)) ⟨x2, z2, x3, z3, sw⟩).z3 (powBit bs (104 + i)))) := by kernel_rfl
theorem lm_rounds3 (u : List Int) (bs : List Nat) (x2 z2 x3 z3 : List Int) (sw : Bool) :
    andAll 52 (fun i => okX 0 [] [] (xA Try.prog σd 77 100 lmL (ladSt (powC (156 + i + 1)) u bs x2 z2 x3 z3 sw)) true .normal
      (ladSt (powC (156 + i)) u bs (ladStep u (powBit bs (156 + i)) ⟨x2, z2, x3, z3, sw⟩).x2 (ladStep u (powBit bs (156 + i)) ⟨x2, z2, x3, z3, sw⟩).z2 (ladStep u (powBit bs (156 + i)) ⟨x2, z2, x3, z3, sw⟩).x3 (ladStep u (powBit bs (156 + i)) ⟨x2, z2, x3, z3, sw⟩).z3 (powBit bs (156 + i)))) =
    andAll 52 (fun i => selfX [] true
      (ladSt (powC (156 + i)) u bs (ladStep u (powBit bs (156 + i)) ⟨x2, z2, x3, z3, sw⟩).x2 (ladStep u (powBit bs (156 + i)) ⟨x2, z2, x3, z3, sw⟩).z2 (ladStep u (powBit bs (156 + i)) ⟨x2, z2, x3, z3, sw⟩).x3 (ladStep u (powBit bs (156 + i)) ⟨x2, z2, x3, z3, sw⟩).z3 (powBit bs (156 + i)))) := by kernel_rfl
theorem lm_rounds4 (u : List Int) (bs : List Nat) (x2 z2 x3 z3 : List Int) (sw : Bool) :
    andAll 47 (fun i => okX 0 [] [] (xA Try.prog σd 77 100 lmL (ladSt (powC (208 + i + 1)) u bs x2 z2 x3 z3 sw)) true .normal
      (ladSt (powC (208 + i)) u bs (ladStep u (powBit bs (208 + i)) ⟨x2, z2, x3, z3, sw⟩).x2 (ladStep u (powBit bs (208 + i)) ⟨x2, z2, x3, z3, sw⟩).z2 (ladStep u (powBit bs (208 + i)) ⟨x2, z2, x3, z3, sw⟩).x3 (ladStep u (powBit bs (208 + i)) ⟨x2, z2, x3, z3, sw⟩).z3 (powBit bs (208 + i)))) =
    andAll 47 (fun i => selfX [] true
      (ladSt (powC (208 + i)) u bs (ladStep u (powBit bs (208 + i)) ⟨x2, z2, x3, z3, sw⟩).x2 (ladStep u (powBit bs (208 + i)) ⟨x2, z2, x3, z3, sw⟩).z2 (ladStep u (powBit bs (208 + i)) ⟨x2, z2, x3, z3, sw⟩).x3 (ladStep u (powBit bs (208 + i)) ⟨x2, z2, x3, z3, sw⟩).z3 (powBit bs (208 + i)))) := by kernel_rfl
theorem lm_out (u : List Int) (bs : List Nat) (x2 z2 x3 z3 : List Int) (sw : Bool) : Runs Try.prog 77 0 lmL (ladSt (powC 0) u bs x2 z2 x3 z3 sw)
    (KE (.exit 0) (ladSt .any u bs (chB x2 x3 (!(false == sw))) (chB z2 z3 (!(false == sw))) (chB x3 x2 (!(false == sw))) (chB z3 z2 (!(false == sw))) false)) :=
  runs_x (σ := σd) (n := 300) (rn := []) (E := []) (C := true) hσd mixed (by kernel_rfl) rfl
theorem lm_e (u : List Int) (bs : List Nat) (x2 z2 x3 z3 : List Int) : Runs Try.prog 77 0 (seqB (dropN 5 lmX)) (ladSt .any u bs x2 z2 x3 z3 false) (endK Try.prog Try.f46 (KF (by32 (bytesW (mulW x2 (powW z2 (numW 21 0))))) [])) :=
  runs_end (σ := σd) (fuel := 300) (C := true) hσd mixed (by kernel_rfl) rfl

end Go.Bx.W

namespace Go.Bx.W
open Go.Proofs

theorem ladD_start (u : List Int) (bs : List Nat) : ladSn u bs 255 = ladSt (powC 255) u bs (small1 (1 : Nat)) (small1 (0 : Nat)) u (small1 (1 : Nat)) false := by
  unfold ladSn
  rw [Nat.sub_self]
  simp only [ladD]

theorem lm_round (u : List Int) (bs : List Nat) (x2 z2 x3 z3 : List Int) (sw : Bool) (i : Nat) (hi : i < 255) : okX 0 [] [] (xA Try.prog σd 77 100 lmL (ladSt (powC (i + 1)) u bs x2 z2 x3 z3 sw)) true .normal
      (ladSt (powC (i)) u bs (ladStep u (powBit bs (i)) ⟨x2, z2, x3, z3, sw⟩).x2 (ladStep u (powBit bs (i)) ⟨x2, z2, x3, z3, sw⟩).z2 (ladStep u (powBit bs (i)) ⟨x2, z2, x3, z3, sw⟩).x3 (ladStep u (powBit bs (i)) ⟨x2, z2, x3, z3, sw⟩).z3 (powBit bs (i))) := by
  by_cases h0 : i < 52
  · obtain ⟨j, hj⟩ : ∃ j, j = i - 0 := ⟨_, rfl⟩
    have e : i = 0 + j := by omega
    have := andAll_get ((lm_rounds0 u bs x2 z2 x3 z3 sw).mpr (andAll_of (fun _ => selfX_true [] true _) 52)) j (by omega)
    rw [e]
    exact this
  by_cases h1 : i < 104
  · obtain ⟨j, hj⟩ : ∃ j, j = i - 52 := ⟨_, rfl⟩
    have e : i = 52 + j := by omega
    have := andAll_get ((lm_rounds1 u bs x2 z2 x3 z3 sw).mpr (andAll_of (fun _ => selfX_true [] true _) 52)) j (by omega)
    rw [e]
    exact this
  by_cases h2 : i < 156
  · obtain ⟨j, hj⟩ : ∃ j, j = i - 104 := ⟨_, rfl⟩
    have e : i = 104 + j := by omega
    have := andAll_get ((lm_rounds2 u bs x2 z2 x3 z3 sw).mpr (andAll_of (fun _ => selfX_true [] true _) 52)) j (by omega)
    rw [e]
    exact this
  by_cases h3 : i < 208
  · obtain ⟨j, hj⟩ : ∃ j, j = i - 156 := ⟨_, rfl⟩
    have e : i = 156 + j := by omega
    have := andAll_get ((lm_rounds3 u bs x2 z2 x3 z3 sw).mpr (andAll_of (fun _ => selfX_true [] true _) 52)) j (by omega)
    rw [e]
    exact this
  by_cases h4 : i < 255
  · obtain ⟨j, hj⟩ : ∃ j, j = i - 208 := ⟨_, rfl⟩
    have e : i = 208 + j := by omega
    have := andAll_get ((lm_rounds4 u bs x2 z2 x3 z3 sw).mpr (andAll_of (fun _ => selfX_true [] true _) 47)) j (by omega)
    rw [e]
    exact this
  omega

theorem lm_loop (u : List Int) (bs : List Nat) : Runs Try.prog 77 0 (.block 0 (.loop lmL)) (ladSn u bs 255)
    (KE .normal (ladSt .any u bs (chB (ladD u bs 255).x2 (ladD u bs 255).x3 (!(false == (ladD u bs 255).sw))) (chB (ladD u bs 255).z2 (ladD u bs 255).z3 (!(false == (ladD u bs 255).sw)))
      (chB (ladD u bs 255).x3 (ladD u bs 255).x2 (!(false == (ladD u bs 255).sw))) (chB (ladD u bs 255).z3 (ladD u bs 255).z2 (!(false == (ladD u bs 255).sw))) false)) := by
  refine runs_down (c := lmL) (id := 0) (S := ladSn u bs) (N := 255) rfl (fun i hi => ?_) ?_
  · have hd : ladD u bs (255 - i) = ladStep u (powBit bs i) (ladD u bs (255 - (i + 1))) := by
      have e : 255 - i = (255 - (i + 1)) + 1 := by omega
      have e2 : 254 - (255 - (i + 1)) = i := by omega
      rw [e, ladD, e2]
    unfold ladSn
    rw [hd]
    generalize ladD u bs (255 - (i + 1)) = s
    obtain ⟨x2, z2, x3, z3, sw⟩ := s
    have := runs_seen (σ := σd) (n := 100) (nt := 77) (m := 0) (rn := []) (E := []) hσd mixed (lm_round u bs x2 z2 x3 z3 sw i hi)
    exact this
  · unfold ladSn
    rw [Nat.sub_zero]
    exact lm_out u bs _ _ _ _ _

theorem lm_body (ns ps : List Nat) (u : List Int) (hu : u = (ofW ps).map Int.ofNat) : Runs Try.prog 77 0 lmX (lmB ns ps) (endK Try.prog Try.f46 (KF (by32 (ladW ns ps)) [])) := by
  refine lm_h ns ps _ ?_
  rw [← hu, eq_lm5]
  refine Runs.seq (K := KE .normal (ladSt .any u (clampW ns) (chB (ladD u (clampW ns) 255).x2 (ladD u (clampW ns) 255).x3 (!(false == (ladD u (clampW ns) 255).sw))) (chB (ladD u (clampW ns) 255).z2 (ladD u (clampW ns) 255).z3 (!(false == (ladD u (clampW ns) 255).sw)))
      (chB (ladD u (clampW ns) 255).x3 (ladD u (clampW ns) 255).x2 (!(false == (ladD u (clampW ns) 255).sw))) (chB (ladD u (clampW ns) 255).z3 (ladD u (clampW ns) 255).z2 (!(false == (ladD u (clampW ns) 255).sw))) false))
    (Runs.seq (lm_z u (clampW ns) _ _ _ _ _) fun o s hk => ?_) fun o s hk => ?_
  · obtain ⟨rfl, rfl⟩ := hk
    simp only
    rw [← ladD_start]
    exact lm_loop u (clampW ns)
  · obtain ⟨rfl, rfl⟩ := hk
    simp only
    have e : ladW ns ps = bytesW (mulW (chB (ladD u (clampW ns) 255).x2 (ladD u (clampW ns) 255).x3 (!(false == (ladD u (clampW ns) 255).sw))) (powW (chB (ladD u (clampW ns) 255).z2 (ladD u (clampW ns) 255).z3 (!(false == (ladD u (clampW ns) 255).sw))) (numW 21 0))) := by
      unfold ladW
      rw [← hu]
    rw [e]
    exact lm_e u (clampW ns) _ _ _ _

theorem f46_ok : SumOk Try.prog 46 (bsum2 fun ns ps => by32 (ladW ns ps)) := by
  refine bsum2_ok (fn := Try.f46) (by kernel_rfl) (by kernel_rfl) (by kernel_rfl) (Nat.le_of_ble_eq_true rfl) (fun _ _ => rfl) fun ns ps => ?_
  refine ⟨lm, by kernel_rfl, ?_⟩
  have h : Runs Try.prog 77 0 lm (lmA ns ps) (endK Try.prog Try.f46 (KF (by32 (ladW ns ps)) [])) := by
    rw [eq_lm]
    refine Runs.seq (lm_a ns ps) fun o s hk => ?_
    obtain ⟨rfl, rfl⟩ := hk
    exact Runs.scope (lm_body ns ps _ rfl)
  exact h
end Go.Bx.W
