/-
  The walks through the functions of fe and of the reference numbers.
  No condition.
-/
import Derived.Test.YtjgegdipellpbaaFeA
import Derived.Test.YtjgegdipellpbaaProg
namespace Go.Bx.W
open Go.Proofs
set_option maxRecDepth 100000

theorem mixed : Try.prog.follows .mixedOrders = true := by kernel_rfl

theorem no_sums : ∀ f s, lk? ([] : List (Nat × Sum)) f = some s → SumOk Try.prog f s := fun f s h => by simp [lk?_nil] at h

theorem sums_cons {f : FuncId} {s : Sum} {σ : List (Nat × Sum)} (h : SumOk Try.prog f s) (hσ : ∀ f s, lk? σ f = some s → SumOk Try.prog f s) : ∀ g t, lk? ((f, s) :: σ) g = some t → SumOk Try.prog g t := by
  intro g t hg
  rw [lk?_cons] at hg
  split at hg
  · rename_i e
    simp only at e hg
    subst e
    cases hg; exact h
  · exact hσ g t hg

theorem f98_ok : SumOk Try.prog 98 carryS := by
  refine carryS_ok (fn := Try.f98) (by kernel_rfl) (by kernel_rfl) (by kernel_rfl) (Nat.le_of_ble_eq_true rfl) fun l => ?_
  exact runF_k (σ := []) (fuel := 100000) (C := true) no_sums mixed (by kernel_rfl) (by kernel_rfl) rfl

noncomputable def σ1 : List (Nat × Sum) := [(98, carryS)]
theorem hσ1 : ∀ f s, lk? σ1 f = some s → SumOk Try.prog f s := sums_cons f98_ok no_sums

theorem f29_ok : SumOk Try.prog 29 (sum2 fun xs ys => .ints .i64 16 (addW xs ys)) := by
  refine sum2_ok (fn := Try.f29) (by kernel_rfl) (by kernel_rfl) (by kernel_rfl) (Nat.le_of_ble_eq_true rfl) (fun _ _ => rfl) fun xs ys => ?_
  exact runF_k (σ := σ1) (fuel := 100000) (C := true) hσ1 mixed (by kernel_rfl) (by kernel_rfl) rfl
theorem f31_ok : SumOk Try.prog 31 (sum2 fun xs ys => .ints .i64 16 (subW xs ys)) := by
  refine sum2_ok (fn := Try.f31) (by kernel_rfl) (by kernel_rfl) (by kernel_rfl) (Nat.le_of_ble_eq_true rfl) (fun _ _ => rfl) fun xs ys => ?_
  exact runF_k (σ := σ1) (fuel := 100000) (C := true) hσ1 mixed (by kernel_rfl) (by kernel_rfl) rfl
theorem f101_ok : SumOk Try.prog 101 chooseS := by
  refine chooseS_ok (fn := Try.f101) (by kernel_rfl) (by kernel_rfl) (by kernel_rfl) (Nat.le_of_ble_eq_true rfl) fun xs ys n => ?_
  exact runF_k (σ := []) (fuel := 100000) (C := true) no_sums mixed (by kernel_rfl) (by kernel_rfl) rfl
theorem f136_ok : SumOk Try.prog 136 (sum1 fun xs => .tuple [.ints .i64 16 (lessW xs).1, .int .i64 (lessW xs).2]) := by
  refine sum1_ok (fn := Try.f136) (by kernel_rfl) (by kernel_rfl) (by kernel_rfl) (Nat.le_of_ble_eq_true rfl) (fun _ => rfl) fun xs => ?_
  exact runF_k (σ := []) (fuel := 100000) (C := true) no_sums mixed (by kernel_rfl) (by kernel_rfl) rfl
theorem f20_ok : SumOk Try.prog 20 ofS := by
  refine ofS_ok (fn := Try.f20) (by kernel_rfl) (by kernel_rfl) (by kernel_rfl) (Nat.le_of_ble_eq_true rfl) fun bs => ?_
  exact runF_k (σ := []) (fuel := 100000) (C := true) no_sums mixed (by kernel_rfl) (by kernel_rfl) rfl

noncomputable def σ2 : List (Nat × Sum) := (101, chooseS) :: (136, sum1 fun xs => .tuple [.ints .i64 16 (lessW xs).1, .int .i64 (lessW xs).2]) :: σ1
theorem hσ2 : ∀ f s, lk? σ2 f = some s → SumOk Try.prog f s := sums_cons f101_ok (sums_cons f136_ok hσ1)

theorem f97_ok : SumOk Try.prog 97 (sum1 fun xs => .ints .i64 16 (reducedW xs)) := by
  refine sum1_ok (fn := Try.f97) (by kernel_rfl) (by kernel_rfl) (by kernel_rfl) (Nat.le_of_ble_eq_true rfl) (fun _ => rfl) fun xs => ?_
  exact runF_k (σ := σ2) (fuel := 100000) (C := true) hσ2 mixed (by kernel_rfl) (by kernel_rfl) rfl

noncomputable def σ3 : List (Nat × Sum) := (97, sum1 fun xs => .ints .i64 16 (reducedW xs)) :: σ2
theorem hσ3 : ∀ f s, lk? σ3 f = some s → SumOk Try.prog f s := sums_cons f97_ok hσ2

theorem f22_ok : SumOk Try.prog 22 (sum1 fun xs => .nats .u8 255 32 (bytesW xs)) := by
  refine sum1_ok (fn := Try.f22) (by kernel_rfl) (by kernel_rfl) (by kernel_rfl) (Nat.le_of_ble_eq_true rfl) (fun _ => rfl) fun xs => ?_
  exact runF_k (σ := σ3) (fuel := 100000) (C := true) hσ3 mixed (by kernel_rfl) (by kernel_rfl) rfl
end Go.Bx.W

namespace Go.Bx.W
open Go.Proofs
set_option maxRecDepth 100000

noncomputable def σ4 : List (Nat × Sum) := (22, sum1 fun xs => .nats .u8 255 32 (bytesW xs)) :: σ3
theorem hσ4 : ∀ f s, lk? σ4 f = some s → SumOk Try.prog f s := sums_cons f22_ok hσ3

theorem f24_ok : SumOk Try.prog 24 (sum1 fun xs => .ob (Nat.beq ((bytesW xs).getD 0 0 &&& 1) 1)) := by
  refine sum1_ok (fn := Try.f24) (by kernel_rfl) (by kernel_rfl) (by kernel_rfl) (Nat.le_of_ble_eq_true rfl) (fun _ => rfl) fun xs => ?_
  exact runF_k (σ := σ4) (fuel := 100000) (C := true) hσ4 mixed (by kernel_rfl) (by kernel_rfl) rfl
theorem f25_ok : SumOk Try.prog 25 (sum2 fun xs ys => .ob (bytesW xs == bytesW ys)) := by
  refine sum2_ok (fn := Try.f25) (by kernel_rfl) (by kernel_rfl) (by kernel_rfl) (Nat.le_of_ble_eq_true rfl) (fun _ _ => rfl) fun xs ys => ?_
  exact runF_k (σ := σ4) (fuel := 100000) (C := true) hσ4 mixed (by kernel_rfl) (by kernel_rfl) rfl
theorem f27_ok : SumOk Try.prog 27 smallS := by
  refine smallS_ok (fn := Try.f27) (by kernel_rfl) (by kernel_rfl) (by kernel_rfl) (Nat.le_of_ble_eq_true rfl) fun n => ?_
  exact runF_k (σ := []) (fuel := 100000) (C := true) no_sums mixed (by kernel_rfl) (by kernel_rfl) rfl
theorem f40_ok : SumOk Try.prog 40 swapS := by
  refine swapS_ok (fn := Try.f40) (by kernel_rfl) (by kernel_rfl) (by kernel_rfl) (Nat.le_of_ble_eq_true rfl) fun xs ys b => ?_
  exact runF_k (σ := σ4) (fuel := 100000) (C := true) hσ4 mixed (by kernel_rfl) (by kernel_rfl) rfl
noncomputable def σ5 : List (Nat × Sum) := (31, sum2 fun xs ys => .ints .i64 16 (subW xs ys)) :: σ4
theorem hσ5 : ∀ f s, lk? σ5 f = some s → SumOk Try.prog f s := sums_cons f31_ok hσ4
theorem f35_ok : SumOk Try.prog 35 (sum1 fun xs => .ints .i64 16 (negW xs)) := by
  refine sum1_ok (fn := Try.f35) (by kernel_rfl) (by kernel_rfl) (by kernel_rfl) (Nat.le_of_ble_eq_true rfl) (fun _ => rfl) fun xs => ?_
  exact runF_k (σ := σ5) (fuel := 100000) (C := true) hσ5 mixed (by kernel_rfl) (by kernel_rfl) rfl
end Go.Bx.W

namespace Go.Bx.W
open Go.Proofs
set_option maxRecDepth 100000
theorem f33_ok : SumOk Try.prog 33 (sum2 fun xs ys => .ints .i64 16 (mulW xs ys)) := by
  refine sum2_ok (fn := Try.f33) (by kernel_rfl) (by kernel_rfl) (by kernel_rfl) (Nat.le_of_ble_eq_true rfl) (fun _ _ => rfl) fun xs ys => ?_
  exact runF_k (σ := σ1) (fuel := 100000) (C := true) hσ1 mixed (by kernel_rfl) (by kernel_rfl) rfl
end Go.Bx.W

namespace Go.Bx.W
open Go.Proofs
set_option maxRecDepth 100000

theorem f100_ok : SumOk Try.prog 100 numberS := by
  refine numberS_ok (fn := Try.f100) (by kernel_rfl) (by kernel_rfl) (by kernel_rfl) (Nat.le_of_ble_eq_true rfl) ?_ ?_ ?_
  · exact runF_k (σ := []) (fuel := 100000) (C := true) no_sums mixed (by kernel_rfl) (by kernel_rfl) rfl
  · exact runF_k (σ := []) (fuel := 100000) (C := true) no_sums mixed (by kernel_rfl) (by kernel_rfl) rfl
  · exact runF_k (σ := []) (fuel := 100000) (C := true) no_sums mixed (by kernel_rfl) (by kernel_rfl) rfl

noncomputable def σp : List (Nat × Sum) := [(27, smallS), (33, sum2 fun xs ys => .ints .i64 16 (mulW xs ys))]
theorem hσp : ∀ f s, lk? σp f = some s → SumOk Try.prog f s := sums_cons f27_ok (sums_cons f33_ok no_sums)

noncomputable def pc : Code := bodyOf Try.f36
noncomputable def pSa (xs : List Int) (bs : List Nat) : St := ⟨[(2, .ptr 0 0), (3, .ptr 16 0), (4, .ptr 32 0)], [(0, ⟨false, [.ints .i64 16 xs]⟩), (16, ⟨false, [.nats .u8 255 32 bs]⟩), (32, ⟨false, [.nats .i64 0 16 (List.replicate 16 0)]⟩)], 48, [], []⟩
noncomputable def pSb (xs : List Int) (bs : List Nat) : St := ⟨[(2, .ptr 0 0), (3, .ptr 16 0), (4, .ptr 32 0), (5, .ptr 64 0)], [(0, ⟨false, [.ints .i64 16 xs]⟩), (16, ⟨false, [.nats .u8 255 32 bs]⟩), (32, ⟨false, [.nats .i64 0 16 (List.replicate 16 0)]⟩), (64, ⟨false, [.ints .i64 16 (small1 1)]⟩)], 96, [], []⟩
noncomputable def pB : Code := inner (inner (seqB (seqA (seqB (seqB pc)))))

theorem pow_a (xs : List Int) (bs : List Nat) : Runs Try.prog 29 0 (seqA pc) ⟨argSlots 0 [.ints .i64 16 xs, .nats .u8 255 32 bs], [], 0, [], []⟩ (KE .normal (pSa xs bs)) :=
  runs_x (σ := σp) (n := 100) (rn := []) (E := []) (C := true) hσp mixed (by kernel_rfl) rfl
theorem pow_b (xs : List Int) (bs : List Nat) : Runs Try.prog 29 0 (seqA (seqB pc)) (pSa xs bs) (KE .normal (pSb xs bs)) :=
  runs_x (σ := σp) (n := 100) (rn := []) (E := []) (C := true) hσp mixed (by kernel_rfl) rfl
theorem pow_c (xs : List Int) (bs : List Nat) : Runs Try.prog 29 0 (seqA (seqA (seqB (seqB pc)))) (pSb xs bs) (KE .normal (powSn xs bs 256)) :=
  runs_x (σ := σp) (n := 100) (rn := [(1, 16), (2, 32), (3, 64)]) (E := []) (C := true) hσp mixed (by kernel_rfl) rfl
theorem pow_rounds (xs : List Int) (bs : List Nat) (l : List Int) :
    andAll 256 (fun i => okX 0 [] [] (xA Try.prog σp 29 100 pB (powSt (powC (i + 1)) xs bs l)) true .normal (powSt (powC i) xs bs (powStep xs bs i l))) = andAll 256 (fun i => selfX [] true (powSt (powC i) xs bs (powStep xs bs i l))) := by kernel_rfl
theorem pow_round (xs : List Int) (bs : List Nat) (l : List Int) (i : Nat) (hi : i < 256) : Runs Try.prog 29 0 pB (powSt (powC (i + 1)) xs bs l) (KE .normal (powSt (powC i) xs bs (powStep xs bs i l))) :=
  runs_seen (σ := σp) (n := 100) (rn := []) (E := []) hσp mixed (andAll_get ((pow_rounds xs bs l).mpr (andAll_of (fun _ => selfX_true [] true _) 256)) i hi)
theorem pow_out (xs : List Int) (bs : List Nat) (l : List Int) : Runs Try.prog 29 0 pB (powSt (.neg .i64 0) xs bs l) (KE (.exit 0) (powSt (.neg .i64 0) xs bs l)) :=
  runs_x (σ := σp) (n := 100) (rn := []) (E := []) (C := true) hσp mixed (by kernel_rfl) rfl

theorem pow_loop (xs : List Int) (bs : List Nat) : Runs Try.prog 29 0 (seqB (seqA (seqB (seqB pc)))) (powSn xs bs 256) (KE .normal (powSn xs bs 0)) := by
  refine runs_down (c := pB) (id := 0) (S := powSn xs bs) (N := 256) (by kernel_rfl) (fun i hi => ?_) (pow_out xs bs _)
  have hd : powD xs bs (256 - i) = powStep xs bs i (powD xs bs (256 - (i + 1))) := by
    have e : 256 - i = (256 - (i + 1)) + 1 := by omega
    rw [e, powD]
    congr 1; omega
  have := pow_round xs bs (powD xs bs (256 - (i + 1))) i hi
  rw [← hd] at this
  exact this

theorem pow_end (xs : List Int) (bs : List Nat) : Runs Try.prog 29 0 (seqB (seqB (seqB pc))) (powSn xs bs 0) (endK Try.prog Try.f36 (KF (.ints .i64 16 (powW xs bs)) [])) :=
  runs_end (σ := σp) (fuel := 1000) (C := true) hσp mixed (by kernel_rfl) rfl

theorem f36_ok : SumOk Try.prog 36 powS := by
  refine powS_ok (fn := Try.f36) (by kernel_rfl) (by kernel_rfl) (by kernel_rfl) (Nat.le_of_ble_eq_true rfl) fun xs bs => ?_
  refine ⟨pc, by kernel_rfl, ?_⟩
  refine runs_then (a := seqA pc) (b := seqB pc) (by kernel_rfl) (pow_a xs bs) ?_
  refine runs_then (a := seqA (seqB pc)) (b := seqB (seqB pc)) (by kernel_rfl) (pow_b xs bs) ?_
  refine runs_then (a := seqA (seqB (seqB pc))) (b := seqB (seqB (seqB pc))) (by kernel_rfl) ?_ (pow_end xs bs)
  exact runs_then (a := seqA (seqA (seqB (seqB pc)))) (b := seqB (seqA (seqB (seqB pc)))) (by kernel_rfl) (pow_c xs bs) (pow_loop xs bs)
end Go.Bx.W

namespace Go.Bx.W
open Go.Proofs
set_option maxRecDepth 100000
noncomputable def σi : List (Nat × Sum) := [(100, numberS), (36, powS)]
theorem hσi : ∀ f s, lk? σi f = some s → SumOk Try.prog f s := sums_cons f100_ok (sums_cons f36_ok no_sums)
theorem f38_ok : SumOk Try.prog 38 (sum1 fun xs => .ints .i64 16 (powW xs (numW 21 0))) := by
  refine sum1_ok (fn := Try.f38) (by kernel_rfl) (by kernel_rfl) (by kernel_rfl) (Nat.le_of_ble_eq_true rfl) (fun _ => rfl) fun xs => ?_
  exact runF_k (σ := σi) (fuel := 100000) (C := true) hσi mixed (by kernel_rfl) (by kernel_rfl) rfl
end Go.Bx.W

namespace Go.Bx.W
open Go.Proofs
set_option maxRecDepth 100000
noncomputable def σr : List (Nat × Sum) := (24, sum1 fun xs => .ob (Nat.beq ((bytesW xs).getD 0 0 &&& 1) 1)) :: (25, sum2 fun xs ys => .ob (bytesW xs == bytesW ys)) :: (27, smallS) :: (33, sum2 fun xs ys => .ints .i64 16 (mulW xs ys)) :: (35, sum1 fun xs => .ints .i64 16 (negW xs)) :: σi
theorem hσr : ∀ f s, lk? σr f = some s → SumOk Try.prog f s := sums_cons f24_ok (sums_cons f25_ok (sums_cons f27_ok (sums_cons f33_ok (sums_cons f35_ok hσi))))
theorem f41_ok : SumOk Try.prog 41 (sum1 rootV) := by
  refine sum1_ok (fn := Try.f41) (by kernel_rfl) (by kernel_rfl) (by kernel_rfl) (Nat.le_of_ble_eq_true rfl) (fun _ => rfl) fun xs => ?_
  exact runF_k (σ := σr) (fuel := 100000) (C := true) hσr mixed (by kernel_rfl) (by kernel_rfl) rfl
end Go.Bx.W

namespace Go.Bx.W
open Go.Proofs
set_option maxRecDepth 100000

theorem f65_ok : SumOk Try.prog 65 digitsS := by
  refine digitsS_ok (fn := Try.f65) (X := 5104) (by kernel_rfl) (by kernel_rfl) (by kernel_rfl) (Nat.le_of_ble_eq_true rfl) fun bs => ?_
  exact runF_k (σ := []) (fuel := 100000) (C := true) no_sums mixed (by kernel_rfl) (by kernel_rfl) rfl
theorem f68_ok : SumOk Try.prog 68 pS := by
  refine pS_ok (fn := Try.f68) (X := 2272) (by kernel_rfl) (by kernel_rfl) (by kernel_rfl) ?_
  exact runF_k (σ := []) (fuel := 100000) (C := true) no_sums mixed (by kernel_rfl) (by kernel_rfl) rfl
theorem f67_ok : SumOk Try.prog 67 (look2 fun xs ys => .ob (atLeastW xs ys 16)) := by
  refine look2_ok (fn := Try.f67) (by kernel_rfl) (by kernel_rfl) (by kernel_rfl) (Nat.le_of_ble_eq_true rfl) (fun _ _ => rfl) fun xs ys => ?_
  exact runF_k (σ := []) (fuel := 100000) (C := true) no_sums mixed (by kernel_rfl) (by kernel_rfl) rfl
theorem f23_ok : SumOk Try.prog 23 (look1 fun xs => .nats .u8 255 32 (rbytesW xs)) := by
  refine look1_ok (fn := Try.f23) (by kernel_rfl) (by kernel_rfl) (by kernel_rfl) (Nat.le_of_ble_eq_true rfl) (fun _ => rfl) fun xs => ?_
  exact runF_k (σ := []) (fuel := 100000) (C := true) no_sums mixed (by kernel_rfl) (by kernel_rfl) rfl
noncomputable def σ6 : List (Nat × Sum) := [(67, look2 fun xs ys => .ob (atLeastW xs ys 16))]
theorem hσ6 : ∀ f s, lk? σ6 f = some s → SumOk Try.prog f s := sums_cons f67_ok no_sums
theorem f26_ok : SumOk Try.prog 26 (look2 fun xs ys => .ob (cond (atLeastW xs ys 16) (atLeastW ys xs 16) false)) := by
  refine look2_ok (fn := Try.f26) (by kernel_rfl) (by kernel_rfl) (by kernel_rfl) (Nat.le_of_ble_eq_true rfl) (fun _ _ => rfl) fun xs ys => ?_
  exact runF_k (σ := σ6) (fuel := 100000) (C := true) hσ6 mixed (by kernel_rfl) (by kernel_rfl) rfl
end Go.Bx.W

namespace Go.Bx.W
open Go.Proofs
set_option maxRecDepth 100000
theorem f99_run (ds es : List Nat) : RunF Try.prog Try.f99 2 [sl16 0, sl16 1] [(0, ⟨true, row16 ds⟩), (1, ⟨true, row16 es⟩)] (KF (sl16 7922) [(7922, [.ints .i64 16 (rlessI ds es)])]) :=
  runF_k (σ := []) (fuel := 100000) (C := true) no_sums mixed (by kernel_rfl) (by kernel_rfl) rfl
theorem f99_ok : SumOk Try.prog 99 (new2 rlessW) := by
  refine new2_ok (fn := Try.f99) (X := 7922) (by kernel_rfl) (by kernel_rfl) (by kernel_rfl) (Nat.le_of_ble_eq_true rfl) (by omega) fun ds es h1 h2 _ _ => ?_
  refine (f99_run ds es).mono fun v H hk => ⟨hk.1, fun p hp => ?_⟩
  simp only [List.mem_singleton] at hp; subst hp
  obtain ⟨r, hr, hro, hf⟩ := hk.2 _ (List.mem_singleton.2 rfl)
  exact ⟨r, hr, hro, hf.trans (fitL_nats (rlessI_range h1 h2))⟩
end Go.Bx.W

namespace Go.Bx.W
open Go.Proofs
set_option maxRecDepth 100000
noncomputable def mc : Code := bodyOf Try.f96
noncomputable def rd : Code := inner (inner (inner (seqB (seqB (seqB mc)))))

theorem mod_a17 (x : List Nat) : Runs Try.prog 135 1 (firstN 8 rd) (modS 17 x) (KE .normal (modT 2 (highW 17 x) (lowW x))) :=
  runs_x (σ := []) (n := 3000) (rn := [(1, 898), (2, 4834)]) (E := []) (C := true) no_sums mixed (by kernel_rfl) rfl
theorem mod_a18 (x : List Nat) : Runs Try.prog 135 1 (firstN 8 rd) (modS 18 x) (KE .normal (modT 3 (highW 18 x) (lowW x))) :=
  runs_x (σ := []) (n := 3000) (rn := [(1, 1426), (2, 5570)]) (E := []) (C := true) no_sums mixed (by kernel_rfl) rfl
theorem mod_a32 (x : List Nat) : Runs Try.prog 135 1 (firstN 8 rd) (modS 32 x) (KE .normal (modT 17 (highW 32 x) (lowW x))) :=
  runs_x (σ := []) (n := 3000) (rn := [(1, 8818), (2, 15874)]) (E := []) (C := true) no_sums mixed (by kernel_rfl) rfl
theorem mod_a16 (x : List Nat) : Runs Try.prog 135 1 (firstN 8 rd) (modS 16 x) (KE .normal (modT 2 (highW 17 (x ++ [0])) (lowW (x ++ [0])))) :=
  runs_x (σ := []) (n := 3000) (rn := [(1, 1010), (2, 4946)]) (E := []) (C := true) no_sums mixed (by kernel_rfl) rfl
noncomputable def rb : Code := dropN 8 rd
theorem mod_b2 (hs low : List Nat) : Runs Try.prog 135 1 (firstN 4 rb) (modF 2 hs low) (KE .normal (modU 16 (sumW 16 2 hs low).1 (.nat .i64 (sumW 16 2 hs low).2 0 65535))) :=
  runs_x (σ := []) (n := 3000) (rn := [(1, 2)]) (E := []) (C := true) no_sums mixed (by kernel_rfl) rfl
theorem mod_b3 (hs low : List Nat) : Runs Try.prog 135 1 (firstN 4 rb) (modF 3 hs low) (KE .normal (modU 16 (sumW 16 3 hs low).1 (.nat .i64 (sumW 16 3 hs low).2 0 65535))) :=
  runs_x (σ := []) (n := 3000) (rn := [(1, 2)]) (E := []) (C := true) no_sums mixed (by kernel_rfl) rfl
theorem mod_b17 (hs low : List Nat) : Runs Try.prog 135 1 (firstN 4 rb) (modF 17 hs low) (KE .normal (modU 18 (sumW 18 17 hs ((low ++ [0]) ++ [0])).1 (.nat .i64 (sumW 18 17 hs ((low ++ [0]) ++ [0])).2 0 65535))) :=
  runs_x (σ := []) (n := 3000) (rn := [(1, 307)]) (E := []) (C := true) no_sums mixed (by kernel_rfl) rfl
theorem mod_c16 (l : List Nat) : Runs Try.prog 135 1 (dropN 4 rb) (modU 16 l (.nat .i64 0 0 0)) (KE .normal (modS 16 l)) :=
  runs_x (σ := []) (n := 3000) (rn := []) (E := []) (C := true) no_sums mixed (by kernel_rfl) rfl
theorem mod_c18 (l : List Nat) : Runs Try.prog 135 1 (dropN 4 rb) (modU 18 l (.nat .i64 0 0 0)) (KE .normal (modS 18 l)) :=
  runs_x (σ := []) (n := 3000) (rn := []) (E := []) (C := true) no_sums mixed (by kernel_rfl) rfl
end Go.Bx.W

namespace Go.Bx.W
open Go.Proofs
set_option maxRecDepth 100000
noncomputable def σm : List (Nat × Sum) := [(67, look2 fun xs ys => .ob (atLeastW xs ys 16)), (68, pS), (99, new2 rlessW)]
theorem hσm : ∀ f s, lk? σm f = some s → SumOk Try.prog f s := sums_cons f67_ok (sums_cons f68_ok (sums_cons f99_ok no_sums))
noncomputable def zc : Code := condA (seqB (seqA rb))
noncomputable def modZ (low : List Nat) : St := ⟨[(9, slN 1 16)], [(1, ⟨false, rowN 16 low⟩)], 2, [], []⟩
noncomputable def modQ (low : List Nat) (q : AVal) : St := ⟨[(9, slN 1 16), (84, q)], [(1, ⟨false, rowN 16 low⟩)], 2, [], []⟩
noncomputable def modR (l : List Nat) : St := ⟨[(2, slN 1 16)], [(1, ⟨false, rowN 16 l⟩)], 2, [], []⟩
theorem mod_z1 (low : List Nat) : Runs Try.prog 135 1 (seqA (seqA zc)) (modZ low) (KE .normal (modQ low (.ob (atLeastW low pW 16)))) :=
  runs_x (σ := σm) (n := 300) (rn := []) (E := []) (C := true) hσm mixed (by kernel_rfl) rfl
theorem mod_z3 (low : List Nat) : Runs Try.prog 135 1 (seqB zc) (modQ low (.bool false)) (KE .ret (modR low)) :=
  runs_x (σ := σm) (n := 300) (rn := []) (E := []) (C := true) hσm mixed (by kernel_rfl) rfl
theorem mod_z2 (low : List Nat) : Runs Try.prog 135 1 (seqB (seqA zc)) (modQ low (.bool true)) (KE .ret (modR (rlessW low pW))) :=
  runs_x (σ := σm) (n := 300) (rn := [(1, 2 + 16 * 2)]) (E := []) (C := true) hσm mixed (by kernel_rfl) rfl
theorem mod_z2f (low : List Nat) : Runs Try.prog 135 1 (seqB (seqA zc)) (modQ low (.bool false)) (KE .normal (modQ low (.bool false))) :=
  runs_x (σ := σm) (n := 300) (rn := []) (E := []) (C := true) hσm mixed (by kernel_rfl) rfl
end Go.Bx.W

namespace Go.Bx.W
open Go.Proofs
set_option maxRecDepth 100000

theorem mod_h17 (x : List Nat) (K : Out → St → Prop) (h : Runs Try.prog 135 1 (dropN 8 rd) (modT 2 (highW 17 x) (lowW x)) K) : Runs Try.prog 135 1 rd (modS 17 x) K :=
  runs_head (σ := []) (k := 8) (n := 3000) (rn := [(1, 898), (2, 4834)]) (E := []) (C := true) no_sums mixed (by kernel_rfl) (by kernel_rfl) rfl h
theorem mod_h18 (x : List Nat) (K : Out → St → Prop) (h : Runs Try.prog 135 1 (dropN 8 rd) (modT 3 (highW 18 x) (lowW x)) K) : Runs Try.prog 135 1 rd (modS 18 x) K :=
  runs_head (σ := []) (k := 8) (n := 3000) (rn := [(1, 1426), (2, 5570)]) (E := []) (C := true) no_sums mixed (by kernel_rfl) (by kernel_rfl) rfl h
theorem mod_h32 (x : List Nat) (K : Out → St → Prop) (h : Runs Try.prog 135 1 (dropN 8 rd) (modT 17 (highW 32 x) (lowW x)) K) : Runs Try.prog 135 1 rd (modS 32 x) K :=
  runs_head (σ := []) (k := 8) (n := 3000) (rn := [(1, 8818), (2, 15874)]) (E := []) (C := true) no_sums mixed (by kernel_rfl) (by kernel_rfl) rfl h
theorem mod_h16 (x : List Nat) (K : Out → St → Prop) (h : Runs Try.prog 135 1 (dropN 8 rd) (modT 2 (highW 17 (x ++ [0])) (lowW (x ++ [0]))) K) : Runs Try.prog 135 1 rd (modS 16 x) K :=
  runs_head (σ := []) (k := 8) (n := 3000) (rn := [(1, 1010), (2, 4946)]) (E := []) (C := true) no_sums mixed (by kernel_rfl) (by kernel_rfl) rfl h
theorem mod_i2 (hs low : List Nat) (K : Out → St → Prop) (h : Runs Try.prog 135 1 (dropN 4 rb) (modU 16 (sumW 16 2 hs low).1 (.nat .i64 (sumW 16 2 hs low).2 0 65535)) K) : Runs Try.prog 135 1 rb (modF 2 hs low) K :=
  runs_head (σ := []) (k := 4) (n := 3000) (rn := [(1, 2)]) (E := []) (C := true) no_sums mixed (by kernel_rfl) (by kernel_rfl) rfl h
theorem mod_i3 (hs low : List Nat) (K : Out → St → Prop) (h : Runs Try.prog 135 1 (dropN 4 rb) (modU 16 (sumW 16 3 hs low).1 (.nat .i64 (sumW 16 3 hs low).2 0 65535)) K) : Runs Try.prog 135 1 rb (modF 3 hs low) K :=
  runs_head (σ := []) (k := 4) (n := 3000) (rn := [(1, 2)]) (E := []) (C := true) no_sums mixed (by kernel_rfl) (by kernel_rfl) rfl h
theorem mod_i17 (hs low : List Nat) (K : Out → St → Prop) (h : Runs Try.prog 135 1 (dropN 4 rb) (modU 18 (sumW 18 17 hs ((low ++ [0]) ++ [0])).1 (.nat .i64 (sumW 18 17 hs ((low ++ [0]) ++ [0])).2 0 65535)) K) : Runs Try.prog 135 1 rb (modF 17 hs low) K :=
  runs_head (σ := []) (k := 4) (n := 3000) (rn := [(1, 307)]) (E := []) (C := true) no_sums mixed (by kernel_rfl) (by kernel_rfl) rfl h

/-- Nothing is above: what is asked next. -/
noncomputable def modY (low : List Nat) : St := ⟨[(7, .bool true), (9, slN 2 16)], [(2, ⟨false, rowN 16 low⟩)], 3, [], []⟩
noncomputable def modY1 (low : List Nat) : St := ⟨[(9, slN 1 16), (81, .bool true)], [(1, ⟨false, rowN 16 low⟩)], 2, [], []⟩
theorem mod_y (low : List Nat) (K : Out → St → Prop) (h : Runs Try.prog 135 1 (dropN 1 (seqA rb)) (modY1 low) K) : Runs Try.prog 135 1 (seqA rb) (modY low) K :=
  runs_head (σ := []) (k := 1) (n := 3000) (rn := [(1, 2)]) (E := []) (C := true) no_sums mixed (by kernel_rfl) (by kernel_rfl) rfl h

theorem eq_rb : rb = .seq (seqA rb) (seqB rb) := by kernel_rfl
theorem eq_y : dropN 1 (seqA rb) = .cond (.tmp 81) zc .skip := by kernel_rfl
theorem eq_zc : zc = .seq (seqA zc) (seqB zc) := by kernel_rfl
theorem eq_zca : seqA zc = .seq (seqA (seqA zc)) (seqB (seqA zc)) := by kernel_rfl

theorem fit_ob (b : Bool) : Fit (.ob b) (.bool b) := fun _ _ h => h

theorem modQ_wid (low : List Nat) (b : Bool) : Wid (modQ low (.ob b)) (modQ low (.bool b)) := by
  refine ⟨fun t => ?_, WidH.refl _, Nat.le_refl _⟩
  simp only [modQ, lk_eq, lk?_cons, lk?_nil]
  repeat (split <;> first | exact Fit.refl _ | exact fit_ob b | skip)

theorem zc_runs (low : List Nat) : Runs Try.prog 135 1 zc (modZ low) (KE .ret (modR (cond (atLeastW low pW 16) (rlessW low pW) low))) := by
  rw [eq_zc, eq_zca]
  cases hb : atLeastW low pW 16
  · refine Runs.seq (K := KE .normal (modQ low (.bool false))) (Runs.seq (mod_z1 low) fun o s hk => ?_) fun o s hk => ?_
    · obtain ⟨rfl, rfl⟩ := hk
      simp only
      rw [hb]
      exact Runs.wid (modQ_wid low false) (mod_z2f low)
    · obtain ⟨rfl, rfl⟩ := hk
      exact mod_z3 low
  · refine Runs.seq (K := KE .ret (modR (rlessW low pW))) (Runs.seq (mod_z1 low) fun o s hk => ?_) fun o s hk => ?_
    · obtain ⟨rfl, rfl⟩ := hk
      simp only
      rw [hb]
      exact Runs.wid (modQ_wid low true) (mod_z2 low)
    · obtain ⟨rfl, rfl⟩ := hk
      exact ⟨rfl, rfl⟩

theorem modY1_wid (low : List Nat) : Wid (modY1 low) (modZ low) := by
  refine ⟨fun t => ?_, WidH.refl _, Nat.le_refl _⟩
  simp only [modY1, modZ, lk_eq, lk?_cons, lk?_nil]
  repeat (split <;> first | exact Fit.refl _ | skip)
  all_goals exact Fit.any _

theorem rb_zero (low : List Nat) : Runs Try.prog 135 1 rb (modY low) (KE .ret (modR (cond (atLeastW low pW 16) (rlessW low pW) low))) := by
  rw [eq_rb]
  refine Runs.seq (K := KE .ret (modR (cond (atLeastW low pW 16) (rlessW low pW) low))) (mod_y low _ ?_) fun o s hk => ?_
  · rw [eq_y]
    refine Runs.cond (v := true) (fun _ _ h => h) ?_
    exact Runs.wid (modY1_wid low) (zc_runs low)
  · obtain ⟨rfl, rfl⟩ := hk
    exact ⟨rfl, rfl⟩

end Go.Bx.W

namespace Go.Bx.W
open Go.Proofs
set_option maxRecDepth 100000

theorem modT_zero (h : Nat) (hs low : List Nat) (hz : zeroW hs h = true) : Wid (modT h hs low) (modY low) := by
  refine ⟨fun t => ?_, fun n r hr => ?_, Nat.le_refl _⟩
  · simp only [modT, modY, lk_eq, lk?_cons, lk?_nil, hz]
    by_cases e4 : t = 4
    · subst e4; exact Fit.any _
    · rw [if_neg (fun e => e4 e.symm)]
      repeat (split <;> first | exact Fit.refl _ | exact fit_ob true | skip)
  · simp only [modY, lk?_cons, lk?_nil] at hr
    split at hr
    · rename_i e
      cases e
      cases hr
      exact ⟨_, rfl, FitL.refl _, id⟩
    · simp at hr

theorem modT_some (h : Nat) (hs low : List Nat) (hz : zeroW hs h = false) : Wid (modT h hs low) (modF h hs low) := by
  refine ⟨fun t => ?_, WidH.refl _, Nat.le_refl _⟩
  simp only [modT, modF, lk_eq, lk?_cons, lk?_nil, hz]
  repeat (split <;> first | exact Fit.refl _ | exact fit_ob false | skip)

theorem modU_wid (k : Nat) (l : List Nat) {c hi : Nat} (hc : c = 0) : Wid (modU k l (.nat .i64 c 0 hi)) (modU k l (.nat .i64 0 0 0)) := by
  subst hc
  refine ⟨fun t => ?_, WidH.refl _, Nat.le_refl _⟩
  simp only [modU, lk_eq, lk?_cons, lk?_nil]
  repeat (split <;> first | exact Fit.refl _ | exact (fun L v hv => ⟨hv.1, Nat.le_refl _, Nat.le_refl _⟩) | skip)

/-- What a round comes to. -/
def roundK (x : List Nat) : Out → St → Prop := fun o s => match o with
  | .normal => ∃ n y, (n = 16 ∨ n = 18) ∧ s = modS n y ∧ y.length = n ∧ (∀ d ∈ y, d ≤ 65535) ∧ valL y < valL x ∧ valL y % P25 = valL x % P25
  | .ret => s = modR (digN (valL x % P25))
  | .exit _ => False

theorem mod_round {n k : Nat} {x x0 low : List Nat} (hn : x.length = n) (h16 : 16 ≤ n) (hd : ∀ d ∈ x, d ≤ 65535) {s0 : St}
    (ha : ∀ K, Runs Try.prog 135 1 rb (modT (n - 15) (highW n x) (lowW x)) K → Runs Try.prog 135 1 rd s0 K)
    (hb : ∀ K, Runs Try.prog 135 1 (dropN 4 rb) (modU k (sumW k (n - 15) (highW n x) low).1 (.nat .i64 (sumW k (n - 15) (highW n x) low).2 0 65535)) K → Runs Try.prog 135 1 rb (modF (n - 15) (highW n x) (lowW x)) K)
    (hc : ∀ l, Runs Try.prog 135 1 (dropN 4 rb) (modU k l (.nat .i64 0 0 0)) (KE .normal (modS k l)))
    (hk : k = 16 ∨ k = 18) (hlow : low.length = k ∧ (∀ d ∈ low, d ≤ 65535) ∧ valL low = valL (lowW x)) (hk' : n - 15 ≤ k) (hv : valL low + 19 * valL (highW n x) < 65536 ^ k) (hx0 : valL x = valL x0) :
    Runs Try.prog 135 1 rd s0 (roundK x0) := by
  refine ha _ ?_
  cases hz : zeroW (highW n x) (n - 15)
  · refine Runs.wid (modT_some _ _ _ hz) (hb _ ?_)
    obtain ⟨r1, r2, r3, r4, r5⟩ := round_val hn h16 hd hlow hk' hv hz
    refine Runs.wid (modU_wid k _ r1) ((hc _).mono fun o s hk1 => ?_)
    obtain ⟨rfl, rfl⟩ := hk1
    exact ⟨k, _, hk, rfl, r2, r3, by rw [← hx0]; exact r4, by rw [← hx0]; exact r5⟩
  · refine Runs.wid (modT_zero _ _ _ hz) ((rb_zero (lowW x)).mono fun o s hk1 => ?_)
    obtain ⟨rfl, rfl⟩ := hk1
    show _ = _
    rw [round_zero hn h16 hd hz, hx0]

theorem high_lt {n : Nat} {x : List Nat} (hn : x.length = n) (hd : ∀ d ∈ x, d ≤ 65535) : valL (highW n x) < 65536 ^ (n - 15) := by
  obtain ⟨h1, h2⟩ := highW_ok hn hd
  have := valL_lt _ h2
  rw [h1] at this
  exact this

theorem app0 {x : List Nat} (hd : ∀ d ∈ x, d ≤ 65535) : (x ++ [0]).length = x.length + 1 ∧ (∀ d ∈ x ++ [0], d ≤ 65535) ∧ valL (x ++ [0]) = valL x := by
  refine ⟨by simp, fun d h => ?_, by rw [valL_append]; simp [valL]⟩
  rcases List.mem_append.1 h with h | h
  · exact hd d h
  · simp at h; omega

theorem round17 {x : List Nat} (hn : x.length = 17) (hd : ∀ d ∈ x, d ≤ 65535) : Runs Try.prog 135 1 rd (modS 17 x) (roundK x) := by
  obtain ⟨l1, l2, l3⟩ := lowW_val x hd
  have hh := high_lt hn hd
  exact mod_round (k := 16) (low := lowW x) hn (by omega) hd (mod_h17 x) (mod_i2 _ _) mod_c16 (.inl rfl) ⟨l1, l2, rfl⟩ (by omega) (by omega) rfl

theorem round16 {x : List Nat} (hn : x.length = 16) (hd : ∀ d ∈ x, d ≤ 65535) : Runs Try.prog 135 1 rd (modS 16 x) (roundK x) := by
  obtain ⟨a1, a2, a3⟩ := app0 hd
  rw [hn] at a1
  obtain ⟨l1, l2, l3⟩ := lowW_val (x ++ [0]) a2
  have hh := high_lt a1 a2
  exact mod_round (k := 16) (low := lowW (x ++ [0])) a1 (by omega) a2 (mod_h16 x) (mod_i2 _ _) mod_c16 (.inl rfl) ⟨l1, l2, rfl⟩ (by omega) (by omega) a3

theorem round18 {x : List Nat} (hn : x.length = 18) (hd : ∀ d ∈ x, d ≤ 65535) : Runs Try.prog 135 1 rd (modS 18 x) (roundK x) := by
  obtain ⟨l1, l2, l3⟩ := lowW_val x hd
  have hh := high_lt hn hd
  exact mod_round (k := 16) (low := lowW x) hn (by omega) hd (mod_h18 x) (mod_i3 _ _) mod_c16 (.inl rfl) ⟨l1, l2, rfl⟩ (by omega) (by omega) rfl

theorem round32 {x : List Nat} (hn : x.length = 32) (hd : ∀ d ∈ x, d ≤ 65535) : Runs Try.prog 135 1 rd (modS 32 x) (roundK x) := by
  obtain ⟨l1, l2, l3⟩ := lowW_val x hd
  obtain ⟨a1, a2, a3⟩ := app0 l2
  obtain ⟨b1, b2, b3⟩ := app0 a2
  have hh := high_lt hn hd
  exact mod_round (k := 18) (low := (lowW x ++ [0]) ++ [0]) hn (by omega) hd (mod_h32 x) (mod_i17 _ _) mod_c18 (.inr rfl) ⟨by rw [b1, a1, l1], b2, by rw [b3, a3]⟩ (by omega) (by omega) rfl

/-- The rounds. -/
theorem mod_rounds {n : Nat} {x : List Nat} (hk : n = 16 ∨ n = 17 ∨ n = 18 ∨ n = 32) (hn : x.length = n) (hd : ∀ d ∈ x, d ≤ 65535) : RunsL Try.prog 135 1 (.block 1 rd) (modS n x) (KE .ret (modR (digN (valL x % P25)))) := by
  refine RunsL.inv (c := .block 1 rd) (ι := Nat × List Nat) (fun i => modS i.1 i.2) (fun i => (i.1 = 16 ∨ i.1 = 17 ∨ i.1 = 18 ∨ i.1 = 32) ∧ i.2.length = i.1 ∧ (∀ d ∈ i.2, d ≤ 65535) ∧ valL i.2 % P25 = valL x % P25) (fun i => valL i.2) ?_ (n, x) ⟨hk, hn, hd, rfl⟩
  rintro ⟨n, y⟩ ⟨hk, hn, hd, hv⟩
  simp only at hk hn hd hv ⊢
  have hr : Runs Try.prog 135 1 rd (modS n y) (roundK y) := by
    rcases hk with rfl | rfl | rfl | rfl
    · exact round16 hn hd
    · exact round17 hn hd
    · exact round18 hn hd
    · exact round32 hn hd
  refine Runs.block hr fun o s hk1 => ?_
  cases o with
  | normal =>
    obtain ⟨n', z, q1, q2, q3, q4, q5, q6⟩ := hk1
    exact ⟨(n', z), ⟨by rcases q1 with h | h <;> simp [h], q3, q4, by rw [q6, hv]⟩, q5, q2⟩
  | ret =>
    have : s = modR (digN (valL y % P25)) := hk1
    exact ⟨rfl, by rw [this, hv]⟩
  | exit j => exact hk1.elim

end Go.Bx.W

namespace Go.Bx.W
open Go.Proofs
set_option maxRecDepth 100000

theorem mod_in16 (x : List Nat) (K : Out → St → Prop) (h : Runs Try.prog 135 1 (dropN 3 mc) (modS 16 (x.take 16)) K) : Runs Try.prog 135 1 mc ⟨argSlots 0 [slN 0 16], [(0, ⟨true, rowN 16 x⟩)], 1, [], []⟩ K :=
  runs_head (σ := []) (k := 3) (n := 3000) (rn := [(1, 65)]) (E := []) (C := true) no_sums mixed (by kernel_rfl) (by kernel_rfl) rfl h
theorem mod_in17 (x : List Nat) (K : Out → St → Prop) (h : Runs Try.prog 135 1 (dropN 3 mc) (modS 17 (x.take 17)) K) : Runs Try.prog 135 1 mc ⟨argSlots 0 [slN 0 17], [(0, ⟨true, rowN 17 x⟩)], 1, [], []⟩ K :=
  runs_head (σ := []) (k := 3) (n := 3000) (rn := [(1, 65)]) (E := []) (C := true) no_sums mixed (by kernel_rfl) (by kernel_rfl) rfl h
theorem mod_in32 (x : List Nat) (K : Out → St → Prop) (h : Runs Try.prog 135 1 (dropN 3 mc) (modS 32 (x.take 32)) K) : Runs Try.prog 135 1 mc ⟨argSlots 0 [slN 0 32], [(0, ⟨true, rowN 32 x⟩)], 1, [], []⟩ K :=
  runs_head (σ := []) (k := 3) (n := 3000) (rn := [(1, 65)]) (E := []) (C := true) no_sums mixed (by kernel_rfl) (by kernel_rfl) rfl h

theorem eq_mc3 : dropN 3 mc = .block 0 (.loop (.block 1 rd)) := by kernel_rfl

theorem mod_end_k (l : List Nat) : endK Try.prog Try.f96 (KF (sl16 1) [(1, row16 l)]) .ret (modR l) :=
  endK_of (C := true) (by kernel_rfl)

theorem f96_ok : SumOk Try.prog 96 modSum := by
  refine modSum_ok (fn := Try.f96) (X := 1) (by kernel_rfl) (by kernel_rfl) (by kernel_rfl) (Nat.le_of_ble_eq_true rfl) (by omega) fun n x hn hl hd => ?_
  refine ⟨mc, by kernel_rfl, ?_⟩
  have key : Runs Try.prog 135 1 (dropN 3 mc) (modS n x) (endK Try.prog Try.f96 (KF (sl16 1) [(1, row16 (digN (valL x % P25)))])) := by
    rw [eq_mc3]
    refine Runs.block (mod_rounds (by omega) hl hd).loop fun o s hk => ?_
    obtain ⟨rfl, rfl⟩ := hk
    exact mod_end_k _
  rcases hn with rfl | rfl | rfl
  · exact mod_in16 x _ (by rw [valL_all (by omega)]; exact key)
  · exact mod_in17 x _ (by rw [valL_all (by omega)]; exact key)
  · exact mod_in32 x _ (by rw [valL_all (by omega)]; exact key)
end Go.Bx.W

namespace Go.Bx.W
open Go.Proofs
set_option maxRecDepth 100000

theorem f28_ok : SumOk Try.prog 28 rsmallS := by
  refine rsmallS_ok (fn := Try.f28) (X := 16) (by kernel_rfl) (by kernel_rfl) (by kernel_rfl) (Nat.le_of_ble_eq_true rfl) fun n => ?_
  exact runF_k (σ := []) (fuel := 100000) (C := true) no_sums mixed (by kernel_rfl) (by kernel_rfl) rfl

noncomputable def σo : List (Nat × Sum) := [(65, digitsS), (96, modSum)]
theorem hσo : ∀ f s, lk? σo f = some s → SumOk Try.prog f s := sums_cons f65_ok (sums_cons f96_ok no_sums)
theorem f21_ok : SumOk Try.prog 21 rofS := by
  refine rofS_ok (fn := Try.f21) (X := 208) (by kernel_rfl) (by kernel_rfl) (by kernel_rfl) (Nat.le_of_ble_eq_true rfl) fun n => ?_
  exact runF_k (σ := σo) (fuel := 100000) (C := true) hσo mixed (by kernel_rfl) (by kernel_rfl) rfl

theorem f30_run (ds es : List Nat) : RunF Try.prog Try.f30 2 [sl16 0, sl16 1] [(0, ⟨true, row16 ds⟩), (1, ⟨true, row16 es⟩)] (KF (sl16 6818) [(6818, row16 (digN (valL (raddL ds es) % P25)))]) :=
  runF_k (σ := σo) (fuel := 100000) (C := true) hσo mixed (by kernel_rfl) (by kernel_rfl) rfl
theorem f30_ok : SumOk Try.prog 30 (new2 fun ds es => digN ((valL ds + valL es) % P25)) := by
  refine new2_ok (fn := Try.f30) (X := 6818) (by kernel_rfl) (by kernel_rfl) (by kernel_rfl) (Nat.le_of_ble_eq_true rfl) (by omega) fun ds es h1 h2 h3 h4 => ?_
  have := f30_run ds es
  rw [raddL_val h3 h4] at this
  exact this
end Go.Bx.W
