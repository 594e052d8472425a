/-
  Parts of the proofs: R1W, R6Q, R6W, R6bW.
  No condition.
-/
import Derived.Test.YtjgegdipellpbaaQsA
import Derived.Test.YtjgegdipellpbaaWalkA
namespace Go.Bx.W
open Go.Proofs
set_option maxRecDepth 100000

/-! bastille/bastilleref01.Same -/
noncomputable def r1Same_B : Code := bodyOf Try.f80
noncomputable def r1Same_sg : List (Nat × Sum) := []
theorem r1Same_hs : ∀ f s, lk? r1Same_sg f = some s → SumOk Try.prog f s := no_sums
theorem r1Same_0_r (a : List Nat) (b : List Nat) (t0 : Nat) (_ : 0 ≤ a.length ∧ a.length ≤ 1000) (_ : 0 ≤ b.length ∧ b.length ≤ 1000) (_ : (a.length) = (b.length)) (_ : t0 < (a.length)) (hb : (!(Nat.beq (a.getD t0 0) (b.getD t0 0))) = false) (_ : (a.length) ≤ 1000) : Runs Try.prog 26 2 (inner (inner (seqB (seqA (seqB (seqB r1Same_B)))))) (r1Same_0R a b t0) (KE .normal (r1Same_0H a b (t0 + 1))) := by
  refine runs_go ?_
  exact go_end (cuts := r1Same_cuts) (n := 100000) (ch := [.go true, .go false]) (E := []) (C := ((((Nat.blt t0 (a.length)) && true) && (((Nat.blt t0 (a.length)) && true) && (((Nat.blt t0 (b.length)) && true) && (((Nat.blt t0 (b.length)) && true) && true)))) && true)) (L := [(Nat.blt t0 (a.length)), (!(!(Nat.beq (a.getD t0 0) (b.getD t0 0))))]) r1Same_hs mixed (by kernel_rfl) (and_t (and_t (and_t (blt_t (by omega)) rfl) (and_t (and_t (blt_t (by omega)) rfl) (and_t (and_t (blt_t (by omega)) rfl) (and_t (and_t (blt_t (by omega)) rfl) rfl)))) rfl) ⟨(blt_t (by omega)), ⟨not_t hb, trivial⟩⟩
theorem r1Same_0_x (a : List Nat) (b : List Nat) (t0 : Nat) (_ : 0 ≤ a.length ∧ a.length ≤ 1000) (_ : 0 ≤ b.length ∧ b.length ≤ 1000) (_ : (a.length) = (b.length)) (_ : t0 < (a.length)) (hb : (!(Nat.beq (a.getD t0 0) (b.getD t0 0))) = true) (_ : (a.length) ≤ 1000) : Runs Try.prog 26 2 (inner (inner (seqB (seqA (seqB (seqB r1Same_B)))))) (r1Same_0R a b t0) (KE .ret (r1Same_0Y)) := by
  refine runs_go ?_
  exact go_end (cuts := r1Same_cuts) (n := 100000) (ch := [.go true, .go true]) (E := []) (C := ((((Nat.blt t0 (a.length)) && true) && (((Nat.blt t0 (a.length)) && true) && (((Nat.blt t0 (b.length)) && true) && (((Nat.blt t0 (b.length)) && true) && true)))) && true)) (L := [(Nat.blt t0 (a.length)), (!(Nat.beq (a.getD t0 0) (b.getD t0 0)))]) r1Same_hs mixed (by kernel_rfl) (and_t (and_t (and_t (blt_t (by omega)) rfl) (and_t (and_t (blt_t (by omega)) rfl) (and_t (and_t (blt_t (by omega)) rfl) (and_t (and_t (blt_t (by omega)) rfl) rfl)))) rfl) ⟨(blt_t (by omega)), ⟨hb, trivial⟩⟩
theorem r1Same_0_e (a : List Nat) (b : List Nat) (_ : 0 ≤ a.length ∧ a.length ≤ 1000) (_ : 0 ≤ b.length ∧ b.length ≤ 1000) (_ : (a.length) = (b.length)) (_ : (a.length) ≤ 1000) : Runs Try.prog 26 2 (inner (inner (seqB (seqA (seqB (seqB r1Same_B)))))) (r1Same_0E a b) (KE (.exit 0) (r1Same_0X)) := by
  refine runs_go ?_
  exact go_end (cuts := r1Same_cuts) (n := 100000) (ch := [.go false]) (E := []) (C := true) (L := [(!(Nat.blt (a.length) (a.length)))]) r1Same_hs mixed (by kernel_rfl) rfl ⟨(blt_f (by omega)), trivial⟩
theorem r1Same_0_L (a : List Nat) (b : List Nat) (c0 : 0 ≤ a.length ∧ a.length ≤ 1000) (c1 : 0 ≤ b.length ∧ b.length ≤ 1000) (c2 : (a.length) = (b.length)) (hR : (a.length) ≤ 1000) : (∃ t, t < (a.length) ∧ (r1Same_0_b a b) t = true ∧ (∀ u, u < t → (r1Same_0_b a b) u = false) ∧ Runs Try.prog 26 2 (seqB (seqA (seqB (seqB r1Same_B)))) (r1Same_0H a b 0) (KE .ret (r1Same_0Y))) ∨ ((∀ u, u < (a.length) → (r1Same_0_b a b) u = false) ∧ Runs Try.prog 26 2 (seqB (seqA (seqB (seqB r1Same_B)))) (r1Same_0H a b 0) (KE .normal (r1Same_0X))) := by
  have wR : ∀ t, t < (a.length) → Wid (r1Same_0H a b t) (r1Same_0R a b t) := fun t ht => SlF.wid (SlF.cons (Fit.refl _) (SlF.cons (Fit.refl _) (SlF.cons (fit_nat (by omega) (by omega)) (SlF.refl _))))
  have wE : Wid (r1Same_0H a b (a.length)) (r1Same_0E a b) := Wid.refl _
  rcases loop_find (S := fun t => r1Same_0H a b t) (X := fun t => r1Same_0Y) (N := (a.length)) (r1Same_0_b a b) (fun t ht hb => Runs.wid (wR t ht) (r1Same_0_r a b t c0 c1 c2 ht (hb) hR)) (fun t ht hb => Runs.wid (wR t ht) (r1Same_0_x a b t c0 c1 c2 ht (hb) hR)) (Runs.wid wE (r1Same_0_e a b c0 c1 c2 hR)) (by simp) (by simp) with ⟨t, h1, h2, h3, h4⟩ | ⟨h3, h4⟩
  · exact .inl ⟨t, h1, h2, h3, block_ret h4⟩
  · exact .inr ⟨h3, block_exit h4⟩
theorem r1Same_z1_t (a : List Nat) (b : List Nat) (tq0 : Nat) (h1 : tq0 < (a.length)) (h2 : (r1Same_0_b a b) tq0 = true) (h3 : ∀ u, u < tq0 → (r1Same_0_b a b) u = false) : (r1Same_z1 a b) = false := firstHit_hit (x := fun _ => false) h2 (Nat.zero_le _) (by omega) fun u _ hu => h3 u hu
theorem r1Same_z1_f (a : List Nat) (b : List Nat) (h3 : ∀ u, u < (a.length) → (r1Same_0_b a b) u = false) : (r1Same_z1 a b) = true := firstHit_miss fun u _ hu => h3 u (by omega)
theorem r1Same_z2_t (a : List Nat) (b : List Nat) (h : (!(Nat.beq (a.length) (b.length))) = true) : (r1Same_z2 a b) = false := by unfold r1Same_z2; rw [h]; rfl
theorem r1Same_z2_f (a : List Nat) (b : List Nat) (h : (!(Nat.beq (a.length) (b.length))) = false) : (r1Same_z2 a b) = (r1Same_z1 a b) := by unfold r1Same_z2; rw [h]; rfl
theorem r1Same_run (a : List Nat) (b : List Nat) (_h_a : 0 ≤ a.length ∧ a.length ≤ 1000) (_g_a : ∀ x ∈ a, x ≤ 255) (_h_b : 0 ≤ b.length ∧ b.length ≤ 1000) (_g_b : ∀ x ∈ b, x ≤ 255) : RunF Try.prog Try.f80 2 [.slice 0 0 1 (a.length) 0 1000 none, .slice 1 0 1 (b.length) 0 1000 none] [(0, ⟨true, [.nats .u8 255 (a.length) a]⟩), (1, ⟨true, [.nats .u8 255 (b.length) b]⟩)] (KF (.ob (r1Same_z2 a b)) []) := by
  refine runF_go (by kernel_rfl) ?_
  rcases bool_cases (!(Nat.beq (a.length) (b.length))) with h0 | h0
  · rw [r1Same_z2_t a b h0]
    have := beq_no (not_back h0)
    exact go_fin (cuts := r1Same_cuts) (n := 100000) (ch := [.go true]) (C := true) (L := [(!(Nat.beq (a.length) (b.length)))]) r1Same_hs mixed (by kernel_rfl) rfl ⟨h0, trivial⟩
  · rw [r1Same_z2_f a b h0]
    have := beq_eq' (not_back2 h0)
    refine go_x (cuts := r1Same_cuts) (n := 100000) (ch := [.go false]) (E := []) (C := true) (L := [(!(!(Nat.beq (a.length) (b.length))))]) (c' := seqB (seqA (seqB (seqB r1Same_B)))) (K' := [.seq (seqB (seqB (seqB r1Same_B)))]) (S := (r1Same_0H a b 0)) r1Same_hs mixed (by kernel_rfl) rfl ⟨not_t h0, trivial⟩ ?_
    rcases r1Same_0_L a b (by omega) (by omega) (by omega) (by omega) with ⟨tq0, q1_tq0, q2_tq0, q3_tq0, q4_tq0⟩ | ⟨q3_tq0, q4_tq0⟩
    · rw [r1Same_z1_t a b tq0 q1_tq0 q2_tq0 q3_tq0]
      refine go_block q4_tq0 ?_
      exact go_fin (cuts := r1Same_cuts) (n := 100000) (ch := []) (C := true) (L := []) r1Same_hs mixed (by kernel_rfl) rfl trivial
    · rw [r1Same_z1_f a b q3_tq0]
      refine go_block q4_tq0 ?_
      exact go_fin (cuts := r1Same_cuts) (n := 100000) (ch := []) (C := true) (L := []) r1Same_hs mixed (by kernel_rfl) rfl trivial
theorem r1Same_ok : SumOk Try.prog 80 r1Same_S := by
  refine fun_g (fn := Try.f80) (by kernel_rfl) (by kernel_rfl) (by kernel_rfl) (Nat.le_of_ble_eq_true rfl) (by kernel_rfl) fun bs v l hw hR => ?_
  unfold r1Same_P at hw
  obtain ⟨_, _, rfl, h0, w0⟩ := wf_cons hw
  obtain ⟨a, rfl, q0, q0_, g0⟩ := wf_sl h0
  obtain ⟨_, _, rfl, h1, w1⟩ := wf_cons w0
  obtain ⟨b, rfl, q1, q1_, g1⟩ := wf_sl h1
  obtain rfl := wf_nil w1
  obtain ⟨_, rfl, rfl⟩ := ret_inj hR
  exact ⟨by kernel_rfl, r1Same_run a b ⟨q0, q0_⟩ g0 ⟨q1, q1_⟩ g1⟩

/-! bastille/bastilleref04.AtLeast -/
noncomputable def r4AtLeast_B : Code := bodyOf Try.f67
noncomputable def r4AtLeast_sg : List (Nat × Sum) := []
theorem r4AtLeast_hs : ∀ f s, lk? r4AtLeast_sg f = some s → SumOk Try.prog f s := no_sums
theorem r4AtLeast_0_r (a : List Nat) (b : List Nat) (t0 : Nat) (_ : 17 ≤ a.length ∧ a.length ≤ 17) (_ : 17 ≤ b.length ∧ b.length ≤ 17) (_ : t0 < 17) (hb : (!(Nat.beq (a.getD (16 - t0) 0) (b.getD (16 - t0) 0))) = false) : Runs Try.prog 31 2 (inner (inner (seqB (seqA (seqB r4AtLeast_B))))) (r4AtLeast_0R a b t0) (KE .normal (r4AtLeast_0H a b (t0 + 1))) := by
  have ed : IntKind.i64.wrap ((((16 - t0) : Nat) : Int) - ((1 : Nat) : Int)) = ((16 : Nat) : Int) - (((t0 + 1) : Nat) : Int) := by rw [wrap_small (by omega) (by omega)]; omega
  have h : Runs Try.prog 31 2 (inner (inner (seqB (seqA (seqB r4AtLeast_B))))) (r4AtLeast_0R a b t0) (KE .normal ⟨[(0, .slice 0 0 1 17 17 17 none), (1, .slice 1 0 1 17 17 17 none), (5, .int .i64 (IntKind.i64.wrap ((((16 - t0) : Nat) : Int) - ((1 : Nat) : Int))))], [(0, ⟨true, [.nats .i64 65535 17 a]⟩), (1, ⟨true, [.nats .i64 65535 17 b]⟩)], 2, [], []⟩) := by
    refine runs_go ?_
    exact go_end (cuts := r4AtLeast_cuts) (n := 100000) (ch := [.go false]) (E := []) (C := ((((Nat.blt (16 - t0) 17) && true) && (((Nat.blt (16 - t0) 17) && true) && true)) && true)) (L := [(!(!(Nat.beq (a.getD (16 - t0) 0) (b.getD (16 - t0) 0))))]) r4AtLeast_hs mixed (by kernel_rfl) (and_t (and_t (and_t (blt_t (by omega)) rfl) (and_t (and_t (blt_t (by omega)) rfl) rfl)) rfl) ⟨not_t hb, trivial⟩
  rw [ed] at h
  exact h
theorem r4AtLeast_0_x (a : List Nat) (b : List Nat) (t0 : Nat) (_ : 17 ≤ a.length ∧ a.length ≤ 17) (_ : 17 ≤ b.length ∧ b.length ≤ 17) (_ : t0 < 17) (hb : (!(Nat.beq (a.getD (16 - t0) 0) (b.getD (16 - t0) 0))) = true) : Runs Try.prog 31 2 (inner (inner (seqB (seqA (seqB r4AtLeast_B))))) (r4AtLeast_0R a b t0) (KE .ret (r4AtLeast_0Y a b t0)) := by
  refine runs_go ?_
  exact go_end (cuts := r4AtLeast_cuts) (n := 100000) (ch := [.go true]) (E := []) (C := ((((Nat.blt (16 - t0) 17) && true) && (((Nat.blt (16 - t0) 17) && true) && true)) && ((((Nat.blt (16 - t0) 17) && true) && (((Nat.blt (16 - t0) 17) && true) && true)) && true))) (L := [(!(Nat.beq (a.getD (16 - t0) 0) (b.getD (16 - t0) 0)))]) r4AtLeast_hs mixed (by kernel_rfl) (and_t (and_t (and_t (blt_t (by omega)) rfl) (and_t (and_t (blt_t (by omega)) rfl) rfl)) (and_t (and_t (and_t (blt_t (by omega)) rfl) (and_t (and_t (blt_t (by omega)) rfl) rfl)) rfl)) ⟨hb, trivial⟩
theorem r4AtLeast_0_e (a : List Nat) (b : List Nat) (_ : 17 ≤ a.length ∧ a.length ≤ 17) (_ : 17 ≤ b.length ∧ b.length ≤ 17) : Runs Try.prog 31 2 (inner (inner (seqB (seqA (seqB r4AtLeast_B))))) (r4AtLeast_0E a b) (KE (.exit 0) (r4AtLeast_0X)) := by
  refine runs_go ?_
  exact go_end (cuts := r4AtLeast_cuts) (n := 100000) (ch := []) (E := []) (C := true) (L := []) r4AtLeast_hs mixed (by kernel_rfl) rfl trivial
theorem r4AtLeast_0_L (a : List Nat) (b : List Nat) (c0 : 17 ≤ a.length ∧ a.length ≤ 17) (c1 : 17 ≤ b.length ∧ b.length ≤ 17) : (∃ t, t < 17 ∧ (r4AtLeast_0_b a b) t = true ∧ (∀ u, u < t → (r4AtLeast_0_b a b) u = false) ∧ Runs Try.prog 31 2 (seqB (seqA (seqB r4AtLeast_B))) (r4AtLeast_0H a b 0) (KE .ret (r4AtLeast_0Y a b t))) ∨ ((∀ u, u < 17 → (r4AtLeast_0_b a b) u = false) ∧ Runs Try.prog 31 2 (seqB (seqA (seqB r4AtLeast_B))) (r4AtLeast_0H a b 0) (KE .normal (r4AtLeast_0X))) := by
  have wR : ∀ t, t < 17 → Wid (r4AtLeast_0H a b t) (r4AtLeast_0R a b t) := fun t ht => SlF.wid (SlF.cons (Fit.refl _) (SlF.cons (Fit.refl _) (SlF.cons (fit_down (by omega) (by omega) (by omega)) (SlF.refl _))))
  have wE : Wid (r4AtLeast_0H a b 17) (r4AtLeast_0E a b) := SlF.wid (SlF.cons (Fit.refl _) (SlF.cons (Fit.refl _) (SlF.cons (fit_neg (by omega)) (SlF.refl _))))
  rcases loop_find (S := fun t => r4AtLeast_0H a b t) (X := fun t => r4AtLeast_0Y a b t) (N := 17) (r4AtLeast_0_b a b) (fun t ht hb => Runs.wid (wR t ht) (r4AtLeast_0_r a b t c0 c1 ht (hb))) (fun t ht hb => Runs.wid (wR t ht) (r4AtLeast_0_x a b t c0 c1 ht (hb))) (Runs.wid wE (r4AtLeast_0_e a b c0 c1)) (by simp) (by simp) with ⟨t, h1, h2, h3, h4⟩ | ⟨h3, h4⟩
  · exact .inl ⟨t, h1, h2, h3, block_ret h4⟩
  · exact .inr ⟨h3, block_exit h4⟩
theorem r4AtLeast_z1_t (a : List Nat) (b : List Nat) (tq0 : Nat) (h1 : tq0 < 17) (h2 : (r4AtLeast_0_b a b) tq0 = true) (h3 : ∀ u, u < tq0 → (r4AtLeast_0_b a b) u = false) : (r4AtLeast_z1 a b) = (Nat.blt (b.getD (16 - tq0) 0) (a.getD (16 - tq0) 0)) := firstHit_hit (x := fun tq0 => (Nat.blt (b.getD (16 - tq0) 0) (a.getD (16 - tq0) 0))) h2 (Nat.zero_le _) (by omega) fun u _ hu => h3 u hu
theorem r4AtLeast_z1_f (a : List Nat) (b : List Nat) (h3 : ∀ u, u < 17 → (r4AtLeast_0_b a b) u = false) : (r4AtLeast_z1 a b) = true := firstHit_miss fun u _ hu => h3 u (by omega)
theorem r4AtLeast_run (a : List Nat) (b : List Nat) (_h_a : 17 ≤ a.length ∧ a.length ≤ 17) (_g_a : ∀ x ∈ a, x ≤ 65535) (_h_b : 17 ≤ b.length ∧ b.length ≤ 17) (_g_b : ∀ x ∈ b, x ≤ 65535) : RunF Try.prog Try.f67 2 [.slice 0 0 1 17 17 17 none, .slice 1 0 1 17 17 17 none] [(0, ⟨true, [.nats .i64 65535 17 a]⟩), (1, ⟨true, [.nats .i64 65535 17 b]⟩)] (KF (.ob (r4AtLeast_z1 a b)) []) := by
  refine runF_go (by kernel_rfl) ?_
  refine go_x (cuts := r4AtLeast_cuts) (n := 100000) (ch := []) (E := []) (C := true) (L := []) (c' := seqB (seqA (seqB r4AtLeast_B))) (K' := [.seq (seqB (seqB r4AtLeast_B))]) (S := (r4AtLeast_0H a b 0)) r4AtLeast_hs mixed (by kernel_rfl) rfl trivial ?_
  rcases r4AtLeast_0_L a b (by omega) (by omega) with ⟨tq0, q1_tq0, q2_tq0, q3_tq0, q4_tq0⟩ | ⟨q3_tq0, q4_tq0⟩
  · rw [r4AtLeast_z1_t a b tq0 q1_tq0 q2_tq0 q3_tq0]
    refine go_block q4_tq0 ?_
    exact go_fin (cuts := r4AtLeast_cuts) (n := 100000) (ch := []) (C := true) (L := []) r4AtLeast_hs mixed (by kernel_rfl) rfl trivial
  · rw [r4AtLeast_z1_f a b q3_tq0]
    refine go_block q4_tq0 ?_
    exact go_fin (cuts := r4AtLeast_cuts) (n := 100000) (ch := []) (C := true) (L := []) r4AtLeast_hs mixed (by kernel_rfl) rfl trivial
theorem r4AtLeast_ok : SumOk Try.prog 67 r4AtLeast_S := by
  refine fun_g (fn := Try.f67) (by kernel_rfl) (by kernel_rfl) (by kernel_rfl) (Nat.le_of_ble_eq_true rfl) (by kernel_rfl) fun bs v l hw hR => ?_
  unfold r4AtLeast_P at hw
  obtain ⟨_, _, rfl, h0, w0⟩ := wf_cons hw
  obtain ⟨a, rfl, q0, q0_, g0⟩ := wf_sl h0
  obtain ⟨_, _, rfl, h1, w1⟩ := wf_cons w0
  obtain ⟨b, rfl, q1, q1_, g1⟩ := wf_sl h1
  obtain rfl := wf_nil w1
  obtain ⟨_, rfl, rfl⟩ := ret_inj hR
  exact ⟨by kernel_rfl, r4AtLeast_run a b ⟨q0, q0_⟩ g0 ⟨q1, q1_⟩ g1⟩

/-! bastille/bastilleref04.Less -/
noncomputable def r4Less_B : Code := bodyOf Try.f99
noncomputable def r4Less_sg : List (Nat × Sum) := []
theorem r4Less_hs : ∀ f s, lk? r4Less_sg f = some s → SumOk Try.prog f s := no_sums
theorem r4Less_0_r (a : List Nat) (b : List Nat) (t0 : Nat) (v0 : Nat × List Int) (_ : 17 ≤ a.length ∧ a.length ≤ 17) (_ : 17 ≤ b.length ∧ b.length ≤ 17) (_ : t0 < 17) : Runs Try.prog 35 2 (inner (inner (seqB (seqA (seqB (seqB (seqB r4Less_B))))))) (r4Less_0R a b t0 v0) (KE .normal (r4Less_0H a b (t0 + 1) (r4Less_0s a b t0 v0))) := by
  refine runs_go ?_
  exact go_end (cuts := r4Less_cuts) (n := 100000) (ch := [.join]) (E := []) (C := ((((Nat.blt t0 17) && true) && (((Nat.blt t0 17) && true) && true)) && ((((((Nat.beq (0 + t0) t0) && true) && true) && true) && true) && true))) (L := []) r4Less_hs mixed (by kernel_rfl) (and_t (and_t (and_t (blt_t (by omega)) rfl) (and_t (and_t (blt_t (by omega)) rfl) rfl)) (and_t (and_t (and_t (and_t (and_t (beq_t (by omega)) rfl) rfl) rfl) rfl) rfl)) trivial
theorem r4Less_0_e (a : List Nat) (b : List Nat) (v0 : Nat × List Int) (_ : 17 ≤ a.length ∧ a.length ≤ 17) (_ : 17 ≤ b.length ∧ b.length ≤ 17) : Runs Try.prog 35 2 (inner (inner (seqB (seqA (seqB (seqB (seqB r4Less_B))))))) (r4Less_0E a b v0) (KE (.exit 0) (r4Less_0X v0)) := by
  refine runs_go ?_
  exact go_end (cuts := r4Less_cuts) (n := 100000) (ch := []) (E := []) (C := true) (L := []) r4Less_hs mixed (by kernel_rfl) rfl trivial
theorem r4Less_0_L (a : List Nat) (b : List Nat) (v0 : Nat × List Int) (c0 : 17 ≤ a.length ∧ a.length ≤ 17) (c1 : 17 ≤ b.length ∧ b.length ≤ 17) : Runs Try.prog 35 2 (seqB (seqA (seqB (seqB (seqB r4Less_B))))) (r4Less_0H a b 0 v0) (KE .normal (r4Less_0X (r4Less_0l a b v0 17))) := by
  refine block_exit (loop_up (S := fun t => r4Less_0H a b t (r4Less_0l a b v0 t)) (N := 17) (fun t ht => Runs.wid ?_ (r4Less_0_r a b t (r4Less_0l a b v0 t) c0 c1 ht)) (Runs.wid ?_ (r4Less_0_e a b (r4Less_0l a b v0 17) c0 c1)) (by simp) 0 (Nat.zero_le _))
  · exact SlF.wid (SlF.cons (Fit.refl _) (SlF.cons (Fit.refl _) (SlF.cons (fit_slice (by omega) (by omega)) (SlF.cons (Fit.refl _) (SlF.cons (fit_nat (by omega) (by omega)) (SlF.refl _))))))
  · exact SlF.wid (SlF.cons (Fit.refl _) (SlF.cons (Fit.refl _) (SlF.cons (fit_slice (by omega) (by omega)) (SlF.cons (Fit.refl _) (SlF.cons (fit_nat (by omega) (by omega)) (SlF.refl _))))))
theorem r4Less_run (a : List Nat) (b : List Nat) (_h_a : 17 ≤ a.length ∧ a.length ≤ 17) (_g_a : ∀ x ∈ a, x ≤ 65535) (_h_b : 17 ≤ b.length ∧ b.length ≤ 17) (_g_b : ∀ x ∈ b, x ≤ 65535) : RunF Try.prog Try.f99 2 [.slice 0 0 1 17 17 17 none, .slice 1 0 1 17 17 17 none] [(0, ⟨true, [.nats .i64 65535 17 a]⟩), (1, ⟨true, [.nats .i64 65535 17 b]⟩)] (KF (.slice 2 0 1 17 17 17 none) [(2, [.ints .i64 17 (r4Less_v3 a b)])]) := by
  refine runF_go (by kernel_rfl) ?_
  refine go_x (cuts := r4Less_cuts) (n := 100000) (ch := []) (E := [2]) (C := true) (L := []) (c' := seqB (seqA (seqB (seqB (seqB r4Less_B))))) (K' := [.seq (seqB (seqB (seqB (seqB r4Less_B))))]) (S := (r4Less_0H a b 0 (0, []))) r4Less_hs mixed (by kernel_rfl) rfl trivial ?_
  refine go_block (r4Less_0_L a b (0, []) (by omega) (by omega)) ?_
  exact go_fin (cuts := r4Less_cuts) (n := 100000) (ch := []) (C := true) (L := []) r4Less_hs mixed (by kernel_rfl) rfl trivial
theorem r4Less_run2 (a : List Nat) (b : List Nat) (h_a : 17 ≤ a.length ∧ a.length ≤ 17) (g_a : ∀ x ∈ a, x ≤ 65535) (h_b : 17 ≤ b.length ∧ b.length ≤ 17) (g_b : ∀ x ∈ b, x ≤ 65535) : RunF Try.prog Try.f99 2 [.slice 0 0 1 17 17 17 none, .slice 1 0 1 17 17 17 none] [(0, ⟨true, [.nats .i64 65535 17 a]⟩), (1, ⟨true, [.nats .i64 65535 17 b]⟩)] (KF (.slice 2 0 1 17 17 17 none) [(2, [.nats .i64 65535 17 (lessL a b 17)])]) :=
  (r4Less_run a b h_a g_a h_b g_b).mono (kf_mono (Fit.refl _) ⟨rfl, fitL_ofI (r4Less_lessL g_a g_b) (lessL_le a b 17), rfl⟩)
theorem r4Less_ok : SumOk Try.prog 99 r4Less_S := by
  refine fun_g (fn := Try.f99) (by kernel_rfl) (by kernel_rfl) (by kernel_rfl) (Nat.le_of_ble_eq_true rfl) (by kernel_rfl) fun bs v l hw hR => ?_
  unfold r4Less_P at hw
  obtain ⟨_, _, rfl, h0, w0⟩ := wf_cons hw
  obtain ⟨a, rfl, q0, q0_, g0⟩ := wf_sl h0
  obtain ⟨_, _, rfl, h1, w1⟩ := wf_cons w0
  obtain ⟨b, rfl, q1, q1_, g1⟩ := wf_sl h1
  obtain rfl := wf_nil w1
  obtain ⟨_, rfl, rfl⟩ := ret_inj hR
  exact ⟨by kernel_rfl, r4Less_run2 a b ⟨q0, q0_⟩ g0 ⟨q1, q1_⟩ g1⟩
end Go.Bx.W

namespace Go.Bx.W
open Go.Proofs
set_option maxRecDepth 100000

theorem r6Q_run : RunF Try.prog Try.f73 0 [] [] (KF (.slice 32 0 1 16 16 16 none) [(32, [.nats .i64 69631 16 qDig])]) :=
  runF_k (σ := []) (fuel := 100000) (C := true) no_sums mixed (by kernel_rfl) (by kernel_rfl) rfl
theorem r6Q_ok : SumOk Try.prog 73 r6Q_S := by
  refine fun_g (fn := Try.f73) (by kernel_rfl) (by kernel_rfl) (by kernel_rfl) (Nat.le_of_ble_eq_true rfl) (by kernel_rfl) fun bs v l hw hR => ?_
  obtain rfl := wf_nil hw
  obtain ⟨_, rfl, rfl⟩ := ret_inj hR
  exact ⟨by kernel_rfl, r6Q_run.mono (kf_mono (Fit.refl _) ⟨rfl, fitL_hi rfl (by decide), rfl⟩)⟩
end Go.Bx.W

namespace Go.Bx.W
open Go.Proofs
set_option maxRecDepth 100000

/-! bastille/bastilleref06.Mod -/
noncomputable def r6Mod_B : Code := bodyOf Try.f109
noncomputable def r6Mod_sg : List (Nat × Sum) := [(67, r4AtLeast_S), (73, r6Q_S), (99, r4Less_S)]
theorem r6Mod_hs : ∀ f s, lk? r6Mod_sg f = some s → SumOk Try.prog f s := sums_cons r4AtLeast_ok (sums_cons r6Q_ok (sums_cons r4Less_ok (no_sums)))
theorem r6Mod_4_r (a : List Nat) (t0 : Nat) (t1 : Nat) (a0 : List Nat) (t2 : Nat) (v2 : Nat × List Nat) (_ : 1 ≤ a.length ∧ a.length ≤ 100) (_ : t0 < (((a.length) - 1) + 1)) (_ : t1 < 16) (_ : t2 < 17) : Runs Try.prog 59 1 (inner (inner (seqB (seqA (seqB (inner (seqA (seqB (inner (inner (seqB (inner (seqA (seqB (inner (inner (seqB (seqA (seqB (seqB (seqB (seqB r6Mod_B)))))))))))))))))))))) (r6Mod_4R a t0 t1 a0 t2 v2) (KE .normal (r6Mod_4H a t0 t1 a0 (t2 + 1) (r6Mod_4s t2 v2))) := by
  refine runs_go ?_
  exact go_end (cuts := r6Mod_cuts) (n := 100000) (ch := []) (E := []) (C := ((((Nat.blt t2 17) && true) && true) && (((((Nat.blt t2 17) && true) && true) && true) && true))) (L := []) r6Mod_hs mixed (by kernel_rfl) (and_t (and_t (and_t (blt_t (by omega)) rfl) rfl) (and_t (and_t (and_t (and_t (blt_t (by omega)) rfl) rfl) rfl) rfl)) trivial
theorem r6Mod_4_e (a : List Nat) (t0 : Nat) (t1 : Nat) (a0 : List Nat) (v2 : Nat × List Nat) (_ : 1 ≤ a.length ∧ a.length ≤ 100) (_ : t0 < (((a.length) - 1) + 1)) (_ : t1 < 16) : Runs Try.prog 59 1 (inner (inner (seqB (seqA (seqB (inner (seqA (seqB (inner (inner (seqB (inner (seqA (seqB (inner (inner (seqB (seqA (seqB (seqB (seqB (seqB r6Mod_B)))))))))))))))))))))) (r6Mod_4E a t0 t1 a0 v2) (KE (.exit 4) (r6Mod_4X a t0 t1 a0 v2)) := by
  refine runs_go ?_
  exact go_end (cuts := r6Mod_cuts) (n := 100000) (ch := []) (E := []) (C := true) (L := []) r6Mod_hs mixed (by kernel_rfl) rfl trivial
theorem r6Mod_4_L (a : List Nat) (t0 : Nat) (t1 : Nat) (a0 : List Nat) (v0 : Nat × List Nat) (c0 : 1 ≤ a.length ∧ a.length ≤ 100) (c1 : t0 < (((a.length) - 1) + 1)) (c2 : t1 < 16) : Runs Try.prog 59 1 (seqB (seqA (seqB (inner (seqA (seqB (inner (inner (seqB (inner (seqA (seqB (inner (inner (seqB (seqA (seqB (seqB (seqB (seqB r6Mod_B)))))))))))))))))))) (r6Mod_4H a t0 t1 a0 0 v0) (KE .normal (r6Mod_4X a t0 t1 a0 (r6Mod_4l v0 17))) := by
  refine block_exit (loop_up (S := fun t => r6Mod_4H a t0 t1 a0 t (r6Mod_4l v0 t)) (N := 17) (fun t ht => Runs.wid ?_ (r6Mod_4_r a t0 t1 a0 t (r6Mod_4l v0 t) c0 c1 c2 ht)) (Runs.wid ?_ (r6Mod_4_e a t0 t1 a0 (r6Mod_4l v0 17) c0 c1 c2)) (by simp) 0 (Nat.zero_le _))
  · exact SlF.wid (SlF.cons (Fit.refl _) (SlF.cons (Fit.refl _) (SlF.cons (Fit.refl _) (SlF.cons (Fit.refl _) (SlF.cons (Fit.refl _) (SlF.cons (Fit.refl _) (SlF.cons (fit_nat (by omega) (by omega)) (SlF.refl _))))))))
  · exact SlF.wid (SlF.cons (Fit.refl _) (SlF.cons (Fit.refl _) (SlF.cons (Fit.refl _) (SlF.cons (Fit.refl _) (SlF.cons (Fit.refl _) (SlF.cons (Fit.refl _) (SlF.cons (fit_nat (by omega) (by omega)) (SlF.refl _))))))))
theorem r6Mod_2_r (a : List Nat) (t0 : Nat) (a0 : List Nat) (t1 : Nat) (v1 : List Nat) (_ : 1 ≤ a.length ∧ a.length ≤ 100) (_ : t0 < (((a.length) - 1) + 1)) (_ : t1 < 16) : Runs Try.prog 59 1 (inner (inner (seqB (inner (seqA (seqB (inner (inner (seqB (seqA (seqB (seqB (seqB (seqB r6Mod_B)))))))))))))) (r6Mod_2R a t0 a0 t1 v1) (KE .normal (r6Mod_2H a t0 a0 (t1 + 1) (r6Mod_2s a t0 a0 t1 v1))) := by
  have e0 : (((2 ^ 15 / 2 ^ t1) / 2) : Nat) = ((2 ^ 15 / 2 ^ (t1 + 1)) : Nat) := half_succ _ _
  have h : Runs Try.prog 59 1 (inner (inner (seqB (inner (seqA (seqB (inner (inner (seqB (seqA (seqB (seqB (seqB (seqB r6Mod_B)))))))))))))) (r6Mod_2R a t0 a0 t1 v1) (KE .normal ⟨[(0, .slice 0 0 1 (a.length) 1 100 none), (3, .slice 1 0 1 17 17 17 none), (4, .slice 2 0 1 17 17 17 none), (5, .nat .i64 (((a.length) - 1) - t0) 0 99), (6, .nat .i64 ((2 ^ 15 / 2 ^ t1) / 2) 0 32768)], [(0, ⟨true, [.nats .i64 65535 (a.length) a]⟩), (1, ⟨false, [.nats .i64 65535 17 a0]⟩), (2, ⟨false, [.nats .i64 65535 17 (r6Mod_2s a t0 a0 t1 v1)]⟩)], 3, [], []⟩) := by
    refine runs_go ?_
    refine go_x (cuts := r6Mod_cuts) (n := 100000) (ch := []) (E := []) (C := ((((Nat.blt (((a.length) - 1) - t0) (a.length)) && true) && (((Nat.blt (((a.length) - 1) - t0) (a.length)) && true) && true)) && true)) (L := []) (c' := seqB (seqA (seqB (inner (seqA (seqB (inner (inner (seqB (inner (seqA (seqB (inner (inner (seqB (seqA (seqB (seqB (seqB (seqB r6Mod_B)))))))))))))))))))) (K' := [.seq (seqB (seqB (inner (seqA (seqB (inner (inner (seqB (inner (seqA (seqB (inner (inner (seqB (seqA (seqB (seqB (seqB (seqB r6Mod_B))))))))))))))))))), .block 3, .seq (seqB (seqB (inner (inner (seqB (inner (seqA (seqB (inner (inner (seqB (seqA (seqB (seqB (seqB (seqB r6Mod_B))))))))))))))))]) (S := (r6Mod_4H a t0 t1 a0 0 ((((a.getD (((a.length) - 1) - t0) 0) / (2 ^ 15 / 2 ^ t1)) % 2), v1))) r6Mod_hs mixed (by kernel_rfl) (and_t (and_t (and_t (blt_t (by omega)) rfl) (and_t (and_t (blt_t (by omega)) rfl) rfl)) rfl) trivial ?_
    refine go_block (r6Mod_4_L a t0 t1 a0 ((((a.getD (((a.length) - 1) - t0) 0) / (2 ^ 15 / 2 ^ t1)) % 2), v1) (by omega) (by omega) (by omega)) ?_
    rcases bool_cases (r4AtLeast_z1 (subL 0 17 (r6Mod_y1 a t0 t1 v1).2) (subL 0 17 a0)) with h0 | h0
    · unfold r6Mod_2s
      simp only [cond_t h0]
      exact go_end (cuts := r6Mod_cuts) (n := 100000) (ch := [.go true]) (E := []) (C := true) (L := [(r4AtLeast_z1 (subL 0 17 (r6Mod_y1 a t0 t1 v1).2) (subL 0 17 a0))]) r6Mod_hs mixed (by kernel_rfl) rfl ⟨h0, trivial⟩
    · unfold r6Mod_2s
      simp only [cond_f h0]
      exact go_end (cuts := r6Mod_cuts) (n := 100000) (ch := [.go false]) (E := []) (C := true) (L := [(!(r4AtLeast_z1 (subL 0 17 (r6Mod_y1 a t0 t1 v1).2) (subL 0 17 a0)))]) r6Mod_hs mixed (by kernel_rfl) rfl ⟨not_t h0, trivial⟩
  rw [e0] at h
  exact h
theorem r6Mod_2_e (a : List Nat) (t0 : Nat) (a0 : List Nat) (v1 : List Nat) (_ : 1 ≤ a.length ∧ a.length ≤ 100) (_ : t0 < (((a.length) - 1) + 1)) : Runs Try.prog 59 1 (inner (inner (seqB (inner (seqA (seqB (inner (inner (seqB (seqA (seqB (seqB (seqB (seqB r6Mod_B)))))))))))))) (r6Mod_2E a t0 a0 v1) (KE (.exit 2) (r6Mod_2X a t0 a0 v1)) := by
  refine runs_go ?_
  exact go_end (cuts := r6Mod_cuts) (n := 100000) (ch := []) (E := []) (C := true) (L := []) r6Mod_hs mixed (by kernel_rfl) rfl trivial
theorem r6Mod_2_L (a : List Nat) (t0 : Nat) (a0 : List Nat) (v0 : List Nat) (c0 : 1 ≤ a.length ∧ a.length ≤ 100) (c1 : t0 < (((a.length) - 1) + 1)) : Runs Try.prog 59 1 (seqB (inner (seqA (seqB (inner (inner (seqB (seqA (seqB (seqB (seqB (seqB r6Mod_B)))))))))))) (r6Mod_2H a t0 a0 0 v0) (KE .normal (r6Mod_2X a t0 a0 (r6Mod_2l a t0 a0 v0 16))) := by
  refine block_exit (loop_up (S := fun t => r6Mod_2H a t0 a0 t (r6Mod_2l a t0 a0 v0 t)) (N := 16) (fun t ht => Runs.wid ?_ (r6Mod_2_r a t0 a0 t (r6Mod_2l a t0 a0 v0 t) c0 c1 ht)) (Runs.wid ?_ (r6Mod_2_e a t0 a0 (r6Mod_2l a t0 a0 v0 16) c0 c1)) (by simp) 0 (Nat.zero_le _))
  · exact SlF.wid (SlF.cons (Fit.refl _) (SlF.cons (Fit.refl _) (SlF.cons (Fit.refl _) (SlF.cons (Fit.refl _) (SlF.cons (fit_nat (half_bd (by omega)).1 (Nat.le_trans (half_bd (k := 15) (by omega)).2 (by decide))) (SlF.refl _))))))
  · exact SlF.wid (SlF.cons (Fit.refl _) (SlF.cons (Fit.refl _) (SlF.cons (Fit.refl _) (SlF.cons (Fit.refl _) (SlF.cons (fit_nat (by decide) (by decide)) (SlF.refl _))))))
theorem r6Mod_0_r (a : List Nat) (a0 : List Nat) (t0 : Nat) (v0 : List Nat) (_ : 1 ≤ a.length ∧ a.length ≤ 100) (_ : t0 < (((a.length) - 1) + 1)) (_ : (((a.length) - 1) + 1) ≤ 100) : Runs Try.prog 59 1 (inner (inner (seqB (seqA (seqB (seqB (seqB (seqB r6Mod_B)))))))) (r6Mod_0R a a0 t0 v0) (KE .normal (r6Mod_0H a a0 (t0 + 1) (r6Mod_0s a a0 t0 v0))) := by
  have ed : IntKind.i64.wrap ((((((a.length) - 1) - t0) : Nat) : Int) - ((1 : Nat) : Int)) = ((((a.length) - 1) : Nat) : Int) - (((t0 + 1) : Nat) : Int) := by rw [wrap_small (by omega) (by omega)]; omega
  have h : Runs Try.prog 59 1 (inner (inner (seqB (seqA (seqB (seqB (seqB (seqB r6Mod_B)))))))) (r6Mod_0R a a0 t0 v0) (KE .normal ⟨[(0, .slice 0 0 1 (a.length) 1 100 none), (3, .slice 1 0 1 17 17 17 none), (4, .slice 2 0 1 17 17 17 none), (5, .int .i64 (IntKind.i64.wrap ((((((a.length) - 1) - t0) : Nat) : Int) - ((1 : Nat) : Int))))], [(0, ⟨true, [.nats .i64 65535 (a.length) a]⟩), (1, ⟨false, [.nats .i64 65535 17 a0]⟩), (2, ⟨false, [.nats .i64 65535 17 (r6Mod_0s a a0 t0 v0)]⟩)], 3, [], []⟩) := by
    refine runs_go ?_
    refine go_x (cuts := r6Mod_cuts) (n := 100000) (ch := []) (E := []) (C := true) (L := []) (c' := seqB (inner (seqA (seqB (inner (inner (seqB (seqA (seqB (seqB (seqB (seqB r6Mod_B)))))))))))) (K' := [.block 1, .seq (seqB (seqB (inner (inner (seqB (seqA (seqB (seqB (seqB (seqB r6Mod_B))))))))))]) (S := (r6Mod_2H a t0 a0 0 v0)) r6Mod_hs mixed (by kernel_rfl) rfl trivial ?_
    refine go_block (r6Mod_2_L a t0 a0 v0 (by omega) (by omega)) ?_
    exact go_end (cuts := r6Mod_cuts) (n := 100000) (ch := []) (E := []) (C := true) (L := []) r6Mod_hs mixed (by kernel_rfl) rfl trivial
  rw [ed] at h
  exact h
theorem r6Mod_0_e (a : List Nat) (a0 : List Nat) (v0 : List Nat) (_ : 1 ≤ a.length ∧ a.length ≤ 100) (_ : (((a.length) - 1) + 1) ≤ 100) : Runs Try.prog 59 1 (inner (inner (seqB (seqA (seqB (seqB (seqB (seqB r6Mod_B)))))))) (r6Mod_0E a a0 v0) (KE (.exit 0) (r6Mod_0X v0)) := by
  refine runs_go ?_
  exact go_end (cuts := r6Mod_cuts) (n := 100000) (ch := []) (E := []) (C := true) (L := []) r6Mod_hs mixed (by kernel_rfl) rfl trivial
theorem r6Mod_0_L (a : List Nat) (a0 : List Nat) (v0 : List Nat) (c0 : 1 ≤ a.length ∧ a.length ≤ 100) (hR : (((a.length) - 1) + 1) ≤ 100) : Runs Try.prog 59 1 (seqB (seqA (seqB (seqB (seqB (seqB r6Mod_B)))))) (r6Mod_0H a a0 0 v0) (KE .normal (r6Mod_0X (r6Mod_0l a a0 v0 (((a.length) - 1) + 1)))) := by
  refine block_exit (loop_up (S := fun t => r6Mod_0H a a0 t (r6Mod_0l a a0 v0 t)) (N := (((a.length) - 1) + 1)) (fun t ht => Runs.wid ?_ (r6Mod_0_r a a0 t (r6Mod_0l a a0 v0 t) c0 ht hR)) (Runs.wid ?_ (r6Mod_0_e a a0 (r6Mod_0l a a0 v0 (((a.length) - 1) + 1)) c0 hR)) (by simp) 0 (Nat.zero_le _))
  · exact SlF.wid (SlF.cons (Fit.refl _) (SlF.cons (Fit.refl _) (SlF.cons (Fit.refl _) (SlF.cons (fit_down (by omega) (by omega) (by omega)) (SlF.refl _)))))
  · exact SlF.wid (SlF.cons (Fit.refl _) (SlF.cons (Fit.refl _) (SlF.cons (Fit.refl _) (SlF.cons (fit_neg (by omega)) (SlF.refl _)))))
theorem r6Mod_run (a : List Nat) (_h_a : 1 ≤ a.length ∧ a.length ≤ 100) (_g_a : ∀ x ∈ a, x ≤ 65535) : RunF Try.prog Try.f109 1 [.slice 0 0 1 (a.length) 1 100 none] [(0, ⟨true, [.nats .i64 65535 (a.length) a]⟩)] (KF (.slice 1 0 1 16 16 16 none) [(1, [.nats .i64 65535 17 (r6Mod_v3 a)])]) := by
  refine runF_go (by kernel_rfl) ?_
  refine go_x (cuts := r6Mod_cuts) (n := 100000) (ch := []) (E := []) (C := true) (L := []) (c' := seqB (seqA (seqB (seqB (seqB (seqB r6Mod_B)))))) (K' := [.seq (seqB (seqB (seqB (seqB (seqB r6Mod_B)))))]) (S := (r6Mod_0H a (qDig ++ (((List.replicate 1 0).set 0 0).take 1)) 0 (List.replicate 17 0))) r6Mod_hs mixed (by kernel_rfl) rfl trivial ?_
  refine go_block (r6Mod_0_L a (qDig ++ (((List.replicate 1 0).set 0 0).take 1)) (List.replicate 17 0) (by omega) (by omega)) ?_
  exact go_fin (cuts := r6Mod_cuts) (n := 100000) (ch := []) (C := true) (L := []) r6Mod_hs mixed (by kernel_rfl) rfl trivial
theorem r6Mod_ok : SumOk Try.prog 109 r6Mod_S := by
  refine fun_g (fn := Try.f109) (by kernel_rfl) (by kernel_rfl) (by kernel_rfl) (Nat.le_of_ble_eq_true rfl) (by kernel_rfl) fun bs v l hw hR => ?_
  unfold r6Mod_P at hw
  obtain ⟨_, _, rfl, h0, w0⟩ := wf_cons hw
  obtain ⟨a, rfl, q0, q0_, g0⟩ := wf_sl h0
  obtain rfl := wf_nil w0
  obtain ⟨_, rfl, rfl⟩ := ret_inj hR
  exact ⟨by kernel_rfl, r6Mod_run a ⟨q0, q0_⟩ g0⟩
end Go.Bx.W

namespace Go.Bx.W
open Go.Proofs
set_option maxRecDepth 100000

/-! bastille/bastilleref04.Digits -/
noncomputable def r4Digits_B : Code := bodyOf Try.f65
noncomputable def r4Digits_sg : List (Nat × Sum) := []
theorem r4Digits_hs : ∀ f s, lk? r4Digits_sg f = some s → SumOk Try.prog f s := no_sums
theorem r4Digits_0_r (b : List Nat) (t0 : Nat) (v0 : List Nat) (_ : b.length = 32) (_ : t0 < 16) : Runs Try.prog 24 0 (inner (inner (seqB (seqA (seqB (seqB r4Digits_B)))))) (r4Digits_0R b t0 v0) (KE .normal (r4Digits_0H b (t0 + 1) (r4Digits_0s b t0 v0))) := by
  have e0 : (((2 * t0) + 2) : Nat) = ((2 * (t0 + 1)) : Nat) := by omega
  have h : Runs Try.prog 24 0 (inner (inner (seqB (seqA (seqB (seqB r4Digits_B)))))) (r4Digits_0R b t0 v0) (KE .normal ⟨[(1, .ptr 0 0), (3, .slice 1 0 1 (t0 + 1) 0 16 none), (4, .nat .i64 ((2 * t0) + 2) 0 32)], [(0, ⟨false, [.nats .u8 255 32 b]⟩), (1, ⟨false, [.nats .i64 65535 (t0 + 1) (r4Digits_0s b t0 v0)]⟩)], 2, [], []⟩) := by
    refine runs_go ?_
    exact go_end (cuts := r4Digits_cuts) (n := 100000) (ch := []) (E := []) (C := ((((Nat.blt (2 * t0) 32) && true) && (((Nat.blt ((2 * t0) + 1) 32) && true) && (((((Nat.beq (0 + t0) t0) && true) && true) && true) && true))) && true)) (L := []) r4Digits_hs mixed (by kernel_rfl) (and_t (and_t (and_t (blt_t (by omega)) rfl) (and_t (and_t (blt_t (by omega)) rfl) (and_t (and_t (and_t (and_t (beq_t (by omega)) rfl) rfl) rfl) rfl))) rfl) trivial
  rw [e0] at h
  exact h
theorem r4Digits_0_e (b : List Nat) (v0 : List Nat) (_ : b.length = 32) : Runs Try.prog 24 0 (inner (inner (seqB (seqA (seqB (seqB r4Digits_B)))))) (r4Digits_0E b v0) (KE (.exit 0) (r4Digits_0X v0)) := by
  refine runs_go ?_
  exact go_end (cuts := r4Digits_cuts) (n := 100000) (ch := []) (E := []) (C := true) (L := []) r4Digits_hs mixed (by kernel_rfl) rfl trivial
theorem r4Digits_0_L (b : List Nat) (v0 : List Nat) (c0 : b.length = 32) : Runs Try.prog 24 0 (seqB (seqA (seqB (seqB r4Digits_B)))) (r4Digits_0H b 0 v0) (KE .normal (r4Digits_0X (r4Digits_0l b v0 16))) := by
  refine block_exit (loop_up (S := fun t => r4Digits_0H b t (r4Digits_0l b v0 t)) (N := 16) (fun t ht => Runs.wid ?_ (r4Digits_0_r b t (r4Digits_0l b v0 t) c0 ht)) (Runs.wid ?_ (r4Digits_0_e b (r4Digits_0l b v0 16) c0)) (by simp) 0 (Nat.zero_le _))
  · exact SlF.wid (SlF.cons (Fit.refl _) (SlF.cons (fit_slice (by omega) (by omega)) (SlF.cons (fit_nat (by omega) (by omega)) (SlF.refl _))))
  · exact SlF.wid (SlF.cons (Fit.refl _) (SlF.cons (fit_slice (by omega) (by omega)) (SlF.cons (fit_nat (by omega) (by omega)) (SlF.refl _))))
theorem r4Digits_run (b : List Nat) (_h_b : b.length = 32) (_g_b : ∀ x ∈ b, x ≤ 255) : RunF Try.prog Try.f65 0 [.nats .u8 255 32 b] [] (KF (.slice 0 0 1 16 16 16 none) [(0, [.nats .i64 65535 16 (r4Digits_v1 b)])]) := by
  refine runF_go (by kernel_rfl) ?_
  refine go_x (cuts := r4Digits_cuts) (n := 100000) (ch := []) (E := [1]) (C := true) (L := []) (c' := seqB (seqA (seqB (seqB r4Digits_B)))) (K' := [.seq (seqB (seqB (seqB r4Digits_B)))]) (S := (r4Digits_0H b 0 [])) r4Digits_hs mixed (by kernel_rfl) rfl trivial ?_
  refine go_block (r4Digits_0_L b [] (by omega)) ?_
  exact go_fin (cuts := r4Digits_cuts) (n := 100000) (ch := []) (C := true) (L := []) r4Digits_hs mixed (by kernel_rfl) rfl trivial
theorem r4Digits_ok : SumOk Try.prog 65 r4Digits_S := by
  refine fun_g (fn := Try.f65) (by kernel_rfl) (by kernel_rfl) (by kernel_rfl) (Nat.le_of_ble_eq_true rfl) (by kernel_rfl) fun bs v l hw hR => ?_
  unfold r4Digits_P at hw
  obtain ⟨_, _, rfl, h0, w0⟩ := wf_cons hw
  obtain ⟨b, rfl, q0, g0⟩ := wf_arr h0
  obtain rfl := wf_nil w0
  obtain ⟨_, rfl, rfl⟩ := ret_inj hR
  exact ⟨by kernel_rfl, r4Digits_run b q0 g0⟩

/-! bastille/bastilleref04.Bytes -/
noncomputable def r4Bytes_B : Code := bodyOf Try.f23
noncomputable def r4Bytes_sg : List (Nat × Sum) := []
theorem r4Bytes_hs : ∀ f s, lk? r4Bytes_sg f = some s → SumOk Try.prog f s := no_sums
theorem r4Bytes_0_r (a : List Nat) (a0 : List Nat) (t0 : Nat) (v0 : List Nat) (_ : 16 ≤ a.length ∧ a.length ≤ 16) (_ : t0 < 16) : Runs Try.prog 29 1 (inner (inner (seqB (seqA (seqB (seqB r4Bytes_B)))))) (r4Bytes_0R a a0 t0 v0) (KE .normal (r4Bytes_0H a a0 (t0 + 1) (r4Bytes_0s a t0 v0))) := by
  refine runs_go ?_
  exact go_end (cuts := r4Bytes_cuts) (n := 100000) (ch := []) (E := []) (C := ((((Nat.blt t0 16) && true) && ((((Nat.blt (2 * t0) 32) && true) && true) && true)) && ((((Nat.blt t0 16) && true) && ((((Nat.blt ((2 * t0) + 1) 32) && true) && true) && true)) && true))) (L := []) r4Bytes_hs mixed (by kernel_rfl) (and_t (and_t (and_t (blt_t (by omega)) rfl) (and_t (and_t (and_t (blt_t (by omega)) rfl) rfl) rfl)) (and_t (and_t (and_t (blt_t (by omega)) rfl) (and_t (and_t (and_t (blt_t (by omega)) rfl) rfl) rfl)) rfl)) trivial
theorem r4Bytes_0_e (a : List Nat) (a0 : List Nat) (v0 : List Nat) (_ : 16 ≤ a.length ∧ a.length ≤ 16) : Runs Try.prog 29 1 (inner (inner (seqB (seqA (seqB (seqB r4Bytes_B)))))) (r4Bytes_0E a a0 v0) (KE (.exit 0) (r4Bytes_0X a0 v0)) := by
  refine runs_go ?_
  exact go_end (cuts := r4Bytes_cuts) (n := 100000) (ch := []) (E := []) (C := true) (L := []) r4Bytes_hs mixed (by kernel_rfl) rfl trivial
theorem r4Bytes_0_L (a : List Nat) (a0 : List Nat) (v0 : List Nat) (c0 : 16 ≤ a.length ∧ a.length ≤ 16) : Runs Try.prog 29 1 (seqB (seqA (seqB (seqB r4Bytes_B)))) (r4Bytes_0H a a0 0 v0) (KE .normal (r4Bytes_0X a0 (r4Bytes_0l a v0 16))) := by
  refine block_exit (loop_up (S := fun t => r4Bytes_0H a a0 t (r4Bytes_0l a v0 t)) (N := 16) (fun t ht => Runs.wid ?_ (r4Bytes_0_r a a0 t (r4Bytes_0l a v0 t) c0 ht)) (Runs.wid ?_ (r4Bytes_0_e a a0 (r4Bytes_0l a v0 16) c0)) (by simp) 0 (Nat.zero_le _))
  · exact SlF.wid (SlF.cons (Fit.refl _) (SlF.cons (Fit.refl _) (SlF.cons (Fit.refl _) (SlF.cons (fit_nat (by omega) (by omega)) (SlF.refl _)))))
  · exact SlF.wid (SlF.cons (Fit.refl _) (SlF.cons (Fit.refl _) (SlF.cons (Fit.refl _) (SlF.cons (fit_nat (by omega) (by omega)) (SlF.refl _)))))
theorem r4Bytes_run (a : List Nat) (_h_a : 16 ≤ a.length ∧ a.length ≤ 16) (_g_a : ∀ x ∈ a, x ≤ 65535) : RunF Try.prog Try.f23 1 [.slice 0 0 1 16 16 16 none] [(0, ⟨true, [.nats .i64 65535 16 a]⟩)] (KF (.nats .u8 255 32 (r4Bytes_v1 a)) []) := by
  refine runF_go (by kernel_rfl) ?_
  refine go_x (cuts := r4Bytes_cuts) (n := 100000) (ch := []) (E := []) (C := true) (L := []) (c' := seqB (seqA (seqB (seqB r4Bytes_B)))) (K' := [.seq (seqB (seqB (seqB r4Bytes_B)))]) (S := (r4Bytes_0H a (List.replicate 32 0) 0 (List.replicate 32 0))) r4Bytes_hs mixed (by kernel_rfl) rfl trivial ?_
  refine go_block (r4Bytes_0_L a (List.replicate 32 0) (List.replicate 32 0) (by omega)) ?_
  exact go_fin (cuts := r4Bytes_cuts) (n := 100000) (ch := []) (C := true) (L := []) r4Bytes_hs mixed (by kernel_rfl) rfl trivial
theorem r4Bytes_ok : SumOk Try.prog 23 r4Bytes_S := by
  refine fun_g (fn := Try.f23) (by kernel_rfl) (by kernel_rfl) (by kernel_rfl) (Nat.le_of_ble_eq_true rfl) (by kernel_rfl) fun bs v l hw hR => ?_
  unfold r4Bytes_P at hw
  obtain ⟨_, _, rfl, h0, w0⟩ := wf_cons hw
  obtain ⟨a, rfl, q0, q0_, g0⟩ := wf_sl h0
  obtain rfl := wf_nil w0
  obtain ⟨_, rfl, rfl⟩ := ret_inj hR
  exact ⟨by kernel_rfl, r4Bytes_run a ⟨q0, q0_⟩ g0⟩

/-! bastille/bastilleref06.Of -/
noncomputable def r6Of_B : Code := bodyOf Try.f122
noncomputable def r6Of_sg : List (Nat × Sum) := [(23, r4Bytes_S), (109, r6Mod_S)]
theorem r6Of_hs : ∀ f s, lk? r6Of_sg f = some s → SumOk Try.prog f s := sums_cons r4Bytes_ok (sums_cons r6Mod_ok (no_sums))
theorem r6Of_0_r (b : List Nat) (a0 : List Nat) (t0 : Nat) (v0 : List Nat) (_ : 2 ≤ b.length ∧ b.length ≤ 64) (_ : t0 < (((b.length) + 1) / 2)) (_ : (((b.length) + 1) / 2) ≤ 32) : Runs Try.prog 38 1 (inner (inner (seqB (seqA (seqB (seqB r6Of_B)))))) (r6Of_0R b a0 t0 v0) (KE .normal (r6Of_0H b a0 (t0 + 1) (r6Of_0s b t0 v0))) := by
  have e0 : (((2 * t0) + 2) : Nat) = ((2 * (t0 + 1)) : Nat) := by omega
  have h : Runs Try.prog 38 1 (inner (inner (seqB (seqA (seqB (seqB r6Of_B)))))) (r6Of_0R b a0 t0 v0) (KE .normal ⟨[(0, .slice 0 0 1 (b.length) 2 64 none), (2, .ptr 1 0), (3, .slice 2 0 1 (t0 + 1) 0 32 none), (4, .nat .i64 ((2 * t0) + 2) 0 64)], [(0, ⟨true, [.nats .u8 255 (b.length) b]⟩), (1, ⟨false, [.nats .u8 0 32 a0]⟩), (2, ⟨false, [.nats .i64 65535 (t0 + 1) (r6Of_0s b t0 v0)]⟩)], 3, [], []⟩) := by
    refine runs_go ?_
    exact go_end (cuts := r6Of_cuts) (n := 100000) (ch := [.go true, .join]) (E := []) (C := ((((Nat.blt (2 * t0) (b.length)) && true) && (((Nat.blt (2 * t0) (b.length)) && true) && true)) && ((joinB (Nat.blt ((2 * t0) + 1) (b.length)) (((Nat.blt ((2 * t0) + 1) (b.length)) && true) && (((Nat.blt ((2 * t0) + 1) (b.length)) && true) && true)) true) && ((((((Nat.beq (0 + t0) t0) && true) && true) && true) && true) && true)))) (L := [(Nat.blt (2 * t0) (b.length))]) r6Of_hs mixed (by kernel_rfl) (and_t (and_t (and_t (blt_t (by omega)) rfl) (and_t (and_t (blt_t (by omega)) rfl) rfl)) (and_t (joinB_t (fun hj => (have := blt_lt hj; (and_t (and_t (blt_t (by omega)) rfl) (and_t (and_t (blt_t (by omega)) rfl) rfl)))) (fun hj => rfl)) (and_t (and_t (and_t (and_t (and_t (beq_t (by omega)) rfl) rfl) rfl) rfl) rfl))) ⟨(blt_t (by omega)), trivial⟩
  rw [e0] at h
  exact h
theorem r6Of_0_e (b : List Nat) (a0 : List Nat) (v0 : List Nat) (_ : 2 ≤ b.length ∧ b.length ≤ 64) (_ : (((b.length) + 1) / 2) ≤ 32) : Runs Try.prog 38 1 (inner (inner (seqB (seqA (seqB (seqB r6Of_B)))))) (r6Of_0E b a0 v0) (KE (.exit 0) (r6Of_0X b a0 v0)) := by
  refine runs_go ?_
  exact go_end (cuts := r6Of_cuts) (n := 100000) (ch := [.go false]) (E := []) (C := true) (L := [(!(Nat.blt (2 * (((b.length) + 1) / 2)) (b.length)))]) r6Of_hs mixed (by kernel_rfl) rfl ⟨(blt_f (by omega)), trivial⟩
theorem r6Of_0_L (b : List Nat) (a0 : List Nat) (v0 : List Nat) (c0 : 2 ≤ b.length ∧ b.length ≤ 64) (hR : (((b.length) + 1) / 2) ≤ 32) : Runs Try.prog 38 1 (seqB (seqA (seqB (seqB r6Of_B)))) (r6Of_0H b a0 0 v0) (KE .normal (r6Of_0X b a0 (r6Of_0l b v0 (((b.length) + 1) / 2)))) := by
  refine block_exit (loop_up (S := fun t => r6Of_0H b a0 t (r6Of_0l b v0 t)) (N := (((b.length) + 1) / 2)) (fun t ht => Runs.wid ?_ (r6Of_0_r b a0 t (r6Of_0l b v0 t) c0 ht hR)) (Runs.wid ?_ (r6Of_0_e b a0 (r6Of_0l b v0 (((b.length) + 1) / 2)) c0 hR)) (by simp) 0 (Nat.zero_le _))
  · exact SlF.wid (SlF.cons (Fit.refl _) (SlF.cons (Fit.refl _) (SlF.cons (fit_slice (by omega) (by omega)) (SlF.cons (fit_nat (by omega) (by omega)) (SlF.refl _)))))
  · exact SlF.wid (SlF.cons (Fit.refl _) (SlF.cons (Fit.refl _) (SlF.cons (fit_slice (by omega) (by omega)) (SlF.cons (Fit.refl _) (SlF.refl _)))))
theorem r6Of_run (b : List Nat) (_h_b : 2 ≤ b.length ∧ b.length ≤ 64) (_g_b : ∀ x ∈ b, x ≤ 255) : RunF Try.prog Try.f122 1 [.slice 0 0 1 (b.length) 2 64 none] [(0, ⟨true, [.nats .u8 255 (b.length) b]⟩)] (KF (.nats .u8 255 32 (r6Of_v2 b)) []) := by
  refine runF_go (by kernel_rfl) ?_
  refine go_x (cuts := r6Of_cuts) (n := 100000) (ch := []) (E := [2]) (C := true) (L := []) (c' := seqB (seqA (seqB (seqB r6Of_B)))) (K' := [.seq (seqB (seqB (seqB r6Of_B)))]) (S := (r6Of_0H b (List.replicate 32 0) 0 [])) r6Of_hs mixed (by kernel_rfl) rfl trivial ?_
  refine go_block (r6Of_0_L b (List.replicate 32 0) [] (by omega) (by omega)) ?_
  exact go_fin (cuts := r6Of_cuts) (n := 100000) (ch := []) (C := (((((((Nat.ble (0 + (((b.length) + 1) / 2)) (((b.length) + 1) / 2)) && true) && true) && true) && true) && true) && true)) (L := []) r6Of_hs mixed (by kernel_rfl) (and_t (and_t (and_t (and_t (and_t (and_t (ble_t (by omega)) rfl) rfl) rfl) rfl) rfl) rfl) trivial
theorem r6Of_ok : SumOk Try.prog 122 r6Of_S := by
  refine fun_g (fn := Try.f122) (by kernel_rfl) (by kernel_rfl) (by kernel_rfl) (Nat.le_of_ble_eq_true rfl) (by kernel_rfl) fun bs v l hw hR => ?_
  unfold r6Of_P at hw
  obtain ⟨_, _, rfl, h0, w0⟩ := wf_cons hw
  obtain ⟨b, rfl, q0, q0_, g0⟩ := wf_sl h0
  obtain rfl := wf_nil w0
  obtain ⟨_, rfl, rfl⟩ := ret_inj hR
  exact ⟨by kernel_rfl, r6Of_run b ⟨q0, q0_⟩ g0⟩

/-! bastille/bastilleref06.Add -/
noncomputable def r6Add_B : Code := bodyOf Try.f71
noncomputable def r6Add_sg : List (Nat × Sum) := [(23, r4Bytes_S), (65, r4Digits_S), (109, r6Mod_S)]
theorem r6Add_hs : ∀ f s, lk? r6Add_sg f = some s → SumOk Try.prog f s := sums_cons r4Bytes_ok (sums_cons r4Digits_ok (sums_cons r6Mod_ok (no_sums)))
theorem r6Add_0_r (a0 : List Nat) (a1 : List Nat) (a2 : List Nat) (t0 : Nat) (v0 : Nat × List Nat) (_ : t0 < 16) : Runs Try.prog 43 0 (inner (inner (seqB (seqA (seqB (seqB (seqB (seqB (seqB r6Add_B))))))))) (r6Add_0R a0 a1 a2 t0 v0) (KE .normal (r6Add_0H a0 a1 a2 (t0 + 1) (r6Add_0s a1 a2 t0 v0))) := by
  refine runs_go ?_
  exact go_end (cuts := r6Add_cuts) (n := 100000) (ch := []) (E := []) (C := ((((Nat.blt t0 16) && true) && (((Nat.blt t0 16) && true) && true)) && ((((((Nat.beq (0 + t0) t0) && true) && true) && true) && true) && true))) (L := []) r6Add_hs mixed (by kernel_rfl) (and_t (and_t (and_t (blt_t (by omega)) rfl) (and_t (and_t (blt_t (by omega)) rfl) rfl)) (and_t (and_t (and_t (and_t (and_t (beq_t (by omega)) rfl) rfl) rfl) rfl) rfl)) trivial
theorem r6Add_0_e (a0 : List Nat) (a1 : List Nat) (a2 : List Nat) (v0 : Nat × List Nat) : Runs Try.prog 43 0 (inner (inner (seqB (seqA (seqB (seqB (seqB (seqB (seqB r6Add_B))))))))) (r6Add_0E a0 a1 a2 v0) (KE (.exit 0) (r6Add_0X a0 v0)) := by
  refine runs_go ?_
  exact go_end (cuts := r6Add_cuts) (n := 100000) (ch := []) (E := []) (C := true) (L := []) r6Add_hs mixed (by kernel_rfl) rfl trivial
theorem r6Add_0_L (a0 : List Nat) (a1 : List Nat) (a2 : List Nat) (v0 : Nat × List Nat) : Runs Try.prog 43 0 (seqB (seqA (seqB (seqB (seqB (seqB (seqB r6Add_B))))))) (r6Add_0H a0 a1 a2 0 v0) (KE .normal (r6Add_0X a0 (r6Add_0l a1 a2 v0 16))) := by
  refine block_exit (loop_up (S := fun t => r6Add_0H a0 a1 a2 t (r6Add_0l a1 a2 v0 t)) (N := 16) (fun t ht => Runs.wid ?_ (r6Add_0_r a0 a1 a2 t (r6Add_0l a1 a2 v0 t) ht)) (Runs.wid ?_ (r6Add_0_e a0 a1 a2 (r6Add_0l a1 a2 v0 16))) (by simp) 0 (Nat.zero_le _))
  · exact SlF.wid (SlF.cons (Fit.refl _) (SlF.cons (Fit.refl _) (SlF.cons (Fit.refl _) (SlF.cons (fit_slice (by omega) (by omega)) (SlF.cons (Fit.refl _) (SlF.cons (fit_nat (by omega) (by omega)) (SlF.refl _)))))))
  · exact SlF.wid (SlF.cons (Fit.refl _) (SlF.cons (Fit.refl _) (SlF.cons (Fit.refl _) (SlF.cons (fit_slice (by omega) (by omega)) (SlF.cons (Fit.refl _) (SlF.cons (fit_nat (by omega) (by omega)) (SlF.refl _)))))))
theorem r6Add_run (a : List Nat) (b : List Nat) (_h_a : a.length = 32) (_g_a : ∀ x ∈ a, x ≤ 255) (_h_b : b.length = 32) (_g_b : ∀ x ∈ b, x ≤ 255) : RunF Try.prog Try.f71 0 [.nats .u8 255 32 a, .nats .u8 255 32 b] [] (KF (.nats .u8 255 32 (r6Add_v1 a b)) []) := by
  refine runF_go (by kernel_rfl) ?_
  refine go_x (cuts := r6Add_cuts) (n := 100000) (ch := []) (E := [3]) (C := true) (L := []) (c' := seqB (seqA (seqB (seqB (seqB (seqB (seqB r6Add_B))))))) (K' := [.seq (seqB (seqB (seqB (seqB (seqB (seqB r6Add_B))))))]) (S := (r6Add_0H (List.replicate 32 0) (r4Digits_v1 a) (r4Digits_v1 b) 0 (0, []))) r6Add_hs mixed (by kernel_rfl) rfl trivial ?_
  refine go_block (r6Add_0_L (List.replicate 32 0) (r4Digits_v1 a) (r4Digits_v1 b) (0, [])) ?_
  exact go_fin (cuts := r6Add_cuts) (n := 100000) (ch := []) (C := true) (L := []) r6Add_hs mixed (by kernel_rfl) rfl trivial
theorem r6Add_ok : SumOk Try.prog 71 r6Add_S := by
  refine fun_g (fn := Try.f71) (by kernel_rfl) (by kernel_rfl) (by kernel_rfl) (Nat.le_of_ble_eq_true rfl) (by kernel_rfl) fun bs v l hw hR => ?_
  unfold r6Add_P at hw
  obtain ⟨_, _, rfl, h0, w0⟩ := wf_cons hw
  obtain ⟨a, rfl, q0, g0⟩ := wf_arr h0
  obtain ⟨_, _, rfl, h1, w1⟩ := wf_cons w0
  obtain ⟨b, rfl, q1, g1⟩ := wf_arr h1
  obtain rfl := wf_nil w1
  obtain ⟨_, rfl, rfl⟩ := ret_inj hR
  exact ⟨by kernel_rfl, r6Add_run a b q0 g0 q1 g1⟩

/-! bastille/bastilleref06.Mul -/
noncomputable def r6Mul_B : Code := bodyOf Try.f72
noncomputable def r6Mul_sg : List (Nat × Sum) := [(23, r4Bytes_S), (65, r4Digits_S), (109, r6Mod_S)]
theorem r6Mul_hs : ∀ f s, lk? r6Mul_sg f = some s → SumOk Try.prog f s := sums_cons r4Bytes_ok (sums_cons r4Digits_ok (sums_cons r6Mod_ok (no_sums)))
theorem r6Mul_2_r (t0 : Nat) (a0 : List Nat) (a1 : List Nat) (a2 : List Nat) (t1 : Nat) (v1 : Nat × List Nat) (_ : t0 < 16) (_ : t1 < 16) : Runs Try.prog 66 0 (inner (inner (seqB (seqA (seqB (inner (seqA (seqB (inner (inner (seqB (seqA (seqB (seqB (seqB (seqB r6Mul_B)))))))))))))))) (r6Mul_2R t0 a0 a1 a2 t1 v1) (KE .normal (r6Mul_2H t0 a0 a1 a2 (t1 + 1) (r6Mul_2s t0 a1 a2 t1 v1))) := by
  refine runs_go ?_
  exact go_end (cuts := r6Mul_cuts) (n := 100000) (ch := []) (E := []) (C := ((((Nat.blt (t0 + t1) 32) && true) && (((Nat.blt t0 16) && true) && (((Nat.blt t1 16) && true) && true))) && (((((Nat.blt (t0 + t1) 32) && true) && true) && true) && true))) (L := []) r6Mul_hs mixed (by kernel_rfl) (and_t (and_t (and_t (blt_t (by omega)) rfl) (and_t (and_t (blt_t (by omega)) rfl) (and_t (and_t (blt_t (by omega)) rfl) rfl))) (and_t (and_t (and_t (and_t (blt_t (by omega)) rfl) rfl) rfl) rfl)) trivial
theorem r6Mul_2_e (t0 : Nat) (a0 : List Nat) (a1 : List Nat) (a2 : List Nat) (v1 : Nat × List Nat) (_ : t0 < 16) : Runs Try.prog 66 0 (inner (inner (seqB (seqA (seqB (inner (seqA (seqB (inner (inner (seqB (seqA (seqB (seqB (seqB (seqB r6Mul_B)))))))))))))))) (r6Mul_2E t0 a0 a1 a2 v1) (KE (.exit 2) (r6Mul_2X t0 a0 a1 a2 v1)) := by
  refine runs_go ?_
  exact go_end (cuts := r6Mul_cuts) (n := 100000) (ch := []) (E := []) (C := true) (L := []) r6Mul_hs mixed (by kernel_rfl) rfl trivial
theorem r6Mul_2_L (t0 : Nat) (a0 : List Nat) (a1 : List Nat) (a2 : List Nat) (v0 : Nat × List Nat) (c0 : t0 < 16) : Runs Try.prog 66 0 (seqB (seqA (seqB (inner (seqA (seqB (inner (inner (seqB (seqA (seqB (seqB (seqB (seqB r6Mul_B)))))))))))))) (r6Mul_2H t0 a0 a1 a2 0 v0) (KE .normal (r6Mul_2X t0 a0 a1 a2 (r6Mul_2l t0 a1 a2 v0 16))) := by
  refine block_exit (loop_up (S := fun t => r6Mul_2H t0 a0 a1 a2 t (r6Mul_2l t0 a1 a2 v0 t)) (N := 16) (fun t ht => Runs.wid ?_ (r6Mul_2_r t0 a0 a1 a2 t (r6Mul_2l t0 a1 a2 v0 t) c0 ht)) (Runs.wid ?_ (r6Mul_2_e t0 a0 a1 a2 (r6Mul_2l t0 a1 a2 v0 16) c0)) (by simp) 0 (Nat.zero_le _))
  · exact SlF.wid (SlF.cons (Fit.refl _) (SlF.cons (Fit.refl _) (SlF.cons (Fit.refl _) (SlF.cons (Fit.refl _) (SlF.cons (Fit.refl _) (SlF.cons (Fit.refl _) (SlF.cons (fit_nat (by omega) (by omega)) (SlF.refl _))))))))
  · exact SlF.wid (SlF.cons (Fit.refl _) (SlF.cons (Fit.refl _) (SlF.cons (Fit.refl _) (SlF.cons (Fit.refl _) (SlF.cons (Fit.refl _) (SlF.cons (Fit.refl _) (SlF.cons (fit_nat (by omega) (by omega)) (SlF.refl _))))))))
theorem r6Mul_0_r (a0 : List Nat) (a1 : List Nat) (a2 : List Nat) (t0 : Nat) (v0 : List Nat) (_ : t0 < 16) : Runs Try.prog 66 0 (inner (inner (seqB (seqA (seqB (seqB (seqB (seqB r6Mul_B)))))))) (r6Mul_0R a0 a1 a2 t0 v0) (KE .normal ⟨[(4, .ptr 0 0), (5, .slice 1 0 1 16 16 16 none), (6, .slice 2 0 1 16 16 16 none), (7, .slice 3 0 1 32 32 32 none), (8, .nat .i64 (t0 + 1) 0 16)], [(0, ⟨false, [.nats .u8 0 32 a0]⟩), (1, ⟨false, [.nats .i64 65535 16 a1]⟩), (2, ⟨false, [.nats .i64 65535 16 a2]⟩), (3, ⟨false, [.nats .i64 131070 32 (r6Mul_0s a1 a2 t0 v0)]⟩)], 4, [], []⟩) := by
  refine runs_go ?_
  refine go_x (cuts := r6Mul_cuts) (n := 100000) (ch := []) (E := []) (C := true) (L := []) (c' := seqB (seqA (seqB (inner (seqA (seqB (inner (inner (seqB (seqA (seqB (seqB (seqB (seqB r6Mul_B)))))))))))))) (K' := [.seq (seqB (seqB (inner (seqA (seqB (inner (inner (seqB (seqA (seqB (seqB (seqB (seqB r6Mul_B))))))))))))), .block 1, .seq (seqB (seqB (inner (inner (seqB (seqA (seqB (seqB (seqB (seqB r6Mul_B))))))))))]) (S := (r6Mul_2H t0 a0 a1 a2 0 (0, v0))) r6Mul_hs mixed (by kernel_rfl) rfl trivial ?_
  refine go_block (r6Mul_2_L t0 a0 a1 a2 (0, v0) (by omega)) ?_
  exact go_end (cuts := r6Mul_cuts) (n := 100000) (ch := []) (E := []) (C := ((((Nat.blt (t0 + 16) 32) && true) && ((((Nat.blt (t0 + 16) 32) && true) && true) && true)) && true)) (L := []) r6Mul_hs mixed (by kernel_rfl) (and_t (and_t (and_t (blt_t (by omega)) rfl) (and_t (and_t (and_t (blt_t (by omega)) rfl) rfl) rfl)) rfl) trivial
theorem r6Mul_0_e (a0 : List Nat) (a1 : List Nat) (a2 : List Nat) (v0 : List Nat) : Runs Try.prog 66 0 (inner (inner (seqB (seqA (seqB (seqB (seqB (seqB r6Mul_B)))))))) (r6Mul_0E a0 a1 a2 v0) (KE (.exit 0) (r6Mul_0X a0 v0)) := by
  refine runs_go ?_
  exact go_end (cuts := r6Mul_cuts) (n := 100000) (ch := []) (E := []) (C := true) (L := []) r6Mul_hs mixed (by kernel_rfl) rfl trivial
theorem r6Mul_0_L (a0 : List Nat) (a1 : List Nat) (a2 : List Nat) (v0 : List Nat) (hp : MulPre a1 a2 v0) : Runs Try.prog 66 0 (seqB (seqA (seqB (seqB (seqB (seqB r6Mul_B)))))) (r6Mul_0H a0 a1 a2 0 v0) (KE .normal (r6Mul_0X a0 (r6Mul_0l a1 a2 v0 16))) := by
  refine block_exit (loop_up (S := fun t => r6Mul_0H a0 a1 a2 t (r6Mul_0l a1 a2 v0 t)) (N := 16) (fun t ht => runs_wid_out (Runs.wid ?_ (r6Mul_0_r a0 a1 a2 t (r6Mul_0l a1 a2 v0 t) ht)) (wid_both (SlF.refl _) ?_)) (Runs.wid ?_ (r6Mul_0_e a0 a1 a2 (r6Mul_0l a1 a2 v0 16))) (by simp) 0 (Nat.zero_le _))
  · exact SlF.wid (SlF.cons (Fit.refl _) (SlF.cons (Fit.refl _) (SlF.cons (Fit.refl _) (SlF.cons (Fit.refl _) (SlF.cons (fit_nat (by omega) (by omega)) (SlF.refl _))))))
  · exact HpF.cons (FitL.refl _) (HpF.cons (FitL.refl _) (HpF.cons (FitL.refl _) (HpF.cons (fitL_hi rfl (r6Mul_le hp (by omega))) (HpF.refl _))))
  · exact SlF.wid (SlF.cons (Fit.refl _) (SlF.cons (Fit.refl _) (SlF.cons (Fit.refl _) (SlF.cons (Fit.refl _) (SlF.cons (fit_nat (by omega) (by omega)) (SlF.refl _))))))
theorem r6Mul_run (a : List Nat) (b : List Nat) (_h_a : a.length = 32) (_g_a : ∀ x ∈ a, x ≤ 255) (_h_b : b.length = 32) (_g_b : ∀ x ∈ b, x ≤ 255) : RunF Try.prog Try.f72 0 [.nats .u8 255 32 a, .nats .u8 255 32 b] [] (KF (.nats .u8 255 32 (r6Mul_v2 a b)) []) := by
  refine runF_go (by kernel_rfl) ?_
  refine go_x (cuts := r6Mul_cuts) (n := 100000) (ch := []) (E := []) (C := true) (L := []) (c' := seqB (seqA (seqB (seqB (seqB (seqB r6Mul_B)))))) (K' := [.seq (seqB (seqB (seqB (seqB (seqB r6Mul_B)))))]) (S := (r6Mul_0H (List.replicate 32 0) (r4Digits_v1 a) (r4Digits_v1 b) 0 (List.replicate 32 0))) r6Mul_hs mixed (by kernel_rfl) rfl trivial ?_
  refine go_block (r6Mul_0_L (List.replicate 32 0) (r4Digits_v1 a) (r4Digits_v1 b) (List.replicate 32 0) ⟨r4Digits_le _g_a, r4Digits_le _g_b, rfl⟩) ?_
  exact go_fin (cuts := r6Mul_cuts) (n := 100000) (ch := []) (C := true) (L := []) r6Mul_hs mixed (by kernel_rfl) rfl trivial
theorem r6Mul_ok : SumOk Try.prog 72 r6Mul_S := by
  refine fun_g (fn := Try.f72) (by kernel_rfl) (by kernel_rfl) (by kernel_rfl) (Nat.le_of_ble_eq_true rfl) (by kernel_rfl) fun bs v l hw hR => ?_
  unfold r6Mul_P at hw
  obtain ⟨_, _, rfl, h0, w0⟩ := wf_cons hw
  obtain ⟨a, rfl, q0, g0⟩ := wf_arr h0
  obtain ⟨_, _, rfl, h1, w1⟩ := wf_cons w0
  obtain ⟨b, rfl, q1, g1⟩ := wf_arr h1
  obtain rfl := wf_nil w1
  obtain ⟨_, rfl, rfl⟩ := ret_inj hR
  exact ⟨by kernel_rfl, r6Mul_run a b q0 g0 q1 g1⟩
end Go.Bx.W
