/-
  The laws of the field, on elements.
-/
import Derived.Test.YtjgegdipellpbaaFeD
/-
  Plain number theory: Fermat's little theorem, and Pocklington's test for primes.
-/
namespace BC

/-- A prime number. -/
def IsPrime (n : Nat) : Prop := 2 ≤ n ∧ ∀ m, m ∣ n → m = 1 ∨ m = n

theorem IsPrime.coprime_of_not_dvd {p a : Nat} (hp : IsPrime p) (h : ¬ p ∣ a) : Nat.Coprime p a := by
  rcases hp.2 (Nat.gcd p a) (Nat.gcd_dvd_left p a) with h1 | h1
  · exact h1
  · exact absurd (h1 ▸ Nat.gcd_dvd_right p a) h

theorem IsPrime.dvd_mul {p a b : Nat} (hp : IsPrime p) (h : p ∣ a * b) : p ∣ a ∨ p ∣ b := by
  by_cases ha : p ∣ a
  · exact .inl ha
  · exact .inr ((hp.coprime_of_not_dvd ha).dvd_of_dvd_mul_left h)

/-- Every number from 2 on has a prime divisor. -/
theorem exists_prime_dvd (n : Nat) (h : 2 ≤ n) : ∃ r, IsPrime r ∧ r ∣ n := by
  induction n using Nat.strongRecOn with
  | _ n ih =>
    by_cases hp : ∀ m, m ∣ n → m = 1 ∨ m = n
    · exact ⟨n, ⟨h, hp⟩, Nat.dvd_refl n⟩
    · obtain ⟨m, hm⟩ := Classical.not_forall.1 hp
      have hd : m ∣ n := Classical.byContradiction fun hd => hm fun h' => absurd h' hd
      have hne : ¬ (m = 1 ∨ m = n) := fun h' => hm fun _ => h'
      have hle := Nat.le_of_dvd (by omega) hd
      have h0 : m ≠ 0 := by rintro rfl; have := Nat.eq_zero_of_zero_dvd hd; omega
      obtain ⟨r, hr, hrm⟩ := ih m (by omega) (by omega)
      exact ⟨r, hr, Nat.dvd_trans hrm hd⟩

/-- Binomial coefficients. -/
def choose : Nat → Nat → Nat
  | _, 0 => 1
  | 0, _ + 1 => 0
  | n + 1, k + 1 => choose n k + choose n (k + 1)

theorem choose_zero_right (n : Nat) : choose n 0 = 1 := by cases n <;> rfl

theorem choose_succ_succ (n k : Nat) : choose (n + 1) (k + 1) = choose n k + choose n (k + 1) := rfl

theorem choose_eq_zero (n : Nat) : ∀ k, n < k → choose n k = 0 := by
  induction n with
  | zero => intro k hk; cases k with
    | zero => omega
    | succ k => rfl
  | succ n ih => intro k hk; cases k with
    | zero => omega
    | succ k => rw [choose_succ_succ, ih k (by omega), ih (k + 1) (by omega)]

theorem choose_self (n : Nat) : choose n n = 1 := by
  induction n with
  | zero => rfl
  | succ n ih => rw [choose_succ_succ, ih, choose_eq_zero n (n + 1) (by omega)]

theorem succ_mul_choose (n : Nat) : ∀ k, (n + 1) * choose n k = choose (n + 1) (k + 1) * (k + 1) := by
  induction n with
  | zero => intro k; cases k with
    | zero => rfl
    | succ k => simp [choose]
  | succ n ih => intro k; cases k with
    | zero =>
      have := ih 0
      simp only [choose_zero_right] at this ⊢
      rw [choose_succ_succ (n + 1) 0, choose_zero_right]
      simp only [Nat.zero_add, Nat.mul_one] at *
      omega
    | succ k =>
      have h1 := ih k
      have h2 := ih (k + 1)
      rw [choose_succ_succ (n + 1) (k + 1)]
      generalize h3 : choose (n + 1) (k + 1) = x at *
      generalize h4 : choose (n + 1) (k + 1 + 1) = y at *
      have h5 : x = choose n k + choose n (k + 1) := by rw [← h3, choose_succ_succ]
      have e1 : (n + 1 + 1) * x = (n + 1) * x + x := by rw [Nat.succ_mul]
      have e2 : (n + 1) * x = (n + 1) * choose n k + (n + 1) * choose n (k + 1) := by rw [h5, Nat.mul_add]
      have e3 : (x + y) * (k + 1 + 1) = x * (k + 1) + x + y * (k + 1 + 1) := by
        rw [Nat.add_mul]; congr 1
      omega

/-- The first terms of the binomial formula. -/
def part (n x : Nat) : Nat → Nat
  | 0 => 0
  | k + 1 => part n x k + choose n k * x ^ k

theorem part_succ (n x : Nat) : ∀ k, part (n + 1) x (k + 1) = part n x (k + 1) + x * part n x k := by
  intro k
  induction k with
  | zero => simp [part, choose_zero_right]
  | succ k ih =>
    rw [part, ih, part, part, choose_succ_succ, Nat.pow_succ, Nat.mul_add, Nat.add_mul]
    have : x * (choose n k * x ^ k) = choose n k * (x ^ k * x) := by
      rw [Nat.mul_comm x, Nat.mul_assoc]
    rw [this, part]
    omega

theorem part_all (n x : Nat) : part n x (n + 1) = (x + 1) ^ n := by
  induction n with
  | zero => simp [part, choose]
  | succ n ih =>
    have h : part n x (n + 1 + 1) = part n x (n + 1) := by
      rw [part, choose_eq_zero n (n + 1) (by omega), Nat.zero_mul, Nat.add_zero]
    rw [part_succ, h, ih, Nat.pow_succ, Nat.mul_add, Nat.mul_one, Nat.mul_comm x]
    omega

theorem dvd_choose {p : Nat} (hp : IsPrime p) (k : Nat) (h0 : 0 < k) (h : k < p) : p ∣ choose p k := by
  obtain ⟨q, rfl⟩ : ∃ q, p = q + 1 := ⟨p - 1, by have := hp.1; omega⟩
  obtain ⟨j, rfl⟩ : ∃ j, k = j + 1 := ⟨k - 1, by omega⟩
  have hd : (q + 1) ∣ choose (q + 1) (j + 1) * (j + 1) := ⟨choose q j, (succ_mul_choose q j).symm⟩
  rcases hp.dvd_mul hd with h1 | h1
  · exact h1
  · have := Nat.le_of_dvd (by omega) h1; omega

theorem part_mod {p : Nat} (hp : IsPrime p) (x : Nat) : ∀ k, 0 < k → k ≤ p → part p x k % p = 1 % p := by
  intro k
  induction k with
  | zero => intro h; omega
  | succ k ih =>
    intro _ hk
    rw [part]
    cases k with
    | zero => simp [part, choose_zero_right]
    | succ k =>
      obtain ⟨c, hc⟩ := dvd_choose hp (k + 1) (by omega) (by omega)
      rw [hc, Nat.mul_assoc, Nat.add_mul_mod_self_left]
      exact ih (by omega) (by omega)

/-- Fermat's little theorem. -/
theorem fermat {p : Nat} (hp : IsPrime p) (x : Nat) : x ^ p % p = x % p := by
  induction x with
  | zero =>
    obtain ⟨q, rfl⟩ : ∃ q, p = q + 1 := ⟨p - 1, by have := hp.1; omega⟩
    simp [Nat.pow_succ]
  | succ x ih =>
    rw [← part_all p x, part, choose_self, Nat.one_mul, Nat.add_mod, part_mod hp x p (by have := hp.1; omega) (Nat.le_refl p), ih,
      ← Nat.add_mod, Nat.add_comm]

theorem fermat_one {p : Nat} (hp : IsPrime p) {x : Nat} (hx : ¬ p ∣ x) : x ^ (p - 1) % p = 1 := by
  obtain ⟨q, rfl⟩ : ∃ q, p = q + 1 := ⟨p - 1, by have := hp.1; omega⟩
  have h2 := hp.1
  have hf := fermat hp x
  simp only [Nat.add_sub_cancel]
  rw [Nat.pow_succ] at hf
  have hpos : 1 ≤ x ^ q := Nat.one_le_iff_ne_zero.2 fun h => by
    have := Nat.pow_eq_zero.1 h
    exact hx (this.1 ▸ Nat.dvd_zero _)
  have hd : (q + 1) ∣ x * (x ^ q - 1) := by
    rw [Nat.mul_sub, Nat.mul_one, Nat.mul_comm]
    exact Nat.dvd_of_mod_eq_zero (Nat.sub_mod_eq_zero_of_mod_eq hf)
  have := (hp.dvd_mul hd).resolve_left hx
  obtain ⟨c, hc⟩ := this
  have : x ^ q = (q + 1) * c + 1 := by omega
  rw [this, Nat.mul_add_mod]
  exact Nat.mod_eq_of_lt (by omega)

theorem pow_gcd {r a : Nat} : ∀ m n, a ^ m % r = 1 % r → a ^ n % r = 1 % r → a ^ Nat.gcd m n % r = 1 % r := by
  intro m
  induction m using Nat.strongRecOn with
  | _ m ih =>
    intro n hm hn
    by_cases h0 : m = 0
    · subst h0; rw [Nat.gcd_zero_left]; exact hn
    · rw [Nat.gcd_rec]
      refine ih (n % m) (Nat.mod_lt _ (by omega)) m ?_ hm
      have h1 : a ^ n = (a ^ m) ^ (n / m) * a ^ (n % m) := by
        rw [← Nat.pow_mul, ← Nat.pow_add, Nat.div_add_mod]
      rw [h1, Nat.mul_mod, Nat.pow_mod, hm] at hn
      rw [← Nat.pow_mod, Nat.one_pow, ← Nat.mul_mod, Nat.one_mul] at hn
      exact hn

/-- The heart of Pocklington's test: each prime divisor of `n` is 1 modulo `q`. -/
theorem pock_key {n q R a : Nat} (h2 : 2 ≤ n) (hn : n = q * R + 1) (hq : IsPrime q)
    (h1 : a ^ (n - 1) % n = 1) (hc : Nat.Coprime (a ^ R % n + (n - 1)) n) : ∀ r, IsPrime r → r ∣ n → q ∣ r - 1 := by
  intro r hr hrn
  have hr2 := hr.1
  have hra : ¬ r ∣ a := by
    intro hd
    have h3 : r ∣ a ^ (n - 1) := by
      have : n - 1 = (n - 2) + 1 := by omega
      rw [this, Nat.pow_succ]
      exact Nat.dvd_trans hd (Nat.dvd_mul_left a _)
    have h4 : r ∣ a ^ (n - 1) % n := (Nat.dvd_mod_iff hrn).2 h3
    rw [h1] at h4
    have := Nat.le_of_dvd (by omega) h4
    omega
  have hf : a ^ (r - 1) % r = 1 % r := by rw [fermat_one hr hra, Nat.mod_eq_of_lt hr2]
  have hg : a ^ (n - 1) % r = 1 % r := by
    rw [← Nat.mod_mod_of_dvd (a ^ (n - 1)) hrn, h1]
  have hd := pow_gcd (r - 1) (n - 1) hf hg
  refine Classical.byContradiction fun hqr => ?_
  have hcop : Nat.Coprime q (r - 1) := hq.coprime_of_not_dvd hqr
  have hgR : Nat.gcd (r - 1) (n - 1) ∣ R := by
    have h5 : Nat.gcd (r - 1) (n - 1) ∣ q * R := by
      have : n - 1 = q * R := by omega
      rw [this]; exact Nat.gcd_dvd_right _ _
    refine Nat.Coprime.dvd_of_dvd_mul_left ?_ h5
    exact Nat.Coprime.coprime_dvd_left (Nat.gcd_dvd_left _ _) hcop.symm
  obtain ⟨c, hc'⟩ := hgR
  have h6 : a ^ R % r = 1 % r := by
    rw [hc', Nat.pow_mul, Nat.pow_mod, hd, ← Nat.pow_mod, Nat.one_pow]
  have h7 : r ∣ a ^ R % n + (n - 1) := by
    refine Nat.dvd_of_mod_eq_zero ?_
    rw [Nat.add_mod, Nat.mod_mod_of_dvd _ hrn, h6, ← Nat.add_mod]
    have : 1 + (n - 1) = n := by omega
    rw [this]
    exact Nat.mod_eq_zero_of_dvd hrn
  have h8 := Nat.dvd_gcd h7 hrn
  rw [hc] at h8
  have := Nat.le_of_dvd (by omega) h8
  omega

/-- A number whose prime divisors are all above `f`, a bound on its root, is prime. -/
theorem prime_of_large {n f : Nat} (h2 : 2 ≤ n) (hbig : n < f * f) (key : ∀ r, IsPrime r → r ∣ n → f ≤ r) : IsPrime n := by
  refine ⟨h2, fun m hm => ?_⟩
  by_cases h1' : m = 1
  · exact .inl h1'
  refine .inr ?_
  obtain ⟨k, hk⟩ := hm
  have hm0 : m ≠ 0 := by rintro rfl; simp at hk; omega
  by_cases hk1 : k = 1
  · subst hk1; omega
  exfalso
  have hk0 : k ≠ 0 := by rintro rfl; simp at hk; omega
  obtain ⟨r, hr, hrm⟩ := exists_prime_dvd m (by omega)
  obtain ⟨s, hs, hsk⟩ := exists_prime_dvd k (by omega)
  have hqr := key r hr (Nat.dvd_trans hrm ⟨k, hk⟩)
  have hqs := key s hs (Nat.dvd_trans hsk ⟨m, by rw [hk, Nat.mul_comm]⟩)
  have hrm' := Nat.le_of_dvd (by omega) hrm
  have hsk' := Nat.le_of_dvd (by omega) hsk
  have : f * f ≤ m * k := Nat.mul_le_mul (by omega) (by omega)
  omega

/-- `b` to `n` modulo `m`, by squaring. -/
def powMod (m : Nat) : Nat → Nat → Nat → Nat
  | 0, _, _ => 1 % m
  | fuel + 1, b, n => if n = 0 then 1 % m else
      let h := powMod m fuel (b * b % m) (n / 2)
      if n % 2 = 1 then b * h % m else h

theorem powMod_eq (m : Nat) : ∀ fuel b n, n < 2 ^ fuel → powMod m fuel b n = b ^ n % m := by
  intro fuel
  induction fuel with
  | zero => intro b n h; have : n = 0 := by omega
            subst this; rfl
  | succ fuel ih =>
    intro b n h
    rw [powMod]
    by_cases h0 : n = 0
    · rw [if_pos h0, h0]; rfl
    · rw [if_neg h0]
      have h1 : n / 2 < 2 ^ fuel := by rw [Nat.pow_succ] at h; omega
      have h2 : powMod m fuel (b * b % m) (n / 2) = b ^ (2 * (n / 2)) % m := by
        rw [ih _ _ h1, ← Nat.pow_mod, Nat.pow_mul, Nat.pow_two]
      have h3 := Nat.div_add_mod n 2
      show (if n % 2 = 1 then b * powMod m fuel (b * b % m) (n / 2) % m else powMod m fuel (b * b % m) (n / 2)) = _
      rw [h2]
      by_cases h4 : n % 2 = 1
      · rw [if_pos h4]
        have h5 : n = 2 * (n / 2) + 1 := by omega
        conv => rhs; rw [h5, Nat.pow_succ, Nat.mul_comm, Nat.mul_mod]
        conv => lhs; rw [Nat.mul_mod, Nat.mod_mod]
      · rw [if_neg h4]
        have h5 : n = 2 * (n / 2) := by omega
        conv => rhs; rw [h5]

/-- The test for one prime divisor `q` of `n - 1`, as one Bool. -/
def pockOk (n q R a : Nat) : Bool :=
  decide (2 ≤ n) && decide (n = q * R + 1) && decide (powMod n 300 a (n - 1) = 1) &&
    decide (Nat.gcd (powMod n 300 a R + (n - 1)) n = 1) && decide (n < 2 ^ 300) && decide (R < 2 ^ 300)

theorem pockOk_key {n q R a : Nat} (hq : IsPrime q) (h : pockOk n q R a = true) : 2 ≤ n ∧ ∀ r, IsPrime r → r ∣ n → q ∣ r - 1 := by
  simp only [pockOk, Bool.and_eq_true, decide_eq_true_eq] at h
  obtain ⟨⟨⟨⟨⟨h2, hn⟩, h1⟩, hc⟩, hl⟩, hR⟩ := h
  rw [powMod_eq _ _ _ _ (by omega)] at h1
  rw [powMod_eq _ _ _ _ hR] at hc
  exact ⟨h2, pock_key h2 hn hq h1 hc⟩

theorem pock {n q R a : Nat} (hq : IsPrime q) (h : pockOk n q R a = true) (hbig : n < q * q) : IsPrime n := by
  obtain ⟨h2, key⟩ := pockOk_key hq h
  refine prime_of_large h2 hbig fun r hr hd => ?_
  have := Nat.le_of_dvd (by have := hr.1; omega) (key r hr hd)
  omega

theorem pock2 {n q R a q' R' a' : Nat} (hq : IsPrime q) (hq' : IsPrime q') (h : pockOk n q R a = true) (h' : pockOk n q' R' a' = true)
    (hlt : q' < q) (hbig : n < (q * q') * (q * q')) : IsPrime n := by
  obtain ⟨h2, key⟩ := pockOk_key hq h
  obtain ⟨_, key'⟩ := pockOk_key hq' h'
  refine prime_of_large h2 hbig fun r hr hd => ?_
  have hc : Nat.Coprime q q' := hq.coprime_of_not_dvd fun hd => by
    have := Nat.le_of_dvd (by have := hq'.1; omega) hd; omega
  have := Nat.le_of_dvd (by have := hr.1; omega) (hc.mul_dvd_of_dvd_of_dvd (key r hr hd) (key' r hr hd))
  omega

/-- A small prime, by trial. -/
def trialOk (n : Nat) : Nat → Bool
  | 0 => true
  | 1 => true
  | k + 2 => n % (k + 2) != 0 && trialOk n (k + 1)

theorem trialOk_spec (n : Nat) : ∀ k, trialOk n k = true → ∀ d, 2 ≤ d → d ≤ k → ¬ d ∣ n
  | 0, _ => by intro d; omega
  | 1, _ => by intro d; omega
  | k + 2, h => by
    simp only [trialOk, Bool.and_eq_true, bne_iff_ne, ne_eq] at h
    intro d h2 hk
    by_cases e : d = k + 2
    · subst e; exact fun hd => h.1 (Nat.mod_eq_zero_of_dvd hd)
    · exact trialOk_spec n (k + 1) h.2 d h2 (by omega)

theorem trial {n k : Nat} (h2 : 2 ≤ n) (hk : n < (k + 1) * (k + 1)) (h : trialOk n k = true) : IsPrime n := by
  refine ⟨h2, fun m hm => ?_⟩
  obtain ⟨c, hc⟩ := hm
  by_cases h1 : m = 1
  · exact .inl h1
  refine .inr ?_
  by_cases hc1 : c = 1
  · subst hc1; omega
  exfalso
  have hm0 : m ≠ 0 := by rintro rfl; simp at hc; omega
  have hc0 : c ≠ 0 := by rintro rfl; simp at hc; omega
  have a1 : k < m := Nat.lt_of_not_le fun hle => trialOk_spec n k h m (by omega) hle ⟨c, hc⟩
  have a2 : k < c := Nat.lt_of_not_le fun hle => trialOk_spec n k h c (by omega) hle ⟨m, by rw [hc, Nat.mul_comm]⟩
  have : (k + 1) * (k + 1) ≤ m * c := Nat.mul_le_mul (by omega) (by omega)
  omega

end BC

/-
  The prime 2^255 - 19 and the order of the group are primes.
-/
namespace BC

theorem prime_1 : IsPrime 991 := trial (k := 32) (by decide) (by decide) (by decide)
theorem prime_2 : IsPrime 103 := trial (k := 11) (by decide) (by decide) (by decide)
theorem prime_3 : IsPrime 8574133 :=
  pock2 (q := 991) (R := 8652) (a := 2) (q' := 103) (R' := 83244) (a' := 2) prime_1 prime_2 (by decide +kernel) (by decide +kernel) (by decide +kernel) (by decide +kernel)
theorem prime_4 : IsPrime 127 := trial (k := 12) (by decide) (by decide) (by decide)
theorem prime_5 : IsPrime 1919519569386763 :=
  pock2 (q := 8574133) (R := 223873314) (a := 2) (q' := 127) (R' := 15114327318006) (a' := 2) prime_3 prime_4 (by decide +kernel) (by decide +kernel) (by decide +kernel) (by decide +kernel)
theorem prime_6 : IsPrime 419 := trial (k := 21) (by decide) (by decide) (by decide)
theorem prime_7 : IsPrime 97 := trial (k := 10) (by decide) (by decide) (by decide)
theorem prime_8 : IsPrime 569003 :=
  pock2 (q := 419) (R := 1358) (a := 2) (q' := 97) (R' := 5866) (a' := 2) prime_6 prime_7 (by decide +kernel) (by decide +kernel) (by decide +kernel) (by decide +kernel)
theorem prime_9 : IsPrime 2773320623 :=
  pock (q := 569003) (R := 4874) (a := 2) prime_8 (by decide +kernel) (by decide +kernel)
theorem prime_10 : IsPrime 72106336199 :=
  pock (q := 2773320623) (R := 26) (a := 2) prime_9 (by decide +kernel) (by decide +kernel)
theorem prime_11 : IsPrime 75445702479781427272750846543864801 :=
  pock2 (q := 1919519569386763) (R := 39304471641247389600) (a := 2) (q' := 72106336199) (R' := 1046311689884858398375200) (a' := 2) prime_5 prime_10 (by decide +kernel) (by decide +kernel) (by decide +kernel) (by decide +kernel)
theorem prime_12 : IsPrime 1723 := trial (k := 42) (by decide) (by decide) (by decide)
theorem prime_13 : IsPrime 430751 :=
  pock (q := 1723) (R := 250) (a := 2) prime_12 (by decide +kernel) (by decide +kernel)
theorem prime_14 : IsPrime 4153 := trial (k := 65) (by decide) (by decide) (by decide)
theorem prime_15 : IsPrime 31757755568855353 :=
  pock2 (q := 430751) (R := 73726481352) (a := 2) (q' := 4153) (R' := 7646943310584) (a' := 2) prime_13 prime_14 (by decide +kernel) (by decide +kernel) (by decide +kernel) (by decide +kernel)
theorem prime_16 : IsPrime 74058212732561358302231226437062788676166966415465897661863160754340907 :=
  pock2 (q := 75445702479781427272750846543864801) (R := 981609426360740691344999861639072106) (a := 2) (q' := 31757755568855353) (R' := 2331972502653487852620185443007392165117953542933313402) (a' := 2) prime_11 prime_15 (by decide +kernel) (by decide +kernel) (by decide +kernel) (by decide +kernel)
theorem prime_17 : IsPrime 57896044618658097711785492504343953926634992332820282019728792003956564819949 :=
  pock (q := 74058212732561358302231226437062788676166966415465897661863160754340907) (R := 781764) (a := 2) prime_16 (by decide +kernel) (by decide +kernel)
theorem prime_18 : IsPrime 2551 := trial (k := 51) (by decide) (by decide) (by decide)
theorem prime_19 : IsPrime 1224481 :=
  pock (q := 2551) (R := 480) (a := 2) prime_18 (by decide +kernel) (by decide +kernel)
theorem prime_20 : IsPrime 3797 := trial (k := 62) (by decide) (by decide) (by decide)
theorem prime_21 : IsPrime 531581 :=
  pock (q := 3797) (R := 140) (a := 2) prime_20 (by decide +kernel) (by decide +kernel)
theorem prime_22 : IsPrime 1257559732178653 :=
  pock2 (q := 1224481) (R := 1027014492) (a := 2) (q' := 531581) (R' := 2365697292) (a' := 2) prime_19 prime_21 (by decide +kernel) (by decide +kernel) (by decide +kernel) (by decide +kernel)
theorem prime_23 : IsPrime 4434155615661930479 :=
  pock (q := 1257559732178653) (R := 3526) (a := 2) prime_22 (by decide +kernel) (by decide +kernel)
theorem prime_24 : IsPrime 172054593956031949258510691 :=
  pock (q := 4434155615661930479) (R := 38802110) (a := 2) prime_23 (by decide +kernel) (by decide +kernel)
theorem prime_25 : IsPrime 19757330305831588566944191468367130476339 :=
  pock (q := 172054593956031949258510691) (R := 114831751082918) (a := 2) prime_24 (by decide +kernel) (by decide +kernel)
theorem prime_26 : IsPrime 276602624281642239937218680557139826668747 :=
  pock (q := 19757330305831588566944191468367130476339) (R := 14) (a := 2) prime_25 (by decide +kernel) (by decide +kernel)
theorem prime_27 : IsPrime 7237005577332262213973186563042994240857116359379907606001950938285454250989 :=
  pock (q := 276602624281642239937218680557139826668747) (R := 26163907866482859529727157400808004) (a := 2) prime_26 (by decide +kernel) (by decide +kernel)

/-- The prime of the field. -/
abbrev P : Nat := 57896044618658097711785492504343953926634992332820282019728792003956564819949

/-- The order of the group. -/
abbrev Q : Nat := 7237005577332262213973186563042994240857116359379907606001950938285454250989

theorem prime_P : IsPrime P := prime_17
theorem prime_Q : IsPrime Q := prime_27

end BC

/-
  Powers in the field.
-/
namespace Go.Bx

theorem prime25 : BC.IsPrime P25 := BC.prime_P

/-- The number that the first `m` bits of some bytes give. -/
noncomputable def bitS (bs : List Nat) : Nat → Nat
  | 0 => 0
  | m + 1 => bitS bs m + (cond (powBit bs m) 1 0) * 2 ^ m

theorem mulmod (a b p : Nat) : a % p * (b % p) % p = a * b % p := (Nat.mul_mod a b p).symm
theorem mulmodL (a b p : Nat) : a % p * b % p = a * b % p := by rw [Nat.mul_mod, Nat.mod_mod, ← Nat.mul_mod]
theorem mulmodR (a b p : Nat) : a * (b % p) % p = a * b % p := by rw [Nat.mul_mod, Nat.mod_mod, ← Nat.mul_mod]
theorem powmod (a n p : Nat) : (a % p) ^ n % p = a ^ n % p := (Nat.pow_mod a n p).symm

theorem powD_ok {xs : List Int} (hx : Elem xs) (bs : List Nat) {T : Nat} (hT : bitS bs 256 = T) : ∀ k m, m + k = 256 → Elem (powD xs bs k) ∧ ∃ e, e * 2 ^ m + bitS bs m = T ∧ fval (powD xs bs k) = fval xs ^ e % P25
  | 0, m, hm => by
    obtain ⟨s1, s2⟩ := small1_ok 1
    have : m = 256 := hm
    subst this
    refine ⟨s1, 0, by rw [hT, Nat.zero_mul, Nat.zero_add], ?_⟩
    show fval (small1 1) = _
    rw [s2, Nat.pow_zero]
    decide
  | k + 1, m, hm => by
    obtain ⟨h1, e, h2, h3⟩ := powD_ok hx bs hT k (m + 1) (by omega)
    have hs : powD xs bs (k + 1) = powStep xs bs (255 - k) (powD xs bs k) := rfl
    have e1 : 255 - k = m := by omega
    rw [hs, e1]
    clear hs hm e1
    generalize powD xs bs k = l at *
    obtain ⟨m1, m2⟩ := mulW_ok h1 h1
    rw [bitS, Nat.pow_succ] at h2
    have hsq : fval (mulW l l) = fval xs ^ (2 * e) % P25 := by
      rw [m2, h3, mulmod, Nat.two_mul, Nat.pow_add]
    unfold powStep
    have e3 : e * (2 ^ m * 2) = 2 * e * 2 ^ m := by rw [Nat.mul_comm (2 ^ m), ← Nat.mul_assoc, Nat.mul_comm e]
    rw [e3] at h2
    cases hb : powBit bs m
    · rw [hb, cond_false] at h2
      simp only [cond_false]
      refine ⟨m1, 2 * e, ?_, hsq⟩
      rw [← h2, Nat.zero_mul, Nat.add_zero]
    · rw [hb, cond_true, Nat.one_mul] at h2
      obtain ⟨p1, p2⟩ := mulW_ok m1 hx
      simp only [cond_true]
      refine ⟨p1, 2 * e + 1, ?_, ?_⟩
      · rw [← h2, Nat.add_mul, Nat.one_mul]
        omega
      · rw [p2, hsq, mulmodL, Nat.pow_succ]

theorem powW_ok {xs : List Int} (hx : Elem xs) (bs : List Nat) : Elem (powW xs bs) ∧ fval (powW xs bs) = fval xs ^ bitS bs 256 % P25 := by
  obtain ⟨T, hT⟩ : ∃ T, bitS bs 256 = T := ⟨_, rfl⟩
  obtain ⟨h1, e, h2, h3⟩ := powD_ok hx bs hT 256 0 rfl
  refine ⟨h1, ?_⟩
  have : e = T := by rw [← h2, bitS, Nat.pow_zero, Nat.mul_one, Nat.add_zero]
  rw [hT, ← this]
  exact h3

theorem bit_le (n i : Nat) (h : i < 256) : powBit (leBytes n) i = Nat.beq (n / 2 ^ i % 2) 1 := by
  unfold powBit
  rw [leBytes_get (by omega), Nat.and_one_is_mod]
  congr 1
  have e1 : (256 : Nat) ^ (i / 8) = 2 ^ (8 * (i / 8)) := by rw [Nat.pow_mul]
  have e2 : 2 ^ i = 2 ^ (8 * (i / 8)) * 2 ^ (i % 8) := by rw [← Nat.pow_add]; congr 1; omega
  have e3 : n / 2 ^ i = n / 256 ^ (i / 8) / 2 ^ (i % 8) := by rw [e2, e1, Nat.div_div_eq_div_mul]
  rw [e3]
  generalize n / 256 ^ (i / 8) = m
  have hr : i % 8 < 8 := Nat.mod_lt _ (by decide)
  generalize i % 8 = r at *
  have key : ∀ t s : Nat, t * s = 256 → 0 < t → 2 ∣ s → m % 256 / t % 2 = m / t % 2 := by
    intro t s hts h0 hs
    obtain ⟨u, rfl⟩ := hs
    have : m % 256 / t = m / t % (2 * u) := by rw [← hts, Nat.mod_mul_right_div_self]
    rw [this, Nat.mod_mul_right_mod]
  match r, hr with
  | 0, _ => exact key 1 256 rfl (by decide) (by decide)
  | 1, _ => exact key 2 128 rfl (by decide) (by decide)
  | 2, _ => exact key 4 64 rfl (by decide) (by decide)
  | 3, _ => exact key 8 32 rfl (by decide) (by decide)
  | 4, _ => exact key 16 16 rfl (by decide) (by decide)
  | 5, _ => exact key 32 8 rfl (by decide) (by decide)
  | 6, _ => exact key 64 4 rfl (by decide) (by decide)
  | 7, _ => exact key 128 2 rfl (by decide) (by decide)

theorem bitS_le (n : Nat) : ∀ m, m ≤ 256 → bitS (leBytes n) m = n % 2 ^ m
  | 0, _ => by simp [bitS, Nat.mod_one]
  | m + 1, hm => by
    rw [bitS, bitS_le n m (by omega), bit_le n m (by omega), Nat.pow_succ, Nat.mod_mul]
    have : n / 2 ^ m % 2 = 0 ∨ n / 2 ^ m % 2 = 1 := by omega
    rcases this with h | h <;> rw [h]
    · simp [Nat.beq]
    · simp [Nat.beq]

theorem powN_ok {xs : List Int} (hx : Elem xs) {n : Nat} (hn : n < 2 ^ 256) : Elem (powW xs (leBytes n)) ∧ fval (powW xs (leBytes n)) = fval xs ^ n % P25 := by
  obtain ⟨h1, h2⟩ := powW_ok hx (leBytes n)
  rw [bitS_le n 256 (Nat.le_refl _), Nat.mod_eq_of_lt hn] at h2
  exact ⟨h1, h2⟩

/-- An inverse. -/
theorem inv_ok {xs : List Int} (hx : Elem xs) : Elem (powW xs (numW 21 0)) ∧ fval (powW xs (numW 21 0)) = fval xs ^ (P25 - 2) % P25 := by
  have e : numW 21 0 = leBytes (P25 - 2) := by
    unfold numW
    congr 1
  rw [e]
  exact powN_ok hx (by decide)

theorem inv_mul {x : Nat} (h0 : x ≠ 0) (hx : x < P25) : x * (x ^ (P25 - 2) % P25) % P25 = 1 := by
  have hd : ¬ P25 ∣ x := fun ⟨c, hc⟩ => by
    cases c with
    | zero => omega
    | succ c =>
      have : P25 * (c + 1) ≥ P25 := Nat.le_mul_of_pos_right _ (by omega)
      omega
  have := BC.fermat_one prime25 hd
  rw [mulmodR, Nat.mul_comm, ← Nat.pow_succ]
  exact this

end Go.Bx

namespace Go.Bx

noncomputable def flE (X Y Z : List Int) : Bool :=
  bif bif !bytesW (addW X Y) == bytesW (addW Y X) then true
    else bif !bytesW (mulW X Y) == bytesW (mulW Y X) then true
    else bif !bytesW (mulW X (addW Y Z)) == bytesW (addW (mulW X Y) (mulW X Z)) then true
    else !bytesW (mulW (mulW X Y) Z) == bytesW (mulW X (mulW Y Z)) then false
  else bif bif !bytesW (addW X (negW X)) == bytesW (small1 (0 : Nat)) then true
    else bif !bytesW (subW X Y) == bytesW (addW X (negW Y)) then true
    else bif !bytesW (mulW X (small1 (1 : Nat))) == bytesW X then true
    else !bytesW (addW X (small1 (0 : Nat))) == bytesW X then false
  else bif bytesW X == bytesW (small1 (0 : Nat)) then true
  else bytesW (mulW (mulW Y X) (powW X (numW 21 0))) == bytesW Y

/-- An element of a value. -/
def Is (X : List Int) (n : Nat) : Prop := Elem X ∧ fval X = n

theorem Is.add {X Y : List Int} {n m : Nat} (h : Is X n) (k : Is Y m) : Is (addW X Y) ((n + m) % P25) := by
  obtain ⟨h1, h2⟩ := addW_ok h.1 k.1
  exact ⟨h1, by rw [h2, h.2, k.2]⟩
theorem Is.sub {X Y : List Int} {n m : Nat} (h : Is X n) (k : Is Y m) : Is (subW X Y) ((n + (P25 - m)) % P25) := by
  obtain ⟨h1, h2⟩ := subW_ok h.1 k.1
  exact ⟨h1, by rw [h2, h.2, k.2]⟩
theorem Is.mul {X Y : List Int} {n m : Nat} (h : Is X n) (k : Is Y m) : Is (mulW X Y) (n * m % P25) := by
  obtain ⟨h1, h2⟩ := mulW_ok h.1 k.1
  exact ⟨h1, by rw [h2, h.2, k.2]⟩
theorem Is.neg {X : List Int} {n : Nat} (h : Is X n) : Is (negW X) ((P25 - n) % P25) := by
  obtain ⟨h1, h2⟩ := negW_ok h.1
  exact ⟨h1, by rw [h2, h.2]⟩
theorem Is.small (n : Nat) (h : n < 65536) : Is (small1 (n : Int)) n := by
  obtain ⟨h1, h2⟩ := small1_ok (n : Int)
  refine ⟨h1, ?_⟩
  rw [h2, if_pos (by omega)]
  omega
theorem Is.inv {X : List Int} {n : Nat} (h : Is X n) : Is (powW X (numW 21 0)) (n ^ (P25 - 2) % P25) := by
  obtain ⟨h1, h2⟩ := inv_ok h.1
  exact ⟨h1, by rw [h2, h.2]⟩
theorem Is.eq {X Y : List Int} {n m : Nat} (h : Is X n) (k : Is Y m) : (bytesW X == bytesW Y) = decide (n = m) := by
  rw [bytesW_eq h.1 k.1, h.2, k.2]
theorem Is.same {X Y : List Int} {n m : Nat} (h : Is X n) (k : Is Y m) (e : n = m) : (bytesW X == bytesW Y) = true := by
  rw [h.eq k, decide_eq_true e]
theorem Is.lt {X : List Int} {n : Nat} (h : Is X n) : n < P25 := h.2 ▸ fval_lt X

theorem flE_true {X Y Z : List Int} {n m k : Nat} (h : Is X n) (q : Is Y m) (r : Is Z k) : flE X Y Z = true := by
  have s0 := Is.small 0 (by decide)
  have s1 := Is.small 1 (by decide)
  have hn := h.lt
  have hm := q.lt
  have hk := r.lt
  have e1 := (h.add q).same (q.add h) (by rw [Nat.add_comm])
  have e2 := (h.mul q).same (q.mul h) (by rw [Nat.mul_comm])
  have e3 := (h.mul (q.add r)).same ((h.mul q).add (h.mul r)) (by rw [mulmodR, ← Nat.add_mod, Nat.mul_add])
  have e4 := ((h.mul q).mul r).same (h.mul (q.mul r)) (by rw [mulmodL, mulmodR, Nat.mul_assoc])
  have hp : 0 < P25 := Nat.lt_of_le_of_lt (Nat.zero_le _) hn
  have e5 := (h.add h.neg).same s0 (by
    rw [Nat.add_mod, Nat.mod_mod, ← Nat.add_mod, show n + (P25 - n) = P25 by omega, Nat.mod_self])
  have e6 := (h.sub q).same (h.add q.neg) (by rw [Nat.add_mod n ((P25 - m) % P25), Nat.mod_mod, ← Nat.add_mod])
  have e7 := (h.mul s1).same h (by rw [Nat.mul_one, Nat.mod_eq_of_lt hn])
  have e8 := (h.add s0).same h (by rw [Nat.add_zero, Nat.mod_eq_of_lt hn])
  have e9 := h.eq s0
  have e10 := ((q.mul h).mul h.inv).eq q
  unfold flE
  rw [e1, e2, e3, e4, e5, e6, e7, e8, e9, e10]
  by_cases h0 : n = 0
  · rw [decide_eq_true h0]; rfl
  · rw [decide_eq_false h0, decide_eq_true]
    · rfl
    · rw [mulmodL, Nat.mul_assoc, ← mulmodR, inv_mul h0 hn, Nat.mul_one, Nat.mod_eq_of_lt hm]

end Go.Bx
