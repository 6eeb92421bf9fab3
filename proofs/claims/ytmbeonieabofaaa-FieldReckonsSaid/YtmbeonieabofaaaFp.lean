import Derived.Test.YtmbeonieabofaaaFk
set_option linter.unusedVariables false
set_option linter.unusedSimpArgs false
namespace Go.Proofs.Ytmbeonieabofaaa

/-! ### the prime -/
def Prm (n : Nat) : Prop := 1 < n ∧ ∀ d, d ∣ n → d = 1 ∨ d = n

def prodL : List Nat → Nat
  | [] => 1
  | q :: r => q * prodL r

theorem dvd_some : ∀ (qs : List Nat), (∀ q ∈ qs, Prm q) → ∀ m, 1 < m → m ∣ prodL qs → ∃ q ∈ qs, q ∣ m
  | [], _, m, h1, hm => by
    have : m = 1 := Nat.dvd_one.1 hm
    omega
  | q :: r, hq, m, h1, hm => by
    have hp := hq q (.head _)
    rcases hp.2 (Nat.gcd m q) (Nat.gcd_dvd_right m q) with h | h
    · have : m ∣ prodL r := (show Nat.Coprime m q from h).dvd_of_dvd_mul_left hm
      obtain ⟨x, hx, hd⟩ := dvd_some r (fun x hx => hq x (.tail _ hx)) m h1 this
      exact ⟨x, .tail _ hx, hd⟩
    · exact ⟨q, .head _, by rw [← h]; exact Nat.gcd_dvd_left m q⟩

/-- An injection of the first m numbers into 1 .. m comes to all of them. -/
theorem onto : ∀ (m : Nat) (f : Nat → Nat), (∀ i, i < m → 1 ≤ f i ∧ f i ≤ m) → (∀ i j, i < m → j < m → f i = f j → i = j) → ∀ y, 1 ≤ y → y ≤ m → ∃ i, i < m ∧ f i = y
  | 0, f, _, _, y, h1, h2 => by omega
  | m + 1, f, hr, hi, y, h1, h2 => by
    -- f m = z; where f i = m + 1, put z
    by_cases hz : f m = m + 1
    · by_cases hy : y = m + 1
      · exact ⟨m, by omega, by omega⟩
      · obtain ⟨i, h3, h4⟩ := onto m f (fun i h => by
          have := hr i (by omega)
          have hne : f i ≠ m + 1 := fun e => by have := hi i m (by omega) (by omega) (by omega); omega
          omega) (fun i j h3 h4 => hi i j (by omega) (by omega)) y h1 (by omega)
        exact ⟨i, by omega, h4⟩
    · have hm := hr m (by omega)
      have hinj : ∀ i j, i < m → j < m → (if f i = m + 1 then f m else f i) = (if f j = m + 1 then f m else f j) → i = j := fun i j h3 h4 h5 => by
        have q1 : f i = f m → False := fun e => by have := hi i m (by omega) (by omega) e; omega
        have q2 : f j = f m → False := fun e => by have := hi j m (by omega) (by omega) e; omega
        split at h5
        · split at h5
          · exact hi i j (by omega) (by omega) (by omega)
          · exact (q2 h5.symm).elim
        · split at h5
          · exact (q1 h5).elim
          · exact hi i j (by omega) (by omega) h5
      have hran : ∀ i, i < m → 1 ≤ (if f i = m + 1 then f m else f i) ∧ (if f i = m + 1 then f m else f i) ≤ m := fun i h => by
        have := hr i (by omega)
        split <;> omega
      by_cases hy : y = f m
      · exact ⟨m, by omega, hy.symm⟩
      · by_cases hy2 : y = m + 1
        · -- m + 1 is met: else f goes into 1 .. m without f m
          obtain ⟨i, h3, h4⟩ := onto m (fun i => if f i = m + 1 then f m else f i) hran hinj (f m) (by omega) (by omega)
          split at h4
          · exact ⟨i, by omega, by omega⟩
          · have := hi i m (by omega) (by omega) h4; omega
        · obtain ⟨i, h3, h4⟩ := onto m (fun i => if f i = m + 1 then f m else f i) hran hinj y h1 (by omega)
          split at h4
          · exact (hy h4.symm).elim
          · exact ⟨i, by omega, h4⟩

theorem pow_mod_one {n g k : Nat} (h : g ^ k % n = 1 % n) (m : Nat) : g ^ (k * m) % n = 1 % n := by
  rw [Nat.pow_mul, Nat.pow_mod, h, ← Nat.pow_mod, Nat.one_pow]

theorem least (p : Nat → Prop) [DecidablePred p] : ∀ n, p n → ∃ m, m ≤ n ∧ p m ∧ ∀ k, k < m → ¬ p k
  | n, h => by
    induction n using Nat.strongRecOn with
    | ind n ih =>
      by_cases hk : ∃ k, k < n ∧ p k
      · obtain ⟨k, h1, h2⟩ := hk
        obtain ⟨m, h3, h4, h5⟩ := ih k h1 h2
        exact ⟨m, by omega, h4, h5⟩
      · exact ⟨n, Nat.le_refl _, h, fun k h1 h2 => hk ⟨k, h1, h2⟩⟩

/-- What a certificate says: g's powers are all that is not 0. -/
structure Cert (n g : Nat) (qs : List Nat) : Prop where
  big : 2 < n
  prod : prodL qs = n - 1
  prm : ∀ q ∈ qs, Prm q
  one : g ^ (n - 1) % n = 1
  no : ∀ q ∈ qs, g ^ ((n - 1) / q) % n ≠ 1

theorem Cert.order {n g : Nat} {qs : List Nat} (c : Cert n g qs) : ∀ k, 0 < k → k < n - 1 → g ^ k % n ≠ 1 := by
  intro k h0 hk h1
  have hn := c.big
  have e1 : 1 % n = 1 := Nat.mod_eq_of_lt (by omega)
  obtain ⟨d, hd1, ⟨hd2, hd3⟩, hd4⟩ := least (fun d => 0 < d ∧ g ^ d % n = 1) k ⟨h0, h1⟩
  have hdiv : d ∣ n - 1 := by
    rcases Nat.eq_zero_or_pos ((n - 1) % d) with h | h
    · exact Nat.dvd_of_mod_eq_zero h
    · exfalso
      refine hd4 ((n - 1) % d) (Nat.mod_lt _ hd2) ⟨h, ?_⟩
      have h2 : g ^ (n - 1) % n = 1 := c.one
      have e : n - 1 = d * ((n - 1) / d) + (n - 1) % d := (Nat.div_add_mod _ _).symm
      rw [e, Nat.pow_add, Nat.mul_mod, pow_mod_one (by rw [hd3, e1]), e1, Nat.one_mul, Nat.mod_mod] at h2
      exact h2
  obtain ⟨m, hm⟩ := hdiv
  have hm1 : 1 < m := by
    rcases Nat.lt_or_ge 1 m with h | h
    · exact h
    · have : d * m ≤ d * 1 := Nat.mul_le_mul_left _ h
      omega
  obtain ⟨q, hq, m', hm'⟩ := dvd_some qs c.prm m hm1 (by rw [c.prod, hm]; exact Nat.dvd_mul_left _ _)
  refine c.no q hq ?_
  have hq0 : 0 < q := by have := (c.prm q hq).1; omega
  have : (n - 1) / q = d * m' := by
    rw [hm, hm', show d * (q * m') = q * (d * m') by rw [Nat.mul_left_comm], Nat.mul_div_cancel_left _ hq0]
  rw [this, pow_mod_one (by rw [hd3, e1]), e1]

theorem Cert.all {n g : Nat} {qs : List Nat} (c : Cert n g qs) (y : Nat) (h0 : 1 ≤ y) (h1 : y < n) : ∃ k, k < n - 1 ∧ g ^ k % n = y := by
  have hn := c.big
  have e1 : 1 % n = 1 := Nat.mod_eq_of_lt (by omega)
  refine onto (n - 1) (fun k => g ^ k % n) (fun i hi => ?_) (fun i j hi hj => ?_) y h0 (by omega)
  · have hlt : g ^ i % n < n := Nat.mod_lt _ (by omega)
    refine ⟨?_, by show g ^ i % n ≤ n - 1; omega⟩
    rcases Nat.eq_zero_or_pos (g ^ i % n) with h | h
    · exfalso
      have h2 := c.one
      rw [show n - 1 = i + (n - 1 - i) by omega, Nat.pow_add, Nat.mul_mod, h, Nat.zero_mul, Nat.zero_mod] at h2
      omega
    · exact h
  · have key : ∀ i j, i < j → j < n - 1 → g ^ i % n = g ^ j % n → False := fun i j hij hj h => by
      refine c.order (j - i) (by omega) (by omega) ?_
      have h2 : g ^ (i + (n - 1 - i)) % n = g ^ (j + (n - 1 - i)) % n := by
        rw [Nat.pow_add, Nat.mul_mod, h, ← Nat.mul_mod, ← Nat.pow_add]
      rw [show i + (n - 1 - i) = n - 1 by omega, c.one, show j + (n - 1 - i) = (n - 1) + (j - i) by omega, Nat.pow_add, Nat.mul_mod, c.one, Nat.one_mul, Nat.mod_mod] at h2
      exact h2.symm
    intro h
    rcases Nat.lt_trichotomy i j with h3 | h3 | h3
    · exact (key i j h3 hj h).elim
    · exact h3
    · exact (key j i h3 hi h.symm).elim

theorem Cert.prime {n g : Nat} {qs : List Nat} (c : Cert n g qs) : Prm n := by
  have hn := c.big
  refine ⟨by omega, fun d hd => ?_⟩
  by_cases h : d = n
  · exact .inr h
  · left
    have hd0 : 0 < d := Nat.pos_of_dvd_of_pos hd (by omega)
    have hdn : d < n := by have := Nat.le_of_dvd (by omega) hd; omega
    obtain ⟨k, hk, hg⟩ := c.all d hd0 hdn
    have h2 := c.one
    rw [show n - 1 = k + (n - 1 - k) by omega, Nat.pow_add, Nat.mul_mod, hg] at h2
    have h3 : d ∣ 1 := by
      rw [← h2]
      exact (Nat.dvd_mod_iff hd).2 (Nat.dvd_mul_right _ _)
    exact Nat.dvd_one.1 h3

theorem Cert.fermat {n g : Nat} {qs : List Nat} (c : Cert n g qs) (x : Nat) (hx : x % n ≠ 0) : x ^ (n - 1) % n = 1 := by
  have hn := c.big
  have e1 : 1 % n = 1 := Nat.mod_eq_of_lt (by omega)
  obtain ⟨k, hk, hg⟩ := c.all (x % n) (by omega) (Nat.mod_lt _ (by omega))
  rw [Nat.pow_mod, ← hg, ← Nat.pow_mod, ← Nat.pow_mul, Nat.mul_comm, pow_mod_one (by rw [c.one, e1]), e1]

/-! ### small ones -/
def noDiv (n : Nat) : Nat → Nat → Bool
  | 0, _ => true
  | k + 1, d => n % d != 0 && noDiv n k (d + 1)
theorem noDiv_spec (n : Nat) : ∀ k d, noDiv n k d = true → ∀ e, d ≤ e → e < d + k → n % e ≠ 0
  | 0, d, _, e, h1, h2 => by omega
  | k + 1, d, h, e, h1, h2 => by
    simp only [noDiv, Bool.and_eq_true, bne_iff_ne, ne_eq] at h
    by_cases he : e = d
    · subst he; exact h.1
    · exact noDiv_spec n k (d + 1) h.2 e (by omega) (by omega)
theorem prm_of {n : Nat} (k : Nat) (h1 : 1 < n) (hk : n < (k + 2) * (k + 2)) (h : noDiv n k 2 = true) : Prm n := by
  refine ⟨h1, fun d hd => ?_⟩
  obtain ⟨e, he⟩ := hd
  have hs := noDiv_spec n k 2 h
  have hd0 : d ≠ 0 := fun e0 => by subst e0; omega
  have he0 : e ≠ 0 := fun e0 => by subst e0; omega
  by_cases hd1 : d = 1
  · exact .inl hd1
  · by_cases he1 : e = 1
    · subst he1; exact .inr (by omega)
    · exfalso
      rcases Nat.lt_or_ge d (k + 2) with hlt | hge
      · exact hs d (by omega) (by omega) (by rw [he]; exact Nat.mul_mod_right _ _)
      · rcases Nat.lt_or_ge e (k + 2) with hlt | hge2
        · exact hs e (by omega) (by omega) (by rw [he]; exact Nat.mul_mod_left _ _)
        · have := Nat.mul_le_mul hge hge2
          omega

def pmV (n g e : Nat) : Nat := pmGo 256 n g e 1 % n
theorem pmV_eq (n g e : Nat) (he : e < 2 ^ 256) : pmV n g e = g ^ e % n := by
  unfold pmV
  rw [pmGo_spec n 256 g e 1 he, Nat.one_mul]

def certB (n g : Nat) (qs : List Nat) : Bool := decide (2 < n) && decide (n < 2 ^ 256) && prodL qs == n - 1 && pmV n g (n - 1) == 1 && qs.all fun q => pmV n g ((n - 1) / q) != 1
theorem cert_of {n g : Nat} {qs : List Nat} (h : certB n g qs = true) (hq : ∀ q ∈ qs, Prm q) : Cert n g qs := by
  simp only [certB, Bool.and_eq_true, decide_eq_true_eq, beq_iff_eq, List.all_eq_true, bne_iff_ne, ne_eq] at h
  obtain ⟨⟨⟨⟨h1, h2⟩, h3⟩, h4⟩, h5⟩ := h
  refine ⟨h1, h3, hq, ?_, fun q hq => ?_⟩
  · rw [← pmV_eq n g _ (by omega)]; exact h4
  · have h6 : (n - 1) / q ≤ n - 1 := Nat.div_le_self _ _
    rw [← pmV_eq n g _ (by omega)]; exact h5 q hq

theorem prmB {n : Nat} (k : Nat) (h : (decide (1 < n) && decide (n < (k + 2) * (k + 2)) && noDiv n k 2) = true) : Prm n := by
  simp only [Bool.and_eq_true, decide_eq_true_eq] at h
  exact prm_of k h.1.1 h.1.2 h.2

theorem q2 : Prm 2 := prmB 0 (by decide +kernel)
theorem q3 : Prm 3 := prmB 0 (by decide +kernel)
theorem q5 : Prm 5 := prmB 1 (by decide +kernel)
theorem q7 : Prm 7 := prmB 1 (by decide +kernel)
theorem q13 : Prm 13 := prmB 5 (by decide +kernel)
theorem q19 : Prm 19 := prmB 5 (by decide +kernel)
theorem q31 : Prm 31 := prmB 5 (by decide +kernel)
theorem q47 : Prm 47 := prmB 10 (by decide +kernel)
theorem q107 : Prm 107 := prmB 20 (by decide +kernel)
theorem q127 : Prm 127 := prmB 20 (by decide +kernel)
theorem q223 : Prm 223 := prmB 20 (by decide +kernel)
theorem q353 : Prm 353 := prmB 20 (by decide +kernel)
theorem q2437 : Prm 2437 := prmB 60 (by decide +kernel)
theorem q4153 : Prm 4153 := prmB 70 (by decide +kernel)
theorem q57467 : Prm 57467 := prmB 250 (by decide +kernel)
theorem q65147 : Prm 65147 := prmB 260 (by decide +kernel)
theorem q75707 : Prm 75707 := prmB 280 (by decide +kernel)
theorem q132049 : Prm 132049 := prmB 370 (by decide +kernel)
theorem q430751 : Prm 430751 := prmB 660 (by decide +kernel)
theorem q569003 : Prm 569003 := prmB 760 (by decide +kernel)
theorem q1923133 : Prm 1923133 := prmB 1400 (by decide +kernel)
theorem q8574133 : Prm 8574133 := prmB 3000 (by decide +kernel)
theorem q2773320623 : Prm 2773320623 := (cert_of (g := 5) (qs := [2, 2437, 569003]) (by decide +kernel) (by simp [q2, q2437, q569003])).prime
theorem q72106336199 : Prm 72106336199 := (cert_of (g := 7) (qs := [2, 13, 2773320623]) (by decide +kernel) (by simp [q2, q13, q2773320623])).prime
theorem qA : Prm 1919519569386763 := (cert_of (g := 2) (qs := [2, 3, 7, 19, 47, 47, 127, 8574133]) (by decide +kernel) (by simp [q2, q3, q7, q19, q47, q127, q8574133])).prime
theorem qB : Prm 31757755568855353 := (cert_of (g := 10) (qs := [2, 2, 2, 3, 31, 107, 223, 4153, 430751]) (by decide +kernel) (by simp [q2, q3, q31, q107, q223, q4153, q430751])).prime
theorem qC : Prm 75445702479781427272750846543864801 := (cert_of (g := 7) (qs := [2, 2, 2, 2, 2, 3, 3, 5, 5, 75707, 72106336199, 1919519569386763]) (by decide +kernel) (by simp [q2, q3, q5, q75707, q72106336199, qA])).prime
theorem qD : Prm 74058212732561358302231226437062788676166966415465897661863160754340907 := (cert_of (g := 2) (qs := [2, 3, 353, 57467, 132049, 1923133, 31757755568855353, 75445702479781427272750846543864801]) (by decide +kernel) (by simp [q2, q3, q353, q57467, q132049, q1923133, qB, qC])).prime
theorem pCert : Cert 57896044618658097711785492504343953926634992332820282019728792003956564819949 2 [2, 2, 3, 65147, 74058212732561358302231226437062788676166966415465897661863160754340907] := cert_of (by decide +kernel) (by simp [q2, q3, q65147, qD])

end Go.Proofs.Ytmbeonieabofaaa
