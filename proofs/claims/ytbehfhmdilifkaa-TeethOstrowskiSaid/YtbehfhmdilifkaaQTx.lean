/- Tx -/
import Derived.Test.YtbehfhmdilifkaaQTa
set_option linter.unusedVariables false
/- Plain: Ostrowski's digits. -/
namespace Go.Proofs.Ytbehfhmdilifkaa

/-- The denominators behind q, where last is the one before it; false: one is too great. -/
def qGo : Nat → Nat → List Nat → Option (List Nat)
  | _, _, [] => some []
  | last, q, a :: l => if a * q + last ≤ 1000000000 then (qGo q (a * q + last) l).map (fun r => (a * q + last) :: r) else none
/-- q(0) to q(k) of the terms a(1) to a(k). -/
def qOf (l : List Nat) : Option (List Nat) := (qGo 0 1 l).map fun r => 1 :: r
/-- The denominators, whatever their size, the last one first. -/
def qR : List Nat → List Nat
  | [] => [1]
  | a :: l => match qR l with
    | [] => []
    | [q] => [a * q, q]
    | q :: p :: r => (a * q + p) :: q :: p :: r
/-- Ostrowski's digits, the last one first: qr are the denominators below, the greatest first. -/
def dgR : List Nat → Nat → List Nat
  | [], _ => []
  | q :: l, n => n / q :: dgR l (n % q)
/-- The number of digits, the last one first. -/
def nbR : List Nat → List Nat → Nat
  | q :: l, c :: cs => c * q + nbR l cs
  | _, _ => 0
/-- Chains of denominators, the greatest first: next = a · q + the one before. -/
inductive Chain : List Nat → List Nat → Prop
  | one : Chain [] [1]
  | two (a : Nat) (h : 1 ≤ a) : Chain [a] [a, 1]
  | more (a b p q r : Nat) (ts qs : List Nat) (h : 1 ≤ a) (hc : Chain (b :: ts) (q :: p :: qs)) (hr : r = a * q + p) : Chain (a :: b :: ts) (r :: q :: p :: qs)
theorem Chain.pos {ts qs : List Nat} (h : Chain ts qs) : ∀ x ∈ qs, 1 ≤ x := by
  induction h with
  | one => simp
  | two a h => intro x hx; simp at hx; rcases hx with rfl | rfl <;> omega
  | more a b p q r ts qs h hc hr ih =>
    intro x hx
    rw [List.mem_cons] at hx
    rcases hx with rfl | hx
    · have := ih q (by simp); have := ih p (by simp); omega
    · exact ih x hx
theorem Chain.len {ts qs : List Nat} (h : Chain ts qs) : qs.length = ts.length + 1 := by
  induction h with
  | one => rfl
  | two => rfl
  | more _ _ _ _ _ _ _ _ _ _ ih => simp at ih ⊢; omega
/-- Valid digits, the last one first. -/
inductive Val : List Nat → List Nat → Prop
  | nil : Val [] []
  | one (a c : Nat) (h : c < a) : Val [a] [c]
  | less (a c b d : Nat) (ts cs : List Nat) (h : c ≤ a) (hz : c = a → d = 0) (hv : Val (b :: ts) (d :: cs)) : Val (a :: b :: ts) (c :: d :: cs)
theorem Val.len {ts cs : List Nat} (h : Val ts cs) : cs.length = ts.length := by
  induction h with
  | nil => rfl
  | one => rfl
  | less _ _ _ _ _ _ _ _ _ ih => simp at ih ⊢; exact ih
/-- Greedy digits are valid. -/
theorem dgR_val {ts qs : List Nat} (h : Chain ts qs) : ∀ {q : Nat} {l : List Nat} {n : Nat}, qs = q :: l → n < q → Val ts (dgR l n) := by
  induction h with
  | one => intro q l n e hn; injection e with e1 e2; subst e1 e2; exact Val.nil
  | two a h =>
    intro q l n e hn
    injection e with e1 e2
    subst e1 e2
    simp only [dgR]
    exact Val.one _ _ (by rw [Nat.div_one]; exact hn)
  | more a b p q r ts qs h hc hr ih =>
    intro q' l n e hn
    injection e with e1 e2
    subst e1 e2
    have hq : 1 ≤ q := hc.pos q (by simp)
    have hp : 1 ≤ p := hc.pos p (by simp)
    have hmod : n % q < q := Nat.mod_lt _ hq
    have hv := ih rfl hmod
    simp only [dgR] at hv ⊢
    have hdm := Nat.div_add_mod n q
    refine Val.less _ _ _ _ _ _ ?_ (fun he => ?_) hv
    · have h1 : n / q < a + 1 := by
        refine (Nat.div_lt_iff_lt_mul hq).2 ?_
        rw [Nat.add_mul, Nat.one_mul]
        have : p ≤ q := by
          cases hc with
          | two a h => exact h
          | more a b p' q' r ts qs h hc hr =>
            have h7 := Nat.mul_le_mul_right p h
            rw [Nat.one_mul] at h7
            omega
        omega
      omega
    · refine Nat.div_eq_of_lt ?_
      rw [he, Nat.mul_comm q a] at hdm
      omega
/-- Valid digits make up a number below the next denominator; they are its greedy digits. -/
theorem nbR_lt {ts cs : List Nat} (hv : Val ts cs) : ∀ {qs : List Nat} {q : Nat} {l : List Nat}, Chain ts qs → qs = q :: l → nbR l cs < q ∧ dgR l (nbR l cs) = cs := by
  induction hv with
  | nil =>
    intro qs q l h e
    cases h
    injection e with e1 e2
    subst e1 e2
    exact ⟨by simp [nbR], rfl⟩
  | one a c h =>
    intro qs q l hc e
    cases hc with
    | two a h1 =>
      injection e with e1 e2
      subst e1 e2
      simp only [nbR, dgR, Nat.mul_one, Nat.add_zero, Nat.div_one]
      exact ⟨h, trivial⟩
  | less a c b d ts cs h hz hv ih =>
    intro qs q l hc e
    cases hc with
    | more a b p q' r ts qs h1 hc hr =>
      injection e with e1 e2
      subst e1 e2
      have h2 := ih hc rfl
      have hq : 1 ≤ q' := hc.pos q' (by simp)
      obtain ⟨n, hn⟩ : ∃ n, nbR (p :: qs) (d :: cs) = n := ⟨_, rfl⟩
      have hn2 : nbR (q' :: p :: qs) (c :: d :: cs) = c * q' + n := by rw [← hn]; rfl
      rw [hn] at h2
      rw [hn2]
      refine ⟨?_, ?_⟩
      · rw [hr]
        by_cases he : c = a
        · have hd := hz he
          subst hd
          subst he
          have h3 : n < p := by
            have h4 : n = nbR qs cs := by rw [← hn]; simp [nbR]
            have h5 := h2.2
            -- the next digits are below p
            rw [h4] at h5 ⊢
            simp only [dgR] at h5
            injection h5 with h6 h7
            have hp : 1 ≤ p := hc.pos p (by simp)
            rcases Nat.lt_or_ge (nbR qs cs) p with h8 | h8
            · exact h8
            · have := Nat.div_pos h8 hp; omega
          omega
        · have h3 : c * q' + q' ≤ a * q' := by
            have : (c + 1) * q' ≤ a * q' := Nat.mul_le_mul_right q' (by omega)
            rw [Nat.add_mul, Nat.one_mul] at this
            exact this
          omega
      · simp only [dgR]
        have h3 : (c * q' + n) / q' = c := by
          rw [Nat.mul_comm, Nat.mul_add_div hq, Nat.div_eq_of_lt h2.1, Nat.add_zero]
        have h4 : (c * q' + n) % q' = n := by
          rw [Nat.mul_comm, Nat.mul_add_mod, Nat.mod_eq_of_lt h2.1]
        rw [h3, h4]
        congr 1
        exact h2.2
/-- The number of greedy digits. -/
theorem nbR_dgR {ts qs : List Nat} (h : Chain ts qs) : ∀ {q : Nat} {l : List Nat} {n : Nat}, qs = q :: l → n < q → nbR l (dgR l n) = n := by
  induction h with
  | one => intro q l n e hn; injection e with e1 e2; subst e1 e2; simp [nbR]; omega
  | two a h =>
    intro q l n e hn
    injection e with e1 e2
    subst e1 e2
    simp [nbR, dgR]
  | more a b p q r ts qs h hc hr ih =>
    intro q' l n e hn
    injection e with e1 e2
    subst e1 e2
    have hq : 1 ≤ q := hc.pos q (by simp)
    have h2 := ih rfl (Nat.mod_lt n hq)
    have e1 : nbR (q :: p :: qs) (dgR (q :: p :: qs) n) = n / q * q + nbR (p :: qs) (dgR (p :: qs) (n % q)) := rfl
    rw [e1, h2]
    have := Nat.div_add_mod n q
    rw [Nat.mul_comm] at this
    exact this
/-- Greater numbers have greater digits, compared from the last one on. -/
def lexL : List Nat → List Nat → Bool
  | c :: cs, d :: ds => decide (c < d) || (decide (c = d) && lexL cs ds)
  | _, _ => false
theorem dgR_lex {ts qs : List Nat} (h : Chain ts qs) : ∀ {q : Nat} {l : List Nat} {n m : Nat}, qs = q :: l → n < m → m < q → lexL (dgR l n) (dgR l m) = true := by
  induction h with
  | one => intro q l n m e hn hm; injection e with e1 e2; subst e1 e2; omega
  | two a h =>
    intro q l n m e hn hm
    injection e with e1 e2
    subst e1 e2
    simp only [dgR, lexL, Nat.div_one]
    rw [decide_eq_true hn]; rfl
  | more a b p q r ts qs h hc hr ih =>
    intro q' l n m e hn hm
    injection e with e1 e2
    subst e1 e2
    have hq : 1 ≤ q := hc.pos q (by simp)
    have e1 : dgR (q :: p :: qs) n = n / q :: dgR (p :: qs) (n % q) := rfl
    have e2 : dgR (q :: p :: qs) m = m / q :: dgR (p :: qs) (m % q) := rfl
    rw [e1, e2]
    simp only [lexL]
    have hle : n / q ≤ m / q := Nat.div_le_div_right (by omega)
    rcases Nat.lt_or_ge (n / q) (m / q) with h1 | h1
    · rw [decide_eq_true h1]; rfl
    · have he : n / q = m / q := by omega
      rw [decide_eq_true he]
      have hn1 := Nat.div_add_mod n q
      have hm1 := Nat.div_add_mod m q
      rw [he] at hn1
      have hlt : n % q < m % q := by omega
      rw [ih rfl hlt (Nat.mod_lt _ hq)]
      simp
end Go.Proofs.Ytbehfhmdilifkaa
