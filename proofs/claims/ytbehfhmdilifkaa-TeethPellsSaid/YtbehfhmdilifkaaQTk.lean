/- Tk -/
import Derived.Test.YtbehfhmdilifkaaQTi
set_option linter.unusedVariables false
/- Plain: the solutions of Pell's equation for the numbers up to 1000, by reckoning. -/
namespace Go.Proofs.Ytbehfhmdilifkaa

/-- Numerator and denominator of a convergent, and of the one before it. -/
abbrev Cv := Nat × Nat × Nat × Nat
def cvStep (s : Cv) (a : Nat) : Cv := (a * s.1 + s.2.1, s.1, a * s.2.2.1 + s.2.2.2, s.2.2.1)
def cvB : Nat := 10000000000000000000000000000000000000000000000000000000000000000000000000000000000000000000000000000
def stOk (s : Cv) : Bool := decide (s.1 < cvB) && decide (s.2.1 < cvB) && decide (s.2.2.1 < cvB) && decide (s.2.2.2 < cvB)
def allOk : Cv → List Nat → Bool
  | s, [] => stOk s
  | s, a :: l => stOk s && decide (a ≤ 100) && allOk (cvStep s a) l
def cvEnd (s : Cv) (l : List Nat) : Cv := l.foldl cvStep s
/-- A solution of Pell's equation. -/
def isSol (d : Nat) (neg : Bool) (x y : Nat) : Bool := (if neg then decide (x * x + 1 = d * (y * y)) else decide (x * x = d * (y * y) + 1)) && decide (0 < y)
/-- The first convergent with the value that is asked for. -/
def refGo (d : Nat) (neg : Bool) : Cv → List Nat → Option (Nat × Nat)
  | s, l =>
    if isSol d neg s.1 s.2.2.1 then some (s.1, s.2.2.1)
    else match l with
      | [] => none
      | a :: l => refGo d neg (cvStep s a) l
def cv0 (n : Nat) : Cv := (n, 1, 1, 0)
/-- The program's terms: one period, or two, without the last term. -/
def pellL (d : Nat) (neg : Bool) : List Nat := (if !neg && decide ((per d).length % 2 = 1) then per d ++ per d else per d).dropLast
/-- The program's solution. -/
def pellV (d : Nat) (neg : Bool) : Nat × Nat := ((cvEnd (cv0 (sq32 d)) (pellL d neg)).1, (cvEnd (cv0 (sq32 d)) (pellL d neg)).2.2.1)
/-- Is there a solution? -/
def pellIs (d : Nat) (neg : Bool) : Bool := !neg || decide ((per d).length % 2 = 1)
def pellOk1 (d : Nat) (neg : Bool) : Bool :=
  if pellIs d neg then allOk (cv0 (sq32 d)) (pellL d neg) && decide (refGo d neg (cv0 (sq32 d)) (per d ++ per d) = some (pellV d neg)) && decide (0 < (pellV d neg).1) && decide (0 < (pellV d neg).2)
  else decide (refGo d neg (cv0 (sq32 d)) (per d ++ per d) = none)
def pellOk (d : Nat) : Bool := decide (sq32 d * sq32 d = d) || (pellOk1 d false && pellOk1 d true && allOk (cv0 (sq32 d)) (per d ++ per d) &&
  (!pellIs d true || (decide ((pellV d false).1 = (pellV d true).1 * (pellV d true).1 + d * ((pellV d true).2 * (pellV d true).2)) && decide ((pellV d false).2 = 2 * ((pellV d true).1 * (pellV d true).2)))))
theorem pell_all : (List.range 1001).all (fun d => pellOk d || decide (d < 2)) = true := by kernel_rfl
theorem pell_ok {d : Nat} (h2 : 2 ≤ d) (h3 : d ≤ 1000) (hs : ¬ fl d * fl d = d) : pellOk1 d false = true ∧ pellOk1 d true = true ∧ allOk (cv0 (sq32 d)) (per d ++ per d) = true ∧
    (pellIs d true = true → (pellV d false).1 = (pellV d true).1 * (pellV d true).1 + d * ((pellV d true).2 * (pellV d true).2) ∧ (pellV d false).2 = 2 * ((pellV d true).1 * (pellV d true).2)) := by
  have h := List.all_eq_true.1 pell_all d (List.mem_range.2 (by omega))
  rw [fl_small h2 h3] at hs
  unfold pellOk at h
  simp only [Bool.or_eq_true, Bool.and_eq_true, decide_eq_true_eq] at h
  rcases h with (h | ⟨⟨⟨h4, h5⟩, h6⟩, h7⟩) | h
  · exact absurd h hs
  · refine ⟨h4, h5, h6, fun h8 => ?_⟩
    rw [h8] at h7
    simpa using h7
  · omega
/-- What holds of the program's solution. -/
theorem pell_is {d : Nat} {neg : Bool} (h : pellOk1 d neg = true) (hi : pellIs d neg = true) : allOk (cv0 (sq32 d)) (pellL d neg) = true ∧ refGo d neg (cv0 (sq32 d)) (per d ++ per d) = some (pellV d neg) ∧ 0 < (pellV d neg).1 ∧ 0 < (pellV d neg).2 := by
  unfold pellOk1 at h
  rw [if_pos hi] at h
  simp only [Bool.and_eq_true, decide_eq_true_eq] at h
  obtain ⟨⟨⟨h1, h2⟩, h3⟩, h4⟩ := h
  exact ⟨h1, h2, h3, h4⟩
theorem pell_not {d : Nat} {neg : Bool} (h : pellOk1 d neg = true) (hi : pellIs d neg = false) : refGo d neg (cv0 (sq32 d)) (per d ++ per d) = none := by
  unfold pellOk1 at h
  rw [if_neg (by rw [hi]; simp)] at h
  simpa using h
theorem refGo_eq (d : Nat) (neg : Bool) (s : Cv) (l : List Nat) : refGo d neg s l = if isSol d neg s.1 s.2.2.1 then some (s.1, s.2.2.1) else match l with | [] => none | a :: l => refGo d neg (cvStep s a) l := by
  cases l <;> rfl
/-- What the search finds is a solution. -/
theorem refGo_sol {d : Nat} {neg : Bool} {s : Cv} {l : List Nat} {x y : Nat} (h : refGo d neg s l = some (x, y)) : isSol d neg x y = true := by
  induction l generalizing s with
  | nil =>
    rw [refGo_eq] at h
    by_cases hc : isSol d neg s.1 s.2.2.1 = true
    · rw [if_pos hc] at h
      injection h with h
      injection h with h1 h2
      subst h1 h2
      exact hc
    · rw [if_neg hc] at h
      cases h
  | cons a l ih =>
    rw [refGo_eq] at h
    by_cases hc : isSol d neg s.1 s.2.2.1 = true
    · rw [if_pos hc] at h
      injection h with h
      injection h with h1 h2
      subst h1 h2
      exact hc
    · rw [if_neg hc] at h
      exact ih h
end Go.Proofs.Ytbehfhmdilifkaa
