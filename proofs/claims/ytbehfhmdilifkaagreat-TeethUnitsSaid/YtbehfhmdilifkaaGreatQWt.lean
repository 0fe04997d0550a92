/- Np -/
import Derived.Test.YtbehfhmdilifkaaGreatQWn
import Derived.Test.YtbehfhmdilifkaaGreatQWo
set_option linter.unusedVariables false
/- The text of a valid text's number is that text. Plain. -/
namespace Go.Proofs.YtbehfhmdilifkaaGreat
open Go

theorem app_list (s t : ByteArray) : (s ++ t).data.toList = s.data.toList ++ t.data.toList := by
  rw [ByteArray.data_append, Array.toList_append]
theorem emp_app (s : ByteArray) : (⟨#[]⟩ : ByteArray) ++ s = s := by
  apply ba_ext; rw [app_list]; rfl
theorem app_emp (s : ByteArray) : s ++ (⟨#[]⟩ : ByteArray) = s := by
  apply ba_ext; rw [app_list]; exact List.append_nil _
theorem whole_text (s : ByteArray) : s = (if minus s then ⟨#[45]⟩ else ⟨#[]⟩) ++ bare s ++ (if stroke s then ⟨#[47]⟩ ++ under s else ⟨#[]⟩) := by
  obtain ⟨p, hp⟩ := fs_ex0 (tail s)
  obtain ⟨q1, q2, q3, q4⟩ := parts hp
  have hsz : ∀ t : ByteArray, t.data.toList.length = t.size := fun t => by rw [Array.length_toList]; rfl
  have h1 : s = (if minus s then ⟨#[45]⟩ else ⟨#[]⟩) ++ tail s := by
    apply ba_ext
    rw [app_list, q1]
    unfold tail
    by_cases hm : mns s = true
    · rw [if_pos hm, if_pos hm, sub_list]
      have := of_decide_eq_true hm
      cases hl : s.data.toList with
      | nil => rw [hl] at this; cases this
      | cons a l =>
        rw [hl] at this
        simp at this
        subst this
        rfl
    · rw [if_neg hm, if_neg hm]; rfl
  have h2 : tail s = bare s ++ (if stroke s then ⟨#[47]⟩ ++ under s else ⟨#[]⟩) := by
    apply ba_ext
    rw [app_list, q2, ext_list, q3]
    by_cases hst : p < (tail s).size
    · rw [if_pos (decide_eq_true hst), app_list, q4 hst, ext_list, List.take_of_length_le (l := (tail s).data.toList) (i := (tail s).size) (by rw [hsz]; exact Nat.le_refl _)]
      have hc := hp.2.2.2 hst
      have hlt : p < (tail s).data.toList.length := by rw [hsz]; exact hst
      have hg : (tail s).data.toList[p]'hlt = 47 := by
        rw [List.getElem?_eq_getElem hlt] at hc
        injection hc
      have h3 : (tail s).data.toList.drop p = 47 :: (tail s).data.toList.drop (p + 1) := by
        rw [List.drop_eq_getElem_cons hlt, hg]
      show _ = List.drop 0 (List.take p _) ++ ([47] ++ List.drop (p + 1) _)
      rw [List.drop_zero, List.singleton_append, ← h3, List.take_append_drop]
    · have : p = (tail s).size := by have := hp.2.1; omega
      rw [if_neg (by simpa using hst), List.drop_zero, List.take_of_length_le (by rw [hsz]; omega)]
      show _ = _ ++ []
      rw [List.append_nil]
  rw [ByteArray.append_assoc, ← h2]
  exact h1

/-- A valid text is its number's text. -/
theorem nt_parse {s : ByteArray} (h : parseOK s) : nt (parseQ s) = s := by
  have hw := whole_text s
  have e1 : sdec (rn (parseQ s)) = bare s := by
    rw [parse_rn h]
    unfold sdec
    rw [natAbs_pz]
    unfold pn
    exact dec_rv h.1
  have hng : ng (rn (parseQ s)) = minus s := by
    rw [parse_rn h]
    unfold pz
    by_cases hm : minus s = true
    · have hn : pn s ≠ 0 := fun e => h.2.2 ⟨hm, e⟩
      rw [hm]
      unfold sgn ng
      simp
      omega
    · have : minus s = false := by simpa using hm
      rw [this]
      unfold sgn ng
      simp
  unfold nt
  rw [e1, hng]
  by_cases hs : stroke s = true
  · have e2 : sdec (rd (parseQ s)) = under s := by
      rw [parse_rd h]
      unfold sdec pden
      rw [if_pos hs, Int.natAbs_natCast]
      unfold pd
      exact dec_rv (h.2.1 hs).1
    have hi : isInt (parseQ s) = false := by
      unfold isInt
      rw [parse_rd h]
      unfold pden
      rw [if_pos hs]
      have := (h.2.1 hs).2.1
      exact decide_eq_false (by omega)
    rw [hi, e2]
    rw [hs] at hw
    conv => rhs; rw [hw]
    by_cases hm : minus s = true
    · rw [hm]; simp [ByteArray.append_assoc]
    · have : minus s = false := by simpa using hm
      rw [this]; simp [ByteArray.append_assoc, emp_app]
  · have hs2 : stroke s = false := by simpa using hs
    have hi : isInt (parseQ s) = true := by
      unfold isInt
      rw [parse_rd h]
      unfold pden
      rw [hs2]
      rfl
    rw [hi]
    rw [hs2] at hw
    conv => rhs; rw [hw]
    by_cases hm : minus s = true
    · rw [hm]; simp [app_emp]
    · have : minus s = false := by simpa using hm
      rw [this]; simp [emp_app, app_emp]

end Go.Proofs.YtbehfhmdilifkaaGreat
