/- Pn -/
import Derived.Test.YtbehfhmdilifkaaGreatQWt
import Derived.Test.YtbehfhmdilifkaaGreatQWp
set_option linter.unusedVariables false
/- A number's text is read back as that number. Plain. -/
namespace Go.Proofs.YtbehfhmdilifkaaGreat
open Go

theorem size_list (t : ByteArray) : t.data.toList.length = t.size := by rw [Array.length_toList]; rfl
theorem get_list (s : ByteArray) {i : Nat} (h : i < s.size) : s.data.toList[i]? = some (s[i]'h) := by
  rw [Array.getElem?_toList]
  exact Array.getElem?_eq_getElem h
theorem dec_list {N : Nat} (h : N ≠ 0) : (dec N).data.toList = (digs 10 N).reverse.map fun d => UInt8.ofNat (48 + d) := by
  unfold dec
  rw [if_neg h]
  show (bl N).reverse.map UInt8.ofNat = _
  unfold bl
  rw [← List.map_reverse, List.map_map]
  rfl
theorem byte_nat {d : Nat} (h : d < 10) : (UInt8.ofNat (48 + d)).toNat = 48 + d := by
  rw [UInt8.toNat_ofNat']
  omega
theorem dec_bytes (N : Nat) : ∀ b ∈ (dec N).data.toList, 48 ≤ b.toNat ∧ b.toNat ≤ 57 := fun b hb => by
  by_cases h : N = 0
  · subst h
    have : b ∈ [(48 : UInt8)] := hb
    rw [List.mem_singleton.1 this]
    decide
  · rw [dec_list h] at hb
    obtain ⟨d, hd, rfl⟩ := List.mem_map.1 hb
    have h1 := digs_lt two_le_10 N d (List.mem_reverse.1 hd)
    rw [byte_nat h1]
    omega
theorem dec_digs (N : Nat) : Digs (dec N) (dec N).size := fun i hi _ => dec_bytes N _ (List.mem_of_getElem? (get_list (dec N) hi))
theorem dg_dec {N i : Nat} (hN : N ≠ 0) (h : i < (digs 10 N).reverse.length) : dg (dec N) i = (digs 10 N).reverse[i] := by
  have hl := dec_list hN
  have hs : i < (dec N).size := by rw [← size_list, hl, List.length_map]; exact h
  have h1 := get_list (dec N) hs
  rw [hl, List.getElem?_map, List.getElem?_eq_getElem h] at h1
  injection h1 with h1
  unfold dg
  rw [dif_pos hs, ← h1, byte_nat (digs_lt two_le_10 N _ (List.mem_reverse.1 (List.getElem_mem h)))]
  omega
theorem dec_sz {N : Nat} (hN : N ≠ 0) : (dec N).size = (digs 10 N).reverse.length := by rw [← size_list, dec_list hN, List.length_map]
theorem digs_ne {N : Nat} (hN : N ≠ 0) : 0 < (digs 10 N).reverse.length := by
  rw [List.length_reverse, digs_pos two_le_10 hN]
  simp
theorem dg_first {N : Nat} (hN : N ≠ 0) : dg (dec N) 0 ≠ 0 := by
  rw [dg_dec hN (digs_ne hN)]
  refine digs_last two_le_10 N _ ?_
  rw [← List.head?_reverse, List.head?_eq_getElem?, List.getElem?_eq_getElem (digs_ne hN)]
theorem rv_dec (N : Nat) : rv (dec N) (dec N).size = N := by
  by_cases hN : N = 0
  · subst hN; rfl
  · obtain ⟨k, hk⟩ : ∃ k, (dec N).size = k + 1 := ⟨(dec N).size - 1, by have := dec_sz hN; have := digs_ne hN; omega⟩
    obtain ⟨h1, _⟩ := digs_rv (dec_digs N) (dg_first hN) k
    have h2 : (List.range (k + 1)).map (dg (dec N)) = (digs 10 N).reverse := by
      apply List.ext_getElem
      · rw [List.length_map, List.length_range, ← hk, dec_sz hN]
      · intro i h3 h4
        rw [List.getElem_map, List.getElem_range, dg_dec hN h4]
    rw [h2, List.reverse_reverse] at h1
    rw [hk, ← val_digs two_le_10 (rv (dec N) (k + 1)), h1, val_digs two_le_10]
theorem L_of_p10 {N j : Nat} (h : N < p10 j) : L 10 N ≤ j := L_le_of_lt two_le_10 j N h
theorem dec_read {N : Nat} (h : L 10 N ≤ 4000) : readOK (dec N) := by
  by_cases hN : N = 0
  · subst hN
    exact read1_48
  · have hd := dec_sz hN
    have hp := digs_ne hN
    refine ⟨dec_digs N, by omega, fun ⟨⟨h0, h1⟩, _⟩ => ?_, ?_⟩
    · have h2 := dg_first hN
      rw [dg, dif_pos h0] at h2
      omega
    · rw [hd, List.length_reverse]; exact h
where
  read1_48 : readOK (dec 0) := by
    refine ⟨dec_digs 0, (show (1 : Nat) ≠ 0 by decide), fun h => absurd h.2 (show ¬ (1 : Nat) < 1 by decide), (show (1 : Nat) ≤ 4000 by decide)⟩

/-- The parts of a text that is put together. -/
theorem split_text (m st : Bool) (D E s : ByteArray) (hD : ∀ b ∈ D.data.toList, b ≠ 45 ∧ b ≠ 47) (h0 : 0 < D.size) (hs : s.data.toList = (if m then [45] else []) ++ (D.data.toList ++ (if st then 47 :: E.data.toList else []))) :
    minus s = m ∧ bare s = D ∧ stroke s = st ∧ (st = true → under s = E) := by
  have hl := size_list D
  obtain ⟨d, ds, hds⟩ : ∃ d ds, D.data.toList = d :: ds := by
    cases h : D.data.toList with
    | nil => rw [h] at hl; simp at hl; omega
    | cons d ds => exact ⟨d, ds, rfl⟩
  have hm : mns s = m := by
    unfold mns
    rw [hs]
    cases m
    · rw [hds]
      have := (hD d (by rw [hds]; exact List.mem_cons_self ..)).1
      simp [this]
    · simp
  have ht : (tail s).data.toList = D.data.toList ++ (if st then 47 :: E.data.toList else []) := by
    unfold tail
    rw [hm]
    cases m
    · rw [if_neg (by decide), hs]; rfl
    · rw [if_pos rfl, sub_list, hs]; rfl
  have hts : (tail s).size = D.size + (if st then 47 :: E.data.toList else []).length := by rw [← size_list, ht, List.length_append, hl]
  have hfs : IsFs (tail s) 0 D.size := by
    refine ⟨Nat.zero_le _, by omega, fun k _ hk h => ?_, fun hlt => ?_⟩
    · rw [ht, List.getElem?_append_left (by omega)] at h
      exact (hD 47 (List.mem_of_getElem? h)).2 rfl
    · rw [ht, List.getElem?_append_right (by omega), hl, Nat.sub_self]
      cases st
      · simp at hts; omega
      · rfl
  obtain ⟨q1, q2, q3, q4⟩ := parts hfs
  refine ⟨by rw [q1, hm], ?_, ?_, fun h => ?_⟩
  · rw [q2]
    apply ba_ext
    rw [ext_list, ht, List.drop_zero, List.take_append_of_le_length (by omega), List.take_of_length_le (by omega)]
  · rw [q3, hts]
    cases st
    · simp
    · simp
  · subst h
    have hlt : D.size < (tail s).size := by rw [hts]; simp
    rw [q4 hlt]
    apply ba_ext
    rw [ext_list, List.take_of_length_le (by rw [size_list]; exact Nat.le_refl _), ht]
    have e : D.data.toList ++ (if true = true then 47 :: E.data.toList else []) = (D.data.toList ++ [47]) ++ E.data.toList := by simp
    rw [e, List.drop_left' (by simp)]

theorem digit_sep {b : UInt8} (h : 48 ≤ b.toNat ∧ b.toNat ≤ 57) : b ≠ 45 ∧ b ≠ 47 := by
  constructor
  · rintro rfl; exact absurd h.1 (by decide)
  · rintro rfl; exact absurd h.1 (by decide)
theorem nt_list (q : Rat) : (nt q).data.toList = (if ng (rn q) then [45] else []) ++ ((sdec (rn q)).data.toList ++ (if !isInt q then 47 :: (sdec (rd q)).data.toList else [])) := by
  unfold nt
  cases isInt q <;> cases ng (rn q) <;> simp
theorem dec_pos (N : Nat) : 0 < (dec N).size := by
  rw [dec_size]
  by_cases h : N = 0
  · rw [if_pos h]; omega
  · rw [if_neg h]
    have := digs_ne h
    rw [List.length_reverse] at this
    exact this
/-- The text of a number is a valid text, and its number is that number. -/
theorem parse_nt {q : Rat} (h : Short4 q) : parseOK (nt q) ∧ parseQ (nt q) = q := by
  obtain ⟨h1, h2, h3, h4⟩ := split_text (ng (rn q)) (!isInt q) (sdec (rn q)) (sdec (rd q)) (nt q) (fun b hb => digit_sep (dec_bytes _ b hb)) (dec_pos _) (nt_list q)
  have r1 : readOK (sdec (rn q)) := dec_read (L_of_p10 h.1)
  have r2 : readOK (sdec (rd q)) := dec_read (L_of_p10 h.2)
  have e1 : pn (nt q) = (rn q).natAbs := by unfold pn; rw [h2]; exact rv_dec _
  have hrd := rd_pos q
  have e2 : stroke (nt q) = true → pd (nt q) = q.den := fun hs => by
    unfold pd
    rw [h4 (by rw [← h3]; exact hs)]
    have := rv_dec (rd q).natAbs
    unfold sdec
    rw [this]
    unfold rd
    exact Int.natAbs_natCast _
  have hi : stroke (nt q) = true → 1 < q.den := fun hs => by
    rw [h3] at hs
    have h5 : isInt q = false := by simpa using hs
    unfold isInt at h5
    have h6 := of_decide_eq_false h5
    unfold rd at h6
    have := q.den_pos
    omega
  refine ⟨⟨by rw [h2]; exact r1, fun hs => ⟨by rw [h4 (by rw [← h3]; exact hs)]; exact r2, by rw [e2 hs]; exact hi hs, ?_⟩, fun hm => ?_⟩, ?_⟩
  · rw [e1, e2 hs]
    exact q.reduced
  · rw [h1, e1] at hm
    have h5 := of_decide_eq_true hm.1
    have h6 := hm.2
    omega
  · have e3 : pz (nt q) = rn q := by
      unfold pz
      rw [h1, e1]
      exact sgn_ng _
    have e4 : pden (nt q) = rd q := by
      unfold pden
      by_cases hs : stroke (nt q) = true
      · rw [if_pos hs, e2 hs]; rfl
      · rw [if_neg hs]
        have hs2 : stroke (nt q) = false := by simpa using hs
        rw [h3] at hs2
        have h5 : isInt q = true := by simpa using hs2
        unfold isInt at h5
        exact (of_decide_eq_true h5).symm
    unfold parseQ
    rw [e3, e4]
    exact rat_eq q

end Go.Proofs.YtbehfhmdilifkaaGreat
