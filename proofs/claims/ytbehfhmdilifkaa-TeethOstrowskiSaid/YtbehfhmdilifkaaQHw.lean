/- Hw -/
import Derived.Test.YtbehfhmdilifkaaQHq
set_option linter.unusedVariables false
/- Plain: the number of digits, digit by digit. -/
namespace Go.Proofs.Ytbehfhmdilifkaa

def zN (l : List Nat) : List Int := l.map fun x => ((x : Nat) : Int)
theorem Val.tail {a c : Nat} {ts cs : List Nat} (h : Val (a :: ts) (c :: cs)) : Val ts cs := by
  cases h with
  | one => exact Val.nil
  | less _ _ _ _ _ _ _ _ hv => exact hv
theorem Val.le {a c : Nat} {ts cs : List Nat} (h : Val (a :: ts) (c :: cs)) : c ≤ a := by
  cases h with
  | one _ _ h => exact Nat.le_of_lt h
  | less _ _ _ _ _ _ h _ _ => exact h
theorem Val.first {a c : Nat} (h : Val [a] [c]) : c < a := by
  cases h with
  | one _ _ h => exact h
theorem Val.zero {a c b d : Nat} {ts cs : List Nat} (h : Val (a :: b :: ts) (c :: d :: cs)) (he : c = a) : d = 0 := by
  cases h with
  | less _ _ _ _ _ _ _ hz _ => exact hz he
theorem take_snoc {l : List Nat} {k x : Nat} (h : l[k]? = some x) : l.take (k + 1) = l.take k ++ [x] := by
  rw [List.take_add_one, h]; rfl
/-- The beginnings of valid digits are valid. -/
theorem Val.pre {T C : List Nat} : ∀ {m : Nat}, Val T.reverse C.reverse → T.length = C.length → m ≤ T.length → Val (T.take (T.length - m)).reverse (C.take (T.length - m)).reverse
  | 0, h, hl, _ => by
    rw [Nat.sub_zero, List.take_length, hl, List.take_length]; exact h
  | m + 1, h, hl, hm => by
    have ih := Val.pre (m := m) h hl (by omega)
    obtain ⟨k, hk⟩ : ∃ k, T.length - (m + 1) = k := ⟨_, rfl⟩
    rw [show T.length - m = k + 1 by omega] at ih
    rw [hk]
    rw [take_snoc (l := T) (List.getElem?_eq_getElem (by omega)), take_snoc (l := C) (List.getElem?_eq_getElem (by omega)), List.reverse_append, List.reverse_append] at ih
    exact ih.tail
theorem Val.at {T C : List Nat} {k : Nat} (h : Val T.reverse C.reverse) (hl : T.length = C.length) (hk : k < T.length) : Val (T[k] :: (T.take k).reverse) (C[k]'(by omega) :: (C.take k).reverse) := by
  have h1 := Val.pre (m := T.length - (k + 1)) h hl (by omega)
  rw [show T.length - (T.length - (k + 1)) = k + 1 by omega] at h1
  rw [take_snoc (l := T) (List.getElem?_eq_getElem hk), take_snoc (l := C) (List.getElem?_eq_getElem (by omega)), List.reverse_append, List.reverse_append] at h1
  exact h1
/-- One more digit. -/
theorem Val.next {T C : List Nat} {k a c : Nat} (h : Val (T.take k).reverse C.reverse) (hC : C.length = k) (ha : T[k]? = some a) (hc : c ≤ a) (h0 : k = 0 → c < a) (h1 : ∀ j d, k = j + 1 → C[j]? = some d → c = a → d = 0) : Val (T.take (k + 1)).reverse (C ++ [c]).reverse := by
  have hk : k < T.length := (List.getElem?_eq_some_iff.1 ha).1
  rw [take_snoc ha, List.reverse_append, List.reverse_append]
  show Val (a :: (T.take k).reverse) (c :: C.reverse)
  rcases k with _ | k
  · have : C = [] := List.eq_nil_of_length_eq_zero hC
    subst this
    exact Val.one _ _ (h0 rfl)
  · obtain ⟨b, hb⟩ : ∃ b, T[k]? = some b := ⟨_, List.getElem?_eq_getElem (by omega)⟩
    obtain ⟨d, hd⟩ : ∃ d, C[k]? = some d := ⟨_, List.getElem?_eq_getElem (by omega)⟩
    have e1 : (T.take (k + 1)).reverse = b :: (T.take k).reverse := by rw [take_snoc hb, List.reverse_append]; rfl
    have e2 : C.reverse = d :: (C.take k).reverse := by
      have : C = C.take k ++ [d] := by rw [← take_snoc hd, ← hC, List.take_length]
      rw [this, List.reverse_append, List.take_append_of_le_length (by simp; omega), List.take_take, Nat.min_self]; rfl
    rw [e1, e2] at h ⊢
    exact Val.less _ _ _ _ _ _ hc (h1 k d rfl hd) h
/-- The digits of terms that come in are valid. -/
def VY (T : List Nat) (Y : List Int) : Prop := ∃ C : List Nat, Y = zN C ∧ Val T.reverse C.reverse
theorem VY.len {T : List Nat} {Y : List Int} (h : VY T Y) : Y.length = T.length := by
  obtain ⟨C, rfl, hv⟩ := h
  have := hv.len
  simp at this
  simp [zN, this]
theorem VY.range {T : List Nat} {Y : List Int} (h : VY T Y) {k a : Nat} {y : Int} (hy : Y[k]? = some y) (ha : T[k]? = some a) : 0 ≤ y ∧ y ≤ a := by
  have hlen := h.len
  obtain ⟨C, rfl, hv⟩ := h
  have hl : T.length = C.length := by simpa [zN] using hlen.symm
  have hk : k < T.length := (List.getElem?_eq_some_iff.1 ha).1
  have h1 := (hv.at hl hk).le
  rw [List.getElem?_eq_getElem hk] at ha
  injection ha with ha
  unfold zN at hy
  rw [List.getElem?_map, List.getElem?_eq_getElem (by omega)] at hy
  simp only [Option.map_some, Option.some.injEq] at hy
  omega
theorem VY.head {T : List Nat} {Y : List Int} (h : VY T Y) {a : Nat} {y : Int} (hy : Y[0]? = some y) (ha : T[0]? = some a) : y < a := by
  have hlen := h.len
  obtain ⟨C, rfl, hv⟩ := h
  have hl : T.length = C.length := by simpa [zN] using hlen.symm
  have hk : 0 < T.length := (List.getElem?_eq_some_iff.1 ha).1
  have h1 := hv.at hl hk
  simp only [List.take_zero, List.reverse_nil] at h1
  have h2 := h1.first
  rw [List.getElem?_eq_getElem hk] at ha
  injection ha with ha
  unfold zN at hy
  rw [List.getElem?_map, List.getElem?_eq_getElem (by omega)] at hy
  simp only [Option.map_some, Option.some.injEq] at hy
  omega
theorem VY.prev {T : List Nat} {Y : List Int} (h : VY T Y) {j a : Nat} {y z : Int} (hy : Y[j + 1]? = some y) (hz : Y[j]? = some z) (ha : T[j + 1]? = some a) (he : y = a) : z = 0 := by
  have hlen := h.len
  obtain ⟨C, rfl, hv⟩ := h
  have hl : T.length = C.length := by simpa [zN] using hlen.symm
  have hk : j + 1 < T.length := (List.getElem?_eq_some_iff.1 ha).1
  have h1 := hv.at hl hk
  rw [take_snoc (l := T) (List.getElem?_eq_getElem (show j < T.length by omega)), take_snoc (l := C) (List.getElem?_eq_getElem (show j < C.length by omega)), List.reverse_append, List.reverse_append] at h1
  rw [List.getElem?_eq_getElem hk] at ha
  injection ha with ha
  unfold zN at hy hz
  rw [List.getElem?_map, List.getElem?_eq_getElem (by omega)] at hy hz
  simp only [Option.map_some, Option.some.injEq] at hy
  simp only [Option.map_some, Option.some.injEq] at hz
  have h2 := h1.zero (by omega)
  omega
theorem nbR_take {Q C : List Nat} {k q c : Nat} (hq : Q[k]? = some q) (hc : C.length = k) : nbR (Q.take (k + 1)).reverse (C ++ [c]).reverse = c * q + nbR (Q.take k).reverse C.reverse := by
  rw [take_snoc hq, List.reverse_append, List.reverse_append]
  rfl
/-- The whole: valid digits are the greedy ones of their number. -/
theorem VY_iff {T Q C : List Nat} (hc : Chain T.reverse Q.reverse) (hC : C.length = T.length) {s : Nat} (hs : nbR (Q.take T.length).reverse C.reverse = s) : VY T (zN C) ↔ (s < Q.getD (Q.length - 1) 0 ∧ dgF Q s = C) := by
  have hQl := hc.len
  simp at hQl
  obtain ⟨q, l, hQ⟩ : ∃ q l, Q.reverse = q :: l := by
    rcases h : Q.reverse with _ | ⟨q, l⟩
    · have h2 : Q.reverse.length = T.length + 1 := by simp; omega
      rw [h] at h2; simp at h2
    · exact ⟨q, l, rfl⟩
  have htop : Q.getD (Q.length - 1) 0 = q := by
    have h1 : Q = l.reverse ++ [q] := by
      have := congrArg List.reverse hQ
      rw [List.reverse_reverse] at this
      rw [this]; simp
    rw [h1]; simp [List.getD]
  have htail : (Q.take T.length).reverse = l := by
    have h1 : Q = l.reverse ++ [q] := by
      have := congrArg List.reverse hQ
      rw [List.reverse_reverse] at this
      rw [this]; simp
    have h2 : T.length = l.reverse.length := by
      have := congrArg List.length h1
      simp at this ⊢; omega
    rw [h1, h2, List.take_left, List.reverse_reverse]
  rw [htail] at hs
  rw [htop]
  have hdg : dgF Q s = (dgR l s).reverse := by unfold dgF; rw [hQ]; rfl
  rw [hdg]
  constructor
  · rintro ⟨C', hC', hv⟩
    have : C = C' := by
      have h1 : ∀ {x y : List Nat}, zN x = zN y → x = y := fun {x y} h => by
        have h2 := congrArg (List.map Int.toNat) h
        unfold zN at h2
        simpa [List.map_map, Function.comp_def] using h2
      exact h1 hC'
    subst this
    have h3 := nbR_lt hv hc hQ
    rw [hs] at h3
    exact ⟨h3.1, by rw [h3.2, List.reverse_reverse]⟩
  · rintro ⟨h1, h2⟩
    refine ⟨C, rfl, ?_⟩
    have h3 := dgR_val hc hQ h1
    rw [← h2, List.reverse_reverse]
    exact h3
theorem VY_sum {T Q C : List Nat} (hc : Chain T.reverse Q.reverse) (hC : C.length = T.length) {s : Nat} (hs : nbR (Q.take T.length).reverse C.reverse = s) (h : VY T (zN C)) : s < Q.getD (Q.length - 1) 0 := ((VY_iff hc hC hs).1 h).1
end Go.Proofs.Ytbehfhmdilifkaa
