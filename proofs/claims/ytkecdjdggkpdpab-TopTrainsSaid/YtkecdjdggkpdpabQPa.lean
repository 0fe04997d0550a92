/- Ja Jb Jc Jd Je Jf Jg Jh -/

set_option linter.unusedVariables false
/- Pairs of rows and columns: what the search for ways finds. Plain. -/
namespace Go.Proofs.Ytkecdjdggkpdpab

/-- Element j of a list of numbers. -/
def at0 (l : List Int) (j : Nat) : Int := l[j]?.getD 0
theorem at0_of {l : List Int} {j : Nat} {x : Int} (h : l[j]? = some x) : at0 l j = x := by unfold at0; rw [h]; rfl
theorem at0_get {l : List Int} {j : Nat} (h : j < l.length) : l[j]? = some (at0 l j) := by unfold at0; rw [List.getElem?_eq_getElem h]; rfl

/-- The search from a row, from a column on: who has which column, which columns were seen; before and behind. -/
inductive Try (A : Nat → Nat → Bool) (n : Nat) : Nat → Nat → List Int → List Bool → Bool → List Int → List Bool → Prop
  | stop {i : Nat} {r : List Int} {s : List Bool} : Try A n n i r s false r s
  | skip {j i : Nat} {r : List Int} {s : List Bool} {b : Bool} {r' : List Int} {s' : List Bool} : j < n → (A i j = false ∨ s[j]? = some true) → Try A n (j + 1) i r s b r' s' → Try A n j i r s b r' s'
  | free {j i : Nat} {r : List Int} {s : List Bool} : j < n → A i j = true → s[j]? = some false → at0 r j < 0 → Try A n j i r s true (r.set j (i : Int)) (s.set j true)
  | yes {j i k : Nat} {r : List Int} {s : List Bool} {r' : List Int} {s' : List Bool} : j < n → A i j = true → s[j]? = some false → at0 r j = (k : Int) → Try A n 0 k r (s.set j true) true r' s' → Try A n j i r s true (r'.set j (i : Int)) s'
  | no {j i k : Nat} {r : List Int} {s : List Bool} {r' : List Int} {s' : List Bool} {b : Bool} {r'' : List Int} {s'' : List Bool} : j < n → A i j = true → s[j]? = some false → at0 r j = (k : Int) → Try A n 0 k r (s.set j true) false r' s' →
      Try A n (j + 1) i r' s' b r'' s'' → Try A n j i r s b r'' s''

theorem set_true {s : List Bool} {x : Nat} (j : Nat) (h : s[x]? = some true) : (s.set j true)[x]? = some true := by
  rw [List.getElem?_set]
  split
  · rename_i e
    subst e
    rw [if_pos (List.getElem?_eq_some_iff.1 h).1]
  · exact h
theorem set_self {s : List Bool} {j : Nat} {b : Bool} (h : s[j]? = some b) : (s.set j true)[j]? = some true := by
  rw [List.getElem?_set_self (List.getElem?_eq_some_iff.1 h).1]
theorem set_inv {s : List Bool} {j x : Nat} (h : (s.set j true)[x]? = some true) : x = j ∨ s[x]? = some true := by
  rw [List.getElem?_set] at h
  split at h
  · left; omega
  · exact .inr h

/-- What a search leaves. -/
structure TryP (A : Nat → Nat → Bool) (n j i : Nat) (r : List Int) (s : List Bool) (b : Bool) (r' : List Int) (s' : List Bool) : Prop where
  lr : r'.length = r.length
  ls : s'.length = s.length
  up : ∀ x : Nat, s[x]? = some true → s'[x]? = some true
  far : ∀ x : Nat, s[x]? = some true → r'[x]? = r[x]?
  same : b = false → r' = r
  all : b = false → ∀ x : Nat, j ≤ x → x < n → A i x = true → s'[x]? = some true
  shut : b = false → ∀ x : Nat, s'[x]? = some true → s[x]? = some true ∨ ∃ k : Nat, r[x]? = some (k : Int) ∧ ∀ y, y < n → A k y = true → s'[y]? = some true
  cnt : b = true → ∀ v : Nat, r'.count (v : Int) = r.count (v : Int) + if v = i then 1 else 0
  ok : b = true → (∀ x k : Nat, r[x]? = some (k : Int) → A k x = true) → ∀ x k : Nat, r'[x]? = some (k : Int) → A k x = true

theorem count_set_nat {r : List Int} {j i : Nat} (hj : j < r.length) (v : Nat) :
    (r.set j (i : Int)).count (v : Int) = r.count (v : Int) - (if r[j] = (v : Int) then 1 else 0) + (if v = i then 1 else 0) := by
  rw [List.count_set hj]
  have h1 : (if (r[j] == (v : Int)) = true then 1 else 0) = if r[j] = (v : Int) then 1 else 0 := by simp
  have h2 : (if (((i : Int) == (v : Int)) = true) then 1 else 0) = if v = i then 1 else 0 := by
    by_cases h : v = i
    · subst h; simp
    · rw [if_neg h, if_neg]; simp; omega
  rw [h1, h2]

theorem count_two {r : List Int} {a b : Nat} {v : Int} (ha : r[a]? = some v) (hb : r[b]? = some v) (h : a < b) : 2 ≤ r.count v := by
  have h1 : r = r.take b ++ r.drop b := (List.take_append_drop b r).symm
  rw [h1, List.count_append]
  have h2 : v ∈ r.take b := List.mem_of_getElem? (i := a) (by rw [List.getElem?_take, if_pos h]; exact ha)
  have h3 : v ∈ r.drop b := List.mem_of_getElem? (i := 0) (by rw [List.getElem?_drop]; exact hb)
  have := List.count_pos_iff.2 h2
  have := List.count_pos_iff.2 h3
  omega
theorem count_pos_at {r : List Int} {j : Nat} {k : Int} (h : r[j]? = some k) : 1 ≤ r.count k :=
  List.count_pos_iff.2 (List.mem_of_getElem? h)

theorem Try.good {A : Nat → Nat → Bool} {n j i : Nat} {r : List Int} {s : List Bool} {b : Bool} {r' : List Int} {s' : List Bool} (h : Try A n j i r s b r' s') (hr : r.length = n) (hs : s.length = n) : TryP A n j i r s b r' s' := by
  induction h with
  | stop => exact ⟨rfl, rfl, fun _ h => h, fun _ _ => rfl, fun _ => rfl, fun _ x h1 h2 => by omega, fun _ x h => .inl h, fun h => (by cases h), fun h => (by cases h)⟩
  | @skip j i r s b r' s' hj hw ht ih =>
    obtain ⟨a1, a2, a3, a4, a5, a6, a7, a8, a9⟩ := ih hr hs
    refine ⟨a1, a2, a3, a4, a5, fun hb x h1 h2 h3 => ?_, a7, a8, a9⟩
    by_cases e : x = j
    · subst e
      rcases hw with hw | hw
      · rw [hw] at h3; cases h3
      · exact a3 x hw
    · exact a6 hb x (by omega) h2 h3
  | @free j i r s hj hA hsj hneg =>
    have hjr : j < r.length := by omega
    have hg := at0_get hjr
    refine ⟨List.length_set .., List.length_set .., fun x h => set_true j h, fun x h => ?_, fun h => (by cases h), fun h => (by cases h), fun h => (by cases h), fun _ v => ?_, fun _ hok x k hk => ?_⟩
    · rw [List.getElem?_set_ne]
      rintro rfl; rw [hsj] at h; cases h
    · rw [count_set_nat hjr, if_neg]
      · rfl
      · rw [List.getElem?_eq_getElem hjr] at hg
        injection hg with hg
        omega
    · rw [List.getElem?_set] at hk
      split at hk
      · rename_i e
        subst e
        injection hk with hk
        have : k = i := by omega
        subst this; exact hA
      · exact hok x k hk
  | @yes j i k r s r' s' hj hA hsj hk ht ih =>
    obtain ⟨a1, a2, a3, a4, a5, a6, a7, a8, a9⟩ := ih hr (by simp [hs])
    have hjr : j < r.length := by omega
    have hjr' : j < r'.length := by omega
    have hg : r[j]? = some (k : Int) := by rw [at0_get hjr, hk]
    have hg' : r'[j]? = some (k : Int) := by rw [a4 j (set_self hsj), hg]
    have hge : r'[j] = (k : Int) := by rw [List.getElem?_eq_getElem hjr'] at hg'; injection hg'
    refine ⟨by rw [List.length_set]; exact a1, by rw [a2]; simp, fun x h => a3 x (set_true j h), fun x h => ?_, fun h => (by cases h), fun h => (by cases h), fun h => (by cases h), fun _ v => ?_, fun _ hok x m hm => ?_⟩
    · rw [List.getElem?_set_ne, a4 x (set_true j h)]
      rintro rfl; rw [hsj] at h; cases h
    · rw [count_set_nat hjr', hge, a8 rfl v]
      by_cases e : v = k
      · subst e; simp
      · rw [if_neg e, if_neg]
        · simp
        · omega
    · rw [List.getElem?_set] at hm
      split at hm
      · rename_i e
        subst e
        injection hm with hm
        have : m = i := by omega
        subst this; exact hA
      · exact a9 rfl hok x m hm
  | @no j i k r s r' s' b r'' s'' hj hA hsj hk ht ht2 ih ih2 =>
    obtain ⟨a1, a2, a3, a4, a5, a6, a7, a8, a9⟩ := ih hr (by simp [hs])
    obtain rfl := a5 rfl
    obtain ⟨b1, b2, b3, b4, b5, b6, b7, b8, b9⟩ := ih2 hr (by rw [a2]; simp [hs])
    have hjr : j < r'.length := by omega
    have hg : r'[j]? = some (k : Int) := by rw [at0_get hjr, hk]
    have hup : ∀ x, s[x]? = some true → s'[x]? = some true := fun x h => a3 x (set_true j h)
    refine ⟨b1, by rw [b2, a2]; simp, fun x h => b3 x (hup x h), fun x h => b4 x (hup x h), b5, fun hb x h1 h2 h3 => ?_, fun hb x hx => ?_, b8, b9⟩
    · by_cases e : x = j
      · subst e; exact b3 x (a3 x (set_self hsj))
      · exact b6 hb x (by omega) h2 h3
    · rcases b7 hb x hx with h1 | h1
      · rcases a7 rfl x h1 with h2 | ⟨m, h2, h3⟩
        · rcases set_inv h2 with h2 | h2
          · subst h2
            exact .inr ⟨k, hg, fun y hy hA => b3 y (a6 rfl y (Nat.zero_le _) hy hA)⟩
          · exact .inl h2
        · exact .inr ⟨m, h2, fun y hy hA => b3 y (h3 y hy hA)⟩
      · exact .inr h1

/-- A set of columns, all owned, that no way leaves. -/
def Dead (A : Nat → Nat → Bool) (n : Nat) (r : List Int) (D : Nat → Prop) : Prop := ∀ x, D x → ∃ k : Nat, r[x]? = some (k : Int) ∧ ∀ y, y < n → A k y = true → D y
theorem Try.dead {A : Nat → Nat → Bool} {n j i : Nat} {r : List Int} {s : List Bool} {b : Bool} {r' : List Int} {s' : List Bool} (h : Try A n j i r s b r' s') (hr : r.length = n) (hs : s.length = n) (D : Nat → Prop) (hD : Dead A n r D) :
    ((∀ x, j ≤ x → x < n → A i x = true → D x) → b = false) ∧ (∀ x, D x → r'[x]? = r[x]?) := by
  induction h with
  | stop => exact ⟨fun _ => rfl, fun _ _ => rfl⟩
  | @skip j i r s b r' s' hj hw ht ih =>
    obtain ⟨a1, a2⟩ := ih hr hs hD
    exact ⟨fun hx => a1 fun x h1 h2 h3 => hx x (by omega) h2 h3, a2⟩
  | @free j i r s hj hA hsj hneg =>
    have hnD : ¬ D j := fun hd => by
      obtain ⟨k, h1, _⟩ := hD j hd
      have := at0_of h1
      omega
    exact ⟨fun hx => absurd (hx j (Nat.le_refl _) hj hA) hnD, fun x hx => by rw [List.getElem?_set_ne]; rintro rfl; exact hnD hx⟩
  | @yes j i k r s r' s' hj hA hsj hk ht ih =>
    obtain ⟨a1, a2⟩ := ih hr (by simp [hs]) hD
    have hnD : ¬ D j := fun hd => by
      obtain ⟨m, h1, h2⟩ := hD j hd
      have := at0_of h1
      have e : m = k := by omega
      subst e
      exact absurd (a1 fun x _ hx hA => h2 x hx hA) (by simp)
    exact ⟨fun hx => absurd (hx j (Nat.le_refl _) hj hA) hnD, fun x hx => by rw [List.getElem?_set_ne]; exact a2 x hx; rintro rfl; exact hnD hx⟩
  | @no j i k r s r' s' b r'' s'' hj hA hsj hk ht ht2 ih ih2 =>
    have g := ht.good hr (by simp [hs])
    obtain rfl := g.same rfl
    obtain ⟨a1, a2⟩ := ih2 hr (by rw [g.ls]; simp [hs]) hD
    exact ⟨fun hx => a1 fun x h1 h2 h3 => hx x (by omega) h2 h3, a2⟩

theorem Try.vals {A : Nat → Nat → Bool} {n j i : Nat} {r : List Int} {s : List Bool} {b : Bool} {r' : List Int} {s' : List Bool} (h : Try A n j i r s b r' s') (hr : r.length = n) (hs : s.length = n) : ∀ v, v ∈ r' → v ∈ r ∨ v = (i : Int) := by
  induction h with
  | stop => exact fun v h => .inl h
  | skip _ _ _ ih => exact ih hr hs
  | @free j i r s hj hA hsj hneg => exact fun v h => List.mem_or_eq_of_mem_set h
  | @yes j i k r s r' s' hj hA hsj hk ht ih =>
    intro v h
    rcases List.mem_or_eq_of_mem_set h with h1 | h1
    · rcases ih hr (by simp [hs]) v h1 with h2 | h2
      · exact .inl h2
      · left
        rw [h2, ← hk]
        exact List.mem_of_getElem? (at0_get (by omega))
    · exact .inr h1
  | @no j i k r s r' s' b r'' s'' hj hA hsj hk ht ht2 ih ih2 =>
    have g := ht.good hr (by simp [hs])
    obtain rfl := g.same rfl
    exact ih2 hr (by rw [g.ls]; simp [hs])

/-- Row after row. -/
inductive Rows (A : Nat → Nat → Bool) (n : Nat) : Nat → List Int → Prop
  | zero : Rows A n 0 (List.replicate n (-1))
  | step {i : Nat} {r : List Int} {b : Bool} {r' : List Int} {s' : List Bool} : Rows A n i r → i < n → Try A n 0 i r (List.replicate n false) b r' s' → Rows A n (i + 1) r'

/-- What holds of the owners after i rows. -/
structure RowsP (A : Nat → Nat → Bool) (n i : Nat) (r : List Int) : Prop where
  len : r.length = n
  ok : ∀ x k : Nat, r[x]? = some (k : Int) → A k x = true
  one : ∀ k : Nat, r.count (k : Int) ≤ if k < i then 1 else 0
  neg : ∀ v, v ∈ r → v = -1 ∨ ∃ k : Nat, v = (k : Int) ∧ k < i
  dead : ∃ D : Nat → Prop, (∀ x, D x → x < n) ∧ Dead A n r D ∧ ∀ k, k < i → r.count (k : Int) = 0 → ∀ y, y < n → A k y = true → D y

theorem Rows.good {A : Nat → Nat → Bool} {n i : Nat} {r : List Int} (h : Rows A n i r) : RowsP A n i r := by
  induction h with
  | zero =>
    refine ⟨List.length_replicate .., fun x k h => ?_, fun k => ?_, fun v h => .inl (List.eq_of_mem_replicate h), fun _ => False, fun x h => h.elim, fun x h => h.elim, fun k h => by omega⟩
    · have := List.eq_of_mem_replicate (List.mem_of_getElem? h); omega
    · rw [List.count_replicate]; simp
  | @step i r b r' s' h hi ht ih =>
    obtain ⟨a1, a2, a3, a4, D, d1, d2, d3⟩ := ih
    have g := ht.good a1 (by simp)
    have gv := ht.vals a1 (by simp)
    have gd := (ht.dead a1 (by simp) D d2).2
    have hf : ∀ x : Nat, ¬ (List.replicate n false)[x]? = some true := fun x hx => by
      have := List.eq_of_mem_replicate (List.mem_of_getElem? hx); cases this
    cases b with
    | false =>
      obtain rfl := g.same rfl
      refine ⟨a1, a2, fun k => ?_, fun v hv => ?_, fun x => D x ∨ s'[x]? = some true, fun x hx => ?_, fun x hx => ?_, fun k hk hc y hy hA => ?_⟩
      · have := a3 k
        split at this <;> split <;> omega
      · rcases a4 v hv with h1 | ⟨k, h1, h2⟩
        · exact .inl h1
        · exact .inr ⟨k, h1, by omega⟩
      · rcases hx with hx | hx
        · exact d1 x hx
        · have := (List.getElem?_eq_some_iff.1 hx).1
          rw [g.ls] at this; simpa using this
      · rcases hx with hx | hx
        · obtain ⟨k, h1, h2⟩ := d2 x hx
          exact ⟨k, h1, fun y hy hA => .inl (h2 y hy hA)⟩
        · rcases g.shut rfl x hx with h1 | ⟨k, h1, h2⟩
          · exact absurd h1 (hf x)
          · exact ⟨k, h1, fun y hy hA => .inr (h2 y hy hA)⟩
      · by_cases e : k = i
        · subst e
          exact .inr (g.all rfl y (Nat.zero_le _) hy hA)
        · exact .inl (d3 k (by omega) hc y hy hA)
    | true =>
      refine ⟨by rw [g.lr]; exact a1, g.ok rfl a2, fun k => ?_, fun v hv => ?_, D, d1, fun x hx => ?_, fun k hk hc y hy hA => ?_⟩
      · have h1 := a3 k
        have h2 := g.cnt rfl k
        rw [h2]
        split at h1 <;> split <;> split <;> omega
      · rcases gv v hv with h1 | h1
        · rcases a4 v h1 with h1 | ⟨k, h1, h2⟩
          · exact .inl h1
          · exact .inr ⟨k, h1, by omega⟩
        · exact .inr ⟨i, h1, by omega⟩
      · obtain ⟨k, h1, h2⟩ := d2 x hx
        exact ⟨k, by rw [gd x hx]; exact h1, h2⟩
      · have h2 := g.cnt rfl k
        have hne : k ≠ i := by
          rintro rfl
          rw [if_pos rfl] at h2; omega
        exact d3 k (by omega) (by omega) y hy hA

/-- A pairing of n. -/
structure Pr (n : Nat) (p : List Nat) : Prop where
  len : p.length = n
  nodup : p.Nodup
  lt : ∀ x ∈ p, x < n
/-- All its pairs are allowed. -/
def Ok (A : Nat → Nat → Bool) (p : List Nat) : Prop := ∀ i x : Nat, p[i]? = some x → A i x = true

/-- Rows that have too few columns. -/
structure Lack (A : Nat → Nat → Bool) (n : Nat) (S : List Nat) (D : List Nat) : Prop where
  nodup : S.Nodup
  lt : ∀ k ∈ S, k < n
  cols : D.Nodup
  colt : ∀ x ∈ D, x < n
  all : ∀ k ∈ S, ∀ y, y < n → A k y = true → y ∈ D
  less : D.length < S.length

theorem Pr.inj {n : Nat} {p : List Nat} (h : Pr n p) {i j x : Nat} (hi : p[i]? = some x) (hj : p[j]? = some x) : i = j :=
  (List.getElem?_inj (List.getElem?_eq_some_iff.1 hi).1 h.nodup).1 (by rw [hi, hj])
theorem Pr.get {n : Nat} {p : List Nat} (h : Pr n p) {i : Nat} (hi : i < n) : ∃ x, p[i]? = some x ∧ x < n := by
  have : i < p.length := by rw [h.len]; exact hi
  exact ⟨p[i], List.getElem?_eq_getElem this, h.lt _ (List.getElem_mem ..)⟩
theorem Lack.none {A : Nat → Nat → Bool} {n : Nat} {S D : List Nat} (h : Lack A n S D) {p : List Nat} (hp : Pr n p) : ¬ Ok A p := by
  intro hok
  have hn : (S.map fun k => p[k]?.getD 0).Nodup := by
    rw [List.nodup_iff_pairwise_ne, List.pairwise_map]
    refine (List.nodup_iff_pairwise_ne.1 h.nodup).imp_of_mem fun {a b} ha hb hne he => hne ?_
    obtain ⟨x, hx, _⟩ := hp.get (h.lt a ha)
    obtain ⟨y, hy, _⟩ := hp.get (h.lt b hb)
    rw [hx, hy] at he
    simp at he
    subst he
    exact hp.inj hx hy
  have hs : (S.map fun k => p[k]?.getD 0) ⊆ D := fun x hx => by
    obtain ⟨k, hk, rfl⟩ := List.mem_map.1 hx
    obtain ⟨y, hy, hlt⟩ := hp.get (h.lt k hk)
    rw [hy]
    exact h.all k hk y hlt (hok k y hy)
  have := hn.length_le_of_subset hs
  rw [List.length_map] at this
  exact absurd h.less (by omega)

theorem nodup_map_cast (l : List Nat) (h : l.Nodup) : (l.map fun k : Nat => (k : Int)).Nodup := by
  rw [List.nodup_iff_pairwise_ne, List.pairwise_map]
  exact (List.nodup_iff_pairwise_ne.1 h).imp fun hne he => hne (by omega)

/-- One row without a column: some rows have too few columns. -/
theorem RowsP.lack {A : Nat → Nat → Bool} {n : Nat} {r : List Int} (h : RowsP A n n r) {k : Nat} (hk : k < n) (hc : r.count (k : Int) = 0) : ∃ S D, Lack A n S D := by
  obtain ⟨a1, a2, a3, a4, D, d1, d2, d3⟩ := h
  classical
  let Dl := (List.range n).filter fun x => decide (D x)
  have hDl : ∀ x, x ∈ Dl ↔ D x := fun x => by
    simp only [Dl, List.mem_filter, List.mem_range, decide_eq_true_eq]
    exact ⟨fun h => h.2, fun h => ⟨d1 x h, h⟩⟩
  have hnd : Dl.Nodup := List.Nodup.sublist List.filter_sublist List.nodup_range
  have hat : ∀ x, D x → ∃ m : Nat, r[x]? = some (m : Int) ∧ (at0 r x).toNat = m := fun x hx => by
    obtain ⟨m, h1, _⟩ := d2 x hx
    exact ⟨m, h1, by rw [at0_of h1]; rfl⟩
  have hlt : ∀ x (m : Nat), r[x]? = some (m : Int) → m < n := fun x m hx => by
    rcases a4 _ (List.mem_of_getElem? hx) with h1 | ⟨u, h1, h2⟩ <;> omega
  refine ⟨k :: Dl.map fun x => (at0 r x).toNat, Dl, ?_, ?_, hnd, fun x hx => d1 x ((hDl x).1 hx), ?_, by simp⟩
  · rw [List.nodup_cons]
    constructor
    · intro hm
      obtain ⟨x, hx, he⟩ := List.mem_map.1 hm
      obtain ⟨m, h1, h2⟩ := hat x ((hDl x).1 hx)
      have := count_pos_at h1
      have e : m = k := by omega
      subst e; omega
    · rw [List.nodup_iff_pairwise_ne, List.pairwise_map]
      refine (List.nodup_iff_pairwise_ne.1 hnd).imp_of_mem fun {a b} ha hb hne he => hne ?_
      obtain ⟨x, h1, h2⟩ := hat a ((hDl a).1 ha)
      obtain ⟨y, h3, h4⟩ := hat b ((hDl b).1 hb)
      have exy : x = y := by omega
      subst exy
      have hcx := a3 x
      rw [if_pos (hlt a x h1)] at hcx
      -- two places with one number
      rcases Nat.lt_trichotomy a b with hab | hab | hab
      · exact absurd hcx (by have := count_two h1 h3 hab; omega)
      · exact hab
      · exact absurd hcx (by have := count_two h3 h1 hab; omega)
  · intro m hm
    rcases List.mem_cons.1 hm with rfl | hm
    · exact hk
    · obtain ⟨x, hx, rfl⟩ := List.mem_map.1 hm
      obtain ⟨m, h1, h2⟩ := hat x ((hDl x).1 hx)
      rw [h2]; exact hlt x m h1
  · intro m hm y hy hA
    rw [hDl]
    rcases List.mem_cons.1 hm with rfl | hm
    · exact d3 m hk hc y hy hA
    · obtain ⟨x, hx, rfl⟩ := List.mem_map.1 hm
      obtain ⟨u, h1, h2⟩ := hat x ((hDl x).1 hx)
      obtain ⟨v, h3, h4⟩ := d2 x ((hDl x).1 hx)
      rw [h1] at h3
      injection h3 with h3
      have : u = v := by omega
      subst this
      rw [h2] at hA
      exact h4 y hy hA

/-- No column without a row: a pairing. -/
theorem RowsP.pair {A : Nat → Nat → Bool} {n : Nat} {r : List Int} (h : RowsP A n n r) (hm : (-1 : Int) ∉ r) : ∃ p, Pr n p ∧ Ok A p := by
  obtain ⟨a1, a2, a3, a4, _⟩ := h
  have hin : ∀ k : Nat, k < n → (k : Int) ∈ r := fun k hk => by
    refine Classical.byContradiction fun hnot => ?_
    have h1 : r.Nodup := List.nodup_iff_count.2 fun v => by
      by_cases hv : v ∈ r
      · rcases a4 v hv with h1 | ⟨m, h1, h2⟩
        · subst h1; exact absurd hv hm
        · subst h1
          have := a3 m
          rw [if_pos h2] at this; exact this
      · rw [List.count_eq_zero_of_not_mem hv]; omega
    have h2 : r ⊆ ((List.range n).erase k).map fun k : Nat => (k : Int) := fun v hv => by
      rcases a4 v hv with h3 | ⟨m, h3, h4⟩
      · subst h3; exact absurd hv hm
      · subst h3
        refine List.mem_map.2 ⟨m, (List.nodup_range.mem_erase_iff).2 ⟨?_, List.mem_range.2 h4⟩, rfl⟩
        rintro rfl; exact hnot hv
    have h3 := h1.length_le_of_subset h2
    rw [List.length_map, List.length_erase, if_pos (by simpa using hk), List.length_range] at h3
    omega
  have hget : ∀ k : Nat, k < n → r[r.idxOf (k : Int)]? = some (k : Int) := fun k hk => by
    have := List.idxOf_lt_length_of_mem (hin k hk)
    rw [List.getElem?_eq_getElem this]
    simp
  refine ⟨(List.range n).map fun k : Nat => r.idxOf (k : Int), ⟨by simp, ?_, fun x hx => ?_⟩, fun i x hx => ?_⟩
  · rw [List.nodup_iff_pairwise_ne, List.pairwise_map]
    refine (List.nodup_iff_pairwise_ne.1 List.nodup_range).imp_of_mem fun {a b} ha hb hne he => hne ?_
    have h1 := hget a (List.mem_range.1 ha)
    have h2 := hget b (List.mem_range.1 hb)
    rw [he, h2] at h1
    injection h1 with h1
    omega
  · obtain ⟨k, hk, rfl⟩ := List.mem_map.1 hx
    have := List.idxOf_lt_length_of_mem (hin k (List.mem_range.1 hk))
    omega
  · rw [List.getElem?_map] at hx
    rcases e : (List.range n)[i]? with _ | k
    · rw [e] at hx; cases hx
    · rw [e] at hx
      simp at hx
      have hi : i < n := by
        have := (List.getElem?_eq_some_iff.1 e).1
        simpa using this
      rw [List.getElem?_range hi] at e
      injection e with e
      subst e
      have := a2 _ _ (hget i hi)
      rw [hx] at this; exact this

/-- A column without a row: a row without a column. -/
theorem RowsP.left {A : Nat → Nat → Bool} {n : Nat} {r : List Int} (h : RowsP A n n r) (hm : (-1 : Int) ∈ r) : ∃ k, k < n ∧ r.count (k : Int) = 0 := by
  refine Classical.byContradiction fun hno => ?_
  have hin : ∀ k : Nat, k < n → (k : Int) ∈ r := fun k hk => by
    refine Classical.byContradiction fun hnot => hno ⟨k, hk, List.count_eq_zero_of_not_mem hnot⟩
  have h1 : ((-1 : Int) :: (List.range n).map fun k : Nat => (k : Int)).Nodup := by
    rw [List.nodup_cons]
    refine ⟨fun hx => ?_, nodup_map_cast _ List.nodup_range⟩
    obtain ⟨k, _, hk⟩ := List.mem_map.1 hx
    omega
  have h2 : ((-1 : Int) :: (List.range n).map fun k : Nat => (k : Int)) ⊆ r := fun v hv => by
    rcases List.mem_cons.1 hv with rfl | hv
    · exact hm
    · obtain ⟨k, hk, rfl⟩ := List.mem_map.1 hv
      exact hin k (List.mem_range.1 hk)
  have h3 := h1.length_le_of_subset h2
  rw [List.length_cons, List.length_map, List.length_range, h.len] at h3
  omega

/-- Hall's theorem, for what the search leaves: a pairing, or rows that have too few columns. -/
theorem Rows.hall {A : Nat → Nat → Bool} {n : Nat} {r : List Int} (h : Rows A n n r) : ((-1 : Int) ∉ r ∧ ∃ p, Pr n p ∧ Ok A p) ∨ ((-1 : Int) ∈ r ∧ ∃ S D, Lack A n S D) := by
  by_cases hm : (-1 : Int) ∈ r
  · obtain ⟨k, hk, hc⟩ := h.good.left hm
    exact .inr ⟨hm, h.good.lack hk hc⟩
  · exact .inl ⟨hm, h.good.pair hm⟩
theorem Rows.whole {A : Nat → Nat → Bool} {n : Nat} {r : List Int} (h : Rows A n n r) : (-1 : Int) ∉ r ↔ ∃ p, Pr n p ∧ Ok A p := by
  rcases h.hall with ⟨h1, h2⟩ | ⟨h1, S, D, h2⟩
  · exact ⟨fun _ => h2, fun _ => h1⟩
  · exact ⟨fun h => absurd h1 h, fun ⟨p, h3, h4⟩ => absurd h4 (h2.none h3)⟩

end Go.Proofs.Ytkecdjdggkpdpab

/- All pairings, in order; the first of the best ones. Plain. -/
namespace Go.Proofs.Ytkecdjdggkpdpab

/-- All pairings of n that begin with some columns, in lexicographic order; m rows are left. -/
def allP (n : Nat) : Nat → List Nat → List (List Nat)
  | 0, f => [f]
  | m + 1, f => ((List.range n).filter fun j => !f.contains j).flatMap fun j => allP n m (f ++ [j])
/-- The same, up to a column. -/
def allU (n m : Nat) (f : List Nat) (k : Nat) : List (List Nat) := ((List.range k).filter fun j => !f.contains j).flatMap fun j => allP n m (f ++ [j])
theorem allP_succ (n m : Nat) (f : List Nat) : allP n (m + 1) f = allU n m f n := rfl
theorem allU_zero (n m : Nat) (f : List Nat) : allU n m f 0 = [] := rfl
theorem allU_skip (n m : Nat) (f : List Nat) (k : Nat) (h : k ∈ f) : allU n m f (k + 1) = allU n m f k := by
  unfold allU
  rw [List.range_succ, List.filter_append, List.flatMap_append]
  simp [h]
theorem allU_take (n m : Nat) (f : List Nat) (k : Nat) (h : k ∉ f) : allU n m f (k + 1) = allU n m f k ++ allP n m (f ++ [k]) := by
  unfold allU
  rw [List.range_succ, List.filter_append, List.flatMap_append]
  simp [h]

theorem snoc_prefix {f p : List Nat} {j : Nat} (h : p[f.length]? = some j) (hf : f <+: p) : f ++ [j] <+: p := by
  obtain ⟨t, rfl⟩ := hf
  rw [List.getElem?_append_right (Nat.le_refl _)] at h
  simp at h
  rcases t with _ | ⟨a, t⟩
  · cases h
  · simp at h
    subst h
    exact ⟨t, by simp⟩

theorem mem_allP (n : Nat) : ∀ (m : Nat) (f p : List Nat), f.length + m = n → f.Nodup → (∀ x ∈ f, x < n) → (p ∈ allP n m f ↔ Pr n p ∧ f <+: p) := by
  intro m
  induction m with
  | zero =>
    intro f p hl hn hlt
    simp only [allP, List.mem_singleton]
    constructor
    · rintro rfl
      exact ⟨⟨by omega, hn, hlt⟩, List.prefix_refl _⟩
    · rintro ⟨hp, h⟩
      exact (h.eq_of_length (by rw [hp.len]; omega)).symm
  | succ m ih =>
    intro f p hl hn hlt
    simp only [allP, List.mem_flatMap, List.mem_filter, List.mem_range, Bool.not_eq_true', List.contains_eq_mem, decide_eq_false_iff_not]
    have key : ∀ j, j < n → j ∉ f → (p ∈ allP n m (f ++ [j]) ↔ Pr n p ∧ f ++ [j] <+: p) := fun j hj hjf => by
      apply ih
      · simp; omega
      · rw [List.nodup_append]
        exact ⟨hn, by simp, fun a ha b hb => by rw [List.mem_singleton] at hb; rintro rfl; subst hb; exact hjf ha⟩
      · intro x hx
        rcases List.mem_append.1 hx with hx | hx
        · exact hlt x hx
        · rw [List.mem_singleton] at hx; omega
    constructor
    · rintro ⟨j, ⟨hj, hjf⟩, hp⟩
      have := (key j hj hjf).1 hp
      exact ⟨this.1, (List.prefix_append f [j]).trans this.2⟩
    · rintro ⟨hp, hf⟩
      obtain ⟨x, hx, hxn⟩ := hp.get (i := f.length) (by omega)
      have hpre := snoc_prefix hx hf
      have hnot : x ∉ f := fun hxf => by
        have := hpre.sublist.nodup hp.nodup
        rw [List.nodup_append] at this
        exact this.2.2 x hxf x (by simp) rfl
      exact ⟨x, ⟨hxn, hnot⟩, (key x hxn hnot).2 ⟨hp, hpre⟩⟩

theorem lt_of_prefix {f : List Nat} {i j : Nat} {p q : List Nat} (h : i < j) (hp : f ++ [i] <+: p) (hq : f ++ [j] <+: q) : p < q := by
  obtain ⟨a, rfl⟩ := hp
  obtain ⟨b, rfl⟩ := hq
  rw [List.append_assoc, List.append_assoc]
  induction f with
  | nil => exact List.cons_lt_cons_iff.2 (.inl h)
  | cons x f ih => exact List.cons_lt_cons_iff.2 (.inr ⟨rfl, ih⟩)

theorem allP_sorted (n : Nat) : ∀ (m : Nat) (f : List Nat), f.length + m = n → f.Nodup → (∀ x ∈ f, x < n) → (allP n m f).Pairwise (· < ·) := by
  intro m
  induction m with
  | zero => intro f _ _ _; simp [allP]
  | succ m ih =>
    intro f hl hn hlt
    simp only [allP]
    rw [List.pairwise_flatMap]
    have hnd : ∀ j, j ∉ f → (f ++ [j]).Nodup := fun j hj => by
      rw [List.nodup_append]
      exact ⟨hn, by simp, fun a ha b hb => by rw [List.mem_singleton] at hb; rintro rfl; subst hb; exact hj ha⟩
    have hlt' : ∀ j, j < n → ∀ x ∈ f ++ [j], x < n := fun j hj x hx => by
      rcases List.mem_append.1 hx with hx | hx
      · exact hlt x hx
      · rw [List.mem_singleton] at hx; omega
    have hm : ∀ j, j ∈ ((List.range n).filter fun j => !f.contains j) → j < n ∧ j ∉ f := fun j hj => by
      simpa using hj
    constructor
    · intro j hj
      obtain ⟨h1, h2⟩ := hm j hj
      exact ih _ (by simp; omega) (hnd j h2) (hlt' j h1)
    · have hr : (List.range n).Pairwise (· < ·) := List.pairwise_lt_range
      refine (hr.sublist List.filter_sublist).imp_of_mem fun {a b} ha hb hab x hx y hy => ?_
      obtain ⟨a1, a2⟩ := hm a ha
      obtain ⟨b1, b2⟩ := hm b hb
      exact lt_of_prefix hab ((mem_allP n m _ _ (by simp; omega) (hnd a a2) (hlt' a a1)).1 hx).2 ((mem_allP n m _ _ (by simp; omega) (hnd b b2) (hlt' b b1)).1 hy).2

/-- All pairings of n. -/
def allN (n : Nat) : List (List Nat) := allP n n []
theorem mem_allN {n : Nat} {p : List Nat} : p ∈ allN n ↔ Pr n p := by
  unfold allN
  rw [mem_allP n n [] p (by simp) (by simp) (by simp)]
  exact ⟨fun h => h.1, fun h => ⟨h, List.nil_prefix⟩⟩
theorem allN_sorted (n : Nat) : (allN n).Pairwise (· < ·) := allP_sorted n n [] (by simp) (by simp) (by simp)
theorem pr_range (n : Nat) : Pr n (List.range n) := ⟨List.length_range, List.nodup_range, fun _ h => List.mem_range.1 h⟩
theorem allN_ne (n : Nat) : allN n ≠ [] := fun h => by
  have := mem_allN.2 (pr_range n)
  rw [h] at this; cases this

/-- The first of the best ones of a list. -/
structure Best (lt : List Nat → List Nat → Prop) (L : List (List Nat)) (p : List Nat) : Prop where
  mem : p ∈ L
  low : ∀ q ∈ L, ¬ lt q p
  first : ∀ q ∈ L, ¬ lt p q → p ≤ q
theorem Best.unique {lt : List Nat → List Nat → Prop} {L : List (List Nat)} {p q : List Nat} (hp : Best lt L p) (hq : Best lt L q) : p = q :=
  List.le_antisymm (hp.first q hq.mem (hq.low p hp.mem)) (hq.first p hp.mem (hp.low q hq.mem))
theorem Best.one (lt : List Nat → List Nat → Prop) (p : List Nat) (h : ¬ lt p p) : Best lt [p] p :=
  ⟨by simp, fun q hq => by rw [List.mem_singleton] at hq; subst hq; exact h, fun q hq _ => by rw [List.mem_singleton] at hq; subst hq; exact List.le_refl _⟩
/-- A better one comes. -/
theorem Best.better {lt : List Nat → List Nat → Prop} {L : List (List Nat)} {p q : List Nat} (hp : Best lt L p) (h : lt q p) (ht : ∀ a b c, lt a b → lt b c → lt a c) (hi : ∀ a, ¬ lt a a) (ha : ∀ a b c, lt a b → ¬ lt c b → lt a c) : Best lt (L ++ [q]) q := by
  refine ⟨by simp, fun r hr => ?_, fun r hr hn => ?_⟩
  · rcases List.mem_append.1 hr with hr | hr
    · exact fun hlt => hp.low r hr (ht _ _ _ hlt h)
    · rw [List.mem_singleton] at hr; subst hr; exact hi _
  · rcases List.mem_append.1 hr with hr | hr
    · exact absurd (ha _ _ _ h (hp.low r hr)) hn
    · rw [List.mem_singleton] at hr; subst hr; exact List.le_refl _
/-- One that is no better comes. -/
theorem Best.keep {lt : List Nat → List Nat → Prop} {L : List (List Nat)} {p q : List Nat} (hp : Best lt L p) (h : ¬ lt q p) (hs : (L ++ [q]).Pairwise (· < ·)) : Best lt (L ++ [q]) p := by
  refine ⟨by simp [hp.mem], fun r hr => ?_, fun r hr hn => ?_⟩
  · rcases List.mem_append.1 hr with hr | hr
    · exact hp.low r hr
    · rw [List.mem_singleton] at hr; subst hr; exact h
  · rcases List.mem_append.1 hr with hr | hr
    · exact hp.first r hr hn
    · rw [List.mem_singleton] at hr; subst hr
      rw [List.pairwise_append] at hs
      exact List.le_of_lt (hs.2.2 p hp.mem r (by simp))

/-- A pairing of allowed pairs begins so. -/
def Ext (A : Nat → Nat → Bool) (n : Nat) (o : List Nat) : Prop := ∃ q, Pr n q ∧ Ok A q ∧ o <+: q
/-- The first rows have their columns. -/
def okA (A : Nat → Nat → Bool) (o : List Nat) (r c : Nat) : Bool := if r < o.length then o[r]? == some c && A r c else A r c
theorem okA_ext {A : Nat → Nat → Bool} {n : Nat} {o : List Nat} (h : o.length ≤ n) : (∃ p, Pr n p ∧ Ok (okA A o) p) ↔ Ext A n o := by
  constructor
  · rintro ⟨p, hp, hok⟩
    refine ⟨p, hp, fun i x hx => ?_, ?_⟩
    · have := hok i x hx
      unfold okA at this
      split at this
      · simp at this; exact this.2
      · exact this
    · rw [List.prefix_iff_eq_take]
      refine List.ext_getElem? fun i => ?_
      rw [List.getElem?_take]
      split
      · rename_i hi
        obtain ⟨x, hx, _⟩ := hp.get (i := i) (by omega)
        have := hok i x hx
        unfold okA at this
        rw [if_pos hi] at this
        simp at this
        rw [hx]; exact this.1
      · rename_i hi
        exact List.getElem?_eq_none (by omega)
  · rintro ⟨p, hp, hok, ho⟩
    refine ⟨p, hp, fun i x hx => ?_⟩
    unfold okA
    split
    · rename_i hi
      obtain ⟨t, rfl⟩ := ho
      rw [List.getElem?_append_left hi] at hx
      rw [hx]
      simp
      exact hok i x (by rw [List.getElem?_append_left hi]; exact hx)
    · exact hok i x hx

/-- What the first search has found: the rows up to here have the least columns that can go on. -/
structure Fst (A : Nat → Nat → Bool) (n : Nat) (o : List Nat) : Prop where
  ext : o = [] ∨ Ext A n o
  least : ∀ q, Pr n q → Ok A q → o ≤ q.take o.length
theorem Fst.nil (A : Nat → Nat → Bool) (n : Nat) : Fst A n [] := ⟨.inl rfl, fun _ _ _ => List.nil_le _⟩
theorem le_append {a b : List Nat} (c d : List Nat) (hl : a.length = b.length) (h : a < b) : a ++ c < b ++ d := by
  induction a generalizing b with
  | nil => cases b with | nil => exact absurd h (List.lt_irrefl _) | cons => cases hl
  | cons x a ih =>
    cases b with
    | nil => cases hl
    | cons y b =>
      rw [List.cons_lt_cons_iff] at h
      rcases h with h | ⟨rfl, h⟩
      · exact List.cons_lt_cons_iff.2 (.inl h)
      · exact List.cons_lt_cons_iff.2 (.inr ⟨rfl, ih (by simpa using hl) h⟩)
theorem append_lt {a : List Nat} {c d : List Nat} (h : c < d) : a ++ c < a ++ d := by
  induction a with
  | nil => exact h
  | cons x a ih => exact List.cons_lt_cons_iff.2 (.inr ⟨rfl, ih⟩)
theorem Fst.step {A : Nat → Nat → Bool} {n j : Nat} {o : List Nat} (h : Fst A n o) (hl : o.length < n) (hno : ∀ k, k < j → ¬ Ext A n (o ++ [k])) (he : Ext A n (o ++ [j])) : Fst A n (o ++ [j]) := by
  refine ⟨.inr he, fun q hq hok => ?_⟩
  obtain ⟨x, hx, _⟩ := hq.get hl
  have e : q.take (o ++ [j]).length = q.take o.length ++ [x] := by
    rw [List.length_append, List.length_singleton, List.take_succ_eq_append_getElem (by rw [hq.len]; exact hl)]
    congr
    rw [List.getElem?_eq_getElem (by rw [hq.len]; exact hl)] at hx
    injection hx
  rw [e]
  have hlen : o.length = (q.take o.length).length := by rw [List.length_take, hq.len]; omega
  rcases Classical.em (o < q.take o.length) with h1 | h1
  · exact List.le_of_lt (le_append _ _ hlen h1)
  · have h2 : o = q.take o.length := List.le_antisymm (h.least q hq hok) h1
    rw [← h2]
    have hjx : j ≤ x := by
      refine Nat.le_of_not_lt fun hlt => hno x hlt ⟨q, hq, hok, snoc_prefix hx ?_⟩
      rw [List.prefix_iff_eq_take]; exact h2
    rcases Nat.lt_or_eq_of_le hjx with h3 | h3
    · exact List.le_of_lt (append_lt (List.cons_lt_cons_iff.2 (.inl h3)))
    · subst h3; exact List.le_refl _
theorem Fst.none {A : Nat → Nat → Bool} {n : Nat} {o : List Nat} (h : Fst A n o) (hl : o.length < n) (hno : ∀ k, k < n → ¬ Ext A n (o ++ [k])) : ¬ ∃ q, Pr n q ∧ Ok A q := by
  rintro ⟨q, hq, hok⟩
  have he : Ext A n o := by
    rcases h.ext with rfl | h1
    · exact ⟨q, hq, hok, List.nil_prefix⟩
    · exact h1
  obtain ⟨p, hp, hpk, hpo⟩ := he
  obtain ⟨x, hx, hxn⟩ := hp.get hl
  exact hno x hxn ⟨p, hp, hpk, snoc_prefix hx hpo⟩
/-- The lexicographically least pairing of allowed pairs. -/
structure First (A : Nat → Nat → Bool) (n : Nat) (l : List Nat) : Prop where
  pr : Pr n l
  ok : Ok A l
  least : ∀ q, Pr n q → Ok A q → l ≤ q
theorem Fst.done {A : Nat → Nat → Bool} {n : Nat} {o : List Nat} (h : Fst A n o) (hl : o.length = n) (hn : 0 < n) : First A n o := by
  rcases h.ext with rfl | ⟨q, hq, hok, ho⟩
  · simp at hl; omega
  · have e : o = q := ho.eq_of_length (by rw [hl, hq.len])
    refine ⟨e ▸ hq, e ▸ hok, fun p hp hpk => ?_⟩
    have := h.least p hp hpk
    rw [hl, List.take_of_length_le (by rw [hp.len]; omega)] at this
    exact this
theorem First.unique {A : Nat → Nat → Bool} {n : Nat} {l m : List Nat} (h : First A n l) (h' : First A n m) : l = m := List.le_antisymm (h.least m h'.pr h'.ok) (h'.least l h.pr h.ok)
end Go.Proofs.Ytkecdjdggkpdpab

/- Costs of pairings: the greatest, the least, in falling order; the best pairings by them. Plain. -/
namespace Go.Proofs.Ytkecdjdggkpdpab

/-- A cost. -/
def cst (C : List (List Int)) (i j : Nat) : Int := at0 (C[i]?.getD []) j
/-- The costs of a pairing. -/
def pcs (C : List (List Int)) (p : List Nat) : List Int := p.mapIdx fun i j => cst C i j
theorem pcs_length (C : List (List Int)) (p : List Nat) : (pcs C p).length = p.length := by simp [pcs]
theorem pcs_get (C : List (List Int)) (p : List Nat) (i : Nat) : (pcs C p)[i]? = (p[i]?).map fun j => cst C i j := by unfold pcs; rw [List.getElem?_mapIdx]
theorem pcs_snoc (C : List (List Int)) (p : List Nat) (j : Nat) : pcs C (p ++ [j]) = pcs C p ++ [cst C p.length j] := by unfold pcs; rw [List.mapIdx_append]; simp

/-- A number put into a falling list, behind those that are not less. -/
def insF (v : Int) (l : List Int) : List Int := l.takeWhile (fun x => decide (v ≤ x)) ++ v :: l.dropWhile (fun x => decide (v ≤ x))
/-- In falling order. -/
def fall (l : List Int) : List Int := l.foldl (fun o v => insF v o) []
theorem fall_snoc (l : List Int) (v : Int) : fall (l ++ [v]) = insF v (fall l) := by unfold fall; rw [List.foldl_append]; rfl
theorem insF_perm (v : Int) (l : List Int) : (insF v l).Perm (v :: l) := by
  unfold insF
  refine List.perm_middle.trans ?_
  rw [List.takeWhile_append_dropWhile]
theorem insF_sorted (v : Int) (l : List Int) (h : l.Pairwise (· ≥ ·)) : (insF v l).Pairwise (· ≥ ·) := by
  unfold insF
  induction l with
  | nil => simp
  | cons a l ih =>
    rw [List.pairwise_cons] at h
    by_cases hv : v ≤ a
    · rw [List.takeWhile_cons_of_pos (by simpa using hv), List.dropWhile_cons_of_pos (by simpa using hv), List.cons_append, List.pairwise_cons]
      refine ⟨fun x hx => ?_, ih h.2⟩
      have : x ∈ insF v l := hx
      rcases List.mem_cons.1 ((insF_perm v l).mem_iff.1 this) with rfl | h1
      · exact hv
      · exact h.1 x h1
    · rw [List.takeWhile_cons_of_neg (by simpa using hv), List.dropWhile_cons_of_neg (by simpa using hv), List.nil_append, List.pairwise_cons]
      refine ⟨fun x hx => ?_, List.pairwise_cons.2 h⟩
      rcases List.mem_cons.1 hx with rfl | h1
      · omega
      · have := h.1 x h1; omega
theorem fall_perm (l : List Int) : (fall l).Perm l := by
  suffices h : ∀ (l o : List Int), (l.foldl (fun o v => insF v o) o).Perm (o ++ l) by have := h l []; rw [List.nil_append] at this; exact this
  intro l
  induction l with
  | nil => intro o; simp
  | cons a l ih =>
    intro o
    refine (ih (insF a o)).trans ?_
    refine ((insF_perm a o).append_right l).trans ?_
    exact List.perm_middle.symm
theorem fall_sorted (l : List Int) : (fall l).Pairwise (· ≥ ·) := by
  suffices h : ∀ (l o : List Int), o.Pairwise (· ≥ ·) → (l.foldl (fun o v => insF v o) o).Pairwise (· ≥ ·) from h l [] (by simp)
  intro l
  induction l with
  | nil => intro o h; exact h
  | cons a l ih => intro o h; exact ih _ (insF_sorted a o h)
theorem fall_length (l : List Int) : (fall l).length = l.length := (fall_perm l).length_eq
/-- Whatever is falling and has the same numbers. -/
theorem fall_unique {l m : List Int} (hp : m.Perm l) (hs : m.Pairwise (· ≥ ·)) : m = fall l :=
  (hp.trans (fall_perm l).symm).eq_of_pairwise (fun a b _ _ h1 h2 => by omega) hs (fall_sorted l)

/-- The greatest and the least of some numbers. -/
def mxL (l : List Int) : Int := at0 (fall l) 0
def mnL (l : List Int) : Int := at0 (fall l) (l.length - 1)
theorem mxL_mem {l : List Int} (h : l ≠ []) : mxL l ∈ l := by
  have : 0 < (fall l).length := by rw [fall_length]; exact List.length_pos_iff.2 h
  exact (fall_perm l).mem_iff.1 (List.mem_of_getElem? (at0_get this))
theorem mnL_mem {l : List Int} (h : l ≠ []) : mnL l ∈ l := by
  have h0 := List.length_pos_iff.2 h
  have : l.length - 1 < (fall l).length := by rw [fall_length]; omega
  exact (fall_perm l).mem_iff.1 (List.mem_of_getElem? (at0_get this))
theorem le_mxL {l : List Int} {x : Int} (h : x ∈ l) : x ≤ mxL l := by
  have hx := (fall_perm l).mem_iff.2 h
  have hs := fall_sorted l
  unfold mxL
  rcases e : fall l with _ | ⟨a, t⟩
  · rw [e] at hx; cases hx
  · rw [e] at hx hs
    rw [List.pairwise_cons] at hs
    rcases List.mem_cons.1 hx with rfl | h1
    · exact Int.le_refl _
    · exact hs.1 x h1
theorem mnL_le {l : List Int} {x : Int} (h : x ∈ l) : mnL l ≤ x := by
  have hx := (fall_perm l).mem_iff.2 h
  have hs := fall_sorted l
  have h0 := List.length_pos_of_mem h
  obtain ⟨i, hi, rfl⟩ := List.mem_iff_getElem.1 hx
  have hl : l.length - 1 < (fall l).length := by rw [fall_length]; omega
  have e : mnL l = (fall l)[l.length - 1] := at0_of (List.getElem?_eq_getElem hl)
  rw [e]
  rw [fall_length] at hi
  rcases Nat.lt_or_eq_of_le (show i ≤ l.length - 1 by omega) with h1 | h1
  · exact List.pairwise_iff_getElem.1 hs i (l.length - 1) _ hl h1
  · subst h1; exact Int.le_refl _
theorem mxL_le_iff {l : List Int} (h : l ≠ []) (v : Int) : mxL l ≤ v ↔ ∀ x ∈ l, x ≤ v :=
  ⟨fun h1 _ hx => Int.le_trans (le_mxL hx) h1, fun h1 => h1 _ (mxL_mem h)⟩
theorem le_mnL_iff {l : List Int} (h : l ≠ []) (v : Int) : v ≤ mnL l ↔ ∀ x ∈ l, v ≤ x :=
  ⟨fun h1 _ hx => Int.le_trans h1 (mnL_le hx), fun h1 => h1 _ (mnL_mem h)⟩

/-- Pairs that cost at most so much; pairs whose costs lie between. -/
def upA (C : List (List Int)) (v : Int) (i j : Nat) : Bool := decide (cst C i j ≤ v)
def winA (C : List (List Int)) (lo hi : Int) (i j : Nat) : Bool := decide (lo ≤ cst C i j) && decide (cst C i j ≤ hi)
theorem ok_pcs {C : List (List Int)} {A : Nat → Nat → Bool} {p : List Nat} {P : Int → Prop} (h : ∀ i j, A i j = true ↔ P (cst C i j)) : Ok A p ↔ ∀ x ∈ pcs C p, P x := by
  constructor
  · intro hok x hx
    obtain ⟨i, hi⟩ := List.mem_iff_getElem?.1 hx
    rw [pcs_get] at hi
    rcases e : p[i]? with _ | j
    · rw [e] at hi; cases hi
    · rw [e] at hi
      simp at hi
      subst hi
      exact (h i j).1 (hok i j e)
  · intro hx i j hj
    refine (h i j).2 (hx _ (List.mem_of_getElem? (i := i) ?_))
    rw [pcs_get, hj]; rfl
theorem ok_up {C : List (List Int)} {p : List Nat} {v : Int} (hp : p ≠ []) : Ok (upA C v) p ↔ mxL (pcs C p) ≤ v := by
  rw [ok_pcs (C := C) (P := fun x => x ≤ v) (fun i j => by unfold upA; simp), mxL_le_iff]
  intro h; have := congrArg List.length h; rw [pcs_length] at this; exact hp (List.length_eq_zero_iff.1 this)
theorem ok_win {C : List (List Int)} {p : List Nat} {lo hi : Int} (hp : p ≠ []) : Ok (winA C lo hi) p ↔ lo ≤ mnL (pcs C p) ∧ mxL (pcs C p) ≤ hi := by
  have hne : pcs C p ≠ [] := fun h => by have := congrArg List.length h; rw [pcs_length] at this; exact hp (List.length_eq_zero_iff.1 this)
  rw [ok_pcs (C := C) (P := fun x => lo ≤ x ∧ x ≤ hi) (fun i j => by unfold winA; simp), mxL_le_iff hne, le_mnL_iff hne]
  exact ⟨fun h => ⟨fun _ hx => (h _ hx).1, fun _ hx => (h _ hx).2⟩, fun h x hx => ⟨h.1 x hx, h.2 x hx⟩⟩
theorem Pr.ne {n : Nat} {p : List Nat} (h : Pr n p) (hn : 0 < n) : p ≠ [] := fun e => by have := h.len; rw [e] at this; simp at this; omega

/-- By a measure. -/
def byI (m : List Nat → Int) (p q : List Nat) : Prop := m p < m q
/-- All costs, each once, rising. -/
structure Vals (C : List (List Int)) (n : Nat) (vs : List Int) : Prop where
  rise : vs.Pairwise (· < ·)
  mem : ∀ v, v ∈ vs ↔ ∃ i j, i < n ∧ j < n ∧ cst C i j = v
theorem pcs_vals {C : List (List Int)} {n : Nat} {vs : List Int} (h : Vals C n vs) {p : List Nat} (hp : Pr n p) {x : Int} (hx : x ∈ pcs C p) : x ∈ vs := by
  obtain ⟨i, hi⟩ := List.mem_iff_getElem?.1 hx
  rw [pcs_get] at hi
  rcases e : p[i]? with _ | j
  · rw [e] at hi; cases hi
  · rw [e] at hi
    simp at hi
    refine (h.mem x).2 ⟨i, j, ?_, hp.lt j (List.mem_of_getElem? e), hi⟩
    rw [← hp.len]
    exact (List.getElem?_eq_some_iff.1 e).1
theorem pcs_ne {C : List (List Int)} {n : Nat} {p : List Nat} (hp : Pr n p) (hn : 0 < n) : pcs C p ≠ [] := fun h => by
  have := congrArg List.length h; rw [pcs_length, hp.len] at this; simp at this; omega

/-- The first limit that allows a pairing: the first of the pairings whose greatest cost is least. -/
theorem worst_best {C : List (List Int)} {n : Nat} {vs : List Int} (hv : Vals C n vs) (hn : 0 < n) {v : Int} {l : List Nat} (hl : First (upA C v) n l) (hno : ∀ u ∈ vs, u < v → ¬ ∃ p, Pr n p ∧ Ok (upA C u) p) :
    Best (byI fun p => mxL (pcs C p)) (allN n) l ∧ mxL (pcs C l) = v := by
  have h1 := (ok_up (hl.pr.ne hn)).1 hl.ok
  have h2 : mxL (pcs C l) = v := by
    refine Int.le_antisymm h1 (Int.not_lt.1 fun hlt => ?_)
    exact hno _ (pcs_vals hv hl.pr (mxL_mem (pcs_ne hl.pr hn))) hlt ⟨l, hl.pr, (ok_up (hl.pr.ne hn)).2 (Int.le_refl _)⟩
  refine ⟨⟨mem_allN.2 hl.pr, fun q hq hlt => ?_, fun q hq hge => ?_⟩, h2⟩
  · have hq := mem_allN.1 hq
    have hlt : mxL (pcs C q) < mxL (pcs C l) := hlt
    rw [h2] at hlt
    exact hno _ (pcs_vals hv hq (mxL_mem (pcs_ne hq hn))) hlt ⟨q, hq, (ok_up (hq.ne hn)).2 (Int.le_refl _)⟩
  · have hq := mem_allN.1 hq
    have hge : ¬ mxL (pcs C l) < mxL (pcs C q) := hge
    rw [h2] at hge
    exact hl.least q hq ((ok_up (hq.ne hn)).2 (by omega))
/-- Some limit allows a pairing. -/
theorem worst_some {C : List (List Int)} {n : Nat} {vs : List Int} (hv : Vals C n vs) (hn : 0 < n) : ∃ v ∈ vs, ∃ p, Pr n p ∧ Ok (upA C v) p :=
  ⟨_, pcs_vals hv (pr_range n) (mxL_mem (pcs_ne (pr_range n) hn)), _, pr_range n, (ok_up ((pr_range n).ne hn)).2 (Int.le_refl _)⟩

/-- The spread of a pairing's costs. -/
def spr (C : List (List Int)) (p : List Nat) : Int := mxL (pcs C p) - mnL (pcs C p)
/-- What the search for even pairings has found, of the windows that were tried. -/
def EvenI (C : List (List Int)) (n : Nat) (T : Int → Int → Prop) (best : Option (List Nat)) (least : Int) : Prop :=
  match best with
  | none => least = 0 ∧ ∀ lo hi, T lo hi → lo ≤ hi → ¬ ∃ p, Pr n p ∧ Ok (winA C lo hi) p
  | some b => (∃ lo hi, hi - lo = least ∧ Pr n b ∧ Ok (winA C lo hi) b) ∧ ∀ lo hi, T lo hi → lo ≤ hi → ∀ q, Pr n q → Ok (winA C lo hi) q → least < hi - lo ∨ (least = hi - lo ∧ b ≤ q)
theorem EvenI.done {C : List (List Int)} {n : Nat} {T : Int → Int → Prop} {b : List Nat} {least : Int} {vs : List Int} (hv : Vals C n vs) (hn : 0 < n) (h : EvenI C n T (some b) least) (hT : ∀ lo ∈ vs, ∀ hi ∈ vs, T lo hi) :
    Best (byI (spr C)) (allN n) b ∧ spr C b = least := by
  obtain ⟨⟨lo, hi, h1, h2, h3⟩, h4⟩ := h
  have key : ∀ q, Pr n q → least < spr C q ∨ (least = spr C q ∧ b ≤ q) := fun q hq => by
    have hm := mnL_mem (pcs_ne hq hn (C := C))
    have hM := mxL_mem (pcs_ne hq hn (C := C))
    exact h4 _ _ (hT _ (pcs_vals hv hq hm) _ (pcs_vals hv hq hM)) (mnL_le hM) q hq ((ok_win (hq.ne hn)).2 ⟨Int.le_refl _, Int.le_refl _⟩)
  have h5 : spr C b = least := by
    have h6 := (ok_win (h2.ne hn)).1 h3
    have h7 := key b h2
    unfold spr at h7 ⊢
    omega
  refine ⟨⟨mem_allN.2 h2, fun q hq hlt => ?_, fun q hq hge => ?_⟩, h5⟩
  · have := key q (mem_allN.1 hq)
    unfold byI at hlt; omega
  · have := key q (mem_allN.1 hq)
    unfold byI at hge
    rcases this with h | h
    · omega
    · exact h.2
theorem EvenI.never {C : List (List Int)} {n : Nat} {T : Int → Int → Prop} {least : Int} {vs : List Int} (hv : Vals C n vs) (hn : 0 < n) (h : EvenI C n T none least) (hT : ∀ lo ∈ vs, ∀ hi ∈ vs, T lo hi) : False := by
  have hq := pr_range n
  have hm := mnL_mem (pcs_ne hq hn (C := C))
  have hM := mxL_mem (pcs_ne hq hn (C := C))
  exact h.2 _ _ (hT _ (pcs_vals hv hq hm) _ (pcs_vals hv hq hM)) (mnL_le hM) ⟨_, hq, (ok_win (hq.ne hn)).2 ⟨Int.le_refl _, Int.le_refl _⟩⟩
/-- One window more. -/
def withT (T : Int → Int → Prop) (lo hi : Int) : Int → Int → Prop := fun a b => T a b ∨ (a = lo ∧ b = hi)
theorem EvenI.skip {C : List (List Int)} {n : Nat} {T : Int → Int → Prop} {best : Option (List Nat)} {least lo hi : Int} (h : EvenI C n T best least) (hs : hi < lo ∨ (best ≠ none ∧ least < hi - lo) ∨ ¬ ∃ p, Pr n p ∧ Ok (winA C lo hi) p) : EvenI C n (withT T lo hi) best least := by
  cases best with
  | none =>
    refine ⟨h.1, fun a b hab hle => ?_⟩
    rcases hab with hab | ⟨rfl, rfl⟩
    · exact h.2 a b hab hle
    · rcases hs with hs | hs | hs
      · omega
      · exact absurd rfl hs.1
      · exact hs
  | some b =>
    refine ⟨h.1, fun a c hab hle q hq hok => ?_⟩
    rcases hab with hab | ⟨rfl, rfl⟩
    · exact h.2 a c hab hle q hq hok
    · rcases hs with hs | hs | hs
      · omega
      · exact .inl hs.2
      · exact absurd ⟨q, hq, hok⟩ hs
/-- Another pairing of a window that is as good: no better one. -/
theorem EvenI.stay {C : List (List Int)} {n : Nat} {T : Int → Int → Prop} {b l : List Nat} {least lo hi : Int} (h : EvenI C n T (some b) least) (hl : First (winA C lo hi) n l) (h1 : least ≤ hi - lo) (h2 : b ≤ l) : EvenI C n (withT T lo hi) (some b) least := by
  refine ⟨h.1, fun a c hab hle q hq hok => ?_⟩
  rcases hab with hab | ⟨rfl, rfl⟩
  · exact h.2 a c hab hle q hq hok
  · rcases Int.lt_or_eq_of_le h1 with h3 | h3
    · exact .inl h3
    · exact .inr ⟨h3, List.le_trans h2 (hl.least q hq hok)⟩
theorem EvenI.take {C : List (List Int)} {n : Nat} {T : Int → Int → Prop} {best : Option (List Nat)} {l : List Nat} {least lo hi : Int} (h : EvenI C n T best least) (hl : First (winA C lo hi) n l)
    (hb : best = none ∨ ∃ b, best = some b ∧ (hi - lo < least ∨ (hi - lo = least ∧ l < b))) : EvenI C n (withT T lo hi) (some l) (hi - lo) := by
  refine ⟨⟨lo, hi, rfl, hl.pr, hl.ok⟩, fun a c hab hle q hq hok => ?_⟩
  rcases hab with hab | ⟨rfl, rfl⟩
  · rcases hb with rfl | ⟨b, rfl, hb⟩
    · exact absurd ⟨q, hq, hok⟩ (h.2 a c hab hle)
    · rcases h.2 a c hab hle q hq hok with h3 | ⟨h3, h4⟩
      · left; omega
      · rcases hb with hb | ⟨hb, hb2⟩
        · left; omega
        · exact .inr ⟨by omega, fun hlt => h4 (List.lt_trans hlt hb2)⟩
  · exact .inr ⟨rfl, hl.least q hq hok⟩
end Go.Proofs.Ytkecdjdggkpdpab

/- How many pairings are allowed; which one has a number. Plain. -/
namespace Go.Proofs.Ytkecdjdggkpdpab

/-- The pairings that begin with some columns, whose later pairs are allowed, in lexicographic order; m rows are left. -/
def alw (A : Nat → Nat → Bool) (n : Nat) : Nat → List Nat → List (List Nat)
  | 0, f => [f]
  | m + 1, f => ((List.range n).filter fun j => !f.contains j && A f.length j).flatMap fun j => alw A n m (f ++ [j])
/-- The same, up to a column. -/
def alwU (A : Nat → Nat → Bool) (n m : Nat) (f : List Nat) (k : Nat) : List (List Nat) := ((List.range k).filter fun j => !f.contains j && A f.length j).flatMap fun j => alw A n m (f ++ [j])
theorem alw_succ (A : Nat → Nat → Bool) (n m : Nat) (f : List Nat) : alw A n (m + 1) f = alwU A n m f n := rfl
theorem alwU_zero (A : Nat → Nat → Bool) (n m : Nat) (f : List Nat) : alwU A n m f 0 = [] := rfl
theorem alwU_skip (A : Nat → Nat → Bool) (n m : Nat) (f : List Nat) (k : Nat) (h : k ∈ f ∨ A f.length k = false) : alwU A n m f (k + 1) = alwU A n m f k := by
  unfold alwU
  rw [List.range_succ, List.filter_append, List.flatMap_append]
  rcases h with h | h <;> simp [h]
theorem alwU_take (A : Nat → Nat → Bool) (n m : Nat) (f : List Nat) (k : Nat) (h : k ∉ f) (h2 : A f.length k = true) : alwU A n m f (k + 1) = alwU A n m f k ++ alw A n m (f ++ [k]) := by
  unfold alwU
  rw [List.range_succ, List.filter_append, List.flatMap_append]
  simp [h, h2]
theorem alwU_add (A : Nat → Nat → Bool) (n m : Nat) (f : List Nat) (k d : Nat) : ∃ t, alwU A n m f (k + d) = alwU A n m f k ++ t := by
  induction d with
  | zero => exact ⟨[], by simp⟩
  | succ d ih =>
    obtain ⟨t, ht⟩ := ih
    by_cases h : k + d ∈ f ∨ A f.length (k + d) = false
    · exact ⟨t, by rw [← ht]; exact alwU_skip A n m f (k + d) h⟩
    · rw [not_or, Bool.not_eq_false] at h
      exact ⟨t ++ alw A n m (f ++ [k + d]), by rw [show k + (d + 1) = k + d + 1 from rfl, alwU_take A n m f (k + d) h.1 h.2, ht, List.append_assoc]⟩

theorem snoc_nodup {f : List Nat} {j : Nat} (hn : f.Nodup) (hj : j ∉ f) : (f ++ [j]).Nodup := by
  rw [List.nodup_append]
  exact ⟨hn, by simp, fun a ha b hb => by rw [List.mem_singleton] at hb; rintro rfl; subst hb; exact hj ha⟩
theorem snoc_lt {f : List Nat} {j n : Nat} (hlt : ∀ x ∈ f, x < n) (hj : j < n) : ∀ x ∈ f ++ [j], x < n := fun x hx => by
  rcases List.mem_append.1 hx with hx | hx
  · exact hlt x hx
  · rw [List.mem_singleton] at hx; omega

theorem mem_alw (A : Nat → Nat → Bool) (n : Nat) : ∀ (m : Nat) (f p : List Nat), f.length + m = n → f.Nodup → (∀ x ∈ f, x < n) → (p ∈ alw A n m f ↔ Pr n p ∧ f <+: p ∧ ∀ i x, f.length ≤ i → p[i]? = some x → A i x = true) := by
  intro m
  induction m with
  | zero =>
    intro f p hl hn hlt
    simp only [alw, List.mem_singleton]
    constructor
    · rintro rfl
      exact ⟨⟨by omega, hn, hlt⟩, List.prefix_refl _, fun i x hi hx => by rw [List.getElem?_eq_none hi] at hx; cases hx⟩
    · rintro ⟨hp, h, _⟩
      exact (h.eq_of_length (by rw [hp.len]; omega)).symm
  | succ m ih =>
    intro f p hl hn hlt
    simp only [alw, List.mem_flatMap, List.mem_filter, List.mem_range, Bool.and_eq_true, Bool.not_eq_true', List.contains_eq_mem, decide_eq_false_iff_not]
    constructor
    · rintro ⟨j, ⟨hj, hjf, hA⟩, hp⟩
      obtain ⟨h1, h2, h3⟩ := (ih (f ++ [j]) p (by simp; omega) (snoc_nodup hn hjf) (snoc_lt hlt hj)).1 hp
      refine ⟨h1, (List.prefix_append f [j]).trans h2, fun i x hi hx => ?_⟩
      rcases Nat.lt_or_eq_of_le hi with h | h
      · exact h3 i x (by simp; omega) hx
      · subst h
        obtain ⟨t, rfl⟩ := h2
        simp at hx
        subst hx; exact hA
    · rintro ⟨hp, hf, hall⟩
      obtain ⟨x, hx, hxn⟩ := hp.get (i := f.length) (by omega)
      have hpre := snoc_prefix hx hf
      have hnot : x ∉ f := fun hxf => by
        have := hpre.sublist.nodup hp.nodup
        rw [List.nodup_append] at this
        exact this.2.2 x hxf x (by simp) rfl
      refine ⟨x, ⟨hxn, hnot, hall _ x (Nat.le_refl _) hx⟩, (ih (f ++ [x]) p (by simp; omega) (snoc_nodup hn hnot) (snoc_lt hlt hxn)).2 ⟨hp, hpre, fun i y hi hy => hall i y (by simp at hi; omega) hy⟩⟩

theorem alw_sorted (A : Nat → Nat → Bool) (n : Nat) : ∀ (m : Nat) (f : List Nat), f.length + m = n → f.Nodup → (∀ x ∈ f, x < n) → (alw A n m f).Pairwise (· < ·) := by
  intro m
  induction m with
  | zero => intro f _ _ _; simp [alw]
  | succ m ih =>
    intro f hl hn hlt
    simp only [alw]
    rw [List.pairwise_flatMap]
    have hm : ∀ j, j ∈ ((List.range n).filter fun j => !f.contains j && A f.length j) → j < n ∧ j ∉ f := fun j hj => by
      simp at hj; exact ⟨hj.1, hj.2.1⟩
    constructor
    · intro j hj
      obtain ⟨h1, h2⟩ := hm j hj
      exact ih _ (by simp; omega) (snoc_nodup hn h2) (snoc_lt hlt h1)
    · have hr : (List.range n).Pairwise (· < ·) := List.pairwise_lt_range
      refine (hr.sublist List.filter_sublist).imp_of_mem fun {a b} ha hb hab x hx y hy => ?_
      obtain ⟨a1, a2⟩ := hm a ha
      obtain ⟨b1, b2⟩ := hm b hb
      exact lt_of_prefix hab ((mem_alw A n m _ _ (by simp; omega) (snoc_nodup hn a2) (snoc_lt hlt a1)).1 hx).2.1 ((mem_alw A n m _ _ (by simp; omega) (snoc_nodup hn b2) (snoc_lt hlt b1)).1 hy).2.1

theorem sorted_ext {l m : List (List Nat)} (hl : l.Pairwise (· < ·)) (hm : m.Pairwise (· < ·)) (h : ∀ x, x ∈ l ↔ x ∈ m) : l = m := by
  have hnd : ∀ {k : List (List Nat)}, k.Pairwise (· < ·) → k.Nodup := fun hk => List.nodup_iff_pairwise_ne.2 (hk.imp fun hab he => by subst he; exact List.lt_irrefl _ hab)
  have hp : l.Perm m := (List.perm_ext_iff_of_nodup (hnd hl) (hnd hm)).2 fun x => h x
  exact hp.eq_of_pairwise (fun a b _ _ h1 h2 => absurd (List.lt_trans h1 h2) (List.lt_irrefl _)) hl hm
/-- The allowed pairings of n. -/
def alwN (A : Nat → Nat → Bool) (n : Nat) : List (List Nat) := alw A n n []
theorem mem_alwN {A : Nat → Nat → Bool} {n : Nat} {p : List Nat} : p ∈ alwN A n ↔ Pr n p ∧ Ok A p := by
  unfold alwN
  rw [mem_alw A n n [] p (by simp) (by simp) (by simp)]
  exact ⟨fun h => ⟨h.1, fun i x hx => h.2.2 i x (by simp) hx⟩, fun h => ⟨h.1, List.nil_prefix, fun i x _ hx => h.2 i x hx⟩⟩
theorem alwN_sorted (A : Nat → Nat → Bool) (n : Nat) : (alwN A n).Pairwise (· < ·) := alw_sorted A n n [] (by simp) (by simp) (by simp)
theorem alwN_filter {A : Nat → Nat → Bool} {n : Nat} (P : List Nat → Bool) (hP : ∀ p, Pr n p → (P p = true ↔ Ok A p)) : (allN n).filter P = alwN A n := by
  refine sorted_ext ((allN_sorted n).sublist List.filter_sublist) (alwN_sorted A n) fun x => ?_
  rw [List.mem_filter, mem_allN, mem_alwN]
  exact ⟨fun h => ⟨h.1, (hP x h.1).1 h.2⟩, fun h => ⟨h.1, (hP x h.1).2 h.2⟩⟩

/-- How many bits are set below k. -/
def pop (u : Nat) : Nat → Nat
  | 0 => 0
  | k + 1 => pop u k + (u.testBit k).toNat
theorem pop_le (u k : Nat) : pop u k ≤ k := by
  induction k with
  | zero => exact Nat.le_refl _
  | succ k ih => have := (u.testBit k).toNat_le; simp only [pop]; omega
/-- In how many ways the rows that are left can be paired, by the columns that are used; m rows are left. -/
def wayM (A : Nat → Nat → Bool) (n : Nat) : Nat → Nat → Nat
  | 0, _ => 1
  | m + 1, u => (((List.range n).filter fun j => !u.testBit j && A (n - (m + 1)) j).map fun j => wayM A n m (u ||| 2 ^ j)).sum
/-- The same, up to a column. -/
def wayU (A : Nat → Nat → Bool) (n m u k : Nat) : Nat := (((List.range k).filter fun j => !u.testBit j && A (n - (m + 1)) j).map fun j => wayM A n m (u ||| 2 ^ j)).sum
theorem wayM_succ (A : Nat → Nat → Bool) (n m u : Nat) : wayM A n (m + 1) u = wayU A n m u n := rfl
theorem wayU_zero (A : Nat → Nat → Bool) (n m u : Nat) : wayU A n m u 0 = 0 := rfl
theorem wayU_skip (A : Nat → Nat → Bool) (n m u k : Nat) (h : u.testBit k = true ∨ A (n - (m + 1)) k = false) : wayU A n m u (k + 1) = wayU A n m u k := by
  unfold wayU
  rw [List.range_succ, List.filter_append]
  rcases h with h | h <;> simp [h]
theorem wayU_take (A : Nat → Nat → Bool) (n m u k : Nat) (h : u.testBit k = false) (h2 : A (n - (m + 1)) k = true) : wayU A n m u (k + 1) = wayU A n m u k + wayM A n m (u ||| 2 ^ k) := by
  unfold wayU
  rw [List.range_succ, List.filter_append]
  simp [h, h2]
theorem wayM_le (A : Nat → Nat → Bool) (n : Nat) : ∀ m u, wayM A n m u ≤ n ^ m := by
  intro m
  induction m with
  | zero => intro u; simp [wayM]
  | succ m ih =>
    intro u
    rw [wayM_succ]
    suffices h : ∀ k, wayU A n m u k ≤ k * n ^ m by
      refine Nat.le_trans (h n) ?_
      rw [Nat.pow_succ, Nat.mul_comm]; exact Nat.le_refl _
    intro k
    induction k with
    | zero => simp [wayU_zero]
    | succ k ihk =>
      rw [Nat.succ_mul]
      by_cases h : u.testBit k = true ∨ A (n - (m + 1)) k = false
      · rw [wayU_skip _ _ _ _ _ h]; omega
      · rw [not_or, Bool.not_eq_true, Bool.not_eq_false] at h
        rw [wayU_take _ _ _ _ _ h.1 h.2]
        have := ih (u ||| 2 ^ k)
        omega
theorem wayU_le (A : Nat → Nat → Bool) (n m u k : Nat) : wayU A n m u k ≤ k * n ^ m := by
  induction k with
  | zero => simp [wayU_zero]
  | succ k ihk =>
    rw [Nat.succ_mul]
    by_cases h : u.testBit k = true ∨ A (n - (m + 1)) k = false
    · rw [wayU_skip _ _ _ _ _ h]; omega
    · rw [not_or, Bool.not_eq_true, Bool.not_eq_false] at h
      rw [wayU_take _ _ _ _ _ h.1 h.2]
      have := wayM_le A n m (u ||| 2 ^ k)
      omega
/-- The number's bits are the list's columns. -/
def Bits (n u : Nat) (f : List Nat) : Prop := u < 2 ^ n ∧ ∀ j, j < n → (u.testBit j = true ↔ j ∈ f)
theorem Bits.zero (n : Nat) : Bits n 0 [] := ⟨Nat.two_pow_pos n, fun j _ => by simp⟩
theorem Bits.snoc {n u k : Nat} {f : List Nat} (h : Bits n u f) (hk : k < n) : Bits n (u ||| 2 ^ k) (f ++ [k]) := by
  refine ⟨Nat.or_lt_two_pow h.1 (Nat.pow_lt_pow_right (by omega) hk), fun j hj => ?_⟩
  rw [Nat.testBit_or, Nat.testBit_two_pow, Bool.or_eq_true, h.2 j hj, List.mem_append, List.mem_singleton, decide_eq_true_eq]
  constructor
  · rintro (h | h)
    · exact .inl h
    · exact .inr h.symm
  · rintro (h | h)
    · exact .inl h
    · exact .inr h.symm
theorem alw_len (A : Nat → Nat → Bool) (n : Nat) : ∀ (m u : Nat) (f : List Nat), f.length + m = n → Bits n u f → (alw A n m f).length = wayM A n m u := by
  intro m
  induction m with
  | zero => intro u f _ _; simp [alw, wayM]
  | succ m ih =>
    intro u f hl hb
    rw [alw_succ, wayM_succ]
    suffices h : ∀ k, k ≤ n → (alwU A n m f k).length = wayU A n m u k from h n (Nat.le_refl _)
    have he : n - (m + 1) = f.length := by omega
    intro k
    induction k with
    | zero => intro _; rfl
    | succ k ihk =>
      intro hk
      have ihk := ihk (by omega)
      by_cases h1 : k ∈ f
      · rw [alwU_skip _ _ _ _ _ (.inl h1), wayU_skip _ _ _ _ _ (.inl ((hb.2 k (by omega)).2 h1)), ihk]
      · have h1' : u.testBit k = false := by
          rw [← Bool.not_eq_true, hb.2 k (by omega)]; exact h1
        by_cases h2 : A f.length k = true
        · rw [alwU_take _ _ _ _ _ h1 h2, wayU_take _ _ _ _ _ h1' (by rw [he]; exact h2), List.length_append, ihk, ih (u ||| 2 ^ k) (f ++ [k]) (by simp; omega) (hb.snoc (by omega))]
        · rw [Bool.not_eq_true] at h2
          rw [alwU_skip _ _ _ _ _ (.inr h2), wayU_skip _ _ _ _ _ (.inr (by rw [he]; exact h2)), ihk]
theorem alwU_len (A : Nat → Nat → Bool) (n m u : Nat) (f : List Nat) (hl : f.length + (m + 1) = n) (hb : Bits n u f) (k : Nat) (hk : k ≤ n) : (alwU A n m f k).length = wayU A n m u k := by
  have he : n - (m + 1) = f.length := by omega
  induction k with
  | zero => rfl
  | succ k ihk =>
    have ihk := ihk (by omega)
    by_cases h1 : k ∈ f
    · rw [alwU_skip _ _ _ _ _ (.inl h1), wayU_skip _ _ _ _ _ (.inl ((hb.2 k (by omega)).2 h1)), ihk]
    · have h1' : u.testBit k = false := by
        rw [← Bool.not_eq_true, hb.2 k (by omega)]; exact h1
      by_cases h2 : A f.length k = true
      · rw [alwU_take _ _ _ _ _ h1 h2, wayU_take _ _ _ _ _ h1' (by rw [he]; exact h2), List.length_append, ihk, alw_len A n m (u ||| 2 ^ k) (f ++ [k]) (by simp; omega) (hb.snoc (by omega))]
      · rw [Bool.not_eq_true] at h2
        rw [alwU_skip _ _ _ _ _ (.inr h2), wayU_skip _ _ _ _ _ (.inr (by rw [he]; exact h2)), ihk]

theorem pop_or {u k : Nat} (hk : u.testBit k = false) : ∀ n, k < n → pop (u ||| 2 ^ k) n = pop u n + 1 := by
  have hlow : ∀ i, i ≤ k → pop (u ||| 2 ^ k) i = pop u i := by
    intro i
    induction i with
    | zero => intro _; rfl
    | succ i ih =>
      intro hi
      simp only [pop]
      rw [ih (by omega), Nat.testBit_or, Nat.testBit_two_pow, decide_eq_false (by omega), Bool.or_false]
  intro n
  induction n with
  | zero => intro h; omega
  | succ n ih =>
    intro h
    simp only [pop]
    rw [Nat.testBit_or, Nat.testBit_two_pow]
    rcases Nat.lt_or_eq_of_le (Nat.le_of_lt_succ h) with h1 | h1
    · rw [ih h1, decide_eq_false (by omega), Bool.or_false]; omega
    · subst h1
      rw [hlow k (Nat.le_refl _), hk]; simp
theorem pop_bits {n u : Nat} {f : List Nat} (hb : Bits n u f) (hn : f.Nodup) (hlt : ∀ x ∈ f, x < n) : pop u n = f.length := by
  have h1 : ∀ k, k ≤ n → pop u k = (f.filter fun x => decide (x < k)).length := by
    intro k
    induction k with
    | zero => intro _; rw [List.filter_eq_nil_iff.2 (by simp)]; rfl
    | succ k ih =>
      intro hk
      simp only [pop]
      rw [ih (by omega)]
      have hsplit : ∀ l : List Nat, l.Nodup → (l.filter fun x => decide (x < k + 1)).length = (l.filter fun x => decide (x < k)).length + if k ∈ l then 1 else 0 := by
        intro l
        induction l with
        | nil => intro _; simp
        | cons a l ihl =>
          intro hnd
          rw [List.nodup_cons] at hnd
          have := ihl hnd.2
          by_cases ha : a = k
          · subst ha
            rw [if_neg hnd.1] at this
            simp [this]
          · have e1 : (k ∈ a :: l) ↔ k ∈ l := by simp; omega
            by_cases h2 : a < k
            · simp [h2, e1, this, Nat.lt_succ_of_lt h2]; omega
            · have h3 : ¬ a < k + 1 := by omega
              simp [h2, h3, e1, this]
      rw [hsplit f hn]
      by_cases h2 : k ∈ f
      · rw [if_pos h2, (hb.2 k (by omega)).2 h2]; rfl
      · have : u.testBit k = false := by rw [← Bool.not_eq_true, hb.2 k (by omega)]; exact h2
        rw [if_neg h2, this]; rfl
  rw [h1 n (Nat.le_refl _), List.filter_eq_self.2 fun x hx => by simpa using hlt x hx]

/-- What the table holds: of a number below 2^n. -/
def wayT (A : Nat → Nat → Bool) (n u : Nat) : Nat := wayM A n (n - pop u n) u
theorem wayT_bits {A : Nat → Nat → Bool} {n u m : Nat} {f : List Nat} (hb : Bits n u f) (hn : f.Nodup) (hlt : ∀ x ∈ f, x < n) (hl : f.length + m = n) : wayT A n u = (alw A n m f).length := by
  unfold wayT
  rw [pop_bits hb hn hlt, alw_len A n m u f hl hb, show n - f.length = m by omega]
theorem wayT_zero {A : Nat → Nat → Bool} {n : Nat} : wayT A n 0 = (alwN A n).length := wayT_bits (Bits.zero n) (by simp) (by simp) (by simp)

/-- The number of a pairing, sought: the rows up to here have these columns, what is left of the number. -/
structure AtI (A : Nat → Nat → Bool) (n rank m u : Nat) (f : List Nat) (k : Nat) : Prop where
  len : f.length + m = n
  nodup : f.Nodup
  lt : ∀ x ∈ f, x < n
  bits : Bits n u f
  less : k < (alw A n m f).length
  here : (alwN A n)[rank]? = (alw A n m f)[k]?
theorem AtI.start {A : Nat → Nat → Bool} {n rank : Nat} (h : rank < (alwN A n).length) : AtI A n rank n 0 [] rank := ⟨by simp, by simp, by simp, Bits.zero n, h, rfl⟩
theorem AtI.done {A : Nat → Nat → Bool} {n rank u k : Nat} {f : List Nat} (h : AtI A n rank 0 u f k) : (alwN A n)[rank]? = some f := by
  have := h.less
  rw [h.here]
  simp [alw] at this ⊢
  subst this; rfl
/-- Column j of the next row: the number falls behind it, or in it. -/
theorem AtI.take {A : Nat → Nat → Bool} {n rank m u k j : Nat} {f : List Nat} (h : AtI A n rank (m + 1) u f (k + (alwU A n m f j).length)) (hj : j < n) (h1 : j ∉ f) (h2 : A f.length j = true) (h3 : k < (alw A n m (f ++ [j])).length) :
    AtI A n rank m (u ||| 2 ^ j) (f ++ [j]) k := by
  refine ⟨by have := h.len; simp; omega, snoc_nodup h.nodup h1, snoc_lt h.lt hj, h.bits.snoc hj, h3, ?_⟩
  rw [h.here, alw_succ]
  obtain ⟨t, ht⟩ := alwU_add A n m f (j + 1) (n - (j + 1))
  rw [show j + 1 + (n - (j + 1)) = n by omega] at ht
  rw [ht, alwU_take A n m f j h1 h2, List.append_assoc, List.getElem?_append_right (by omega), List.getElem?_append_left (by omega), Nat.add_sub_cancel]

/-- The number of a pairing, reckoned: how many come before those that begin so. -/
theorem rank_step {A : Nat → Nat → Bool} {n m j k r : Nat} {f : List Nat} {t : List (List Nat)} (hj : j < n) (h1 : j ∉ f) (h2 : A f.length j = true) (h : ∀ i x, (alw A n (m + 1) f)[i]? = some x → t[r + i]? = some x) (hk : k = (alwU A n m f j).length) :
    ∀ i x, (alw A n m (f ++ [j]))[i]? = some x → t[r + k + i]? = some x := by
  intro i x hx
  subst hk
  rw [Nat.add_assoc]
  refine h _ x ?_
  rw [alw_succ]
  obtain ⟨s, hs⟩ := alwU_add A n m f (j + 1) (n - (j + 1))
  rw [show j + 1 + (n - (j + 1)) = n by omega] at hs
  have hi := (List.getElem?_eq_some_iff.1 hx).1
  rw [hs, alwU_take A n m f j h1 h2, List.append_assoc, List.getElem?_append_right (by omega), Nat.add_sub_cancel_left, List.getElem?_append_left hi]
  exact hx
end Go.Proofs.Ytkecdjdggkpdpab

/- Prices of rows and columns, row by row, over cheapest ways. Plain. -/
namespace Go.Proofs.Ytkecdjdggkpdpab

theorem at0_set (l : List Int) (i j : Nat) (v : Int) (h : i < l.length) : at0 (l.set i v) j = if i = j then v else at0 l j := by
  unfold at0
  rw [List.getElem?_set]
  split
  · rename_i e
    subst e
    first | rfl | (rw [if_pos h]; rfl)
  · rfl
theorem at0_replicate (n : Nat) (v : Int) (j : Nat) (h : j < n) : at0 (List.replicate n v) j = v := by
  unfold at0; rw [List.getElem?_replicate, if_pos h]; rfl

/-- Prices so far: the rows below b have their columns, at prices that are their costs. -/
structure Hun (C : List (List Int)) (n b : Nat) (z : Nat) (R K O : List Int) : Prop where
  lR : R.length = n
  lK : K.length = n
  lO : O.length = n
  feas : ∀ i j, i < n → j < n → at0 R i + at0 K j ≤ cst C i j
  r0 : ∀ i, i < n → 0 ≤ at0 R i
  rz : ∀ i, z ≤ i → i < n → at0 R i = 0
  k0 : ∀ j, j < n → at0 K j ≤ 0
  kz : ∀ j, j < n → at0 O j < 0 → at0 K j = 0
  tight : ∀ j, j < n → ∀ k : Nat, at0 O j = (k : Int) → at0 R k + at0 K j = cst C k j
  cnt : ∀ k : Nat, O.count (k : Int) = if k < b then 1 else 0
  on : ∀ j, j < n → at0 O j = -1 ∨ ∃ k : Nat, at0 O j = (k : Int) ∧ k < b
theorem Hun.start (C : List (List Int)) (n : Nat) (h : ∀ i j, i < n → j < n → 0 ≤ cst C i j) : Hun C n 0 0 (List.replicate n 0) (List.replicate n 0) (List.replicate n (-1)) := by
  refine ⟨by simp, by simp, by simp, fun i j hi hj => ?_, fun i hi => ?_, fun i _ hi => at0_replicate n 0 i hi, fun j hj => ?_, fun j hj _ => at0_replicate n 0 j hj, fun j hj k hk => ?_, fun k => ?_, fun j hj => .inl (at0_replicate n _ j hj)⟩
  · rw [at0_replicate n 0 i hi, at0_replicate n 0 j hj]; simpa using h i j hi hj
  · rw [at0_replicate n 0 i hi]; omega
  · rw [at0_replicate n 0 j hj]; omega
  · rw [at0_replicate n _ j hj] at hk; omega
  · rw [List.count_replicate]; simp
theorem Hun.inj {C : List (List Int)} {n b z : Nat} {R K O : List Int} (h : Hun C n b z R K O) {i j k : Nat} (hi : i < n) (hj : j < n) (h1 : at0 O i = (k : Int)) (h2 : at0 O j = (k : Int)) : i = j := by
  have e1 : O[i]? = some (k : Int) := by rw [at0_get (by rw [h.lO]; exact hi), h1]
  have e2 : O[j]? = some (k : Int) := by rw [at0_get (by rw [h.lO]; exact hj), h2]
  have hc := h.cnt k
  rcases Nat.lt_trichotomy i j with hlt | hlt | hlt
  · have := count_two e1 e2 hlt
    split at hc <;> omega
  · exact hlt
  · have := count_two e2 e1 hlt
    split at hc <;> omega
/-- A column without a row. -/
theorem Hun.left {C : List (List Int)} {n b z : Nat} {R K O : List Int} (h : Hun C n b z R K O) (hb : b < n) : ∃ j, j < n ∧ at0 O j = -1 := by
  refine Classical.byContradiction fun hno => ?_
  have hall : ∀ v ∈ O, ∃ k : Nat, v = (k : Int) ∧ k < b := fun v hv => by
    obtain ⟨j, hj, rfl⟩ := List.mem_iff_getElem.1 hv
    rw [h.lO] at hj
    have e : at0 O j = O[j] := at0_of (List.getElem?_eq_getElem _)
    rcases h.on j hj with h1 | h1
    · exact absurd ⟨j, hj, h1⟩ hno
    · rw [e] at h1; exact h1
  have hnd : O.Nodup := List.nodup_iff_count.2 fun v => by
    by_cases hv : v ∈ O
    · obtain ⟨k, rfl, hk⟩ := hall v hv
      rw [h.cnt k, if_pos hk]; omega
    · rw [List.count_eq_zero_of_not_mem hv]; omega
  have hs : O ⊆ (List.range b).map fun k : Nat => (k : Int) := fun v hv => by
    obtain ⟨k, rfl, hk⟩ := hall v hv
    exact List.mem_map.2 ⟨k, List.mem_range.2 hk, rfl⟩
  have := hnd.length_le_of_subset hs
  rw [h.lO, List.length_map, List.length_range] at this
  omega
/-- All prices are small as long as a column has no row. -/
theorem Hun.small {C : List (List Int)} {n b z : Nat} {R K O : List Int} (h : Hun C n b z R K O) (hb : b < n) (hC : ∀ i j, i < n → j < n → cst C i j ≤ 1000) (hC0 : ∀ i j, i < n → j < n → 0 ≤ cst C i j) : (∀ i, i < n → at0 R i ≤ 1000) ∧ ∀ j, j < n → -1000 ≤ at0 K j := by
  obtain ⟨x, hx, hx1⟩ := h.left hb
  have hr : ∀ i, i < n → at0 R i ≤ 1000 := fun i hi => by
    have h1 := h.feas i x hi hx
    have h2 := h.kz x hx (by omega)
    have h3 := hC i x hi hx
    omega
  refine ⟨hr, fun j hj => ?_⟩
  rcases h.on j hj with h1 | ⟨k, h1, h2⟩
  · have := h.kz j hj (by omega); omega
  · have h3 := h.tight j hj k h1
    have h4 := hC0 k j (by omega) hj
    have h5 := hr k (by omega)
    omega
theorem Hun.end {C : List (List Int)} {n z : Nat} {R K O : List Int} (h : Hun C n n z R K O) (hC0 : ∀ i j, i < n → j < n → 0 ≤ cst C i j) (hr : ∀ i, i < n → at0 R i ≤ 1000) : ∀ j, j < n → -1000 ≤ at0 K j := fun j hj => by
  rcases h.on j hj with h1 | ⟨k, h1, h2⟩
  · have := h.kz j hj (by omega); omega
  · have h3 := h.tight j hj k h1
    have h4 := hC0 k j (by omega) hj
    have h5 := hr k (by omega)
    omega

/-- The row from which a column was reached: the one that begins, or the owner of a column. -/
def ro (O : List Int) (b : Nat) (x : Int) : Nat := if x < 0 then b else (at0 O x.toNat).toNat
theorem ro_neg (O : List Int) (b : Nat) : ro O b (-1) = b := rfl
theorem ro_nat (O : List Int) (b j : Nat) {k : Nat} (h : at0 O j = (k : Int)) : ro O b (j : Int) = k := by unfold ro; rw [if_neg (by omega), Int.toNat_natCast, h]; rfl
/-- How dear a pair is above its prices. -/
def slk (C : List (List Int)) (R K : List Int) (i j : Nat) : Int := cst C i j - at0 R i - at0 K j

/-- The search from row b: the columns that were reached (full), those whose rows were looked at (src). -/
structure Sta (C : List (List Int)) (n b : Nat) (R K O : List Int) (done : List Bool) (D F : List Int) (src full : List Int) : Prop where
  h : Hun C n b (b + 1) R K O
  hb : b < n
  ld : done.length = n
  lD : D.length = n
  lF : F.length = n
  nd : full.Nodup
  ful : ∀ x ∈ full, x = -1 ∨ ∃ j : Nat, x = (j : Int) ∧ j < n ∧ done[j]? = some true ∧ ∃ k : Nat, at0 O j = (k : Int)
  dn : ∀ j : Nat, done[j]? = some true → (j : Int) ∈ full
  sub : src ⊆ full
  path : ∀ j : Nat, (j : Int) ∈ full → at0 F j ∈ full ∧ full.idxOf (at0 F j) < full.idxOf (j : Int) ∧ slk C R K (ro O b (at0 F j)) j = 0
  dear : ∀ j : Nat, done[j]? = some false → (at0 D j = 1099511627776 ∧ src = []) ∨ (at0 F j ∈ src ∧ at0 D j = slk C R K (ro O b (at0 F j)) j)
  low : ∀ x ∈ src, ∀ j : Nat, done[j]? = some false → at0 D j ≤ slk C R K (ro O b x) j

theorem bool_or {s : List Bool} {j : Nat} (h : j < s.length) : s[j]? = some true ∨ s[j]? = some false := by
  rw [List.getElem?_eq_getElem h]
  cases s[j]
  · exact .inr rfl
  · exact .inl rfl

theorem Sta.start {C : List (List Int)} {n b : Nat} {R K O : List Int} (h : Hun C n b b R K O) (hb : b < n) :
    Sta C n b R K O (List.replicate n false) (List.replicate n 1099511627776) (List.replicate n (-1)) [] [-1] := by
  have hf : ∀ x : Nat, ¬ (List.replicate n false)[x]? = some true := fun x hx => by
    have := List.eq_of_mem_replicate (List.mem_of_getElem? hx); cases this
  refine ⟨⟨h.lR, h.lK, h.lO, h.feas, h.r0, fun i hi => h.rz i (by omega), h.k0, h.kz, h.tight, h.cnt, h.on⟩, hb, by simp, by simp, by simp, by simp, fun x hx => .inl (by simpa using hx), fun j hj => absurd hj (hf j), by simp, fun j hj => ?_, fun j hj => ?_, fun x hx => by cases hx⟩
  · simp at hj
  · refine .inl ⟨at0_replicate n _ j ?_, rfl⟩
    have := (List.getElem?_eq_some_iff.1 hj).1
    simpa using this

/-- The row of a column (or the one that begins) is looked at: the columns that are cheaper from it. -/
theorem Sta.scan {C : List (List Int)} {n b : Nat} {R K O : List Int} {done : List Bool} {D F : List Int} {src : List Int} {x : Int} {D' F' : List Int} (h : Sta C n b R K O done D F src (src ++ [x])) (hC : ∀ i j, i < n → j < n → slk C R K i j < 1099511627776)
    (hD : D'.length = n) (hF : F'.length = n)
    (hdone : ∀ j : Nat, done[j]? = some true → at0 F' j = at0 F j)
    (hnew : ∀ j : Nat, done[j]? = some false → (slk C R K (ro O b x) j < at0 D j → at0 D' j = slk C R K (ro O b x) j ∧ at0 F' j = x) ∧ (¬ slk C R K (ro O b x) j < at0 D j → at0 D' j = at0 D j ∧ at0 F' j = at0 F j)) :
    Sta C n b R K O done D' F' (src ++ [x]) (src ++ [x]) := by
  have hx : x = -1 ∨ ∃ j : Nat, x = (j : Int) ∧ j < n ∧ done[j]? = some true ∧ ∃ k : Nat, at0 O j = (k : Int) := h.ful x (by simp)
  have hrx : ro O b x < n := by
    rcases hx with rfl | ⟨j, rfl, hj, _, k, hk⟩
    · rw [ro_neg]; exact h.hb
    · rw [ro_nat O b j hk]
      rcases h.h.on j hj with h1 | ⟨u, h1, h2⟩
      · omega
      · have := h.hb; omega
  refine ⟨h.h, h.hb, h.ld, hD, hF, h.nd, h.ful, h.dn, List.Subset.refl _, fun j hj => ?_, fun j hj => ?_, fun y hy j hj => ?_⟩
  · rcases h.ful _ hj with h1 | ⟨u, h1, _, h2, _⟩
    · omega
    · have : u = j := by omega
      subst this
      rw [hdone u h2]
      exact h.path u hj
  · right
    have hjn : j < n := by rw [← h.ld]; exact (List.getElem?_eq_some_iff.1 hj).1
    by_cases hlt : slk C R K (ro O b x) j < at0 D j
    · obtain ⟨h1, h2⟩ := (hnew j hj).1 hlt
      rw [h1, h2]
      exact ⟨by simp, rfl⟩
    · obtain ⟨h1, h2⟩ := (hnew j hj).2 hlt
      rw [h1, h2]
      rcases h.dear j hj with ⟨h3, h4⟩ | ⟨h3, h4⟩
      · exact absurd (by rw [h3]; exact hC _ j hrx hjn) hlt
      · exact ⟨by simp [h3], h4⟩
  · by_cases hlt : slk C R K (ro O b x) j < at0 D j
    · obtain ⟨h1, h2⟩ := (hnew j hj).1 hlt
      rw [h1]
      rcases List.mem_append.1 hy with hy | hy
      · have := h.low y hy j hj; omega
      · rw [List.mem_singleton] at hy; subst hy; omega
    · obtain ⟨h1, h2⟩ := (hnew j hj).2 hlt
      rw [h1]
      rcases List.mem_append.1 hy with hy | hy
      · exact h.low y hy j hj
      · rw [List.mem_singleton] at hy; subst hy; omega

/-- A row of the tree. -/
def InT (O : List Int) (b : Nat) (done : List Bool) (k : Nat) (i : Nat) : Prop := i = b ∨ ∃ j : Nat, j < k ∧ done[j]? = some true ∧ at0 O j = (i : Int)
theorem Sta.inT {C : List (List Int)} {n b : Nat} {R K O : List Int} {done : List Bool} {D F src full : List Int} (h : Sta C n b R K O done D F src full) {x : Int} (hx : x ∈ full) : InT O b done n (ro O b x) := by
  rcases h.ful x hx with rfl | ⟨j, rfl, hj, hd, k, hk⟩
  · exact .inl rfl
  · rw [ro_nat O b j hk]
    exact .inr ⟨j, hj, hd, hk⟩
theorem Sta.inT_of {C : List (List Int)} {n b : Nat} {R K O : List Int} {done : List Bool} {D F src full : List Int} (h : Sta C n b R K O done D F src full) (h1 : (-1 : Int) ∈ full) {i : Nat} (hi : InT O b done n i) : ∃ x ∈ full, ro O b x = i := by
  rcases hi with rfl | ⟨j, hj, hd, hk⟩
  · exact ⟨-1, h1, rfl⟩
  · exact ⟨(j : Int), h.dn j hd, ro_nat O b j hk⟩
theorem Sta.low0 {C : List (List Int)} {n b : Nat} {R K O : List Int} {done : List Bool} {D F full : List Int} (h : Sta C n b R K O done D F full full) (hne : full ≠ []) {j : Nat} (hj : done[j]? = some false) : 0 ≤ at0 D j := by
  rcases h.dear j hj with ⟨_, h1⟩ | ⟨h1, h2⟩
  · exact absurd h1 hne
  · rw [h2]
    have hjn : j < n := by rw [← h.ld]; exact (List.getElem?_eq_some_iff.1 hj).1
    have : ro O b (at0 F j) < n := by
      rcases h.inT h1 with e | ⟨u, hu, _, hk⟩
      · rw [e]; exact h.hb
      · rcases h.h.on u hu with h3 | ⟨v, h3, h4⟩
        · omega
        · have := h.hb; omega
    have := h.h.feas _ j this hjn
    unfold slk; omega

/-- The prices rise until one more column is reached. -/
theorem Sta.raise {C : List (List Int)} {n b : Nat} {R K O : List Int} {done : List Bool} {D F full : List Int} {step : Int} {nx : Nat} {R' K' D' : List Int} (h : Sta C n b R K O done D F full full) (h1 : (-1 : Int) ∈ full)
    (hnx : done[nx]? = some false) (hstep : at0 D nx = step) (hmin : ∀ j : Nat, done[j]? = some false → step ≤ at0 D j)
    (lR : R'.length = n) (lK : K'.length = n) (lD : D'.length = n)
    (hR : ∀ i, i < n → (InT O b done n i → at0 R' i = at0 R i + step) ∧ (¬ InT O b done n i → at0 R' i = at0 R i))
    (hK : ∀ j : Nat, (done[j]? = some true → at0 K' j = at0 K j - step) ∧ (done[j]? = some false → at0 K' j = at0 K j ∧ at0 D' j = at0 D j - step)) :
    Hun C n b (b + 1) R' K' O ∧ at0 F nx ∈ full ∧ slk C R' K' (ro O b (at0 F nx)) nx = 0 ∧
      (∀ k : Nat, at0 O nx = (k : Int) → Sta C n b R' K' O (done.set nx true) D' F full (full ++ [(nx : Int)])) ∧
      (∀ j : Nat, (j : Int) ∈ full → at0 F j ∈ full ∧ full.idxOf (at0 F j) < full.idxOf (j : Int) ∧ slk C R' K' (ro O b (at0 F j)) j = 0) := by
  have hne : full ≠ [] := fun e => by rw [e] at h1; cases h1
  have h0 : 0 ≤ step := hstep ▸ h.low0 hne hnx
  have hlt : ∀ {j : Nat} {v : Bool}, done[j]? = some v → j < n := fun hj => by rw [← h.ld]; exact (List.getElem?_eq_some_iff.1 hj).1
  have hTn : ∀ {i}, InT O b done n i → i < n := fun hi => by
    rcases hi with e | ⟨u, hu, _, hk⟩
    · rw [e]; exact h.hb
    · rcases h.h.on u hu with h3 | ⟨v, h3, h4⟩
      · omega
      · have := h.hb; omega
  have hslT : ∀ i j, InT O b done n i → done[j]? = some true → slk C R' K' i j = slk C R K i j := fun i j hi hj => by
    have e1 := (hR i (hTn hi)).1 hi
    have e2 := (hK j).1 hj
    unfold slk; omega
  have hslF : ∀ i j, InT O b done n i → done[j]? = some false → slk C R' K' i j = slk C R K i j - step := fun i j hi hj => by
    have e1 := (hR i (hTn hi)).1 hi
    have e2 := (hK j).2 hj
    unfold slk; omega
  have hlow : ∀ i j, InT O b done n i → done[j]? = some false → step ≤ slk C R K i j := fun i j hi hj => by
    obtain ⟨x, hx, rfl⟩ := h.inT_of h1 hi
    have := h.low x hx j hj
    have := hmin j hj
    omega
  have hH : Hun C n b (b + 1) R' K' O := by
    refine ⟨lR, lK, h.h.lO, fun i j hi hj => ?_, fun i hi => ?_, fun i hi hin => ?_, fun j hj => ?_, fun j hj hneg => ?_, fun j hj k hk => ?_, h.h.cnt, h.h.on⟩
    · have hf := h.h.feas i j hi hj
      rcases Classical.em (InT O b done n i) with hT | hT
      · rcases bool_or (s := done) (j := j) (by rw [h.ld]; exact hj) with hd | hd
        · have := hslT i j hT hd
          unfold slk at this; omega
        · have e1 := hslF i j hT hd
          have e2 := hlow i j hT hd
          unfold slk at e1 e2; omega
      · have e1 := (hR i hi).2 hT
        rcases bool_or (s := done) (j := j) (by rw [h.ld]; exact hj) with hd | hd
        · have e2 := (hK j).1 hd; omega
        · have e2 := (hK j).2 hd; omega
    · have hr := h.h.r0 i hi
      rcases Classical.em (InT O b done n i) with hT | hT
      · rw [(hR i hi).1 hT]; omega
      · rw [(hR i hi).2 hT]; exact hr
    · have hT : ¬ InT O b done n i := fun hT => by
        rcases hT with e | ⟨u, hu, _, hk⟩
        · omega
        · rcases h.h.on u hu with h3 | ⟨v, h3, h4⟩ <;> omega
      rw [(hR i hin).2 hT]; exact h.h.rz i hi hin
    · have := h.h.k0 j hj
      rcases bool_or (s := done) (j := j) (by rw [h.ld]; exact hj) with hd | hd
      · have e2 := (hK j).1 hd; omega
      · have e2 := (hK j).2 hd; omega
    · have := h.h.kz j hj hneg
      rcases bool_or (s := done) (j := j) (by rw [h.ld]; exact hj) with hd | hd
      · rcases h.ful _ (h.dn j hd) with h3 | ⟨u, h3, _, _, k, hk⟩
        · omega
        · have : u = j := by omega
          subst this; omega
      · have e2 := (hK j).2 hd; omega
    · have ht := h.h.tight j hj k hk
      have hkn : k < n := by
        rcases h.h.on j hj with h3 | ⟨v, h3, h4⟩
        · omega
        · have := h.hb; omega
      rcases bool_or (s := done) (j := j) (by rw [h.ld]; exact hj) with hd | hd
      · have := hslT k j (.inr ⟨j, hj, hd, hk⟩) hd
        unfold slk at this; omega
      · have hT : ¬ InT O b done n k := fun hT => by
          rcases hT with e | ⟨u, hu, hud, huk⟩
          · have := h.h.cnt k
            rw [if_neg (by omega)] at this
            have e1 : O[j]? = some (k : Int) := by rw [at0_get (by rw [h.h.lO]; exact hj), hk]
            have := count_pos_at e1
            omega
          · have := h.h.inj hu hj huk hk
            subst this
            rw [hud] at hd; cases hd
        have e1 := (hR k hkn).2 hT
        have e2 := (hK j).2 hd; omega
  have hdr : ∀ j : Nat, done[j]? = some false → at0 F j ∈ full ∧ at0 D' j = slk C R' K' (ro O b (at0 F j)) j := fun j hj => by
    rcases h.dear j hj with ⟨_, h3⟩ | ⟨h3, h4⟩
    · exact absurd h3 hne
    · refine ⟨h3, ?_⟩
      rw [hslF _ j (h.inT h3) hj, ← h4]
      exact ((hK j).2 hj).2
  have hnx0 : slk C R' K' (ro O b (at0 F nx)) nx = 0 := by
    have e1 := (hdr nx hnx).2
    have e2 := ((hK nx).2 hnx).2
    omega
  have hpath : ∀ j : Nat, (j : Int) ∈ full → at0 F j ∈ full ∧ full.idxOf (at0 F j) < full.idxOf (j : Int) ∧ slk C R' K' (ro O b (at0 F j)) j = 0 := fun j hj => by
    obtain ⟨p1, p2, p3⟩ := h.path j hj
    rcases h.ful _ hj with h3 | ⟨u, h3, _, hd, _⟩
    · omega
    · have : u = j := by omega
      subst this
      exact ⟨p1, p2, by rw [hslT _ u (h.inT p1) hd]; exact p3⟩
  have hnot : (nx : Int) ∉ full := fun hin => by
    rcases h.ful _ hin with h3 | ⟨u, h3, _, hd, _⟩
    · omega
    · have : u = nx := by omega
      subst this
      rw [hd] at hnx; cases hnx
  have hne' : ∀ {j : Nat}, (done.set nx true)[j]? = some false → done[j]? = some false := fun {j} hj => by
    rw [List.getElem?_set] at hj
    split at hj
    · split at hj <;> cases hj
    · exact hj
  refine ⟨hH, (hdr nx hnx).1, hnx0, fun k hk => ?_, hpath⟩
  refine ⟨hH, h.hb, by rw [List.length_set]; exact h.ld, lD, h.lF, ?_, fun x hx => ?_, fun j hj => ?_, by simp, fun j hj => ?_, fun j hj => .inr (hdr j (hne' hj)), fun x hx j hj => ?_⟩
  · rw [List.nodup_append]
    exact ⟨h.nd, by simp, fun a ha c hc => by rw [List.mem_singleton] at hc; rintro rfl; subst hc; exact hnot ha⟩
  · rcases List.mem_append.1 hx with hx | hx
    · rcases h.ful x hx with h3 | ⟨j, h3, h4, h5, h6⟩
      · exact .inl h3
      · exact .inr ⟨j, h3, h4, set_true nx h5, h6⟩
    · rw [List.mem_singleton] at hx
      exact .inr ⟨nx, hx, hlt hnx, set_self hnx, k, hk⟩
  · rcases set_inv hj with rfl | h3
    · simp
    · have := h.dn j h3
      simp [this]
  · rcases List.mem_append.1 hj with hj | hj
    · obtain ⟨p1, p2, p3⟩ := hpath j hj
      refine ⟨by simp [p1], ?_, p3⟩
      rw [List.idxOf_append, if_pos p1, List.idxOf_append, if_pos hj]; exact p2
    · rw [List.mem_singleton] at hj
      have : j = nx := by omega
      subst this
      refine ⟨by simp [(hdr j hnx).1], ?_, hnx0⟩
      rw [List.idxOf_append, if_pos (hdr j hnx).1, List.idxOf_append, if_neg hnot]
      have := List.idxOf_lt_length_of_mem (hdr j hnx).1
      omega
  · have h5 := hne' hj
    rw [hslF _ j (h.inT hx) h5, ((hK j).2 h5).2]
    have := h.low x hx j h5
    omega

/-- The rows of a way are moved on: column a gets a new row; the columns of the way that come before are as they were. -/
structure Aug (C : List (List Int)) (n b : Nat) (R K O F full O' : List Int) (a pos : Nat) : Prop where
  hb : b < n
  base : Hun C n b (b + 1) R K O
  lO : O'.length = n
  an : a < n
  path : ∀ j : Nat, (j : Int) ∈ full → at0 F j ∈ full ∧ full.idxOf (at0 F j) < full.idxOf (j : Int) ∧ slk C R K (ro O b (at0 F j)) j = 0
  ful : ∀ x ∈ full, x = -1 ∨ ∃ j : Nat, x = (j : Int) ∧ j < n ∧ ∃ k : Nat, at0 O j = (k : Int)
  fa : at0 F a ∈ full
  fpos : full.idxOf (at0 F a) < pos
  fs : slk C R K (ro O b (at0 F a)) a = 0
  apos : (a : Int) ∈ full → pos ≤ full.idxOf (a : Int)
  anc : ∀ j : Nat, (j : Int) ∈ full → full.idxOf (j : Int) < pos → at0 O' j = at0 O j
  cnt : ∀ k : Nat, (O'.set a (-1)).count (k : Int) = if k < b then 1 else 0
  tight : ∀ j, j < n → j ≠ a → ∀ k : Nat, at0 O' j = (k : Int) → at0 R k + at0 K j = cst C k j
  on : ∀ j, j < n → j ≠ a → at0 O' j = -1 ∨ ∃ k : Nat, at0 O' j = (k : Int) ∧ k < b
  kz : ∀ j, j < n → j ≠ a → at0 O' j < 0 → at0 K j = 0
theorem Aug.start {C : List (List Int)} {n b : Nat} {R K O F full : List Int} {a : Nat} (hb : b < n) (h : Hun C n b (b + 1) R K O) (ha : a < n) (hneg : at0 O a = -1)
    (path : ∀ j : Nat, (j : Int) ∈ full → at0 F j ∈ full ∧ full.idxOf (at0 F j) < full.idxOf (j : Int) ∧ slk C R K (ro O b (at0 F j)) j = 0)
    (ful : ∀ x ∈ full, x = -1 ∨ ∃ j : Nat, x = (j : Int) ∧ j < n ∧ ∃ k : Nat, at0 O j = (k : Int)) (fa : at0 F a ∈ full) (fs : slk C R K (ro O b (at0 F a)) a = 0) : Aug C n b R K O F full O a full.length := by
  refine ⟨hb, h, h.lO, ha, path, ful, fa, List.idxOf_lt_length_of_mem fa, fs, fun hin => ?_, fun _ _ _ => rfl, fun k => ?_, fun j hj _ => h.tight j hj, fun j hj _ => h.on j hj, fun j hj _ => h.kz j hj⟩
  · rcases ful _ hin with h1 | ⟨j, h1, _, k, hk⟩
    · omega
    · have : j = a := by omega
      subst this; omega
  · have e : O.set a (-1) = O := by
      have h1 : O[a]? = some (-1) := by rw [at0_get (by rw [h.lO]; exact ha), hneg]
      refine List.ext_getElem? fun i => ?_
      rw [List.getElem?_set]
      split
      · rename_i e; subst e
        rw [if_pos (by rw [h.lO]; exact ha), h1]
      · rfl
    rw [e]; exact h.cnt k
theorem count_set_int {r : List Int} {j : Nat} (v w : Int) (hj : j < r.length) : (r.set j v).count w = (r.set j (-1)).count w - (if w = -1 then 1 else 0) + (if v = w then 1 else 0) := by
  rw [List.count_set hj, List.count_set hj]
  have h1 : ((v == w) = true) ↔ v = w := by simp
  have h2 : (((-1 : Int) == w) = true) ↔ w = -1 := by simp; exact eq_comm
  simp only [h1, h2]
  by_cases e : w = -1
  · simp [e]
  · simp [e]
theorem Aug.last {C : List (List Int)} {n b : Nat} {R K O F full O' : List Int} {a pos : Nat} (h : Aug C n b R K O F full O' a pos) (hf : at0 F a < 0) : Hun C n (b + 1) (b + 1) R K (O'.set a (b : Int)) := by
  have hal : a < O'.length := by rw [h.lO]; exact h.an
  have hro : ro O b (at0 F a) = b := by unfold ro; rw [if_pos hf]
  have hfs := h.fs
  rw [hro] at hfs
  have H := h.base
  refine ⟨H.lR, H.lK, by rw [List.length_set]; exact h.lO, H.feas, H.r0, H.rz, H.k0, fun j hj hneg => ?_, fun j hj k hk => ?_, fun k => ?_, fun j hj => ?_⟩
  · rw [at0_set _ _ _ _ hal] at hneg
    split at hneg
    · omega
    · rename_i e; exact h.kz j hj (Ne.symm e) hneg
  · rw [at0_set _ _ _ _ hal] at hk
    split at hk
    · rename_i e
      subst e
      have : k = b := by omega
      subst this
      unfold slk at hfs; omega
    · rename_i e; exact h.tight j hj (Ne.symm e) k hk
  · rw [count_set_int _ _ hal, h.cnt k]
    by_cases e : k = b
    · subst e; simp
    · have e1 : ¬ (k : Int) = -1 := by omega
      have e2 : ¬ (b : Int) = (k : Int) := by omega
      rw [if_neg e1, if_neg e2]
      split <;> split <;> omega
  · rw [at0_set _ _ _ _ hal]
    split
    · exact .inr ⟨b, rfl, by omega⟩
    · rename_i e
      rcases h.on j hj (Ne.symm e) with h1 | ⟨k, h1, h2⟩
      · exact .inl h1
      · exact .inr ⟨k, h1, by omega⟩
theorem Aug.next {C : List (List Int)} {n b : Nat} {R K O F full O' : List Int} {a pos y : Nat} (h : Aug C n b R K O F full O' a pos) (hf : at0 F a = (y : Int)) : y < n ∧ Aug C n b R K O F full (O'.set a (at0 O' y)) y (full.idxOf (y : Int)) ∧ full.idxOf (y : Int) < pos := by
  have hal : a < O'.length := by rw [h.lO]; exact h.an
  have hyf : (y : Int) ∈ full := hf ▸ h.fa
  have hyp : full.idxOf (y : Int) < pos := hf ▸ h.fpos
  have hfs := h.fs
  obtain ⟨hyn, k, hk⟩ : y < n ∧ ∃ k : Nat, at0 O y = (k : Int) := by
    rcases h.ful _ hyf with h1 | ⟨j, h1, h2, h3⟩
    · omega
    · have : j = y := by omega
      subst this; exact ⟨h2, h3⟩
  have hya : y ≠ a := fun e => by
    subst e
    have := h.apos hyf; omega
  rw [hf, ro_nat O b y hk] at hfs
  have hk' : at0 O' y = (k : Int) := by rw [h.anc y hyf hyp]; exact hk
  obtain ⟨p1, p2, p3⟩ := h.path y hyf
  rw [hk']
  have hset : ∀ j, at0 (O'.set a (k : Int)) j = if a = j then (k : Int) else at0 O' j := fun j => at0_set _ _ _ _ hal
  have hkb : k < b := by
    rcases h.base.on y hyn with h1 | ⟨u, h1, h2⟩ <;> omega
  refine ⟨hyn, ⟨h.hb, h.base, by rw [List.length_set]; exact h.lO, hyn, h.path, h.ful, p1, p2, p3, fun _ => Nat.le_refl _, fun j hj hlt => ?_, fun m => ?_, fun j hj hne m hm => ?_, fun j hj hne => ?_, fun j hj hne hneg => ?_⟩, hyp⟩
  · rw [hset, if_neg]
    · exact h.anc j hj (by omega)
    · rintro rfl
      have := h.apos hj; omega
  · have e1 : ((O'.set a (k : Int)).set y (-1)) = ((O'.set y (-1)).set a (k : Int)) := List.set_comm _ _ (Ne.symm hya)
    have e2 : ((O'.set y (-1)).set a (-1)) = ((O'.set a (-1)).set y (-1)) := List.set_comm _ _ hya
    rw [e1, count_set_int _ _ (by simp; exact hal), e2, if_neg (by omega), List.count_set (by simp; rw [h.lO]; exact hyn), h.cnt m]
    have e3 : (O'.set a (-1))[y]'(by simp; rw [h.lO]; exact hyn) = (k : Int) := by
      rw [List.getElem_set_ne (Ne.symm hya)]
      have := at0_of (List.getElem?_eq_getElem (l := O') (i := y) (by rw [h.lO]; exact hyn))
      rw [← this]; exact hk'
    rw [e3]
    by_cases e : m = k
    · subst e; simp [hkb]
    · have : ¬ (k : Int) = (m : Int) := by omega
      have e4 : ((-1 : Int) == (m : Int)) = false := by simp
      simp [this, e4]
  · rw [hset] at hm
    split at hm
    · rename_i e
      subst e
      have : m = k := by omega
      subst this
      unfold slk at hfs; omega
    · rename_i e; exact h.tight j hj (Ne.symm e) m hm
  · rw [hset]
    split
    · exact .inr ⟨k, rfl, hkb⟩
    · rename_i e; exact h.on j hj (Ne.symm e)
  · rw [hset] at hneg
    split at hneg
    · omega
    · rename_i e; exact h.kz j hj (Ne.symm e) hneg
end Go.Proofs.Ytkecdjdggkpdpab

/- Prices prove the cheapest pairing. Plain. -/
namespace Go.Proofs.Ytkecdjdggkpdpab

theorem sum_perm {l m : List Int} (h : l.Perm m) : l.sum = m.sum := by
  induction h with
  | nil => rfl
  | cons x _ ih => simp [ih]
  | swap x y l => simp; omega
  | trans _ _ h1 h2 => rw [h1, h2]
theorem perm_range {n : Nat} {p : List Nat} (h : Pr n p) : p.Perm (List.range n) := by
  refine (List.perm_ext_iff_of_nodup h.nodup List.nodup_range).2 fun x => ⟨fun hx => List.mem_range.2 (h.lt x hx), fun hx => ?_⟩
  refine Classical.byContradiction fun hnot => ?_
  have hs : p ⊆ (List.range n).erase x := fun y hy => (List.nodup_range.mem_erase_iff).2 ⟨fun e => hnot (e ▸ hy), List.mem_range.2 (h.lt y hy)⟩
  have h1 := h.nodup.length_le_of_subset hs
  have h2 := List.mem_range.1 hx
  rw [h.len, List.length_erase, if_pos hx, List.length_range] at h1
  omega
theorem mapIdx_sum (f : Nat → Int) (g : Nat → Int) (l : List Nat) : (l.mapIdx fun i j => f i + g j).sum = ((List.range l.length).map f).sum + (l.map g).sum := by
  induction l generalizing f with
  | nil => rfl
  | cons a l ih =>
    rw [List.mapIdx_cons, List.sum_cons, ih (fun i => f (i + 1)), List.length_cons, List.range_succ_eq_map, List.map_cons, List.sum_cons, List.map_map, List.map_cons, List.sum_cons]
    have e : (f ∘ Nat.succ) = fun i => f (i + 1) := rfl
    rw [e]
    omega
theorem mapIdx_le (f g : Nat → Nat → Int) (l : List Nat) (h : ∀ i x, l[i]? = some x → f i x ≤ g i x) : (l.mapIdx f).sum ≤ (l.mapIdx g).sum ∧ ((l.mapIdx f).sum = (l.mapIdx g).sum → ∀ i x, l[i]? = some x → f i x = g i x) := by
  induction l generalizing f g with
  | nil => exact ⟨Int.le_refl _, fun _ i x h => by cases h⟩
  | cons a l ih =>
    have h0 := h 0 a rfl
    obtain ⟨h1, h2⟩ := ih (fun i => f (i + 1)) (fun i => g (i + 1)) fun i x hx => h (i + 1) x hx
    rw [List.mapIdx_cons, List.mapIdx_cons, List.sum_cons, List.sum_cons]
    refine ⟨by omega, fun he i x hx => ?_⟩
    rcases i with _ | i
    · simp at hx
      subst hx; omega
    · exact h2 (by omega) i x hx
/-- The sum of a pairing's costs. -/
def sumC (C : List (List Int)) (p : List Nat) : Int := (pcs C p).sum
/-- All prices together. -/
def dual (n : Nat) (R K : List Int) : Int := ((List.range n).map (at0 R)).sum + ((List.range n).map (at0 K)).sum
/-- Pairs whose prices are their costs. -/
def tightA (C : List (List Int)) (R K : List Int) (i j : Nat) : Bool := decide (at0 R i + at0 K j = cst C i j)
theorem dual_pair {n : Nat} {R K : List Int} {p : List Nat} (h : Pr n p) : (p.mapIdx fun i j => at0 R i + at0 K j).sum = dual n R K := by
  rw [mapIdx_sum, h.len]
  unfold dual
  rw [sum_perm ((perm_range h).map (at0 K))]
theorem dual_le {C : List (List Int)} {n : Nat} {R K : List Int} (hf : ∀ i j, i < n → j < n → at0 R i + at0 K j ≤ cst C i j) {p : List Nat} (h : Pr n p) : dual n R K ≤ sumC C p ∧ (dual n R K = sumC C p → Ok (tightA C R K) p) := by
  rw [← dual_pair h]
  unfold sumC pcs
  obtain ⟨h1, h2⟩ := mapIdx_le (fun i j => at0 R i + at0 K j) (fun i j => cst C i j) p fun i x hx => hf i x (by rw [← h.len]; exact (List.getElem?_eq_some_iff.1 hx).1) (h.lt x (List.mem_of_getElem? hx))
  exact ⟨h1, fun he i x hx => by unfold tightA; simpa using h2 he i x hx⟩
theorem dual_tight {C : List (List Int)} {n : Nat} {R K : List Int} {p : List Nat} (h : Pr n p) (ht : Ok (tightA C R K) p) : sumC C p = dual n R K := by
  rw [← dual_pair h]
  unfold sumC pcs
  refine congrArg List.sum (List.ext_getElem? fun i => ?_)
  rw [List.getElem?_mapIdx, List.getElem?_mapIdx]
  rcases e : p[i]? with _ | x
  · rfl
  · have := ht i x e
    unfold tightA at this
    simp at this
    simp [this]
/-- Prices of all rows: a pairing of pairs whose prices are their costs. -/
theorem Hun.pair {C : List (List Int)} {n z : Nat} {R K O : List Int} (h : Hun C n n z R K O) : ∃ p, Pr n p ∧ Ok (tightA C R K) p := by
  have hat : ∀ x k : Nat, O[x]? = some (k : Int) → x < n ∧ at0 O x = (k : Int) := fun x k hx => ⟨by rw [← h.lO]; exact (List.getElem?_eq_some_iff.1 hx).1, at0_of hx⟩
  have hP : RowsP (tightA C R K) n n O := by
    refine ⟨h.lO, fun x k hx => ?_, fun k => by rw [h.cnt k]; exact Nat.le_refl _, fun v hv => ?_, fun _ => False, fun _ h => h.elim, fun _ h => h.elim, fun k hk hc => ?_⟩
    · obtain ⟨h1, h2⟩ := hat x k hx
      unfold tightA
      simpa using h.tight x h1 k h2
    · obtain ⟨j, hj, rfl⟩ := List.mem_iff_getElem.1 hv
      rw [h.lO] at hj
      have e : at0 O j = O[j] := at0_of (List.getElem?_eq_getElem _)
      rw [← e]; exact h.on j hj
    · rw [h.cnt k, if_pos hk] at hc; cases hc
  refine hP.pair fun hm => ?_
  obtain ⟨k, hk, hc⟩ := hP.left hm
  rw [h.cnt k, if_pos hk] at hc; cases hc
/-- The first pairing of such pairs is the first of the cheapest ones. -/
theorem Hun.cheapest {C : List (List Int)} {n z : Nat} {R K O : List Int} (h : Hun C n n z R K O) {l : List Nat} (hl : First (tightA C R K) n l) : Best (byI (sumC C)) (allN n) l ∧ sumC C l = dual n R K := by
  have hs := dual_tight hl.pr hl.ok
  refine ⟨⟨mem_allN.2 hl.pr, fun q hq hlt => ?_, fun q hq hge => ?_⟩, hs⟩
  · have := (dual_le h.feas (mem_allN.1 hq)).1
    unfold byI at hlt; omega
  · have := dual_le h.feas (mem_allN.1 hq)
    unfold byI at hge
    exact hl.least q (mem_allN.1 hq) (this.2 (by omega))
theorem sum_at0 {l : List Int} {n : Nat} (h : l.length = n) : ((List.range n).map (at0 l)).sum = l.sum := by
  have e : (List.range n).map (at0 l) = l := by
    refine List.ext_getElem? fun i => ?_
    rw [List.getElem?_map]
    by_cases hi : i < n
    · rw [List.getElem?_range hi, at0_get (by omega)]; rfl
    · rw [List.getElem?_eq_none (by simp; omega), List.getElem?_eq_none (by omega)]; rfl
  rw [e]
end Go.Proofs.Ytkecdjdggkpdpab

/- The most pairs, and a covering of as many rows and columns. Plain. -/
namespace Go.Proofs.Ytkecdjdggkpdpab

/-- The most allowed pairs of the last m rows, without the columns that are used: as the document's text tries them. -/
def mostM (A : Nat → Nat → Bool) (n : Nat) : Nat → Nat → Nat
  | 0, _ => 0
  | m + 1, u => (List.range n).foldl (fun b j => if u.testBit j = false ∧ A (n - (m + 1)) j = true then max b (1 + mostM A n m (u ||| 2 ^ j)) else b) (mostM A n m u)
/-- The same, up to a column. -/
def mostU (A : Nat → Nat → Bool) (n m u k : Nat) : Nat := (List.range k).foldl (fun b j => if u.testBit j = false ∧ A (n - (m + 1)) j = true then max b (1 + mostM A n m (u ||| 2 ^ j)) else b) (mostM A n m u)
theorem mostM_succ (A : Nat → Nat → Bool) (n m u : Nat) : mostM A n (m + 1) u = mostU A n m u n := rfl
theorem mostU_zero (A : Nat → Nat → Bool) (n m u : Nat) : mostU A n m u 0 = mostM A n m u := rfl
theorem mostU_succ (A : Nat → Nat → Bool) (n m u k : Nat) : mostU A n m u (k + 1) = if u.testBit k = false ∧ A (n - (m + 1)) k = true then max (mostU A n m u k) (1 + mostM A n m (u ||| 2 ^ k)) else mostU A n m u k := by
  unfold mostU; rw [List.range_succ, List.foldl_append]; rfl
theorem mostU_mono (A : Nat → Nat → Bool) (n m u k d : Nat) : mostU A n m u k ≤ mostU A n m u (k + d) := by
  induction d with
  | zero => exact Nat.le_refl _
  | succ d ih =>
    rw [← Nat.add_assoc, mostU_succ]
    split <;> omega
theorem mostM_le (A : Nat → Nat → Bool) (n : Nat) : ∀ m u, mostM A n m u ≤ m := by
  intro m
  induction m with
  | zero => intro u; exact Nat.le_refl _
  | succ m ih =>
    intro u
    rw [mostM_succ]
    suffices h : ∀ k, mostU A n m u k ≤ m + 1 from h n
    intro k
    induction k with
    | zero => rw [mostU_zero]; have := ih u; omega
    | succ k ihk =>
      rw [mostU_succ]
      have := ih (u ||| 2 ^ k)
      split <;> omega
theorem mostU_le (A : Nat → Nat → Bool) (n m u k : Nat) : mostU A n m u k ≤ m + 1 := by
  induction k with
  | zero => rw [mostU_zero]; have := mostM_le A n m u; omega
  | succ k ihk =>
    rw [mostU_succ]
    have := mostM_le A n m (u ||| 2 ^ k)
    split <;> omega

/-- Rows and columns that cover all allowed pairs. -/
def Cov (A : Nat → Nat → Bool) (n : Nat) (rs cs : List Nat) : Prop := ∀ i j, i < n → j < n → A i j = true → i ∈ rs ∨ j ∈ cs
/-- How many rows of a list come from a row on; how many columns are not used. -/
def fromN (rs : List Nat) (i : Nat) : Nat := (rs.filter fun r => decide (i ≤ r)).length
def freeN (cs : List Nat) (u : Nat) : Nat := (cs.filter fun c => !u.testBit c).length
theorem fromN_step (rs : List Nat) (i : Nat) : fromN rs (i + 1) ≤ fromN rs i ∧ (i ∈ rs → fromN rs (i + 1) + 1 ≤ fromN rs i) := by
  unfold fromN
  induction rs with
  | nil => simp
  | cons a l ih =>
    obtain ⟨h1, h2⟩ := ih
    rcases Nat.lt_trichotomy a i with h | h | h
    · have e1 : ¬ i + 1 ≤ a := by omega
      have e2 : ¬ i ≤ a := by omega
      rw [List.filter_cons_of_neg (by simpa using e1), List.filter_cons_of_neg (by simpa using e2)]
      refine ⟨h1, fun hm => h2 ?_⟩
      rcases List.mem_cons.1 hm with e | e
      · omega
      · exact e
    · have e1 : ¬ i + 1 ≤ a := by omega
      have e2 : i ≤ a := by omega
      rw [List.filter_cons_of_neg (by simpa using e1), List.filter_cons_of_pos (by simpa using e2), List.length_cons]
      exact ⟨by omega, fun _ => by omega⟩
    · have e1 : i + 1 ≤ a := by omega
      have e2 : i ≤ a := by omega
      rw [List.filter_cons_of_pos (by simpa using e1), List.filter_cons_of_pos (by simpa using e2), List.length_cons, List.length_cons]
      refine ⟨by omega, fun hm => ?_⟩
      rcases List.mem_cons.1 hm with e | e
      · omega
      · have := h2 e; omega
theorem freeN_step (cs : List Nat) (u j : Nat) : freeN cs (u ||| 2 ^ j) ≤ freeN cs u ∧ (j ∈ cs → u.testBit j = false → freeN cs (u ||| 2 ^ j) + 1 ≤ freeN cs u) := by
  unfold freeN
  induction cs with
  | nil => simp
  | cons a l ih =>
    obtain ⟨h1, h2⟩ := ih
    generalize hX : (l.filter fun c => !(u ||| 2 ^ j).testBit c) = X at h1 h2
    generalize hY : (l.filter fun c => !u.testBit c) = Y at h1 h2
    rw [List.filter_cons, List.filter_cons, hX, hY]
    have eb : (u ||| 2 ^ j).testBit a = (u.testBit a || decide (j = a)) := by rw [Nat.testBit_or, Nat.testBit_two_pow]
    rw [eb]
    by_cases hja : j = a
    · subst hja
      rcases hb : u.testBit j
      · simp
        exact ⟨by omega, by omega⟩
      · simp
        exact h1
    · have hd : decide (j = a) = false := by simpa using hja
      rw [hd, Bool.or_false]
      rcases hb : u.testBit a
      · simp
        refine ⟨h1, fun hm hu => ?_⟩
        rcases hm with hm | hm
        · exact absurd hm hja
        · exact h2 hm hu
      · simp
        refine ⟨h1, fun hm hu => ?_⟩
        rcases hm with hm | hm
        · exact absurd hm hja
        · exact h2 hm hu
/-- No more pairs than rows and columns of a covering. -/
theorem most_cover {A : Nat → Nat → Bool} {n : Nat} {rs cs : List Nat} (h : Cov A n rs cs) : ∀ m u, m ≤ n → mostM A n m u ≤ fromN rs (n - m) + freeN cs u := by
  intro m
  induction m with
  | zero => intro u _; exact Nat.zero_le _
  | succ m ih =>
    intro u hm
    rw [mostM_succ]
    have e : n - m = n - (m + 1) + 1 := by omega
    suffices hk : ∀ k, k ≤ n → mostU A n m u k ≤ fromN rs (n - (m + 1)) + freeN cs u from hk n (Nat.le_refl _)
    intro k
    induction k with
    | zero =>
      intro _
      rw [mostU_zero]
      have h1 := ih u (by omega)
      have h2 := (fromN_step rs (n - (m + 1))).1
      rw [e] at h1
      omega
    | succ k ihk =>
      intro hk
      rw [mostU_succ]
      have h0 := ihk (by omega)
      split
      · rename_i hc
        have h1 := ih (u ||| 2 ^ k) (by omega)
        rw [e] at h1
        have h2 := fromN_step rs (n - (m + 1))
        have h3 := freeN_step cs u k
        rcases h (n - (m + 1)) k (by omega) (by omega) hc.2 with h4 | h4
        · have := h2.2 h4; omega
        · have := h3.2 h4 hc.1; omega
      · exact h0
theorem most_cover_all {A : Nat → Nat → Bool} {n : Nat} {rs cs : List Nat} (h : Cov A n rs cs) : mostM A n n 0 ≤ rs.length + cs.length := by
  have h1 := most_cover h n 0 (Nat.le_refl _)
  have h2 : fromN rs (n - n) ≤ rs.length := List.length_filter_le ..
  have h3 : freeN cs 0 ≤ cs.length := List.length_filter_le ..
  omega

/-- How many rows from row i on have a column. -/
def hasN (r : List Int) (n i : Nat) : Nat := ((List.range n).filter fun k => decide (i ≤ k ∧ r.count (k : Int) = 1)).length
/-- At least as many pairs as the owners make. -/
theorem most_owner {A : Nat → Nat → Bool} {n : Nat} {r : List Int} (hl : r.length = n) (hok : ∀ x k : Nat, r[x]? = some (k : Int) → A k x = true) : ∀ m u, m ≤ n → (∀ x k : Nat, r[x]? = some (k : Int) → n - m ≤ k → u.testBit x = false) →
    (∀ k : Nat, r.count (k : Int) ≤ 1) → hasN r n (n - m) ≤ mostM A n m u := by
  intro m
  induction m with
  | zero =>
    intro u _ _ _
    unfold hasN
    rw [List.filter_eq_nil_iff.2]
    · exact Nat.le_refl _
    · intro k hk
      have := List.mem_range.1 hk
      simp; omega
  | succ m ih =>
    intro u hm hu h1
    rw [mostM_succ]
    have e : n - m = n - (m + 1) + 1 := by omega
    have hsplit : hasN r n (n - (m + 1)) ≤ hasN r n (n - m) + if r.count (((n - (m + 1) : Nat)) : Int) = 1 then 1 else 0 := by
      unfold hasN
      have gen : ∀ l : List Nat, l.Nodup → (l.filter fun k => decide (n - (m + 1) ≤ k ∧ r.count (k : Int) = 1)).length ≤ (l.filter fun k => decide (n - m ≤ k ∧ r.count (k : Int) = 1)).length + if n - (m + 1) ∈ l ∧ r.count (((n - (m + 1) : Nat)) : Int) = 1 then 1 else 0 := by
        intro l
        induction l with
        | nil => intro _; simp
        | cons a l ihl =>
          intro hnd
          rw [List.nodup_cons] at hnd
          have ihl := ihl hnd.2
          by_cases ha : a = n - (m + 1)
          · subst ha
            rw [if_neg (fun h => hnd.1 h.1)] at ihl
            by_cases hc : r.count (((n - (m + 1) : Nat)) : Int) = 1
            · rw [List.filter_cons_of_pos (by simp [hc]), List.filter_cons_of_neg (by simp; omega), if_pos ⟨by simp, hc⟩, List.length_cons]; omega
            · rw [List.filter_cons_of_neg (by simp [hc]), List.filter_cons_of_neg (by simp [hc])]; omega
          · have e1 : (n - (m + 1) ∈ a :: l ∧ r.count (((n - (m + 1) : Nat)) : Int) = 1) ↔ (n - (m + 1) ∈ l ∧ r.count (((n - (m + 1) : Nat)) : Int) = 1) := by
              rw [List.mem_cons]
              exact ⟨fun h => ⟨h.1.resolve_left (fun h => ha h.symm), h.2⟩, fun h => ⟨.inr h.1, h.2⟩⟩
            simp only [e1]
            by_cases hp : n - (m + 1) ≤ a ∧ r.count (a : Int) = 1
            · rw [List.filter_cons_of_pos (by simpa using hp), List.filter_cons_of_pos (by simp; exact ⟨by omega, hp.2⟩), List.length_cons, List.length_cons]; omega
            · rw [List.filter_cons_of_neg (by simpa using hp), List.filter_cons_of_neg (by simp; intro h; exact fun hc => hp ⟨by omega, hc⟩)]; exact ihl
      refine Nat.le_trans (gen _ List.nodup_range) (Nat.add_le_add_left ?_ _)
      split
      · rename_i h; rw [if_pos h.2]; exact Nat.le_refl _
      · exact Nat.zero_le _
    by_cases hc : r.count (((n - (m + 1) : Nat)) : Int) = 1
    · rw [if_pos hc] at hsplit
      obtain ⟨x, hx⟩ := List.mem_iff_getElem?.1 (List.count_pos_iff.1 (by omega : 0 < r.count (((n - (m + 1) : Nat)) : Int)))
      have hxn : x < n := by rw [← hl]; exact (List.getElem?_eq_some_iff.1 hx).1
      have hux := hu x _ hx (Nat.le_refl _)
      have h2 := ih (u ||| 2 ^ x) (by omega) (fun y k hy hk => ?_) h1
      · have h3 : 1 + mostM A n m (u ||| 2 ^ x) ≤ mostU A n m u (x + 1) := by
          rw [mostU_succ, if_pos ⟨hux, hok x _ hx⟩]; omega
        have h4 := mostU_mono A n m u (x + 1) (n - (x + 1))
        rw [show x + 1 + (n - (x + 1)) = n by omega] at h4
        omega
      · rw [Nat.testBit_or, Nat.testBit_two_pow, hu y k hy (by omega), Bool.false_or]
        have : x ≠ y := fun e1 => by
          subst e1
          rw [hx] at hy
          injection hy with hy
          omega
        simpa using this
    · rw [if_neg hc] at hsplit
      have h2 := ih u (by omega) (fun y k hy hk => hu y k hy (by omega)) h1
      have h4 := mostU_mono A n m u 0 n
      rw [Nat.zero_add, mostU_zero] at h4
      omega

/-- Rows reached from rows without a column, by ways that go on over pairs; columns reached. -/
structure Rch (A : Nat → Nat → Bool) (n : Nat) (r : List Int) (rs cs : List Nat) : Prop where
  rnd : rs.Nodup
  rlt : ∀ i ∈ rs, i < n
  cnd : cs.Nodup
  clt : ∀ j ∈ cs, j < n
  own : ∀ j ∈ cs, ∃ k ∈ rs, r[j]? = some ((k : Nat) : Int)
  root : ∀ i, i < n → r.count ((i : Nat) : Int) = 0 → i ∈ rs
  come : ∀ i ∈ rs, r.count ((i : Nat) : Int) = 0 ∨ ∃ j ∈ cs, r[j]? = some ((i : Nat) : Int)
  len : rs.length = ((List.range n).filter fun k => decide (r.count ((k : Nat) : Int) = 0)).length + cs.length
/-- Each reached row leads into the dead set only. -/
theorem Rch.lead {A : Nat → Nat → Bool} {n : Nat} {r : List Int} {rs cs : List Nat} (h : Rch A n r rs cs) (hR : RowsP A n n r) {i j : Nat} (hi : i ∈ rs) (hj : j < n) (hA : A i j = true) (hcs : ∀ c ∈ cs, ∀ D : Nat → Prop, (∀ x, D x → x < n) → Dead A n r D → (∀ k, k < n → r.count (k : Int) = 0 → ∀ y, y < n → A k y = true → D y) → D c) :
    ∃ k : Nat, r[j]? = some (k : Int) ∧ k < n ∧ ∀ D : Nat → Prop, (∀ x, D x → x < n) → Dead A n r D → (∀ k, k < n → r.count (k : Int) = 0 → ∀ y, y < n → A k y = true → D y) → D j := by
  have key : ∀ D : Nat → Prop, (∀ x, D x → x < n) → Dead A n r D → (∀ k, k < n → r.count (k : Int) = 0 → ∀ y, y < n → A k y = true → D y) → D j := fun D d1 d2 d3 => by
    rcases h.come i hi with hc | ⟨c, hc, hrc⟩
    · exact d3 i (h.rlt i hi) hc j hj hA
    · obtain ⟨k, h1, h2⟩ := d2 c (hcs c hc D d1 d2 d3)
      rw [hrc] at h1
      injection h1 with h1
      have : i = k := by omega
      subst this
      exact h2 j hj hA
  obtain ⟨D, d1, d2, d3⟩ := hR.dead
  obtain ⟨k, h1, _⟩ := d2 j (key D d1 d2 d3)
  refine ⟨k, h1, ?_, key⟩
  rcases hR.neg _ (List.mem_of_getElem? h1) with h3 | ⟨m, h3, h4⟩ <;> omega
theorem Rch.add {A : Nat → Nat → Bool} {n : Nat} {r : List Int} {rs cs : List Nat} (h : Rch A n r rs cs) (hR : RowsP A n n r) {j k : Nat} (hj : j < n) (hjc : j ∉ cs) (hk : r[j]? = some ((k : Nat) : Int)) (hkn : k < n) : k ∉ rs ∧ Rch A n r (rs ++ [k]) (cs ++ [j]) := by
  have hnot : k ∉ rs := fun hin => by
    have h1 := hR.one k
    rw [if_pos hkn] at h1
    rcases h.come k hin with hc | ⟨c, hc, hrc⟩
    · have := count_pos_at hk; omega
    · rcases Nat.lt_trichotomy c j with hlt | hlt | hlt
      · have := count_two hrc hk hlt; omega
      · exact hjc (hlt ▸ hc)
      · have := count_two hk hrc hlt; omega
  refine ⟨hnot, snoc_nodup h.rnd hnot, snoc_lt h.rlt hkn, snoc_nodup h.cnd hjc, snoc_lt h.clt hj, fun c hc => ?_, fun i hi hc => by simp [h.root i hi hc], fun i hi => ?_, by simp [h.len]; omega⟩
  · rcases List.mem_append.1 hc with hc | hc
    · obtain ⟨m, h1, h2⟩ := h.own c hc
      exact ⟨m, by simp [h1], h2⟩
    · rw [List.mem_singleton] at hc
      subst hc
      exact ⟨k, by simp, hk⟩
  · rcases List.mem_append.1 hi with hi | hi
    · rcases h.come i hi with hc | ⟨c, hc, hrc⟩
      · exact .inl hc
      · exact .inr ⟨c, by simp [hc], hrc⟩
    · rw [List.mem_singleton] at hi
      subst hi
      exact .inr ⟨j, by simp, hk⟩
/-- What was reached makes a covering with as many rows and columns as there are pairs. -/
theorem Rch.cover {A : Nat → Nat → Bool} {n : Nat} {r : List Int} {rs cs : List Nat} (h : Rch A n r rs cs) (hR : RowsP A n n r) (hall : ∀ i ∈ rs, ∀ j, j < n → A i j = true → j ∈ cs) :
    Cov A n ((List.range n).filter fun i => !rs.contains i) cs ∧ ((List.range n).filter fun i => !rs.contains i).length + cs.length = mostM A n n 0 := by
  have hcov : Cov A n ((List.range n).filter fun i => !rs.contains i) cs := fun i j hi hj hA => by
    by_cases hin : i ∈ rs
    · exact .inr (hall i hin j hj hA)
    · left; simp [hi, hin]
  have h1 := most_cover_all hcov
  have h2 := most_owner hR.len hR.ok n 0 (Nat.le_refl _) (fun x k _ _ => by simp) (fun k => by have := hR.one k; split at this <;> omega)
  have hsum : ∀ (p : Nat → Bool) (l : List Nat), (l.filter p).length + (l.filter fun x => !p x).length = l.length := fun p l => by
    induction l with
    | nil => rfl
    | cons a l ih =>
      rcases hb : p a
      · simp [hb]; omega
      · simp [hb]; omega
  have e1 := hsum (fun i => rs.contains i) (List.range n)
  have e2 : ((List.range n).filter fun i => rs.contains i).length = rs.length := by
    have hp : ((List.range n).filter fun i => rs.contains i).Perm rs := (List.perm_ext_iff_of_nodup (List.Nodup.sublist List.filter_sublist List.nodup_range) h.rnd).2 fun x => by
      simp
      exact fun hx => h.rlt x hx
    exact hp.length_eq
  have e3 := hsum (fun k => decide (r.count ((k : Nat) : Int) = 0)) (List.range n)
  have e4 : ((List.range n).filter fun k => !decide (r.count ((k : Nat) : Int) = 0)).length = hasN r n (n - n) := by
    unfold hasN
    refine congrArg List.length (List.filter_congr fun k hk => ?_)
    have h3 := hR.one k
    rw [if_pos (List.mem_range.1 hk)] at h3
    rw [Bool.eq_iff_iff]
    simp
    omega
  rw [List.length_range] at e1 e3
  have := h.len
  exact ⟨hcov, by omega⟩
end Go.Proofs.Ytkecdjdggkpdpab

/- Sets of rows that have too few columns: by size, then in lexicographic order; Hall's theorem. Plain. -/
namespace Go.Proofs.Ytkecdjdggkpdpab

/-- The sets that begin with some rows and have l more, from a row on, in lexicographic order. -/
def comb (n : Nat) : Nat → Nat → List Nat → List (List Nat)
  | 0, _, s => [s]
  | l + 1, a, s => ((List.range (n - l)).filter fun i => decide (a ≤ i)).flatMap fun i => comb n l (i + 1) (s ++ [i])
/-- The same, up to a row. -/
def combU (n l a : Nat) (s : List Nat) (k : Nat) : List (List Nat) := ((List.range k).filter fun i => decide (a ≤ i)).flatMap fun i => comb n l (i + 1) (s ++ [i])
theorem comb_succ (n l a : Nat) (s : List Nat) : comb n (l + 1) a s = combU n l a s (n - l) := rfl
theorem combU_low (n l a : Nat) (s : List Nat) (k : Nat) (h : k ≤ a) : combU n l a s k = [] := by
  unfold combU
  rw [List.filter_eq_nil_iff.2]
  · rfl
  · intro x hx
    have := List.mem_range.1 hx
    simp; omega
theorem combU_succ (n l a : Nat) (s : List Nat) (k : Nat) (h : a ≤ k) : combU n l a s (k + 1) = combU n l a s k ++ comb n l (k + 1) (s ++ [k]) := by
  unfold combU
  rw [List.range_succ, List.filter_append, List.flatMap_append]
  simp [h]

/-- Rising rows below n. -/
structure Asc (n a : Nat) (t : List Nat) : Prop where
  rise : t.Pairwise (· < ·)
  low : ∀ x ∈ t, a ≤ x
  lt : ∀ x ∈ t, x < n
theorem Asc.len {n : Nat} : ∀ {a : Nat} {t : List Nat}, Asc n a t → t.length + a ≤ n ∨ t = [] := by
  intro a t
  induction t generalizing a with
  | nil => intro _; exact .inr rfl
  | cons x t ih =>
    intro h
    left
    have hr := List.pairwise_cons.1 h.rise
    have h1 := h.lt x (by simp)
    have h2 := h.low x (by simp)
    rcases ih (a := x + 1) ⟨hr.2, fun y hy => hr.1 y hy, fun y hy => h.lt y (by simp [hy])⟩ with h3 | h3
    · rw [List.length_cons]; omega
    · subst h3; simp; omega
theorem mem_comb (n : Nat) : ∀ (l a : Nat) (s p : List Nat), (p ∈ comb n l a s ↔ ∃ t, p = s ++ t ∧ t.length = l ∧ Asc n a t) := by
  intro l
  induction l with
  | zero =>
    intro a s p
    simp only [comb, List.mem_singleton]
    constructor
    · rintro rfl
      exact ⟨[], by simp, rfl, by simp, by simp, by simp⟩
    · rintro ⟨t, rfl, h, _⟩
      rw [List.length_eq_zero_iff.1 h]; simp
  | succ l ih =>
    intro a s p
    simp only [comb, List.mem_flatMap, List.mem_filter, List.mem_range, decide_eq_true_eq]
    constructor
    · rintro ⟨i, ⟨hi, ha⟩, hp⟩
      obtain ⟨t, rfl, hl, ht⟩ := (ih (i + 1) (s ++ [i]) p).1 hp
      refine ⟨i :: t, by simp, by simp [hl], List.pairwise_cons.2 ⟨fun x hx => ht.low x hx, ht.rise⟩, fun x hx => ?_, fun x hx => ?_⟩
      · rcases List.mem_cons.1 hx with rfl | hx
        · exact ha
        · have := ht.low x hx; omega
      · rcases List.mem_cons.1 hx with rfl | hx
        · omega
        · exact ht.lt x hx
    · rintro ⟨t, rfl, hl, ht⟩
      rcases t with _ | ⟨i, t⟩
      · cases hl
      · have hr := List.pairwise_cons.1 ht.rise
        have ht' : Asc n (i + 1) t := ⟨hr.2, fun y hy => hr.1 y hy, fun y hy => ht.lt y (by simp [hy])⟩
        have hi := ht.lt i (by simp)
        refine ⟨i, ⟨?_, ht.low i (by simp)⟩, (ih (i + 1) (s ++ [i]) _).2 ⟨t, by simp, by simpa using hl, ht'⟩⟩
        simp at hl
        rcases ht'.len with h1 | h1
        · omega
        · subst h1; simp at hl; omega
theorem comb_sorted (n : Nat) : ∀ (l a : Nat) (s : List Nat), (comb n l a s).Pairwise (· < ·) := by
  intro l
  induction l with
  | zero => intro a s; simp [comb]
  | succ l ih =>
    intro a s
    simp only [comb]
    rw [List.pairwise_flatMap]
    refine ⟨fun i _ => ih _ _, ?_⟩
    have hr : (List.range (n - l)).Pairwise (· < ·) := List.pairwise_lt_range
    refine (hr.sublist List.filter_sublist).imp fun {i j} hij x hx y hy => ?_
    obtain ⟨t, rfl, _, _⟩ := (mem_comb n l _ _ _).1 hx
    obtain ⟨u, rfl, _, _⟩ := (mem_comb n l _ _ _).1 hy
    exact lt_of_prefix hij ⟨t, rfl⟩ ⟨u, rfl⟩

/-- The columns that some rows have together. -/
def hnd (A : Nat → Nat → Bool) (n : Nat) (s : List Nat) : List Nat := (List.range n).filter fun j => s.any fun i => A i j
/-- Are they too few? -/
def lackB (A : Nat → Nat → Bool) (n : Nat) (s : List Nat) : Bool := decide ((hnd A n s).length < s.length)
theorem lackB_nil (A : Nat → Nat → Bool) (n : Nat) : lackB A n [] = false := by simp [lackB]
/-- The first of the least such sets. -/
structure LeastL (A : Nat → Nat → Bool) (n : Nat) (p : List Nat) : Prop where
  asc : Asc n 0 p
  lack : lackB A n p = true
  least : ∀ q, Asc n 0 q → lackB A n q = true → p.length < q.length ∨ (p.length = q.length ∧ p ≤ q)
theorem LeastL.unique {A : Nat → Nat → Bool} {n : Nat} {p q : List Nat} (hp : LeastL A n p) (hq : LeastL A n q) : p = q := by
  rcases hp.least q hq.asc hq.lack with h1 | ⟨h1, h2⟩
  · rcases hq.least p hp.asc hp.lack with h3 | ⟨h3, _⟩ <;> omega
  · rcases hq.least p hp.asc hp.lack with h3 | ⟨_, h4⟩
    · omega
    · exact List.le_antisymm h2 h4
/-- The search by sizes: nothing below this size; of this size, what the first search says. -/
theorem size_none {A : Nat → Nat → Bool} {n l : Nat} (h : (comb n l 0 []).find? (lackB A n) = none) : ∀ q, Asc n 0 q → q.length = l → lackB A n q = false := fun q hq hl => by
  have := List.find?_eq_none.1 h q ((mem_comb n l 0 [] q).2 ⟨q, rfl, hl, hq⟩)
  simpa using this
theorem size_some {A : Nat → Nat → Bool} {n l : Nat} {p : List Nat} (hlow : ∀ q, Asc n 0 q → q.length < l → lackB A n q = false) (h : (comb n l 0 []).find? (lackB A n) = some p) : LeastL A n p := by
  obtain ⟨h1, as, bs, h2, h3⟩ := List.find?_eq_some_iff_append.1 h
  have hm : p ∈ comb n l 0 [] := by rw [h2]; simp
  obtain ⟨t, ht0, hl, ht⟩ := (mem_comb n l 0 [] p).1 hm
  rw [List.nil_append] at ht0
  subst ht0
  refine ⟨ht, h1, fun q hq hlq => ?_⟩
  rcases Nat.lt_trichotomy l q.length with h4 | h4 | h4
  · left; omega
  · refine .inr ⟨by omega, ?_⟩
    have hqm : q ∈ comb n l 0 [] := (mem_comb n l 0 [] q).2 ⟨q, rfl, h4.symm, hq⟩
    have hs := comb_sorted n l 0 []
    rw [h2] at hqm hs
    rcases List.mem_append.1 hqm with h5 | h5
    · have := h3 q h5
      rw [hlq] at this; simp at this
    · rcases List.mem_cons.1 h5 with h6 | h6
      · subst h6; exact List.le_refl _
      · rw [List.pairwise_append] at hs
        exact List.le_of_lt ((List.pairwise_cons.1 hs.2.1).1 q h6)
  · rw [hlow q hq h4] at hlq; cases hlq

/-- The rows of a number's bits. -/
def bitsL (u n : Nat) : List Nat := (List.range n).filter fun i => u.testBit i
theorem bitsL_succ (u k : Nat) : bitsL u (k + 1) = if u.testBit k = true then bitsL u k ++ [k] else bitsL u k := by
  unfold bitsL
  rw [List.range_succ, List.filter_append]
  rcases h : u.testBit k <;> simp [h]
theorem bitsL_asc (u n : Nat) : Asc n 0 (bitsL u n) := by
  refine ⟨?_, fun _ _ => Nat.zero_le _, fun x hx => ?_⟩
  · have hr : (List.range n).Pairwise (· < ·) := List.pairwise_lt_range
    exact hr.sublist List.filter_sublist
  · unfold bitsL at hx
    exact List.mem_range.1 (List.mem_filter.1 hx).1
theorem asc_ext {l m : List Nat} (hl : l.Pairwise (· < ·)) (hm : m.Pairwise (· < ·)) (h : ∀ x, x ∈ l ↔ x ∈ m) : l = m := by
  have hnd : ∀ {k : List Nat}, k.Pairwise (· < ·) → k.Nodup := fun hk => List.nodup_iff_pairwise_ne.2 (hk.imp fun hab => Nat.ne_of_lt hab)
  have hp : l.Perm m := (List.perm_ext_iff_of_nodup (hnd hl) (hnd hm)).2 fun x => h x
  exact hp.eq_of_pairwise (fun a b _ _ h1 h2 => by omega) hl hm
/-- Each set is that of a number's bits. -/
theorem asc_bits {n : Nat} {p : List Nat} (h : Asc n 0 p) : ∃ u, u < 2 ^ n ∧ bitsL u n = p := by
  have key : ∀ f : List Nat, (∀ x ∈ f, x < n) → ∃ u, Bits n u f := by
    intro f
    induction f with
    | nil => intro _; exact ⟨0, Bits.zero n⟩
    | cons x f ih =>
      intro hf
      obtain ⟨u, hu⟩ := ih fun y hy => hf y (by simp [hy])
      have := hu.snoc (hf x (by simp))
      refine ⟨u ||| 2 ^ x, this.1, fun j hj => ?_⟩
      rw [this.2 j hj]
      simp
      exact Or.comm
  obtain ⟨u, hu⟩ := key p h.lt
  refine ⟨u, hu.1, asc_ext (bitsL_asc u n).rise h.rise fun x => ?_⟩
  unfold bitsL
  rw [List.mem_filter, List.mem_range]
  exact ⟨fun hx => (hu.2 x hx.1).1 hx.2, fun hx => ⟨h.lt x hx, (hu.2 x (h.lt x hx)).2 hx⟩⟩
/-- What the document's text has found, of the numbers below u. -/
def LackI (A : Nat → Nat → Bool) (n u : Nat) (best : Option (List Nat)) : Prop :=
  match best with
  | none => ∀ v, v < u → lackB A n (bitsL v n) = false
  | some p => Asc n 0 p ∧ lackB A n p = true ∧ ∀ v, v < u → lackB A n (bitsL v n) = true → p.length < (bitsL v n).length ∨ (p.length = (bitsL v n).length ∧ p ≤ bitsL v n)
theorem LackI.start (A : Nat → Nat → Bool) (n : Nat) : LackI A n 1 none := fun v hv => by
  have e : v = 0 := by omega
  subst e
  have : bitsL 0 n = [] := by unfold bitsL; rw [List.filter_eq_nil_iff.2]; intro x _; simp
  rw [this]; exact lackB_nil A n
theorem LackI.no {A : Nat → Nat → Bool} {n u : Nat} {best : Option (List Nat)} (h : LackI A n u best) (hu : lackB A n (bitsL u n) = false) : LackI A n (u + 1) best := by
  cases best with
  | none =>
    intro v hv
    rcases Nat.lt_or_eq_of_le (Nat.le_of_lt_succ hv) with h1 | h1
    · exact h v h1
    · subst h1; exact hu
  | some p =>
    refine ⟨h.1, h.2.1, fun v hv hl => ?_⟩
    rcases Nat.lt_or_eq_of_le (Nat.le_of_lt_succ hv) with h1 | h1
    · exact h.2.2 v h1 hl
    · subst h1; rw [hu] at hl; cases hl
theorem LackI.keep {A : Nat → Nat → Bool} {n u : Nat} {p : List Nat} (h : LackI A n u (some p)) (hu : p.length < (bitsL u n).length ∨ (p.length = (bitsL u n).length ∧ p ≤ bitsL u n)) : LackI A n (u + 1) (some p) := by
  refine ⟨h.1, h.2.1, fun v hv hl => ?_⟩
  rcases Nat.lt_or_eq_of_le (Nat.le_of_lt_succ hv) with h1 | h1
  · exact h.2.2 v h1 hl
  · subst h1; exact hu
theorem LackI.take {A : Nat → Nat → Bool} {n u : Nat} {best : Option (List Nat)} (h : LackI A n u best) (hu : lackB A n (bitsL u n) = true) (hb : best = none ∨ ∃ p, best = some p ∧ ((bitsL u n).length < p.length ∨ ((bitsL u n).length = p.length ∧ bitsL u n < p))) : LackI A n (u + 1) (some (bitsL u n)) := by
  refine ⟨bitsL_asc u n, hu, fun v hv hl => ?_⟩
  rcases Nat.lt_or_eq_of_le (Nat.le_of_lt_succ hv) with h1 | h1
  · rcases hb with rfl | ⟨p, rfl, hb⟩
    · rw [h v h1] at hl; cases hl
    · rcases h.2.2 v h1 hl with h2 | ⟨h2, h3⟩
      · left; omega
      · rcases hb with hb | ⟨hb, hb2⟩
        · left; omega
        · exact .inr ⟨by omega, fun hlt => h3 (List.lt_trans hlt hb2)⟩
  · subst h1
    exact .inr ⟨rfl, List.le_refl _⟩
theorem LackI.done {A : Nat → Nat → Bool} {n : Nat} {p : List Nat} (h : LackI A n (2 ^ n) (some p)) : LeastL A n p := by
  refine ⟨h.1, h.2.1, fun q hq hl => ?_⟩
  obtain ⟨u, hu, rfl⟩ := asc_bits hq
  exact h.2.2 u hu hl
theorem LackI.none {A : Nat → Nat → Bool} {n : Nat} (h : LackI A n (2 ^ n) none) : ∀ q, Asc n 0 q → lackB A n q = false := fun q hq => by
  obtain ⟨u, hu, rfl⟩ := asc_bits hq
  exact h u hu

/-- The search from a row ends. -/
theorem try_total (A : Nat → Nat → Bool) (n : Nat) : ∀ (c d i : Nat) (r : List Int) (s : List Bool), s.length = n → s.count false ≤ c → d ≤ n → ∃ b r' s', Try A n (n - d) i r s b r' s' ∧ s'.length = n ∧ s'.count false ≤ s.count false := by
  intro c
  induction c with
  | zero =>
    intro d
    induction d with
    | zero => intro i r s hs hc _; exact ⟨_, _, _, .stop, hs, Nat.le_refl _⟩
    | succ d ih =>
      intro i r s hs hc hd
      obtain ⟨b, r', s', h1, h2, h3⟩ := ih i r s hs hc (by omega)
      have hj : n - (d + 1) < n := by omega
      rw [show n - d = n - (d + 1) + 1 by omega] at h1
      have hsj : s[n - (d + 1)]? = some true := by
        rcases bool_or (s := s) (j := n - (d + 1)) (by omega) with h | h
        · exact h
        · have := List.count_pos_iff.2 (List.mem_of_getElem? h); omega
      exact ⟨b, r', s', .skip hj (.inr hsj) h1, h2, h3⟩
  | succ c ihc =>
    intro d
    induction d with
    | zero => intro i r s hs hc _; exact ⟨_, _, _, .stop, hs, Nat.le_refl _⟩
    | succ d ih =>
      intro i r s hs hc hd
      have hj : n - (d + 1) < n := by omega
      have e1 : n - d = n - (d + 1) + 1 := by omega
      rcases bool_or (s := s) (j := n - (d + 1)) (by omega) with hsj | hsj
      · obtain ⟨b, r', s', h1, h2, h3⟩ := ih i r s hs hc (by omega)
        rw [e1] at h1
        exact ⟨b, r', s', .skip hj (.inr hsj) h1, h2, h3⟩
      · rcases hA : A i (n - (d + 1))
        · obtain ⟨b, r', s', h1, h2, h3⟩ := ih i r s hs hc (by omega)
          rw [e1] at h1
          exact ⟨b, r', s', .skip hj (.inl hA) h1, h2, h3⟩
        · have hjl : n - (d + 1) < s.length := by omega
          have hg : s[n - (d + 1)] = false := by rw [List.getElem?_eq_getElem hjl] at hsj; injection hsj
          have hcnt : (s.set (n - (d + 1)) true).count false = s.count false - 1 := by
            rw [List.count_set hjl, hg]; simp
          have hpos := List.count_pos_iff.2 (List.mem_of_getElem? hsj)
          rcases Int.lt_or_le (at0 r (n - (d + 1))) 0 with hneg | hnn
          · exact ⟨_, _, _, .free hj hA hsj hneg, by simp [hs], by rw [hcnt]; omega⟩
          · obtain ⟨k, hk⟩ : ∃ k : Nat, at0 r (n - (d + 1)) = (k : Int) := ⟨(at0 r (n - (d + 1))).toNat, by omega⟩
            obtain ⟨b, r', s', h1, h2, h3⟩ := ihc n k r (s.set (n - (d + 1)) true) (by simp [hs]) (by rw [hcnt]; omega) (Nat.le_refl _)
            rw [Nat.sub_self] at h1
            cases b with
            | true => exact ⟨_, _, _, .yes hj hA hsj hk h1, h2, by omega⟩
            | false =>
              obtain ⟨b, r'', s'', h4, h5, h6⟩ := ih i r' s' h2 (by omega) (by omega)
              rw [e1] at h4
              exact ⟨b, r'', s'', .no hj hA hsj hk h1 h4, h5, by omega⟩
theorem rows_total (A : Nat → Nat → Bool) (n : Nat) : ∃ r, Rows A n n r := by
  suffices h : ∀ i, i ≤ n → ∃ r, Rows A n i r from h n (Nat.le_refl _)
  intro i
  induction i with
  | zero => intro _; exact ⟨_, .zero⟩
  | succ i ih =>
    intro hi
    obtain ⟨r, hr⟩ := ih (by omega)
    obtain ⟨b, r', s', h1, _, _⟩ := try_total A n n n i r (List.replicate n false) (by simp) (Nat.le_trans List.count_le_length (by simp)) (Nat.le_refl _)
    rw [Nat.sub_self] at h1
    exact ⟨r', .step hr (by omega) h1⟩
theorem lackB_lack {A : Nat → Nat → Bool} {n : Nat} {p : List Nat} (h : Asc n 0 p) (hl : lackB A n p = true) : Lack A n p (hnd A n p) := by
  refine ⟨List.nodup_iff_pairwise_ne.2 (h.rise.imp fun hab => Nat.ne_of_lt hab), h.lt, List.Nodup.sublist List.filter_sublist List.nodup_range, fun x hx => List.mem_range.1 (List.mem_filter.1 hx).1, fun k hk y hy hA => ?_, by unfold lackB at hl; simpa using hl⟩
  unfold hnd
  rw [List.mem_filter, List.mem_range, List.any_eq_true]
  exact ⟨hy, k, hk, hA⟩
theorem lack_lackB {A : Nat → Nat → Bool} {n : Nat} {S D : List Nat} (h : Lack A n S D) : ∃ p, Asc n 0 p ∧ lackB A n p = true := by
  have hr : (List.range n).Pairwise (· < ·) := List.pairwise_lt_range
  refine ⟨(List.range n).filter fun x => S.contains x, ⟨hr.sublist List.filter_sublist, fun _ _ => Nat.zero_le _, fun x hx => List.mem_range.1 (List.mem_filter.1 hx).1⟩, ?_⟩
  have hp : ((List.range n).filter fun x => S.contains x).Perm S := (List.perm_ext_iff_of_nodup (List.Nodup.sublist List.filter_sublist List.nodup_range) h.nodup).2 fun x => by
    simp
    exact fun hx => h.lt x hx
  have h1 : (hnd A n ((List.range n).filter fun x => S.contains x)) ⊆ D := fun y hy => by
    unfold hnd at hy
    rw [List.mem_filter, List.mem_range, List.any_eq_true] at hy
    obtain ⟨hy, k, hk, hA⟩ := hy
    have : k ∈ S := by simpa using (List.mem_filter.1 hk).2
    exact h.all k this y hy hA
  have h2 : (hnd A n ((List.range n).filter fun x => S.contains x)).Nodup := List.Nodup.sublist List.filter_sublist List.nodup_range
  have h3 := h2.length_le_of_subset h1
  have := h.less
  unfold lackB
  rw [hp.length_eq, decide_eq_true_eq]
  omega
/-- Hall's theorem. -/
theorem hall (A : Nat → Nat → Bool) (n : Nat) : (∃ p, Pr n p ∧ Ok A p) ↔ ∀ q, Asc n 0 q → lackB A n q = false := by
  obtain ⟨r, hr⟩ := rows_total A n
  constructor
  · rintro ⟨p, hp, hok⟩ q hq
    rcases hb : lackB A n q
    · rfl
    · exact absurd hok ((lackB_lack hq hb).none hp)
  · intro h
    rcases hr.hall with ⟨_, h1⟩ | ⟨_, S, D, h1⟩
    · exact h1
    · obtain ⟨p, hp, hl⟩ := lack_lackB h1
      rw [h p hp] at hl; cases hl
/-- A least set lacks exactly one column. -/
theorem LeastL.one {A : Nat → Nat → Bool} {n : Nat} {p : List Nat} (h : LeastL A n p) : (hnd A n p).length + 1 = p.length := by
  have hl := h.lack
  unfold lackB at hl
  simp at hl
  rcases p with _ | ⟨x, t⟩
  · simp at hl
  · have hr := List.pairwise_cons.1 h.asc.rise
    have ht : Asc n 0 t := ⟨hr.2, fun _ _ => Nat.zero_le _, fun y hy => h.asc.lt y (by simp [hy])⟩
    have hno : lackB A n t = false := by
      rcases hb : lackB A n t
      · rfl
      · rcases h.least t ht hb with h1 | ⟨h1, _⟩ <;> simp at h1 <;> omega
    unfold lackB at hno
    simp at hno
    have hs : (hnd A n t).length ≤ (hnd A n (x :: t)).length := by
      unfold hnd
      generalize List.range n = l
      induction l with
      | nil => exact Nat.le_refl _
      | cons j l ih =>
        rcases hb : t.any fun i => A i j
        · rw [List.filter_cons_of_neg (by simpa using hb)]
          refine Nat.le_trans ih ?_
          rw [List.filter_cons]
          split
          · rw [List.length_cons]; omega
          · exact Nat.le_refl _
        · rw [List.filter_cons_of_pos (by simpa using hb), List.filter_cons_of_pos (by rw [List.any_cons, hb, Bool.or_true]), List.length_cons, List.length_cons]
          omega
    simp at hl ⊢
    omega
end Go.Proofs.Ytkecdjdggkpdpab
