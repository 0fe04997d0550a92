/- Knuth NumF Part -/
import Derived.Test.YtkecdjdggkpdpabQWa
import Derived.Deep.DeepCutAuto
import Derived.Deep.CutBlock
import Derived.Deep.CutRange
set_option linter.unusedVariables false
/- Knuth's algorithm D: the guess of a digit, and the multiple that is taken away. Plain numbers and lists. -/
namespace Go.Proofs.Ytkecdjdggkpdpab

/-- The numbers of one step: the divisor and the window, by their two and three highest limbs. -/
structure KStep (B P V U v1 v2 vl u2 ul top : Nat) : Prop where
  hV : V = vl + P * (v2 + B * v1)
  hU : U = ul + P * (u2 + B * top)
  hvl : vl < P
  hul : ul < P
  hv1 : B ≤ 2 * v1
  hv2 : v2 < B
  hu2 : u2 < B
  htop : top ≤ v1 * B + (B - 1)
  hq : U < V * B
  hB : 2 ≤ B
  hP : 0 < P

namespace KStep
variable {B P V U v1 v2 vl u2 ul top : Nat}

theorem v1_pos (k : KStep B P V U v1 v2 vl u2 ul top) : 0 < v1 := by have := k.hv1; have := k.hB; omega

theorem V_pos (k : KStep B P V U v1 v2 vl u2 ul top) : 0 < V := by
  have h1 := k.v1_pos
  have h2 := k.hB
  have h3 := k.hP
  rw [k.hV]
  have : 0 < P * (v2 + B * v1) := Nat.mul_pos h3 (by have := Nat.mul_pos (show 0 < B by omega) h1; omega)
  omega

theorem q_lt (k : KStep B P V U v1 v2 vl u2 ul top) : U / V < B := by
  rw [Nat.div_lt_iff_lt_mul k.V_pos, Nat.mul_comm]; exact k.hq

/-- The true digit times the two highest limbs. -/
theorem qA (k : KStep B P V U v1 v2 vl u2 ul top) : (U / V) * (v2 + B * v1) ≤ u2 + B * top := by
  have h1 : (U / V) * V ≤ U := Nat.div_mul_le_self U V
  have h2 : (U / V) * (P * (v2 + B * v1)) ≤ (U / V) * V := Nat.mul_le_mul_left _ (by rw [k.hV]; omega)
  have h3 : U < P * (u2 + B * top + 1) := by rw [Nat.mul_add, k.hU]; have := k.hul; omega
  have h4 : P * ((U / V) * (v2 + B * v1)) < P * (u2 + B * top + 1) := by
    rw [Nat.mul_left_comm]; omega
  have := Nat.lt_of_mul_lt_mul_left h4
  omega

theorem start (k : KStep B P V U v1 v2 vl u2 ul top) : U / V ≤ top / v1 := by
  rw [Nat.le_div_iff_mul_le k.v1_pos]
  have h1 := k.qA
  have h2 : B * ((U / V) * v1) ≤ (U / V) * (v2 + B * v1) := by
    rw [Nat.mul_add, Nat.mul_left_comm B]; omega
  have h3 : B * ((U / V) * v1) < B * (top + 1) := by
    have := k.hu2; rw [Nat.mul_add]; omega
  have := Nat.lt_of_mul_lt_mul_left h3
  omega

theorem less (k : KStep B P V U v1 v2 vl u2 ul top) {g r : Nat} (hg : g * v1 + r = top) (h : B ≤ g ∨ r * B + u2 < g * v2) : U / V ≤ g - 1 := by
  rcases h with h | h
  · have := k.q_lt; omega
  · have h1 := k.qA
    have h2 : u2 + B * top < g * (v2 + B * v1) := by
      rw [← hg, Nat.mul_add, Nat.mul_add, Nat.mul_left_comm B g, Nat.mul_comm B r]
      omega
    have h3 : (U / V) * (v2 + B * v1) < g * (v2 + B * v1) := by omega
    have := Nat.lt_of_mul_lt_mul_right h3
    omega

theorem near (k : KStep B P V U v1 v2 vl u2 ul top) {g r : Nat} (hg : g * v1 + r = top) (h1 : g < B) (h : g * v2 ≤ r * B + u2) : g ≤ U / V + 1 := by
  have h2 : g * (v2 + B * v1) ≤ u2 + B * top := by
    rw [← hg, Nat.mul_add, Nat.mul_add, Nat.mul_left_comm B g, Nat.mul_comm B r]
    omega
  have h3 : g * vl ≤ g * P := Nat.mul_le_mul_left _ (by have := k.hvl; omega)
  have h4 : P * (g * (v2 + B * v1)) ≤ P * (u2 + B * top) := Nat.mul_le_mul_left _ h2
  have h5 : g * V = g * vl + P * (g * (v2 + B * v1)) := by
    rw [k.hV, Nat.mul_add, Nat.mul_left_comm]
  have h6 : g * P < B * P := Nat.mul_lt_mul_of_pos_right h1 k.hP
  have h7 : B * P ≤ V := by
    rw [k.hV]
    have : P * (B * 1) ≤ P * (v2 + B * v1) := Nat.mul_le_mul_left _ (by have := Nat.mul_le_mul_left B k.v1_pos; omega)
    have e : P * (B * 1) = B * P := by rw [Nat.mul_one, Nat.mul_comm]
    omega
  have h8 := k.hU
  have h9 : g * V < U + V := by omega
  rcases Nat.eq_zero_or_pos g with h0 | h0
  · rw [h0]; exact Nat.zero_le _
  · have h10 : (g - 1) * V ≤ U := by
      rw [Nat.sub_mul]; omega
    have := (Nat.le_div_iff_mul_le k.V_pos).2 h10
    omega

/-- Where the rest has passed the base the guess is right or one too great. -/
theorem passed (k : KStep B P V U v1 v2 vl u2 ul top) {g r : Nat} (hg : g * v1 + r = top) (hr : B ≤ r) : g < B ∧ g ≤ U / V + 1 := by
  have h1 : g < B := by
    have h2 := k.htop
    have hB := k.hB
    have h3 : g * v1 < B * v1 := by rw [Nat.mul_comm B v1]; omega
    exact Nat.lt_of_mul_lt_mul_right h3
  refine ⟨h1, k.near hg h1 ?_⟩
  have h2 : g * v2 ≤ B * B := Nat.mul_le_mul (by omega) (by have := k.hv2; omega)
  have h3 : B * B ≤ r * B := Nat.mul_le_mul_right _ hr
  omega

theorem guess_small (k : KStep B P V U v1 v2 vl u2 ul top) {g r : Nat} (hg : g * v1 + r = top) : g ≤ 2 * B := by
  have h1 := k.htop
  have h2 := k.hv1
  have h3 := k.v1_pos
  rcases Nat.lt_or_ge (2 * B) g with h | h
  · exfalso
    have h4 : (2 * B + 1) * v1 ≤ g * v1 := Nat.mul_le_mul_right _ h
    rw [Nat.add_mul, Nat.mul_assoc, Nat.one_mul, Nat.mul_comm v1 B] at *
    have h5 : B * 1 ≤ B * v1 := Nat.mul_le_mul_left _ h3
    omega
  · exact h
end KStep

/-- The highest two limbs. -/
theorem val_two (B : Nat) (xs : List Nat) (m a b : Nat) (hl : xs.length = m + 2) (ha : xs[m]? = some a) (hb : xs[m + 1]? = some b) : val B xs = val B (xs.take m) + B ^ m * (a + B * b) := by
  rw [val_split B xs m (by omega), val_drop B xs m a ha, val_drop B xs (m + 1) b hb, List.drop_of_length_le (by omega)]
  simp [val]

theorem val_three (B : Nat) (xs : List Nat) (m a b c : Nat) (hl : xs.length = m + 3) (ha : xs[m]? = some a) (hb : xs[m + 1]? = some b) (hc : xs[m + 2]? = some c) :
    val B xs = val B (xs.take m) + B ^ m * (a + B * (b + B * c)) := by
  rw [val_split B xs m (by omega), val_drop B xs m a ha, val_drop B xs (m + 1) b hb, val_drop B xs (m + 1 + 1) c hc, List.drop_of_length_le (by omega)]
  simp [val]

theorem kstep (vs W : List Nat) (m v1 v2 u1 u2 u3 : Nat) (hvl : vs.length = m + 2) (hWl : W.length = m + 3) (hvB : Lt B32 vs) (hWB : Lt B32 W)
    (hv2 : vs[m]? = some v2) (hv1 : vs[m + 1]? = some v1) (hu3 : W[m]? = some u3) (hu2 : W[m + 1]? = some u2) (hu1 : W[m + 2]? = some u1) (hn : B32 ≤ 2 * v1)
    (hq : val B32 W < val B32 vs * B32) : KStep B32 (B32 ^ m) (val B32 vs) (val B32 W) v1 v2 (val B32 (vs.take m)) u3 (val B32 (W.take m)) (u2 + B32 * u1) := by
  have hB : 2 ≤ B32 := two_le_B32
  have hP : 0 < B32 ^ m := Nat.pow_pos (by omega)
  have e1 := val_two B32 vs m v2 v1 hvl hv2 hv1
  have e2 := val_three B32 W m u3 u2 u1 hWl hu3 hu2 hu1
  have l1 := val_lt (vs.take m) (hvB.take m)
  have l2 := val_lt (W.take m) (hWB.take m)
  rw [List.length_take, Nat.min_eq_left (by omega)] at l1 l2
  have b1 := hvB.at hv1
  have b2 := hvB.at hv2
  have b3 := hWB.at hu2
  have b4 := hWB.at hu3
  refine ⟨e1, e2, l1, l2, hn, b2, b4, ?_, hq, hB, hP⟩
  -- the highest limb is at most the divisor's
  have h1 : u1 ≤ v1 := by
    rcases Nat.lt_or_ge v1 u1 with h | h
    · exfalso
      have h2 : v2 + B32 * v1 + 1 ≤ B32 * u1 := by
        have := Nat.mul_le_mul_left B32 h
        rw [Nat.mul_succ] at this
        omega
      have h3 : val B32 vs < B32 ^ m * (B32 * u1) := by
        have := Nat.mul_le_mul_left (B32 ^ m) h2
        rw [Nat.mul_add] at this
        omega
      have h4 : val B32 vs * B32 < B32 ^ m * (B32 * u1) * B32 := Nat.mul_lt_mul_of_pos_right h3 (by omega)
      have h5 : B32 ^ m * (B32 * u1) * B32 ≤ val B32 W := by
        rw [e2, Nat.mul_assoc]
        have : B32 ^ m * (B32 * u1 * B32) ≤ B32 ^ m * (u3 + B32 * (u2 + B32 * u1)) := Nat.mul_le_mul_left _ (by
          rw [Nat.mul_comm (B32 * u1) B32, Nat.mul_add]; omega)
        omega
      omega
    · exact h
  have h6 := Nat.mul_le_mul_left B32 h1
  rw [Nat.mul_comm v1 B32]
  omega

/-- What has been taken away after i limbs. -/
def SubInv (W vs W' : List Nat) (g i carry borrow : Nat) : Prop :=
  W'.length = W.length ∧ Lt B32 W' ∧ carry < B32 ∧ borrow ≤ 1 ∧ W'.drop i = W.drop i ∧
    val B32 (W'.take i) + g * val B32 (vs.take i) = val B32 (W.take i) + B32 ^ i * (carry + borrow)

theorem sub_step (B P a b g v u c d s t e f x y : Nat) (h : a + g * b = x + P * (c + d)) (ht : t + B * e = g * v + c) (hs : s + t + d = u + B * f) (hy : y = P * B) :
    (a + P * s) + g * (b + P * v) = (x + P * u) + y * (e + f) := by
  subst hy
  have h1 : P * B * (e + f) = P * (B * e) + P * (B * f) := by rw [Nat.mul_assoc, ← Nat.mul_add, ← Nat.mul_add]
  have h2 : P * (t + B * e) = P * (g * v) + P * c := by rw [ht, Nat.mul_add]
  have h3 : P * (s + t + d) = P * u + P * (B * f) := by rw [hs, Nat.mul_add]
  have h4 : g * (b + P * v) = g * b + P * (g * v) := by rw [Nat.mul_add, Nat.mul_left_comm]
  rw [Nat.mul_add] at h2
  rw [Nat.mul_add, Nat.mul_add] at h3
  rw [Nat.mul_add] at h
  rw [h1, h4]
  omega

theorem SubInv.start (W vs : List Nat) (g : Nat) (h : Lt B32 W) : SubInv W vs W g 0 0 0 :=
  ⟨rfl, h, by unfold B32; omega, by omega, rfl, by simp [val]⟩

theorem SubInv.cell {W vs W' : List Nat} {g i c d j : Nat} (h : SubInv W vs W' g i c d) (hj : i ≤ j) : W'[j]? = W[j]? := by
  have := congrArg (fun l => l[j - i]?) h.2.2.2.2.1
  simp only [List.getElem?_drop] at this
  rwa [show i + (j - i) = j by omega] at this

theorem SubInv.step {W vs W' : List Nat} {g i c d u v : Nat} (h : SubInv W vs W' g i c d) (hg : g < B32) (hu : W[i]? = some u) (hv : vs[i]? = some v) (hvB : Lt B32 vs) :
    SubInv W vs (W'.set i (sdig u ((g * v + c) % B32) d)) g (i + 1) ((g * v + c) / B32) (bor u ((g * v + c) % B32) d) := by
  have hu' : W'[i]? = some u := (h.cell (Nat.le_refl i)).trans hu
  obtain ⟨h1, h2, h3, h4, h5, h6⟩ := h
  have hB : 0 < B32 := by unfold B32; omega
  have hi : i < W'.length := (List.getElem?_eq_some_iff.1 hu').1
  have ht := Nat.mod_add_div (g * v + c) B32
  have htl : (g * v + c) % B32 < B32 := Nat.mod_lt _ hB
  have hs := sub_digit u ((g * v + c) % B32) d (h2.at hu') htl h4
  have hsd : sdig u ((g * v + c) % B32) d < B32 := Nat.mod_lt _ hB
  refine ⟨by simpa using h1, h2.set _ _ hsd, ?_, bor_le _ _ _, ?_, ?_⟩
  · have := mul_lt_B g v 0 c hg (hvB.at hv) hB h3
    simpa using this
  · rw [List.drop_set_of_lt (by omega)]
    have := congrArg (List.drop 1) h5
    rwa [List.drop_drop, List.drop_drop] at this
  · rw [val_set_take _ _ _ _ hi, val_take_succ _ _ _ _ hv, val_take_succ _ _ _ _ hu]
    exact sub_step B32 (B32 ^ i) _ _ g v u c d _ _ _ _ _ _ h6 ht hs (Nat.pow_succ _ _)

/-- Behind the highest limb. -/
theorem SubInv.done {W vs W' : List Nat} {g n c d u : Nat} (h : SubInv W vs W' g n c d) (hn : vs.length = n) (hW : W.length = n + 1) (hu : W[n]? = some u) :
    (W'.set n (sdig u c d)).length = n + 1 ∧ Lt B32 (W'.set n (sdig u c d)) ∧ val B32 (W'.set n (sdig u c d)) + g * val B32 vs = val B32 W + B32 ^ (n + 1) * bor u c d := by
  have hu' : W'[n]? = some u := (h.cell (Nat.le_refl n)).trans hu
  obtain ⟨h1, h2, h3, h4, h5, h6⟩ := h
  have hB : 0 < B32 := by unfold B32; omega
  have hs := sub_digit u c d (h2.at hu') h3 h4
  have hsd : sdig u c d < B32 := Nat.mod_lt _ hB
  refine ⟨by simp [h1, hW], h2.set _ _ hsd, ?_⟩
  have e1 : val B32 (W'.set n (sdig u c d)) = val B32 (W'.take n) + B32 ^ n * sdig u c d := by
    have := val_set_take B32 W' n (sdig u c d) (by omega)
    rwa [List.take_of_length_le (by simp [h1, hW])] at this
  have e2 : val B32 W = val B32 (W.take n) + B32 ^ n * u := by
    have := val_take_succ B32 W n u hu
    rwa [List.take_of_length_le (by omega)] at this
  rw [List.take_of_length_le (Nat.le_of_eq hn)] at h6
  rw [e1, e2, Nat.pow_succ, Nat.mul_assoc]
  have h7 : B32 ^ n * (sdig u c d + c + d) = B32 ^ n * u + B32 ^ n * (B32 * bor u c d) := by rw [hs, Nat.mul_add]
  rw [Nat.mul_add, Nat.mul_add] at h7
  rw [Nat.mul_add] at h6
  omega

/-- No borrow: the guess is right. -/
theorem right_guess {U V W g : Nat} (hV : 0 < V) (h : W + g * V = U) (h1 : U / V ≤ g) : g = U / V ∧ W = U % V := by
  have h2 : g ≤ U / V := (Nat.le_div_iff_mul_le hV).2 (by omega)
  have h3 : g = U / V := by omega
  refine ⟨h3, ?_⟩
  have := Nat.div_add_mod U V
  rw [← h3, Nat.mul_comm V g] at this
  omega

/-- What has been added again after i limbs. -/
def AddInv (W vs W' : List Nat) (i over : Nat) : Prop :=
  W'.length = W.length ∧ Lt B32 W' ∧ over ≤ 1 ∧ W'.drop i = W.drop i ∧ val B32 (W'.take i) + B32 ^ i * over = val B32 (W.take i) + val B32 (vs.take i)

theorem AddInv.start (W vs : List Nat) (h : Lt B32 W) : AddInv W vs W 0 0 := ⟨rfl, h, by omega, rfl, by simp [val]⟩

theorem AddInv.cell {W vs W' : List Nat} {i o j : Nat} (h : AddInv W vs W' i o) (hj : i ≤ j) : W'[j]? = W[j]? := by
  have := congrArg (fun l => l[j - i]?) h.2.2.2.1
  simp only [List.getElem?_drop] at this
  rwa [show i + (j - i) = j by omega] at this

theorem AddInv.step {W vs W' : List Nat} {i o u v : Nat} (h : AddInv W vs W' i o) (hu : W[i]? = some u) (hv : vs[i]? = some v) (hvB : Lt B32 vs) :
    AddInv W vs (W'.set i ((u + v + o) % B32)) (i + 1) ((u + v + o) / B32) := by
  have hu' : W'[i]? = some u := (h.cell (Nat.le_refl i)).trans hu
  obtain ⟨h1, h2, h3, h4, h5⟩ := h
  have hB : 0 < B32 := by unfold B32; omega
  have hi : i < W'.length := (List.getElem?_eq_some_iff.1 hu').1
  have hul := h2.at hu'
  have hvl := hvB.at hv
  refine ⟨by simpa using h1, h2.set _ _ (Nat.mod_lt _ hB), ?_, ?_, ?_⟩
  · have : (u + v + o) / B32 < 2 := by rw [Nat.div_lt_iff_lt_mul hB]; omega
    omega
  · rw [List.drop_set_of_lt (by omega)]
    have := congrArg (List.drop 1) h4
    rwa [List.drop_drop, List.drop_drop] at this
  · rw [val_set_take _ _ _ _ hi, val_take_succ _ _ _ _ hv, val_take_succ _ _ _ _ hu, Nat.pow_succ]
    exact plus_step B32 _ _ u v o _ _ h5

/-- A borrow: the guess was one too great, and the divisor has been added again. -/
theorem back_guess {U V g n o u : Nat} {vs W W' : List Nat} (h : AddInv W vs W' n o) (hn : vs.length = n) (hW : W.length = n + 1) (hu : W[n]? = some u) (hvB : Lt B32 vs) (hWB : Lt B32 W)
    (hV : val B32 vs = V) (hs : val B32 W + g * V = U + B32 ^ (n + 1)) (h2 : g ≤ U / V + 1) (hV0 : 0 < V) :
    g = U / V + 1 ∧ (W'.set n ((u + o) % B32)).length = n + 1 ∧ Lt B32 (W'.set n ((u + o) % B32)) ∧ val B32 (W'.set n ((u + o) % B32)) = U % V := by
  obtain ⟨h3, h4, h5, h6, h7⟩ := h
  have hB : 0 < B32 := by unfold B32; omega
  have hWl := val_lt W hWB
  have hvl := val_lt vs hvB
  rw [hW] at hWl
  rw [hn, hV] at hvl
  have hg : g = U / V + 1 := by
    have : U / V < g := by
      rw [Nat.div_lt_iff_lt_mul hV0]
      omega
    omega
  refine ⟨hg, by simp [h3, hW], h4.set _ _ (Nat.mod_lt _ hB), ?_⟩
  have hr := Nat.div_add_mod U V
  have hrl := Nat.mod_lt U hV0
  have e2 : val B32 W = val B32 (W.take n) + B32 ^ n * u := by
    have := val_take_succ B32 W n u hu
    rwa [List.take_of_length_le (by omega)] at this
  have hX := val_lt (W'.take n) (h4.take n)
  rw [List.length_take, Nat.min_eq_left (by omega)] at hX
  rw [List.take_of_length_le (Nat.le_of_eq hn), hV] at h7
  have e3 : val B32 (W'.take n) + B32 ^ n * (o + u) = U % V + B32 ^ n * B32 := by
    rw [Nat.mul_add]
    rw [hg, Nat.add_mul, Nat.mul_comm (U / V) V, Nat.pow_succ] at hs
    omega
  have e4 : val B32 (W'.take n) = U % V := by
    have := congrArg (· % B32 ^ n) e3
    simp only [Nat.add_mul_mod_self_left] at this
    rwa [Nat.mod_eq_of_lt hX, Nat.mod_eq_of_lt (by omega)] at this
  have e5 : o + u = B32 := by
    rw [e4] at e3
    have : B32 ^ n * (o + u) = B32 ^ n * B32 := by omega
    exact Nat.eq_of_mul_eq_mul_left (Nat.pow_pos hB) this
  have e6 : (u + o) % B32 = 0 := by rw [Nat.add_comm, e5, Nat.mod_self]
  have := val_set_take B32 W' n ((u + o) % B32) (by omega)
  rw [List.take_of_length_le (by simp [h3, hW])] at this
  rw [this, e6, e4]
  simp

end Go.Proofs.Ytkecdjdggkpdpab

/- Walks of the program's division: digit, part. -/
namespace Go.Proofs.Ytkecdjdggkpdpab
open Go Go.RowKit Go.Proofs

/-- The window of a block: W between A and C. -/
def Win (w : World) (g T : Nat) (A W C : List Nat) : Prop := Nblk .u32 w g T (A ++ (W ++ C))

theorem Win.at {w : World} {g T j i z : Nat} {A W C : List Nat} (h : Win w g T A W C) (hA : A.length = j) (hz : W[i]? = some z) : w.cell? ⟨g, j + i, none⟩ = some (.int .u32 z) := by
  refine Nblk.at h ?_
  have hi : i < W.length := (List.getElem?_eq_some_iff.1 hz).1
  rw [List.getElem?_append_right (by omega), hA, Nat.add_sub_cancel_left, List.getElem?_append_left hi]
  exact hz

theorem Win.frozen {w : World} {g T : Nat} {A W C : List Nat} (h : Win w g T A W C) (i : Nat) : w.frozen? ⟨g, i, none⟩ = false := Blk.frozen h i

theorem Win.set {w : World} {g T j i x : Nat} {z : Int} {A W C : List Nat} (h : Win w g T A W C) (hA : A.length = j) (hi : i < W.length) (hz : z = x) : Win (w.setCell ⟨g, j + i, none⟩ (.int .u32 z)) g T A (W.set i x) C := by
  have := Nblk.set' h (i := j + i) hz
  unfold Win
  rwa [List.set_append_right _ _ (by omega), hA, Nat.add_sub_cancel_left, List.set_append_left _ _ hi] at this

theorem Win.dn {w : World} {g T n : Nat} {A W C : List Nat} (h : Win w g T A W C) : Win (w.drewN n) g T A W C := h
theorem Win.drew {w : World} {g T : Nat} {A W C : List Nat} (h : Win w g T A W C) : Win w.drew g T A W C := h

theorem gbset {w w1 : World} {g : Nat} (h : w.grownBy w1 (some g)) (i : Nat) (v : Value) : w.grownBy (w1.setCell ⟨g, i, none⟩ v) (some g) :=
  ⟨h.os, h.tape, h.output, by simpa using h.size, fun k hk hne => by
    rw [Below.heap_setCell _ _ _ _ (fun e => hne (by rw [e]))]; exact h.block k hk hne⟩

theorem gbdn {w w1 : World} {r : Option Nat} (h : w.grownBy w1 r) {n : Nat} : w.grownBy (w1.drewN n) r := ⟨h.os, h.tape, h.output, h.size, h.block⟩
theorem gbdrew {w w1 : World} {r : Option Nat} (h : w.grownBy w1 r) : w.grownBy w1.drew r := ⟨h.os, h.tape, h.output, h.size, h.block⟩

theorem gbbelow {w w1 : World} {g : Nat} (h : w.grownBy w1 (some g)) (hg : g ≤ w.heap.size) : Below g w w1 :=
  ⟨h.os, h.tape, h.output, h.size, fun k hk => h.block k (by omega) (fun e => by injection e; omega)⟩

/-- The divisor's limbs lie apart from the window. -/
def Apart (a : Option Addr) (g : Nat) : Prop := ∀ b o, a = some ⟨b, o, none⟩ → b < g

theorem Dg.gb {K : IntKind} {w w1 : World} {a : Option Addr} {xs : List Nat} {g : Nat} (h : Dg K w a xs) (hg : w.grownBy w1 (some g)) (hs : Apart a g) : Dg K w1 a xs := fun i x hx => by
  obtain ⟨b, o, ha, hc⟩ := h i x hx
  have := hs b o ha
  exact ⟨b, o, ha, World.grownBy.cell hg hc (by simp; omega)⟩

theorem guess_less (g r v t : Nat) (h : g * v + r = t) (hg : 1 ≤ g) : (g - 1) * v + (r + v) = t := by
  have e : g * v = (g - 1) * v + v := by
    conv => lhs; rw [← Nat.sub_add_cancel hg, Nat.add_mul, Nat.one_mul]
  omega

def DigitPost (w : World) (g T : Nat) (A W C : List Nat) (V : Nat) (e : Ending) (w' : World) : Prop :=
  e = .returned (.int .u32 ((val B32 W / V : Nat) : Int)) ∧ ∃ W', Win w' g T A W' C ∧ W'.length = W.length ∧ Lt B32 W' ∧ val B32 W' = val B32 W % V ∧ w.grownBy w' (some g)

set_option maxHeartbeats 3200000 in
set_option maxRecDepth 100000 in
theorem digit_any (g j cap m : Nat) (A W C : List Nat) (a2 : Option Addr) (c2 : Nat) (vs : List Nat) (w : World) (hwin : Win w g 100 A W C) (hA : A.length = j)
    (hW : W.length = m + 3) (hWB : Lt B32 W) (hv : Dg .u32 w a2 vs) (hvl : vs.length = m + 2) (hvB : Lt B32 vs) (hsep : Apart a2 g) (hnorm : ∀ v1, vs[m + 1]? = some v1 → B32 ≤ 2 * v1)
    (hq : val B32 W < val B32 vs * B32) (hj : j + m + 3 ≤ 2000000000) (hcap : m + 3 ≤ cap) :
    Calls Try.prog 79 #[.slice (some ⟨g, j, none⟩) (m + 3) cap, .slice a2 (m + 2) c2] w (DigitPost w g 100 A W C (val B32 vs)) := by
  obtain ⟨b2, o2, v1, hv1, hae, hcv1⟩ := hv.at (i := m + 1) (by omega)
  subst hae
  obtain ⟨b2', o2', v2, hv2, hae, hcv2⟩ := hv.at (i := m) (by omega)
  injection hae with hae
  injection hae with hae1 hae2
  subst hae1 hae2
  obtain ⟨u1, hu1⟩ : ∃ z, W[m + 2]? = some z := ⟨_, List.getElem?_eq_getElem (by omega)⟩
  obtain ⟨u2, hu2⟩ : ∃ z, W[m + 1]? = some z := ⟨_, List.getElem?_eq_getElem (by omega)⟩
  obtain ⟨u3, hu3⟩ : ∃ z, W[m]? = some z := ⟨_, List.getElem?_eq_getElem (by omega)⟩
  have K := Lib.hid (kstep vs W m v1 v2 u1 u2 u3 hvl hW hvB hWB hv2 hv1 hu3 hu2 hu1 (hnorm v1 hv1) hq)
  have l1 : v1 < 4294967296 := hvB.at hv1
  have l2 : v2 < 4294967296 := hvB.at hv2
  have l3 : u1 < 4294967296 := hWB.at hu1
  have l4 : u2 < 4294967296 := hWB.at hu2
  have l5 : u3 < 4294967296 := hWB.at hu3
  have l6 : 2147483648 ≤ v1 := by have := hnorm v1 hv1; unfold B32 at this; omega
  have hcu1 := hwin.at hA hu1
  have hcu2 := hwin.at hA hu2
  have hcu3 := hwin.at hA hu3
  have hAH := Lib.hid hA
  have hWH := Lib.hid hW
  have hvlH := Lib.hid hvl
  have hu1H := Lib.hid hu1
  have hv1H := Lib.hid hv1
  have hnH := Lib.hid hnorm
  have hor1 := u64_join u1 u2 l3 l4
  have hvz : ((v1 : Int) == 0) = false := by simp; omega
  have i1 : ((m : Int) + 2) < ((m + 3 : Nat) : Int) := by omega
  have hu3H := Lib.hid hu3
  have hv2H := Lib.hid hv2
  clear hA hW hvl hu1 hv1 hnorm hu2 hu3 hv2
  go_enter Try.func79, Try.ntmps79
  go_wp2_with fail
  go_quiet (fail)
  go_wp2_with fail
  go_quiet (fail)
  go_upto_block 0 with (fail)
  go_cut [7, 8] from 46 to 81 (fun s7 s8 wc => ∃ gg : Nat, s7 = .int .u64 (gg : Nat) ∧ gg < B32 ∧ val B32 W / val B32 vs ≤ gg ∧ gg ≤ val B32 W / val B32 vs + 1 ∧ Win wc g 100 A W C ∧ w.grownBy wc (some g))
  case first =>
    go_wp2_with fail
    go_loopw [7, 8] (fun s7 s8 wr => ∃ gg rr : Nat, s7 = .int .u64 (gg : Nat) ∧ s8 = .int .u64 (rr : Nat) ∧ rr < B32 ∧ gg * v1 + rr = u2 + B32 * u1 ∧ val B32 W / val B32 vs ≤ gg ∧ Win wr g 100 A W C ∧ w.grownBy wr (some g)) (fun _ s8 _ => (4294967296 - intOf s8).toNat)
    case atStart =>
      refine ⟨(u2 + B32 * u1) / v1, (u2 + B32 * u1) % v1, int_eq ?_, int_eq ?_, ?_, ?_, K.out.start, hwin, ⟨rfl, rfl, rfl, Nat.le_refl _, fun _ _ _ => rfl⟩⟩
      · unfold B32; rw [Nat.add_comm, Nat.mul_comm]; simp
      · unfold B32; rw [Nat.add_comm, Nat.mul_comm]; simp
      · have := Nat.mod_lt (u2 + B32 * u1) (show 0 < v1 by omega)
        unfold B32 at *; omega
      · rw [Nat.mul_comm]; exact Nat.div_add_mod _ _
    case round =>
      obtain ⟨gg, rr, rfl, rfl, hr, htop, hqg, hwn, hgb⟩ := hrel
      obtain ⟨wo, rfl⟩ : ∃ wo : World, wo = wr := ⟨_, rfl⟩
      have k1 := World.grownBy.cell hgb hcv1 (by have := hsep b2 o2 rfl; simp; omega)
      have k2 := World.grownBy.cell hgb hcv2 (by have := hsep b2 o2 rfl; simp; omega)
      have k3 := hwn.at hAH.out hu3H.out
      have htopH := Lib.hid htop
      have hr' : rr < 4294967296 := hr
      have hgs : gg ≤ 8589934592 := by have := K.out.guess_small htop; unfold B32 at this; omega
      have hqH := Lib.hid hqg
      clear htop hqg hr
      by_cases hge : 4294967296 ≤ gg
      · have hd1 : decide ((0 : Int) < (gg : Int) / 4294967296) = true := by simp; omega
        have hless := Lib.hid (K.out.less htopH.out (Or.inl hge))
        have hnew := Lib.hid (guess_less gg rr v1 _ htopH.out (by omega))
        go_wp2_with fail
        go_quiet (fail)
        go_wp2_with fail
        · have hp := K.out.passed hnew.out (by unfold B32; omega)
          go_meet
          exact ⟨gg - 1, int_eq (by omega), hp.1, hless.out, hp.2, hwn.dn, gbdn hgb⟩
        · go_roundw
          case rel => exact ⟨gg - 1, rr + v1, int_eq (by omega), int_eq (by omega), by unfold B32; omega, hnew.out, hless.out, hwn.dn, gbdn hgb⟩
          case measure => simp [intOf]; omega
      · have hd1 : decide ((0 : Int) < (gg : Int) / 4294967296) = false := by simp; omega
        obtain ⟨m0, m1⟩ := mul_bound gg v2 (by omega) l2
        have hor2 := u64_join rr u3 hr' l5
        by_cases ht : rr * B32 + u3 < gg * v2
        · have hd2 : decide ((rr : Int) * 4294967296 + u3 < (gg : Int) * v2) = true := by
            have e : ((gg * v2 : Nat) : Int) = (gg : Int) * v2 := by simp
            unfold B32 at ht
            simp only [decide_eq_true_eq]
            omega
          have hless := Lib.hid (K.out.less htopH.out (Or.inr ht))
          have hnew := Lib.hid (guess_less gg rr v1 _ htopH.out (by rcases Nat.eq_zero_or_pos gg with h0 | h0; (rw [h0] at ht; omega); exact h0))
          have hg1 : 1 ≤ gg := by rcases Nat.eq_zero_or_pos gg with h0 | h0; (rw [h0] at ht; omega); exact h0
          have htH := Lib.hid ht
          clear ht
          go_wp2_with fail
          go_quiet (fail)
          go_wp2_with fail
          · have hp := K.out.passed hnew.out (by unfold B32; omega)
            go_meet
            exact ⟨gg - 1, int_eq (by omega), hp.1, hless.out, hp.2, hwn.dn, gbdn hgb⟩
          · go_roundw
            case rel => exact ⟨gg - 1, rr + v1, int_eq (by omega), int_eq (by omega), by unfold B32; omega, hnew.out, hless.out, hwn.dn, gbdn hgb⟩
            case measure => simp [intOf]; omega
        · have hd2 : decide ((rr : Int) * 4294967296 + u3 < (gg : Int) * v2) = false := by
            have e : ((gg * v2 : Nat) : Int) = (gg : Int) * v2 := by simp
            unfold B32 at ht
            simp only [decide_eq_false_iff_not]
            omega
          have hnear := Lib.hid (K.out.near htopH.out (show gg < B32 by unfold B32; omega) (by omega))
          have htH := Lib.hid ht
          clear ht
          go_wp2_with fail
          go_quiet (fail)
          go_wp2_with fail
          go_meet
          exact ⟨gg, rfl, by unfold B32; omega, hqH.out, hnear.out, hwn.dn, gbdn hgb⟩
  case rest =>
    obtain ⟨gg, rfl, hgB, hqg, hgq, hwn, hgb⟩ := hcut
    have hgl : gg < 4294967296 := hgB
    have hqgH := Lib.hid hqg
    have hgqH := Lib.hid hgq
    have hu1W := hu1H.out
    have KH := K
    clear hqg hgq K hor1 hu3H hcu1 hcu2 hcu3 hcv1 hcv2
    go_wp2_with fail
    go_loopw [9, 10, 84] (fun c b i wr => ∃ (k cc bb : Nat) (W' : List Nat), k ≤ m + 2 ∧ i = .int .i64 (k : Nat) ∧ c = .int .u64 (cc : Nat) ∧ b = .int .u32 (bb : Nat) ∧ SubInv W vs W' gg k cc bb ∧ Win wr g 100 A W' C ∧ w.grownBy wr (some g)) (fun _ _ i _ => m + 2 - (intOf i).toNat)
    case atStart => exact ⟨0, 0, 0, W, by omega, rfl, rfl, rfl, SubInv.start W vs gg hWB, hwn, hgb⟩
    case round =>
      obtain ⟨k, cc, bb, W', hk, rfl, rfl, rfl, hS, hwn2, hgb2⟩ := hrel
      obtain ⟨wo, rfl⟩ : ∃ wo : World, wo = wr := ⟨_, rfl⟩
      have hcc : cc < 4294967296 := hS.2.2.1
      have hbb : bb ≤ 1 := hS.2.2.2.1
      have hSH := Lib.hid hS
      have hgs : g < wo.heap.size := hwn2.lt
      clear hS hwn hgb
      by_cases hk0 : k < m + 2
      · obtain ⟨b3, o3, v, hvk, hae, hcv⟩ := (hv.gb hgb2 hsep).at (i := k) (by have := hvlH.out; omega)
        injection hae with hae
        injection hae with hae1 hae2
        subst hae1 hae2
        obtain ⟨u, huk⟩ : ∃ z, W[k]? = some z := ⟨_, List.getElem?_eq_getElem (by have := hWH.out; omega)⟩
        have huk' := (hSH.out.cell (Nat.le_refl k)).trans huk
        have hcu := hwn2.at hAH.out huk'
        have hfz := hwn2.frozen (j + k)
        have lv : v < 4294967296 := hvB.at hvk
        have lu : u < 4294967296 := hWB.at huk
        have hstep := Lib.hid (hSH.out.step hgB huk hvk hvB)
        have hset := Lib.hid (hwn2.set (i := k) hAH.out (by have := hSH.out.1; have := hWH.out; omega) (rfl : ((sdig u ((gg * v + cc) % B32) bb : Nat) : Int) = _))
        obtain ⟨m0, m1⟩ := mul_bound gg v hgl lv
        have hz : (((gg : Int) * v + cc) % 4294967296) = (((gg * v + cc) % B32 : Nat) : Int) := by unfold B32; simp
        have hz2 : (((gg : Int) * v + cc) / 4294967296) = (((gg * v + cc) / B32 : Nat) : Int) := by unfold B32; simp
        have hzH := Lib.hid hz
        have hz2H := Lib.hid hz2
        clear huk huk' hvk hz hz2
        go_wp2_with (first | (go_at_call 82; (with_reducible refine (sub32_at u ((gg * v + cc) % B32) bb _ _ hzH.out lu (Nat.mod_lt _ (by unfold B32; omega)) hbb).mono ?_); rintro e w1 ⟨rfl, rfl⟩))
        all_goals
          go_roundw
          case rel =>
            (repeat apply Exists.intro)
            exact ⟨⟨k + 1, _, _, _, by omega, by go_num, int_eq hz2H.out, rfl, hstep.out, hset.out, gbset hgb2 _ _⟩, rfl⟩
          case measure => simp [intOf]; omega
      · have hkm : k = m + 2 := by omega
        subst hkm
        have hu1' := (hSH.out.cell (Nat.le_refl (m + 2))).trans hu1H.out
        have hcu := hwn2.at hAH.out hu1'
        have hfz := hwn2.frozen (j + (m + 2))
        have hdone := Lib.hid (hSH.out.done hvlH.out hWH.out hu1H.out)
        have hset := Lib.hid (hwn2.set (i := m + 2) hAH.out (by have := hSH.out.1; have := hWH.out; omega) (rfl : ((sdig u1 cc bb : Nat) : Int) = _))
        have hgb3 := Lib.hid (gbset hgb2 (j + (m + 2)) (.int .u32 ((sdig u1 cc bb : Nat) : Int)))
        clear hu1'
        have hV0 : Hid (0 < val B32 vs) := KH.out.V_pos
        rcases Nat.eq_zero_or_pos (bor u1 cc bb) with hb0 | hb0
        · have hfin := Lib.hid (right_guess hV0.out (by have := hdone.out.2.2; rw [hb0, Nat.mul_zero, Nat.add_zero] at this; exact this) hqgH.out)
          go_wp2_with (first | (go_at_call 82; (with_reducible refine (sub32_any u1 cc bb _ l3 hcc hbb).mono ?_); rintro e w1 ⟨rfl, rfl⟩))
          go_ret
          refine ⟨ret_int ?_, _, hset.out, by rw [hdone.out.1, hWH.out], hdone.out.2.1, hfin.out.2, hgb3.out⟩
          rw [← hfin.out.1]
        · have hb1 : bor u1 cc bb = 1 := by have := bor_le u1 cc bb; omega
          have hs2 := Lib.hid (show val B32 (W'.set (m + 2) (sdig u1 cc bb)) + gg * val B32 vs = val B32 W + B32 ^ (m + 3) by have := hdone.out.2.2; rw [hb1, Nat.mul_one] at this; exact this)
          have hW2 : Hid ((W'.set (m + 2) (sdig u1 cc bb))[m + 2]? = some (sdig u1 cc bb)) := by
            show _ = _
            have e1 := hSH.out.1
            have e2 := hWH.out
            exact List.getElem?_set_self (by omega)
          have hgg : 1 ≤ gg := by
            rcases Nat.eq_zero_or_pos gg with h0 | h0
            · exfalso
              have e := hs2.out
              have e2 := val_lt _ hdone.out.2.1
              rw [hdone.out.1, show m + 2 + 1 = m + 3 from rfl] at e2
              rw [h0, Nat.zero_mul] at e
              omega
            · exact h0
          clear hb0
          go_wp2_with (first | (go_at_call 82; (with_reducible refine (sub32_any u1 cc bb _ l3 hcc hbb).mono ?_); rintro e w1 ⟨rfl, rfl⟩))
          have t1 := hset.out
          have t2 := hgb3.out
          have t3 := hW2.out
          have t4 := hdone.out
          have t5 := hs2.out
          generalize W'.set (m + 2) (sdig u1 cc bb) = W2 at t1 t3 t4 t5
          generalize wo.setCell ⟨g, j + (m + 2), none⟩ (.int .u32 ((sdig u1 cc bb : Nat) : Int)) = wq at t1 t2 ⊢
          have t3H := Lib.hid t3
          have t4H := Lib.hid t4
          have t5H := Lib.hid t5
          clear t3 t4 t5 hset hgb3 hW2 hdone hs2 hcu hfz
          go_loopw [13, 133] (fun o i wr => ∃ (k oo : Nat) (Wx : List Nat), k ≤ m + 2 ∧ i = .int .i64 (k : Nat) ∧ o = .int .u32 (oo : Nat) ∧ AddInv W2 vs Wx k oo ∧ Win wr g 100 A Wx C ∧ w.grownBy wr (some g)) (fun _ i _ => m + 2 - (intOf i).toNat)
          case atStart => exact ⟨0, 0, W2, by omega, rfl, rfl, AddInv.start W2 vs t4H.out.2.1, t1, t2⟩
          case round =>
            obtain ⟨k, oo, Wx, hk, rfl, rfl, hS3, hwn3, hgb4⟩ := hrel
            obtain ⟨wp, rfl⟩ : ∃ wp : World, wp = wr := ⟨_, rfl⟩
            have hoo : oo ≤ 1 := hS3.2.2.1
            have hS3H := Lib.hid hS3
            have hgs3 : g < wp.heap.size := hwn3.lt
            clear hS3 t1 t2
            by_cases hk0 : k < m + 2
            · obtain ⟨b3, o3, v, hvk, hae, hcv⟩ := (hv.gb hgb4 hsep).at (i := k) (by have := hvlH.out; omega)
              injection hae with hae
              injection hae with hae1 hae2
              subst hae1 hae2
              obtain ⟨u, huk⟩ : ∃ z, W2[k]? = some z := ⟨_, List.getElem?_eq_getElem (by have := t4H.out.1; omega)⟩
              have huk' := (hS3H.out.cell (Nat.le_refl k)).trans huk
              have hcu := hwn3.at hAH.out huk'
              have hfz := hwn3.frozen (j + k)
              have lv : v < 4294967296 := hvB.at hvk
              have lu : u < 4294967296 := t4H.out.2.1.at huk
              have hstep := Lib.hid (hS3H.out.step huk hvk hvB)
              have hset := Lib.hid (hwn3.set (i := k) hAH.out (by have := hS3H.out.1; have := t4H.out.1; omega) (rfl : (((u + v + oo) % B32 : Nat) : Int) = _))
              clear huk huk' hvk
              have j0 : ((k : Nat) : Int) < ((m + 3 : Nat) : Int) := by omega
              have j1 : ((k : Nat) : Int) < ((m + 2 : Nat) : Int) := by omega
              go_wp2_with fail
              go_region_with (first | (go_at_call 81; (with_reducible refine (add32_any u v oo _ lu lv hoo).mono ?_); rintro e w1 ⟨rfl, rfl⟩))
              all_goals
                go_wp2_with fail
                go_roundw
                case rel =>
                  refine ⟨k + 1, _, _, by omega, by go_num, ?_, hstep.out, Win.drew hset.out, gbdrew (gbset hgb4 _ _)⟩
                  rfl
                case measure => simp [intOf]; omega
            · have hkm : k = m + 2 := by omega
              subst hkm
              have hu1' := (hS3H.out.cell (Nat.le_refl (m + 2))).trans t3H.out
              have hcu := hwn3.at hAH.out hu1'
              have hfz := hwn3.frozen (j + (m + 2))
              have hz1 : sdig u1 cc bb < 4294967296 := t4H.out.2.1.at t3H.out
              have hfin := Lib.hid (back_guess hS3H.out hvlH.out t4H.out.1 t3H.out hvB t4H.out.2.1 rfl t5H.out hgqH.out hV0.out)
              clear hu1'
              generalize sdig u1 cc bb = z at *
              have hset := Lib.hid (hwn3.set (i := m + 2) (z := ((z : Int) + oo) % 4294967296) (x := (z + oo) % B32) hAH.out (by have := hS3H.out.1; have := t4H.out.1; omega) (by unfold B32; omega))
              go_wp2_with fail
              go_ret
              refine ⟨ret_int ?_, _, hset.out, by rw [hfin.out.2.1, hWH.out], hfin.out.2.2.1, hfin.out.2.2.2, gbset hgb4 _ _⟩
              have := hfin.out.1
              rw [show val B32 W / val B32 vs = gg - 1 by omega]
              omega

end Go.Proofs.Ytkecdjdggkpdpab

/- The long division, limb by limb. Plain numbers and lists. -/
namespace Go.Proofs.Ytkecdjdggkpdpab

/-- What is left of X when the quotient's limbs from k on are known. -/
def PartInv (X V m D : Nat) (us qs : List Nat) (k : Nat) : Prop :=
  us.length = D + m + 3 ∧ Lt B32 us ∧ qs.length = D + 1 ∧ Lt B32 qs ∧ val B32 us + B32 ^ k * val B32 (qs.drop k) * V = X ∧ val B32 us < V * B32 ^ k

theorem PartInv.win {X V m D j : Nat} {us qs : List Nat} (h : PartInv X V m D us qs (j + 1)) (hj : j ≤ D) (hV : V < B32 ^ (m + 2)) :
    ∃ A W C, us = A ++ (W ++ C) ∧ A.length = j ∧ W.length = m + 3 ∧ Lt B32 A ∧ Lt B32 W ∧ val B32 C = 0 ∧ Lt B32 C ∧ val B32 W < V * B32 ∧ val B32 us = val B32 A + B32 ^ j * val B32 W := by
  obtain ⟨h1, h2, h3, h4, h5, h6⟩ := h
  have hB : 0 < B32 := by unfold B32; omega
  have hP : 0 < B32 ^ j := Nat.pow_pos hB
  have e1 : us = us.take j ++ ((us.drop j).take (m + 3) ++ (us.drop j).drop (m + 3)) := by
    rw [List.take_append_drop, List.take_append_drop]
  have l1 : (us.take j).length = j := by rw [List.length_take]; omega
  have l2 : ((us.drop j).take (m + 3)).length = m + 3 := by rw [List.length_take, List.length_drop]; omega
  have e2 : val B32 us = val B32 (us.take j) + B32 ^ j * (val B32 ((us.drop j).take (m + 3)) + B32 ^ (m + 3) * val B32 ((us.drop j).drop (m + 3))) := by
    conv => lhs; rw [e1]
    rw [val_append, val_append, l1, l2]
  have hC : val B32 ((us.drop j).drop (m + 3)) = 0 := by
    rcases Nat.eq_zero_or_pos (val B32 ((us.drop j).drop (m + 3))) with h0 | h0
    · exact h0
    · exfalso
      have a1 : B32 ^ j * (B32 ^ (m + 3) * 1) ≤ B32 ^ j * (val B32 ((us.drop j).take (m + 3)) + B32 ^ (m + 3) * val B32 ((us.drop j).drop (m + 3))) :=
        Nat.mul_le_mul_left _ (by have := Nat.mul_le_mul_left (B32 ^ (m + 3)) h0; omega)
      have a2 : V * B32 ^ (j + 1) < B32 ^ (m + 2) * B32 ^ (j + 1) := Nat.mul_lt_mul_of_pos_right hV (Nat.pow_pos hB)
      have a3 : B32 ^ (m + 2) * B32 ^ (j + 1) = B32 ^ j * (B32 ^ (m + 3) * 1) := by
        rw [Nat.mul_one, ← Nat.pow_add, ← Nat.pow_add]; congr 1; omega
      omega
  rw [hC, Nat.mul_zero, Nat.add_zero] at e2
  refine ⟨_, _, _, e1, l1, l2, h2.take j, (h2.drop j).take _, hC, (h2.drop j).drop _, ?_, e2⟩
  have a1 : B32 ^ j * val B32 ((us.drop j).take (m + 3)) < B32 ^ j * (V * B32) := by
    rw [Nat.pow_succ, Nat.mul_comm (B32 ^ j) B32, ← Nat.mul_assoc, Nat.mul_comm (V * B32)] at h6
    omega
  exact Nat.lt_of_mul_lt_mul_left a1

theorem PartInv.step {X V m D j : Nat} {A W C W' qs : List Nat} (h : PartInv X V m D (A ++ (W ++ C)) qs (j + 1)) (hj : j ≤ D) (hA : A.length = j) (hW : W.length = m + 3) (hW' : W'.length = m + 3)
    (hAB : Lt B32 A) (hCB : Lt B32 C) (hWB' : Lt B32 W') (hC : val B32 C = 0) (hv : val B32 W' = val B32 W % V) (hq : val B32 W < V * B32) (hV : 0 < V) :
    PartInv X V m D (A ++ (W' ++ C)) (qs.set j (val B32 W / V)) j := by
  obtain ⟨h1, h2, h3, h4, h5, h6⟩ := h
  have hB : 0 < B32 := by unfold B32; omega
  have hqB : val B32 W / V < B32 := by rw [Nat.div_lt_iff_lt_mul hV, Nat.mul_comm]; exact hq
  have e1 : ∀ Z : List Nat, Z.length = m + 3 → val B32 (A ++ (Z ++ C)) = val B32 A + B32 ^ j * val B32 Z := fun Z hZ => by
    rw [val_append, val_append, hC, hA]; simp
  rw [e1 W hW] at h5
  refine ⟨by simp [hA, hW', hW] at h1 ⊢; omega, ?_, by simpa using h3, h4.set _ _ hqB, ?_, ?_⟩
  · intro x hx
    rcases List.mem_append.1 hx with hx | hx
    · exact hAB x hx
    · rcases List.mem_append.1 hx with hx | hx
      · exact hWB' x hx
      · exact hCB x hx
  · rw [e1 W' hW', hv, val_drop B32 _ j (val B32 W / V) (List.getElem?_set_self (by omega)), val_set_drop _ _ _ _ _ (by omega), ← h5]
    have e := Nat.div_add_mod (val B32 W) V
    have e3 : B32 ^ j * val B32 W = B32 ^ j * (val B32 W % V) + B32 ^ j * (val B32 W / V) * V := by
      rw [Nat.mul_assoc, Nat.mul_comm (val B32 W / V) V, ← Nat.mul_add]
      congr 1
      omega
    rw [e3, Nat.pow_succ, Nat.mul_add, Nat.add_mul, Nat.mul_assoc (B32 ^ j) B32]
    omega
  · rw [e1 W' hW', hv]
    have a1 := val_lt A hAB
    rw [hA] at a1
    have a2 : B32 ^ j * (val B32 W % V + 1) ≤ B32 ^ j * V := Nat.mul_le_mul_left _ (Nat.mod_lt _ hV)
    rw [Nat.mul_add] at a2
    rw [Nat.mul_comm V]
    omega

theorem PartInv.done {x y s m D : Nat} {us qs : List Nat} (h : PartInv (x * 2 ^ s) (y * 2 ^ s) m D us qs 0) (hV : y * 2 ^ s < B32 ^ (m + 2)) :
    val B32 qs = x / y ∧ val B32 (us.take (m + 2)) / 2 ^ s = x % y := by
  obtain ⟨h1, h2, h3, h4, h5, h6⟩ := h
  rw [Nat.pow_zero, Nat.one_mul, List.drop_zero] at h5
  rw [Nat.pow_zero, Nat.mul_one] at h6
  have hB : 0 < B32 := by unfold B32; omega
  have hs : 0 < 2 ^ s := Nat.pow_pos (by omega)
  have hV0 : 0 < y * 2 ^ s := by omega
  have eq : val B32 qs = (x * 2 ^ s) / (y * 2 ^ s) := by
    rw [← h5, Nat.add_mul_div_right _ _ hV0, Nat.div_eq_of_lt h6, Nat.zero_add]
  have er : val B32 us = (x * 2 ^ s) % (y * 2 ^ s) := by
    rw [← h5, Nat.add_mul_mod_self_right, Nat.mod_eq_of_lt h6]
  refine ⟨by rw [eq, Nat.mul_div_mul_right _ _ hs], ?_⟩
  rw [val_take_mod us h2 _ (by omega), Nat.mod_eq_of_lt (by omega), er, Nat.mul_mod_mul_right, Nat.mul_div_cancel _ hs]

end Go.Proofs.Ytkecdjdggkpdpab
