/- Ih -/
import Derived.Test.YtbehfhmdilifkaaQHf
import Derived.Test.YtbehfhmdilifkaaQHp
set_option linter.unusedVariables false
/- Beats: balance; the reference's Bs; for the law TeethRayleigh. -/
namespace Go.Proofs.Ytbehfhmdilifkaa
open Go Go.RowKit Go.Proofs

theorem sq_ltR {a b : Nat} (h : a * a < b * b) : a < b := by
  rcases Nat.lt_or_ge a b with h1 | h1
  · exact h1
  · have := Nat.mul_le_mul h1 h1; omega
theorem sq_leR {a b : Nat} (h : a * a ≤ b * b) : a ≤ b := by
  rcases Nat.lt_or_ge b a with h1 | h1
  · have := Nat.mul_lt_mul_of_lt_of_le h1 (Nat.le_of_lt h1) (by omega : 0 < a); omega
  · exact h1
theorem add_ltR {a b c e d : Nat} (h1 : a * a * d < b * b) (h2 : c * c * d < e * e) : (a + c) * (a + c) * d < (b + e) * (b + e) := by
  have h3 : a * c * d ≤ b * e := by
    refine sq_leR ?_
    have e1 : a * c * d * (a * c * d) = (a * a * d) * (c * c * d) := by simp [Nat.mul_comm, Nat.mul_left_comm]
    have e2 : b * e * (b * e) = (b * b) * (e * e) := by simp [Nat.mul_comm, Nat.mul_left_comm]
    rw [e1, e2]
    exact Nat.mul_le_mul (Nat.le_of_lt h1) (Nat.le_of_lt h2)
  have e3 : (a + c) * (a + c) * d = a * a * d + 2 * (a * c * d) + c * c * d := by
    rw [Nat.mul_add, Nat.add_mul, Nat.add_mul, Nat.add_mul, Nat.add_mul, Nat.add_mul, Nat.mul_comm c a]; omega
  have e4 : (b + e) * (b + e) = b * b + 2 * (b * e) + e * e := by
    rw [Nat.mul_add, Nat.add_mul, Nat.add_mul, Nat.mul_comm e b]; omega
  omega
theorem add_gtR {a b c e d : Nat} (h1 : b * b < a * a * d) (h2 : e * e < c * c * d) : (b + e) * (b + e) < (a + c) * (a + c) * d := by
  have h3 : b * e ≤ a * c * d := by
    refine sq_leR ?_
    have e1 : a * c * d * (a * c * d) = (a * a * d) * (c * c * d) := by simp [Nat.mul_comm, Nat.mul_left_comm]
    have e2 : b * e * (b * e) = (b * b) * (e * e) := by simp [Nat.mul_comm, Nat.mul_left_comm]
    rw [e1, e2]
    exact Nat.mul_le_mul (Nat.le_of_lt h1) (Nat.le_of_lt h2)
  have e3 : (a + c) * (a + c) * d = a * a * d + 2 * (a * c * d) + c * c * d := by
    rw [Nat.mul_add, Nat.add_mul, Nat.add_mul, Nat.add_mul, Nat.add_mul, Nat.add_mul, Nat.mul_comm c a]; omega
  have e4 : (b + e) * (b + e) = b * b + 2 * (b * e) + e * e := by
    rw [Nat.mul_add, Nat.add_mul, Nat.add_mul, Nat.mul_comm e b]; omega
  omega
theorem bst_next (d N : Nat) : (isB d N = true → bst d (N + 1) = ((bst d N).1, (bst d N).2 + 1)) ∧ (isB d N = false → bst d (N + 1) = ((bst d N).1 + 1, (bst d N).2)) := by
  obtain ⟨s, hS⟩ : ∃ s, bst d N = s := ⟨_, rfl⟩
  have e : bst d (N + 1) = if (s.1 + 1) * (s.1 + 1) * d < (s.2 + 1) * (s.2 + 1) then (s.1 + 1, s.2) else (s.1, s.2 + 1) := by
    simp only [bst, hS]
  constructor
  · intro h
    have hge : ¬ ltA d (bst d N) := by unfold isB at h; simpa using h
    unfold ltA at hge
    rw [hS] at hge
    rw [e, if_neg hge, hS]
  · intro h
    have hlt : ltA d (bst d N) := by unfold isB at h; simpa using h
    unfold ltA at hlt
    rw [hS] at hlt
    rw [e, if_pos hlt, hS]
theorem bst_up2 (d i : Nat) : ∀ m, (bst d i).2 ≤ (bst d (i + m)).2 ∧ (bst d (i + m)).2 ≤ (bst d i).2 + m
  | 0 => ⟨Nat.le_refl _, Nat.le_refl _⟩
  | m + 1 => by
    have ih := bst_up2 d i m
    have hn := bst_next d (i + m)
    rw [show i + (m + 1) = i + m + 1 by omega]
    cases h : isB d (i + m) with
    | true => rw [hn.1 h]; simp only; omega
    | false => rw [hn.2 h]; simp only; omega
/-- The number of b in the part of m letters from i on. -/
def bsIn (d i m : Nat) : Nat := (bst d (i + m)).2 - (bst d i).2
theorem bsIn_zero (d i : Nat) : bsIn d i 0 = 0 := by simp [bsIn]
theorem bsIn_succ (d i m : Nat) : bsIn d i (m + 1) = bsIn d i m + if isB d (i + m) = true then 1 else 0 := by
  unfold bsIn
  have hu := bst_up2 d i m
  have hn := bst_next d (i + m)
  rw [show i + (m + 1) = i + m + 1 by omega]
  cases h : isB d (i + m) with
  | true => rw [hn.1 h]; simp only [if_true]; omega
  | false => rw [hn.2 h]; simp
theorem bsIn_le (d i m : Nat) : bsIn d i m ≤ m := by
  have := bst_up2 d i m
  unfold bsIn; omega
theorem balanced {d : Nat} (hd : 0 < d) (hs : ¬ fl d * fl d = d) (i k m : Nat) : bsIn d k m ≤ bsIn d i m + 1 := by
  rcases Nat.lt_or_ge (bsIn d i m + 1) (bsIn d k m) with h | h
  · exfalso
    have i0 := bst_inv hd hs i
    have i1 := bst_inv hd hs (i + m)
    have k0 := bst_inv hd hs k
    have k1 := bst_inv hd hs (k + m)
    have ui := bst_up2 d i m
    have uk := bst_up2 d k m
    unfold bsIn at h
    obtain ⟨x, hx⟩ : ∃ x, (bst d i) = x := ⟨_, rfl⟩
    obtain ⟨x', hx'⟩ : ∃ x, (bst d (i + m)) = x := ⟨_, rfl⟩
    obtain ⟨y, hy⟩ : ∃ x, (bst d k) = x := ⟨_, rfl⟩
    obtain ⟨y', hy'⟩ : ∃ x, (bst d (k + m)) = x := ⟨_, rfl⟩
    rw [hx] at i0 ui h; rw [hx'] at i1 ui h; rw [hy] at k0 uk h; rw [hy'] at k1 uk h
    have A := add_ltR i1.lo k0.lo
    have B := add_gtR i0.hi k1.hi
    have s0 := i0.sum; have s1 := i1.sum; have t0 := k0.sum; have t1 := k1.sum
    have h1 : x'.2 + 1 + (y.2 + 1) ≤ x.2 + y'.2 := by omega
    have h2 := Nat.mul_le_mul h1 h1
    have h3 : x.1 + 1 + (y'.1 + 1) ≤ x'.1 + y.1 := by omega
    have h4 := Nat.mul_le_mul_right d (Nat.mul_le_mul h3 h3)
    omega
  · exact h
theorem btS_size (d n : Nat) : (btS d n).size = n := by
  show ((btL d n).map UInt8.ofNat).toArray.size = n
  simp [btL]
theorem btS_at (d n i : Nat) (h : i < (btS d n).size) : ((btS d n)[i]'h).toNat = if isB d i = true then 98 else 97 := by
  have hi : i < n := by rw [btS_size] at h; exact h
  show ((((btL d n).map UInt8.ofNat).toArray)[i]'(by simpa [btL] using hi)).toNat = _
  simp only [List.getElem_toArray, List.getElem_map, btL, List.getElem_range]
  split <;> rfl
theorem part_size {s : ByteArray} {i m J n : Nat} (hn : s.size = n) (hJ : i + m = J) (h : J ≤ n) : (s.extract i J).size = m := by
  rw [ByteArray.size_extract, hn]; omega
theorem part_at {d n : Nat} {i m J : Nat} (hJ : i + m = J) (h : J ≤ n) (k : Nat) (hk : k < ((btS d n).extract i J).size) : (((btS d n).extract i J)[k]'hk).toNat = if isB d (i + k) = true then 98 else 97 := by
  rw [ByteArray.getElem_extract]
  exact btS_at _ _ _ _
def RetBs (w : World) (n : Nat) (e : Ending) (w' : World) : Prop := e = .returned (.int .i64 (n : Nat)) ∧ w = w'
section
attribute [local go_sem] undef
set_option maxRecDepth 100000 in
set_option maxHeartbeats 1600000 in
theorem bs_any (s : ByteArray) (f : Nat → Nat) (w : World) (n : Nat) (hn : s.size = n) (hl : n ≤ 4611686018427387904) (h0 : f 0 = 0) (hf : ∀ k (hk : k < s.size), ((s[k]'hk).toNat = 98 ∧ f (k + 1) = f k + 1) ∨ ((s[k]'hk).toNat = 97 ∧ f (k + 1) = f k)) (hle : ∀ k, f k ≤ k) :
    Calls Try.prog 42 #[.string s] w (RetBs w (f n)) := by
  have hfH := Lib.hid hf
  have hleH := Lib.hid hle
  clear hf hle
  go_enter Try.func42, Try.ntmps42
  go_wp2_with (fail)
  go_loopg [3, 4] n (fun gk nv iv wr => ∃ i : Nat, nv = .int .i64 (f i : Nat) ∧ iv = .int .i64 (i : Nat) ∧ i + gk = n ∧ wr = w)
  case atStart => exact ⟨0, by rw [h0]; rfl, rfl, by omega, rfl⟩
  case round =>
    obtain ⟨i, rfl, rfl, hig, rfl⟩ := hrel
    obtain ⟨F, hF⟩ : ∃ F, f i = F := ⟨_, rfl⟩
    have hFl : F ≤ i := by rw [← hF]; exact hleH.out i
    rw [hF]
    by_cases hin : i < n
    · have hins : i < s.size := by omega
      have hinI : (i : Int) < (s.size : Int) := by omega
      have hi0 : (0 : Int) ≤ (i : Int) := by omega
      rcases hfH.out i hins with ⟨hb, h2⟩ | ⟨hb, h2⟩
      · rw [hF] at h2
        have h2H := Lib.hid h2
        clear h2 hF
        go_wp2_with (fail)
        go_roundg (gk - 1)
        case measure => omega
        case rel => exact ⟨i + 1, by rw [h2H.out]; go_num, by go_num, by omega, rfl⟩
      · rw [hF] at h2
        have h2H := Lib.hid h2
        clear h2 hF
        go_wp2_with (fail)
        go_roundg (gk - 1)
        case measure => omega
        case rel => exact ⟨i + 1, by rw [h2H.out], by go_num, by omega, rfl⟩
    · have hins : ¬ i < s.size := by omega
      have hinI : ¬ (i : Int) < (s.size : Int) := by omega
      have hien : i = n := by omega
      rw [hien] at hF
      have hFH := Lib.hid hF
      clear hF hien
      go_wp2_with (fail)
      go_ret
      refine ⟨?_, rfl⟩
      rw [hFH.out]; rfl
end
end Go.Proofs.Ytbehfhmdilifkaa
