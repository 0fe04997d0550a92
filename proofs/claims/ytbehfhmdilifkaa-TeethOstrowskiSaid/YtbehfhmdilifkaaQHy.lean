/- Hy -/
import Derived.Test.YtbehfhmdilifkaaQHx
set_option linter.unusedVariables false
/- Walk of the reference's Number. -/
namespace Go.Proofs.Ytbehfhmdilifkaa
open Go Go.RowKit Go.Proofs

def NumR (T Q : List Nat) (Y : List Int) (w : World) (e : Ending) (w' : World) : Prop :=
  (¬ VY T Y ∧ e = .returned (.tuple #[.int .i64 0, .bool false]) ∧ Below w.heap.size w w') ∨
  ∃ C, Y = zN C ∧ VY T Y ∧ e = .returned (.tuple #[.int .i64 (sumQ Q C : Nat), .bool true]) ∧ Below w.heap.size w w'
theorem snoc_last {Y : List Int} {C : List Nat} {k j : Nat} {z : Int} (h : Y.take k = zN C) (hk : k = j + 1) (hz : Y[j]? = some z) : ∃ d : Nat, z = (d : Int) ∧ C[j]? = some d := by
  have h1 : (Y.take k)[j]? = some z := by rw [List.getElem?_take_of_lt (by omega), hz]
  rw [h] at h1
  unfold zN at h1
  rw [List.getElem?_map] at h1
  obtain ⟨d, hd, rfl⟩ := Option.map_eq_some_iff.1 h1
  exact ⟨d, rfl, hd⟩
section
attribute [local go_sem] undef
set_option maxRecDepth 100000 in
set_option maxHeartbeats 12800000 in
theorem numR2_any (ao bo qo : Option Addr) (n c m d c2 : Nat) (X Y : List Int) (Q : List Nat) (w : World) (hI : IZ w ao X) (hn : X.length = n) (hJ : IZ w bo Y) (hm : Y.length = m) (hm2 : m ≤ 1000000) (hQI : IZ w qo (nzT Q)) (hD : den X = some Q) :
    Calls Try.prog 50 #[.slice ao n c, .slice qo n c2, .slice bo m d] w (NumR (tnX X) Q Y w) := by
  obtain ⟨T, hT, hC, hn2, hn20, hQl⟩ := den_some hD
  rw [hn] at hn2 hn20 hQl
  have hTn := tnX_of hT
  rw [hTn]
  have hall := den_all hD
  obtain ⟨K, hK⟩ : ∃ K, n - 1 = K := ⟨_, rfl⟩
  have hKI : (n : Int) - 1 = (K : Int) := by omega
  have hTl : T.length = K := by
    have := congrArg List.length hT
    simp at this; omega
  have hT6 : ∀ a ∈ T, a ≤ 1000000 := fun a ha => by
    have hd := hD
    unfold den at hd
    split at hd
    · rcases hgo : qGoZ 0 1 X.tail with _ | R
      · rw [hgo] at hd; cases hd
      · refine Classical.byContradiction fun hno => ?_
        have := qGoZ_bad (last := 0) (q := 1) (l := X.tail) ⟨(a : Int), by rw [hT]; exact List.mem_map.2 ⟨a, ha, rfl⟩, by omega⟩
        rw [this] at hgo; cases hgo
    · cases hd
  by_cases hmK : m = K
  · have hmKI : ((m : Int) != (K : Int)) = false := by simp; omega
    have hQH := Lib.hid hQl
    have hKe : Hid (K + 1 = n) := by show _ = _; omega
    have hK1 : 1 ≤ K := by omega
    have hK19 : K ≤ 19 := by omega
    obtain ⟨bx, ox, rfl, _⟩ := hI.at (i := 0) (by omega)
    obtain ⟨bc, oc, rfl, _⟩ := hJ.at (i := 0) (by omega)
    obtain ⟨bq, oq, rfl, _⟩ := hQI.at (i := 0) (by rw [nzT_length]; omega)
    have hIH := Lib.hid hI
    have hJH := Lib.hid hJ
    have hQIH := Lib.hid hQI
    have hXl := Lib.hid hn
    have hYl := Lib.hid hm
    have hall2 := Lib.hid hall
    have hT6H := Lib.hid hT6
    have hTlH := Lib.hid hTl
    have hTH := Lib.hid hT
    have hKl2 : (K : Int) = (m : Int) := by omega
    subst hmK
    clear hI hJ hQI hn hm hD hT hC hQl hall hK hT6 hTl hTn
    go_enter Try.func50, Try.ntmps50
    go_wp2_with (fail)
    go_loopg [8, 9, 10] m (fun gk sv iv xv wr => ∃ (k s : Nat) (C : List Nat), sv = .int .i64 (s : Nat) ∧ iv = .int .i64 ((k + 1 : Nat) : Int) ∧ k + gk = m ∧ C.length = k ∧ Y.take k = zN C ∧ Val (T.take k).reverse C.reverse ∧ nbR (Q.take k).reverse C.reverse = s ∧ s ≤ k * 1000000000000000 ∧ Below w.heap.size w wr)
    case atStart => exact ⟨0, 0, [], rfl, rfl, by omega, rfl, rfl, Val.nil, rfl, by omega, Below.refl _ _⟩
    case round =>
      obtain ⟨k, s, C, rfl, rfl, hkg, hCl, hYk, hvc, hs, hsl, hbl⟩ := hrel
      have hblH := Lib.hid hbl
      clear hbl
      obtain ⟨i, hi⟩ : ∃ i, k + 1 = i := ⟨_, rfl⟩
      rw [hi]
      have hiH := Lib.hid hi
      by_cases hkm : k < m
      · have hiI : (i : Int) < (n : Int) := by have := hKe.out; omega
        have hkl : k ≤ 19 := by omega
        have hil : i ≤ 20 := by omega
        have hsl2 : s ≤ 19000000000000000 := by omega
        obtain ⟨y, hy⟩ : ∃ y, Y[k]? = some y := ⟨_, List.getElem?_eq_getElem (by rw [hYl.out]; exact hkm)⟩
        obtain ⟨a, ha⟩ : ∃ a, T[k]? = some a := ⟨_, List.getElem?_eq_getElem (by rw [hTlH.out]; exact hkm)⟩
        obtain ⟨q, hq⟩ : ∃ q, Q[k]? = some q := ⟨_, List.getElem?_eq_getElem (by rw [hQH.out]; have := hKe.out; omega)⟩
        have hal := hT6H.out a (List.mem_of_getElem? ha)
        have hql := (hall2.out q (List.mem_of_getElem? hq)).2
        have cy := iz_int (i := k) (x := y) (hJH.out.below hblH.out) (by rw [hYl.out]; exact hkm) (by simp [List.getD, hy])
        have cx := iz_int (i := k + 1) (x := (a : Int)) (hIH.out.below hblH.out) (by rw [hXl.out]; have := hKe.out; omega) (by
          have h1 : X.tail[k]? = some (a : Int) := by rw [hTH.out, List.getElem?_map, ha]; rfl
          rw [List.getElem?_tail] at h1
          simp [List.getD, h1])
        rw [hi] at cx
        have cq := iz_nat (i := k) (x := q) (hQIH.out.below hblH.out) (by rw [hQH.out]; have := hKe.out; omega) (by simp [List.getD, hq])
        have hik : (i : Int) - 1 = (k : Int) := by omega
        have hi0 : (0 : Int) ≤ (i : Int) := by omega
        have hk0 : (0 : Int) ≤ (k : Int) := by omega
        have hkn : (k : Int) < (n : Int) := by have := hKe.out; omega
        have hkm2 : (k : Int) < (m : Int) := by omega
        by_cases hv : 0 ≤ y ∧ y ≤ (a : Int)
        · obtain ⟨x, rfl⟩ : ∃ x : Nat, y = (x : Int) := ⟨y.toNat, by omega⟩
          have hxa : x ≤ a := by omega
          have hxl : x ≤ 1000000 := by omega
          have d1 : decide ((x : Int) < 0) = false := decide_eq_false (by omega)
          have d2 : decide ((a : Int) < (x : Int)) = false := decide_eq_false (by omega)
          have d3 : decide (a < x) = false := decide_eq_false (by omega)
          obtain ⟨V, hV⟩ : ∃ V, x * q = V := ⟨_, rfl⟩
          have hVI := mulN hV
          have hVl : V ≤ 1000000000000000 := by rw [← hV]; exact Nat.le_trans (Nat.mul_le_mul hxl hql) (by decide)
          obtain ⟨Z, hZ⟩ : ∃ Z, s + V = Z := ⟨_, rfl⟩
          have hsI : (s : Int) + (V : Int) = (Z : Int) := by omega
          have hZl : Z ≤ (k + 1) * 1000000000000000 := by omega
          have hZl2 : Z ≤ 20000000000000000 := by omega
          have hnx : Hid (nbR (Q.take (k + 1)).reverse (C ++ [x]).reverse = Z) := by show _ = _; rw [nbR_take hq hCl, hs, hV]; omega
          have hYn := Lib.hid (zN_snoc hYk hy)
          have hCl2 : Hid ((C ++ [x]).length = k + 1) := by show _ = _; rw [List.length_append, hCl]; rfl
          clear hv
          by_cases hk : k = 0
          · have f1 : ((i : Int) == 1) = true := by simp; omega
            have f2 : decide ((1 : Int) < (i : Int)) = false := decide_eq_false (by omega)
            have f3 : decide (1 < i) = false := decide_eq_false (by omega)
            have f1n : (i == 1) = true := by simp; omega
            by_cases hxe : x = a
            · have g1 : ((x : Int) == (a : Int)) = true := by simp; omega
              have hno : Hid (¬ VY T Y) := by
                show ¬ _
                intro h
                subst hk
                have := h.head hy ha
                omega
              clear hk
              clear hy ha hq hs hYk hCl hV hZ hi hvc
              go_wp2_with (fail)
              go_ret2
              exact .inl ⟨hno.out, rfl, hblH.out⟩
            · have g1 : ((x : Int) == (a : Int)) = false := by simp; omega
              have g2 : ¬ (x : Int) = (a : Int) := by omega
              have hvn0 : Val (T.take (k + 1)).reverse (C ++ [x]).reverse := Val.next hvc hCl ha hxa (fun _ => by omega) (fun j d h => by omega)
              clear hk
              have hvn := Lib.hid hvn0
              clear hvn0 hy ha hq hs hYk hCl hV hZ hi hvc
              go_wp2_with (fail)
              go_roundg (gk - 1)
              case measure => omega
              case rel => exact ⟨k + 1, Z, C ++ [x], rfl, by have := hiH.out; go_num, by omega, hCl2.out, hYn.out, hvn.out, hnx.out, hZl, hblH.out⟩
          · obtain ⟨j, hj⟩ : ∃ j, k = j + 1 := ⟨k - 1, by omega⟩
            have f1 : ((i : Int) == 1) = false := by simp; omega
            have f2 : decide ((1 : Int) < (i : Int)) = true := decide_eq_true (by omega)
            have f3 : decide (1 < i) = true := decide_eq_true (by omega)
            have f1n : (i == 1) = false := by simp; omega
            have f1m : ¬ (i : Int) = 1 := by omega
            obtain ⟨z, hz⟩ : ∃ z, Y[j]? = some z := ⟨_, List.getElem?_eq_getElem (by rw [hYl.out]; omega)⟩
            obtain ⟨u, rfl, hu⟩ := snoc_last hYk hj hz
            have cz := iz_int (i := j) (x := (u : Int)) (hJH.out.below hblH.out) (by rw [hYl.out]; omega) (by simp [List.getD, hz])
            have hij : (i : Int) - 2 = (j : Int) := by omega
            have hj0 : (0 : Int) ≤ (j : Int) := by omega
            have hjm : (j : Int) < (m : Int) := by omega
            by_cases hxe : x = a
            · have g1 : ((x : Int) == (a : Int)) = true := by simp; omega
              by_cases hu0 : u = 0
              · have u1 : ((u : Int) != 0) = false := by simp; omega
                have u2 : (u : Int) = 0 := by omega
                have hvn0 : Val (T.take (k + 1)).reverse (C ++ [x]).reverse := Val.next hvc hCl ha hxa (fun h => absurd h hk) (fun j' d h hd _ => by
                  have : j' = j := by omega
                  subst this
                  rw [hu] at hd; injection hd with hd; omega)
                subst hu0
                subst hxe
                clear hk hz hu hj
                have hvn := Lib.hid hvn0
                clear hvn0 hy ha hq hs hYk hCl hV hZ hi hvc
                go_wp2_with (fail)
                go_roundg (gk - 1)
                case measure => omega
                case rel => exact ⟨k + 1, Z, C ++ [x], rfl, by have := hiH.out; go_num, by omega, hCl2.out, hYn.out, hvn.out, hnx.out, hZl, hblH.out⟩
              · have u1 : ((u : Int) != 0) = true := by simp; omega
                have u2 : ¬ (u : Int) = 0 := by omega
                have hno : Hid (¬ VY T Y) := by
                  show ¬ _
                  intro h
                  subst hj
                  have := h.prev hy hz ha (by omega)
                  omega
                clear hk hz hu hj
                clear hy ha hq hs hYk hCl hV hZ hi hvc
                go_wp2_with (fail)
                go_ret2
                exact .inl ⟨hno.out, rfl, hblH.out⟩
            · have g1 : ((x : Int) == (a : Int)) = false := by simp; omega
              have g2 : ¬ (x : Int) = (a : Int) := by omega
              have hvn0 : Val (T.take (k + 1)).reverse (C ++ [x]).reverse := Val.next hvc hCl ha hxa (fun h => absurd h hk) (fun j' d h hd he => absurd he hxe)
              clear hk hz hu hj
              have hvn := Lib.hid hvn0
              clear hvn0 hy ha hq hs hYk hCl hV hZ hi hvc
              go_wp2_with (fail)
              go_roundg (gk - 1)
              case measure => omega
              case rel => exact ⟨k + 1, Z, C ++ [x], rfl, by have := hiH.out; go_num, by omega, hCl2.out, hYn.out, hvn.out, hnx.out, hZl, hblH.out⟩
        · have hno : Hid (¬ VY T Y) := by
            show ¬ _
            intro h
            exact hv (h.range hy ha)
          by_cases hy0 : y < 0
          · have d1 : decide (y < 0) = true := decide_eq_true hy0
            clear hv hy ha hq hs hYk hCl hi hvc
            go_wp2_with (fail)
            go_ret2
            exact .inl ⟨hno.out, rfl, hblH.out⟩
          · have d1 : decide (y < 0) = false := decide_eq_false hy0
            have hya : (a : Int) < y := by omega
            have d2 : decide ((a : Int) < y) = true := decide_eq_true hya
            clear hv hy ha hq hs hYk hCl hi hvc
            go_wp2_with (fail)
            go_ret2
            exact .inl ⟨hno.out, rfl, hblH.out⟩
      · have hiI : ¬ (i : Int) < (n : Int) := by have := hKe.out; omega
        have hke : k = m := by omega
        subst hke
        rw [List.take_of_length_le (by rw [hYl.out]; omega)] at hYk
        subst hYk
        rw [List.take_of_length_le (by rw [hTlH.out]; omega)] at hvc
        have hyes : Hid (VY T (zN C)) := ⟨C, rfl, hvc⟩
        have hsum : Hid (sumQ Q C = s) := by show _ = _; unfold sumQ; rw [hCl]; exact hs
        clear hs hCl hvc hi
        go_wp2_with (fail)
        go_ret2
        exact .inr ⟨C, rfl, hyes.out, by rw [hsum.out]; rfl, hblH.out⟩
  · have hmKI : ((m : Int) != (K : Int)) = true := by simp; omega
    have hno : Hid (¬ VY T Y) := by
      show ¬ _
      intro h
      have := h.len
      omega
    clear hI hJ hQI hn hm hD hT hC hQl hall hK hT6 hTl hTn hmK
    go_enter Try.func50, Try.ntmps50
    go_wp2_with (fail)
    go_ret2
    exact .inl ⟨hno.out, rfl, Below.refl _ _⟩
end
end Go.Proofs.Ytbehfhmdilifkaa
