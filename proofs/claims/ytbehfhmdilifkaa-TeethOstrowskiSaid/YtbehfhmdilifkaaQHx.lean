/- Hx -/
import Derived.Test.YtbehfhmdilifkaaQHw
import Derived.Test.YtbehfhmdilifkaaQHv
import Derived.Shelf.Slices.Equal
set_option linter.unusedVariables false
/- Walk of Number. -/
namespace Go.Proofs.Ytbehfhmdilifkaa
open Go Go.RowKit Go.Proofs

theorem equalI (b1 o1 c b2 o2 d K : Nat) (xs ys : List Int) (r : Bool) (w : World) (h1 : IZ w (some ⟨b1, o1, none⟩) xs) (h2 : IZ w (some ⟨b2, o2, none⟩) ys) (hx : xs.length = K) (hy : ys.length = K) (hK : K ≤ 1000000) (hr : (xs == ys) = r) :
    Calls Try.prog 78 #[.slice (some ⟨b1, o1, none⟩) K c, .slice (some ⟨b2, o2, none⟩) K d] w (fun e w' => e = .returned (.bool r) ∧ Below w.heap.size w w') := by
  refine (Try.slices_Equal_int b1 o1 K c b2 o2 K d xs ys w (by omega) (by omega) (by omega) (by omega) (fun j hj => iz_int h1 hj rfl) (fun j hj => iz_int h2 hj rfl)).mono ?_
  rintro e w' ⟨rfl, q, rfl⟩
  rw [← hx, List.take_length, hx, ← hy, List.take_length, hr]
  exact ⟨rfl, bdn (Below.refl _ _)⟩
/-- The terms behind the first one. -/
def tnX (X : List Int) : List Nat := X.tail.map Int.toNat
theorem tnX_of {X : List Int} {T : List Nat} (h : X.tail = T.map fun x => ((x : Nat) : Int)) : tnX X = T := by
  unfold tnX; rw [h, List.map_map]; simp [Function.comp_def]
def sumQ (Q C : List Nat) : Nat := nbR (Q.take C.length).reverse C.reverse
def NumP (X Y : List Int) (w : World) (e : Ending) (w' : World) : Prop :=
  (den X = none ∧ e = .returned (.tuple #[.int .i64 0, .int .i64 1]) ∧ Below w.heap.size w w') ∨
  (∃ Q, den X = some Q ∧ ¬ VY (tnX X) Y ∧ e = .returned (.tuple #[.int .i64 0, .int .i64 2]) ∧ Below w.heap.size w w') ∨
  ∃ Q C, den X = some Q ∧ Y = zN C ∧ VY (tnX X) Y ∧ e = .returned (.tuple #[.int .i64 (sumQ Q C : Nat), .int .i64 0]) ∧ Below w.heap.size w w'
theorem zN_snoc {Y : List Int} {C : List Nat} {k c : Nat} (h : Y.take k = zN C) (hc : Y[k]? = some ((c : Nat) : Int)) : Y.take (k + 1) = zN (C ++ [c]) := by
  rw [List.take_add_one, h, hc]
  simp [zN]
section
attribute [local go_sem] undef
set_option maxRecDepth 100000 in
set_option maxHeartbeats 6400000 in
theorem numP_any (ao bo : Option Addr) (n c m d : Nat) (X Y : List Int) (w : World) (hI : IZ w ao X) (hn : X.length = n) (hnc : n ≤ c) (hJ : IZ w bo Y) (hm : Y.length = m) (hm2 : m ≤ 1000000) :
    Calls Try.prog 49 #[.slice ao n c, .slice bo m d] w (NumP X Y w) := by
  have hden := Lib.hid (denP_any ao n c X w hI hn hnc)
  cases hD : den X with
  | none =>
    have hcall : Hid (Calls Try.prog 76 #[.slice ao n c] w (fun e w' => e = .returned (.tuple #[.slice none 0 0, .bool false]) ∧ Below w.heap.size w w')) := hden.out.mono (fun e w' h => h.no hD)
    have hDH := Lib.hid hD
    clear hden hI hJ hn hm hD
    go_enter Try.func49, Try.ntmps49
    go_wp2_with (go_at_call 76; (with_reducible refine hcall.out.mono ?_); rintro e w1 ⟨rfl, hb⟩; have hb1 := Lib.hid hb; clear hb)
    go_ret2
    exact .inl ⟨hDH.out, rfl, hb1.out⟩
  | some Q =>
    obtain ⟨T, hT, hC, hn2, hn20, hQl⟩ := den_some hD
    rw [hn] at hn2 hn20 hQl
    have hTn := tnX_of hT
    have hcall : Hid (Calls Try.prog 76 #[.slice ao n c] w (fun e w' => ∃ g c, e = .returned (.tuple #[.slice (some ⟨g, 0, none⟩) n c, .bool true]) ∧ IZ w' (some ⟨g, 0, none⟩) (nzT Q) ∧ Below w.heap.size w w')) := hden.out.mono (fun e w' h => h.yes hD hQl)
    have hall := den_all hD
    obtain ⟨K, hK⟩ : ∃ K, n - 1 = K := ⟨_, rfl⟩
    have hKI : (n : Int) - 1 = (K : Int) := by omega
    have hTl : T.length = K := by
      have := congrArg List.length hT
      simp at this; omega
    have hT6 : ∀ a ∈ T, a ≤ 1000000 := fun a ha => by
      have h1 := hC
      have hd := hD
      unfold den at hd
      split at hd
      · rcases hgo : qGoZ 0 1 X.tail with _ | R
        · rw [hgo] at hd; cases hd
        · refine Classical.byContradiction fun hno => ?_
          have := qGoZ_bad (last := 0) (q := 1) (l := X.tail) ⟨(a : Int), by rw [hT]; exact List.mem_map.2 ⟨a, ha, rfl⟩, by omega⟩
          rw [this] at hgo; cases hgo
      · cases hd
    have hDH := Lib.hid hD
    by_cases hmK : m = K
    · have hmKI : ((m : Int) != (K : Int)) = false := by simp; omega
      obtain ⟨t, ht⟩ : ∃ t, topQ Q = t := ⟨_, rfl⟩
      have htK : Hid (Q.getD K 0 = t) := by show _ = _; rw [← ht]; unfold topQ; rw [hQl, hK]
      have hQH := Lib.hid hQl
      have hKe : Hid (K + 1 = n) := by show _ = _; omega
      have hKn2 : K < n := by omega
      have hKn : (K : Int) < (n : Int) := by omega
      have hK0 : (0 : Int) ≤ (K : Int) := by omega
      have hK1 : 1 ≤ K := by omega
      have hK19 : K ≤ 19 := by omega
      have htl : t ≤ 1000000000 := by
        rw [← htK.out, List.getD, List.getElem?_eq_getElem (by rw [hQl]; exact hKn2)]
        exact (hall _ (by simp)).2
      have htH := Lib.hid ht
      obtain ⟨bx, ox, rfl, _⟩ := hI.at (i := 0) (by omega)
      obtain ⟨bc, oc, rfl, _⟩ := hJ.at (i := 0) (by omega)
      have hIH := Lib.hid hI
      have hJH := Lib.hid hJ
      have hXl := Lib.hid hn
      have hYl := Lib.hid hm
      have hall2 := Lib.hid hall
      have hT6H := Lib.hid hT6
      have hTlH := Lib.hid hTl
      have hCH := Lib.hid hC
      have hTH := Lib.hid hT
      have hTnH := Lib.hid hTn
      have hKl2 : (K : Int) = (m : Int) := by omega
      subst hmK
      clear hden hI hJ hn hm hD hT hC hQl hall hK ht hT6 hTl hTn
      go_enter Try.func49, Try.ntmps49
      go_wp2_with (go_at_call 76; (with_reducible refine hcall.out.mono ?_); rintro e w1 ⟨g, cc, rfl, hI1, hb⟩; have hb1 := Lib.hid hb; have hI1H := Lib.hid hI1; clear hb hI1)
      go_loopg [8, 9, 10, 28] m (fun gk sv iv xv kv wr => ∃ (k s : Nat) (C : List Nat), sv = .int .i64 (s : Nat) ∧ kv = .int .i64 (k : Nat) ∧ k + gk = m ∧ C.length = k ∧ Y.take k = zN C ∧ nbR (Q.take k).reverse C.reverse = s ∧ s ≤ k * 1000000000000000 ∧ Below w1.heap.size w1 wr)
      case atStart => exact ⟨0, 0, [], rfl, rfl, by omega, rfl, rfl, rfl, by omega, Below.refl _ _⟩
      case round =>
        obtain ⟨k, s, C, rfl, rfl, hkg, hCl, hYk, hs, hsl, hbl⟩ := hrel
        have hblH := Lib.hid hbl
        clear hbl
        by_cases hkm : k < m
        · have hkI : (k : Int) < (m : Int) := by omega
          have hkl : k ≤ 19 := by omega
          have hsl2 : s ≤ 19000000000000000 := by omega
          obtain ⟨y, hy⟩ : ∃ y, Y[k]? = some y := ⟨_, List.getElem?_eq_getElem (by rw [hYl.out]; exact hkm)⟩
          obtain ⟨a, ha⟩ : ∃ a, T[k]? = some a := ⟨_, List.getElem?_eq_getElem (by rw [hTlH.out]; exact hkm)⟩
          obtain ⟨q, hq⟩ : ∃ q, Q[k]? = some q := ⟨_, List.getElem?_eq_getElem (by rw [hQH.out]; omega)⟩
          have hal := hT6H.out a (List.mem_of_getElem? ha)
          have hql := (hall2.out q (List.mem_of_getElem? hq)).2
          have cy := iz_int (i := k) (x := y) ((hJH.out.below hb1.out).below hblH.out) (by rw [hYl.out]; exact hkm) (by simp [List.getD, hy])
          have cx := iz_int (i := k + 1) (x := (a : Int)) ((hIH.out.below hb1.out).below hblH.out) (by rw [hXl.out]; omega) (by
            have h1 : X.tail[k]? = some (a : Int) := by rw [hTH.out, List.getElem?_map, ha]; rfl
            rw [List.getElem?_tail] at h1
            simp [List.getD, h1])
          have cq := iz_nat (i := k) (x := q) (hI1H.out.below hblH.out) (by rw [hQH.out]; omega) (by simp [List.getD, hq])
          rw [Nat.zero_add] at cq
          obtain ⟨k1, hk1⟩ : ∃ k1, k + 1 = k1 := ⟨_, rfl⟩
          rw [hk1] at cx
          have hk1I : (k : Int) + 1 = (k1 : Int) := by omega
          have hk10 : (0 : Int) ≤ (k1 : Int) := by omega
          have hk1n : (k1 : Int) < (n : Int) := by have := hKe.out; omega
          have hk0 : (0 : Int) ≤ (k : Int) := by omega
          have hkn : (k : Int) < (n : Int) := by have := hKe.out; omega
          have hk1l : k1 ≤ 20 := by omega
          by_cases hv : 0 ≤ y ∧ y ≤ (a : Int)
          · obtain ⟨x, rfl⟩ : ∃ x : Nat, y = (x : Int) := ⟨y.toNat, by omega⟩
            have hxa : x ≤ a := by omega
            have hxl : x ≤ 1000000 := by omega
            have d1 : decide ((x : Int) < 0) = false := decide_eq_false (by omega)
            have d2 : decide ((a : Int) < (x : Int)) = false := decide_eq_false (by omega)
            have d3 : decide (a < x) = false := decide_eq_false (by omega)
            obtain ⟨V, hV⟩ : ∃ V, x * q = V := ⟨_, rfl⟩
            have hVI := mulN hV
            have hVl : V ≤ 1000000000000000 := by rw [← hV]; exact Nat.le_trans (Nat.mul_le_mul hxl hql) (by decide)
            obtain ⟨Z, hZ⟩ : ∃ Z, s + V = Z := ⟨_, rfl⟩
            have hsI : (s : Int) + (V : Int) = (Z : Int) := by omega
            have hZl : Z ≤ (k + 1) * 1000000000000000 := by omega
            have hZl2 : Z ≤ 20000000000000000 := by omega
            have hnx : Hid (nbR (Q.take (k + 1)).reverse (C ++ [x]).reverse = Z) := by show _ = _; rw [nbR_take hq hCl, hs, hV]; omega
            have hYn := Lib.hid (zN_snoc hYk hy)
            have hCl2 : Hid ((C ++ [x]).length = k + 1) := by show _ = _; rw [List.length_append, hCl]; rfl
            have hk1H := Lib.hid hk1
            clear hv hy ha hq hV hs hYk hCl hk1 hZ
            go_wp2_with (fail)
            go_roundg (gk - 1)
            case measure => omega
            case rel => exact ⟨k + 1, Z, C ++ [x], rfl, by have := hk1H.out; go_num, by omega, hCl2.out, hYn.out, hnx.out, hZl, hblH.out⟩
          · have hno : Hid (¬ VY (tnX X) Y) := by
              show ¬ _
              rw [hTnH.out]
              intro h
              exact hv (h.range hy ha)
            by_cases hy0 : y < 0
            · have d1 : decide (y < 0) = true := decide_eq_true hy0
              clear hv hy ha hq hs hYk hCl hk1
              go_wp2_with (fail)
              go_ret2
              exact .inr (.inl ⟨Q, hDH.out, hno.out, rfl, bseqT hb1.out hblH.out⟩)
            · have d1 : decide (y < 0) = false := decide_eq_false hy0
              have hya : (a : Int) < y := by omega
              have d2 : decide ((a : Int) < y) = true := decide_eq_true hya
              clear hv hy ha hq hs hYk hCl hk1
              go_wp2_with (fail)
              go_ret2
              exact .inr (.inl ⟨Q, hDH.out, hno.out, rfl, bseqT hb1.out hblH.out⟩)
        · have hkI : ¬ (k : Int) < (m : Int) := by omega
          have hke : k = m := by omega
          subst hke
          rw [List.take_of_length_le (by rw [hYl.out]; omega)] at hYk
          subst hYk
          have hsl2 : s ≤ 19000000000000000 := by omega
          have hiff := VY_iff hCH.out (by rw [hTlH.out]; exact hCl) (show nbR (Q.take T.length).reverse C.reverse = s by rw [hTlH.out]; exact hs)
          have htop : Q.getD (Q.length - 1) 0 = t := by rw [hQH.out, show n - 1 = k by have := hKe.out; omega]; exact htK.out
          rw [htop] at hiff
          have hiffH := Lib.hid hiff
          have hsum : Hid (sumQ Q C = s) := by show _ = _; unfold sumQ; rw [hCl]; exact hs
          have hzl : Hid ((zN C).length = k) := hYl.out
          have ct := iz_nat (i := k) (hI1H.out.below hblH.out) (by rw [hQH.out]; exact hKn2) htK.out
          rw [Nat.zero_add] at ct
          clear hs hCl hiff htop
          by_cases hst : t ≤ s
          · have d1 : decide ((t : Int) ≤ (s : Int)) = true := decide_eq_true (by omega)
            have d2 : decide (t ≤ s) = true := decide_eq_true hst
            have hno : Hid (¬ VY (tnX X) (zN C)) := by
              show ¬ _
              rw [hTnH.out]
              intro h
              have := (hiffH.out.1 h).1
              omega
            go_wp2_with (fail)
            go_ret2
            exact .inr (.inl ⟨Q, hDH.out, hno.out, rfl, bseqT hb1.out hblH.out⟩)
          · have d1 : decide ((t : Int) ≤ (s : Int)) = false := decide_eq_false (by omega)
            have d2 : decide (t ≤ s) = false := decide_eq_false hst
            obtain ⟨F, hF⟩ : ∃ F, dgF Q s = F := ⟨_, rfl⟩
            have hFl : F.length = k := by rw [← hF, dgF_length, hQH.out]; have := hKe.out; omega
            have hdg := Lib.hid (fun (g cc : Nat) (W : World) hI => digitsP_any g 0 n k cc s Q F W hI hQH.out hKe.out hK1 hK19 hall2.out (by omega) hF)
            obtain ⟨r, hr⟩ : ∃ r, (nzT F == zN C) = r := ⟨_, rfl⟩
            have heq := Lib.hid (fun (g c1 c2 : Nat) (W : World) h1 h2 => equalI g 0 c1 bc oc c2 k (nzT F) (zN C) r W h1 h2 (by rw [nzT_length, hFl]) hzl.out (by omega) hr)
            have hrF : Hid (r = true ↔ F = C) := by
              show _ ↔ _
              rw [← hr, beq_iff_eq]
              constructor
              · intro h
                have h2 := congrArg (List.map Int.toNat) h
                unfold nzT zN at h2
                simpa [List.map_map, Function.comp_def] using h2
              · rintro rfl; rfl
            have hFH := Lib.hid hF
            clear hF hFl hr
            cases r with
            | true =>
              have hyes : Hid (VY (tnX X) (zN C)) := by
                show VY _ _
                rw [hTnH.out]
                exact hiffH.out.2 ⟨by omega, by rw [hFH.out]; exact hrF.out.1 rfl⟩
              go_wp2_with (first
                | (go_at_call 77; (with_reducible refine (hdg.out _ _ _ (hI1H.out.below hblH.out)).mono ?_); rintro e w2 ⟨g2, rfl, hI2, hb⟩; have hb2 := Lib.hid hb; have hI2H := Lib.hid hI2; clear hb hI2)
                | (go_at_call 78; (with_reducible refine (heq.out _ _ _ _ hI2H.out (((hJH.out.below hb1.out).below hblH.out).below hb2.out)).mono ?_); rintro e w3 ⟨rfl, hb⟩; have hb3 := Lib.hid hb; clear hb))
              go_ret2
              exact .inr (.inr ⟨Q, C, hDH.out, rfl, hyes.out, by rw [hsum.out]; rfl, bseqT hb1.out (bseqT hblH.out (bseqT hb2.out hb3.out))⟩)
            | false =>
              have hno : Hid (¬ VY (tnX X) (zN C)) := by
                show ¬ _
                rw [hTnH.out]
                intro h
                have h2 := (hiffH.out.1 h).2
                rw [hFH.out] at h2
                have := hrF.out.2 h2
                cases this
              go_wp2_with (first
                | (go_at_call 77; (with_reducible refine (hdg.out _ _ _ (hI1H.out.below hblH.out)).mono ?_); rintro e w2 ⟨g2, rfl, hI2, hb⟩; have hb2 := Lib.hid hb; have hI2H := Lib.hid hI2; clear hb hI2)
                | (go_at_call 78; (with_reducible refine (heq.out _ _ _ _ hI2H.out (((hJH.out.below hb1.out).below hblH.out).below hb2.out)).mono ?_); rintro e w3 ⟨rfl, hb⟩; have hb3 := Lib.hid hb; clear hb))
              go_ret2
              exact .inr (.inl ⟨Q, hDH.out, hno.out, rfl, bseqT hb1.out (bseqT hblH.out (bseqT hb2.out hb3.out))⟩)
    · have hmKI : ((m : Int) != (K : Int)) = true := by simp; omega
      have hno : Hid (¬ VY (tnX X) Y) := by
        show ¬ _
        rw [hTn]
        intro h
        have := h.len
        omega
      clear hden hI hJ hn hm hD hT hC hQl hall hK hT6 hTl hTn hmK
      go_enter Try.func49, Try.ntmps49
      go_wp2_with (go_at_call 76; (with_reducible refine hcall.out.mono ?_); rintro e w1 ⟨g, cc, rfl, hI1, hb⟩; have hb1 := Lib.hid hb; clear hb hI1)
      go_ret2
      exact .inr (.inl ⟨Q, hDH.out, hno.out, rfl, hb1.out⟩)
end
end Go.Proofs.Ytbehfhmdilifkaa
