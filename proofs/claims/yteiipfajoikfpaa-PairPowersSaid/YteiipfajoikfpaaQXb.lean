/- Xb -/
import Derived.Test.YteiipfajoikfpaaQXa
import Derived.Test.YteiipfajoikfpaaQWc
import Derived.Test.YteiipfajoikfpaaQVb
set_option linter.unusedVariables false
/- Walks of Smooth's closures: a list in falling order, and the comparison of two. -/
namespace Go.Proofs.Yteiipfajoikfpaa
open Go Go.RowKit Go.Proofs Go.Sort

theorem reverse_own (g N c base : Nat) (zs : List Int) (w : World) (h : ZI w base (.slice (some ⟨g, 0, none⟩) N c) zs) (hN : zs.length = N) (hs : N ≤ 1000) (B : Nat) (hB : B ≤ base) (hBw : B ≤ w.heap.size) :
    Calls Try.prog 73 #[.slice (some ⟨g, 0, none⟩) N c] w (fun e w' => e = .returned (.tuple #[]) ∧ ZI w' base (.slice (some ⟨g, 0, none⟩) N c) zs.reverse ∧ Below B w w') := by
  subst hN
  obtain ⟨h1, h2⟩ := h.holds
  refine (Try.slices_Reverse_int g 0 c zs w h1 (by omega)).mono fun e w' ⟨he, n, hw⟩ => ?_
  subst hw
  obtain ⟨h3, h4⟩ := h.put zs.reverse (List.length_reverse ..) n #[] B hB hBw
  exact ⟨he, h3, h4⟩
theorem fall_rev (xs : List Int) : (xs.mergeSort fun x y => decide (x ≤ y)).reverse = fall xs := by
  refine fall_unique ((List.reverse_perm _).trans (List.mergeSort_perm ..)) ?_
  rw [List.pairwise_reverse]
  have h := List.pairwise_mergeSort (le := fun x y : Int => decide (x ≤ y)) (by intro a b c h1 h2; simp at *; omega) (by intro a b; simp; omega) xs
  exact h.imp fun {a b} h => by simpa using h
theorem ZI.someX {w : World} {base : Nat} {v : Value} {xs : List Int} (h : ZI w base v xs) (h0 : 0 < xs.length) : ∃ g c, v = .slice (some ⟨g, 0, none⟩) xs.length c := by
  rcases h.2 with ⟨_, h2⟩ | ⟨g', cap', cur, hv, _⟩
  · have : xs.length = 0 := h2
    omega
  · exact ⟨g', cap', hv⟩
def RetF (w : World) (n : Nat) (xs : List Int) (e : Ending) (w' : World) : Prop := ∃ g c, e = .returned (.slice (some ⟨g, 0, none⟩) n c) ∧ n ≤ c ∧ IZ w' (some ⟨g, 0, none⟩) xs ∧ Below w.heap.size w w'
set_option maxRecDepth 100000 in
set_option maxHeartbeats 3200000 in
theorem fallingP_any (ao : Option Addr) (n c : Nat) (xs : List Int) (w : World) (h : IZ w ao xs) (hn : xs.length = n) (h0 : 0 < n) (hs : n ≤ 1000) :
    Calls Try.prog 71 #[.slice ao n c] w (RetF w n (fall xs)) := by
  have hH := Lib.hid h
  have hnH := Lib.hid hn
  have hf := Lib.hid (fall_rev xs)
  have hml : Hid ((xs.mergeSort fun x y => decide (x ≤ y)).length = n) := by show _ = _; rw [List.length_mergeSort]; exact hn
  clear h hn
  go_enter Try.func71, Try.ntmps71
  go_wp2_with (first
    | (go_at_call 72; go_loud (with_reducible refine (clone_any ao n c xs _ hH.out hnH.out (by omega)).mono ?_); rintro e w1 ⟨a1, d1, rfl, hZ1, hb1⟩; obtain ⟨g1, c1, hg1⟩ := hZ1.someX (by rw [hnH.out]; exact h0); injection hg1 with q1 q2 q3; subst q1; clear q2 q3; have hZ1H := Lib.hid hZ1; have hb1H := Lib.hid hb1; have hsz1 := hb1.size; clear hZ1 hb1)
    | (go_at_call 66; go_loud (with_reducible refine (sort_own2 g1 n d1 w.heap.size xs _ hZ1H.out hnH.out hs w.heap.size (Nat.le_refl _) hsz1).mono ?_); rintro e w2 ⟨rfl, hZ2, hb2, _⟩; have hZ2H := Lib.hid hZ2; have hb2H := Lib.hid hb2; have hsz2 := hb2.size; clear hZ2 hb2)
    | (go_at_call 73; go_loud (with_reducible refine (reverse_own g1 n d1 w.heap.size (xs.mergeSort fun x y => decide (x ≤ y)) _ hZ2H.out hml.out hs w.heap.size (Nat.le_refl _) (by omega)).mono ?_); rintro e w3 ⟨rfl, hZ3, hb3⟩; have hZ3H := Lib.hid hZ3; have hb3H := Lib.hid hb3; clear hZ3 hb3))
  go_ret
  have hI := hZ3H.out.iz
  rw [hf.out] at hI
  exact ⟨g1, d1, rfl, hI.2, hI.1, (hb1H.out.trans hb2H.out).trans hb3H.out⟩
theorem eg_smooth1 : ∀ args w, (callFunc 71 args).run Try.prog w = .ok (.enter 71 args) w := enters_of Try.func71 (by kernel_rfl) rfl
set_option maxRecDepth 100000 in
set_option maxHeartbeats 6400000 in
theorem cmpF_any (ao bo : Option Addr) (n c d bf : Nat) (xs ys : List Int) (w : World) (h : IZ w ao xs) (h' : IZ w bo ys) (hn : xs.length = n) (hm : ys.length = n) (h0 : 0 < n) (hs : n ≤ 1000) (cf : w.cell? ⟨bf, 0, none⟩ = some (.func (.func 71) #[] #[])) :
    Calls Try.prog 75 #[.slice ao n c, .slice bo n d, .pointer (some ⟨bf, 0, none⟩)] w (CmpPost (fall xs) (fall ys) w) := by
  have hH := Lib.hid h
  have hH' := Lib.hid h'
  have hnH := Lib.hid hn
  have hmH := Lib.hid hm
  have hl1 : Hid ((fall xs).length = n) := by show _ = _; rw [fall_length]; exact hn
  have hl2 : Hid ((fall ys).length = n) := by show _ = _; rw [fall_length]; exact hm
  have e1 := eg_smooth1
  clear h h' hn hm
  go_enter Try.func75, Try.ntmps75
  go_wp2_with (fail)
  have hB0 : Below w.heap.size w w := Below.refl _ _
  go_region_held3 (fun w' => w'.cell? ⟨bf, 0, none⟩ = some (.func (.func 71) #[] #[]))
    (repeat (first | assumption | (with_reducible refine cell_drJ ?_) | (with_reducible refine cell_alJ ?_ _)))
    (first
      | (go_at_call 71; (with_reducible refine (fallingP_any ao n c xs _ (hH.out.below (by repeat (first | assumption | (with_reducible refine Below.drew ?_)))) hnH.out h0 hs).mono ?_); rintro e w1 ⟨g1, c1, rfl, hc1, hI1, hb1⟩; have hq1 : Below w.heap.size w w1 := bseqJ (by repeat (first | assumption | (with_reducible refine Below.drew ?_))) hb1; have hI1H := Lib.hid hI1; have hb1H := Lib.hid hb1; have hk1 : w1.cell? ⟨bf, 0, none⟩ = some (.func (.func 71) #[] #[]) := Below.cellAt hq1 (Nat.le_refl _) cf; clear hI1 hb1)
      | (go_at_call 71; (with_reducible refine (fallingP_any bo n d ys _ (hH'.out.below (by repeat (first | assumption | (with_reducible refine Below.drew ?_)))) hmH.out h0 hs).mono ?_); rintro e w2 ⟨g2, c2, rfl, hc2, hI2, hb2⟩; have hq2 : Below w.heap.size w w2 := bseqJ (by repeat (first | assumption | (with_reducible refine Below.drew ?_))) hb2; have hI2H := Lib.hid hI2; have hI12 := Lib.hid (hI1H.out.below (Below.trans (by repeat (first | exact Below.refl _ _ | (with_reducible refine Below.drew ?_))) hb2)); have hk2 : w2.cell? ⟨bf, 0, none⟩ = some (.func (.func 71) #[] #[]) := Below.cellAt hq2 (Nat.le_refl _) cf; clear hI2 hb2)
      | (go_at_call 70; (with_reducible refine (compare_anyJ (some ⟨g1, 0, none⟩) (some ⟨g2, 0, none⟩) c1 c2 n (fall xs) (fall ys) _ (hI12.out.below (by repeat (first | exact Below.refl _ _ | (with_reducible refine Below.drew ?_)))) (hI2H.out.below (by repeat (first | exact Below.refl _ _ | (with_reducible refine Below.drew ?_)))) hl1.out hl2.out (by omega)).mono ?_); rintro e w3 ⟨z, rfl, hz, hb3⟩; have hzH := Lib.hid hz; have hq3 : Below w.heap.size w w3 := bseqJ (by repeat (first | assumption | (with_reducible refine Below.drew ?_))) hb3; have hk3 : w3.cell? ⟨bf, 0, none⟩ = some (.func (.func 71) #[] #[]) := Below.cellAt hq3 (Nat.le_refl _) cf; clear hz hb3))
  go_wp2_with (fail)
  go_ret
  exact ⟨z, rfl, hzH.out, hq3⟩
end Go.Proofs.Yteiipfajoikfpaa
