/- Ts -/
import Derived.Test.YtbehfhmdilifkaaQTq
set_option linter.unusedVariables false
/- Walk of the reference's Pell. -/
namespace Go.Proofs.Ytbehfhmdilifkaa
open Go Go.RowKit Go.Proofs

def PellRPost (R : Option (Nat × Nat)) (w : World) (e : Ending) (w' : World) : Prop :=
  ∃ (x y : Nat) (ok : Bool) (a c a' c' : _), e = .returned (.tuple #[.agg #[.bool (ng (x : Int)), .slice a (LZ (x : Int)) c], .agg #[.bool (ng (y : Int)), .slice a' (LZ (y : Int)) c'], .bool ok]) ∧ ZM w' a c (x : Int) ∧ ZM w' a' c' (y : Int) ∧ ((ok = true ∧ R = some (x, y)) ∨ (ok = false ∧ R = none)) ∧ Below w.heap.size w w'
theorem isSol_iff {d p q : Nat} {neg : Bool} {v : Int} (hv : ((p * p : Nat) : Int) - ((d * (q * q) : Nat) : Int) = v) (hq : 0 < q) : isSol d neg p q = decide (v = sgP neg) := by
  unfold isSol sgP
  obtain ⟨A, hA⟩ : ∃ A, p * p = A := ⟨_, rfl⟩
  obtain ⟨B, hB⟩ : ∃ B, d * (q * q) = B := ⟨_, rfl⟩
  rw [hA, hB] at hv
  rw [hA, hB]
  clear hA hB
  subst hv
  cases neg with
  | true => simp [hq]; constructor <;> intro h <;> omega
  | false => simp [hq]; constructor <;> intro h <;> omega
theorem isSol_eq {d p q : Nat} {neg : Bool} {v : Int} (hv : ((p * p : Nat) : Int) - ((d * (q * q) : Nat) : Int) = v) : isSol d neg p q = (decide (v = sgP neg) && decide (0 < q)) := by
  by_cases hq : 0 < q
  · rw [isSol_iff hv hq]; simp [hq]
  · unfold isSol; simp [hq]
theorem sgsub_eq {a b : Int} (h : a = b) : sg (a - b) = 0 := by subst h; unfold sg; simp
theorem sgsub_ne {a b : Int} (h : ¬ a = b) : ∃ z : Int, sg (a - b) = z ∧ z ≠ 0 := by
  refine ⟨_, rfl, ?_⟩
  unfold sg
  split
  · decide
  · rw [if_neg (by omega)]; decide
theorem sg_posN {n : Nat} (h : 0 < n) : sg (n : Int) = 1 := by
  unfold sg
  rw [if_neg (by omega), if_neg (by omega)]
theorem sg_zeroN {n : Nat} (h : ¬ 0 < n) : sg (n : Int) = 0 := by
  unfold sg
  rw [if_neg (by omega), if_pos (by omega)]
theorem stOk_of {s : Cv} {l : List Nat} (h : allOk s l = true) : stOk s = true := by
  cases l with
  | nil => exact h
  | cons a l =>
    simp only [allOk, Bool.and_eq_true] at h
    exact h.1.1
theorem stOk_lt {s : Cv} (h : stOk s = true) : s.1 < cvB ∧ s.2.1 < cvB ∧ s.2.2.1 < cvB ∧ s.2.2.2 < cvB := by
  simp only [stOk, Bool.and_eq_true, decide_eq_true_eq] at h
  exact ⟨h.1.1.1, h.1.1.2, h.1.2, h.2⟩
theorem LZ_cvB2 {z : Int} (h : z.natAbs ≤ cvB * cvB * 1001) : LZ z ≤ 60 := by
  show L B4 _ ≤ _
  refine Nat.le_trans (L_mono two_le_B4 h) ?_
  decide
theorem PZ.otherZ {W : World} {b b' c : Nat} {n k m : Int} {a : Option Addr} {a0 : Option Addr} {c0 : Nat} (h : PZs W b n) (h' : PZ W b' k a0 c0) (hne : b' ≠ b) : PZ (putZ W b m a c) b' k a0 c0 :=
  ⟨(Blk.far (Blk.far h'.blk (by exact hne) _) (by exact hne) _), h.zmPut h'.zm⟩
theorem two_putT {W : World} {b5 b6 T : Nat} {x0 x1 y0 y1 A B C D : Value} (hu : Blk W b5 T [x0, x1]) (hv : Blk W b6 T [y0, y1]) (hne : b5 ≠ b6) {V : World} (hV : V = (((W.setCell ⟨b5, 0, none⟩ A).setCell ⟨b5, 1, none⟩ B).setCell ⟨b6, 0, none⟩ C).setCell ⟨b6, 1, none⟩ D) :
    V.cell? ⟨b5, 0, none⟩ = some A ∧ V.cell? ⟨b5, 1, none⟩ = some B ∧ V.cell? ⟨b6, 0, none⟩ = some C ∧ V.cell? ⟨b6, 1, none⟩ = some D := by
  have h1 : Blk V b5 T [A, B] := by rw [hV]; exact Blk.far (Blk.far (Blk.set (Blk.set hu 0 A) 1 B) (by exact hne) _) (by exact hne) _
  have h2 : Blk V b6 T [C, D] := by rw [hV]; exact Blk.set (Blk.set (Blk.far (Blk.far hv (by exact hne.symm) _) (by exact hne.symm) _) 0 C) 1 D
  exact ⟨h1.cell 0, h1.cell 1, h2.cell 0, h2.cell 1⟩
theorem P6.new4 {w : World} {n : Nat} {a2 a3 a4 a5 : Option Addr} {c2 c3 c4 c5 b5 b6 : Nat} (h2 : ZM w a2 c2 (n : Int)) (h3 : ZM w a3 c3 1) (h4 : ZM w a4 c4 1) (h5 : ZM w a5 c5 0) (hu : PZs w b5 0) (hv : PZs w b6 0) :
    P6 ((((w.alloc (Obj.cells #[.bool (ng (n : Int)), .slice a2 (LZ (n : Int)) c2] 44)).alloc (Obj.cells #[.bool (ng 1), .slice a3 (LZ 1) c3] 44)).alloc (Obj.cells #[.bool (ng 1), .slice a4 (LZ 1) c4] 44)).alloc (Obj.cells #[.bool (ng 0), .slice a5 (LZ 0) c5] 44))
      w.heap.size (w.heap.size + 1 + 1) (w.heap.size + 1) (w.heap.size + 1 + 1 + 1) b5 b6 (cv0 n) := by
  obtain ⟨W1, hW1⟩ : ∃ W1, W1 = w.alloc (Obj.cells #[.bool (ng (n : Int)), .slice a2 (LZ (n : Int)) c2] 44) := ⟨_, rfl⟩
  obtain ⟨W2, hW2⟩ : ∃ W2, W2 = W1.alloc (Obj.cells #[.bool (ng 1), .slice a3 (LZ 1) c3] 44) := ⟨_, rfl⟩
  obtain ⟨W3, hW3⟩ : ∃ W3, W3 = W2.alloc (Obj.cells #[.bool (ng 1), .slice a4 (LZ 1) c4] 44) := ⟨_, rfl⟩
  rw [← hW1, ← hW2, ← hW3]
  have s1 : W1.heap.size = w.heap.size + 1 := by rw [hW1]; simp
  have s2 : W2.heap.size = w.heap.size + 1 + 1 := by rw [hW2]; simp [s1]
  have s3 : W3.heap.size = w.heap.size + 1 + 1 + 1 := by rw [hW3]; simp [s2]
  have b1 : Below w.heap.size w W1 := by rw [hW1]; exact below_al (Below.refl _ _) _
  have b2 : Below W1.heap.size W1 W2 := by rw [hW2]; exact below_al (Below.refl _ _) _
  have b3 : Below W2.heap.size W2 W3 := by rw [hW3]; exact below_al (Below.refl _ _) _
  have b4 : Below W3.heap.size W3 (W3.alloc (Obj.cells #[.bool (ng 0), .slice a5 (LZ 0) c5] 44)) := below_al (Below.refl _ _) _
  have p1 : PZs W1 w.heap.size (n : Int) := by rw [hW1]; exact PZs.new h2
  have p2 : PZs W2 (w.heap.size + 1) 1 := by rw [← s1, hW2]; exact PZs.new (h3.up b1)
  have p3 : PZs W3 (w.heap.size + 1 + 1) 1 := by rw [← s2, hW3]; exact PZs.new ((h4.up b1).up b2)
  have p4 : PZs (W3.alloc (Obj.cells #[.bool (ng 0), .slice a5 (LZ 0) c5] 44)) (w.heap.size + 1 + 1 + 1) 0 := by rw [← s3]; exact PZs.new (((h5.up b1).up b2).up b3)
  exact ⟨((p1.below b2).below b3).below b4, p3.below b4, (p2.below b3).below b4, p4, (((hu.below b1).below b2).below b3).below b4, (((hv.below b1).below b2).below b3).below b4⟩
theorem wpAnyT_two {P : Program} {ops : Array Oper} {Q : Exit → Act → World → Prop} {md : Region.Mode} {S : World → Prop} {T : Nat → Bool} {i j : Nat} {oi oj : Oper} {fuel : Nat} {listed : Array Bool} {a : Act} {w : World} (hr : Region.ready md ops listed = [i, j]) (hoi : ops[i]? = some oi) (hoj : ops[j]? = some oj)
    (h1 : ∀ K' : Act → World → Prop, Shut (∀ a w, (T i = false → S w) → ((T i = false → S w) → wpAnyT P md ops Q S T fuel (listed.setIfInBounds i true) a w) → K' a w) → if Region.wanted oi (yielded ops a.tmps) = true then Oper.wp P oi a w K' Q else K' (a.put oi.dst undef) w)
    (h2 : ∀ K' : Act → World → Prop, Shut (∀ a w, (T j = false → S w) → ((T j = false → S w) → wpAnyT P md ops Q S T fuel (listed.setIfInBounds j true) a w) → K' a w) → if Region.wanted oj (yielded ops a.tmps) = true then Oper.wp P oj a w K' Q else K' (a.put oj.dst undef) w) :
    wpAnyT P md ops Q S T (fuel + 1) listed a w := by
  refine ⟨fun h0 => (by rw [hr] at h0; cases h0), fun k hk => ?_⟩
  rw [hr] at hk
  have hk2 : k = i ∨ k = j := by simpa using hk
  rcases hk2 with rfl | rfl
  · exact wpOp_step hoi (fun K' hK => h1 K' (fun a w hS hW => hK a w ⟨hS, hW hS⟩))
  · exact wpOp_step hoj (fun K' hK => h2 K' (fun a w hS hW => hK a w ⟨hS, hW hS⟩))
set_option maxRecDepth 100000 in
set_option maxHeartbeats 12800000 in
theorem pellR_main (d n L : Nat) (neg : Bool) (sg : Int) (hsg : sgP neg = sg) (X : List Nat) (R : Option (Nat × Nat)) (w : World) (hrt : ∀ W, Calls Try.prog 30 #[.int .i64 (d : Nat)] W (RootRPost X n W)) (hd : d ≤ 1000) (hL : X.length = L) (hL1 : 1 ≤ L) (hL2 : L ≤ 70) (hn : n ≤ 31)
    (hX : ∀ x ∈ X, 1 ≤ x ∧ x ≤ 100) (hok : allOk (cv0 n) (X ++ X) = true) (href : refGo d neg (cv0 n) (X ++ X) = R) :
    Calls Try.prog 32 #[.int .i64 (d : Nat), .int .i64 sg] w (PellRPost R w) := by
  have hrtH := Lib.hid hrt
  have hLH := Lib.hid hL
  have hokH := Lib.hid hok
  have hXH := Lib.hid hX
  have hrefH := Lib.hid href
  have hsgH := Lib.hid hsg
  have hzsg : Hid (∀ W, Calls Try.prog 34 #[.int .i64 sg] W (RetZ W sg)) := fun W => by
    rw [← hsg]
    cases neg with
    | true => exact zint_minus W
    | false => exact zint_any 1 W (by omega)
  have hLZ1 : LZ (1 : Int) ≤ 26 := LZ_cvB (n := 1) (by decide)
  have hsgl : Hid (LZ sg ≤ 26) := by
    show _ ≤ _
    rw [← hsg]
    cases neg with
    | true => show LZ (-1) ≤ 26; rw [LZ_neg]; exact hLZ1
    | false => exact hLZ1
  clear hrt hL hok hX href hsg hLZ1
  go_enter Try.func32, Try.ntmps32
  go_upto_region 1 with (fail)
  obtain ⟨V0, hV0⟩ : ∃ V, V = (w.alloc (Obj.cells #[.bool false, .slice none 0 0] 44)).alloc (Obj.cells #[.bool false, .slice none 0 0] 44) := ⟨_, rfl⟩
  have e1 : (w.alloc (Obj.cells #[.bool false, .slice none 0 0] 44)).heap.size = w.heap.size + 1 := by simp
  have xu : PZs V0 w.heap.size 0 := by rw [hV0]; exact (PZs.new0 w).below (below_al (Below.refl _ _) _)
  have xv : PZs V0 (w.heap.size + 1) 0 := by rw [hV0, ← e1]; exact PZs.new0 _
  have hb0 : Below w.heap.size w V0 := by rw [hV0]; exact below_al (below_al (Below.refl _ _) _) _
  have hV0s : V0.heap.size = w.heap.size + 2 := by rw [hV0]; simp
  have hz0 := Lib.hid (fun W => zint_any n W (by omega))
  have hz1 : Hid (∀ W, Calls Try.prog 34 #[.int .i64 1] W (RetZ W 1)) := fun W => zint_any 1 W (by omega)
  have hz2 : Hid (∀ W, Calls Try.prog 34 #[.int .i64 0] W (RetZ W 0)) := fun W => zint_any 0 W (by omega)
  have tokA : True := trivial
  have xuH := Lib.hid xu
  have xvH := Lib.hid xv
  have hb0H := Lib.hid hb0
  have hV0H := Lib.hid hV0s
  rw [← e1, ← hV0]
  rw [e1]
  clear xu xv hb0 hV0s e1 hV0
  go_upto_region 3 with (first
    | (go_at_call 30; (with_reducible refine (hrtH.out _).mono ?_); rintro e w1 ⟨g, c, rfl, hc, hI, hb⟩; have hI1 := Lib.hid hI; have hb1 := Lib.hid hb; clear hI hb hc)
    | (go_at_call 34; (with_reducible refine (hz0.out _).mono ?_); rintro e w2 ⟨a2, c2, rfl, hZ, hb⟩; have hZ2 := Lib.hid hZ; have hb2 := Lib.hid hb; clear hZ hb)
    | (clear tokA; go_at_call 34; (with_reducible refine (hz1.out _).mono ?_); rintro e w3 ⟨a3, c3, rfl, hZ, hb⟩; have hZ3 := Lib.hid hZ; have hb3 := Lib.hid hb; clear hZ hb)
    | (go_at_call 34; (with_reducible refine (hz1.out _).mono ?_); rintro e w4 ⟨a4, c4, rfl, hZ, hb⟩; have hZ4 := Lib.hid hZ; have hb4 := Lib.hid hb; clear hZ hb)
    | (go_at_call 34; (with_reducible refine (hz2.out _).mono ?_); rintro e w5 ⟨a5, c5, rfl, hZ, hb⟩; have hZ5 := Lib.hid hZ; have hb5 := Lib.hid hb; clear hZ hb))
  obtain ⟨W6, hW6⟩ : ∃ W6, W6 = ((((w5.alloc (Obj.cells #[.bool (ng (n : Int)), .slice a2 (LZ (n : Int)) c2] 44)).alloc (Obj.cells #[.bool (ng 1), .slice a3 (LZ 1) c3] 44)).alloc (Obj.cells #[.bool (ng 1), .slice a4 (LZ 1) c4] 44)).alloc (Obj.cells #[.bool (ng 0), .slice a5 (LZ 0) c5] 44)) := ⟨_, rfl⟩
  have hb15 := Lib.hid (bseqT hb1.out (bseqT hb2.out (bseqT hb3.out (bseqT hb4.out hb5.out))))
  have hP0 : Hid (P6 W6 w5.heap.size (w5.heap.size + 1 + 1) (w5.heap.size + 1) (w5.heap.size + 1 + 1 + 1) w.heap.size (w.heap.size + 1) (cv0 n)) := by
    show P6 _ _ _ _ _ _ _ _
    rw [hW6]
    exact P6.new4 (hZ2.out.up (bseqT hb3.out (bseqT hb4.out hb5.out))) (hZ3.out.up (bseqT hb4.out hb5.out)) (hZ4.out.up hb5.out) hZ5.out (xuH.out.below hb15.out) (xvH.out.below hb15.out)
  have hbW : Hid (Below w5.heap.size w5 W6) := by show Below _ _ _; rw [hW6]; exact below_al (below_al (below_al (below_al (Below.refl _ _) _) _) _) _
  have hI6 := Lib.hid (hI1.out.below (bseqT hb2.out (bseqT hb3.out (bseqT hb4.out (bseqT hb5.out hbW.out)))))
  have hbw6 := Lib.hid (bseqT hb0H.out (bseqT hb15.out hbW.out))
  have hsz : w.heap.size + 2 ≤ w5.heap.size := by have := hV0H.out; have := hb15.out.size; omega
  rw [← hW6]
  obtain ⟨B1, hB1⟩ : ∃ B1, w5.heap.size = B1 := ⟨_, rfl⟩
  rw [hB1] at hP0 hsz
  rw [hB1]
  have hN6 : Hid (N6 B1 (B1 + 1 + 1) (B1 + 1) (B1 + 1 + 1 + 1) w.heap.size (w.heap.size + 1)) := ⟨⟨by omega, by omega, by omega, by omega, by omega, by omega⟩, by omega, by omega, by omega, by omega, by omega, by omega, by omega, by omega, by omega⟩
  rw [hLH.out]
  clear hW6 hB1 hb1 hb2 hb3 hb4 hb5 hZ2 hZ3 hZ4 hZ5 hI1 hb15 hbW
  obtain ⟨L2, hL2e⟩ : ∃ L2, 2 * L = L2 := ⟨_, rfl⟩
  obtain ⟨L3, hL3e⟩ : ∃ L3, L2 + 1 = L3 := ⟨_, rfl⟩
  have hL2I : (2 : Int) * (L : Int) = (L2 : Int) := by omega
  have hL3I : (L2 : Int) + 1 = (L3 : Int) := by omega
  have hL3l : L3 ≤ 141 := by omega
  have hL2H := Lib.hid hL2e
  have hL3H := Lib.hid hL3e
  clear hL2e hL3e
  go_wp2_with (fail)
  go_loopg [13] L3 (fun gk iv wr => ∃ (i : Nat) (s : Cv), iv = .int .i64 (i : Nat) ∧ i + gk = L3 ∧ (i ≤ L2 → refGo d neg s ((X ++ X).drop i) = R ∧ allOk s ((X ++ X).drop i) = true) ∧ (i = L3 → R = none) ∧ P6 wr B1 (B1 + 1 + 1) (B1 + 1) (B1 + 1 + 1 + 1) w.heap.size (w.heap.size + 1) s ∧ IZ wr (some ⟨g, 0, none⟩) (nzT X) ∧ Below w.heap.size w wr)
  case atStart => exact ⟨0, cv0 n, rfl, by omega, fun _ => ⟨hrefH.out, hokH.out⟩, fun h => absurd h (by have := hL3H.out; omega), hP0.out, hI6.out, hbw6.out⟩
  case round =>
    obtain ⟨i, s, rfl, hig, hR, hno, hP, hI, hbl⟩ := hrel
    have hblH := Lib.hid hbl
    have hPH := Lib.hid hP
    have hIH := Lib.hid hI
    have hnoH := Lib.hid hno
    have hRH := Lib.hid hR
    clear hbl hP hI hno hR
    by_cases hi : i < L3
    · obtain ⟨hR, hok⟩ := hRH.out (by have := hL3H.out; omega)
      have hst := stOk_lt (stOk_of hok)
      have hRK := Lib.hid hR
      have hokK := Lib.hid hok
      obtain ⟨p, e, q, f⟩ := s
      simp only at hst
      obtain ⟨hp, he, hq, hf⟩ := hst
      have lp := Lib.hid (show LZ (p : Int) ≤ 1000 by have := LZ_cvB hp; omega)
      have le := Lib.hid (show LZ (e : Int) ≤ 1000 by have := LZ_cvB he; omega)
      have lq := Lib.hid (show LZ (q : Int) ≤ 1000 by have := LZ_cvB hq; omega)
      have lf := Lib.hid (show LZ (f : Int) ≤ 1000 by have := LZ_cvB hf; omega)
      obtain ⟨P2, hP2⟩ : ∃ P2, p * p = P2 := ⟨_, rfl⟩
      obtain ⟨Q2, hQ2⟩ : ∃ Q2, q * q = Q2 := ⟨_, rfl⟩
      obtain ⟨D2, hD2⟩ : ∃ D2, d * Q2 = D2 := ⟨_, rfl⟩
      obtain ⟨v, hv⟩ : ∃ v : Int, (P2 : Int) - (D2 : Int) = v := ⟨_, rfl⟩
      have hP2b : P2 ≤ cvB * cvB := by rw [← hP2]; exact Nat.mul_le_mul (Nat.le_of_lt hp) (Nat.le_of_lt hp)
      have hQ2b : Q2 ≤ cvB * cvB := by rw [← hQ2]; exact Nat.mul_le_mul (Nat.le_of_lt hq) (Nat.le_of_lt hq)
      have hD2b : D2 ≤ 1000 * (cvB * cvB) := by rw [← hD2]; exact Nat.mul_le_mul hd hQ2b
      obtain ⟨CC, hCC⟩ : ∃ CC, cvB * cvB = CC := ⟨_, rfl⟩
      rw [hCC] at hP2b hQ2b hD2b
      have lP2 := Lib.hid (show LZ (P2 : Int) ≤ 1000 by have := LZ_cvB2 (z := (P2 : Int)) (by rw [hCC]; omega); omega)
      have lQ2 := Lib.hid (show LZ (Q2 : Int) ≤ 1000 by have := LZ_cvB2 (z := (Q2 : Int)) (by rw [hCC]; omega); omega)
      have lD2 := Lib.hid (show LZ (D2 : Int) ≤ 1000 by have := LZ_cvB2 (z := (D2 : Int)) (by rw [hCC]; omega); omega)
      have lv := Lib.hid (show LZ v ≤ 1000 by have := LZ_cvB2 (z := v) (by rw [hCC]; omega); omega)
      have ld := Lib.hid (show LZ (d : Int) ≤ 1000 by have := LZ_cvB (n := d) (Nat.lt_of_le_of_lt hd (by decide)); omega)
      have hzd := Lib.hid (fun W => zint_any d W (by omega))
      have hP2H := Lib.hid hP2
      have hQ2H := Lib.hid hQ2
      have hD2H := Lib.hid hD2
      have hvH := Lib.hid hv
      have hiI : (i : Int) < (L3 : Int) := by omega
      obtain ⟨ax, cx, hbx, hix⟩ := hPH.out.x
      obtain ⟨ay, cy, hby, hiy⟩ := hPH.out.y
      have hix := Lib.hid (show ZM wr ax cx (p : Int) from hix)
      have hiy := Lib.hid (show ZM wr ay cy (q : Int) from hiy)
      have hq0 : wr.cell? ⟨B1, 0, none⟩ = some (.bool (ng (p : Int))) ∧ wr.cell? ⟨B1, 1, none⟩ = some (.slice ax (LZ (p : Int)) cx) ∧ wr.cell? ⟨B1 + 1, 0, none⟩ = some (.bool (ng (q : Int))) ∧ wr.cell? ⟨B1 + 1, 1, none⟩ = some (.slice ay (LZ (q : Int)) cy) := ⟨by rw [hbx.cell]; rfl, by rw [hbx.cell]; rfl, by rw [hby.cell]; rfl, by rw [hby.cell]; rfl⟩
      have hup : Hid (∀ W, Below wr.heap.size wr W → W.cell? ⟨B1, 0, none⟩ = some (.bool (ng (p : Int))) ∧ W.cell? ⟨B1, 1, none⟩ = some (.slice ax (LZ (p : Int)) cx) ∧ W.cell? ⟨B1 + 1, 0, none⟩ = some (.bool (ng (q : Int))) ∧ W.cell? ⟨B1 + 1, 1, none⟩ = some (.slice ay (LZ (q : Int)) cy)) := fun W hW =>
        ⟨Below.cellAt hW (Nat.le_refl _) hq0.1, Below.cellAt hW (Nat.le_refl _) hq0.2.1, Below.cellAt hW (Nat.le_refl _) hq0.2.2.1, Below.cellAt hW (Nat.le_refl _) hq0.2.2.2⟩
      have hB0 : Below wr.heap.size wr wr := Below.refl _ _
      obtain ⟨k0, k1, k2, k3⟩ := hq0
      clear hR hok hp he hq hf hP2 hQ2 hD2 hv hP2b hQ2b hD2b hCC hbx hby
      go_upto_region 6 with (fail)
      go_cut [14] from 34 to 44 (fun bv wx => ∃ B7, bv = .pointer (some ⟨B7, 0, none⟩) ∧ PZs wx B7 v ∧ wr.heap.size ≤ B7 ∧ Below wr.heap.size wr wx)
      case first =>
        -- tail S: fun W => Below wr.heap.size wr W ∧ W.cell? ⟨B1, 0, none⟩ = some (.bool (ng (p : Int))) ∧ W.cell? ⟨B1, 1, none⟩ = some (.slice ax (LZ (p : Int)) cx) ∧ W.cell? ⟨B1 + 1, 0, none⟩ = some (.bool (ng (q : Int))) ∧ W.cell? ⟨B1 + 1, 1, none⟩ = some (.slice ay (LZ (q : Int)) cy)
        -- tail s0: ⟨Below.drew hB0, hup.out _ (Below.drew hB0)⟩
        -- tail a 0 1 3 5 6 x
        refine wp_region_tail (fun W => Below wr.heap.size wr W ∧ W.cell? ⟨B1, 0, none⟩ = some (.bool (ng (p : Int))) ∧ W.cell? ⟨B1, 1, none⟩ = some (.slice ax (LZ (p : Int)) cx) ∧ W.cell? ⟨B1 + 1, 0, none⟩ = some (.bool (ng (q : Int))) ∧ W.cell? ⟨B1 + 1, 1, none⟩ = some (.slice ay (LZ (q : Int)) cy)) (fun j => decide (1000 ≤ j)) (by kernel_rfl) (⟨Below.drew hB0, hup.out _ (Below.drew hB0)⟩) (fun hHeld => ?_)
        refine wpAnyT_take (i := 0) (oi := ?oia0) (v := ?va0) ?hoa0 (by kernel_rfl) (by kernel_rfl) (by kernel_rfl) (by kernel_rfl) ?hqa0 (Or.inl ⟨?hwa0, ?hya0⟩) (by assumption) ?_
        case hoa0 => rfl
        case hwa0 => rfl
        case hya0 => (intro w hSw; (try dsimp only at hSw); go_split_ands; go_simp; (try (with_reducible rfl)))
        case hqa0 => exact fun _ _ _ h => h
        simp only [Act.put, List.getElem_toArray, List.getElem_cons_zero, List.setIfInBounds_toArray, List.set_cons_zero, List.set_cons_succ]
        refine wpAnyT_take (i := 1) (oi := ?oia1) (v := ?va1) ?hoa1 (by kernel_rfl) (by kernel_rfl) (by kernel_rfl) (by kernel_rfl) ?hqa1 (Or.inl ⟨?hwa1, ?hya1⟩) (by assumption) ?_
        case hoa1 => rfl
        case hwa1 => rfl
        case hya1 => (intro w hSw; (try dsimp only at hSw); go_split_ands; go_simp; (try (with_reducible rfl)))
        case hqa1 => exact fun _ _ _ h => h
        simp only [Act.put, List.getElem_toArray, List.getElem_cons_succ, List.getElem_cons_zero, List.setIfInBounds_toArray, List.set_cons_zero, List.set_cons_succ]
        refine wpAnyT_take (i := 3) (oi := ?oia3) (v := ?va3) ?hoa3 (by kernel_rfl) (by kernel_rfl) (by kernel_rfl) (by kernel_rfl) ?hqa3 (Or.inl ⟨?hwa3, ?hya3⟩) (by assumption) ?_
        case hoa3 => rfl
        case hwa3 => rfl
        case hya3 => (intro w hSw; (try dsimp only at hSw); go_split_ands; go_simp; (try (with_reducible rfl)))
        case hqa3 => exact fun _ _ _ h => h
        simp only [Act.put, List.getElem_toArray, List.getElem_cons_succ, List.getElem_cons_zero, List.setIfInBounds_toArray, List.set_cons_zero, List.set_cons_succ]
        refine wpAnyT_take (i := 5) (oi := ?oia5) (v := ?va5) ?hoa5 (by kernel_rfl) (by kernel_rfl) (by kernel_rfl) (by kernel_rfl) ?hqa5 (Or.inl ⟨?hwa5, ?hya5⟩) (by assumption) ?_
        case hoa5 => rfl
        case hwa5 => rfl
        case hya5 => (intro w hSw; (try dsimp only at hSw); go_split_ands; go_simp; (try (with_reducible rfl)))
        case hqa5 => exact fun _ _ _ h => h
        simp only [Act.put, List.getElem_toArray, List.getElem_cons_succ, List.getElem_cons_zero, List.setIfInBounds_toArray, List.set_cons_zero, List.set_cons_succ]
        refine wpAnyT_take (i := 6) (oi := ?oia6) (v := ?va6) ?hoa6 (by kernel_rfl) (by kernel_rfl) (by kernel_rfl) (by kernel_rfl) ?hqa6 (Or.inl ⟨?hwa6, ?hya6⟩) (by assumption) ?_
        case hoa6 => rfl
        case hwa6 => rfl
        case hya6 => (intro w hSw; (try dsimp only at hSw); go_split_ands; go_simp; (try (with_reducible rfl)))
        case hqa6 => exact fun _ _ _ h => h
        simp only [Act.put, List.getElem_toArray, List.getElem_cons_succ, List.getElem_cons_zero, List.setIfInBounds_toArray, List.set_cons_zero, List.set_cons_succ]
        -- tail end
        obtain ⟨w60, hw60⟩ : ∃ w60, w60 = wr.drew := ⟨_, rfl⟩
        rw [← hw60]
        have hq60 : Below wr.heap.size wr w60 := by rw [hw60]; exact Below.drew hB0
        clear hw60 hHeld
        -- six begin
        refine wpAnyT_two (i := 2) (j := 10) (oi := ?os61) (oj := ?ot61) (by kernel_rfl) ?hs61 ?ht61 (fun K hK => ?_) (fun K hK => ?_)
        case hs61 => rfl
        case ht61 => rfl
        rotate_left
        · rw [if_pos (by rfl)]
          go_simp
          have hb62 : Below w60.heap.size w60 (w60.alloc (Obj.cells #[.bool false, .slice none 0 0] 44)) := below_al (Below.refl _ _) _
          have hq62 : Below wr.heap.size wr (w60.alloc (Obj.cells #[.bool false, .slice none 0 0] 44)) := bseqT hq60 hb62
          have hk62 := Lib.hid (show Blk (w60.alloc (Obj.cells #[.bool false, .slice none 0 0] 44)) w60.heap.size 44 [.bool false, .slice none 0 0] from World.alloc_heap_new w60 _)
          have hz62 : wr.heap.size ≤ w60.heap.size := hq60.size
          refine hK.out _ _ (fun _ => ⟨hq62, hup.out _ hq62⟩) (fun hHeld => ?_)
          clear hHeld hK K
          refine wpAnyT_one (i := 2) (o := ?os63) (by kernel_rfl) ?hs63 (fun K hK => ?_)
          case hs63 => rfl
          rw [if_pos (by rfl)]
          go_simp
          go_at_call 64; (with_reducible refine (zmulN ax ax cx cx p p P2 _ (hix.out.up hq62) (hix.out.up hq62) lp.out lp.out hP2H.out).mono ?_); rintro e w64 ⟨a64, c64, rfl, hm, hb⟩
          have hq64 : Below wr.heap.size wr w64 := bseqT hq62 hb
          have hm64_2 := Lib.hid hm
          have hk64 := Lib.hid (Blk.later hk62.out hb)
          clear hm hb
          (try go_wp2_with (fail))
          refine hK.out _ _ (fun _ => ⟨hq64, hup.out _ hq64⟩) (fun hHeld => ?_)
          clear hHeld hK K
          refine wpAnyT_one (i := 4) (o := ?os65) (by kernel_rfl) ?hs65 (fun K hK => ?_)
          case hs65 => rfl
          rw [if_pos (by rfl)]
          go_simp
          go_at_call 34; (with_reducible refine (hzd.out _).mono ?_); rintro e w66 ⟨a66, c66, rfl, hm, hb⟩
          have hq66 : Below wr.heap.size wr w66 := bseqT hq64 hb
          have hm66_2 := Lib.hid (hm64_2.out.up hb)
          have hm66_4 := Lib.hid hm
          have hk66 := Lib.hid (Blk.later hk64.out hb)
          clear hm hb
          (try go_wp2_with (fail))
          refine hK.out _ _ (fun _ => ⟨hq66, hup.out _ hq66⟩) (fun hHeld => ?_)
          clear hHeld hK K
          refine wpAnyT_one (i := 7) (o := ?os67) (by kernel_rfl) ?hs67 (fun K hK => ?_)
          case hs67 => rfl
          rw [if_pos (by rfl)]
          go_simp
          go_at_call 64; (with_reducible refine (zmulN ay ay cy cy q q Q2 _ (hiy.out.up hq66) (hiy.out.up hq66) lq.out lq.out hQ2H.out).mono ?_); rintro e w68 ⟨a68, c68, rfl, hm, hb⟩
          have hq68 : Below wr.heap.size wr w68 := bseqT hq66 hb
          have hm68_2 := Lib.hid (hm66_2.out.up hb)
          have hm68_4 := Lib.hid (hm66_4.out.up hb)
          have hm68_7 := Lib.hid hm
          have hk68 := Lib.hid (Blk.later hk66.out hb)
          clear hm hb
          (try go_wp2_with (fail))
          refine hK.out _ _ (fun _ => ⟨hq68, hup.out _ hq68⟩) (fun hHeld => ?_)
          clear hHeld hK K
          refine wpAnyT_one (i := 8) (o := ?os69) (by kernel_rfl) ?hs69 (fun K hK => ?_)
          case hs69 => rfl
          rw [if_pos (by rfl)]
          go_simp
          go_at_call 64; (with_reducible refine (zmulN a66 a68 c66 c68 d Q2 D2 _ hm68_4.out hm68_7.out ld.out lQ2.out hD2H.out).mono ?_); rintro e w610 ⟨a610, c610, rfl, hm, hb⟩
          have hq610 : Below wr.heap.size wr w610 := bseqT hq68 hb
          have hm610_2 := Lib.hid (hm68_2.out.up hb)
          have hm610_4 := Lib.hid (hm68_4.out.up hb)
          have hm610_7 := Lib.hid (hm68_7.out.up hb)
          have hm610_8 := Lib.hid hm
          have hk610 := Lib.hid (Blk.later hk68.out hb)
          clear hm hb
          (try go_wp2_with (fail))
          refine hK.out _ _ (fun _ => ⟨hq610, hup.out _ hq610⟩) (fun hHeld => ?_)
          clear hHeld hK K
          refine wpAnyT_one (i := 9) (o := ?os611) (by kernel_rfl) ?hs611 (fun K hK => ?_)
          case hs611 => rfl
          rw [if_pos (by rfl)]
          go_simp
          go_at_call 63; (with_reducible refine (zsubI a64 a610 c64 c610 (P2 : Int) (D2 : Int) v _ hm610_2.out hm610_8.out lP2.out lD2.out hvH.out).mono ?_); rintro e w612 ⟨a612, c612, rfl, hm, hb⟩
          have hq612 : Below wr.heap.size wr w612 := bseqT hq610 hb
          have hm612_2 := Lib.hid (hm610_2.out.up hb)
          have hm612_4 := Lib.hid (hm610_4.out.up hb)
          have hm612_7 := Lib.hid (hm610_7.out.up hb)
          have hm612_8 := Lib.hid (hm610_8.out.up hb)
          have hm612_9 := Lib.hid hm
          have hk612 := Lib.hid (Blk.later hk610.out hb)
          have r0 := hk612.out.cell 0
          have r1 := hk612.out.cell 1
          have f0 := hk612.out.frozen 0
          have f1 := hk612.out.frozen 1
          clear hm hb
          (try go_wp2_with (fail))
          refine hK.out _ _ (fun _ => ⟨hq612, hup.out _ hq612⟩) (fun hHeld => ?_)
          clear hHeld hK K
          refine wpAnyT_one (i := 11) (o := ?os613) (by kernel_rfl) ?hs613 (fun K hK => ?_)
          case hs613 => rfl
          rw [if_pos (by rfl)]
          go_simp
          have hpz : PZs w612 w60.heap.size 0 := ⟨none, 0, hk612.out, MagZ.zero _ _ _⟩
          have hS2 : Below wr.heap.size wr (putZ w612 w60.heap.size v a612 c612) := putZ_below hq612 hz62
          refine hK.out _ _ (fun _ => ⟨hS2, hup.out _ hS2⟩) (fun hHeld => ?_)
          clear hHeld hK K
          refine wpAnyT_done (by kernel_rfl) ?_ _
          go_wp2_with (fail)
          go_meet
          exact ⟨w60.heap.size, rfl, PZs.put hpz hm612_9.out, hz62, hS2⟩
        rw [if_pos (by rfl)]
        go_simp
        go_at_call 64; (with_reducible refine (zmulN ax ax cx cx p p P2 _ (hix.out.up hq60) (hix.out.up hq60) lp.out lp.out hP2H.out).mono ?_); rintro e w614 ⟨a614, c614, rfl, hm, hb⟩
        have hq614 : Below wr.heap.size wr w614 := bseqT hq60 hb
        have hm614_2 := Lib.hid hm
        clear hm hb
        (try go_wp2_with (fail))
        refine hK.out _ _ (fun _ => ⟨hq614, hup.out _ hq614⟩) (fun hHeld => ?_)
        clear hHeld hK K
        refine wpAnyT_two (i := 4) (j := 10) (oi := ?os615) (oj := ?ot615) (by kernel_rfl) ?hs615 ?ht615 (fun K hK => ?_) (fun K hK => ?_)
        case hs615 => rfl
        case ht615 => rfl
        rotate_left
        · rw [if_pos (by rfl)]
          go_simp
          have hb616 : Below w614.heap.size w614 (w614.alloc (Obj.cells #[.bool false, .slice none 0 0] 44)) := below_al (Below.refl _ _) _
          have hq616 : Below wr.heap.size wr (w614.alloc (Obj.cells #[.bool false, .slice none 0 0] 44)) := bseqT hq614 hb616
          have hm616_2 := Lib.hid (hm614_2.out.up hb616)
          have hk616 := Lib.hid (show Blk (w614.alloc (Obj.cells #[.bool false, .slice none 0 0] 44)) w614.heap.size 44 [.bool false, .slice none 0 0] from World.alloc_heap_new w614 _)
          have hz616 : wr.heap.size ≤ w614.heap.size := hq614.size
          refine hK.out _ _ (fun _ => ⟨hq616, hup.out _ hq616⟩) (fun hHeld => ?_)
          clear hHeld hK K
          refine wpAnyT_one (i := 4) (o := ?os617) (by kernel_rfl) ?hs617 (fun K hK => ?_)
          case hs617 => rfl
          rw [if_pos (by rfl)]
          go_simp
          go_at_call 34; (with_reducible refine (hzd.out _).mono ?_); rintro e w618 ⟨a618, c618, rfl, hm, hb⟩
          have hq618 : Below wr.heap.size wr w618 := bseqT hq616 hb
          have hm618_2 := Lib.hid (hm616_2.out.up hb)
          have hm618_4 := Lib.hid hm
          have hk618 := Lib.hid (Blk.later hk616.out hb)
          clear hm hb
          (try go_wp2_with (fail))
          refine hK.out _ _ (fun _ => ⟨hq618, hup.out _ hq618⟩) (fun hHeld => ?_)
          clear hHeld hK K
          refine wpAnyT_one (i := 7) (o := ?os619) (by kernel_rfl) ?hs619 (fun K hK => ?_)
          case hs619 => rfl
          rw [if_pos (by rfl)]
          go_simp
          go_at_call 64; (with_reducible refine (zmulN ay ay cy cy q q Q2 _ (hiy.out.up hq618) (hiy.out.up hq618) lq.out lq.out hQ2H.out).mono ?_); rintro e w620 ⟨a620, c620, rfl, hm, hb⟩
          have hq620 : Below wr.heap.size wr w620 := bseqT hq618 hb
          have hm620_2 := Lib.hid (hm618_2.out.up hb)
          have hm620_4 := Lib.hid (hm618_4.out.up hb)
          have hm620_7 := Lib.hid hm
          have hk620 := Lib.hid (Blk.later hk618.out hb)
          clear hm hb
          (try go_wp2_with (fail))
          refine hK.out _ _ (fun _ => ⟨hq620, hup.out _ hq620⟩) (fun hHeld => ?_)
          clear hHeld hK K
          refine wpAnyT_one (i := 8) (o := ?os621) (by kernel_rfl) ?hs621 (fun K hK => ?_)
          case hs621 => rfl
          rw [if_pos (by rfl)]
          go_simp
          go_at_call 64; (with_reducible refine (zmulN a618 a620 c618 c620 d Q2 D2 _ hm620_4.out hm620_7.out ld.out lQ2.out hD2H.out).mono ?_); rintro e w622 ⟨a622, c622, rfl, hm, hb⟩
          have hq622 : Below wr.heap.size wr w622 := bseqT hq620 hb
          have hm622_2 := Lib.hid (hm620_2.out.up hb)
          have hm622_4 := Lib.hid (hm620_4.out.up hb)
          have hm622_7 := Lib.hid (hm620_7.out.up hb)
          have hm622_8 := Lib.hid hm
          have hk622 := Lib.hid (Blk.later hk620.out hb)
          clear hm hb
          (try go_wp2_with (fail))
          refine hK.out _ _ (fun _ => ⟨hq622, hup.out _ hq622⟩) (fun hHeld => ?_)
          clear hHeld hK K
          refine wpAnyT_one (i := 9) (o := ?os623) (by kernel_rfl) ?hs623 (fun K hK => ?_)
          case hs623 => rfl
          rw [if_pos (by rfl)]
          go_simp
          go_at_call 63; (with_reducible refine (zsubI a614 a622 c614 c622 (P2 : Int) (D2 : Int) v _ hm622_2.out hm622_8.out lP2.out lD2.out hvH.out).mono ?_); rintro e w624 ⟨a624, c624, rfl, hm, hb⟩
          have hq624 : Below wr.heap.size wr w624 := bseqT hq622 hb
          have hm624_2 := Lib.hid (hm622_2.out.up hb)
          have hm624_4 := Lib.hid (hm622_4.out.up hb)
          have hm624_7 := Lib.hid (hm622_7.out.up hb)
          have hm624_8 := Lib.hid (hm622_8.out.up hb)
          have hm624_9 := Lib.hid hm
          have hk624 := Lib.hid (Blk.later hk622.out hb)
          have r0 := hk624.out.cell 0
          have r1 := hk624.out.cell 1
          have f0 := hk624.out.frozen 0
          have f1 := hk624.out.frozen 1
          clear hm hb
          (try go_wp2_with (fail))
          refine hK.out _ _ (fun _ => ⟨hq624, hup.out _ hq624⟩) (fun hHeld => ?_)
          clear hHeld hK K
          refine wpAnyT_one (i := 11) (o := ?os625) (by kernel_rfl) ?hs625 (fun K hK => ?_)
          case hs625 => rfl
          rw [if_pos (by rfl)]
          go_simp
          have hpz : PZs w624 w614.heap.size 0 := ⟨none, 0, hk624.out, MagZ.zero _ _ _⟩
          have hS2 : Below wr.heap.size wr (putZ w624 w614.heap.size v a624 c624) := putZ_below hq624 hz616
          refine hK.out _ _ (fun _ => ⟨hS2, hup.out _ hS2⟩) (fun hHeld => ?_)
          clear hHeld hK K
          refine wpAnyT_done (by kernel_rfl) ?_ _
          go_wp2_with (fail)
          go_meet
          exact ⟨w614.heap.size, rfl, PZs.put hpz hm624_9.out, hz616, hS2⟩
        rw [if_pos (by rfl)]
        go_simp
        go_at_call 34; (with_reducible refine (hzd.out _).mono ?_); rintro e w626 ⟨a626, c626, rfl, hm, hb⟩
        have hq626 : Below wr.heap.size wr w626 := bseqT hq614 hb
        have hm626_2 := Lib.hid (hm614_2.out.up hb)
        have hm626_4 := Lib.hid hm
        clear hm hb
        (try go_wp2_with (fail))
        refine hK.out _ _ (fun _ => ⟨hq626, hup.out _ hq626⟩) (fun hHeld => ?_)
        clear hHeld hK K
        refine wpAnyT_two (i := 7) (j := 10) (oi := ?os627) (oj := ?ot627) (by kernel_rfl) ?hs627 ?ht627 (fun K hK => ?_) (fun K hK => ?_)
        case hs627 => rfl
        case ht627 => rfl
        rotate_left
        · rw [if_pos (by rfl)]
          go_simp
          have hb628 : Below w626.heap.size w626 (w626.alloc (Obj.cells #[.bool false, .slice none 0 0] 44)) := below_al (Below.refl _ _) _
          have hq628 : Below wr.heap.size wr (w626.alloc (Obj.cells #[.bool false, .slice none 0 0] 44)) := bseqT hq626 hb628
          have hm628_2 := Lib.hid (hm626_2.out.up hb628)
          have hm628_4 := Lib.hid (hm626_4.out.up hb628)
          have hk628 := Lib.hid (show Blk (w626.alloc (Obj.cells #[.bool false, .slice none 0 0] 44)) w626.heap.size 44 [.bool false, .slice none 0 0] from World.alloc_heap_new w626 _)
          have hz628 : wr.heap.size ≤ w626.heap.size := hq626.size
          refine hK.out _ _ (fun _ => ⟨hq628, hup.out _ hq628⟩) (fun hHeld => ?_)
          clear hHeld hK K
          refine wpAnyT_one (i := 7) (o := ?os629) (by kernel_rfl) ?hs629 (fun K hK => ?_)
          case hs629 => rfl
          rw [if_pos (by rfl)]
          go_simp
          go_at_call 64; (with_reducible refine (zmulN ay ay cy cy q q Q2 _ (hiy.out.up hq628) (hiy.out.up hq628) lq.out lq.out hQ2H.out).mono ?_); rintro e w630 ⟨a630, c630, rfl, hm, hb⟩
          have hq630 : Below wr.heap.size wr w630 := bseqT hq628 hb
          have hm630_2 := Lib.hid (hm628_2.out.up hb)
          have hm630_4 := Lib.hid (hm628_4.out.up hb)
          have hm630_7 := Lib.hid hm
          have hk630 := Lib.hid (Blk.later hk628.out hb)
          clear hm hb
          (try go_wp2_with (fail))
          refine hK.out _ _ (fun _ => ⟨hq630, hup.out _ hq630⟩) (fun hHeld => ?_)
          clear hHeld hK K
          refine wpAnyT_one (i := 8) (o := ?os631) (by kernel_rfl) ?hs631 (fun K hK => ?_)
          case hs631 => rfl
          rw [if_pos (by rfl)]
          go_simp
          go_at_call 64; (with_reducible refine (zmulN a626 a630 c626 c630 d Q2 D2 _ hm630_4.out hm630_7.out ld.out lQ2.out hD2H.out).mono ?_); rintro e w632 ⟨a632, c632, rfl, hm, hb⟩
          have hq632 : Below wr.heap.size wr w632 := bseqT hq630 hb
          have hm632_2 := Lib.hid (hm630_2.out.up hb)
          have hm632_4 := Lib.hid (hm630_4.out.up hb)
          have hm632_7 := Lib.hid (hm630_7.out.up hb)
          have hm632_8 := Lib.hid hm
          have hk632 := Lib.hid (Blk.later hk630.out hb)
          clear hm hb
          (try go_wp2_with (fail))
          refine hK.out _ _ (fun _ => ⟨hq632, hup.out _ hq632⟩) (fun hHeld => ?_)
          clear hHeld hK K
          refine wpAnyT_one (i := 9) (o := ?os633) (by kernel_rfl) ?hs633 (fun K hK => ?_)
          case hs633 => rfl
          rw [if_pos (by rfl)]
          go_simp
          go_at_call 63; (with_reducible refine (zsubI a614 a632 c614 c632 (P2 : Int) (D2 : Int) v _ hm632_2.out hm632_8.out lP2.out lD2.out hvH.out).mono ?_); rintro e w634 ⟨a634, c634, rfl, hm, hb⟩
          have hq634 : Below wr.heap.size wr w634 := bseqT hq632 hb
          have hm634_2 := Lib.hid (hm632_2.out.up hb)
          have hm634_4 := Lib.hid (hm632_4.out.up hb)
          have hm634_7 := Lib.hid (hm632_7.out.up hb)
          have hm634_8 := Lib.hid (hm632_8.out.up hb)
          have hm634_9 := Lib.hid hm
          have hk634 := Lib.hid (Blk.later hk632.out hb)
          have r0 := hk634.out.cell 0
          have r1 := hk634.out.cell 1
          have f0 := hk634.out.frozen 0
          have f1 := hk634.out.frozen 1
          clear hm hb
          (try go_wp2_with (fail))
          refine hK.out _ _ (fun _ => ⟨hq634, hup.out _ hq634⟩) (fun hHeld => ?_)
          clear hHeld hK K
          refine wpAnyT_one (i := 11) (o := ?os635) (by kernel_rfl) ?hs635 (fun K hK => ?_)
          case hs635 => rfl
          rw [if_pos (by rfl)]
          go_simp
          have hpz : PZs w634 w626.heap.size 0 := ⟨none, 0, hk634.out, MagZ.zero _ _ _⟩
          have hS2 : Below wr.heap.size wr (putZ w634 w626.heap.size v a634 c634) := putZ_below hq634 hz628
          refine hK.out _ _ (fun _ => ⟨hS2, hup.out _ hS2⟩) (fun hHeld => ?_)
          clear hHeld hK K
          refine wpAnyT_done (by kernel_rfl) ?_ _
          go_wp2_with (fail)
          go_meet
          exact ⟨w626.heap.size, rfl, PZs.put hpz hm634_9.out, hz628, hS2⟩
        rw [if_pos (by rfl)]
        go_simp
        go_at_call 64; (with_reducible refine (zmulN ay ay cy cy q q Q2 _ (hiy.out.up hq626) (hiy.out.up hq626) lq.out lq.out hQ2H.out).mono ?_); rintro e w636 ⟨a636, c636, rfl, hm, hb⟩
        have hq636 : Below wr.heap.size wr w636 := bseqT hq626 hb
        have hm636_2 := Lib.hid (hm626_2.out.up hb)
        have hm636_4 := Lib.hid (hm626_4.out.up hb)
        have hm636_7 := Lib.hid hm
        clear hm hb
        (try go_wp2_with (fail))
        refine hK.out _ _ (fun _ => ⟨hq636, hup.out _ hq636⟩) (fun hHeld => ?_)
        clear hHeld hK K
        refine wpAnyT_two (i := 8) (j := 10) (oi := ?os637) (oj := ?ot637) (by kernel_rfl) ?hs637 ?ht637 (fun K hK => ?_) (fun K hK => ?_)
        case hs637 => rfl
        case ht637 => rfl
        rotate_left
        · rw [if_pos (by rfl)]
          go_simp
          have hb638 : Below w636.heap.size w636 (w636.alloc (Obj.cells #[.bool false, .slice none 0 0] 44)) := below_al (Below.refl _ _) _
          have hq638 : Below wr.heap.size wr (w636.alloc (Obj.cells #[.bool false, .slice none 0 0] 44)) := bseqT hq636 hb638
          have hm638_2 := Lib.hid (hm636_2.out.up hb638)
          have hm638_4 := Lib.hid (hm636_4.out.up hb638)
          have hm638_7 := Lib.hid (hm636_7.out.up hb638)
          have hk638 := Lib.hid (show Blk (w636.alloc (Obj.cells #[.bool false, .slice none 0 0] 44)) w636.heap.size 44 [.bool false, .slice none 0 0] from World.alloc_heap_new w636 _)
          have hz638 : wr.heap.size ≤ w636.heap.size := hq636.size
          refine hK.out _ _ (fun _ => ⟨hq638, hup.out _ hq638⟩) (fun hHeld => ?_)
          clear hHeld hK K
          refine wpAnyT_one (i := 8) (o := ?os639) (by kernel_rfl) ?hs639 (fun K hK => ?_)
          case hs639 => rfl
          rw [if_pos (by rfl)]
          go_simp
          go_at_call 64; (with_reducible refine (zmulN a626 a636 c626 c636 d Q2 D2 _ hm638_4.out hm638_7.out ld.out lQ2.out hD2H.out).mono ?_); rintro e w640 ⟨a640, c640, rfl, hm, hb⟩
          have hq640 : Below wr.heap.size wr w640 := bseqT hq638 hb
          have hm640_2 := Lib.hid (hm638_2.out.up hb)
          have hm640_4 := Lib.hid (hm638_4.out.up hb)
          have hm640_7 := Lib.hid (hm638_7.out.up hb)
          have hm640_8 := Lib.hid hm
          have hk640 := Lib.hid (Blk.later hk638.out hb)
          clear hm hb
          (try go_wp2_with (fail))
          refine hK.out _ _ (fun _ => ⟨hq640, hup.out _ hq640⟩) (fun hHeld => ?_)
          clear hHeld hK K
          refine wpAnyT_one (i := 9) (o := ?os641) (by kernel_rfl) ?hs641 (fun K hK => ?_)
          case hs641 => rfl
          rw [if_pos (by rfl)]
          go_simp
          go_at_call 63; (with_reducible refine (zsubI a614 a640 c614 c640 (P2 : Int) (D2 : Int) v _ hm640_2.out hm640_8.out lP2.out lD2.out hvH.out).mono ?_); rintro e w642 ⟨a642, c642, rfl, hm, hb⟩
          have hq642 : Below wr.heap.size wr w642 := bseqT hq640 hb
          have hm642_2 := Lib.hid (hm640_2.out.up hb)
          have hm642_4 := Lib.hid (hm640_4.out.up hb)
          have hm642_7 := Lib.hid (hm640_7.out.up hb)
          have hm642_8 := Lib.hid (hm640_8.out.up hb)
          have hm642_9 := Lib.hid hm
          have hk642 := Lib.hid (Blk.later hk640.out hb)
          have r0 := hk642.out.cell 0
          have r1 := hk642.out.cell 1
          have f0 := hk642.out.frozen 0
          have f1 := hk642.out.frozen 1
          clear hm hb
          (try go_wp2_with (fail))
          refine hK.out _ _ (fun _ => ⟨hq642, hup.out _ hq642⟩) (fun hHeld => ?_)
          clear hHeld hK K
          refine wpAnyT_one (i := 11) (o := ?os643) (by kernel_rfl) ?hs643 (fun K hK => ?_)
          case hs643 => rfl
          rw [if_pos (by rfl)]
          go_simp
          have hpz : PZs w642 w636.heap.size 0 := ⟨none, 0, hk642.out, MagZ.zero _ _ _⟩
          have hS2 : Below wr.heap.size wr (putZ w642 w636.heap.size v a642 c642) := putZ_below hq642 hz638
          refine hK.out _ _ (fun _ => ⟨hS2, hup.out _ hS2⟩) (fun hHeld => ?_)
          clear hHeld hK K
          refine wpAnyT_done (by kernel_rfl) ?_ _
          go_wp2_with (fail)
          go_meet
          exact ⟨w636.heap.size, rfl, PZs.put hpz hm642_9.out, hz638, hS2⟩
        rw [if_pos (by rfl)]
        go_simp
        go_at_call 64; (with_reducible refine (zmulN a626 a636 c626 c636 d Q2 D2 _ hm636_4.out hm636_7.out ld.out lQ2.out hD2H.out).mono ?_); rintro e w644 ⟨a644, c644, rfl, hm, hb⟩
        have hq644 : Below wr.heap.size wr w644 := bseqT hq636 hb
        have hm644_2 := Lib.hid (hm636_2.out.up hb)
        have hm644_4 := Lib.hid (hm636_4.out.up hb)
        have hm644_7 := Lib.hid (hm636_7.out.up hb)
        have hm644_8 := Lib.hid hm
        clear hm hb
        (try go_wp2_with (fail))
        refine hK.out _ _ (fun _ => ⟨hq644, hup.out _ hq644⟩) (fun hHeld => ?_)
        clear hHeld hK K
        refine wpAnyT_two (i := 9) (j := 10) (oi := ?os645) (oj := ?ot645) (by kernel_rfl) ?hs645 ?ht645 (fun K hK => ?_) (fun K hK => ?_)
        case hs645 => rfl
        case ht645 => rfl
        rotate_left
        · rw [if_pos (by rfl)]
          go_simp
          have hb646 : Below w644.heap.size w644 (w644.alloc (Obj.cells #[.bool false, .slice none 0 0] 44)) := below_al (Below.refl _ _) _
          have hq646 : Below wr.heap.size wr (w644.alloc (Obj.cells #[.bool false, .slice none 0 0] 44)) := bseqT hq644 hb646
          have hm646_2 := Lib.hid (hm644_2.out.up hb646)
          have hm646_4 := Lib.hid (hm644_4.out.up hb646)
          have hm646_7 := Lib.hid (hm644_7.out.up hb646)
          have hm646_8 := Lib.hid (hm644_8.out.up hb646)
          have hk646 := Lib.hid (show Blk (w644.alloc (Obj.cells #[.bool false, .slice none 0 0] 44)) w644.heap.size 44 [.bool false, .slice none 0 0] from World.alloc_heap_new w644 _)
          have hz646 : wr.heap.size ≤ w644.heap.size := hq644.size
          refine hK.out _ _ (fun _ => ⟨hq646, hup.out _ hq646⟩) (fun hHeld => ?_)
          clear hHeld hK K
          refine wpAnyT_one (i := 9) (o := ?os647) (by kernel_rfl) ?hs647 (fun K hK => ?_)
          case hs647 => rfl
          rw [if_pos (by rfl)]
          go_simp
          go_at_call 63; (with_reducible refine (zsubI a614 a644 c614 c644 (P2 : Int) (D2 : Int) v _ hm646_2.out hm646_8.out lP2.out lD2.out hvH.out).mono ?_); rintro e w648 ⟨a648, c648, rfl, hm, hb⟩
          have hq648 : Below wr.heap.size wr w648 := bseqT hq646 hb
          have hm648_2 := Lib.hid (hm646_2.out.up hb)
          have hm648_4 := Lib.hid (hm646_4.out.up hb)
          have hm648_7 := Lib.hid (hm646_7.out.up hb)
          have hm648_8 := Lib.hid (hm646_8.out.up hb)
          have hm648_9 := Lib.hid hm
          have hk648 := Lib.hid (Blk.later hk646.out hb)
          have r0 := hk648.out.cell 0
          have r1 := hk648.out.cell 1
          have f0 := hk648.out.frozen 0
          have f1 := hk648.out.frozen 1
          clear hm hb
          (try go_wp2_with (fail))
          refine hK.out _ _ (fun _ => ⟨hq648, hup.out _ hq648⟩) (fun hHeld => ?_)
          clear hHeld hK K
          refine wpAnyT_one (i := 11) (o := ?os649) (by kernel_rfl) ?hs649 (fun K hK => ?_)
          case hs649 => rfl
          rw [if_pos (by rfl)]
          go_simp
          have hpz : PZs w648 w644.heap.size 0 := ⟨none, 0, hk648.out, MagZ.zero _ _ _⟩
          have hS2 : Below wr.heap.size wr (putZ w648 w644.heap.size v a648 c648) := putZ_below hq648 hz646
          refine hK.out _ _ (fun _ => ⟨hS2, hup.out _ hS2⟩) (fun hHeld => ?_)
          clear hHeld hK K
          refine wpAnyT_done (by kernel_rfl) ?_ _
          go_wp2_with (fail)
          go_meet
          exact ⟨w644.heap.size, rfl, PZs.put hpz hm648_9.out, hz646, hS2⟩
        rw [if_pos (by rfl)]
        go_simp
        go_at_call 63; (with_reducible refine (zsubI a614 a644 c614 c644 (P2 : Int) (D2 : Int) v _ hm644_2.out hm644_8.out lP2.out lD2.out hvH.out).mono ?_); rintro e w650 ⟨a650, c650, rfl, hm, hb⟩
        have hq650 : Below wr.heap.size wr w650 := bseqT hq644 hb
        have hm650_2 := Lib.hid (hm644_2.out.up hb)
        have hm650_4 := Lib.hid (hm644_4.out.up hb)
        have hm650_7 := Lib.hid (hm644_7.out.up hb)
        have hm650_8 := Lib.hid (hm644_8.out.up hb)
        have hm650_9 := Lib.hid hm
        clear hm hb
        (try go_wp2_with (fail))
        refine hK.out _ _ (fun _ => ⟨hq650, hup.out _ hq650⟩) (fun hHeld => ?_)
        clear hHeld hK K
        refine wpAnyT_one (i := 10) (o := ?os651) (by kernel_rfl) ?hs651 (fun K hK => ?_)
        case hs651 => rfl
        rw [if_pos (by rfl)]
        go_simp
        have hb652 : Below w650.heap.size w650 (w650.alloc (Obj.cells #[.bool false, .slice none 0 0] 44)) := below_al (Below.refl _ _) _
        have hq652 : Below wr.heap.size wr (w650.alloc (Obj.cells #[.bool false, .slice none 0 0] 44)) := bseqT hq650 hb652
        have hm652_2 := Lib.hid (hm650_2.out.up hb652)
        have hm652_4 := Lib.hid (hm650_4.out.up hb652)
        have hm652_7 := Lib.hid (hm650_7.out.up hb652)
        have hm652_8 := Lib.hid (hm650_8.out.up hb652)
        have hm652_9 := Lib.hid (hm650_9.out.up hb652)
        have hk652 := Lib.hid (show Blk (w650.alloc (Obj.cells #[.bool false, .slice none 0 0] 44)) w650.heap.size 44 [.bool false, .slice none 0 0] from World.alloc_heap_new w650 _)
        have hz652 : wr.heap.size ≤ w650.heap.size := hq650.size
        refine hK.out _ _ (fun _ => ⟨hq652, hup.out _ hq652⟩) (fun hHeld => ?_)
        clear hHeld hK K
        refine wpAnyT_one (i := 11) (o := ?os653) (by kernel_rfl) ?hs653 (fun K hK => ?_)
        case hs653 => rfl
        rw [if_pos (by rfl)]
        go_simp
        refine hK.out _ _ (fun _ => ⟨below_al hq650 _, hup.out _ (below_al hq650 _)⟩) (fun hHeld => ?_)
        clear hHeld hK K
        refine wpAnyT_done (by kernel_rfl) ?_ _
        go_wp2_with (fail)
        go_meet
        exact ⟨_, rfl, PZs.new hm650_9.out, hq650.size, below_al hq650 _⟩
        -- six end
      case rest =>
      obtain ⟨B7, rfl, hv7, hB7, hbx7⟩ := hcut
      obtain ⟨wx, hwx⟩ : ∃ wx, wx = wc := ⟨_, rfl⟩
      subst hwx
      obtain ⟨av, cv, hbv, hiv⟩ := hv7
      have hivH := Lib.hid (show ZM wx av cv v from hiv)
      have hbx7H := Lib.hid hbx7
      have hq1 : wx.cell? ⟨B7, 0, none⟩ = some (.bool (ng v)) ∧ wx.cell? ⟨B7, 1, none⟩ = some (.slice av (LZ v) cv) ∧ wx.cell? ⟨B1 + 1, 0, none⟩ = some (.bool (ng (q : Int))) ∧ wx.cell? ⟨B1 + 1, 1, none⟩ = some (.slice ay (LZ (q : Int)) cy) := ⟨by rw [hbv.cell]; rfl, by rw [hbv.cell]; rfl, (hup.out _ hbx7).2.2.1, (hup.out _ hbx7).2.2.2⟩
      have hup7 : Hid (∀ W, Below wx.heap.size wx W → W.cell? ⟨B7, 0, none⟩ = some (.bool (ng v)) ∧ W.cell? ⟨B7, 1, none⟩ = some (.slice av (LZ v) cv) ∧ W.cell? ⟨B1 + 1, 0, none⟩ = some (.bool (ng (q : Int))) ∧ W.cell? ⟨B1 + 1, 1, none⟩ = some (.slice ay (LZ (q : Int)) cy)) := fun W hW =>
        ⟨Below.cellAt hW (Nat.le_refl _) hq1.1, Below.cellAt hW (Nat.le_refl _) hq1.2.1, Below.cellAt hW (Nat.le_refl _) hq1.2.2.1, Below.cellAt hW (Nat.le_refl _) hq1.2.2.2⟩
      have hBx : Below wx.heap.size wx wx := Below.refl _ _
      obtain ⟨bs, hbs⟩ : ∃ bs, isSol d neg p q = bs := ⟨_, rfl⟩
      have hbs2 : (decide (v = sg) && decide (0 < q)) = bs := by
        rw [← hsgH.out, ← isSol_eq (d := d) (p := p) (q := q) (by rw [hP2H.out, hQ2H.out, hD2H.out]; exact hvH.out)]
        exact hbs
      have hbsH := Lib.hid hbs
      have hsl : Hid (LZ sg ≤ 1000) := Nat.le_trans hsgl.out (by omega)
      clear hbs hbx7 hiv hbv
      obtain ⟨x0, x1, x2, x3⟩ := hq1
      go_upto_region 7 with (fail)
      go_cut [53] from 44 to 53 (fun bv wz => bv = .bool bs ∧ Below wx.heap.size wx wz)
      case first =>
        -- tail S: fun W => Below wx.heap.size wx W ∧ W.cell? ⟨B7, 0, none⟩ = some (.bool (ng v)) ∧ W.cell? ⟨B7, 1, none⟩ = some (.slice av (LZ v) cv) ∧ W.cell? ⟨B1 + 1, 0, none⟩ = some (.bool (ng (q : Int))) ∧ W.cell? ⟨B1 + 1, 1, none⟩ = some (.slice ay (LZ (q : Int)) cy)
        -- tail s0: ⟨Below.drew hBx, hup7.out _ (Below.drew hBx)⟩
        -- arm 2: go_at_call 34; (with_reducible refine (hzsg.out _).mono ?_); rintro e w11 ⟨a11, c11, rfl, hm, hb⟩; have hq11 : Below wx.heap.size wx w11 := bseqT hHeld.1 hb; have hm11 := Lib.hid hm; clear hm hb
        -- arm 2 s: ⟨hq11, hup7.out _ hq11⟩
        by_cases hvs : v = sg
        · have hc0 := Lib.hid (sgsub_eq hvs)
          by_cases hq0 : 0 < q
          · have hc1 := Lib.hid (sg_posN hq0)
            obtain rfl : bs = true := by rw [← hbs2]; simp [hvs, hq0]
            clear hvs hbs2
            -- arm 3: go_at_call 65; (with_reducible refine (zcmpI av a11 cv c11 v sg 0 _ (hivH.out.up hq11) hm11.out lv.out hsl.out hc0.out).mono ?_); rintro e w12 ⟨rfl, hb⟩; have hq12 : Below wx.heap.size wx w12 := bseqT hq11 hb; clear hb
            -- arm 3 s: ⟨hq12, hup7.out _ hq12⟩
            -- arm 7: go_at_call 66; (with_reducible refine (zsignI ay cy (q : Int) 1 _ hc1.out).mono ?_); rintro e w13 ⟨rfl, hb⟩; have hq13 : Below wx.heap.size wx w13 := bseqT hq12 hb; clear hb
            -- arm 7 s: ⟨hq13, hup7.out _ hq13⟩
            -- tail ra 0 1 c2 c3 4 5 6 c7 8 9
            refine wp_region_tail (fun W => Below wx.heap.size wx W ∧ W.cell? ⟨B7, 0, none⟩ = some (.bool (ng v)) ∧ W.cell? ⟨B7, 1, none⟩ = some (.slice av (LZ v) cv) ∧ W.cell? ⟨B1 + 1, 0, none⟩ = some (.bool (ng (q : Int))) ∧ W.cell? ⟨B1 + 1, 1, none⟩ = some (.slice ay (LZ (q : Int)) cy)) (fun j => decide (1000 ≤ j)) (by kernel_rfl) (⟨Below.drew hBx, hup7.out _ (Below.drew hBx)⟩) (fun hHeld => ?_)
            refine wpAnyT_take (i := 0) (oi := ?oira0) (v := ?vra0) ?hora0 (by kernel_rfl) (by kernel_rfl) (by kernel_rfl) (by kernel_rfl) ?hqra0 (Or.inl ⟨?hwra0, ?hyra0⟩) (by assumption) ?_
            case hora0 => rfl
            case hwra0 => rfl
            case hyra0 => (intro w hSw; (try dsimp only at hSw); go_split_ands; go_simp; (try (with_reducible rfl)))
            case hqra0 => exact fun _ _ _ h => h
            simp only [Act.put, List.getElem_toArray, List.getElem_cons_zero, List.setIfInBounds_toArray, List.set_cons_zero, List.set_cons_succ]
            refine wpAnyT_take (i := 1) (oi := ?oira1) (v := ?vra1) ?hora1 (by kernel_rfl) (by kernel_rfl) (by kernel_rfl) (by kernel_rfl) ?hqra1 (Or.inl ⟨?hwra1, ?hyra1⟩) (by assumption) ?_
            case hora1 => rfl
            case hwra1 => rfl
            case hyra1 => (intro w hSw; (try dsimp only at hSw); go_split_ands; go_simp; (try (with_reducible rfl)))
            case hqra1 => exact fun _ _ _ h => h
            simp only [Act.put, List.getElem_toArray, List.getElem_cons_succ, List.getElem_cons_zero, List.setIfInBounds_toArray, List.set_cons_zero, List.set_cons_succ]
            refine wpAnyT_one (i := 2) (o := ?oira2) (by kernel_rfl) ?hora2 (fun K hK => ?_)
            case hora2 => rfl
            rw [if_pos (by rfl)]
            go_simp
            go_at_call 34; (with_reducible refine (hzsg.out _).mono ?_); rintro e w11 ⟨a11, c11, rfl, hm, hb⟩; have hq11 : Below wx.heap.size wx w11 := bseqT hHeld.1 hb; have hm11 := Lib.hid hm; clear hm hb
            (try go_wp2_with (fail))
            refine hK.out _ _ (fun _ => ⟨hq11, hup7.out _ hq11⟩) (fun hHeld => ?_)
            replace hHeld := hHeld rfl
            clear hK K
            refine wpAnyT_one (i := 3) (o := ?oira3) (by kernel_rfl) ?hora3 (fun K hK => ?_)
            case hora3 => rfl
            rw [if_pos (by rfl)]
            go_simp
            go_at_call 65; (with_reducible refine (zcmpI av a11 cv c11 v sg 0 _ (hivH.out.up hq11) hm11.out lv.out hsl.out hc0.out).mono ?_); rintro e w12 ⟨rfl, hb⟩; have hq12 : Below wx.heap.size wx w12 := bseqT hq11 hb; clear hb
            (try go_wp2_with (fail))
            refine hK.out _ _ (fun _ => ⟨hq12, hup7.out _ hq12⟩) (fun hHeld => ?_)
            replace hHeld := hHeld rfl
            clear hK K
            refine wpAnyT_take (i := 4) (oi := ?oira4) (v := ?vra4) ?hora4 (by kernel_rfl) (by kernel_rfl) (by kernel_rfl) (by kernel_rfl) ?hqra4 (Or.inl ⟨?hwra4, ?hyra4⟩) (by assumption) ?_
            case hora4 => rfl
            case hwra4 => rfl
            case hyra4 => (intro w hSw; (try dsimp only at hSw); go_split_ands; go_simp; (try (with_reducible rfl)))
            case hqra4 => exact fun _ _ _ h => h
            simp only [Act.put, List.getElem_toArray, List.getElem_cons_succ, List.getElem_cons_zero, List.setIfInBounds_toArray, List.set_cons_zero, List.set_cons_succ]
            refine wpAnyT_take (i := 5) (oi := ?oira5) (v := ?vra5) ?hora5 (by kernel_rfl) (by kernel_rfl) (by kernel_rfl) (by kernel_rfl) ?hqra5 (Or.inl ⟨?hwra5, ?hyra5⟩) (by assumption) ?_
            case hora5 => rfl
            case hwra5 => rfl
            case hyra5 => (intro w hSw; (try dsimp only at hSw); go_split_ands; go_simp; (try (with_reducible rfl)))
            case hqra5 => exact fun _ _ _ h => h
            simp only [Act.put, List.getElem_toArray, List.getElem_cons_succ, List.getElem_cons_zero, List.setIfInBounds_toArray, List.set_cons_zero, List.set_cons_succ]
            refine wpAnyT_take (i := 6) (oi := ?oira6) (v := ?vra6) ?hora6 (by kernel_rfl) (by kernel_rfl) (by kernel_rfl) (by kernel_rfl) ?hqra6 (Or.inl ⟨?hwra6, ?hyra6⟩) (by assumption) ?_
            case hora6 => rfl
            case hwra6 => rfl
            case hyra6 => (intro w hSw; (try dsimp only at hSw); go_split_ands; go_simp; (try (with_reducible rfl)))
            case hqra6 => exact fun _ _ _ h => h
            simp only [Act.put, List.getElem_toArray, List.getElem_cons_succ, List.getElem_cons_zero, List.setIfInBounds_toArray, List.set_cons_zero, List.set_cons_succ]
            refine wpAnyT_one (i := 7) (o := ?oira7) (by kernel_rfl) ?hora7 (fun K hK => ?_)
            case hora7 => rfl
            rw [if_pos (by rfl)]
            go_simp
            go_at_call 66; (with_reducible refine (zsignI ay cy (q : Int) 1 _ hc1.out).mono ?_); rintro e w13 ⟨rfl, hb⟩; have hq13 : Below wx.heap.size wx w13 := bseqT hq12 hb; clear hb
            (try go_wp2_with (fail))
            refine hK.out _ _ (fun _ => ⟨hq13, hup7.out _ hq13⟩) (fun hHeld => ?_)
            replace hHeld := hHeld rfl
            clear hK K
            refine wpAnyT_take (i := 8) (oi := ?oira8) (v := ?vra8) ?hora8 (by kernel_rfl) (by kernel_rfl) (by kernel_rfl) (by kernel_rfl) ?hqra8 (Or.inl ⟨?hwra8, ?hyra8⟩) (by assumption) ?_
            case hora8 => rfl
            case hwra8 => rfl
            case hyra8 => (intro w hSw; (try dsimp only at hSw); go_split_ands; go_simp; (try (with_reducible rfl)))
            case hqra8 => exact fun _ _ _ h => h
            simp only [Act.put, List.getElem_toArray, List.getElem_cons_succ, List.getElem_cons_zero, List.setIfInBounds_toArray, List.set_cons_zero, List.set_cons_succ]
            refine wpAnyT_take (i := 9) (oi := ?oira9) (v := ?vra9) ?hora9 (by kernel_rfl) (by kernel_rfl) (by kernel_rfl) (by kernel_rfl) ?hqra9 (Or.inl ⟨?hwra9, ?hyra9⟩) (by assumption) ?_
            case hora9 => rfl
            case hwra9 => rfl
            case hyra9 => (intro w hSw; (try dsimp only at hSw); go_split_ands; go_simp; (try (with_reducible rfl)))
            case hqra9 => exact fun _ _ _ h => h
            simp only [Act.put, List.getElem_toArray, List.getElem_cons_succ, List.getElem_cons_zero, List.setIfInBounds_toArray, List.set_cons_zero, List.set_cons_succ]
            refine wpAnyT_done (by kernel_rfl) ?_ _
            -- tail end
            go_wp2_with (fail)
            go_meet
            exact ⟨rfl, hq13⟩
          · have hc1 := Lib.hid (sg_zeroN hq0)
            obtain rfl : bs = false := by rw [← hbs2]; simp [hq0]
            clear hvs hbs2
            -- arm 3: go_at_call 65; (with_reducible refine (zcmpI av a11 cv c11 v sg 0 _ (hivH.out.up hq11) hm11.out lv.out hsl.out hc0.out).mono ?_); rintro e w12 ⟨rfl, hb⟩; have hq12 : Below wx.heap.size wx w12 := bseqT hq11 hb; clear hb
            -- arm 3 s: ⟨hq12, hup7.out _ hq12⟩
            -- arm 7: go_at_call 66; (with_reducible refine (zsignI ay cy (q : Int) 0 _ hc1.out).mono ?_); rintro e w13 ⟨rfl, hb⟩; have hq13 : Below wx.heap.size wx w13 := bseqT hq12 hb; clear hb
            -- arm 7 s: ⟨hq13, hup7.out _ hq13⟩
            -- tail rb 0 1 c2 c3 4 5 6 c7 8 9
            refine wp_region_tail (fun W => Below wx.heap.size wx W ∧ W.cell? ⟨B7, 0, none⟩ = some (.bool (ng v)) ∧ W.cell? ⟨B7, 1, none⟩ = some (.slice av (LZ v) cv) ∧ W.cell? ⟨B1 + 1, 0, none⟩ = some (.bool (ng (q : Int))) ∧ W.cell? ⟨B1 + 1, 1, none⟩ = some (.slice ay (LZ (q : Int)) cy)) (fun j => decide (1000 ≤ j)) (by kernel_rfl) (⟨Below.drew hBx, hup7.out _ (Below.drew hBx)⟩) (fun hHeld => ?_)
            refine wpAnyT_take (i := 0) (oi := ?oirb0) (v := ?vrb0) ?horb0 (by kernel_rfl) (by kernel_rfl) (by kernel_rfl) (by kernel_rfl) ?hqrb0 (Or.inl ⟨?hwrb0, ?hyrb0⟩) (by assumption) ?_
            case horb0 => rfl
            case hwrb0 => rfl
            case hyrb0 => (intro w hSw; (try dsimp only at hSw); go_split_ands; go_simp; (try (with_reducible rfl)))
            case hqrb0 => exact fun _ _ _ h => h
            simp only [Act.put, List.getElem_toArray, List.getElem_cons_zero, List.setIfInBounds_toArray, List.set_cons_zero, List.set_cons_succ]
            refine wpAnyT_take (i := 1) (oi := ?oirb1) (v := ?vrb1) ?horb1 (by kernel_rfl) (by kernel_rfl) (by kernel_rfl) (by kernel_rfl) ?hqrb1 (Or.inl ⟨?hwrb1, ?hyrb1⟩) (by assumption) ?_
            case horb1 => rfl
            case hwrb1 => rfl
            case hyrb1 => (intro w hSw; (try dsimp only at hSw); go_split_ands; go_simp; (try (with_reducible rfl)))
            case hqrb1 => exact fun _ _ _ h => h
            simp only [Act.put, List.getElem_toArray, List.getElem_cons_succ, List.getElem_cons_zero, List.setIfInBounds_toArray, List.set_cons_zero, List.set_cons_succ]
            refine wpAnyT_one (i := 2) (o := ?oirb2) (by kernel_rfl) ?horb2 (fun K hK => ?_)
            case horb2 => rfl
            rw [if_pos (by rfl)]
            go_simp
            go_at_call 34; (with_reducible refine (hzsg.out _).mono ?_); rintro e w11 ⟨a11, c11, rfl, hm, hb⟩; have hq11 : Below wx.heap.size wx w11 := bseqT hHeld.1 hb; have hm11 := Lib.hid hm; clear hm hb
            (try go_wp2_with (fail))
            refine hK.out _ _ (fun _ => ⟨hq11, hup7.out _ hq11⟩) (fun hHeld => ?_)
            replace hHeld := hHeld rfl
            clear hK K
            refine wpAnyT_one (i := 3) (o := ?oirb3) (by kernel_rfl) ?horb3 (fun K hK => ?_)
            case horb3 => rfl
            rw [if_pos (by rfl)]
            go_simp
            go_at_call 65; (with_reducible refine (zcmpI av a11 cv c11 v sg 0 _ (hivH.out.up hq11) hm11.out lv.out hsl.out hc0.out).mono ?_); rintro e w12 ⟨rfl, hb⟩; have hq12 : Below wx.heap.size wx w12 := bseqT hq11 hb; clear hb
            (try go_wp2_with (fail))
            refine hK.out _ _ (fun _ => ⟨hq12, hup7.out _ hq12⟩) (fun hHeld => ?_)
            replace hHeld := hHeld rfl
            clear hK K
            refine wpAnyT_take (i := 4) (oi := ?oirb4) (v := ?vrb4) ?horb4 (by kernel_rfl) (by kernel_rfl) (by kernel_rfl) (by kernel_rfl) ?hqrb4 (Or.inl ⟨?hwrb4, ?hyrb4⟩) (by assumption) ?_
            case horb4 => rfl
            case hwrb4 => rfl
            case hyrb4 => (intro w hSw; (try dsimp only at hSw); go_split_ands; go_simp; (try (with_reducible rfl)))
            case hqrb4 => exact fun _ _ _ h => h
            simp only [Act.put, List.getElem_toArray, List.getElem_cons_succ, List.getElem_cons_zero, List.setIfInBounds_toArray, List.set_cons_zero, List.set_cons_succ]
            refine wpAnyT_take (i := 5) (oi := ?oirb5) (v := ?vrb5) ?horb5 (by kernel_rfl) (by kernel_rfl) (by kernel_rfl) (by kernel_rfl) ?hqrb5 (Or.inl ⟨?hwrb5, ?hyrb5⟩) (by assumption) ?_
            case horb5 => rfl
            case hwrb5 => rfl
            case hyrb5 => (intro w hSw; (try dsimp only at hSw); go_split_ands; go_simp; (try (with_reducible rfl)))
            case hqrb5 => exact fun _ _ _ h => h
            simp only [Act.put, List.getElem_toArray, List.getElem_cons_succ, List.getElem_cons_zero, List.setIfInBounds_toArray, List.set_cons_zero, List.set_cons_succ]
            refine wpAnyT_take (i := 6) (oi := ?oirb6) (v := ?vrb6) ?horb6 (by kernel_rfl) (by kernel_rfl) (by kernel_rfl) (by kernel_rfl) ?hqrb6 (Or.inl ⟨?hwrb6, ?hyrb6⟩) (by assumption) ?_
            case horb6 => rfl
            case hwrb6 => rfl
            case hyrb6 => (intro w hSw; (try dsimp only at hSw); go_split_ands; go_simp; (try (with_reducible rfl)))
            case hqrb6 => exact fun _ _ _ h => h
            simp only [Act.put, List.getElem_toArray, List.getElem_cons_succ, List.getElem_cons_zero, List.setIfInBounds_toArray, List.set_cons_zero, List.set_cons_succ]
            refine wpAnyT_one (i := 7) (o := ?oirb7) (by kernel_rfl) ?horb7 (fun K hK => ?_)
            case horb7 => rfl
            rw [if_pos (by rfl)]
            go_simp
            go_at_call 66; (with_reducible refine (zsignI ay cy (q : Int) 0 _ hc1.out).mono ?_); rintro e w13 ⟨rfl, hb⟩; have hq13 : Below wx.heap.size wx w13 := bseqT hq12 hb; clear hb
            (try go_wp2_with (fail))
            refine hK.out _ _ (fun _ => ⟨hq13, hup7.out _ hq13⟩) (fun hHeld => ?_)
            replace hHeld := hHeld rfl
            clear hK K
            refine wpAnyT_take (i := 8) (oi := ?oirb8) (v := ?vrb8) ?horb8 (by kernel_rfl) (by kernel_rfl) (by kernel_rfl) (by kernel_rfl) ?hqrb8 (Or.inl ⟨?hwrb8, ?hyrb8⟩) (by assumption) ?_
            case horb8 => rfl
            case hwrb8 => rfl
            case hyrb8 => (intro w hSw; (try dsimp only at hSw); go_split_ands; go_simp; (try (with_reducible rfl)))
            case hqrb8 => exact fun _ _ _ h => h
            simp only [Act.put, List.getElem_toArray, List.getElem_cons_succ, List.getElem_cons_zero, List.setIfInBounds_toArray, List.set_cons_zero, List.set_cons_succ]
            refine wpAnyT_take (i := 9) (oi := ?oirb9) (v := ?vrb9) ?horb9 (by kernel_rfl) (by kernel_rfl) (by kernel_rfl) (by kernel_rfl) ?hqrb9 (Or.inl ⟨?hwrb9, ?hyrb9⟩) (by assumption) ?_
            case horb9 => rfl
            case hwrb9 => rfl
            case hyrb9 => (intro w hSw; (try dsimp only at hSw); go_split_ands; go_simp; (try (with_reducible rfl)))
            case hqrb9 => exact fun _ _ _ h => h
            simp only [Act.put, List.getElem_toArray, List.getElem_cons_succ, List.getElem_cons_zero, List.setIfInBounds_toArray, List.set_cons_zero, List.set_cons_succ]
            refine wpAnyT_done (by kernel_rfl) ?_ _
            -- tail end
            go_wp2_with (fail)
            go_meet
            exact ⟨rfl, hq13⟩
        · obtain ⟨z, hz, hz0⟩ := sgsub_ne hvs
          have hc0 := Lib.hid hz
          have hzb : (z == 0) = false := by simpa using hz0
          obtain rfl : bs = false := by rw [← hbs2]; simp [hvs]
          clear hvs hbs2 hz
          -- arm 3: go_at_call 65; (with_reducible refine (zcmpI av a11 cv c11 v sg z _ (hivH.out.up hq11) hm11.out lv.out hsl.out hc0.out).mono ?_); rintro e w12 ⟨rfl, hb⟩; have hq12 : Below wx.heap.size wx w12 := bseqT hq11 hb; clear hb
          -- arm 3 s: ⟨hq12, hup7.out _ hq12⟩
          -- tail rc 0 1 c2 c3 4 5 s6 s7 s8 9
          refine wp_region_tail (fun W => Below wx.heap.size wx W ∧ W.cell? ⟨B7, 0, none⟩ = some (.bool (ng v)) ∧ W.cell? ⟨B7, 1, none⟩ = some (.slice av (LZ v) cv) ∧ W.cell? ⟨B1 + 1, 0, none⟩ = some (.bool (ng (q : Int))) ∧ W.cell? ⟨B1 + 1, 1, none⟩ = some (.slice ay (LZ (q : Int)) cy)) (fun j => decide (1000 ≤ j)) (by kernel_rfl) (⟨Below.drew hBx, hup7.out _ (Below.drew hBx)⟩) (fun hHeld => ?_)
          refine wpAnyT_take (i := 0) (oi := ?oirc0) (v := ?vrc0) ?horc0 (by kernel_rfl) (by kernel_rfl) (by kernel_rfl) (by kernel_rfl) ?hqrc0 (Or.inl ⟨?hwrc0, ?hyrc0⟩) (by assumption) ?_
          case horc0 => rfl
          case hwrc0 => rfl
          case hyrc0 => (intro w hSw; (try dsimp only at hSw); go_split_ands; go_simp; (try (with_reducible rfl)))
          case hqrc0 => exact fun _ _ _ h => h
          simp only [Act.put, List.getElem_toArray, List.getElem_cons_zero, List.setIfInBounds_toArray, List.set_cons_zero, List.set_cons_succ]
          refine wpAnyT_take (i := 1) (oi := ?oirc1) (v := ?vrc1) ?horc1 (by kernel_rfl) (by kernel_rfl) (by kernel_rfl) (by kernel_rfl) ?hqrc1 (Or.inl ⟨?hwrc1, ?hyrc1⟩) (by assumption) ?_
          case horc1 => rfl
          case hwrc1 => rfl
          case hyrc1 => (intro w hSw; (try dsimp only at hSw); go_split_ands; go_simp; (try (with_reducible rfl)))
          case hqrc1 => exact fun _ _ _ h => h
          simp only [Act.put, List.getElem_toArray, List.getElem_cons_succ, List.getElem_cons_zero, List.setIfInBounds_toArray, List.set_cons_zero, List.set_cons_succ]
          refine wpAnyT_one (i := 2) (o := ?oirc2) (by kernel_rfl) ?horc2 (fun K hK => ?_)
          case horc2 => rfl
          rw [if_pos (by rfl)]
          go_simp
          go_at_call 34; (with_reducible refine (hzsg.out _).mono ?_); rintro e w11 ⟨a11, c11, rfl, hm, hb⟩; have hq11 : Below wx.heap.size wx w11 := bseqT hHeld.1 hb; have hm11 := Lib.hid hm; clear hm hb
          (try go_wp2_with (fail))
          refine hK.out _ _ (fun _ => ⟨hq11, hup7.out _ hq11⟩) (fun hHeld => ?_)
          replace hHeld := hHeld rfl
          clear hK K
          refine wpAnyT_one (i := 3) (o := ?oirc3) (by kernel_rfl) ?horc3 (fun K hK => ?_)
          case horc3 => rfl
          rw [if_pos (by rfl)]
          go_simp
          go_at_call 65; (with_reducible refine (zcmpI av a11 cv c11 v sg z _ (hivH.out.up hq11) hm11.out lv.out hsl.out hc0.out).mono ?_); rintro e w12 ⟨rfl, hb⟩; have hq12 : Below wx.heap.size wx w12 := bseqT hq11 hb; clear hb
          (try go_wp2_with (fail))
          refine hK.out _ _ (fun _ => ⟨hq12, hup7.out _ hq12⟩) (fun hHeld => ?_)
          replace hHeld := hHeld rfl
          clear hK K
          refine wpAnyT_take (i := 4) (oi := ?oirc4) (v := ?vrc4) ?horc4 (by kernel_rfl) (by kernel_rfl) (by kernel_rfl) (by kernel_rfl) ?hqrc4 (Or.inl ⟨?hwrc4, ?hyrc4⟩) (by assumption) ?_
          case horc4 => rfl
          case hwrc4 => rfl
          case hyrc4 => (intro w hSw; (try dsimp only at hSw); go_split_ands; go_simp; (try (with_reducible rfl)))
          case hqrc4 => exact fun _ _ _ h => h
          simp only [Act.put, List.getElem_toArray, List.getElem_cons_succ, List.getElem_cons_zero, List.setIfInBounds_toArray, List.set_cons_zero, List.set_cons_succ]
          refine wpAnyT_take (i := 5) (oi := ?oirc5) (v := ?vrc5) ?horc5 (by kernel_rfl) (by kernel_rfl) (by kernel_rfl) (by kernel_rfl) ?hqrc5 (Or.inl ⟨?hwrc5, ?hyrc5⟩) (by assumption) ?_
          case horc5 => rfl
          case hwrc5 => rfl
          case hyrc5 => (intro w hSw; (try dsimp only at hSw); go_split_ands; go_simp; (try (with_reducible rfl)))
          case hqrc5 => exact fun _ _ _ h => h
          simp only [Act.put, List.getElem_toArray, List.getElem_cons_succ, List.getElem_cons_zero, List.setIfInBounds_toArray, List.set_cons_zero, List.set_cons_succ]
          refine wpAnyT_take (i := 6) (oi := ?oirc6) (v := undef) ?horc6 (by kernel_rfl) (by kernel_rfl) (by kernel_rfl) (by kernel_rfl) ?hqrc6 (Or.inr ⟨?hwrc6, rfl⟩) (by assumption) ?_
          case horc6 => rfl
          case hwrc6 => rfl
          case hqrc6 => exact fun _ _ _ h => h
          simp only [Act.put, List.getElem_toArray, List.getElem_cons_succ, List.getElem_cons_zero, List.setIfInBounds_toArray, List.set_cons_zero, List.set_cons_succ]
          refine wpAnyT_take (i := 7) (oi := ?oirc7) (v := undef) ?horc7 (by kernel_rfl) (by kernel_rfl) (by kernel_rfl) (by kernel_rfl) ?hqrc7 (Or.inr ⟨?hwrc7, rfl⟩) (by assumption) ?_
          case horc7 => rfl
          case hwrc7 => rfl
          case hqrc7 => exact fun _ _ _ h => h
          simp only [Act.put, List.getElem_toArray, List.getElem_cons_succ, List.getElem_cons_zero, List.setIfInBounds_toArray, List.set_cons_zero, List.set_cons_succ]
          refine wpAnyT_take (i := 8) (oi := ?oirc8) (v := undef) ?horc8 (by kernel_rfl) (by kernel_rfl) (by kernel_rfl) (by kernel_rfl) ?hqrc8 (Or.inr ⟨?hwrc8, rfl⟩) (by assumption) ?_
          case horc8 => rfl
          case hwrc8 => rfl
          case hqrc8 => exact fun _ _ _ h => h
          simp only [Act.put, List.getElem_toArray, List.getElem_cons_succ, List.getElem_cons_zero, List.setIfInBounds_toArray, List.set_cons_zero, List.set_cons_succ]
          refine wpAnyT_take (i := 9) (oi := ?oirc9) (v := ?vrc9) ?horc9 (by kernel_rfl) (by kernel_rfl) (by kernel_rfl) (by kernel_rfl) ?hqrc9 (Or.inl ⟨?hwrc9, ?hyrc9⟩) (by assumption) ?_
          case horc9 => rfl
          case hwrc9 => rfl
          case hyrc9 => (intro w hSw; (try dsimp only at hSw); go_split_ands; go_simp; (try (with_reducible rfl)))
          case hqrc9 => exact fun _ _ _ h => h
          simp only [Act.put, List.getElem_toArray, List.getElem_cons_succ, List.getElem_cons_zero, List.setIfInBounds_toArray, List.set_cons_zero, List.set_cons_succ]
          refine wpAnyT_done (by kernel_rfl) ?_ _
          -- tail end
          go_wp2_with (fail)
          go_meet
          exact ⟨rfl, hq12⟩
      case rest =>
      obtain ⟨rfl, hbz⟩ := hcut
      obtain ⟨wz, hwz⟩ : ∃ wz, wz = wc := ⟨_, rfl⟩
      subst hwz
      have hbrz := Lib.hid (bseqT hbx7H.out hbz)
      have hPz := Lib.hid (hPH.out.below hbrz.out)
      have hIz := Lib.hid (hIH.out.below hbrz.out)
      have hblz := Lib.hid (bseqT hblH.out hbrz.out)
      have hixz := Lib.hid (hix.out.up hbrz.out)
      have hiyz := Lib.hid (hiy.out.up hbrz.out)
      have hqz := hup.out _ hbrz.out
      clear hbs2 hup7 hivH hbx7H hbz hB7 x0 x1 x2 x3 hBx hP2H hQ2H hD2H hvH lP2 lQ2 lD2 lv ld hzd hup hPH hIH hblH hix hiy k0 k1 k2 k3 hB0
      cases bs with
      | true =>
        obtain ⟨z0, z1, z2, z3⟩ := hqz
        obtain ⟨au, cu, hbu, hiu⟩ := hPz.out.u
        obtain ⟨aw, cw, hbw, hiw⟩ := hPz.out.v
        have u0 : wz.cell? ⟨w.heap.size, 0, none⟩ = some (.bool (ng 0)) := by rw [hbu.cell]; rfl
        have u1 : wz.cell? ⟨w.heap.size, 1, none⟩ = some (.slice au (LZ 0) cu) := by rw [hbu.cell]; rfl
        have u2 : wz.cell? ⟨w.heap.size + 1, 0, none⟩ = some (.bool (ng 0)) := by rw [hbw.cell]; rfl
        have u3 : wz.cell? ⟨w.heap.size + 1, 1, none⟩ = some (.slice aw (LZ 0) cw) := by rw [hbw.cell]; rfl
        have f0 := hbu.frozen 0
        have f1 := hbu.frozen 1
        have f2 := hbw.frozen 0
        have f3 := hbw.frozen 1
        have hbuH := Lib.hid hbu
        have hbwH := Lib.hid hbw
        clear hbu hbw hiu hiw hRH hnoH
        go_upto_region 8 with (fail)
        go_region
        obtain ⟨V, hV⟩ : ∃ V, V = ((((wz.setCell ⟨w.heap.size, 0, none⟩ (Value.bool (ng (p : Int)))).setCell ⟨w.heap.size, 1, none⟩ (Value.slice ax (LZ (p : Int)) cx)).setCell ⟨w.heap.size + 1, 0, none⟩ (Value.bool (ng (q : Int)))).setCell ⟨w.heap.size + 1, 1, none⟩ (Value.slice ay (LZ (q : Int)) cy)) := ⟨_, rfl⟩
        have hVH := Lib.hid hV
        obtain ⟨y0, y1, y2, y3⟩ := two_putT hbuH.out hbwH.out (by omega) hV
        rw [← hV]
        have d0 : V.drew.cell? ⟨w.heap.size, 0, none⟩ = some (.bool (ng (p : Int))) := y0
        have d1 : V.drew.cell? ⟨w.heap.size, 1, none⟩ = some (.slice ax (LZ (p : Int)) cx) := y1
        have d2 : V.drew.cell? ⟨w.heap.size + 1, 0, none⟩ = some (.bool (ng (q : Int))) := y2
        have d3 : V.drew.cell? ⟨w.heap.size + 1, 1, none⟩ = some (.slice ay (LZ (q : Int)) cy) := y3
        obtain ⟨VD, hVD⟩ : ∃ VD, VD = V.drew := ⟨_, rfl⟩
        rw [← hVD] at d0 d1 d2 d3
        rw [← hVD]
        have hVDH := Lib.hid hVD
        clear hV hVD y0 y1 y2 y3 z0 z1 z2 z3 u0 u1 u2 u3 f0 f1 f2 f3
        go_wp2_with (fail)
        refine bodyPost_ret (v := .tuple #[.agg #[.bool (ng (p : Int)), .slice ax (LZ (p : Int)) cx], .agg #[.bool (ng (q : Int)), .slice ay (LZ (q : Int)) cy], .bool true]) (by simp [results, Try.results32, go_sem, d0, d1, d2, d3]) rfl ?_
        have hVp : V = putZ (putZ wz w.heap.size p ax cx) (w.heap.size + 1) q ay cy := hVH.out
        have hvo : PZs (putZ wz w.heap.size (p : Int) ax cx) (w.heap.size + 1) 0 := PZs.other hPz.out.u hPz.out.v (by omega)
        have hR2 := hRK.out
        rw [refGo_eq, if_pos hbsH.out] at hR2
        have hm1 : ZM V ax cx (p : Int) := by rw [hVp]; exact PZs.zmPut hvo (PZs.zmPut hPz.out.u hixz.out)
        have hm2 : ZM V ay cy (q : Int) := by rw [hVp]; exact PZs.zmPut hvo (PZs.zmPut hPz.out.u hiyz.out)
        have hbV : Below w.heap.size w V := by rw [hVp]; exact putZ_below (putZ_below hblz.out (Nat.le_refl _)) (Nat.le_succ _)
        have hdr : Below V.heap.size V VD := by rw [hVDH.out]; exact Below.drew (Below.refl _ _)
        exact ⟨p, q, true, ax, cx, ay, cy, rfl, hm1.up hdr, hm2.up hdr, .inl ⟨rfl, hR2.symm⟩, bseqT hbV hdr⟩
      | false =>
        obtain ⟨m, hm⟩ : ∃ m, i % L = m := ⟨_, rfl⟩
        have hmL : m < L := by rw [← hm]; exact Nat.mod_lt _ hL1
        obtain ⟨a, ha⟩ : ∃ a, X[m]? = some a := ⟨_, List.getElem?_eq_getElem (by rw [hLH.out]; exact hmL)⟩
        have ha100 := hXH.out a (List.mem_of_getElem? ha)
        have hnx : Hid (i + 1 ≤ L2 → (X ++ X).drop i = a :: (X ++ X).drop (i + 1)) := fun h => by
          have h1 : (X ++ X)[i]? = some a := by
            have h2 := hL2H.out
            by_cases hiL : i < L
            · rw [List.getElem?_append_left (by rw [hLH.out]; exact hiL)]
              rw [Nat.mod_eq_of_lt hiL] at hm
              rw [hm]; exact ha
            · rw [List.getElem?_append_right (by rw [hLH.out]; omega), hLH.out]
              have h3 : i % L = i - L := by rw [Nat.mod_eq_sub_mod (by omega)]; exact Nat.mod_eq_of_lt (by omega)
              rw [h3] at hm
              rw [hm]; exact ha
          obtain ⟨h3, h4⟩ := List.getElem?_eq_some_iff.1 h1
          rw [List.drop_eq_getElem_cons h3, h4]
        have hend : Hid (i + 1 = L3 → (X ++ X).drop i = []) := fun h => List.drop_eq_nil_of_le (by rw [List.length_append, hLH.out]; have := hL2H.out; have := hL3H.out; omega)
        have hmI : ((i : Int)).tmod (L : Int) = (m : Int) := by rw [← hm]; exact (Int.ofNat_tmod i L).symm
        have hmI2 : (i : Int) % (L : Int) = (m : Int) := by rw [← hm]; exact (Int.natCast_emod i L).symm
        have hLn : ¬ (L : Int) = 0 := by omega
        have hLb : ((L : Int) == 0) = false := by simpa using hLn
        have hmLI : (m : Int) < (L : Int) := by omega
        have hm0 : (0 : Int) ≤ (m : Int) := by omega
        obtain ⟨bz, oz, haz, cz⟩ := hIz.out.at (i := m) (by rw [nzT_length, hLH.out]; exact hmL)
        injection haz with haz
        injection haz with e1 e2
        subst e1 e2
        have hz0' : at0 (nzT X) m = (a : Int) := at0_of (by unfold nzT; rw [List.getElem?_map, ha]; rfl)
        rw [hz0', Nat.zero_add] at cz
        have hza := Lib.hid (fun W => zint_any a W (by omega))
        have la : Hid (LZ (a : Int) ≤ 1000) := by have := LZ_cvB (n := a) (Nat.lt_of_le_of_lt ha100.2 (by decide)); show _ ≤ _; omega
        obtain ⟨t1, ht1⟩ : ∃ z, a * p = z := ⟨_, rfl⟩
        obtain ⟨t2, ht2⟩ : ∃ z, t1 + e = z := ⟨_, rfl⟩
        obtain ⟨t3, ht3⟩ : ∃ z, a * q = z := ⟨_, rfl⟩
        obtain ⟨t4, ht4⟩ : ∃ z, t3 + f = z := ⟨_, rfl⟩
        have hp' := (stOk_lt (stOk_of hokK.out)).1
        have hq' := (stOk_lt (stOk_of hokK.out)).2.2.1
        simp only at hp' hq'
        have lt1 : Hid (LZ (t1 : Int) ≤ 1000) := by
          have h1 : t1 ≤ 100 * cvB := by rw [← ht1]; exact Nat.mul_le_mul ha100.2 (Nat.le_of_lt hp')
          have h2 : 100 * cvB ≤ cvB * cvB * 1001 := by decide
          have := LZ_cvB2 (z := (t1 : Int)) (by omega)
          show _ ≤ _; omega
        have lt3 : Hid (LZ (t3 : Int) ≤ 1000) := by
          have h1 : t3 ≤ 100 * cvB := by rw [← ht3]; exact Nat.mul_le_mul ha100.2 (Nat.le_of_lt hq')
          have h2 : 100 * cvB ≤ cvB * cvB * 1001 := by decide
          have := LZ_cvB2 (z := (t3 : Int)) (by omega)
          show _ ≤ _; omega
        have hstp : cvStep (p, e, q, f) a = (t2, p, t4, q) := by unfold cvStep; simp only [ht1, ht2, ht3, ht4]
        have hR3 : Hid (i + 1 ≤ L2 → refGo d neg (t2, p, t4, q) ((X ++ X).drop (i + 1)) = R ∧ allOk (t2, p, t4, q) ((X ++ X).drop (i + 1)) = true) := fun h => by
          have h1 := hRK.out
          have h2 := hokK.out
          rw [hnx.out h] at h1 h2
          rw [refGo_eq, if_neg (by simp [hbsH.out])] at h1
          simp only at h1
          rw [hstp] at h1
          simp only [allOk, Bool.and_eq_true] at h2
          rw [hstp] at h2
          exact ⟨h1, h2.2⟩
        have hno3 : Hid (i + 1 = L3 → R = none) := fun h => by
          have h1 := hRK.out
          rw [hend.out h, refGo_eq, if_neg (by simp [hbsH.out])] at h1
          exact h1.symm
        have ht1H := Lib.hid ht1
        have ht2H := Lib.hid ht2
        have ht3H := Lib.hid ht3
        have ht4H := Lib.hid ht4
        clear hm ha hz0' ht1 ht2 ht3 ht4 hp' hq' hstp hnx hend hRK hokK hRH hnoH hbsH hqz
        go_upto_region 10 with (go_at_call 34; (with_reducible refine (hza.out _).mono ?_); rintro e w12 ⟨a12, c12, rfl, hm, hb⟩; have hm12 := Lib.hid hm; have hb12 := Lib.hid hb; clear hm hb)
        obtain ⟨BZ, hBZ⟩ : ∃ BZ, w12.heap.size = BZ := ⟨_, rfl⟩
        obtain ⟨Va, hVa⟩ : ∃ V, V = w12.alloc (Obj.cells #[.bool (ng (a : Int)), .slice a12 (LZ (a : Int)) c12] 44) := ⟨_, rfl⟩
        have hbVa : Hid (Below wz.heap.size wz Va) := by show Below _ _ _; rw [hVa]; exact bseqT hb12.out (below_al (Below.refl _ _) _)
        have hpa0 : Hid (PZ Va BZ (a : Int) a12 c12) := by
          show PZ _ _ _ _ _
          rw [← hBZ, hVa]
          exact ⟨World.alloc_heap_new w12 _, hm12.out.up (below_al (Below.refl _ _) _)⟩
        have hP0a := Lib.hid (hPz.out.below hbVa.out)
        have hI0a := Lib.hid (hIz.out.below hbVa.out)
        have hbl0a := Lib.hid (bseqT hblz.out hbVa.out)
        have hlt1 := hPz.out.x.lt
        have hlt2 := hPz.out.e.lt
        have hlt3 := hPz.out.y.lt
        have hlt4 := hPz.out.f.lt
        have hBZ1 : wz.heap.size ≤ BZ := by rw [← hBZ]; exact hb12.out.size
        rw [← hVa, hBZ]
        clear hVa hBZ hbVa hb12 hm12 hPz hIz hblz hixz hiyz hbrz cz hza
        obtain ⟨ax1, cx1, hbx1, hix1⟩ := hP0a.out.x
        obtain ⟨ax2, cx2, hbx2, hix2⟩ := hP0a.out.e
        have hbx1H := Lib.hid hbx1
        have hbx2H := Lib.hid hbx2
        have hix1H := Lib.hid (show ZM Va ax1 cx1 (p : Int) from hix1)
        have hix2H := Lib.hid (show ZM Va ax2 cx2 (e : Int) from hix2)
        have hqx : Va.cell? ⟨BZ, 0, none⟩ = some (.bool (ng (a : Int))) ∧ Va.cell? ⟨BZ, 1, none⟩ = some (.slice a12 (LZ (a : Int)) c12) ∧ Va.cell? ⟨B1, 0, none⟩ = some (.bool (ng (p : Int))) ∧ Va.cell? ⟨B1, 1, none⟩ = some (.slice ax1 (LZ (p : Int)) cx1) ∧ Va.cell? ⟨B1 + 1 + 1, 0, none⟩ = some (.bool (ng (e : Int))) ∧ Va.cell? ⟨B1 + 1 + 1, 1, none⟩ = some (.slice ax2 (LZ (e : Int)) cx2) := ⟨by rw [hpa0.out.blk.cell]; rfl, by rw [hpa0.out.blk.cell]; rfl, by rw [hbx1.cell]; rfl, by rw [hbx1.cell]; rfl, by rw [hbx2.cell]; rfl, by rw [hbx2.cell]; rfl⟩
        have hupx : Hid (∀ W, Below Va.heap.size Va W → W.cell? ⟨BZ, 0, none⟩ = some (.bool (ng (a : Int))) ∧ W.cell? ⟨BZ, 1, none⟩ = some (.slice a12 (LZ (a : Int)) c12) ∧ W.cell? ⟨B1, 0, none⟩ = some (.bool (ng (p : Int))) ∧ W.cell? ⟨B1, 1, none⟩ = some (.slice ax1 (LZ (p : Int)) cx1) ∧ W.cell? ⟨B1 + 1 + 1, 0, none⟩ = some (.bool (ng (e : Int))) ∧ W.cell? ⟨B1 + 1 + 1, 1, none⟩ = some (.slice ax2 (LZ (e : Int)) cx2)) := fun W hW =>
          ⟨Below.cellAt hW (Nat.le_refl _) hqx.1, Below.cellAt hW (Nat.le_refl _) hqx.2.1, Below.cellAt hW (Nat.le_refl _) hqx.2.2.1, Below.cellAt hW (Nat.le_refl _) hqx.2.2.2.1, Below.cellAt hW (Nat.le_refl _) hqx.2.2.2.2.1, Below.cellAt hW (Nat.le_refl _) hqx.2.2.2.2.2⟩
        have hBx : Below Va.heap.size Va Va := Below.refl _ _
        have hmax := Lib.hid hpa0.out.zm
        have nex1 := hN6.out.n4.n12
        have nex2 := hN6.out.n4.n12.symm
        have hstepx : Hid (∀ (W V : World) (a6 : Option Addr) (c6 : Nat), Below Va.heap.size Va W → ZM W a6 c6 (t2 : Int) → V = putZ (putZ W (B1) t2 a6 c6) (B1 + 1 + 1) p ax1 cx1 → P6 V B1 (B1 + 1 + 1) (B1 + 1) (B1 + 1 + 1 + 1) w.heap.size (w.heap.size + 1) (t2, p, q, f) ∧ IZ V (some ⟨g, 0, none⟩) (nzT X) ∧ Below w.heap.size w V ∧ PZ V BZ (a : Int) a12 c12) := by
          intro W V' a6 c6 hW hm hV
          have hPW := hP0a.out.below hW
          have h1 := hPW.put1 hN6.out hm (hix1H.out.up hW)
          have hIW := hI0a.out.below hW
          have hot := PZs.other (m := (t2 : Int)) (a := a6) (c := c6) hPW.x hPW.e nex2
          have hIV : IZ (putZ (putZ W (B1) t2 a6 c6) (B1 + 1 + 1) p ax1 cx1) (some ⟨g, 0, none⟩) (nzT X) := PZs.izPut hot (hPW.x.izPut hIW)
          have hbV : Below w.heap.size w (putZ (putZ W (B1) t2 a6 c6) (B1 + 1 + 1) p ax1 cx1) := putZ_below (putZ_below (bseqT hbl0a.out hW) (by omega)) (by omega)
          have hpW : PZ W BZ (a : Int) a12 c12 := ⟨hpa0.out.blk.later hW, hpa0.out.zm.up hW⟩
          have hpV : PZ (putZ (putZ W (B1) t2 a6 c6) (B1 + 1 + 1) p ax1 cx1) BZ (a : Int) a12 c12 := PZ.otherZ hot (PZ.otherZ hPW.x hpW (by omega)) (by omega)
          rw [hV]
          exact ⟨h1, hIV, hbV, hpV⟩
        clear hbx1 hbx2 hix1 hix2
        go_upto_region 10 with (fail)
        obtain ⟨kx1, kx2, kx3, kx4, kx5, kx6⟩ := hqx
        -- tail S: fun W => Below Va.heap.size Va W ∧ W.cell? ⟨BZ, 0, none⟩ = some (.bool (ng (a : Int))) ∧ W.cell? ⟨BZ, 1, none⟩ = some (.slice a12 (LZ (a : Int)) c12) ∧ W.cell? ⟨B1, 0, none⟩ = some (.bool (ng (p : Int))) ∧ W.cell? ⟨B1, 1, none⟩ = some (.slice ax1 (LZ (p : Int)) cx1) ∧ W.cell? ⟨B1 + 1 + 1, 0, none⟩ = some (.bool (ng (e : Int))) ∧ W.cell? ⟨B1 + 1 + 1, 1, none⟩ = some (.slice ax2 (LZ (e : Int)) cx2)
        -- tail s0: ⟨Below.drew hBx, hupx.out _ (Below.drew hBx)⟩
        -- arm 2: go_at_call 64; (with_reducible refine (zmulN a12 ax1 c12 cx1 a p t1 _ (hmax.out.up hHeld.1) (hix1H.out.up hHeld.1) la.out lp.out ht1H.out).mono ?_); rintro e v5 ⟨a5', c5', rfl, hm5, hb5⟩; have hm5H := Lib.hid hm5; have hq5 : Below Va.heap.size Va v5 := bseqT hHeld.1 hb5; clear hm5 hb5
        -- arm 2 s: ⟨hq5, hupx.out _ hq5⟩
        -- arm 4: go_at_call 67; (with_reducible refine (zaddN a5' ax2 c5' cx2 t1 e t2 _ hm5H.out (hix2H.out.up hq5) lt1.out le.out ht2H.out).mono ?_); rintro e v6 ⟨a6, c6, rfl, hm6, hb6⟩; have hm6H := Lib.hid hm6; have hq6 : Below Va.heap.size Va v6 := bseqT hq5 hb6; have fz1 := Blk.frozen (Blk.later hbx1H.out hq6); have fz2 := Blk.frozen (Blk.later hbx2H.out hq6); clear hm6 hb6
        -- arm 4 s: ⟨hq6, hupx.out _ hq6⟩
        -- tail x10 0 1 3 5 c2 c4 t6 t7
        refine wp_region_tail (fun W => Below Va.heap.size Va W ∧ W.cell? ⟨BZ, 0, none⟩ = some (.bool (ng (a : Int))) ∧ W.cell? ⟨BZ, 1, none⟩ = some (.slice a12 (LZ (a : Int)) c12) ∧ W.cell? ⟨B1, 0, none⟩ = some (.bool (ng (p : Int))) ∧ W.cell? ⟨B1, 1, none⟩ = some (.slice ax1 (LZ (p : Int)) cx1) ∧ W.cell? ⟨B1 + 1 + 1, 0, none⟩ = some (.bool (ng (e : Int))) ∧ W.cell? ⟨B1 + 1 + 1, 1, none⟩ = some (.slice ax2 (LZ (e : Int)) cx2)) (fun j => decide (6 ≤ j)) (by kernel_rfl) (⟨Below.drew hBx, hupx.out _ (Below.drew hBx)⟩) (fun hHeld => ?_)
        refine wpAnyT_take (i := 0) (oi := ?oix100) (v := ?vx100) ?hox100 (by kernel_rfl) (by kernel_rfl) (by kernel_rfl) (by kernel_rfl) ?hqx100 (Or.inl ⟨?hwx100, ?hyx100⟩) (by assumption) ?_
        case hox100 => rfl
        case hwx100 => rfl
        case hyx100 => (intro w hSw; (try dsimp only at hSw); go_split_ands; go_simp; (try (with_reducible rfl)))
        case hqx100 => exact fun _ _ _ h => h
        simp only [Act.put, List.getElem_toArray, List.getElem_cons_zero, List.setIfInBounds_toArray, List.set_cons_zero, List.set_cons_succ]
        refine wpAnyT_take (i := 1) (oi := ?oix101) (v := ?vx101) ?hox101 (by kernel_rfl) (by kernel_rfl) (by kernel_rfl) (by kernel_rfl) ?hqx101 (Or.inl ⟨?hwx101, ?hyx101⟩) (by assumption) ?_
        case hox101 => rfl
        case hwx101 => rfl
        case hyx101 => (intro w hSw; (try dsimp only at hSw); go_split_ands; go_simp; (try (with_reducible rfl)))
        case hqx101 => exact fun _ _ _ h => h
        simp only [Act.put, List.getElem_toArray, List.getElem_cons_succ, List.getElem_cons_zero, List.setIfInBounds_toArray, List.set_cons_zero, List.set_cons_succ]
        refine wpAnyT_take (i := 3) (oi := ?oix103) (v := ?vx103) ?hox103 (by kernel_rfl) (by kernel_rfl) (by kernel_rfl) (by kernel_rfl) ?hqx103 (Or.inl ⟨?hwx103, ?hyx103⟩) (by assumption) ?_
        case hox103 => rfl
        case hwx103 => rfl
        case hyx103 => (intro w hSw; (try dsimp only at hSw); go_split_ands; go_simp; (try (with_reducible rfl)))
        case hqx103 => exact fun _ _ _ h => h
        simp only [Act.put, List.getElem_toArray, List.getElem_cons_succ, List.getElem_cons_zero, List.setIfInBounds_toArray, List.set_cons_zero, List.set_cons_succ]
        refine wpAnyT_take (i := 5) (oi := ?oix105) (v := ?vx105) ?hox105 (by kernel_rfl) (by kernel_rfl) (by kernel_rfl) (by kernel_rfl) ?hqx105 (Or.inl ⟨?hwx105, ?hyx105⟩) (by assumption) ?_
        case hox105 => rfl
        case hwx105 => rfl
        case hyx105 => (intro w hSw; (try dsimp only at hSw); go_split_ands; go_simp; (try (with_reducible rfl)))
        case hqx105 => exact fun _ _ _ h => h
        simp only [Act.put, List.getElem_toArray, List.getElem_cons_succ, List.getElem_cons_zero, List.setIfInBounds_toArray, List.set_cons_zero, List.set_cons_succ]
        refine wpAnyT_one (i := 2) (o := ?oix102) (by kernel_rfl) ?hox102 (fun K hK => ?_)
        case hox102 => rfl
        rw [if_pos (by rfl)]
        go_simp
        go_at_call 64; (with_reducible refine (zmulN a12 ax1 c12 cx1 a p t1 _ (hmax.out.up hHeld.1) (hix1H.out.up hHeld.1) la.out lp.out ht1H.out).mono ?_); rintro e v5 ⟨a5', c5', rfl, hm5, hb5⟩; have hm5H := Lib.hid hm5; have hq5 : Below Va.heap.size Va v5 := bseqT hHeld.1 hb5; clear hm5 hb5
        (try go_wp2_with (fail))
        refine hK.out _ _ (fun _ => ⟨hq5, hupx.out _ hq5⟩) (fun hHeld => ?_)
        replace hHeld := hHeld rfl
        clear hK K
        refine wpAnyT_one (i := 4) (o := ?oix104) (by kernel_rfl) ?hox104 (fun K hK => ?_)
        case hox104 => rfl
        rw [if_pos (by rfl)]
        go_simp
        go_at_call 67; (with_reducible refine (zaddN a5' ax2 c5' cx2 t1 e t2 _ hm5H.out (hix2H.out.up hq5) lt1.out le.out ht2H.out).mono ?_); rintro e v6 ⟨a6, c6, rfl, hm6, hb6⟩; have hm6H := Lib.hid hm6; have hq6 : Below Va.heap.size Va v6 := bseqT hq5 hb6; have fz1 := Blk.frozen (Blk.later hbx1H.out hq6); have fz2 := Blk.frozen (Blk.later hbx2H.out hq6); clear hm6 hb6
        (try go_wp2_with (fail))
        refine hK.out _ _ (fun _ => ⟨hq6, hupx.out _ hq6⟩) (fun hHeld => ?_)
        replace hHeld := hHeld rfl
        clear hK K
        refine wpAnyT_one (i := 6) (o := ?oix106) (by kernel_rfl) ?hox106 (fun K hK => ?_)
        case hox106 => rfl
        rw [if_pos (by rfl)]
        go_simp
        refine hK.out _ _ (fun h0 => by cases h0) (fun _ => ?_)
        clear hK K
        refine wpAnyT_one (i := 7) (o := ?oix107) (by kernel_rfl) ?hox107 (fun K hK => ?_)
        case hox107 => rfl
        rw [if_pos (by rfl)]
        go_simp
        refine hK.out _ _ (fun h0 => by cases h0) (fun _ => ?_)
        clear hK K
        refine wpAnyT_done (by kernel_rfl) ?_ _
        -- tail end
        obtain ⟨V1, hV1⟩ : ∃ V, V = putZ (putZ v6 (B1) t2 a6 c6) (B1 + 1 + 1) p ax1 cx1 := ⟨_, rfl⟩
        have hV1' : (((v6.setCell ⟨B1, 0, none⟩ (.bool (ng (t2 : Int)))).setCell ⟨B1, 1, none⟩ (.slice a6 (LZ (t2 : Int)) c6)).setCell ⟨B1 + 1 + 1, 0, none⟩ (.bool (ng (p : Int)))).setCell ⟨B1 + 1 + 1, 1, none⟩ (.slice ax1 (LZ (p : Int)) cx1) = V1 := hV1.symm
        rw [hV1']
        obtain ⟨hP1, hI1, hbl1, hpa1⟩ := hstepx.out v6 V1 a6 c6 hq6 hm6H.out hV1
        have hPx := Lib.hid hP1
        have hIx := Lib.hid hI1
        have hblx := Lib.hid hbl1
        have hpax := Lib.hid hpa1
        clear hV1 hV1' hP1 hI1 hbl1 hpa1 hstepx hq5 hq6 fz1 fz2 hHeld hm5H hm6H hupx kx1 kx2 kx3 kx4 kx5 kx6 hbx1H hbx2H hix1H hix2H hBx hmax nex1 nex2 hP0a hI0a hbl0a hpa0
        obtain ⟨ay1, cy1, hby1, hiy1⟩ := hPx.out.y
        obtain ⟨ay2, cy2, hby2, hiy2⟩ := hPx.out.f
        have hby1H := Lib.hid hby1
        have hby2H := Lib.hid hby2
        have hiy1H := Lib.hid (show ZM V1 ay1 cy1 (q : Int) from hiy1)
        have hiy2H := Lib.hid (show ZM V1 ay2 cy2 (f : Int) from hiy2)
        have hqy : V1.cell? ⟨BZ, 0, none⟩ = some (.bool (ng (a : Int))) ∧ V1.cell? ⟨BZ, 1, none⟩ = some (.slice a12 (LZ (a : Int)) c12) ∧ V1.cell? ⟨B1 + 1, 0, none⟩ = some (.bool (ng (q : Int))) ∧ V1.cell? ⟨B1 + 1, 1, none⟩ = some (.slice ay1 (LZ (q : Int)) cy1) ∧ V1.cell? ⟨B1 + 1 + 1 + 1, 0, none⟩ = some (.bool (ng (f : Int))) ∧ V1.cell? ⟨B1 + 1 + 1 + 1, 1, none⟩ = some (.slice ay2 (LZ (f : Int)) cy2) := ⟨by rw [hpax.out.blk.cell]; rfl, by rw [hpax.out.blk.cell]; rfl, by rw [hby1.cell]; rfl, by rw [hby1.cell]; rfl, by rw [hby2.cell]; rfl, by rw [hby2.cell]; rfl⟩
        have hupy : Hid (∀ W, Below V1.heap.size V1 W → W.cell? ⟨BZ, 0, none⟩ = some (.bool (ng (a : Int))) ∧ W.cell? ⟨BZ, 1, none⟩ = some (.slice a12 (LZ (a : Int)) c12) ∧ W.cell? ⟨B1 + 1, 0, none⟩ = some (.bool (ng (q : Int))) ∧ W.cell? ⟨B1 + 1, 1, none⟩ = some (.slice ay1 (LZ (q : Int)) cy1) ∧ W.cell? ⟨B1 + 1 + 1 + 1, 0, none⟩ = some (.bool (ng (f : Int))) ∧ W.cell? ⟨B1 + 1 + 1 + 1, 1, none⟩ = some (.slice ay2 (LZ (f : Int)) cy2)) := fun W hW =>
          ⟨Below.cellAt hW (Nat.le_refl _) hqy.1, Below.cellAt hW (Nat.le_refl _) hqy.2.1, Below.cellAt hW (Nat.le_refl _) hqy.2.2.1, Below.cellAt hW (Nat.le_refl _) hqy.2.2.2.1, Below.cellAt hW (Nat.le_refl _) hqy.2.2.2.2.1, Below.cellAt hW (Nat.le_refl _) hqy.2.2.2.2.2⟩
        have hBy : Below V1.heap.size V1 V1 := Below.refl _ _
        have hmay := Lib.hid hpax.out.zm
        have ney1 := hN6.out.n4.n34
        have ney2 := hN6.out.n4.n34.symm
        have hstepy : Hid (∀ (W V : World) (a6 : Option Addr) (c6 : Nat), Below V1.heap.size V1 W → ZM W a6 c6 (t4 : Int) → V = putZ (putZ W (B1 + 1) t4 a6 c6) (B1 + 1 + 1 + 1) q ay1 cy1 → P6 V B1 (B1 + 1 + 1) (B1 + 1) (B1 + 1 + 1 + 1) w.heap.size (w.heap.size + 1) (t2, p, t4, q) ∧ IZ V (some ⟨g, 0, none⟩) (nzT X) ∧ Below w.heap.size w V ∧ PZ V BZ (a : Int) a12 c12) := by
          intro W V' a6 c6 hW hm hV
          have hPW := hPx.out.below hW
          have h1 := hPW.put2 hN6.out hm (hiy1H.out.up hW)
          have hIW := hIx.out.below hW
          have hot := PZs.other (m := (t4 : Int)) (a := a6) (c := c6) hPW.y hPW.f ney2
          have hIV : IZ (putZ (putZ W (B1 + 1) t4 a6 c6) (B1 + 1 + 1 + 1) q ay1 cy1) (some ⟨g, 0, none⟩) (nzT X) := PZs.izPut hot (hPW.y.izPut hIW)
          have hbV : Below w.heap.size w (putZ (putZ W (B1 + 1) t4 a6 c6) (B1 + 1 + 1 + 1) q ay1 cy1) := putZ_below (putZ_below (bseqT hblx.out hW) (by omega)) (by omega)
          have hpW : PZ W BZ (a : Int) a12 c12 := ⟨hpax.out.blk.later hW, hpax.out.zm.up hW⟩
          have hpV : PZ (putZ (putZ W (B1 + 1) t4 a6 c6) (B1 + 1 + 1 + 1) q ay1 cy1) BZ (a : Int) a12 c12 := PZ.otherZ hot (PZ.otherZ hPW.y hpW (by omega)) (by omega)
          rw [hV]
          exact ⟨h1, hIV, hbV, hpV⟩
        clear hby1 hby2 hiy1 hiy2
        go_upto_region 11 with (fail)
        obtain ⟨ky1, ky2, ky3, ky4, ky5, ky6⟩ := hqy
        -- tail S: fun W => Below V1.heap.size V1 W ∧ W.cell? ⟨BZ, 0, none⟩ = some (.bool (ng (a : Int))) ∧ W.cell? ⟨BZ, 1, none⟩ = some (.slice a12 (LZ (a : Int)) c12) ∧ W.cell? ⟨B1 + 1, 0, none⟩ = some (.bool (ng (q : Int))) ∧ W.cell? ⟨B1 + 1, 1, none⟩ = some (.slice ay1 (LZ (q : Int)) cy1) ∧ W.cell? ⟨B1 + 1 + 1 + 1, 0, none⟩ = some (.bool (ng (f : Int))) ∧ W.cell? ⟨B1 + 1 + 1 + 1, 1, none⟩ = some (.slice ay2 (LZ (f : Int)) cy2)
        -- tail s0: ⟨Below.drew hBy, hupy.out _ (Below.drew hBy)⟩
        -- arm 2: go_at_call 64; (with_reducible refine (zmulN a12 ay1 c12 cy1 a q t3 _ (hmay.out.up hHeld.1) (hiy1H.out.up hHeld.1) la.out lq.out ht3H.out).mono ?_); rintro e v5 ⟨a5', c5', rfl, hm5, hb5⟩; have hm5H := Lib.hid hm5; have hq5 : Below V1.heap.size V1 v5 := bseqT hHeld.1 hb5; clear hm5 hb5
        -- arm 2 s: ⟨hq5, hupy.out _ hq5⟩
        -- arm 4: go_at_call 67; (with_reducible refine (zaddN a5' ay2 c5' cy2 t3 f t4 _ hm5H.out (hiy2H.out.up hq5) lt3.out lf.out ht4H.out).mono ?_); rintro e v6 ⟨a6, c6, rfl, hm6, hb6⟩; have hm6H := Lib.hid hm6; have hq6 : Below V1.heap.size V1 v6 := bseqT hq5 hb6; have fz1 := Blk.frozen (Blk.later hby1H.out hq6); have fz2 := Blk.frozen (Blk.later hby2H.out hq6); clear hm6 hb6
        -- arm 4 s: ⟨hq6, hupy.out _ hq6⟩
        -- tail y11 0 1 3 5 c2 c4 t6 t7
        refine wp_region_tail (fun W => Below V1.heap.size V1 W ∧ W.cell? ⟨BZ, 0, none⟩ = some (.bool (ng (a : Int))) ∧ W.cell? ⟨BZ, 1, none⟩ = some (.slice a12 (LZ (a : Int)) c12) ∧ W.cell? ⟨B1 + 1, 0, none⟩ = some (.bool (ng (q : Int))) ∧ W.cell? ⟨B1 + 1, 1, none⟩ = some (.slice ay1 (LZ (q : Int)) cy1) ∧ W.cell? ⟨B1 + 1 + 1 + 1, 0, none⟩ = some (.bool (ng (f : Int))) ∧ W.cell? ⟨B1 + 1 + 1 + 1, 1, none⟩ = some (.slice ay2 (LZ (f : Int)) cy2)) (fun j => decide (6 ≤ j)) (by kernel_rfl) (⟨Below.drew hBy, hupy.out _ (Below.drew hBy)⟩) (fun hHeld => ?_)
        refine wpAnyT_take (i := 0) (oi := ?oiy110) (v := ?vy110) ?hoy110 (by kernel_rfl) (by kernel_rfl) (by kernel_rfl) (by kernel_rfl) ?hqy110 (Or.inl ⟨?hwy110, ?hyy110⟩) (by assumption) ?_
        case hoy110 => rfl
        case hwy110 => rfl
        case hyy110 => (intro w hSw; (try dsimp only at hSw); go_split_ands; go_simp; (try (with_reducible rfl)))
        case hqy110 => exact fun _ _ _ h => h
        simp only [Act.put, List.getElem_toArray, List.getElem_cons_zero, List.setIfInBounds_toArray, List.set_cons_zero, List.set_cons_succ]
        refine wpAnyT_take (i := 1) (oi := ?oiy111) (v := ?vy111) ?hoy111 (by kernel_rfl) (by kernel_rfl) (by kernel_rfl) (by kernel_rfl) ?hqy111 (Or.inl ⟨?hwy111, ?hyy111⟩) (by assumption) ?_
        case hoy111 => rfl
        case hwy111 => rfl
        case hyy111 => (intro w hSw; (try dsimp only at hSw); go_split_ands; go_simp; (try (with_reducible rfl)))
        case hqy111 => exact fun _ _ _ h => h
        simp only [Act.put, List.getElem_toArray, List.getElem_cons_succ, List.getElem_cons_zero, List.setIfInBounds_toArray, List.set_cons_zero, List.set_cons_succ]
        refine wpAnyT_take (i := 3) (oi := ?oiy113) (v := ?vy113) ?hoy113 (by kernel_rfl) (by kernel_rfl) (by kernel_rfl) (by kernel_rfl) ?hqy113 (Or.inl ⟨?hwy113, ?hyy113⟩) (by assumption) ?_
        case hoy113 => rfl
        case hwy113 => rfl
        case hyy113 => (intro w hSw; (try dsimp only at hSw); go_split_ands; go_simp; (try (with_reducible rfl)))
        case hqy113 => exact fun _ _ _ h => h
        simp only [Act.put, List.getElem_toArray, List.getElem_cons_succ, List.getElem_cons_zero, List.setIfInBounds_toArray, List.set_cons_zero, List.set_cons_succ]
        refine wpAnyT_take (i := 5) (oi := ?oiy115) (v := ?vy115) ?hoy115 (by kernel_rfl) (by kernel_rfl) (by kernel_rfl) (by kernel_rfl) ?hqy115 (Or.inl ⟨?hwy115, ?hyy115⟩) (by assumption) ?_
        case hoy115 => rfl
        case hwy115 => rfl
        case hyy115 => (intro w hSw; (try dsimp only at hSw); go_split_ands; go_simp; (try (with_reducible rfl)))
        case hqy115 => exact fun _ _ _ h => h
        simp only [Act.put, List.getElem_toArray, List.getElem_cons_succ, List.getElem_cons_zero, List.setIfInBounds_toArray, List.set_cons_zero, List.set_cons_succ]
        refine wpAnyT_one (i := 2) (o := ?oiy112) (by kernel_rfl) ?hoy112 (fun K hK => ?_)
        case hoy112 => rfl
        rw [if_pos (by rfl)]
        go_simp
        go_at_call 64; (with_reducible refine (zmulN a12 ay1 c12 cy1 a q t3 _ (hmay.out.up hHeld.1) (hiy1H.out.up hHeld.1) la.out lq.out ht3H.out).mono ?_); rintro e v5 ⟨a5', c5', rfl, hm5, hb5⟩; have hm5H := Lib.hid hm5; have hq5 : Below V1.heap.size V1 v5 := bseqT hHeld.1 hb5; clear hm5 hb5
        (try go_wp2_with (fail))
        refine hK.out _ _ (fun _ => ⟨hq5, hupy.out _ hq5⟩) (fun hHeld => ?_)
        replace hHeld := hHeld rfl
        clear hK K
        refine wpAnyT_one (i := 4) (o := ?oiy114) (by kernel_rfl) ?hoy114 (fun K hK => ?_)
        case hoy114 => rfl
        rw [if_pos (by rfl)]
        go_simp
        go_at_call 67; (with_reducible refine (zaddN a5' ay2 c5' cy2 t3 f t4 _ hm5H.out (hiy2H.out.up hq5) lt3.out lf.out ht4H.out).mono ?_); rintro e v6 ⟨a6, c6, rfl, hm6, hb6⟩; have hm6H := Lib.hid hm6; have hq6 : Below V1.heap.size V1 v6 := bseqT hq5 hb6; have fz1 := Blk.frozen (Blk.later hby1H.out hq6); have fz2 := Blk.frozen (Blk.later hby2H.out hq6); clear hm6 hb6
        (try go_wp2_with (fail))
        refine hK.out _ _ (fun _ => ⟨hq6, hupy.out _ hq6⟩) (fun hHeld => ?_)
        replace hHeld := hHeld rfl
        clear hK K
        refine wpAnyT_one (i := 6) (o := ?oiy116) (by kernel_rfl) ?hoy116 (fun K hK => ?_)
        case hoy116 => rfl
        rw [if_pos (by rfl)]
        go_simp
        refine hK.out _ _ (fun h0 => by cases h0) (fun _ => ?_)
        clear hK K
        refine wpAnyT_one (i := 7) (o := ?oiy117) (by kernel_rfl) ?hoy117 (fun K hK => ?_)
        case hoy117 => rfl
        rw [if_pos (by rfl)]
        go_simp
        refine hK.out _ _ (fun h0 => by cases h0) (fun _ => ?_)
        clear hK K
        refine wpAnyT_done (by kernel_rfl) ?_ _
        -- tail end
        obtain ⟨V2, hV1⟩ : ∃ V, V = putZ (putZ v6 (B1 + 1) t4 a6 c6) (B1 + 1 + 1 + 1) q ay1 cy1 := ⟨_, rfl⟩
        have hV1' : (((v6.setCell ⟨B1 + 1, 0, none⟩ (.bool (ng (t4 : Int)))).setCell ⟨B1 + 1, 1, none⟩ (.slice a6 (LZ (t4 : Int)) c6)).setCell ⟨B1 + 1 + 1 + 1, 0, none⟩ (.bool (ng (q : Int)))).setCell ⟨B1 + 1 + 1 + 1, 1, none⟩ (.slice ay1 (LZ (q : Int)) cy1) = V2 := hV1.symm
        rw [hV1']
        obtain ⟨hP1, hI1, hbl1, hpa1⟩ := hstepy.out v6 V2 a6 c6 hq6 hm6H.out hV1
        have hPy := Lib.hid hP1
        have hIy := Lib.hid hI1
        have hbly := Lib.hid hbl1
        have hpay := Lib.hid hpa1
        clear hV1 hV1' hP1 hI1 hbl1 hpa1 hstepy hq5 hq6 fz1 fz2 hHeld hm5H hm6H hupy ky1 ky2 ky3 ky4 ky5 ky6 hby1H hby2H hiy1H hiy2H hBy hmay ney1 ney2 hPx hIx hblx hpax
        go_wp2_with (fail)
        go_roundg (gk - 1)
        case rel => exact ⟨i + 1, (t2, p, t4, q), by go_num, by omega, hR3.out, hno3.out, hPy.out, hIy.out, hbly.out⟩
        case measure => omega
    · have hiI : ¬ (i : Int) < (L3 : Int) := by omega
      have hRn := Lib.hid (hnoH.out (by omega))
      obtain ⟨au, cu, hbu, hiu⟩ := hPH.out.u
      obtain ⟨av, cv, hbv, hiv⟩ := hPH.out.v
      have hbuH := Lib.hid hbu
      have hbvH := Lib.hid hbv
      clear hbu hbv hiu hiv
      go_upto_region 12 with (fail)
      have tokB : True := trivial
      go_wp2_with (first
        | (clear tokB; go_at_call 34; (with_reducible refine (hz2.out _).mono ?_); rintro e w7 ⟨a7, c7, rfl, hZ, hb⟩; have hZ7 := Lib.hid hZ; have hb7 := Lib.hid hb; clear hZ hb)
        | (go_at_call 34; (with_reducible refine (hz2.out _).mono ?_); rintro e w8 ⟨a8, c8, rfl, hZ, hb⟩; have hZ8 := Lib.hid hZ; have hb8 := Lib.hid hb; clear hZ hb; have u8 := hbuH.out.later (bseqT hb7.out hb8.out); have v8 := hbvH.out.later (bseqT hb7.out hb8.out); have r0 := u8.cell 0; have r1 := u8.cell 1; have r2 := v8.cell 0; have r3 := v8.cell 1; have f0 := u8.frozen 0; have f1 := u8.frozen 1; have f2 := v8.frozen 0; have f3 := v8.frozen 1; have u8H := Lib.hid u8; have v8H := Lib.hid v8; clear u8 v8))
      obtain ⟨V, hV⟩ : ∃ V, V = (((w8.setCell ⟨w.heap.size, 0, none⟩ (Value.bool (ng 0))).setCell ⟨w.heap.size, 1, none⟩ (Value.slice a7 (LZ 0) c7)).setCell ⟨w.heap.size + 1, 0, none⟩ (Value.bool (ng 0))).setCell ⟨w.heap.size + 1, 1, none⟩ (Value.slice a8 (LZ 0) c8) := ⟨_, rfl⟩
      have hVH := Lib.hid hV
      rw [← hV]
      obtain ⟨k0, k1, k2, k3⟩ := two_putT u8H.out v8H.out (by omega) hV
      clear hV r0 r1 r2 r3 f0 f1 f2 f3
      refine bodyPost_ret (v := .tuple #[.agg #[.bool (ng 0), .slice a7 (LZ 0) c7], .agg #[.bool (ng 0), .slice a8 (LZ 0) c8], .bool false]) (by simp [results, Try.results32, go_sem, k0, k1, k2, k3]) rfl ?_
      have hu8 : PZs w8 w.heap.size 0 := hPH.out.u.below (bseqT hb7.out hb8.out)
      have hv8 : PZs w8 (w.heap.size + 1) 0 := hPH.out.v.below (bseqT hb7.out hb8.out)
      have hVp : V = putZ (putZ w8 w.heap.size 0 a7 c7) (w.heap.size + 1) 0 a8 c8 := hVH.out
      have hvo : PZs (putZ w8 w.heap.size 0 a7 c7) (w.heap.size + 1) 0 := PZs.other hu8 hv8 (by omega)
      refine ⟨0, 0, false, a7, c7, a8, c8, rfl, ?_, ?_, .inr ⟨rfl, hRn.out⟩, ?_⟩
      · rw [hVp]; exact PZs.zmPut hvo (PZs.zmPut hu8 (hZ7.out.up hb8.out))
      · rw [hVp]; exact PZs.zmPut hvo (PZs.zmPut hu8 hZ8.out)
      · rw [hVp]; exact putZ_below (putZ_below (bseqT hblH.out (bseqT hb7.out hb8.out)) (Nat.le_refl _)) (Nat.le_succ _)
end Go.Proofs.Ytbehfhmdilifkaa
