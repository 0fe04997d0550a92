/- Hp -/
import Derived.Test.YtbehfhmdilifkaaQHm
import Derived.Test.YtbehfhmdilifkaaQHf
set_option linter.unusedVariables false
/- Walk of the law TeethMiddle. -/
namespace Go.Proofs.Ytbehfhmdilifkaa
open Go Go.RowKit Go.Proofs

/-- Two boxes of two small numbers. -/
structure U22 (W : World) (g h : Nat) (a b c d : Nat) : Prop where
  x0 : W.cell? ⟨g, 0, none⟩ = some (.int .u16 (a : Nat))
  x1 : W.cell? ⟨g, 1, none⟩ = some (.int .u16 (b : Nat))
  y0 : W.cell? ⟨h, 0, none⟩ = some (.int .u16 (c : Nat))
  y1 : W.cell? ⟨h, 1, none⟩ = some (.int .u16 (d : Nat))
theorem U22.new (w : World) (a b c d : Nat) : U22 ((w.alloc (Obj.cells #[.int .u16 (a : Nat), .int .u16 (b : Nat)] 70)).alloc (Obj.cells #[.int .u16 (c : Nat), .int .u16 (d : Nat)] 70)) w.heap.size (w.heap.size + 1) a b c d :=
  ⟨by rw [al_oldT (by simp), al_newT rfl]; rfl, by rw [al_oldT (by simp), al_newT rfl]; rfl, by rw [al_newT (by simp)]; rfl, by rw [al_newT (by simp)]; rfl⟩
theorem Mid.tight {a d c e p q : Nat} (h : Mid a d c e p q) : (p - 1) * d ≤ a * q := by
  rcases Nat.lt_or_ge (a * q) ((p - 1) * d) with h1 | h1
  · exfalso
    have h2 : (p - 1) * e ≤ p * e := Nat.mul_le_mul_right e (by omega)
    have h3 := h.is.hi
    have h4 := (h.least (p - 1) q ⟨h.is.q1, h1, by omega⟩).2
    have h5 : p = 0 := by omega
    have := h.is.lo
    rw [h5, Nat.zero_mul] at this
    omega
  · exact h1
theorem Mid.p1 {a d c e p q : Nat} (h : Mid a d c e p q) : 1 ≤ p := by
  rcases Nat.eq_zero_or_pos p with h1 | h1
  · have := h.is.lo
    rw [h1, Nat.zero_mul] at this
    omega
  · exact h1
theorem tm {x E n : Nat} (h : x % n = E) : (x : Int).tmod (n : Int) = (E : Int) ∧ (x : Int) % (n : Int) = (E : Int) := ⟨by rw [← h]; exact (Int.ofNat_tmod x n).symm, by rw [← h]; exact (Int.natCast_emod x n).symm⟩
set_option maxRecDepth 100000 in
set_option maxHeartbeats 6400000 in
theorem midLaw_at (x y u v A B C D a d c e : Nat) (w : World) (hx : x < 65536) (hy : y < 65536) (hu : u < 65536) (hv : v < 65536) (hA : x % 3000 = A) (hB : y % 3000 = B) (hC : u % 3000 = C) (hD : v % 3000 = D) (ha : A + 1 = a) (hd : B + 1 = d) (hc : C + 1 = c) (he : D + 1 = e) :
    Calls Try.prog 17 #[.agg #[.int .u16 (x : Nat), .int .u16 (y : Nat)], .agg #[.int .u16 (u : Nat), .int .u16 (v : Nat)]] w (RetB w true) := by
  have tA : (x : Int).tmod 3000 = (A : Int) := (tm hA).1
  have tA2 : (x : Int) % 3000 = (A : Int) := (tm hA).2
  have tB : (y : Int).tmod 3000 = (B : Int) := (tm hB).1
  have tB2 : (y : Int) % 3000 = (B : Int) := (tm hB).2
  have tC : (u : Int).tmod 3000 = (C : Int) := (tm hC).1
  have tC2 : (u : Int) % 3000 = (C : Int) := (tm hC).2
  have tD : (v : Int).tmod 3000 = (D : Int) := (tm hD).1
  have tD2 : (v : Int) % 3000 = (D : Int) := (tm hD).2
  have lA : A < 3000 := by rw [← hA]; exact Nat.mod_lt _ (by omega)
  have lB : B < 3000 := by rw [← hB]; exact Nat.mod_lt _ (by omega)
  have lC : C < 3000 := by rw [← hC]; exact Nat.mod_lt _ (by omega)
  have lD : D < 3000 := by rw [← hD]; exact Nat.mod_lt _ (by omega)
  have haI : (A : Int) + 1 = (a : Int) := by omega
  have hdI : (B : Int) + 1 = (d : Int) := by omega
  have hcI : (C : Int) + 1 = (c : Int) := by omega
  have heI : (D : Int) + 1 = (e : Int) := by omega
  have a1 : 1 ≤ a := by omega
  have d1 : 1 ≤ d := by omega
  have c1 : 1 ≤ c := by omega
  have e1 : 1 ≤ e := by omega
  have a2 : a ≤ 3000 := by omega
  have d2 : d ≤ 3000 := by omega
  have c2 : c ≤ 3000 := by omega
  have e2 : e ≤ 3000 := by omega
  have hnone := Lib.hid (fun W hl => betweenP_none a d c e W a1 (by omega) d1 (by omega) c1 (by omega) e1 (by omega) hl)
  have hgood := Lib.hid (fun W hl => betweenP_good a d c e W a1 (by omega) d1 (by omega) c1 (by omega) e1 (by omega) hl)
  have hlim := Lib.hid (fun p q (hm : Mid a d c e p q) hl => hm.le d1 hl)
  obtain ⟨X, hX⟩ : ∃ X, a * e = X := ⟨_, rfl⟩
  obtain ⟨Y, hY⟩ : ∃ Y, c * d = Y := ⟨_, rfl⟩
  have hXI := mulN hX
  have hYI := mulN hY
  have hXl : X ≤ 9000000 := by rw [← hX]; exact Nat.le_trans (Nat.mul_le_mul a2 e2) (by decide)
  have hYl : Y ≤ 9000000 := by rw [← hY]; exact Nat.le_trans (Nat.mul_le_mul c2 d2) (by decide)
  rw [hX, hY] at hnone hgood hlim
  clear hA hB hC hD ha hd hc he hX hY
  go_enter Try.func17, Try.ntmps17
  go_upto_region 1 with (fail)
  obtain ⟨W0, hW0⟩ : ∃ W0, W0 = (w.alloc (Obj.cells #[.int .u16 (x : Nat), .int .u16 (y : Nat)] 70)).alloc (Obj.cells #[.int .u16 (u : Nat), .int .u16 (v : Nat)] 70) := ⟨_, rfl⟩
  rw [← hW0]
  have hC := U22.new w x y u v
  rw [← hW0] at hC
  have hb0 : Hid (Below w.heap.size w W0) := by show Below _ _ _; rw [hW0]; exact below_al (below_al (Below.refl _ _) _) _
  obtain ⟨x0, x1, y0, y1⟩ := hC
  clear hW0
  go_quiet (fail)
  by_cases hl : Y ≤ X
  · have hr := Lib.hid (fun W => hnone.out W hl)
    have hlI : (Y : Int) ≤ (X : Int) := by omega
    clear hgood hlim hnone
    go_wp2_with (first
      | (go_at_call 43; (with_reducible refine (hr.out _).mono ?_); rintro e w1 ⟨rfl, hb⟩; have hb1 := Lib.hid hb; clear hb)
      | (go_at_call 23; (with_reducible refine (lives_any _).mono ?_); rintro e w2 ⟨rfl, hb⟩; have hb2 := Lib.hid hb; clear hb))
    go_ret
    exact ⟨rfl, bseqT (bdn hb0.out) (bseqT hb1.out hb2.out)⟩
  · have hr := Lib.hid (fun W => hgood.out W (by omega))
    have hlI : ¬ (Y : Int) ≤ (X : Int) := by omega
    have hlim2 := Lib.hid (fun p q hm => hlim.out p q hm (by omega))
    clear hgood hlim hnone
    go_upto_region 5 with (first
      | (go_at_call 43; (with_reducible refine (hr.out _).mono ?_); rintro e w1 ⟨p, q, rfl, hm, hb⟩; have hmH := Lib.hid hm; have hb1 := Lib.hid hb; clear hb hm))
    have hpq := hlim2.out p q hmH.out
    have p1 := hmH.out.p1
    have q1 := hmH.out.is.q1
    have hpl : p ≤ 6000 := by omega
    have hql : q ≤ 6000 := by omega
    obtain ⟨R, hR⟩ : ∃ R, p * d = R := ⟨_, rfl⟩
    obtain ⟨S, hS⟩ : ∃ S, a * q = S := ⟨_, rfl⟩
    obtain ⟨T, hT⟩ : ∃ T, p * e = T := ⟨_, rfl⟩
    obtain ⟨U, hU⟩ : ∃ U, c * q = U := ⟨_, rfl⟩
    obtain ⟨m, hm1⟩ : ∃ m, p - 1 = m := ⟨_, rfl⟩
    obtain ⟨V, hV⟩ : ∃ V, m * d = V := ⟨_, rfl⟩
    have hRI := mulN hR
    have hSI := mulN hS
    have hTI := mulN hT
    have hUI := mulN hU
    have hVI := mulN hV
    have hmI : (p : Int) - 1 = (m : Int) := by omega
    have hml : m ≤ 6000 := by omega
    have hRl : R ≤ 18000000 := by rw [← hR]; exact Nat.le_trans (Nat.mul_le_mul hpl d2) (by decide)
    have hSl : S ≤ 18000000 := by rw [← hS]; exact Nat.le_trans (Nat.mul_le_mul a2 hql) (by decide)
    have hTl : T ≤ 18000000 := by rw [← hT]; exact Nat.le_trans (Nat.mul_le_mul hpl e2) (by decide)
    have hUl : U ≤ 18000000 := by rw [← hU]; exact Nat.le_trans (Nat.mul_le_mul c2 hql) (by decide)
    have hVl : V ≤ 18000000 := by rw [← hV]; exact Nat.le_trans (Nat.mul_le_mul hml d2) (by decide)
    have hSR : S < R := by have := hmH.out.is.lo; omega
    have hTU : T < U := by have := hmH.out.is.hi; omega
    have hVS : V ≤ S := by have := hmH.out.tight; rw [hm1] at this; omega
    have k1 : decide ((q : Int) < 1) = false := decide_eq_false (by omega)
    have k2 : decide ((p : Int) < 1) = false := decide_eq_false (by omega)
    have k3 : decide ((6000 : Int) < (q : Int)) = false := decide_eq_false (by omega)
    have k4 : decide ((10000000 : Int) < (p : Int)) = false := decide_eq_false (by omega)
    have k5 : decide ((R : Int) ≤ (S : Int)) = false := decide_eq_false (by omega)
    have k6 : decide ((U : Int) ≤ (T : Int)) = false := decide_eq_false (by omega)
    have k7 : decide ((S : Int) < (V : Int)) = false := decide_eq_false (by omega)
    have j1 : decide (q < 1) = false := decide_eq_false (by omega)
    have j2 : decide (p < 1) = false := decide_eq_false (by omega)
    have j3 : decide (6000 < q) = false := decide_eq_false (by omega)
    have j4 : decide (10000000 < p) = false := decide_eq_false (by omega)
    have j5 : decide (R ≤ S) = false := decide_eq_false (by omega)
    have j6 : decide (U ≤ T) = false := decide_eq_false (by omega)
    have j7 : decide (S < V) = false := decide_eq_false (by omega)
    have hless := Lib.hid (fun s => Mid.less (s := s) d1 hmH.out)
    clear hpq hR hS hT hU hm1 hV
    go_wp2_with (first
      | (go_at_call 23; (with_reducible refine (lives_any _).mono ?_); rintro e w2 ⟨rfl, hb⟩; have hb2 := Lib.hid hb; clear hb))
    have hbw := Lib.hid (bseqT (bdn hb0.out) (bseqT hb1.out hb2.out))
    clear hb0 hb1 hb2
    go_loopg [12, 13] q (fun gk sv pv wr => ∃ s : Nat, sv = .int .i64 (s : Nat) ∧ s + gk = q + 1 ∧ 1 ≤ s ∧ s ≤ q ∧ Below w.heap.size w wr)
    case atStart => exact ⟨1, rfl, by omega, by omega, q1, hbw.out⟩
    case round =>
      clear hbw
      obtain ⟨s, rfl, hsg, hs1, hsq, hbl⟩ := hrel
      have hblH := Lib.hid hbl
      clear hbl
      by_cases hsq2 : s < q
      · have hsI : (s : Int) < (q : Int) := by omega
        obtain ⟨F, hF⟩ : ∃ F, a * s = F := ⟨_, rfl⟩
        have hFI := mulN hF
        have hFl : F ≤ 18000000 := by rw [← hF]; exact Nat.le_trans (Nat.mul_le_mul a2 (show s ≤ 6000 by omega)) (by decide)
        obtain ⟨G, hG⟩ : ∃ G, F / d = G := ⟨_, rfl⟩
        have hGl : G ≤ 18000000 := by rw [← hG]; exact Nat.le_trans (Nat.div_le_self _ _) hFl
        have f1 : ¬ (d : Int) = 0 := by omega
        have f2 : ((d : Int) == 0) = false := by simp; omega
        have t3 : (F : Int).tdiv (d : Int) = (G : Int) := by rw [← hG]; exact (Int.ofNat_tdiv F d).symm
        have t4 : (F : Int) / (d : Int) = (G : Int) := by rw [← hG]; exact (Int.natCast_ediv F d).symm
        obtain ⟨r, hr⟩ : ∃ r, G + 1 = r := ⟨_, rfl⟩
        have hrI : (G : Int) + 1 = (r : Int) := by omega
        have hrl : r ≤ 18000001 := by omega
        obtain ⟨H, hH⟩ : ∃ H, r * e = H := ⟨_, rfl⟩
        obtain ⟨J, hJ⟩ : ∃ J, c * s = J := ⟨_, rfl⟩
        have hHI := mulN hH
        have hJI := mulN hJ
        have hHl : H ≤ 54000003000 := by rw [← hH]; exact Nat.le_trans (Nat.mul_le_mul hrl e2) (by decide)
        have hJl : J ≤ 18000000 := by rw [← hJ]; exact Nat.le_trans (Nat.mul_le_mul c2 (show s ≤ 6000 by omega)) (by decide)
        have h5 := hless.out s hs1 hsq2
        rw [hF, hG, hr, hH, hJ] at h5
        have h6I : ¬ (H : Int) < (J : Int) := by omega
        clear hF hG hr hH hJ h5
        go_wp2_with (fail)
        go_roundg (gk - 1)
        case measure => omega
        case rel => exact ⟨s + 1, by go_num, by omega, by omega, by omega, hblH.out⟩
      · have hsI : ¬ (s : Int) < (q : Int) := by omega
        go_wp2_with (fail)
        go_ret
        exact ⟨rfl, hblH.out⟩
theorem midLaw_any (x y u v : Nat) (w : World) (hx : x < 65536) (hy : y < 65536) (hu : u < 65536) (hv : v < 65536) :
    Calls Try.prog 17 #[.agg #[.int .u16 (x : Nat), .int .u16 (y : Nat)], .agg #[.int .u16 (u : Nat), .int .u16 (v : Nat)]] w (RetB w true) :=
  midLaw_at x y u v _ _ _ _ _ _ _ _ w hx hy hu hv rfl rfl rfl rfl rfl rfl rfl rfl
end Go.Proofs.Ytbehfhmdilifkaa
