/- Hn -/
import Derived.Test.YtbehfhmdilifkaaQHm
import Derived.Test.YtbehfhmdilifkaaQHh
set_option linter.unusedVariables false
/- Walk of the law TeethBetweens. -/
namespace Go.Proofs.Ytbehfhmdilifkaa
open Go Go.RowKit Go.Proofs

/-- Two boxes of two ints. -/
structure C22 (W : World) (g h : Nat) (a b c d : Int) : Prop where
  x0 : W.cell? ⟨g, 0, none⟩ = some (.int .i64 a)
  x1 : W.cell? ⟨g, 1, none⟩ = some (.int .i64 b)
  y0 : W.cell? ⟨h, 0, none⟩ = some (.int .i64 c)
  y1 : W.cell? ⟨h, 1, none⟩ = some (.int .i64 d)
theorem C22.up {W W' : World} {g h : Nat} {a b c d : Int} (k : C22 W g h a b c d) (hb : Below W.heap.size W W') : C22 W' g h a b c d :=
  ⟨Below.cellAt hb (Nat.le_refl _) k.x0, Below.cellAt hb (Nat.le_refl _) k.x1, Below.cellAt hb (Nat.le_refl _) k.y0, Below.cellAt hb (Nat.le_refl _) k.y1⟩
theorem C22.new (w : World) (a b c d : Int) : C22 ((w.alloc (Obj.cells #[.int .i64 a, .int .i64 b] 72)).alloc (Obj.cells #[.int .i64 c, .int .i64 d] 72)) w.heap.size (w.heap.size + 1) a b c d :=
  ⟨by rw [al_oldT (by simp), al_newT rfl]; rfl, by rw [al_oldT (by simp), al_newT rfl]; rfl, by rw [al_newT (by simp)]; rfl, by rw [al_newT (by simp)]; rfl⟩
section
attribute [local go_sem] undef
set_option maxRecDepth 100000 in
set_option maxHeartbeats 3200000 in
theorem betwLaw_bad (a b c d : Int) (w : World) (h : inL 1000000 [a, b, c, d] = false) : Calls Try.prog 15 #[.agg #[.int .i64 a, .int .i64 b], .agg #[.int .i64 c, .int .i64 d]] w (RetB w true) := by
  have hr := Lib.hid (fun W => betweenP_bad a b c d W h)
  obtain ⟨p, hp⟩ : ∃ p, frB a b = p := ⟨_, rfl⟩
  obtain ⟨q, hq⟩ : ∃ q, frB c d = q := ⟨_, rfl⟩
  have hf1 := Lib.hid (fun W => fraction_any a b p W hp)
  have hf2 := Lib.hid (fun W => fraction_any c d q W hq)
  have hpq : p = true → q = true → False := fun e1 e2 => by
    subst e1 e2
    have h1 := frB_iff.1 hp
    have h2 := frB_iff.1 hq
    have : inL 1000000 [a, b, c, d] = true := inL_iff.2 (fun x hx => by simp at hx; rcases hx with rfl | rfl | rfl | rfl <;> omega)
    rw [this] at h; cases h
  clear h hp hq
  go_enter Try.func15, Try.ntmps15
  go_upto_region 1 with (fail)
  obtain ⟨W0, hW0⟩ : ∃ W0, W0 = (w.alloc (Obj.cells #[.int .i64 a, .int .i64 b] 72)).alloc (Obj.cells #[.int .i64 c, .int .i64 d] 72) := ⟨_, rfl⟩
  rw [← hW0]
  have hC := C22.new w a b c d
  rw [← hW0] at hC
  have hb0 : Hid (Below w.heap.size w W0) := by show Below _ _ _; rw [hW0]; exact below_al (below_al (Below.refl _ _) _) _
  obtain ⟨x0, x1, y0, y1⟩ := hC
  clear hW0
  have hC := Lib.hid (show C22 W0 w.heap.size (w.heap.size + 1) a b c d from ⟨x0, x1, y0, y1⟩)
  go_upto_region 2 with (first
    | (go_at_call 43; (with_reducible refine (hr.out _).mono ?_); rintro e w1 ⟨rfl, hb⟩; have hb1 := Lib.hid hb; clear hb))
  obtain ⟨z0, z1, v0, v1⟩ := hC.out.up hb1.out
  cases p with
  | false =>
    clear hpq
    go_wp2_with (first
      | (go_at_call 22; (with_reducible refine (hf1.out _).mono ?_); rintro e w3 ⟨rfl, rfl⟩)
      | (go_at_call 23; (with_reducible refine (lives_any _).mono ?_); rintro e w2 ⟨rfl, hb⟩; have hb2 := Lib.hid hb; clear hb))
    go_ret
    exact ⟨rfl, bseqT hb0.out (bseqT hb1.out hb2.out)⟩
  | true =>
    cases q with
    | true => exact (hpq rfl rfl).elim
    | false =>
      clear hpq
      go_wp2_with (first
        | (go_at_call 22; (with_reducible refine (hf1.out _).mono ?_); rintro e w3 ⟨rfl, rfl⟩)
        | (go_at_call 22; (with_reducible refine (hf2.out _).mono ?_); rintro e w3 ⟨rfl, rfl⟩)
        | (go_at_call 23; (with_reducible refine (lives_any _).mono ?_); rintro e w2 ⟨rfl, hb⟩; have hb2 := Lib.hid hb; clear hb))
      go_ret
      exact ⟨rfl, bseqT hb0.out (bseqT hb1.out hb2.out)⟩
end
set_option maxRecDepth 100000 in
set_option maxHeartbeats 3200000 in
theorem betwLaw_in (a b c d : Nat) (w : World) (ha : 1 ≤ a) (ha2 : a ≤ 1000000) (hb : 1 ≤ b) (hb2 : b ≤ 1000000) (hc : 1 ≤ c) (hc2 : c ≤ 1000000) (hd : 1 ≤ d) (hd2 : d ≤ 1000000) : Calls Try.prog 15 #[.agg #[.int .i64 (a : Nat), .int .i64 (b : Nat)], .agg #[.int .i64 (c : Nat), .int .i64 (d : Nat)]] w (RetB w true) := by
  have hf1 := Lib.hid (fun W => fraction_any a b true W (frB_iff.2 (by omega)))
  have hf2 := Lib.hid (fun W => fraction_any c d true W (frB_iff.2 (by omega)))
  have hnone := fun W hl => betweenP_none a b c d W ha ha2 hb hb2 hc hc2 hd hd2 hl
  have hgood := fun W hl => betweenP_good a b c d W ha ha2 hb hb2 hc hc2 hd hd2 hl
  have href := fun W p q hm hq => betweenR_good a b c d p q 2000000 W ha ha2 hb hb2 hc hc2 hd hd2 hm hq (by omega)
  have hlim := fun p q (hm : Mid a b c d p q) hl => hm.le hb hl
  obtain ⟨X, hX⟩ : ∃ X, a * d = X := ⟨_, rfl⟩
  obtain ⟨Y, hY⟩ : ∃ Y, c * b = Y := ⟨_, rfl⟩
  have hXI := mulN hX
  have hYI := mulN hY
  have hXl : X ≤ 1000000000000 := by rw [← hX]; exact Nat.le_trans (Nat.mul_le_mul ha2 hd2) (by decide)
  have hYl : Y ≤ 1000000000000 := by rw [← hY]; exact Nat.le_trans (Nat.mul_le_mul hc2 hb2) (by decide)
  rw [hX, hY] at hnone hgood hlim
  clear hX hY
  go_enter Try.func15, Try.ntmps15
  go_upto_region 1 with (fail)
  obtain ⟨W0, hW0⟩ : ∃ W0, W0 = (w.alloc (Obj.cells #[.int .i64 (a : Int), .int .i64 (b : Int)] 72)).alloc (Obj.cells #[.int .i64 (c : Int), .int .i64 (d : Int)] 72) := ⟨_, rfl⟩
  rw [← hW0]
  have hC := C22.new w a b c d
  rw [← hW0] at hC
  have hb0 : Hid (Below w.heap.size w W0) := by show Below _ _ _; rw [hW0]; exact below_al (below_al (Below.refl _ _) _) _
  obtain ⟨x0, x1, y0, y1⟩ := hC
  clear hW0
  have hC := Lib.hid (show C22 W0 w.heap.size (w.heap.size + 1) a b c d from ⟨x0, x1, y0, y1⟩)
  by_cases hl : Y ≤ X
  · have hr := Lib.hid (fun W => hnone W hl)
    have hlI : (Y : Int) ≤ (X : Int) := by omega
    have hlD : decide ((Y : Int) ≤ (X : Int)) = true := decide_eq_true hlI
    have hlD2 : decide (Y ≤ X) = true := decide_eq_true hl
    clear hnone hgood href hlim
    go_upto_region 2 with (first
      | (go_at_call 43; (with_reducible refine (hr.out _).mono ?_); rintro e w1 ⟨rfl, hb⟩; have hb1 := Lib.hid hb; clear hb))
    obtain ⟨z0, z1, v0, v1⟩ := hC.out.up hb1.out
    go_wp2_with (first
      | (go_at_call 22; (with_reducible refine (hf1.out _).mono ?_); rintro e w3 ⟨rfl, rfl⟩)
      | (go_at_call 22; (with_reducible refine (hf2.out _).mono ?_); rintro e w3 ⟨rfl, rfl⟩)
      | (go_at_call 23; (with_reducible refine (lives_any _).mono ?_); rintro e w2 ⟨rfl, hb⟩; have hb2 := Lib.hid hb; clear hb))
    go_ret
    exact ⟨rfl, bseqT hb0.out (bseqT hb1.out hb2.out)⟩
  · have hr := Lib.hid (fun W => hgood W (by omega))
    have hrr := Lib.hid (fun W p q hm => href W p q hm (by have := (hlim p q hm (by omega)).1; omega))
    have hlI : ¬ (Y : Int) ≤ (X : Int) := by omega
    have hlD : decide ((Y : Int) ≤ (X : Int)) = false := decide_eq_false hlI
    have hlD2 : decide (Y ≤ X) = false := decide_eq_false hl
    clear hnone hgood href hlim
    go_upto_region 2 with (first
      | (go_at_call 43; (with_reducible refine (hr.out _).mono ?_); rintro e w1 ⟨p, q, rfl, hm, hb⟩; have hmH := Lib.hid hm; have hb1 := Lib.hid hb; clear hb hm))
    obtain ⟨z0, z1, v0, v1⟩ := hC.out.up hb1.out
    have ep : ((p : Int) == (p : Int)) = true := by simp
    have eq : ((q : Int) == (q : Int)) = true := by simp
    go_wp2_with (first
      | (go_at_call 22; (with_reducible refine (hf1.out _).mono ?_); rintro e w3 ⟨rfl, rfl⟩)
      | (go_at_call 22; (with_reducible refine (hf2.out _).mono ?_); rintro e w3 ⟨rfl, rfl⟩)
      | (go_at_call 44; (refine (hrr.out _ p q hmH.out).mono ?_); rintro e w4 ⟨rfl, hb⟩; have hb4 := Lib.hid hb; clear hb)
      | (go_at_call 23; (with_reducible refine (lives_any _).mono ?_); rintro e w2 ⟨rfl, hb⟩; have hb2 := Lib.hid hb; clear hb))
    go_ret
    exact ⟨rfl, bseqT hb0.out (bseqT hb1.out (bseqT hb4.out hb2.out))⟩
theorem betwLaw_any (a b c d : Int) (w : World) : Calls Try.prog 15 #[.agg #[.int .i64 a, .int .i64 b], .agg #[.int .i64 c, .int .i64 d]] w (RetB w true) := by
  cases h : inL 1000000 [a, b, c, d] with
  | false => exact betwLaw_bad a b c d w h
  | true =>
    have h1 := inL_iff.1 h a (by simp)
    have h2 := inL_iff.1 h b (by simp)
    have h3 := inL_iff.1 h c (by simp)
    have h4 := inL_iff.1 h d (by simp)
    obtain ⟨a, rfl⟩ : ∃ n : Nat, a = (n : Int) := ⟨a.toNat, by omega⟩
    obtain ⟨b, rfl⟩ : ∃ n : Nat, b = (n : Int) := ⟨b.toNat, by omega⟩
    obtain ⟨c, rfl⟩ : ∃ n : Nat, c = (n : Int) := ⟨c.toNat, by omega⟩
    obtain ⟨d, rfl⟩ : ∃ n : Nat, d = (n : Int) := ⟨d.toNat, by omega⟩
    exact betwLaw_in a b c d w (by omega) (by omega) (by omega) (by omega) (by omega) (by omega) (by omega) (by omega)
end Go.Proofs.Ytbehfhmdilifkaa
