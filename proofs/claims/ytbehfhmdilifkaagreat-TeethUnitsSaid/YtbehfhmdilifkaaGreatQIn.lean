/- In -/
import Derived.Test.YtbehfhmdilifkaaGreatQTq
import Derived.Test.YtbehfhmdilifkaaGreatQZq
import Derived.Test.YtbehfhmdilifkaaGreatQWq
import Derived.Test.YtbehfhmdilifkaaGreatQPn
import Derived.Test.YtbehfhmdilifkaaGreatQHf
set_option linter.unusedVariables false
/- Walk of the law TeethUnits. (Printed by wip/tools/gen_in.py, then gen_tail.py.) -/
namespace Go.Proofs.YtbehfhmdilifkaaGreat
open Go Go.RowKit Go.Proofs

theorem LZ_cvU {z : Int} (h : z.natAbs ≤ cvB * cvB * 2002) : LZ z ≤ 1000 := by
  have h1 : LZ z ≤ 60 := by
    show L B4 _ ≤ _
    refine Nat.le_trans (L_mono two_le_B4 h) ?_
    decide
  omega
theorem LZ_one : LZ 1 ≤ 1000 := LZ_cvU (by decide)
theorem LZ_m1 : LZ (-1) ≤ 1000 := LZ_cvU (by decide)
theorem mulq1 (a : Option Addr) (c : Nat) (a' : Option Addr) (c' : Nat) (b : Option Addr) (d : Nat) (b' : Option Addr) (d' : Nat) (x y z : Int) (w : World) (h1 : QM w a c a' c' x 1) (h2 : QM w b d b' d' y 1) (hp : LZ x ≤ 1000) (hq : LZ y ≤ 1000) (hz : x * y = z) :
    Calls Tryz.prog 15 #[.agg #[Value.bool (ng x), Value.slice a (LZ x) c, Value.bool (ng 1), Value.slice a' (LZ 1) c'], .agg #[Value.bool (ng y), Value.slice b (LZ y) d, Value.bool (ng 1), Value.slice b' (LZ 1) d']] w (RetQ w z 1) := by
  have := mulq_any a c a' c' b d b' d' x 1 y 1 w h1 h2 ⟨by omega, by have := LZ_one; omega⟩ ⟨by omega, by have := LZ_one; omega⟩
  rw [hz, show (1 : Int) * 1 = 1 from rfl] at this
  exact this
theorem subq1 (a : Option Addr) (c : Nat) (a' : Option Addr) (c' : Nat) (b : Option Addr) (d : Nat) (b' : Option Addr) (d' : Nat) (x y z : Int) (w : World) (h1 : QM w a c a' c' x 1) (h2 : QM w b d b' d' y 1) (hp : LZ x ≤ 1000) (hq : LZ y ≤ 1000) (hz : x - y = z) :
    Calls Tryz.prog 14 #[.agg #[Value.bool (ng x), Value.slice a (LZ x) c, Value.bool (ng 1), Value.slice a' (LZ 1) c'], .agg #[Value.bool (ng y), Value.slice b (LZ y) d, Value.bool (ng 1), Value.slice b' (LZ 1) d']] w (RetQ w z 1) := by
  have := subq_any a c a' c' b d b' d' x 1 y 1 w h1 h2 ⟨by omega, by have := LZ_one; omega⟩ ⟨by omega, by have := LZ_one; omega⟩
  rw [Int.mul_one, Int.mul_one, hz, show (1 : Int) * 1 = 1 from rfl] at this
  exact this
theorem addq1 (a : Option Addr) (c : Nat) (a' : Option Addr) (c' : Nat) (b : Option Addr) (d : Nat) (b' : Option Addr) (d' : Nat) (x y z : Int) (w : World) (h1 : QM w a c a' c' x 1) (h2 : QM w b d b' d' y 1) (hp : LZ x ≤ 1000) (hq : LZ y ≤ 1000) (hz : x + y = z) :
    Calls Tryz.prog 16 #[.agg #[Value.bool (ng x), Value.slice a (LZ x) c, Value.bool (ng 1), Value.slice a' (LZ 1) c'], .agg #[Value.bool (ng y), Value.slice b (LZ y) d, Value.bool (ng 1), Value.slice b' (LZ 1) d']] w (RetQ w z 1) := by
  have := addq_any a c a' c' b d b' d' x 1 y 1 w h1 h2 ⟨by omega, by have := LZ_one; omega⟩ ⟨by omega, by have := LZ_one; omega⟩
  rw [Int.mul_one, Int.mul_one, hz, show (1 : Int) * 1 = 1 from rfl] at this
  exact this
/-- The same number, compared with itself. -/
theorem cmpq1 (a : Option Addr) (c : Nat) (a' : Option Addr) (c' : Nat) (b : Option Addr) (d : Nat) (b' : Option Addr) (d' : Nat) (x : Int) (w : World) (h1 : QM w a c a' c' x 1) (h2 : QM w b d b' d' x 1) (hp : LZ x ≤ 1000) :
    Calls Tryz.prog 13 #[.agg #[Value.bool (ng x), Value.slice a (LZ x) c, Value.bool (ng 1), Value.slice a' (LZ 1) c'], .agg #[Value.bool (ng x), Value.slice b (LZ x) d, Value.bool (ng 1), Value.slice b' (LZ 1) d']] w (RetNum w 0) := by
  have := cmpq_any a c a' c' b d b' d' x 1 x 1 w h1 h2 ⟨by omega, by have := LZ_one; omega⟩ ⟨by omega, by have := LZ_one; omega⟩
  rw [Int.sub_self] at this
  exact this
theorem signP (a : Option Addr) (c x : Nat) (w : World) (h : 0 < x) : Calls Tryz.prog 12 #[.agg #[.bool (ng (x : Int)), .slice a (LZ (x : Int)) c]] w (RetNum w 1) := by
  have := zsign_any a c (x : Int) w
  have e : sg (x : Int) = 1 := by unfold sg; rw [if_neg (by omega), if_neg (by omega)]
  rw [e] at this
  exact this
set_option maxHeartbeats 1600000 in
theorem wholeq_m1 (w : World) : Calls Tryz.prog 11 #[.int .i64 (-1)] w (RetQ w (-1) 1) := by
  have HR : Hid (Rg w.heap.size 4 (w.alloc (Obj.cells #[.bool false, .slice none 0 0, .bool false, .slice none 0 0] 36)) (w.alloc (Obj.cells #[.bool false, .slice none 0 0, .bool false, .slice none 0 0] 36))) := Rg.new4 _ _ _ rfl
  have hbl : Below w.heap.size w (w.alloc (Obj.cells #[.bool false, .slice none 0 0, .bool false, .slice none 0 0] 36)) := by go_grown
  have hblH := Lib.hid hbl
  have hone : Hid (∀ W, Calls Tryz.prog 34 #[.int .i64 1] W (RetZ W 1)) := fun v : World => zint_any 1 v (by omega)
  have hm := Lib.hid (fun v : World => zint_minus v)
  clear hbl
  go_enter Tryz.func11, Tryz.ntmps11
  go_wp2_with (first
    | (go_at_call 34; (with_reducible refine (hm.out _).mono ?_); rintro e w1 ⟨a1, c1, rfl, hm1, hb1⟩; have k1 := Lib.hid (Rg.step HR.out (by omega) hb1))
    | (go_at_call 34; (with_reducible refine (hone.out _).mono ?_); rintro e w2 ⟨a2, c2, rfl, hm2, hb2⟩; have hm1' := hm1.up hb2; obtain ⟨g1, g2, g3, g5, g4⟩ := Rg.step k1.out (by omega) hb2))
  refine bodyPost_ret (v := .agg #[.bool (ng (-1)), .slice a1 (LZ (-1)) c1, .bool (ng 1), .slice a2 (LZ 1) c2]) (by simp [results, Tryz.results11, go_sem, g2]) rfl ?_
  exact RetQ.fin (N := w.heap.size) (hm1'.set4 g5 _ _ _ _ _ _ _ _) (hm2.set4 g5 _ _ _ _ _ _ _ _) hblH.out (below_set4 g4 (Nat.le_refl _) _ _ _ _) (by omega)
theorem wholeq_n (n : Nat) (w : World) (hn : n ≤ 4611686018427387904) : Calls Tryz.prog 11 #[.int .i64 (n : Nat)] w (RetQ w (n : Int) 1) := wholeq_any n w hn
theorem intS4 {x : Nat} (hx : x < cvB) : Short4 (((x : Nat) : Int) : Rat) ∧ rn (((x : Nat) : Int) : Rat) = (x : Int) ∧ rd (((x : Nat) : Int) : Rat) = 1 := by
  have e1 : rn (((x : Nat) : Int) : Rat) = (x : Int) := by unfold rn; simp
  have e2 : rd (((x : Nat) : Int) : Rat) = 1 := by unfold rd; simp
  have hp : cvB < p10 4000 := Nat.lt_of_lt_of_le (show cvB < p10 101 by decide) (p10_mono (by omega))
  exact ⟨⟨by rw [e1]; omega, by rw [e2]; exact Nat.lt_of_lt_of_le (show 1 < p10 101 by decide) (p10_mono (by omega))⟩, e1, e2⟩
theorem ofU (x : Nat) (s : ByteArray) (hs : nt (((x : Nat) : Int) : Rat) = s) (hx : x < cvB) (w : World) : Calls Tryz.prog 10 #[.string s] w (RetQ w (x : Int) 1) := by
  obtain ⟨h4, e1, e2⟩ := intS4 hx
  obtain ⟨h5, h6⟩ := parse_nt h4
  rw [hs] at h5 h6
  have := of_any s w h5 (by have := parse_len h5; omega)
  rw [h6, e1, e2] at this
  exact this
theorem validU (x : Nat) (s : ByteArray) (hs : nt (((x : Nat) : Int) : Rat) = s) (hx : x < cvB) (w : World) : Calls Tryz.prog 9 #[.string s] w (RetBool w true) := by
  obtain ⟨h4, e1, e2⟩ := intS4 hx
  obtain ⟨h5, h6⟩ := parse_nt h4
  rw [hs] at h5
  exact valid_b s true w (vok_true h5) (by have := parse_len h5; omega)
theorem allOk_endU {s : Cv} {l : List Nat} (h : allOk s l = true) : stOk (cvEnd s l) = true := by
  induction l generalizing s with
  | nil => exact h
  | cons a l ih =>
    simp only [allOk, Bool.and_eq_true] at h
    exact ih h.2
theorem pellV_ltU {d : Nat} {neg : Bool} (h : pellOk1 d neg = true) (hi : pellIs d neg = true) : (pellV d neg).1 < cvB ∧ (pellV d neg).2 < cvB := by
  have h1 := allOk_endU (pell_is h hi).1
  simp only [stOk, Bool.and_eq_true, decide_eq_true_eq] at h1
  exact ⟨h1.1.1.1, h1.1.2⟩
/-- A box holds a whole number. -/
structure QB (W : World) (b : Nat) (n : Int) (a : Option Addr) (c : Nat) (a' : Option Addr) (c' : Nat) : Prop where
  blk : Blk W b 36 [.bool (ng n), .slice a (LZ n) c, .bool (ng 1), .slice a' (LZ 1) c']
  qm : QM W a c a' c' n 1
theorem QB.up {W W' : World} {b : Nat} {n : Int} {a : Option Addr} {c : Nat} {a' : Option Addr} {c' : Nat} (h : QB W b n a c a' c') (hb : Below W.heap.size W W') : QB W' b n a c a' c' := ⟨h.blk.later hb, h.qm.up hb⟩
theorem QB.new {w : World} {n : Int} {a : Option Addr} {c : Nat} {a' : Option Addr} {c' : Nat} (h : QM w a c a' c' n 1) : QB (w.alloc (Obj.cells #[.bool (ng n), .slice a (LZ n) c, .bool (ng 1), .slice a' (LZ 1) c'] 36)) w.heap.size n a c a' c' := ⟨World.alloc_heap_new w _, h.up (below_al (Below.refl _ _) _)⟩
def QC (W : World) (b : Nat) (n : Int) (a : Option Addr) (c : Nat) (a' : Option Addr) (c' : Nat) : Prop := W.cell? ⟨b, 0, none⟩ = some (.bool (ng n)) ∧ W.cell? ⟨b, 1, none⟩ = some (.slice a (LZ n) c) ∧ W.cell? ⟨b, 2, none⟩ = some (.bool (ng 1)) ∧ W.cell? ⟨b, 3, none⟩ = some (.slice a' (LZ 1) c')
theorem QB.cells {W : World} {b : Nat} {n : Int} {a : Option Addr} {c : Nat} {a' : Option Addr} {c' : Nat} (h : QB W b n a c a' c') : QC W b n a c a' c' := ⟨by rw [h.blk.cell]; rfl, by rw [h.blk.cell]; rfl, by rw [h.blk.cell]; rfl, by rw [h.blk.cell]; rfl⟩
theorem unitsLaw_sq (v d E : Nat) (w : World) (hv : v < 65536) (hE : v % 999 = E) (hd : E + 2 = d) (h : sqB d = true) : Calls Tryz.prog 3 #[.int .u16 (v : Nat)] w (RetB w true) := by
  have hEl : E < 999 := by rw [← hE]; exact Nat.mod_lt _ (by omega)
  have t1 : (v : Int).tmod 999 = (E : Int) := by rw [← hE]; exact (Int.ofNat_tmod v 999).symm
  have t2 : (v : Int) % 999 = (E : Int) := by rw [← hE]; exact (Int.natCast_emod v 999).symm
  have hdI : (E : Int) + 2 = (d : Int) := by omega
  have hr := Lib.hid (fun W => rootP_sq d W (by omega) (by omega) h)
  have hs := Lib.hid (fun W => square_any d true W (by omega) h)
  clear hE h
  go_enter Tryz.func3, Tryz.ntmps3
  go_wp2_with (first
    | (go_at_call 5; (with_reducible refine (hr.out _).mono ?_); rintro e w1 ⟨rfl, rfl⟩)
    | (go_at_call 6; (with_reducible refine (hs.out _).mono ?_); rintro e w3 ⟨rfl, hb⟩; have hb3 := Lib.hid hb; clear hb)
    | (go_at_call 7; (with_reducible refine (lives_any _).mono ?_); rintro e w2 ⟨rfl, hb⟩; have hb2 := Lib.hid hb; clear hb))
  go_ret
  have := hb3.out
  subst this
  exact ⟨rfl, hb2.out⟩
set_option maxRecDepth 100000 in
set_option maxHeartbeats 25600000 in
theorem unitsLaw_even (v d E : Nat) (w : World) (hv : v < 65536) (hE : v % 999 = E) (hd : E + 2 = d) (h : sqB d = false) (hi : pellIs d true = false) : Calls Tryz.prog 3 #[.int .u16 (v : Nat)] w (RetB w true) := by
  have hEl : E < 999 := by rw [← hE]; exact Nat.mod_lt _ (by omega)
  have t1 : (v : Int).tmod 999 = (E : Int) := by rw [← hE]; exact (Int.ofNat_tmod v 999).symm
  have t2 : (v : Int) % 999 = (E : Int) := by rw [← hE]; exact (Int.natCast_emod v 999).symm
  have hdI : (E : Int) + 2 = (d : Int) := by omega
  have h2 : 2 ≤ d := by omega
  have h3 : d ≤ 1000 := by omega
  have hne : ¬ fl d * fl d = d := of_decide_eq_false h
  have hok := pell_ok h2 h3 hne
  have hP := perI h2 h3 hne
  have hi1 : pellIs d false = true := by unfold pellIs; simp
  have hV1 := pell_is hok.1 hi1
  have hlt1 := pellV_ltU hok.1 hi1
  have hso1 : isSol d false (pellV d false).1 (pellV d false).2 = true := refGo_sol hV1.2.1
  obtain ⟨n, hn⟩ : ∃ n, fl d = n := ⟨_, rfl⟩
  obtain ⟨l, hl⟩ : ∃ l, (per d).length = l := ⟨_, rfl⟩
  have hll : l ≤ 70 := by rw [← hl]; exact hP.len
  have hlr : l % 2 = 0 := by rw [← hl]; unfold pellIs at hi; simp at hi; omega
  have l1 : (l : Int).tmod 2 = 0 := by rw [show (0 : Int) = ((l % 2 : Nat) : Int) by rw [hlr]; rfl]; exact (Int.ofNat_tmod l 2).symm
  have l2 : (l : Int) % 2 = 0 := by omega
  have hr := Lib.hid (fun W => rootP_good d n W h2 h3 h hn)
  unfold RootPost at hr
  rw [hl] at hr
  have hp1 : Hid (∀ W, Calls Tryz.prog 8 #[.int .i64 (d : Nat), .int .i64 1] W (PellPost d false W)) := fun W => pellP_good d false W h2 h3 h hi1
  unfold PellPost at hp1
  have hp2 := Lib.hid (fun W => pellP_none d (sq32 d) (per d).length (per d) W (fun W => rootP_good d (sq32 d) W h2 h3 h (fl_small h2 h3)) rfl (by rw [hl]; exact hlr) hP.len)
  obtain ⟨x, hx⟩ : ∃ x, (pellV d false).1 = x := ⟨_, rfl⟩
  obtain ⟨y, hy⟩ : ∃ y, (pellV d false).2 = y := ⟨_, rfl⟩
  rw [hx, hy] at hp1 hlt1 hV1 hso1
  obtain ⟨sx, hsx⟩ : ∃ s, nt (((x : Nat) : Int) : Rat) = s := ⟨_, rfl⟩
  obtain ⟨sy, hsy⟩ : ∃ s, nt (((y : Nat) : Int) : Rat) = s := ⟨_, rfl⟩
  rw [hsx, hsy] at hp1
  have hof1 := Lib.hid (ofU x sx hsx hlt1.1)
  have hof2 := Lib.hid (ofU y sy hsy hlt1.2)
  have hva1 := Lib.hid (validU x sx hsx hlt1.1)
  have hva2 := Lib.hid (validU y sy hsy hlt1.2)
  have hwh := Lib.hid (fun W => wholeq_n d W (by omega))
  have hw1 : Hid (∀ W, Calls Tryz.prog 11 #[.int .i64 1] W (RetQ W 1 1)) := fun W => wholeq_n 1 W (by omega)
  have hsg1 := Lib.hid (fun a c W => signP a c x W hV1.2.2.1)
  have hsg2 := Lib.hid (fun a c W => signP a c y W hV1.2.2.2)
  obtain ⟨X2, hX2⟩ : ∃ X2, x * x = X2 := ⟨_, rfl⟩
  obtain ⟨Y2, hY2⟩ : ∃ Y2, y * y = Y2 := ⟨_, rfl⟩
  obtain ⟨D2, hD2⟩ : ∃ D2, d * Y2 = D2 := ⟨_, rfl⟩
  have hX2b : X2 ≤ cvB * cvB := by rw [← hX2]; exact Nat.mul_le_mul (Nat.le_of_lt hlt1.1) (Nat.le_of_lt hlt1.1)
  have hY2b : Y2 ≤ cvB * cvB := by rw [← hY2]; exact Nat.mul_le_mul (Nat.le_of_lt hlt1.2) (Nat.le_of_lt hlt1.2)
  have hD2b : D2 ≤ 1000 * (cvB * cvB) := by rw [← hD2]; exact Nat.mul_le_mul h3 hY2b
  have hs1 : X2 = D2 + 1 := by
    unfold isSol at hso1
    simp only [Bool.false_eq_true, if_false, Bool.and_eq_true, decide_eq_true_eq] at hso1
    rw [hX2, hY2, hD2] at hso1
    exact hso1.1
  have hmx := Lib.hid (show (x : Int) * (x : Int) = (X2 : Int) by rw [← Int.natCast_mul, hX2])
  have hmy := Lib.hid (show (y : Int) * (y : Int) = (Y2 : Int) by rw [← Int.natCast_mul, hY2])
  have hmd := Lib.hid (show (d : Int) * (Y2 : Int) = (D2 : Int) by rw [← Int.natCast_mul, hD2])
  have hms := Lib.hid (show (X2 : Int) - (D2 : Int) = 1 by omega)
  have hcc : cvB ≤ cvB * cvB := by decide
  obtain ⟨CC, hCC⟩ : ∃ CC, cvB * cvB = CC := ⟨_, rfl⟩
  obtain ⟨C1, hC1⟩ : ∃ C1, cvB = C1 := ⟨_, rfl⟩
  have hU : Hid (∀ z : Int, z.natAbs ≤ CC * 2002 → LZ z ≤ 1000) := fun z hz => LZ_cvU (by rw [hCC]; exact hz)
  rw [hC1] at hlt1 hcc
  rw [hCC] at hX2b hY2b hD2b
  rw [← hC1, hCC, hC1] at hcc
  have sx1 := Lib.hid (hU.out (x : Int) (by omega))
  have sy1 := Lib.hid (hU.out (y : Int) (by omega))
  have sX2 := Lib.hid (hU.out (X2 : Int) (by omega))
  have sY2 := Lib.hid (hU.out (Y2 : Int) (by omega))
  have sD2 := Lib.hid (hU.out (D2 : Int) (by omega))
  have sd1 := Lib.hid (hU.out (d : Int) (by have : 1 ≤ C1 := (by omega); have : C1 = cvB := hC1.symm; have h9 : (1000 : Nat) ≤ cvB := (by decide); omega))
  have s11 := Lib.hid LZ_one
  clear hE h hi h2 h3 hne hok hP hi1 hV1 hlt1 hso1 hn hl hll hlr hx hy hsx hsy hX2 hY2 hD2 hX2b hY2b hD2b hs1 hcc hCC hC1 hU
  go_enter Tryz.func3, Tryz.ntmps3
  go_upto_region 10 with (first
    | (go_at_call 5; (with_reducible refine (hr.out _).mono ?_); rintro e w1 ⟨g1, k1, rfl, hk1, hI, hb⟩; have hb1 := Lib.hid hb; clear hI hb hk1)
    | (go_at_call 8; (with_reducible refine (hp1.out _).mono ?_); rintro e w2 ⟨rfl, hb⟩; have hb2 := Lib.hid hb; clear hb)
    | (go_at_call 8; (with_reducible refine (hp2.out _).mono ?_); rintro e w3 ⟨rfl, hb⟩; have hb3 := Lib.hid hb; clear hb)
    | (go_at_call 9; (with_reducible refine (hva1.out _).mono ?_); rintro e w4 ⟨rfl, hb⟩; have hb4 := Lib.hid hb; clear hb)
    | (go_at_call 9; (with_reducible refine (hva2.out _).mono ?_); rintro e w5 ⟨rfl, hb⟩; have hb5 := Lib.hid hb; clear hb)
    | (go_at_call 7; (with_reducible refine (lives_any _).mono ?_); rintro e w6 ⟨rfl, hb⟩; have hb6 := Lib.hid hb; clear hb)
    | (go_at_call 10; (with_reducible refine (hof1.out _).mono ?_); rintro e w7 ⟨a1, c1, e1, f1, rfl, hm, hb⟩; have hm7 := Lib.hid hm; have hb7 := Lib.hid hb; clear hb hm)
    | (go_at_call 10; (with_reducible refine (hof2.out _).mono ?_); rintro e w8 ⟨a2, c2, e2, f2, rfl, hm, hb⟩; have hm8 := Lib.hid hm; have hm78 := Lib.hid (hm7.out.up hb); have hb8 := Lib.hid hb; clear hb hm)
    | (go_at_call 11; (with_reducible refine (hwh.out _).mono ?_); rintro e w9 ⟨a3, c3, e3, f3, rfl, hm, hb⟩; have hm9 := Lib.hid hm; have hm79 := Lib.hid (hm78.out.up hb); have hm89 := Lib.hid (hm8.out.up hb); have hb9 := Lib.hid hb; clear hb hm))
  have hb19 := Lib.hid (bseqT hb1.out (bseqT hb2.out (bseqT hb3.out (bseqT hb4.out (bseqT hb5.out (bseqT hb6.out (bseqT hb7.out (bseqT hb8.out hb9.out))))))))
  obtain ⟨V1, hV1⟩ : ∃ V, V = w9.alloc (Obj.cells #[.bool (ng (x : Int)), .slice a1 (LZ (x : Int)) c1, .bool (ng 1), .slice e1 (LZ 1) f1] 36) := ⟨_, rfl⟩
  obtain ⟨V2, hV2⟩ : ∃ V, V = V1.alloc (Obj.cells #[.bool (ng (y : Int)), .slice a2 (LZ (y : Int)) c2, .bool (ng 1), .slice e2 (LZ 1) f2] 36) := ⟨_, rfl⟩
  obtain ⟨V, hV⟩ : ∃ V, V = V2.alloc (Obj.cells #[.bool (ng (d : Int)), .slice a3 (LZ (d : Int)) c3, .bool (ng 1), .slice e3 (LZ 1) f3] 36) := ⟨_, rfl⟩
  have z1 : V1.heap.size = w9.heap.size + 1 := by rw [hV1]; simp
  have z2 : V2.heap.size = w9.heap.size + 1 + 1 := by rw [hV2]; simp [z1]
  have q1 : Below w9.heap.size w9 V1 := by rw [hV1]; exact below_al (Below.refl _ _) _
  have q2 : Below V1.heap.size V1 V2 := by rw [hV2]; exact below_al (Below.refl _ _) _
  have q3 : Below V2.heap.size V2 V := by rw [hV]; exact below_al (Below.refl _ _) _
  have p1 : QB V1 w9.heap.size (x : Int) a1 c1 e1 f1 := by rw [hV1]; exact QB.new hm79.out
  have p2 : QB V2 (w9.heap.size + 1) (y : Int) a2 c2 e2 f2 := by rw [← z1, hV2]; exact QB.new (hm89.out.up q1)
  have p3 : QB V (w9.heap.size + 1 + 1) (d : Int) a3 c3 e3 f3 := by rw [← z2, hV]; exact QB.new ((hm9.out.up q1).up q2)
  have p1V := Lib.hid ((p1.up q2).up q3)
  have p2V := Lib.hid (p2.up q3)
  have p3V := Lib.hid p3
  have hbV := Lib.hid (bseqT hb19.out (bseqT q1 (bseqT q2 q3)))
  rw [← hV1, ← hV2, ← hV]
  obtain ⟨B1, hB1⟩ : ∃ B1, w9.heap.size = B1 := ⟨_, rfl⟩
  rw [hB1] at p1V p2V p3V
  rw [hB1]
  clear hV hV1 hV2 z1 z2 q1 q2 q3 p1 p2 p3 hB1 hb19 hm7 hm8 hm9 hm78 hm79 hm89 hb1 hb2 hb3 hb4 hb5 hb6 hb7 hb8 hb9 hr hp1 hp2 hva1 hva2 hof1 hof2 hwh
  have m1 := Lib.hid p1V.out.qm
  have m2 := Lib.hid p2V.out.qm
  have m3 := Lib.hid p3V.out.qm
  have hup : Hid (∀ W, Below V.heap.size V W → (W.cell? ⟨B1, 0, none⟩ = some (.bool (ng (x : Int))) ∧ W.cell? ⟨B1, 1, none⟩ = some (.slice a1 (LZ (x : Int)) c1) ∧ W.cell? ⟨B1, 2, none⟩ = some (.bool (ng 1)) ∧ W.cell? ⟨B1, 3, none⟩ = some (.slice e1 (LZ 1) f1)) ∧ (W.cell? ⟨B1 + 1, 0, none⟩ = some (.bool (ng (y : Int))) ∧ W.cell? ⟨B1 + 1, 1, none⟩ = some (.slice a2 (LZ (y : Int)) c2) ∧ W.cell? ⟨B1 + 1, 2, none⟩ = some (.bool (ng 1)) ∧ W.cell? ⟨B1 + 1, 3, none⟩ = some (.slice e2 (LZ 1) f2)) ∧ (W.cell? ⟨B1 + 1 + 1, 0, none⟩ = some (.bool (ng (d : Int))) ∧ W.cell? ⟨B1 + 1 + 1, 1, none⟩ = some (.slice a3 (LZ (d : Int)) c3) ∧ W.cell? ⟨B1 + 1 + 1, 2, none⟩ = some (.bool (ng 1)) ∧ W.cell? ⟨B1 + 1 + 1, 3, none⟩ = some (.slice e3 (LZ 1) f3))) := fun W hW => ⟨(p1V.out.up hW).cells, (p2V.out.up hW).cells, (p3V.out.up hW).cells⟩
  have hB0 : Below V.heap.size V V := Below.refl _ _
  -- tail S: fun W => Below V.heap.size V W ∧ (W.cell? ⟨B1, 0, none⟩ = some (.bool (ng (x : Int))) ∧ W.cell? ⟨B1, 1, none⟩ = some (.slice a1 (LZ (x : Int)) c1) ∧ W.cell? ⟨B1, 2, none⟩ = some (.bool (ng 1)) ∧ W.cell? ⟨B1, 3, none⟩ = some (.slice e1 (LZ 1) f1)) ∧ (W.cell? ⟨B1 + 1, 0, none⟩ = some (.bool (ng (y : Int))) ∧ W.cell? ⟨B1 + 1, 1, none⟩ = some (.slice a2 (LZ (y : Int)) c2) ∧ W.cell? ⟨B1 + 1, 2, none⟩ = some (.bool (ng 1)) ∧ W.cell? ⟨B1 + 1, 3, none⟩ = some (.slice e2 (LZ 1) f2)) ∧ (W.cell? ⟨B1 + 1 + 1, 0, none⟩ = some (.bool (ng (d : Int))) ∧ W.cell? ⟨B1 + 1 + 1, 1, none⟩ = some (.slice a3 (LZ (d : Int)) c3) ∧ W.cell? ⟨B1 + 1 + 1, 2, none⟩ = some (.bool (ng 1)) ∧ W.cell? ⟨B1 + 1 + 1, 3, none⟩ = some (.slice e3 (LZ 1) f3))
  -- tail s0: ⟨Below.drew hB0, hup.out _ (Below.drew hB0)⟩
  -- arm 2: go_at_call 12; (with_reducible refine (hsg1.out _ _ _).mono ?_); rintro e v2 ⟨rfl, hb⟩; have hq2 : Below V.heap.size V v2 := bseqT hHeld.1 hb; clear hb
  -- arm 2 s: ⟨hq2, hup.out _ hq2⟩
  -- arm 7: go_at_call 12; (with_reducible refine (hsg2.out _ _ _).mono ?_); rintro e v7 ⟨rfl, hb⟩; have hq7 : Below V.heap.size V v7 := bseqT hHeld.1 hb; clear hb
  -- arm 7 s: ⟨hq7, hup.out _ hq7⟩
  -- arm 13: go_at_call 15; (with_reducible refine (mulq1 a1 c1 e1 f1 a1 c1 e1 f1 (x : Int) (x : Int) (X2 : Int) _ (m1.out.up hHeld.1) (m1.out.up hHeld.1) sx1.out sx1.out hmx.out).mono ?_); rintro e v13 ⟨i13, j13, k13, l13, rfl, hm, hb⟩; have hq13 : Below V.heap.size V v13 := bseqT hHeld.1 hb; have hn13 := Lib.hid hm; clear hm hb
  -- arm 13 s: ⟨hq13, hup.out _ hq13⟩
  -- arm 17: go_at_call 15; (with_reducible refine (mulq1 a2 c2 e2 f2 a2 c2 e2 f2 (y : Int) (y : Int) (Y2 : Int) _ (m2.out.up hHeld.1) (m2.out.up hHeld.1) sy1.out sy1.out hmy.out).mono ?_); rintro e v17 ⟨i17, j17, k17, l17, rfl, hm, hb⟩; have hq17 : Below V.heap.size V v17 := bseqT hHeld.1 hb; have hn17 := Lib.hid hm; have ho13 := Lib.hid (hn13.out.up hb); clear hm hb
  -- arm 17 s: ⟨hq17, hup.out _ hq17⟩
  -- arm 18: go_at_call 15; (with_reducible refine (mulq1 a3 c3 e3 f3 i17 j17 k17 l17 (d : Int) (Y2 : Int) (D2 : Int) _ (m3.out.up hHeld.1) hn17.out sd1.out sY2.out hmd.out).mono ?_); rintro e v18 ⟨i18, j18, k18, l18, rfl, hm, hb⟩; have hq18 : Below V.heap.size V v18 := bseqT hHeld.1 hb; have hn18 := Lib.hid hm; have hp13 := Lib.hid (ho13.out.up hb); clear hm hb
  -- arm 18 s: ⟨hq18, hup.out _ hq18⟩
  -- arm 19: go_at_call 14; (with_reducible refine (subq1 i13 j13 k13 l13 i18 j18 k18 l18 (X2 : Int) (D2 : Int) 1 _ hp13.out hn18.out sX2.out sD2.out hms.out).mono ?_); rintro e v19 ⟨i19, j19, k19, l19, rfl, hm, hb⟩; have hq19 : Below V.heap.size V v19 := bseqT hHeld.1 hb; have hn19 := Lib.hid hm; clear hm hb
  -- arm 19 s: ⟨hq19, hup.out _ hq19⟩
  -- arm 20: go_at_call 11; (with_reducible refine (hw1.out _).mono ?_); rintro e v20 ⟨i20, j20, k20, l20, rfl, hm, hb⟩; have hq20 : Below V.heap.size V v20 := bseqT hHeld.1 hb; have hn20 := Lib.hid hm; have ho19 := Lib.hid (hn19.out.up hb); clear hm hb
  -- arm 20 s: ⟨hq20, hup.out _ hq20⟩
  -- arm 21: go_at_call 13; (with_reducible refine (cmpq1 i19 j19 k19 l19 i20 j20 k20 l20 1 _ ho19.out hn20.out s11.out).mono ?_); rintro e v21 ⟨rfl, hb⟩; have hq21 : Below V.heap.size V v21 := bseqT hHeld.1 hb; clear hb
  -- arm 21 s: ⟨hq21, hup.out _ hq21⟩
  -- tail e10 0 1 c2 3 4 5 6 c7 8 9 10 11 12 14 15 16 c13 c17 c18 c19 c20 c21 22 23
  refine wp_region_tail (fun W => Below V.heap.size V W ∧ (W.cell? ⟨B1, 0, none⟩ = some (.bool (ng (x : Int))) ∧ W.cell? ⟨B1, 1, none⟩ = some (.slice a1 (LZ (x : Int)) c1) ∧ W.cell? ⟨B1, 2, none⟩ = some (.bool (ng 1)) ∧ W.cell? ⟨B1, 3, none⟩ = some (.slice e1 (LZ 1) f1)) ∧ (W.cell? ⟨B1 + 1, 0, none⟩ = some (.bool (ng (y : Int))) ∧ W.cell? ⟨B1 + 1, 1, none⟩ = some (.slice a2 (LZ (y : Int)) c2) ∧ W.cell? ⟨B1 + 1, 2, none⟩ = some (.bool (ng 1)) ∧ W.cell? ⟨B1 + 1, 3, none⟩ = some (.slice e2 (LZ 1) f2)) ∧ (W.cell? ⟨B1 + 1 + 1, 0, none⟩ = some (.bool (ng (d : Int))) ∧ W.cell? ⟨B1 + 1 + 1, 1, none⟩ = some (.slice a3 (LZ (d : Int)) c3) ∧ W.cell? ⟨B1 + 1 + 1, 2, none⟩ = some (.bool (ng 1)) ∧ W.cell? ⟨B1 + 1 + 1, 3, none⟩ = some (.slice e3 (LZ 1) f3))) (fun j => decide (1000 ≤ j)) (by kernel_rfl) (⟨Below.drew hB0, hup.out _ (Below.drew hB0)⟩) (fun hHeld => ?_)
  refine wpAnyT_take (i := 0) (oi := ?oie100) (v := ?ve100) ?hoe100 (by kernel_rfl) (by kernel_rfl) (by kernel_rfl) (by kernel_rfl) ?hqe100 (Or.inl ⟨?hwe100, ?hye100⟩) (by assumption) ?_
  case hoe100 => rfl
  case hwe100 => rfl
  case hye100 => (intro w hSw; (try dsimp only at hSw); go_split_ands; go_simp; (try (with_reducible rfl)))
  case hqe100 => exact fun _ _ _ h => h
  simp only [Act.put, List.getElem_toArray, List.getElem_cons_zero, List.setIfInBounds_toArray, List.set_cons_zero, List.set_cons_succ]
  refine wpAnyT_take (i := 1) (oi := ?oie101) (v := ?ve101) ?hoe101 (by kernel_rfl) (by kernel_rfl) (by kernel_rfl) (by kernel_rfl) ?hqe101 (Or.inl ⟨?hwe101, ?hye101⟩) (by assumption) ?_
  case hoe101 => rfl
  case hwe101 => rfl
  case hye101 => (intro w hSw; (try dsimp only at hSw); go_split_ands; go_simp; (try (with_reducible rfl)))
  case hqe101 => exact fun _ _ _ h => h
  simp only [Act.put, List.getElem_toArray, List.getElem_cons_succ, List.getElem_cons_zero, List.setIfInBounds_toArray, List.set_cons_zero, List.set_cons_succ]
  refine wpAnyT_one (i := 2) (o := ?oie102) (by kernel_rfl) ?hoe102 (fun K hK => ?_)
  case hoe102 => rfl
  rw [if_pos (by rfl)]
  go_simp
  go_at_call 12; (with_reducible refine (hsg1.out _ _ _).mono ?_); rintro e v2 ⟨rfl, hb⟩; have hq2 : Below V.heap.size V v2 := bseqT hHeld.1 hb; clear hb
  (try go_wp2_with (fail))
  refine hK.out _ _ (fun _ => ⟨hq2, hup.out _ hq2⟩) (fun hHeld => ?_)
  replace hHeld := hHeld rfl
  clear hK K
  refine wpAnyT_take (i := 3) (oi := ?oie103) (v := ?ve103) ?hoe103 (by kernel_rfl) (by kernel_rfl) (by kernel_rfl) (by kernel_rfl) ?hqe103 (Or.inl ⟨?hwe103, ?hye103⟩) (by assumption) ?_
  case hoe103 => rfl
  case hwe103 => rfl
  case hye103 => (intro w hSw; (try dsimp only at hSw); go_split_ands; go_simp; (try (with_reducible rfl)))
  case hqe103 => exact fun _ _ _ h => h
  simp only [Act.put, List.getElem_toArray, List.getElem_cons_succ, List.getElem_cons_zero, List.setIfInBounds_toArray, List.set_cons_zero, List.set_cons_succ]
  refine wpAnyT_take (i := 4) (oi := ?oie104) (v := ?ve104) ?hoe104 (by kernel_rfl) (by kernel_rfl) (by kernel_rfl) (by kernel_rfl) ?hqe104 (Or.inl ⟨?hwe104, ?hye104⟩) (by assumption) ?_
  case hoe104 => rfl
  case hwe104 => rfl
  case hye104 => (intro w hSw; (try dsimp only at hSw); go_split_ands; go_simp; (try (with_reducible rfl)))
  case hqe104 => exact fun _ _ _ h => h
  simp only [Act.put, List.getElem_toArray, List.getElem_cons_succ, List.getElem_cons_zero, List.setIfInBounds_toArray, List.set_cons_zero, List.set_cons_succ]
  refine wpAnyT_take (i := 5) (oi := ?oie105) (v := ?ve105) ?hoe105 (by kernel_rfl) (by kernel_rfl) (by kernel_rfl) (by kernel_rfl) ?hqe105 (Or.inl ⟨?hwe105, ?hye105⟩) (by assumption) ?_
  case hoe105 => rfl
  case hwe105 => rfl
  case hye105 => (intro w hSw; (try dsimp only at hSw); go_split_ands; go_simp; (try (with_reducible rfl)))
  case hqe105 => exact fun _ _ _ h => h
  simp only [Act.put, List.getElem_toArray, List.getElem_cons_succ, List.getElem_cons_zero, List.setIfInBounds_toArray, List.set_cons_zero, List.set_cons_succ]
  refine wpAnyT_take (i := 6) (oi := ?oie106) (v := ?ve106) ?hoe106 (by kernel_rfl) (by kernel_rfl) (by kernel_rfl) (by kernel_rfl) ?hqe106 (Or.inl ⟨?hwe106, ?hye106⟩) (by assumption) ?_
  case hoe106 => rfl
  case hwe106 => rfl
  case hye106 => (intro w hSw; (try dsimp only at hSw); go_split_ands; go_simp; (try (with_reducible rfl)))
  case hqe106 => exact fun _ _ _ h => h
  simp only [Act.put, List.getElem_toArray, List.getElem_cons_succ, List.getElem_cons_zero, List.setIfInBounds_toArray, List.set_cons_zero, List.set_cons_succ]
  refine wpAnyT_one (i := 7) (o := ?oie107) (by kernel_rfl) ?hoe107 (fun K hK => ?_)
  case hoe107 => rfl
  rw [if_pos (by rfl)]
  go_simp
  go_at_call 12; (with_reducible refine (hsg2.out _ _ _).mono ?_); rintro e v7 ⟨rfl, hb⟩; have hq7 : Below V.heap.size V v7 := bseqT hHeld.1 hb; clear hb
  (try go_wp2_with (fail))
  refine hK.out _ _ (fun _ => ⟨hq7, hup.out _ hq7⟩) (fun hHeld => ?_)
  replace hHeld := hHeld rfl
  clear hK K
  refine wpAnyT_take (i := 8) (oi := ?oie108) (v := ?ve108) ?hoe108 (by kernel_rfl) (by kernel_rfl) (by kernel_rfl) (by kernel_rfl) ?hqe108 (Or.inl ⟨?hwe108, ?hye108⟩) (by assumption) ?_
  case hoe108 => rfl
  case hwe108 => rfl
  case hye108 => (intro w hSw; (try dsimp only at hSw); go_split_ands; go_simp; (try (with_reducible rfl)))
  case hqe108 => exact fun _ _ _ h => h
  simp only [Act.put, List.getElem_toArray, List.getElem_cons_succ, List.getElem_cons_zero, List.setIfInBounds_toArray, List.set_cons_zero, List.set_cons_succ]
  refine wpAnyT_take (i := 9) (oi := ?oie109) (v := ?ve109) ?hoe109 (by kernel_rfl) (by kernel_rfl) (by kernel_rfl) (by kernel_rfl) ?hqe109 (Or.inl ⟨?hwe109, ?hye109⟩) (by assumption) ?_
  case hoe109 => rfl
  case hwe109 => rfl
  case hye109 => (intro w hSw; (try dsimp only at hSw); go_split_ands; go_simp; (try (with_reducible rfl)))
  case hqe109 => exact fun _ _ _ h => h
  simp only [Act.put, List.getElem_toArray, List.getElem_cons_succ, List.getElem_cons_zero, List.setIfInBounds_toArray, List.set_cons_zero, List.set_cons_succ]
  refine wpAnyT_take (i := 10) (oi := ?oie1010) (v := ?ve1010) ?hoe1010 (by kernel_rfl) (by kernel_rfl) (by kernel_rfl) (by kernel_rfl) ?hqe1010 (Or.inl ⟨?hwe1010, ?hye1010⟩) (by assumption) ?_
  case hoe1010 => rfl
  case hwe1010 => rfl
  case hye1010 => (intro w hSw; (try dsimp only at hSw); go_split_ands; go_simp; (try (with_reducible rfl)))
  case hqe1010 => exact fun _ _ _ h => h
  simp only [Act.put, List.getElem_toArray, List.getElem_cons_succ, List.getElem_cons_zero, List.setIfInBounds_toArray, List.set_cons_zero, List.set_cons_succ]
  refine wpAnyT_take (i := 11) (oi := ?oie1011) (v := ?ve1011) ?hoe1011 (by kernel_rfl) (by kernel_rfl) (by kernel_rfl) (by kernel_rfl) ?hqe1011 (Or.inl ⟨?hwe1011, ?hye1011⟩) (by assumption) ?_
  case hoe1011 => rfl
  case hwe1011 => rfl
  case hye1011 => (intro w hSw; (try dsimp only at hSw); go_split_ands; go_simp; (try (with_reducible rfl)))
  case hqe1011 => exact fun _ _ _ h => h
  simp only [Act.put, List.getElem_toArray, List.getElem_cons_succ, List.getElem_cons_zero, List.setIfInBounds_toArray, List.set_cons_zero, List.set_cons_succ]
  refine wpAnyT_take (i := 12) (oi := ?oie1012) (v := ?ve1012) ?hoe1012 (by kernel_rfl) (by kernel_rfl) (by kernel_rfl) (by kernel_rfl) ?hqe1012 (Or.inl ⟨?hwe1012, ?hye1012⟩) (by assumption) ?_
  case hoe1012 => rfl
  case hwe1012 => rfl
  case hye1012 => (intro w hSw; (try dsimp only at hSw); go_split_ands; go_simp; (try (with_reducible rfl)))
  case hqe1012 => exact fun _ _ _ h => h
  simp only [Act.put, List.getElem_toArray, List.getElem_cons_succ, List.getElem_cons_zero, List.setIfInBounds_toArray, List.set_cons_zero, List.set_cons_succ]
  refine wpAnyT_take (i := 14) (oi := ?oie1014) (v := ?ve1014) ?hoe1014 (by kernel_rfl) (by kernel_rfl) (by kernel_rfl) (by kernel_rfl) ?hqe1014 (Or.inl ⟨?hwe1014, ?hye1014⟩) (by assumption) ?_
  case hoe1014 => rfl
  case hwe1014 => rfl
  case hye1014 => (intro w hSw; (try dsimp only at hSw); go_split_ands; go_simp; (try (with_reducible rfl)))
  case hqe1014 => exact fun _ _ _ h => h
  simp only [Act.put, List.getElem_toArray, List.getElem_cons_succ, List.getElem_cons_zero, List.setIfInBounds_toArray, List.set_cons_zero, List.set_cons_succ]
  refine wpAnyT_take (i := 15) (oi := ?oie1015) (v := ?ve1015) ?hoe1015 (by kernel_rfl) (by kernel_rfl) (by kernel_rfl) (by kernel_rfl) ?hqe1015 (Or.inl ⟨?hwe1015, ?hye1015⟩) (by assumption) ?_
  case hoe1015 => rfl
  case hwe1015 => rfl
  case hye1015 => (intro w hSw; (try dsimp only at hSw); go_split_ands; go_simp; (try (with_reducible rfl)))
  case hqe1015 => exact fun _ _ _ h => h
  simp only [Act.put, List.getElem_toArray, List.getElem_cons_succ, List.getElem_cons_zero, List.setIfInBounds_toArray, List.set_cons_zero, List.set_cons_succ]
  refine wpAnyT_take (i := 16) (oi := ?oie1016) (v := ?ve1016) ?hoe1016 (by kernel_rfl) (by kernel_rfl) (by kernel_rfl) (by kernel_rfl) ?hqe1016 (Or.inl ⟨?hwe1016, ?hye1016⟩) (by assumption) ?_
  case hoe1016 => rfl
  case hwe1016 => rfl
  case hye1016 => (intro w hSw; (try dsimp only at hSw); go_split_ands; go_simp; (try (with_reducible rfl)))
  case hqe1016 => exact fun _ _ _ h => h
  simp only [Act.put, List.getElem_toArray, List.getElem_cons_succ, List.getElem_cons_zero, List.setIfInBounds_toArray, List.set_cons_zero, List.set_cons_succ]
  refine wpAnyT_one (i := 13) (o := ?oie1013) (by kernel_rfl) ?hoe1013 (fun K hK => ?_)
  case hoe1013 => rfl
  rw [if_pos (by rfl)]
  go_simp
  go_at_call 15; (with_reducible refine (mulq1 a1 c1 e1 f1 a1 c1 e1 f1 (x : Int) (x : Int) (X2 : Int) _ (m1.out.up hHeld.1) (m1.out.up hHeld.1) sx1.out sx1.out hmx.out).mono ?_); rintro e v13 ⟨i13, j13, k13, l13, rfl, hm, hb⟩; have hq13 : Below V.heap.size V v13 := bseqT hHeld.1 hb; have hn13 := Lib.hid hm; clear hm hb
  (try go_wp2_with (fail))
  refine hK.out _ _ (fun _ => ⟨hq13, hup.out _ hq13⟩) (fun hHeld => ?_)
  replace hHeld := hHeld rfl
  clear hK K
  refine wpAnyT_one (i := 17) (o := ?oie1017) (by kernel_rfl) ?hoe1017 (fun K hK => ?_)
  case hoe1017 => rfl
  rw [if_pos (by rfl)]
  go_simp
  go_at_call 15; (with_reducible refine (mulq1 a2 c2 e2 f2 a2 c2 e2 f2 (y : Int) (y : Int) (Y2 : Int) _ (m2.out.up hHeld.1) (m2.out.up hHeld.1) sy1.out sy1.out hmy.out).mono ?_); rintro e v17 ⟨i17, j17, k17, l17, rfl, hm, hb⟩; have hq17 : Below V.heap.size V v17 := bseqT hHeld.1 hb; have hn17 := Lib.hid hm; have ho13 := Lib.hid (hn13.out.up hb); clear hm hb
  (try go_wp2_with (fail))
  refine hK.out _ _ (fun _ => ⟨hq17, hup.out _ hq17⟩) (fun hHeld => ?_)
  replace hHeld := hHeld rfl
  clear hK K
  refine wpAnyT_one (i := 18) (o := ?oie1018) (by kernel_rfl) ?hoe1018 (fun K hK => ?_)
  case hoe1018 => rfl
  rw [if_pos (by rfl)]
  go_simp
  go_at_call 15; (with_reducible refine (mulq1 a3 c3 e3 f3 i17 j17 k17 l17 (d : Int) (Y2 : Int) (D2 : Int) _ (m3.out.up hHeld.1) hn17.out sd1.out sY2.out hmd.out).mono ?_); rintro e v18 ⟨i18, j18, k18, l18, rfl, hm, hb⟩; have hq18 : Below V.heap.size V v18 := bseqT hHeld.1 hb; have hn18 := Lib.hid hm; have hp13 := Lib.hid (ho13.out.up hb); clear hm hb
  (try go_wp2_with (fail))
  refine hK.out _ _ (fun _ => ⟨hq18, hup.out _ hq18⟩) (fun hHeld => ?_)
  replace hHeld := hHeld rfl
  clear hK K
  refine wpAnyT_one (i := 19) (o := ?oie1019) (by kernel_rfl) ?hoe1019 (fun K hK => ?_)
  case hoe1019 => rfl
  rw [if_pos (by rfl)]
  go_simp
  go_at_call 14; (with_reducible refine (subq1 i13 j13 k13 l13 i18 j18 k18 l18 (X2 : Int) (D2 : Int) 1 _ hp13.out hn18.out sX2.out sD2.out hms.out).mono ?_); rintro e v19 ⟨i19, j19, k19, l19, rfl, hm, hb⟩; have hq19 : Below V.heap.size V v19 := bseqT hHeld.1 hb; have hn19 := Lib.hid hm; clear hm hb
  (try go_wp2_with (fail))
  refine hK.out _ _ (fun _ => ⟨hq19, hup.out _ hq19⟩) (fun hHeld => ?_)
  replace hHeld := hHeld rfl
  clear hK K
  refine wpAnyT_one (i := 20) (o := ?oie1020) (by kernel_rfl) ?hoe1020 (fun K hK => ?_)
  case hoe1020 => rfl
  rw [if_pos (by rfl)]
  go_simp
  go_at_call 11; (with_reducible refine (hw1.out _).mono ?_); rintro e v20 ⟨i20, j20, k20, l20, rfl, hm, hb⟩; have hq20 : Below V.heap.size V v20 := bseqT hHeld.1 hb; have hn20 := Lib.hid hm; have ho19 := Lib.hid (hn19.out.up hb); clear hm hb
  (try go_wp2_with (fail))
  refine hK.out _ _ (fun _ => ⟨hq20, hup.out _ hq20⟩) (fun hHeld => ?_)
  replace hHeld := hHeld rfl
  clear hK K
  refine wpAnyT_one (i := 21) (o := ?oie1021) (by kernel_rfl) ?hoe1021 (fun K hK => ?_)
  case hoe1021 => rfl
  rw [if_pos (by rfl)]
  go_simp
  go_at_call 13; (with_reducible refine (cmpq1 i19 j19 k19 l19 i20 j20 k20 l20 1 _ ho19.out hn20.out s11.out).mono ?_); rintro e v21 ⟨rfl, hb⟩; have hq21 : Below V.heap.size V v21 := bseqT hHeld.1 hb; clear hb
  (try go_wp2_with (fail))
  refine hK.out _ _ (fun _ => ⟨hq21, hup.out _ hq21⟩) (fun hHeld => ?_)
  replace hHeld := hHeld rfl
  clear hK K
  refine wpAnyT_take (i := 22) (oi := ?oie1022) (v := ?ve1022) ?hoe1022 (by kernel_rfl) (by kernel_rfl) (by kernel_rfl) (by kernel_rfl) ?hqe1022 (Or.inl ⟨?hwe1022, ?hye1022⟩) (by assumption) ?_
  case hoe1022 => rfl
  case hwe1022 => rfl
  case hye1022 => (intro w hSw; (try dsimp only at hSw); go_split_ands; go_simp; (try (with_reducible rfl)))
  case hqe1022 => exact fun _ _ _ h => h
  simp only [Act.put, List.getElem_toArray, List.getElem_cons_succ, List.getElem_cons_zero, List.setIfInBounds_toArray, List.set_cons_zero, List.set_cons_succ]
  refine wpAnyT_take (i := 23) (oi := ?oie1023) (v := ?ve1023) ?hoe1023 (by kernel_rfl) (by kernel_rfl) (by kernel_rfl) (by kernel_rfl) ?hqe1023 (Or.inl ⟨?hwe1023, ?hye1023⟩) (by assumption) ?_
  case hoe1023 => rfl
  case hwe1023 => rfl
  case hye1023 => (intro w hSw; (try dsimp only at hSw); go_split_ands; go_simp; (try (with_reducible rfl)))
  case hqe1023 => exact fun _ _ _ h => h
  simp only [Act.put, List.getElem_toArray, List.getElem_cons_succ, List.getElem_cons_zero, List.setIfInBounds_toArray, List.set_cons_zero, List.set_cons_succ]
  refine wpAnyT_done (by kernel_rfl) ?_ _
  -- tail end
  go_wp2_with (fail)
  go_ret
  exact ⟨rfl, bseqT hbV.out hq21⟩
set_option maxRecDepth 100000 in
set_option maxHeartbeats 25600000 in
theorem unitsLaw_odd (v d E : Nat) (w : World) (hv : v < 65536) (hE : v % 999 = E) (hd : E + 2 = d) (h : sqB d = false) (hi : pellIs d true = true) : Calls Tryz.prog 3 #[.int .u16 (v : Nat)] w (RetB w true) := by
  have hEl : E < 999 := by rw [← hE]; exact Nat.mod_lt _ (by omega)
  have t1 : (v : Int).tmod 999 = (E : Int) := by rw [← hE]; exact (Int.ofNat_tmod v 999).symm
  have t2 : (v : Int) % 999 = (E : Int) := by rw [← hE]; exact (Int.natCast_emod v 999).symm
  have hdI : (E : Int) + 2 = (d : Int) := by omega
  have h2 : 2 ≤ d := by omega
  have h3 : d ≤ 1000 := by omega
  have hne : ¬ fl d * fl d = d := of_decide_eq_false h
  have hok := pell_ok h2 h3 hne
  have hP := perI h2 h3 hne
  have hi1 : pellIs d false = true := by unfold pellIs; simp
  have hV1 := pell_is hok.1 hi1
  have hlt1 := pellV_ltU hok.1 hi1
  have hso1 : isSol d false (pellV d false).1 (pellV d false).2 = true := refGo_sol hV1.2.1
  obtain ⟨n, hn⟩ : ∃ n, fl d = n := ⟨_, rfl⟩
  obtain ⟨l, hl⟩ : ∃ l, (per d).length = l := ⟨_, rfl⟩
  have hll : l ≤ 70 := by rw [← hl]; exact hP.len
  have hlr : l % 2 = 1 := by rw [← hl]; unfold pellIs at hi; simp at hi; omega
  have l1 : (l : Int).tmod 2 = 1 := by rw [show (1 : Int) = ((l % 2 : Nat) : Int) by rw [hlr]; rfl]; exact (Int.ofNat_tmod l 2).symm
  have l2 : (l : Int) % 2 = 1 := by omega
  have hr := Lib.hid (fun W => rootP_good d n W h2 h3 h hn)
  unfold RootPost at hr
  rw [hl] at hr
  have hp1 : Hid (∀ W, Calls Tryz.prog 8 #[.int .i64 (d : Nat), .int .i64 1] W (PellPost d false W)) := fun W => pellP_good d false W h2 h3 h hi1
  unfold PellPost at hp1
  have hp2 : Hid (∀ W, Calls Tryz.prog 8 #[.int .i64 (d : Nat), .int .i64 (-1)] W (PellPost d true W)) := fun W => pellP_good d true W h2 h3 h hi
  unfold PellPost at hp2
  have hV2 := pell_is hok.2.1 hi
  have hlt2 := pellV_ltU hok.2.1 hi
  have hso2 : isSol d true (pellV d true).1 (pellV d true).2 = true := refGo_sol hV2.2.1
  have hsq := hok.2.2.2 hi
  obtain ⟨u, hu⟩ : ∃ u, (pellV d true).1 = u := ⟨_, rfl⟩
  obtain ⟨z, hz⟩ : ∃ z, (pellV d true).2 = z := ⟨_, rfl⟩
  rw [hu, hz] at hp2 hlt2 hV2 hsq hso2
  obtain ⟨su, hsu⟩ : ∃ s, nt (((u : Nat) : Int) : Rat) = s := ⟨_, rfl⟩
  obtain ⟨sz, hsz⟩ : ∃ s, nt (((z : Nat) : Int) : Rat) = s := ⟨_, rfl⟩
  rw [hsu, hsz] at hp2
  have hof3 := Lib.hid (ofU u su hsu hlt2.1)
  have hof4 := Lib.hid (ofU z sz hsz hlt2.2)
  have hva3 := Lib.hid (validU u su hsu hlt2.1)
  have hva4 := Lib.hid (validU z sz hsz hlt2.2)
  obtain ⟨x, hx⟩ : ∃ x, (pellV d false).1 = x := ⟨_, rfl⟩
  obtain ⟨y, hy⟩ : ∃ y, (pellV d false).2 = y := ⟨_, rfl⟩
  rw [hx, hy] at hp1 hlt1 hV1 hso1 hsq
  obtain ⟨sx, hsx⟩ : ∃ s, nt (((x : Nat) : Int) : Rat) = s := ⟨_, rfl⟩
  obtain ⟨sy, hsy⟩ : ∃ s, nt (((y : Nat) : Int) : Rat) = s := ⟨_, rfl⟩
  rw [hsx, hsy] at hp1
  have hof1 := Lib.hid (ofU x sx hsx hlt1.1)
  have hof2 := Lib.hid (ofU y sy hsy hlt1.2)
  have hva1 := Lib.hid (validU x sx hsx hlt1.1)
  have hva2 := Lib.hid (validU y sy hsy hlt1.2)
  have hwh := Lib.hid (fun W => wholeq_n d W (by omega))
  have hw1 : Hid (∀ W, Calls Tryz.prog 11 #[.int .i64 1] W (RetQ W 1 1)) := fun W => wholeq_n 1 W (by omega)
  have hsg1 := Lib.hid (fun a c W => signP a c x W hV1.2.2.1)
  have hsg2 := Lib.hid (fun a c W => signP a c y W hV1.2.2.2)
  obtain ⟨X2, hX2⟩ : ∃ X2, x * x = X2 := ⟨_, rfl⟩
  obtain ⟨Y2, hY2⟩ : ∃ Y2, y * y = Y2 := ⟨_, rfl⟩
  obtain ⟨D2, hD2⟩ : ∃ D2, d * Y2 = D2 := ⟨_, rfl⟩
  have hX2b : X2 ≤ cvB * cvB := by rw [← hX2]; exact Nat.mul_le_mul (Nat.le_of_lt hlt1.1) (Nat.le_of_lt hlt1.1)
  have hY2b : Y2 ≤ cvB * cvB := by rw [← hY2]; exact Nat.mul_le_mul (Nat.le_of_lt hlt1.2) (Nat.le_of_lt hlt1.2)
  have hD2b : D2 ≤ 1000 * (cvB * cvB) := by rw [← hD2]; exact Nat.mul_le_mul h3 hY2b
  have hs1 : X2 = D2 + 1 := by
    unfold isSol at hso1
    simp only [Bool.false_eq_true, if_false, Bool.and_eq_true, decide_eq_true_eq] at hso1
    rw [hX2, hY2, hD2] at hso1
    exact hso1.1
  have hmx := Lib.hid (show (x : Int) * (x : Int) = (X2 : Int) by rw [← Int.natCast_mul, hX2])
  have hmy := Lib.hid (show (y : Int) * (y : Int) = (Y2 : Int) by rw [← Int.natCast_mul, hY2])
  have hmd := Lib.hid (show (d : Int) * (Y2 : Int) = (D2 : Int) by rw [← Int.natCast_mul, hD2])
  have hms := Lib.hid (show (X2 : Int) - (D2 : Int) = 1 by omega)
  have hcc : cvB ≤ cvB * cvB := by decide
  obtain ⟨CC, hCC⟩ : ∃ CC, cvB * cvB = CC := ⟨_, rfl⟩
  obtain ⟨C1, hC1⟩ : ∃ C1, cvB = C1 := ⟨_, rfl⟩
  have hU : Hid (∀ z : Int, z.natAbs ≤ CC * 2002 → LZ z ≤ 1000) := fun z hz => LZ_cvU (by rw [hCC]; exact hz)
  obtain ⟨U2, hU2⟩ : ∃ X2, u * u = X2 := ⟨_, rfl⟩
  obtain ⟨Z2, hZ2⟩ : ∃ Y2, z * z = Y2 := ⟨_, rfl⟩
  obtain ⟨G2, hG2⟩ : ∃ D2, d * Z2 = D2 := ⟨_, rfl⟩
  obtain ⟨UZ, hUZ⟩ : ∃ UZ, u * z = UZ := ⟨_, rfl⟩
  have hU2b : U2 ≤ cvB * cvB := by rw [← hU2]; exact Nat.mul_le_mul (Nat.le_of_lt hlt2.1) (Nat.le_of_lt hlt2.1)
  have hZ2b : Z2 ≤ cvB * cvB := by rw [← hZ2]; exact Nat.mul_le_mul (Nat.le_of_lt hlt2.2) (Nat.le_of_lt hlt2.2)
  have hG2b : G2 ≤ 1000 * (cvB * cvB) := by rw [← hG2]; exact Nat.mul_le_mul h3 hZ2b
  have hUZb : UZ ≤ cvB * cvB := by rw [← hUZ]; exact Nat.mul_le_mul (Nat.le_of_lt hlt2.1) (Nat.le_of_lt hlt2.2)
  have hs2 : U2 + 1 = G2 := by
    unfold isSol at hso2
    simp only [if_true, Bool.and_eq_true, decide_eq_true_eq] at hso2
    rw [hU2, hZ2, hG2] at hso2
    exact hso2.1
  rw [hU2, hZ2, hG2, hUZ] at hsq
  rw [hC1] at hlt1 hlt2 hcc
  rw [hCC] at hX2b hY2b hD2b hU2b hZ2b hG2b hUZb
  rw [← hC1, hCC, hC1] at hcc
  have hmu := Lib.hid (show (u : Int) * (u : Int) = (U2 : Int) by rw [← Int.natCast_mul, hU2])
  have hmz := Lib.hid (show (z : Int) * (z : Int) = (Z2 : Int) by rw [← Int.natCast_mul, hZ2])
  have hmg := Lib.hid (show (d : Int) * (Z2 : Int) = (G2 : Int) by rw [← Int.natCast_mul, hG2])
  have hmuz := Lib.hid (show (u : Int) * (z : Int) = (UZ : Int) by rw [← Int.natCast_mul, hUZ])
  have hmm := Lib.hid (show (U2 : Int) - (G2 : Int) = -1 by omega)
  have hmp := Lib.hid (show (U2 : Int) + (G2 : Int) = (x : Int) by omega)
  have hm2 := Lib.hid (show (2 : Int) * (UZ : Int) = (y : Int) by omega)
  have hw2 : Hid (∀ W, Calls Tryz.prog 11 #[.int .i64 2] W (RetQ W 2 1)) := fun W => wholeq_n 2 W (by omega)
  have hwm := Lib.hid wholeq_m1
  have su1 := Lib.hid (hU.out (u : Int) (by omega))
  have sz1 := Lib.hid (hU.out (z : Int) (by omega))
  have sU2 := Lib.hid (hU.out (U2 : Int) (by omega))
  have sZ2 := Lib.hid (hU.out (Z2 : Int) (by omega))
  have sG2 := Lib.hid (hU.out (G2 : Int) (by omega))
  have sUZ := Lib.hid (hU.out (UZ : Int) (by omega))
  have s22 := Lib.hid (hU.out (2 : Int) (by have := hlt1; omega))
  have sx1 := Lib.hid (hU.out (x : Int) (by omega))
  have sy1 := Lib.hid (hU.out (y : Int) (by omega))
  have sX2 := Lib.hid (hU.out (X2 : Int) (by omega))
  have sY2 := Lib.hid (hU.out (Y2 : Int) (by omega))
  have sD2 := Lib.hid (hU.out (D2 : Int) (by omega))
  have sd1 := Lib.hid (hU.out (d : Int) (by have : 1 ≤ C1 := (by omega); have : C1 = cvB := hC1.symm; have h9 : (1000 : Nat) ≤ cvB := (by decide); omega))
  have s11 := Lib.hid LZ_one
  clear hE h hi h2 h3 hne hok hP hi1 hV1 hlt1 hso1 hn hl hll hlr hx hy hsx hsy hX2 hY2 hD2 hX2b hY2b hD2b hs1 hcc hCC hC1 hU hV2 hlt2 hso2 hsq hu hz hsu hsz hU2 hZ2 hG2 hUZ hU2b hZ2b hG2b hUZb hs2
  go_enter Tryz.func3, Tryz.ntmps3
  go_upto_region 10 with (first
    | (go_at_call 5; (with_reducible refine (hr.out _).mono ?_); rintro e w1 ⟨g1, k1, rfl, hk1, hI, hb⟩; have hb1 := Lib.hid hb; clear hI hb hk1)
    | (go_at_call 8; (with_reducible refine (hp1.out _).mono ?_); rintro e w2 ⟨rfl, hb⟩; have hb2 := Lib.hid hb; clear hb)
    | (go_at_call 8; (with_reducible refine (hp2.out _).mono ?_); rintro e w3 ⟨rfl, hb⟩; have hb3 := Lib.hid hb; clear hb)
    | (go_at_call 9; (with_reducible refine (hva1.out _).mono ?_); rintro e w4 ⟨rfl, hb⟩; have hb4 := Lib.hid hb; clear hb)
    | (go_at_call 9; (with_reducible refine (hva2.out _).mono ?_); rintro e w5 ⟨rfl, hb⟩; have hb5 := Lib.hid hb; clear hb)
    | (go_at_call 7; (with_reducible refine (lives_any _).mono ?_); rintro e w6 ⟨rfl, hb⟩; have hb6 := Lib.hid hb; clear hb)
    | (go_at_call 10; (with_reducible refine (hof1.out _).mono ?_); rintro e w7 ⟨a1, c1, e1, f1, rfl, hm, hb⟩; have hm7 := Lib.hid hm; have hb7 := Lib.hid hb; clear hb hm)
    | (go_at_call 10; (with_reducible refine (hof2.out _).mono ?_); rintro e w8 ⟨a2, c2, e2, f2, rfl, hm, hb⟩; have hm8 := Lib.hid hm; have hm78 := Lib.hid (hm7.out.up hb); have hb8 := Lib.hid hb; clear hb hm)
    | (go_at_call 11; (with_reducible refine (hwh.out _).mono ?_); rintro e w9 ⟨a3, c3, e3, f3, rfl, hm, hb⟩; have hm9 := Lib.hid hm; have hm79 := Lib.hid (hm78.out.up hb); have hm89 := Lib.hid (hm8.out.up hb); have hb9 := Lib.hid hb; clear hb hm))
  have hb19 := Lib.hid (bseqT hb1.out (bseqT hb2.out (bseqT hb3.out (bseqT hb4.out (bseqT hb5.out (bseqT hb6.out (bseqT hb7.out (bseqT hb8.out hb9.out))))))))
  obtain ⟨V1, hV1⟩ : ∃ V, V = w9.alloc (Obj.cells #[.bool (ng (x : Int)), .slice a1 (LZ (x : Int)) c1, .bool (ng 1), .slice e1 (LZ 1) f1] 36) := ⟨_, rfl⟩
  obtain ⟨V2, hV2⟩ : ∃ V, V = V1.alloc (Obj.cells #[.bool (ng (y : Int)), .slice a2 (LZ (y : Int)) c2, .bool (ng 1), .slice e2 (LZ 1) f2] 36) := ⟨_, rfl⟩
  obtain ⟨V, hV⟩ : ∃ V, V = V2.alloc (Obj.cells #[.bool (ng (d : Int)), .slice a3 (LZ (d : Int)) c3, .bool (ng 1), .slice e3 (LZ 1) f3] 36) := ⟨_, rfl⟩
  have z1 : V1.heap.size = w9.heap.size + 1 := by rw [hV1]; simp
  have z2 : V2.heap.size = w9.heap.size + 1 + 1 := by rw [hV2]; simp [z1]
  have q1 : Below w9.heap.size w9 V1 := by rw [hV1]; exact below_al (Below.refl _ _) _
  have q2 : Below V1.heap.size V1 V2 := by rw [hV2]; exact below_al (Below.refl _ _) _
  have q3 : Below V2.heap.size V2 V := by rw [hV]; exact below_al (Below.refl _ _) _
  have p1 : QB V1 w9.heap.size (x : Int) a1 c1 e1 f1 := by rw [hV1]; exact QB.new hm79.out
  have p2 : QB V2 (w9.heap.size + 1) (y : Int) a2 c2 e2 f2 := by rw [← z1, hV2]; exact QB.new (hm89.out.up q1)
  have p3 : QB V (w9.heap.size + 1 + 1) (d : Int) a3 c3 e3 f3 := by rw [← z2, hV]; exact QB.new ((hm9.out.up q1).up q2)
  have p1V := Lib.hid ((p1.up q2).up q3)
  have p2V := Lib.hid (p2.up q3)
  have p3V := Lib.hid p3
  have hbV := Lib.hid (bseqT hb19.out (bseqT q1 (bseqT q2 q3)))
  rw [← hV1, ← hV2, ← hV]
  obtain ⟨B1, hB1⟩ : ∃ B1, w9.heap.size = B1 := ⟨_, rfl⟩
  rw [hB1] at p1V p2V p3V
  rw [hB1]
  clear hV hV1 hV2 z1 z2 q1 q2 q3 p1 p2 p3 hB1 hb19 hm7 hm8 hm9 hm78 hm79 hm89 hb1 hb2 hb3 hb4 hb5 hb6 hb7 hb8 hb9 hr hp1 hp2 hva1 hva2 hof1 hof2 hwh
  have m1 := Lib.hid p1V.out.qm
  have m2 := Lib.hid p2V.out.qm
  have m3 := Lib.hid p3V.out.qm
  have hup : Hid (∀ W, Below V.heap.size V W → (W.cell? ⟨B1, 0, none⟩ = some (.bool (ng (x : Int))) ∧ W.cell? ⟨B1, 1, none⟩ = some (.slice a1 (LZ (x : Int)) c1) ∧ W.cell? ⟨B1, 2, none⟩ = some (.bool (ng 1)) ∧ W.cell? ⟨B1, 3, none⟩ = some (.slice e1 (LZ 1) f1)) ∧ (W.cell? ⟨B1 + 1, 0, none⟩ = some (.bool (ng (y : Int))) ∧ W.cell? ⟨B1 + 1, 1, none⟩ = some (.slice a2 (LZ (y : Int)) c2) ∧ W.cell? ⟨B1 + 1, 2, none⟩ = some (.bool (ng 1)) ∧ W.cell? ⟨B1 + 1, 3, none⟩ = some (.slice e2 (LZ 1) f2)) ∧ (W.cell? ⟨B1 + 1 + 1, 0, none⟩ = some (.bool (ng (d : Int))) ∧ W.cell? ⟨B1 + 1 + 1, 1, none⟩ = some (.slice a3 (LZ (d : Int)) c3) ∧ W.cell? ⟨B1 + 1 + 1, 2, none⟩ = some (.bool (ng 1)) ∧ W.cell? ⟨B1 + 1 + 1, 3, none⟩ = some (.slice e3 (LZ 1) f3))) := fun W hW => ⟨(p1V.out.up hW).cells, (p2V.out.up hW).cells, (p3V.out.up hW).cells⟩
  have hB0 : Below V.heap.size V V := Below.refl _ _
  -- tail S: fun W => Below V.heap.size V W ∧ (W.cell? ⟨B1, 0, none⟩ = some (.bool (ng (x : Int))) ∧ W.cell? ⟨B1, 1, none⟩ = some (.slice a1 (LZ (x : Int)) c1) ∧ W.cell? ⟨B1, 2, none⟩ = some (.bool (ng 1)) ∧ W.cell? ⟨B1, 3, none⟩ = some (.slice e1 (LZ 1) f1)) ∧ (W.cell? ⟨B1 + 1, 0, none⟩ = some (.bool (ng (y : Int))) ∧ W.cell? ⟨B1 + 1, 1, none⟩ = some (.slice a2 (LZ (y : Int)) c2) ∧ W.cell? ⟨B1 + 1, 2, none⟩ = some (.bool (ng 1)) ∧ W.cell? ⟨B1 + 1, 3, none⟩ = some (.slice e2 (LZ 1) f2)) ∧ (W.cell? ⟨B1 + 1 + 1, 0, none⟩ = some (.bool (ng (d : Int))) ∧ W.cell? ⟨B1 + 1 + 1, 1, none⟩ = some (.slice a3 (LZ (d : Int)) c3) ∧ W.cell? ⟨B1 + 1 + 1, 2, none⟩ = some (.bool (ng 1)) ∧ W.cell? ⟨B1 + 1 + 1, 3, none⟩ = some (.slice e3 (LZ 1) f3))
  -- tail s0: ⟨Below.drew hB0, hup.out _ (Below.drew hB0)⟩
  -- arm 2: go_at_call 12; (with_reducible refine (hsg1.out _ _ _).mono ?_); rintro e v2 ⟨rfl, hb⟩; have hq2 : Below V.heap.size V v2 := bseqT hHeld.1 hb; clear hb
  -- arm 2 s: ⟨hq2, hup.out _ hq2⟩
  -- arm 7: go_at_call 12; (with_reducible refine (hsg2.out _ _ _).mono ?_); rintro e v7 ⟨rfl, hb⟩; have hq7 : Below V.heap.size V v7 := bseqT hHeld.1 hb; clear hb
  -- arm 7 s: ⟨hq7, hup.out _ hq7⟩
  -- arm 13: go_at_call 15; (with_reducible refine (mulq1 a1 c1 e1 f1 a1 c1 e1 f1 (x : Int) (x : Int) (X2 : Int) _ (m1.out.up hHeld.1) (m1.out.up hHeld.1) sx1.out sx1.out hmx.out).mono ?_); rintro e v13 ⟨i13, j13, k13, l13, rfl, hm, hb⟩; have hq13 : Below V.heap.size V v13 := bseqT hHeld.1 hb; have hn13 := Lib.hid hm; clear hm hb
  -- arm 13 s: ⟨hq13, hup.out _ hq13⟩
  -- arm 17: go_at_call 15; (with_reducible refine (mulq1 a2 c2 e2 f2 a2 c2 e2 f2 (y : Int) (y : Int) (Y2 : Int) _ (m2.out.up hHeld.1) (m2.out.up hHeld.1) sy1.out sy1.out hmy.out).mono ?_); rintro e v17 ⟨i17, j17, k17, l17, rfl, hm, hb⟩; have hq17 : Below V.heap.size V v17 := bseqT hHeld.1 hb; have hn17 := Lib.hid hm; have ho13 := Lib.hid (hn13.out.up hb); clear hm hb
  -- arm 17 s: ⟨hq17, hup.out _ hq17⟩
  -- arm 18: go_at_call 15; (with_reducible refine (mulq1 a3 c3 e3 f3 i17 j17 k17 l17 (d : Int) (Y2 : Int) (D2 : Int) _ (m3.out.up hHeld.1) hn17.out sd1.out sY2.out hmd.out).mono ?_); rintro e v18 ⟨i18, j18, k18, l18, rfl, hm, hb⟩; have hq18 : Below V.heap.size V v18 := bseqT hHeld.1 hb; have hn18 := Lib.hid hm; have hp13 := Lib.hid (ho13.out.up hb); clear hm hb
  -- arm 18 s: ⟨hq18, hup.out _ hq18⟩
  -- arm 19: go_at_call 14; (with_reducible refine (subq1 i13 j13 k13 l13 i18 j18 k18 l18 (X2 : Int) (D2 : Int) 1 _ hp13.out hn18.out sX2.out sD2.out hms.out).mono ?_); rintro e v19 ⟨i19, j19, k19, l19, rfl, hm, hb⟩; have hq19 : Below V.heap.size V v19 := bseqT hHeld.1 hb; have hn19 := Lib.hid hm; clear hm hb
  -- arm 19 s: ⟨hq19, hup.out _ hq19⟩
  -- arm 20: go_at_call 11; (with_reducible refine (hw1.out _).mono ?_); rintro e v20 ⟨i20, j20, k20, l20, rfl, hm, hb⟩; have hq20 : Below V.heap.size V v20 := bseqT hHeld.1 hb; have hn20 := Lib.hid hm; have ho19 := Lib.hid (hn19.out.up hb); clear hm hb
  -- arm 20 s: ⟨hq20, hup.out _ hq20⟩
  -- arm 21: go_at_call 13; (with_reducible refine (cmpq1 i19 j19 k19 l19 i20 j20 k20 l20 1 _ ho19.out hn20.out s11.out).mono ?_); rintro e v21 ⟨rfl, hb⟩; have hq21 : Below V.heap.size V v21 := bseqT hHeld.1 hb; clear hb
  -- arm 21 s: ⟨hq21, hup.out _ hq21⟩
  -- tail o10 0 1 c2 3 4 5 6 c7 8 9 10 11 12 14 15 16 c13 c17 c18 c19 c20 c21 22 23
  refine wp_region_tail (fun W => Below V.heap.size V W ∧ (W.cell? ⟨B1, 0, none⟩ = some (.bool (ng (x : Int))) ∧ W.cell? ⟨B1, 1, none⟩ = some (.slice a1 (LZ (x : Int)) c1) ∧ W.cell? ⟨B1, 2, none⟩ = some (.bool (ng 1)) ∧ W.cell? ⟨B1, 3, none⟩ = some (.slice e1 (LZ 1) f1)) ∧ (W.cell? ⟨B1 + 1, 0, none⟩ = some (.bool (ng (y : Int))) ∧ W.cell? ⟨B1 + 1, 1, none⟩ = some (.slice a2 (LZ (y : Int)) c2) ∧ W.cell? ⟨B1 + 1, 2, none⟩ = some (.bool (ng 1)) ∧ W.cell? ⟨B1 + 1, 3, none⟩ = some (.slice e2 (LZ 1) f2)) ∧ (W.cell? ⟨B1 + 1 + 1, 0, none⟩ = some (.bool (ng (d : Int))) ∧ W.cell? ⟨B1 + 1 + 1, 1, none⟩ = some (.slice a3 (LZ (d : Int)) c3) ∧ W.cell? ⟨B1 + 1 + 1, 2, none⟩ = some (.bool (ng 1)) ∧ W.cell? ⟨B1 + 1 + 1, 3, none⟩ = some (.slice e3 (LZ 1) f3))) (fun j => decide (1000 ≤ j)) (by kernel_rfl) (⟨Below.drew hB0, hup.out _ (Below.drew hB0)⟩) (fun hHeld => ?_)
  refine wpAnyT_take (i := 0) (oi := ?oio100) (v := ?vo100) ?hoo100 (by kernel_rfl) (by kernel_rfl) (by kernel_rfl) (by kernel_rfl) ?hqo100 (Or.inl ⟨?hwo100, ?hyo100⟩) (by assumption) ?_
  case hoo100 => rfl
  case hwo100 => rfl
  case hyo100 => (intro w hSw; (try dsimp only at hSw); go_split_ands; go_simp; (try (with_reducible rfl)))
  case hqo100 => exact fun _ _ _ h => h
  simp only [Act.put, List.getElem_toArray, List.getElem_cons_zero, List.setIfInBounds_toArray, List.set_cons_zero, List.set_cons_succ]
  refine wpAnyT_take (i := 1) (oi := ?oio101) (v := ?vo101) ?hoo101 (by kernel_rfl) (by kernel_rfl) (by kernel_rfl) (by kernel_rfl) ?hqo101 (Or.inl ⟨?hwo101, ?hyo101⟩) (by assumption) ?_
  case hoo101 => rfl
  case hwo101 => rfl
  case hyo101 => (intro w hSw; (try dsimp only at hSw); go_split_ands; go_simp; (try (with_reducible rfl)))
  case hqo101 => exact fun _ _ _ h => h
  simp only [Act.put, List.getElem_toArray, List.getElem_cons_succ, List.getElem_cons_zero, List.setIfInBounds_toArray, List.set_cons_zero, List.set_cons_succ]
  refine wpAnyT_one (i := 2) (o := ?oio102) (by kernel_rfl) ?hoo102 (fun K hK => ?_)
  case hoo102 => rfl
  rw [if_pos (by rfl)]
  go_simp
  go_at_call 12; (with_reducible refine (hsg1.out _ _ _).mono ?_); rintro e v2 ⟨rfl, hb⟩; have hq2 : Below V.heap.size V v2 := bseqT hHeld.1 hb; clear hb
  (try go_wp2_with (fail))
  refine hK.out _ _ (fun _ => ⟨hq2, hup.out _ hq2⟩) (fun hHeld => ?_)
  replace hHeld := hHeld rfl
  clear hK K
  refine wpAnyT_take (i := 3) (oi := ?oio103) (v := ?vo103) ?hoo103 (by kernel_rfl) (by kernel_rfl) (by kernel_rfl) (by kernel_rfl) ?hqo103 (Or.inl ⟨?hwo103, ?hyo103⟩) (by assumption) ?_
  case hoo103 => rfl
  case hwo103 => rfl
  case hyo103 => (intro w hSw; (try dsimp only at hSw); go_split_ands; go_simp; (try (with_reducible rfl)))
  case hqo103 => exact fun _ _ _ h => h
  simp only [Act.put, List.getElem_toArray, List.getElem_cons_succ, List.getElem_cons_zero, List.setIfInBounds_toArray, List.set_cons_zero, List.set_cons_succ]
  refine wpAnyT_take (i := 4) (oi := ?oio104) (v := ?vo104) ?hoo104 (by kernel_rfl) (by kernel_rfl) (by kernel_rfl) (by kernel_rfl) ?hqo104 (Or.inl ⟨?hwo104, ?hyo104⟩) (by assumption) ?_
  case hoo104 => rfl
  case hwo104 => rfl
  case hyo104 => (intro w hSw; (try dsimp only at hSw); go_split_ands; go_simp; (try (with_reducible rfl)))
  case hqo104 => exact fun _ _ _ h => h
  simp only [Act.put, List.getElem_toArray, List.getElem_cons_succ, List.getElem_cons_zero, List.setIfInBounds_toArray, List.set_cons_zero, List.set_cons_succ]
  refine wpAnyT_take (i := 5) (oi := ?oio105) (v := ?vo105) ?hoo105 (by kernel_rfl) (by kernel_rfl) (by kernel_rfl) (by kernel_rfl) ?hqo105 (Or.inl ⟨?hwo105, ?hyo105⟩) (by assumption) ?_
  case hoo105 => rfl
  case hwo105 => rfl
  case hyo105 => (intro w hSw; (try dsimp only at hSw); go_split_ands; go_simp; (try (with_reducible rfl)))
  case hqo105 => exact fun _ _ _ h => h
  simp only [Act.put, List.getElem_toArray, List.getElem_cons_succ, List.getElem_cons_zero, List.setIfInBounds_toArray, List.set_cons_zero, List.set_cons_succ]
  refine wpAnyT_take (i := 6) (oi := ?oio106) (v := ?vo106) ?hoo106 (by kernel_rfl) (by kernel_rfl) (by kernel_rfl) (by kernel_rfl) ?hqo106 (Or.inl ⟨?hwo106, ?hyo106⟩) (by assumption) ?_
  case hoo106 => rfl
  case hwo106 => rfl
  case hyo106 => (intro w hSw; (try dsimp only at hSw); go_split_ands; go_simp; (try (with_reducible rfl)))
  case hqo106 => exact fun _ _ _ h => h
  simp only [Act.put, List.getElem_toArray, List.getElem_cons_succ, List.getElem_cons_zero, List.setIfInBounds_toArray, List.set_cons_zero, List.set_cons_succ]
  refine wpAnyT_one (i := 7) (o := ?oio107) (by kernel_rfl) ?hoo107 (fun K hK => ?_)
  case hoo107 => rfl
  rw [if_pos (by rfl)]
  go_simp
  go_at_call 12; (with_reducible refine (hsg2.out _ _ _).mono ?_); rintro e v7 ⟨rfl, hb⟩; have hq7 : Below V.heap.size V v7 := bseqT hHeld.1 hb; clear hb
  (try go_wp2_with (fail))
  refine hK.out _ _ (fun _ => ⟨hq7, hup.out _ hq7⟩) (fun hHeld => ?_)
  replace hHeld := hHeld rfl
  clear hK K
  refine wpAnyT_take (i := 8) (oi := ?oio108) (v := ?vo108) ?hoo108 (by kernel_rfl) (by kernel_rfl) (by kernel_rfl) (by kernel_rfl) ?hqo108 (Or.inl ⟨?hwo108, ?hyo108⟩) (by assumption) ?_
  case hoo108 => rfl
  case hwo108 => rfl
  case hyo108 => (intro w hSw; (try dsimp only at hSw); go_split_ands; go_simp; (try (with_reducible rfl)))
  case hqo108 => exact fun _ _ _ h => h
  simp only [Act.put, List.getElem_toArray, List.getElem_cons_succ, List.getElem_cons_zero, List.setIfInBounds_toArray, List.set_cons_zero, List.set_cons_succ]
  refine wpAnyT_take (i := 9) (oi := ?oio109) (v := ?vo109) ?hoo109 (by kernel_rfl) (by kernel_rfl) (by kernel_rfl) (by kernel_rfl) ?hqo109 (Or.inl ⟨?hwo109, ?hyo109⟩) (by assumption) ?_
  case hoo109 => rfl
  case hwo109 => rfl
  case hyo109 => (intro w hSw; (try dsimp only at hSw); go_split_ands; go_simp; (try (with_reducible rfl)))
  case hqo109 => exact fun _ _ _ h => h
  simp only [Act.put, List.getElem_toArray, List.getElem_cons_succ, List.getElem_cons_zero, List.setIfInBounds_toArray, List.set_cons_zero, List.set_cons_succ]
  refine wpAnyT_take (i := 10) (oi := ?oio1010) (v := ?vo1010) ?hoo1010 (by kernel_rfl) (by kernel_rfl) (by kernel_rfl) (by kernel_rfl) ?hqo1010 (Or.inl ⟨?hwo1010, ?hyo1010⟩) (by assumption) ?_
  case hoo1010 => rfl
  case hwo1010 => rfl
  case hyo1010 => (intro w hSw; (try dsimp only at hSw); go_split_ands; go_simp; (try (with_reducible rfl)))
  case hqo1010 => exact fun _ _ _ h => h
  simp only [Act.put, List.getElem_toArray, List.getElem_cons_succ, List.getElem_cons_zero, List.setIfInBounds_toArray, List.set_cons_zero, List.set_cons_succ]
  refine wpAnyT_take (i := 11) (oi := ?oio1011) (v := ?vo1011) ?hoo1011 (by kernel_rfl) (by kernel_rfl) (by kernel_rfl) (by kernel_rfl) ?hqo1011 (Or.inl ⟨?hwo1011, ?hyo1011⟩) (by assumption) ?_
  case hoo1011 => rfl
  case hwo1011 => rfl
  case hyo1011 => (intro w hSw; (try dsimp only at hSw); go_split_ands; go_simp; (try (with_reducible rfl)))
  case hqo1011 => exact fun _ _ _ h => h
  simp only [Act.put, List.getElem_toArray, List.getElem_cons_succ, List.getElem_cons_zero, List.setIfInBounds_toArray, List.set_cons_zero, List.set_cons_succ]
  refine wpAnyT_take (i := 12) (oi := ?oio1012) (v := ?vo1012) ?hoo1012 (by kernel_rfl) (by kernel_rfl) (by kernel_rfl) (by kernel_rfl) ?hqo1012 (Or.inl ⟨?hwo1012, ?hyo1012⟩) (by assumption) ?_
  case hoo1012 => rfl
  case hwo1012 => rfl
  case hyo1012 => (intro w hSw; (try dsimp only at hSw); go_split_ands; go_simp; (try (with_reducible rfl)))
  case hqo1012 => exact fun _ _ _ h => h
  simp only [Act.put, List.getElem_toArray, List.getElem_cons_succ, List.getElem_cons_zero, List.setIfInBounds_toArray, List.set_cons_zero, List.set_cons_succ]
  refine wpAnyT_take (i := 14) (oi := ?oio1014) (v := ?vo1014) ?hoo1014 (by kernel_rfl) (by kernel_rfl) (by kernel_rfl) (by kernel_rfl) ?hqo1014 (Or.inl ⟨?hwo1014, ?hyo1014⟩) (by assumption) ?_
  case hoo1014 => rfl
  case hwo1014 => rfl
  case hyo1014 => (intro w hSw; (try dsimp only at hSw); go_split_ands; go_simp; (try (with_reducible rfl)))
  case hqo1014 => exact fun _ _ _ h => h
  simp only [Act.put, List.getElem_toArray, List.getElem_cons_succ, List.getElem_cons_zero, List.setIfInBounds_toArray, List.set_cons_zero, List.set_cons_succ]
  refine wpAnyT_take (i := 15) (oi := ?oio1015) (v := ?vo1015) ?hoo1015 (by kernel_rfl) (by kernel_rfl) (by kernel_rfl) (by kernel_rfl) ?hqo1015 (Or.inl ⟨?hwo1015, ?hyo1015⟩) (by assumption) ?_
  case hoo1015 => rfl
  case hwo1015 => rfl
  case hyo1015 => (intro w hSw; (try dsimp only at hSw); go_split_ands; go_simp; (try (with_reducible rfl)))
  case hqo1015 => exact fun _ _ _ h => h
  simp only [Act.put, List.getElem_toArray, List.getElem_cons_succ, List.getElem_cons_zero, List.setIfInBounds_toArray, List.set_cons_zero, List.set_cons_succ]
  refine wpAnyT_take (i := 16) (oi := ?oio1016) (v := ?vo1016) ?hoo1016 (by kernel_rfl) (by kernel_rfl) (by kernel_rfl) (by kernel_rfl) ?hqo1016 (Or.inl ⟨?hwo1016, ?hyo1016⟩) (by assumption) ?_
  case hoo1016 => rfl
  case hwo1016 => rfl
  case hyo1016 => (intro w hSw; (try dsimp only at hSw); go_split_ands; go_simp; (try (with_reducible rfl)))
  case hqo1016 => exact fun _ _ _ h => h
  simp only [Act.put, List.getElem_toArray, List.getElem_cons_succ, List.getElem_cons_zero, List.setIfInBounds_toArray, List.set_cons_zero, List.set_cons_succ]
  refine wpAnyT_one (i := 13) (o := ?oio1013) (by kernel_rfl) ?hoo1013 (fun K hK => ?_)
  case hoo1013 => rfl
  rw [if_pos (by rfl)]
  go_simp
  go_at_call 15; (with_reducible refine (mulq1 a1 c1 e1 f1 a1 c1 e1 f1 (x : Int) (x : Int) (X2 : Int) _ (m1.out.up hHeld.1) (m1.out.up hHeld.1) sx1.out sx1.out hmx.out).mono ?_); rintro e v13 ⟨i13, j13, k13, l13, rfl, hm, hb⟩; have hq13 : Below V.heap.size V v13 := bseqT hHeld.1 hb; have hn13 := Lib.hid hm; clear hm hb
  (try go_wp2_with (fail))
  refine hK.out _ _ (fun _ => ⟨hq13, hup.out _ hq13⟩) (fun hHeld => ?_)
  replace hHeld := hHeld rfl
  clear hK K
  refine wpAnyT_one (i := 17) (o := ?oio1017) (by kernel_rfl) ?hoo1017 (fun K hK => ?_)
  case hoo1017 => rfl
  rw [if_pos (by rfl)]
  go_simp
  go_at_call 15; (with_reducible refine (mulq1 a2 c2 e2 f2 a2 c2 e2 f2 (y : Int) (y : Int) (Y2 : Int) _ (m2.out.up hHeld.1) (m2.out.up hHeld.1) sy1.out sy1.out hmy.out).mono ?_); rintro e v17 ⟨i17, j17, k17, l17, rfl, hm, hb⟩; have hq17 : Below V.heap.size V v17 := bseqT hHeld.1 hb; have hn17 := Lib.hid hm; have ho13 := Lib.hid (hn13.out.up hb); clear hm hb
  (try go_wp2_with (fail))
  refine hK.out _ _ (fun _ => ⟨hq17, hup.out _ hq17⟩) (fun hHeld => ?_)
  replace hHeld := hHeld rfl
  clear hK K
  refine wpAnyT_one (i := 18) (o := ?oio1018) (by kernel_rfl) ?hoo1018 (fun K hK => ?_)
  case hoo1018 => rfl
  rw [if_pos (by rfl)]
  go_simp
  go_at_call 15; (with_reducible refine (mulq1 a3 c3 e3 f3 i17 j17 k17 l17 (d : Int) (Y2 : Int) (D2 : Int) _ (m3.out.up hHeld.1) hn17.out sd1.out sY2.out hmd.out).mono ?_); rintro e v18 ⟨i18, j18, k18, l18, rfl, hm, hb⟩; have hq18 : Below V.heap.size V v18 := bseqT hHeld.1 hb; have hn18 := Lib.hid hm; have hp13 := Lib.hid (ho13.out.up hb); clear hm hb
  (try go_wp2_with (fail))
  refine hK.out _ _ (fun _ => ⟨hq18, hup.out _ hq18⟩) (fun hHeld => ?_)
  replace hHeld := hHeld rfl
  clear hK K
  refine wpAnyT_one (i := 19) (o := ?oio1019) (by kernel_rfl) ?hoo1019 (fun K hK => ?_)
  case hoo1019 => rfl
  rw [if_pos (by rfl)]
  go_simp
  go_at_call 14; (with_reducible refine (subq1 i13 j13 k13 l13 i18 j18 k18 l18 (X2 : Int) (D2 : Int) 1 _ hp13.out hn18.out sX2.out sD2.out hms.out).mono ?_); rintro e v19 ⟨i19, j19, k19, l19, rfl, hm, hb⟩; have hq19 : Below V.heap.size V v19 := bseqT hHeld.1 hb; have hn19 := Lib.hid hm; clear hm hb
  (try go_wp2_with (fail))
  refine hK.out _ _ (fun _ => ⟨hq19, hup.out _ hq19⟩) (fun hHeld => ?_)
  replace hHeld := hHeld rfl
  clear hK K
  refine wpAnyT_one (i := 20) (o := ?oio1020) (by kernel_rfl) ?hoo1020 (fun K hK => ?_)
  case hoo1020 => rfl
  rw [if_pos (by rfl)]
  go_simp
  go_at_call 11; (with_reducible refine (hw1.out _).mono ?_); rintro e v20 ⟨i20, j20, k20, l20, rfl, hm, hb⟩; have hq20 : Below V.heap.size V v20 := bseqT hHeld.1 hb; have hn20 := Lib.hid hm; have ho19 := Lib.hid (hn19.out.up hb); clear hm hb
  (try go_wp2_with (fail))
  refine hK.out _ _ (fun _ => ⟨hq20, hup.out _ hq20⟩) (fun hHeld => ?_)
  replace hHeld := hHeld rfl
  clear hK K
  refine wpAnyT_one (i := 21) (o := ?oio1021) (by kernel_rfl) ?hoo1021 (fun K hK => ?_)
  case hoo1021 => rfl
  rw [if_pos (by rfl)]
  go_simp
  go_at_call 13; (with_reducible refine (cmpq1 i19 j19 k19 l19 i20 j20 k20 l20 1 _ ho19.out hn20.out s11.out).mono ?_); rintro e v21 ⟨rfl, hb⟩; have hq21 : Below V.heap.size V v21 := bseqT hHeld.1 hb; clear hb
  (try go_wp2_with (fail))
  refine hK.out _ _ (fun _ => ⟨hq21, hup.out _ hq21⟩) (fun hHeld => ?_)
  replace hHeld := hHeld rfl
  clear hK K
  refine wpAnyT_take (i := 22) (oi := ?oio1022) (v := ?vo1022) ?hoo1022 (by kernel_rfl) (by kernel_rfl) (by kernel_rfl) (by kernel_rfl) ?hqo1022 (Or.inl ⟨?hwo1022, ?hyo1022⟩) (by assumption) ?_
  case hoo1022 => rfl
  case hwo1022 => rfl
  case hyo1022 => (intro w hSw; (try dsimp only at hSw); go_split_ands; go_simp; (try (with_reducible rfl)))
  case hqo1022 => exact fun _ _ _ h => h
  simp only [Act.put, List.getElem_toArray, List.getElem_cons_succ, List.getElem_cons_zero, List.setIfInBounds_toArray, List.set_cons_zero, List.set_cons_succ]
  refine wpAnyT_take (i := 23) (oi := ?oio1023) (v := ?vo1023) ?hoo1023 (by kernel_rfl) (by kernel_rfl) (by kernel_rfl) (by kernel_rfl) ?hqo1023 (Or.inl ⟨?hwo1023, ?hyo1023⟩) (by assumption) ?_
  case hoo1023 => rfl
  case hwo1023 => rfl
  case hyo1023 => (intro w hSw; (try dsimp only at hSw); go_split_ands; go_simp; (try (with_reducible rfl)))
  case hqo1023 => exact fun _ _ _ h => h
  simp only [Act.put, List.getElem_toArray, List.getElem_cons_succ, List.getElem_cons_zero, List.setIfInBounds_toArray, List.set_cons_zero, List.set_cons_succ]
  refine wpAnyT_done (by kernel_rfl) ?_ _
  -- tail end
  clear hHeld hup hn13 ho13 hp13 hn17 hn18 hn19 ho19 hn20 hq2 hq7 hq13 hq17 hq18 hq19 hq20
  have p1W := Lib.hid (p1V.out.up hq21)
  have p2W := Lib.hid (p2V.out.up hq21)
  have p3W := Lib.hid (p3V.out.up hq21)
  have hbW := Lib.hid (bseqT hbV.out hq21)
  clear hq21 p1V p2V p3V hbV m1 m2 m3 hB0
  go_upto_region 17 with (first
    | (go_at_call 9; (with_reducible refine (hva3.out _).mono ?_); rintro e w4 ⟨rfl, hb⟩; have hb4 := Lib.hid hb; clear hb)
    | (go_at_call 9; (with_reducible refine (hva4.out _).mono ?_); rintro e w5 ⟨rfl, hb⟩; have hb5 := Lib.hid hb; clear hb)
    | (go_at_call 10; (with_reducible refine (hof3.out _).mono ?_); rintro e w7 ⟨a4, c4, e4, f4, rfl, hm, hb⟩; have hm7 := Lib.hid hm; have hb7 := Lib.hid hb; clear hb hm)
    | (go_at_call 10; (with_reducible refine (hof4.out _).mono ?_); rintro e w8 ⟨a5, c5, e5, f5, rfl, hm, hb⟩; have hm8 := Lib.hid hm; have hm78 := Lib.hid (hm7.out.up hb); have hb8 := Lib.hid hb; clear hb hm))
  have hb48 := Lib.hid (bseqT hb4.out (bseqT hb5.out (bseqT hb7.out hb8.out)))
  obtain ⟨U1, hU1⟩ : ∃ V, V = w8.alloc (Obj.cells #[.bool (ng (u : Int)), .slice a4 (LZ (u : Int)) c4, .bool (ng 1), .slice e4 (LZ 1) f4] 36) := ⟨_, rfl⟩
  obtain ⟨U, hU⟩ : ∃ V, V = U1.alloc (Obj.cells #[.bool (ng (z : Int)), .slice a5 (LZ (z : Int)) c5, .bool (ng 1), .slice e5 (LZ 1) f5] 36) := ⟨_, rfl⟩
  have z1 : U1.heap.size = w8.heap.size + 1 := by rw [hU1]; simp
  have q1 : Below w8.heap.size w8 U1 := by rw [hU1]; exact below_al (Below.refl _ _) _
  have q2 : Below U1.heap.size U1 U := by rw [hU]; exact below_al (Below.refl _ _) _
  have p4 : QB U1 w8.heap.size (u : Int) a4 c4 e4 f4 := by rw [hU1]; exact QB.new hm78.out
  have p5 : QB U (w8.heap.size + 1) (z : Int) a5 c5 e5 f5 := by rw [← z1, hU]; exact QB.new (hm8.out.up q1)
  have p4U := Lib.hid (p4.up q2)
  have p5U := Lib.hid p5
  have qU := bseqT hb48.out (bseqT q1 q2)
  have p1U := Lib.hid (p1W.out.up qU)
  have p2U := Lib.hid (p2W.out.up qU)
  have p3U := Lib.hid (p3W.out.up qU)
  have hbU := Lib.hid (bseqT hbW.out qU)
  rw [← hU1, ← hU]
  obtain ⟨B4, hB4⟩ : ∃ B1, w8.heap.size = B1 := ⟨_, rfl⟩
  rw [hB4] at p4U p5U
  rw [hB4]
  clear hU hU1 z1 q1 q2 p4 p5 hB4 hb48 hm7 hm8 hm78 hb4 hb5 hb7 hb8 qU p1W p2W p3W hbW hva3 hva4 hof3 hof4
  have m1 := Lib.hid p1U.out.qm
  have m2 := Lib.hid p2U.out.qm
  have m3 := Lib.hid p3U.out.qm
  have m4 := Lib.hid p4U.out.qm
  have m5 := Lib.hid p5U.out.qm
  have hup : Hid (∀ W, Below U.heap.size U W → (W.cell? ⟨B1, 0, none⟩ = some (.bool (ng (x : Int))) ∧ W.cell? ⟨B1, 1, none⟩ = some (.slice a1 (LZ (x : Int)) c1) ∧ W.cell? ⟨B1, 2, none⟩ = some (.bool (ng 1)) ∧ W.cell? ⟨B1, 3, none⟩ = some (.slice e1 (LZ 1) f1)) ∧ (W.cell? ⟨B1 + 1, 0, none⟩ = some (.bool (ng (y : Int))) ∧ W.cell? ⟨B1 + 1, 1, none⟩ = some (.slice a2 (LZ (y : Int)) c2) ∧ W.cell? ⟨B1 + 1, 2, none⟩ = some (.bool (ng 1)) ∧ W.cell? ⟨B1 + 1, 3, none⟩ = some (.slice e2 (LZ 1) f2)) ∧ (W.cell? ⟨B1 + 1 + 1, 0, none⟩ = some (.bool (ng (d : Int))) ∧ W.cell? ⟨B1 + 1 + 1, 1, none⟩ = some (.slice a3 (LZ (d : Int)) c3) ∧ W.cell? ⟨B1 + 1 + 1, 2, none⟩ = some (.bool (ng 1)) ∧ W.cell? ⟨B1 + 1 + 1, 3, none⟩ = some (.slice e3 (LZ 1) f3)) ∧ (W.cell? ⟨B4, 0, none⟩ = some (.bool (ng (u : Int))) ∧ W.cell? ⟨B4, 1, none⟩ = some (.slice a4 (LZ (u : Int)) c4) ∧ W.cell? ⟨B4, 2, none⟩ = some (.bool (ng 1)) ∧ W.cell? ⟨B4, 3, none⟩ = some (.slice e4 (LZ 1) f4)) ∧ (W.cell? ⟨B4 + 1, 0, none⟩ = some (.bool (ng (z : Int))) ∧ W.cell? ⟨B4 + 1, 1, none⟩ = some (.slice a5 (LZ (z : Int)) c5) ∧ W.cell? ⟨B4 + 1, 2, none⟩ = some (.bool (ng 1)) ∧ W.cell? ⟨B4 + 1, 3, none⟩ = some (.slice e5 (LZ 1) f5))) := fun W hW => ⟨(p1U.out.up hW).cells, (p2U.out.up hW).cells, (p3U.out.up hW).cells, (p4U.out.up hW).cells, (p5U.out.up hW).cells⟩
  have hB0 : Below U.heap.size U U := Below.refl _ _
  -- tail S: fun W => Below U.heap.size U W ∧ (W.cell? ⟨B1, 0, none⟩ = some (.bool (ng (x : Int))) ∧ W.cell? ⟨B1, 1, none⟩ = some (.slice a1 (LZ (x : Int)) c1) ∧ W.cell? ⟨B1, 2, none⟩ = some (.bool (ng 1)) ∧ W.cell? ⟨B1, 3, none⟩ = some (.slice e1 (LZ 1) f1)) ∧ (W.cell? ⟨B1 + 1, 0, none⟩ = some (.bool (ng (y : Int))) ∧ W.cell? ⟨B1 + 1, 1, none⟩ = some (.slice a2 (LZ (y : Int)) c2) ∧ W.cell? ⟨B1 + 1, 2, none⟩ = some (.bool (ng 1)) ∧ W.cell? ⟨B1 + 1, 3, none⟩ = some (.slice e2 (LZ 1) f2)) ∧ (W.cell? ⟨B1 + 1 + 1, 0, none⟩ = some (.bool (ng (d : Int))) ∧ W.cell? ⟨B1 + 1 + 1, 1, none⟩ = some (.slice a3 (LZ (d : Int)) c3) ∧ W.cell? ⟨B1 + 1 + 1, 2, none⟩ = some (.bool (ng 1)) ∧ W.cell? ⟨B1 + 1 + 1, 3, none⟩ = some (.slice e3 (LZ 1) f3)) ∧ (W.cell? ⟨B4, 0, none⟩ = some (.bool (ng (u : Int))) ∧ W.cell? ⟨B4, 1, none⟩ = some (.slice a4 (LZ (u : Int)) c4) ∧ W.cell? ⟨B4, 2, none⟩ = some (.bool (ng 1)) ∧ W.cell? ⟨B4, 3, none⟩ = some (.slice e4 (LZ 1) f4)) ∧ (W.cell? ⟨B4 + 1, 0, none⟩ = some (.bool (ng (z : Int))) ∧ W.cell? ⟨B4 + 1, 1, none⟩ = some (.slice a5 (LZ (z : Int)) c5) ∧ W.cell? ⟨B4 + 1, 2, none⟩ = some (.bool (ng 1)) ∧ W.cell? ⟨B4 + 1, 3, none⟩ = some (.slice e5 (LZ 1) f5))
  -- tail s0: ⟨Below.drew hB0, hup.out _ (Below.drew hB0)⟩
  -- arm 2: go_at_call 15; (with_reducible refine (mulq1 a4 c4 e4 f4 a4 c4 e4 f4 (u : Int) (u : Int) (U2 : Int) _ (m4.out.up hHeld.1) (m4.out.up hHeld.1) su1.out su1.out hmu.out).mono ?_); rintro e u2 ⟨i2, j2, k2, l2, rfl, hm, hb⟩; have hq2 : Below U.heap.size U u2 := bseqT hHeld.1 hb; have hn2 := Lib.hid hm; clear hb hm
  -- arm 2 s: ⟨hq2, hup.out _ hq2⟩
  -- arm 6: go_at_call 15; (with_reducible refine (mulq1 a5 c5 e5 f5 a5 c5 e5 f5 (z : Int) (z : Int) (Z2 : Int) _ (m5.out.up hHeld.1) (m5.out.up hHeld.1) sz1.out sz1.out hmz.out).mono ?_); rintro e u6 ⟨i6, j6, k6, l6, rfl, hm, hb⟩; have hq6 : Below U.heap.size U u6 := bseqT hHeld.1 hb; have hn6 := Lib.hid hm; have hn2_6 := Lib.hid (hn2.out.up hb); clear hb hm
  -- arm 6 s: ⟨hq6, hup.out _ hq6⟩
  -- arm 7: go_at_call 15; (with_reducible refine (mulq1 a3 c3 e3 f3 i6 j6 k6 l6 (d : Int) (Z2 : Int) (G2 : Int) _ (m3.out.up hHeld.1) hn6.out sd1.out sZ2.out hmg.out).mono ?_); rintro e u7 ⟨i7, j7, k7, l7, rfl, hm, hb⟩; have hq7 : Below U.heap.size U u7 := bseqT hHeld.1 hb; have hn7 := Lib.hid hm; have hn2_7 := Lib.hid (hn2_6.out.up hb); clear hb hm
  -- arm 7 s: ⟨hq7, hup.out _ hq7⟩
  -- arm 8: go_at_call 14; (with_reducible refine (subq1 i2 j2 k2 l2 i7 j7 k7 l7 (U2 : Int) (G2 : Int) (-1) _ hn2_7.out hn7.out sU2.out sG2.out hmm.out).mono ?_); rintro e u8 ⟨i8, j8, k8, l8, rfl, hm, hb⟩; have hq8 : Below U.heap.size U u8 := bseqT hHeld.1 hb; have hn8 := Lib.hid hm; clear hb hm
  -- arm 8 s: ⟨hq8, hup.out _ hq8⟩
  -- arm 9: go_at_call 11; (with_reducible refine (hwm.out _).mono ?_); rintro e u9 ⟨i9, j9, k9, l9, rfl, hm, hb⟩; have hq9 : Below U.heap.size U u9 := bseqT hHeld.1 hb; have hn9 := Lib.hid hm; have hn8_9 := Lib.hid (hn8.out.up hb); clear hb hm
  -- arm 9 s: ⟨hq9, hup.out _ hq9⟩
  -- arm 10: go_at_call 13; (with_reducible refine (cmpq1 i8 j8 k8 l8 i9 j9 k9 l9 (-1) _ hn8_9.out hn9.out LZ_m1).mono ?_); rintro e u10 ⟨rfl, hb⟩; have hq10 : Below U.heap.size U u10 := bseqT hHeld.1 hb; clear hb
  -- arm 10 s: ⟨hq10, hup.out _ hq10⟩
  -- arm 15: go_at_call 15; (with_reducible refine (mulq1 a4 c4 e4 f4 a4 c4 e4 f4 (u : Int) (u : Int) (U2 : Int) _ (m4.out.up hHeld.1) (m4.out.up hHeld.1) su1.out su1.out hmu.out).mono ?_); rintro e u15 ⟨i15, j15, k15, l15, rfl, hm, hb⟩; have hq15 : Below U.heap.size U u15 := bseqT hHeld.1 hb; have hn15 := Lib.hid hm; clear hb hm
  -- arm 15 s: ⟨hq15, hup.out _ hq15⟩
  -- arm 19: go_at_call 15; (with_reducible refine (mulq1 a5 c5 e5 f5 a5 c5 e5 f5 (z : Int) (z : Int) (Z2 : Int) _ (m5.out.up hHeld.1) (m5.out.up hHeld.1) sz1.out sz1.out hmz.out).mono ?_); rintro e u19 ⟨i19, j19, k19, l19, rfl, hm, hb⟩; have hq19 : Below U.heap.size U u19 := bseqT hHeld.1 hb; have hn19 := Lib.hid hm; have hn15_19 := Lib.hid (hn15.out.up hb); clear hb hm
  -- arm 19 s: ⟨hq19, hup.out _ hq19⟩
  -- arm 20: go_at_call 15; (with_reducible refine (mulq1 a3 c3 e3 f3 i19 j19 k19 l19 (d : Int) (Z2 : Int) (G2 : Int) _ (m3.out.up hHeld.1) hn19.out sd1.out sZ2.out hmg.out).mono ?_); rintro e u20 ⟨i20, j20, k20, l20, rfl, hm, hb⟩; have hq20 : Below U.heap.size U u20 := bseqT hHeld.1 hb; have hn20 := Lib.hid hm; have hn15_20 := Lib.hid (hn15_19.out.up hb); clear hb hm
  -- arm 20 s: ⟨hq20, hup.out _ hq20⟩
  -- arm 21: go_at_call 16; (with_reducible refine (addq1 i15 j15 k15 l15 i20 j20 k20 l20 (U2 : Int) (G2 : Int) (x : Int) _ hn15_20.out hn20.out sU2.out sG2.out hmp.out).mono ?_); rintro e u21 ⟨i21, j21, k21, l21, rfl, hm, hb⟩; have hq21 : Below U.heap.size U u21 := bseqT hHeld.1 hb; have hn21 := Lib.hid hm; clear hb hm
  -- arm 21 s: ⟨hq21, hup.out _ hq21⟩
  -- arm 23: go_at_call 13; (with_reducible refine (cmpq1 i21 j21 k21 l21 a1 c1 e1 f1 (x : Int) _ hn21.out (m1.out.up hHeld.1) sx1.out).mono ?_); rintro e u23 ⟨rfl, hb⟩; have hq23 : Below U.heap.size U u23 := bseqT hHeld.1 hb; clear hb
  -- arm 23 s: ⟨hq23, hup.out _ hq23⟩
  -- arm 27: go_at_call 11; (with_reducible refine (hw2.out _).mono ?_); rintro e u27 ⟨i27, j27, k27, l27, rfl, hm, hb⟩; have hq27 : Below U.heap.size U u27 := bseqT hHeld.1 hb; have hn27 := Lib.hid hm; clear hb hm
  -- arm 27 s: ⟨hq27, hup.out _ hq27⟩
  -- arm 30: go_at_call 15; (with_reducible refine (mulq1 a4 c4 e4 f4 a5 c5 e5 f5 (u : Int) (z : Int) (UZ : Int) _ (m4.out.up hHeld.1) (m5.out.up hHeld.1) su1.out sz1.out hmuz.out).mono ?_); rintro e u30 ⟨i30, j30, k30, l30, rfl, hm, hb⟩; have hq30 : Below U.heap.size U u30 := bseqT hHeld.1 hb; have hn30 := Lib.hid hm; have hn27_30 := Lib.hid (hn27.out.up hb); clear hb hm
  -- arm 30 s: ⟨hq30, hup.out _ hq30⟩
  -- arm 31: go_at_call 15; (with_reducible refine (mulq1 i27 j27 k27 l27 i30 j30 k30 l30 2 (UZ : Int) (y : Int) _ hn27_30.out hn30.out s22.out sUZ.out hm2.out).mono ?_); rintro e u31 ⟨i31, j31, k31, l31, rfl, hm, hb⟩; have hq31 : Below U.heap.size U u31 := bseqT hHeld.1 hb; have hn31 := Lib.hid hm; clear hb hm
  -- arm 31 s: ⟨hq31, hup.out _ hq31⟩
  -- arm 33: go_at_call 13; (with_reducible refine (cmpq1 i31 j31 k31 l31 a2 c2 e2 f2 (y : Int) _ hn31.out (m2.out.up hHeld.1) sy1.out).mono ?_); rintro e u33 ⟨rfl, hb⟩; have hq33 : Below U.heap.size U u33 := bseqT hHeld.1 hb; clear hb
  -- arm 33 s: ⟨hq33, hup.out _ hq33⟩
  -- tail o17 0 1 3 4 5 c2 c6 c7 c8 c9 c10 11 12 13 14 16 17 18 22 c15 c19 c20 c21 c23 24 25 26 28 29 32 c27 c30 c31 c33 34 35 36
  refine wp_region_tail (fun W => Below U.heap.size U W ∧ (W.cell? ⟨B1, 0, none⟩ = some (.bool (ng (x : Int))) ∧ W.cell? ⟨B1, 1, none⟩ = some (.slice a1 (LZ (x : Int)) c1) ∧ W.cell? ⟨B1, 2, none⟩ = some (.bool (ng 1)) ∧ W.cell? ⟨B1, 3, none⟩ = some (.slice e1 (LZ 1) f1)) ∧ (W.cell? ⟨B1 + 1, 0, none⟩ = some (.bool (ng (y : Int))) ∧ W.cell? ⟨B1 + 1, 1, none⟩ = some (.slice a2 (LZ (y : Int)) c2) ∧ W.cell? ⟨B1 + 1, 2, none⟩ = some (.bool (ng 1)) ∧ W.cell? ⟨B1 + 1, 3, none⟩ = some (.slice e2 (LZ 1) f2)) ∧ (W.cell? ⟨B1 + 1 + 1, 0, none⟩ = some (.bool (ng (d : Int))) ∧ W.cell? ⟨B1 + 1 + 1, 1, none⟩ = some (.slice a3 (LZ (d : Int)) c3) ∧ W.cell? ⟨B1 + 1 + 1, 2, none⟩ = some (.bool (ng 1)) ∧ W.cell? ⟨B1 + 1 + 1, 3, none⟩ = some (.slice e3 (LZ 1) f3)) ∧ (W.cell? ⟨B4, 0, none⟩ = some (.bool (ng (u : Int))) ∧ W.cell? ⟨B4, 1, none⟩ = some (.slice a4 (LZ (u : Int)) c4) ∧ W.cell? ⟨B4, 2, none⟩ = some (.bool (ng 1)) ∧ W.cell? ⟨B4, 3, none⟩ = some (.slice e4 (LZ 1) f4)) ∧ (W.cell? ⟨B4 + 1, 0, none⟩ = some (.bool (ng (z : Int))) ∧ W.cell? ⟨B4 + 1, 1, none⟩ = some (.slice a5 (LZ (z : Int)) c5) ∧ W.cell? ⟨B4 + 1, 2, none⟩ = some (.bool (ng 1)) ∧ W.cell? ⟨B4 + 1, 3, none⟩ = some (.slice e5 (LZ 1) f5))) (fun j => decide (1000 ≤ j)) (by kernel_rfl) (⟨Below.drew hB0, hup.out _ (Below.drew hB0)⟩) (fun hHeld => ?_)
  refine wpAnyT_take (i := 0) (oi := ?oio170) (v := ?vo170) ?hoo170 (by kernel_rfl) (by kernel_rfl) (by kernel_rfl) (by kernel_rfl) ?hqo170 (Or.inl ⟨?hwo170, ?hyo170⟩) (by assumption) ?_
  case hoo170 => rfl
  case hwo170 => rfl
  case hyo170 => (intro w hSw; (try dsimp only at hSw); go_split_ands; go_simp; (try (with_reducible rfl)))
  case hqo170 => exact fun _ _ _ h => h
  simp only [Act.put, List.getElem_toArray, List.getElem_cons_zero, List.setIfInBounds_toArray, List.set_cons_zero, List.set_cons_succ]
  refine wpAnyT_take (i := 1) (oi := ?oio171) (v := ?vo171) ?hoo171 (by kernel_rfl) (by kernel_rfl) (by kernel_rfl) (by kernel_rfl) ?hqo171 (Or.inl ⟨?hwo171, ?hyo171⟩) (by assumption) ?_
  case hoo171 => rfl
  case hwo171 => rfl
  case hyo171 => (intro w hSw; (try dsimp only at hSw); go_split_ands; go_simp; (try (with_reducible rfl)))
  case hqo171 => exact fun _ _ _ h => h
  simp only [Act.put, List.getElem_toArray, List.getElem_cons_succ, List.getElem_cons_zero, List.setIfInBounds_toArray, List.set_cons_zero, List.set_cons_succ]
  refine wpAnyT_take (i := 3) (oi := ?oio173) (v := ?vo173) ?hoo173 (by kernel_rfl) (by kernel_rfl) (by kernel_rfl) (by kernel_rfl) ?hqo173 (Or.inl ⟨?hwo173, ?hyo173⟩) (by assumption) ?_
  case hoo173 => rfl
  case hwo173 => rfl
  case hyo173 => (intro w hSw; (try dsimp only at hSw); go_split_ands; go_simp; (try (with_reducible rfl)))
  case hqo173 => exact fun _ _ _ h => h
  simp only [Act.put, List.getElem_toArray, List.getElem_cons_succ, List.getElem_cons_zero, List.setIfInBounds_toArray, List.set_cons_zero, List.set_cons_succ]
  refine wpAnyT_take (i := 4) (oi := ?oio174) (v := ?vo174) ?hoo174 (by kernel_rfl) (by kernel_rfl) (by kernel_rfl) (by kernel_rfl) ?hqo174 (Or.inl ⟨?hwo174, ?hyo174⟩) (by assumption) ?_
  case hoo174 => rfl
  case hwo174 => rfl
  case hyo174 => (intro w hSw; (try dsimp only at hSw); go_split_ands; go_simp; (try (with_reducible rfl)))
  case hqo174 => exact fun _ _ _ h => h
  simp only [Act.put, List.getElem_toArray, List.getElem_cons_succ, List.getElem_cons_zero, List.setIfInBounds_toArray, List.set_cons_zero, List.set_cons_succ]
  refine wpAnyT_take (i := 5) (oi := ?oio175) (v := ?vo175) ?hoo175 (by kernel_rfl) (by kernel_rfl) (by kernel_rfl) (by kernel_rfl) ?hqo175 (Or.inl ⟨?hwo175, ?hyo175⟩) (by assumption) ?_
  case hoo175 => rfl
  case hwo175 => rfl
  case hyo175 => (intro w hSw; (try dsimp only at hSw); go_split_ands; go_simp; (try (with_reducible rfl)))
  case hqo175 => exact fun _ _ _ h => h
  simp only [Act.put, List.getElem_toArray, List.getElem_cons_succ, List.getElem_cons_zero, List.setIfInBounds_toArray, List.set_cons_zero, List.set_cons_succ]
  refine wpAnyT_one (i := 2) (o := ?oio172) (by kernel_rfl) ?hoo172 (fun K hK => ?_)
  case hoo172 => rfl
  rw [if_pos (by rfl)]
  go_simp
  go_at_call 15; (with_reducible refine (mulq1 a4 c4 e4 f4 a4 c4 e4 f4 (u : Int) (u : Int) (U2 : Int) _ (m4.out.up hHeld.1) (m4.out.up hHeld.1) su1.out su1.out hmu.out).mono ?_); rintro e u2 ⟨i2, j2, k2, l2, rfl, hm, hb⟩; have hq2 : Below U.heap.size U u2 := bseqT hHeld.1 hb; have hn2 := Lib.hid hm; clear hb hm
  (try go_wp2_with (fail))
  refine hK.out _ _ (fun _ => ⟨hq2, hup.out _ hq2⟩) (fun hHeld => ?_)
  replace hHeld := hHeld rfl
  clear hK K
  refine wpAnyT_one (i := 6) (o := ?oio176) (by kernel_rfl) ?hoo176 (fun K hK => ?_)
  case hoo176 => rfl
  rw [if_pos (by rfl)]
  go_simp
  go_at_call 15; (with_reducible refine (mulq1 a5 c5 e5 f5 a5 c5 e5 f5 (z : Int) (z : Int) (Z2 : Int) _ (m5.out.up hHeld.1) (m5.out.up hHeld.1) sz1.out sz1.out hmz.out).mono ?_); rintro e u6 ⟨i6, j6, k6, l6, rfl, hm, hb⟩; have hq6 : Below U.heap.size U u6 := bseqT hHeld.1 hb; have hn6 := Lib.hid hm; have hn2_6 := Lib.hid (hn2.out.up hb); clear hb hm
  (try go_wp2_with (fail))
  refine hK.out _ _ (fun _ => ⟨hq6, hup.out _ hq6⟩) (fun hHeld => ?_)
  replace hHeld := hHeld rfl
  clear hK K
  refine wpAnyT_one (i := 7) (o := ?oio177) (by kernel_rfl) ?hoo177 (fun K hK => ?_)
  case hoo177 => rfl
  rw [if_pos (by rfl)]
  go_simp
  go_at_call 15; (with_reducible refine (mulq1 a3 c3 e3 f3 i6 j6 k6 l6 (d : Int) (Z2 : Int) (G2 : Int) _ (m3.out.up hHeld.1) hn6.out sd1.out sZ2.out hmg.out).mono ?_); rintro e u7 ⟨i7, j7, k7, l7, rfl, hm, hb⟩; have hq7 : Below U.heap.size U u7 := bseqT hHeld.1 hb; have hn7 := Lib.hid hm; have hn2_7 := Lib.hid (hn2_6.out.up hb); clear hb hm
  (try go_wp2_with (fail))
  refine hK.out _ _ (fun _ => ⟨hq7, hup.out _ hq7⟩) (fun hHeld => ?_)
  replace hHeld := hHeld rfl
  clear hK K
  refine wpAnyT_one (i := 8) (o := ?oio178) (by kernel_rfl) ?hoo178 (fun K hK => ?_)
  case hoo178 => rfl
  rw [if_pos (by rfl)]
  go_simp
  go_at_call 14; (with_reducible refine (subq1 i2 j2 k2 l2 i7 j7 k7 l7 (U2 : Int) (G2 : Int) (-1) _ hn2_7.out hn7.out sU2.out sG2.out hmm.out).mono ?_); rintro e u8 ⟨i8, j8, k8, l8, rfl, hm, hb⟩; have hq8 : Below U.heap.size U u8 := bseqT hHeld.1 hb; have hn8 := Lib.hid hm; clear hb hm
  (try go_wp2_with (fail))
  refine hK.out _ _ (fun _ => ⟨hq8, hup.out _ hq8⟩) (fun hHeld => ?_)
  replace hHeld := hHeld rfl
  clear hK K
  refine wpAnyT_one (i := 9) (o := ?oio179) (by kernel_rfl) ?hoo179 (fun K hK => ?_)
  case hoo179 => rfl
  rw [if_pos (by rfl)]
  go_simp
  go_at_call 11; (with_reducible refine (hwm.out _).mono ?_); rintro e u9 ⟨i9, j9, k9, l9, rfl, hm, hb⟩; have hq9 : Below U.heap.size U u9 := bseqT hHeld.1 hb; have hn9 := Lib.hid hm; have hn8_9 := Lib.hid (hn8.out.up hb); clear hb hm
  (try go_wp2_with (fail))
  refine hK.out _ _ (fun _ => ⟨hq9, hup.out _ hq9⟩) (fun hHeld => ?_)
  replace hHeld := hHeld rfl
  clear hK K
  refine wpAnyT_one (i := 10) (o := ?oio1710) (by kernel_rfl) ?hoo1710 (fun K hK => ?_)
  case hoo1710 => rfl
  rw [if_pos (by rfl)]
  go_simp
  go_at_call 13; (with_reducible refine (cmpq1 i8 j8 k8 l8 i9 j9 k9 l9 (-1) _ hn8_9.out hn9.out LZ_m1).mono ?_); rintro e u10 ⟨rfl, hb⟩; have hq10 : Below U.heap.size U u10 := bseqT hHeld.1 hb; clear hb
  (try go_wp2_with (fail))
  refine hK.out _ _ (fun _ => ⟨hq10, hup.out _ hq10⟩) (fun hHeld => ?_)
  replace hHeld := hHeld rfl
  clear hK K
  refine wpAnyT_take (i := 11) (oi := ?oio1711) (v := ?vo1711) ?hoo1711 (by kernel_rfl) (by kernel_rfl) (by kernel_rfl) (by kernel_rfl) ?hqo1711 (Or.inl ⟨?hwo1711, ?hyo1711⟩) (by assumption) ?_
  case hoo1711 => rfl
  case hwo1711 => rfl
  case hyo1711 => (intro w hSw; (try dsimp only at hSw); go_split_ands; go_simp; (try (with_reducible rfl)))
  case hqo1711 => exact fun _ _ _ h => h
  simp only [Act.put, List.getElem_toArray, List.getElem_cons_succ, List.getElem_cons_zero, List.setIfInBounds_toArray, List.set_cons_zero, List.set_cons_succ]
  refine wpAnyT_take (i := 12) (oi := ?oio1712) (v := ?vo1712) ?hoo1712 (by kernel_rfl) (by kernel_rfl) (by kernel_rfl) (by kernel_rfl) ?hqo1712 (Or.inl ⟨?hwo1712, ?hyo1712⟩) (by assumption) ?_
  case hoo1712 => rfl
  case hwo1712 => rfl
  case hyo1712 => (intro w hSw; (try dsimp only at hSw); go_split_ands; go_simp; (try (with_reducible rfl)))
  case hqo1712 => exact fun _ _ _ h => h
  simp only [Act.put, List.getElem_toArray, List.getElem_cons_succ, List.getElem_cons_zero, List.setIfInBounds_toArray, List.set_cons_zero, List.set_cons_succ]
  refine wpAnyT_take (i := 13) (oi := ?oio1713) (v := ?vo1713) ?hoo1713 (by kernel_rfl) (by kernel_rfl) (by kernel_rfl) (by kernel_rfl) ?hqo1713 (Or.inl ⟨?hwo1713, ?hyo1713⟩) (by assumption) ?_
  case hoo1713 => rfl
  case hwo1713 => rfl
  case hyo1713 => (intro w hSw; (try dsimp only at hSw); go_split_ands; go_simp; (try (with_reducible rfl)))
  case hqo1713 => exact fun _ _ _ h => h
  simp only [Act.put, List.getElem_toArray, List.getElem_cons_succ, List.getElem_cons_zero, List.setIfInBounds_toArray, List.set_cons_zero, List.set_cons_succ]
  refine wpAnyT_take (i := 14) (oi := ?oio1714) (v := ?vo1714) ?hoo1714 (by kernel_rfl) (by kernel_rfl) (by kernel_rfl) (by kernel_rfl) ?hqo1714 (Or.inl ⟨?hwo1714, ?hyo1714⟩) (by assumption) ?_
  case hoo1714 => rfl
  case hwo1714 => rfl
  case hyo1714 => (intro w hSw; (try dsimp only at hSw); go_split_ands; go_simp; (try (with_reducible rfl)))
  case hqo1714 => exact fun _ _ _ h => h
  simp only [Act.put, List.getElem_toArray, List.getElem_cons_succ, List.getElem_cons_zero, List.setIfInBounds_toArray, List.set_cons_zero, List.set_cons_succ]
  refine wpAnyT_take (i := 16) (oi := ?oio1716) (v := ?vo1716) ?hoo1716 (by kernel_rfl) (by kernel_rfl) (by kernel_rfl) (by kernel_rfl) ?hqo1716 (Or.inl ⟨?hwo1716, ?hyo1716⟩) (by assumption) ?_
  case hoo1716 => rfl
  case hwo1716 => rfl
  case hyo1716 => (intro w hSw; (try dsimp only at hSw); go_split_ands; go_simp; (try (with_reducible rfl)))
  case hqo1716 => exact fun _ _ _ h => h
  simp only [Act.put, List.getElem_toArray, List.getElem_cons_succ, List.getElem_cons_zero, List.setIfInBounds_toArray, List.set_cons_zero, List.set_cons_succ]
  refine wpAnyT_take (i := 17) (oi := ?oio1717) (v := ?vo1717) ?hoo1717 (by kernel_rfl) (by kernel_rfl) (by kernel_rfl) (by kernel_rfl) ?hqo1717 (Or.inl ⟨?hwo1717, ?hyo1717⟩) (by assumption) ?_
  case hoo1717 => rfl
  case hwo1717 => rfl
  case hyo1717 => (intro w hSw; (try dsimp only at hSw); go_split_ands; go_simp; (try (with_reducible rfl)))
  case hqo1717 => exact fun _ _ _ h => h
  simp only [Act.put, List.getElem_toArray, List.getElem_cons_succ, List.getElem_cons_zero, List.setIfInBounds_toArray, List.set_cons_zero, List.set_cons_succ]
  refine wpAnyT_take (i := 18) (oi := ?oio1718) (v := ?vo1718) ?hoo1718 (by kernel_rfl) (by kernel_rfl) (by kernel_rfl) (by kernel_rfl) ?hqo1718 (Or.inl ⟨?hwo1718, ?hyo1718⟩) (by assumption) ?_
  case hoo1718 => rfl
  case hwo1718 => rfl
  case hyo1718 => (intro w hSw; (try dsimp only at hSw); go_split_ands; go_simp; (try (with_reducible rfl)))
  case hqo1718 => exact fun _ _ _ h => h
  simp only [Act.put, List.getElem_toArray, List.getElem_cons_succ, List.getElem_cons_zero, List.setIfInBounds_toArray, List.set_cons_zero, List.set_cons_succ]
  refine wpAnyT_take (i := 22) (oi := ?oio1722) (v := ?vo1722) ?hoo1722 (by kernel_rfl) (by kernel_rfl) (by kernel_rfl) (by kernel_rfl) ?hqo1722 (Or.inl ⟨?hwo1722, ?hyo1722⟩) (by assumption) ?_
  case hoo1722 => rfl
  case hwo1722 => rfl
  case hyo1722 => (intro w hSw; (try dsimp only at hSw); go_split_ands; go_simp; (try (with_reducible rfl)))
  case hqo1722 => exact fun _ _ _ h => h
  simp only [Act.put, List.getElem_toArray, List.getElem_cons_succ, List.getElem_cons_zero, List.setIfInBounds_toArray, List.set_cons_zero, List.set_cons_succ]
  refine wpAnyT_one (i := 15) (o := ?oio1715) (by kernel_rfl) ?hoo1715 (fun K hK => ?_)
  case hoo1715 => rfl
  rw [if_pos (by rfl)]
  go_simp
  go_at_call 15; (with_reducible refine (mulq1 a4 c4 e4 f4 a4 c4 e4 f4 (u : Int) (u : Int) (U2 : Int) _ (m4.out.up hHeld.1) (m4.out.up hHeld.1) su1.out su1.out hmu.out).mono ?_); rintro e u15 ⟨i15, j15, k15, l15, rfl, hm, hb⟩; have hq15 : Below U.heap.size U u15 := bseqT hHeld.1 hb; have hn15 := Lib.hid hm; clear hb hm
  (try go_wp2_with (fail))
  refine hK.out _ _ (fun _ => ⟨hq15, hup.out _ hq15⟩) (fun hHeld => ?_)
  replace hHeld := hHeld rfl
  clear hK K
  refine wpAnyT_one (i := 19) (o := ?oio1719) (by kernel_rfl) ?hoo1719 (fun K hK => ?_)
  case hoo1719 => rfl
  rw [if_pos (by rfl)]
  go_simp
  go_at_call 15; (with_reducible refine (mulq1 a5 c5 e5 f5 a5 c5 e5 f5 (z : Int) (z : Int) (Z2 : Int) _ (m5.out.up hHeld.1) (m5.out.up hHeld.1) sz1.out sz1.out hmz.out).mono ?_); rintro e u19 ⟨i19, j19, k19, l19, rfl, hm, hb⟩; have hq19 : Below U.heap.size U u19 := bseqT hHeld.1 hb; have hn19 := Lib.hid hm; have hn15_19 := Lib.hid (hn15.out.up hb); clear hb hm
  (try go_wp2_with (fail))
  refine hK.out _ _ (fun _ => ⟨hq19, hup.out _ hq19⟩) (fun hHeld => ?_)
  replace hHeld := hHeld rfl
  clear hK K
  refine wpAnyT_one (i := 20) (o := ?oio1720) (by kernel_rfl) ?hoo1720 (fun K hK => ?_)
  case hoo1720 => rfl
  rw [if_pos (by rfl)]
  go_simp
  go_at_call 15; (with_reducible refine (mulq1 a3 c3 e3 f3 i19 j19 k19 l19 (d : Int) (Z2 : Int) (G2 : Int) _ (m3.out.up hHeld.1) hn19.out sd1.out sZ2.out hmg.out).mono ?_); rintro e u20 ⟨i20, j20, k20, l20, rfl, hm, hb⟩; have hq20 : Below U.heap.size U u20 := bseqT hHeld.1 hb; have hn20 := Lib.hid hm; have hn15_20 := Lib.hid (hn15_19.out.up hb); clear hb hm
  (try go_wp2_with (fail))
  refine hK.out _ _ (fun _ => ⟨hq20, hup.out _ hq20⟩) (fun hHeld => ?_)
  replace hHeld := hHeld rfl
  clear hK K
  refine wpAnyT_one (i := 21) (o := ?oio1721) (by kernel_rfl) ?hoo1721 (fun K hK => ?_)
  case hoo1721 => rfl
  rw [if_pos (by rfl)]
  go_simp
  go_at_call 16; (with_reducible refine (addq1 i15 j15 k15 l15 i20 j20 k20 l20 (U2 : Int) (G2 : Int) (x : Int) _ hn15_20.out hn20.out sU2.out sG2.out hmp.out).mono ?_); rintro e u21 ⟨i21, j21, k21, l21, rfl, hm, hb⟩; have hq21 : Below U.heap.size U u21 := bseqT hHeld.1 hb; have hn21 := Lib.hid hm; clear hb hm
  (try go_wp2_with (fail))
  refine hK.out _ _ (fun _ => ⟨hq21, hup.out _ hq21⟩) (fun hHeld => ?_)
  replace hHeld := hHeld rfl
  clear hK K
  refine wpAnyT_one (i := 23) (o := ?oio1723) (by kernel_rfl) ?hoo1723 (fun K hK => ?_)
  case hoo1723 => rfl
  rw [if_pos (by rfl)]
  go_simp
  go_at_call 13; (with_reducible refine (cmpq1 i21 j21 k21 l21 a1 c1 e1 f1 (x : Int) _ hn21.out (m1.out.up hHeld.1) sx1.out).mono ?_); rintro e u23 ⟨rfl, hb⟩; have hq23 : Below U.heap.size U u23 := bseqT hHeld.1 hb; clear hb
  (try go_wp2_with (fail))
  refine hK.out _ _ (fun _ => ⟨hq23, hup.out _ hq23⟩) (fun hHeld => ?_)
  replace hHeld := hHeld rfl
  clear hK K
  refine wpAnyT_take (i := 24) (oi := ?oio1724) (v := ?vo1724) ?hoo1724 (by kernel_rfl) (by kernel_rfl) (by kernel_rfl) (by kernel_rfl) ?hqo1724 (Or.inl ⟨?hwo1724, ?hyo1724⟩) (by assumption) ?_
  case hoo1724 => rfl
  case hwo1724 => rfl
  case hyo1724 => (intro w hSw; (try dsimp only at hSw); go_split_ands; go_simp; (try (with_reducible rfl)))
  case hqo1724 => exact fun _ _ _ h => h
  simp only [Act.put, List.getElem_toArray, List.getElem_cons_succ, List.getElem_cons_zero, List.setIfInBounds_toArray, List.set_cons_zero, List.set_cons_succ]
  refine wpAnyT_take (i := 25) (oi := ?oio1725) (v := ?vo1725) ?hoo1725 (by kernel_rfl) (by kernel_rfl) (by kernel_rfl) (by kernel_rfl) ?hqo1725 (Or.inl ⟨?hwo1725, ?hyo1725⟩) (by assumption) ?_
  case hoo1725 => rfl
  case hwo1725 => rfl
  case hyo1725 => (intro w hSw; (try dsimp only at hSw); go_split_ands; go_simp; (try (with_reducible rfl)))
  case hqo1725 => exact fun _ _ _ h => h
  simp only [Act.put, List.getElem_toArray, List.getElem_cons_succ, List.getElem_cons_zero, List.setIfInBounds_toArray, List.set_cons_zero, List.set_cons_succ]
  refine wpAnyT_take (i := 26) (oi := ?oio1726) (v := ?vo1726) ?hoo1726 (by kernel_rfl) (by kernel_rfl) (by kernel_rfl) (by kernel_rfl) ?hqo1726 (Or.inl ⟨?hwo1726, ?hyo1726⟩) (by assumption) ?_
  case hoo1726 => rfl
  case hwo1726 => rfl
  case hyo1726 => (intro w hSw; (try dsimp only at hSw); go_split_ands; go_simp; (try (with_reducible rfl)))
  case hqo1726 => exact fun _ _ _ h => h
  simp only [Act.put, List.getElem_toArray, List.getElem_cons_succ, List.getElem_cons_zero, List.setIfInBounds_toArray, List.set_cons_zero, List.set_cons_succ]
  refine wpAnyT_take (i := 28) (oi := ?oio1728) (v := ?vo1728) ?hoo1728 (by kernel_rfl) (by kernel_rfl) (by kernel_rfl) (by kernel_rfl) ?hqo1728 (Or.inl ⟨?hwo1728, ?hyo1728⟩) (by assumption) ?_
  case hoo1728 => rfl
  case hwo1728 => rfl
  case hyo1728 => (intro w hSw; (try dsimp only at hSw); go_split_ands; go_simp; (try (with_reducible rfl)))
  case hqo1728 => exact fun _ _ _ h => h
  simp only [Act.put, List.getElem_toArray, List.getElem_cons_succ, List.getElem_cons_zero, List.setIfInBounds_toArray, List.set_cons_zero, List.set_cons_succ]
  refine wpAnyT_take (i := 29) (oi := ?oio1729) (v := ?vo1729) ?hoo1729 (by kernel_rfl) (by kernel_rfl) (by kernel_rfl) (by kernel_rfl) ?hqo1729 (Or.inl ⟨?hwo1729, ?hyo1729⟩) (by assumption) ?_
  case hoo1729 => rfl
  case hwo1729 => rfl
  case hyo1729 => (intro w hSw; (try dsimp only at hSw); go_split_ands; go_simp; (try (with_reducible rfl)))
  case hqo1729 => exact fun _ _ _ h => h
  simp only [Act.put, List.getElem_toArray, List.getElem_cons_succ, List.getElem_cons_zero, List.setIfInBounds_toArray, List.set_cons_zero, List.set_cons_succ]
  refine wpAnyT_take (i := 32) (oi := ?oio1732) (v := ?vo1732) ?hoo1732 (by kernel_rfl) (by kernel_rfl) (by kernel_rfl) (by kernel_rfl) ?hqo1732 (Or.inl ⟨?hwo1732, ?hyo1732⟩) (by assumption) ?_
  case hoo1732 => rfl
  case hwo1732 => rfl
  case hyo1732 => (intro w hSw; (try dsimp only at hSw); go_split_ands; go_simp; (try (with_reducible rfl)))
  case hqo1732 => exact fun _ _ _ h => h
  simp only [Act.put, List.getElem_toArray, List.getElem_cons_succ, List.getElem_cons_zero, List.setIfInBounds_toArray, List.set_cons_zero, List.set_cons_succ]
  refine wpAnyT_one (i := 27) (o := ?oio1727) (by kernel_rfl) ?hoo1727 (fun K hK => ?_)
  case hoo1727 => rfl
  rw [if_pos (by rfl)]
  go_simp
  go_at_call 11; (with_reducible refine (hw2.out _).mono ?_); rintro e u27 ⟨i27, j27, k27, l27, rfl, hm, hb⟩; have hq27 : Below U.heap.size U u27 := bseqT hHeld.1 hb; have hn27 := Lib.hid hm; clear hb hm
  (try go_wp2_with (fail))
  refine hK.out _ _ (fun _ => ⟨hq27, hup.out _ hq27⟩) (fun hHeld => ?_)
  replace hHeld := hHeld rfl
  clear hK K
  refine wpAnyT_one (i := 30) (o := ?oio1730) (by kernel_rfl) ?hoo1730 (fun K hK => ?_)
  case hoo1730 => rfl
  rw [if_pos (by rfl)]
  go_simp
  go_at_call 15; (with_reducible refine (mulq1 a4 c4 e4 f4 a5 c5 e5 f5 (u : Int) (z : Int) (UZ : Int) _ (m4.out.up hHeld.1) (m5.out.up hHeld.1) su1.out sz1.out hmuz.out).mono ?_); rintro e u30 ⟨i30, j30, k30, l30, rfl, hm, hb⟩; have hq30 : Below U.heap.size U u30 := bseqT hHeld.1 hb; have hn30 := Lib.hid hm; have hn27_30 := Lib.hid (hn27.out.up hb); clear hb hm
  (try go_wp2_with (fail))
  refine hK.out _ _ (fun _ => ⟨hq30, hup.out _ hq30⟩) (fun hHeld => ?_)
  replace hHeld := hHeld rfl
  clear hK K
  refine wpAnyT_one (i := 31) (o := ?oio1731) (by kernel_rfl) ?hoo1731 (fun K hK => ?_)
  case hoo1731 => rfl
  rw [if_pos (by rfl)]
  go_simp
  go_at_call 15; (with_reducible refine (mulq1 i27 j27 k27 l27 i30 j30 k30 l30 2 (UZ : Int) (y : Int) _ hn27_30.out hn30.out s22.out sUZ.out hm2.out).mono ?_); rintro e u31 ⟨i31, j31, k31, l31, rfl, hm, hb⟩; have hq31 : Below U.heap.size U u31 := bseqT hHeld.1 hb; have hn31 := Lib.hid hm; clear hb hm
  (try go_wp2_with (fail))
  refine hK.out _ _ (fun _ => ⟨hq31, hup.out _ hq31⟩) (fun hHeld => ?_)
  replace hHeld := hHeld rfl
  clear hK K
  refine wpAnyT_one (i := 33) (o := ?oio1733) (by kernel_rfl) ?hoo1733 (fun K hK => ?_)
  case hoo1733 => rfl
  rw [if_pos (by rfl)]
  go_simp
  go_at_call 13; (with_reducible refine (cmpq1 i31 j31 k31 l31 a2 c2 e2 f2 (y : Int) _ hn31.out (m2.out.up hHeld.1) sy1.out).mono ?_); rintro e u33 ⟨rfl, hb⟩; have hq33 : Below U.heap.size U u33 := bseqT hHeld.1 hb; clear hb
  (try go_wp2_with (fail))
  refine hK.out _ _ (fun _ => ⟨hq33, hup.out _ hq33⟩) (fun hHeld => ?_)
  replace hHeld := hHeld rfl
  clear hK K
  refine wpAnyT_take (i := 34) (oi := ?oio1734) (v := ?vo1734) ?hoo1734 (by kernel_rfl) (by kernel_rfl) (by kernel_rfl) (by kernel_rfl) ?hqo1734 (Or.inl ⟨?hwo1734, ?hyo1734⟩) (by assumption) ?_
  case hoo1734 => rfl
  case hwo1734 => rfl
  case hyo1734 => (intro w hSw; (try dsimp only at hSw); go_split_ands; go_simp; (try (with_reducible rfl)))
  case hqo1734 => exact fun _ _ _ h => h
  simp only [Act.put, List.getElem_toArray, List.getElem_cons_succ, List.getElem_cons_zero, List.setIfInBounds_toArray, List.set_cons_zero, List.set_cons_succ]
  refine wpAnyT_take (i := 35) (oi := ?oio1735) (v := ?vo1735) ?hoo1735 (by kernel_rfl) (by kernel_rfl) (by kernel_rfl) (by kernel_rfl) ?hqo1735 (Or.inl ⟨?hwo1735, ?hyo1735⟩) (by assumption) ?_
  case hoo1735 => rfl
  case hwo1735 => rfl
  case hyo1735 => (intro w hSw; (try dsimp only at hSw); go_split_ands; go_simp; (try (with_reducible rfl)))
  case hqo1735 => exact fun _ _ _ h => h
  simp only [Act.put, List.getElem_toArray, List.getElem_cons_succ, List.getElem_cons_zero, List.setIfInBounds_toArray, List.set_cons_zero, List.set_cons_succ]
  refine wpAnyT_take (i := 36) (oi := ?oio1736) (v := ?vo1736) ?hoo1736 (by kernel_rfl) (by kernel_rfl) (by kernel_rfl) (by kernel_rfl) ?hqo1736 (Or.inl ⟨?hwo1736, ?hyo1736⟩) (by assumption) ?_
  case hoo1736 => rfl
  case hwo1736 => rfl
  case hyo1736 => (intro w hSw; (try dsimp only at hSw); go_split_ands; go_simp; (try (with_reducible rfl)))
  case hqo1736 => exact fun _ _ _ h => h
  simp only [Act.put, List.getElem_toArray, List.getElem_cons_succ, List.getElem_cons_zero, List.setIfInBounds_toArray, List.set_cons_zero, List.set_cons_succ]
  refine wpAnyT_done (by kernel_rfl) ?_ _
  -- tail end
  go_wp2_with (fail)
  go_ret
  exact ⟨rfl, bseqT hbU.out hq33⟩
theorem unitsLaw_any (v : Nat) (w : World) (hv : v < 65536) : Calls Tryz.prog 3 #[.int .u16 (v : Nat)] w (RetB w true) := by
  cases hs : sqB (v % 999 + 2) with
  | true => exact unitsLaw_sq v _ _ w hv rfl rfl hs
  | false =>
    cases hi : pellIs (v % 999 + 2) true with
    | true => exact unitsLaw_odd v _ _ w hv rfl rfl hs hi
    | false => exact unitsLaw_even v _ _ w hv rfl rfl hs hi
end Go.Proofs.YtbehfhmdilifkaaGreat
