/- Us -/
import Derived.Test.YteiipfajoikfpaaQUq
import Derived.Test.YteiipfajoikfpaaQUg
import Derived.Test.YteiipfajoikfpaaQUi
set_option linter.unusedVariables false
/- Walk of PairEgervary. -/
namespace Go.Proofs.Yteiipfajoikfpaa
open Go Go.RowKit Go.Proofs

/-- A block begins with these numbers. -/
def ZP (w : World) (g : Nat) (xs : List Int) : Prop := ∃ t, Blk w g 3 ((xs.map fun x : Int => Value.int .i64 x) ++ t)
theorem ZP.of {w : World} {base g n c : Nat} {xs : List Int} (h : ZI w base (.slice (some ⟨g, 0, none⟩) n c) xs) (h0 : 0 < xs.length) : ZP w g xs := by
  rcases h.2 with ⟨h1, _⟩ | ⟨g', cap', cur, hv, _, hh, hn, _, _, ht⟩
  · cases h1
  · injection hv with h1 h2 h3
    injection h1 with h1
    injection h1 with h1 _
    subst h1
    rw [Nat.mul_one] at ht
    refine ⟨cur.toList.drop xs.length, ?_⟩
    unfold Blk
    rw [← ht, List.take_append_drop]
    simpa using hh
theorem ZP.at {w : World} {g : Nat} {xs : List Int} (h : ZP w g xs) {i : Nat} (hi : i < xs.length) : w.cell? ⟨g, i, none⟩ = some (.int .i64 (at0 xs i)) := by
  obtain ⟨t, ht⟩ := h
  rw [Blk.cell ht, List.getElem?_append_left (by simpa using hi), List.getElem?_map, at0_get hi]; rfl
theorem ZP.frozen {w : World} {g : Nat} {xs : List Int} (h : ZP w g xs) (i : Nat) : w.frozen? ⟨g, i, none⟩ = false := by
  obtain ⟨t, ht⟩ := h
  exact Blk.frozen ht i
theorem ZP.set {w : World} {g : Nat} {xs : List Int} (h : ZP w g xs) {i : Nat} (hi : i < xs.length) (x : Int) : ZP (w.setCell ⟨g, i, none⟩ (.int .i64 x)) g (xs.set i x) := by
  obtain ⟨t, ht⟩ := h
  refine ⟨t, ?_⟩
  have := Blk.set ht i (.int .i64 x)
  rw [List.set_append_left _ _ (by simpa using hi), ← List.map_set] at this
  exact this
theorem ZP.far {w : World} {g : Nat} {xs : List Int} (h : ZP w g xs) {p : Addr} (hp : g ≠ p.block) (u : Value) : ZP (w.setCell p u) g xs := by
  obtain ⟨t, ht⟩ := h
  exact ⟨t, Blk.far ht hp u⟩
theorem ZP.below {w w' : World} {g : Nat} {xs : List Int} (h : ZP w g xs) (hb : Below w.heap.size w w') : ZP w' g xs := by
  obtain ⟨t, ht⟩ := h
  exact ⟨t, Blk.later ht hb⟩
theorem ZP.lt {w : World} {g : Nat} {xs : List Int} (h : ZP w g xs) : g < w.heap.size := by
  obtain ⟨t, ht⟩ := h
  exact Blk.lt ht
theorem ZP.iz {w : World} {g : Nat} {xs : List Int} (h : ZP w g xs) : IZ w (some ⟨g, 0, none⟩) xs := fun i x hx => by
  have hi := (List.getElem?_eq_some_iff.1 hx).1
  refine ⟨g, 0, rfl, ?_⟩
  rw [Nat.zero_add, h.at hi, at0_of hx]
theorem ze_ownP {w : World} {base g n c : Nat} {xs : List Int} (h : ZE w base (.slice (some ⟨g, 0, none⟩) n c) xs) (h0 : 0 < xs.length) : ZP w g xs ∧ base ≤ g := by
  rcases h with h | ⟨h, _⟩
  · exact ⟨ZP.of h h0, (h.lt g rfl).1⟩
  · rw [h] at h0; simp at h0
theorem cheap_at (ao : Option Addr) (c n : Nat) (C : List (List Int)) (w : World) (h : IMx w ao C) (hg : goodC C) (hn : C.length = n) {p : List Nat} {v : Int} (hp : Best (byI (sumC C)) (allN n) p) (hv : sumC C p = v) :
    Calls Try.prog 19 #[.slice ao n c] w (fun e w' => ∃ g o c, e = .returned (.tuple #[.slice (some ⟨g, o, none⟩) n c, .int .i64 v, .int .i64 0]) ∧ n ≤ c ∧ IZ w' (some ⟨g, o, none⟩) (nz p) ∧ Below w.heap.size w w') :=
  (cheap_good ao c n C w h hg hn (fun W hW => prices_any ao c n C W hW hg hn)).mono fun e w' ⟨l, g, o, c, u, hB, hu, he, hc, hI, hb⟩ => by
    have e1 := hB.unique hp
    subst e1
    have e2 := hu.symm.trans hv
    subst e2
    exact ⟨g, o, c, he, hc, hI, hb⟩
theorem sum_bounds {l : List Int} (h : ∀ x ∈ l, 0 ≤ x ∧ x ≤ 1000) : 0 ≤ l.sum ∧ l.sum ≤ 1000 * (l.length : Int) := by
  induction l with
  | nil => simp
  | cons a l ih =>
    have h1 := h a (by simp)
    have h2 := ih fun x hx => h x (by simp [hx])
    rw [List.sum_cons, List.length_cons]
    omega
theorem sumC_in {C : List (List Int)} {n : Nat} {p : List Nat} (hg : goodC C) (hn : C.length = n) (hp : Pr n p) : 0 ≤ sumC C p ∧ sumC C p ≤ 8000 := by
  have hn8 : n ≤ 8 := by rw [← hn]; exact hg.2.1
  have h1 := sum_bounds (l := pcs C p) fun x hx => by
    obtain ⟨i, hi⟩ := List.mem_iff_getElem?.1 hx
    rw [pcs_get] at hi
    obtain ⟨j, hj, e⟩ := Option.map_eq_some_iff.1 hi
    have h1 := (List.getElem?_eq_some_iff.1 hj).1
    rw [hp.len] at h1
    have h2 := hp.lt j (List.mem_of_getElem? hj)
    rw [← e]
    exact ⟨hg.lo hn i j h1 h2, hg.hi hn i j h1 h2⟩
  rw [pcs_length, hp.len] at h1
  unfold sumC
  omega
/-- No prices prove more than the cheapest sum. -/
theorem provB_more {C : List (List Int)} {n : Nat} {R K : List Int} {p : List Nat} {v : Int} (hp : Pr n p) (hv : sumC C p = v) : provB C n R K (v + 1) = false := by
  refine decide_eq_false fun ⟨h1, h2⟩ => ?_
  have := (dual_le (C := C) (R := R) (K := K) (fun i j hi hj => h1 i hi j hj) hp).1
  rw [hv] at this
  omega
/-- Numbers within a bound. -/
def within (b : Int) (xs : List Int) : Prop := ∀ a, a < xs.length → -b ≤ at0 xs a ∧ at0 xs a ≤ b
theorem within.range {b : Int} {xs : List Int} {n : Nat} (h : within b xs) (hb : b ≤ 1000000000) (hl : xs.length = n) : rangeB xs n = true := decide_eq_true ⟨fun x hx => by
  obtain ⟨i, hi, rfl⟩ := at0_mem hx
  have := h i hi
  omega, hl⟩
theorem within.more {b c : Int} {xs : List Int} (h : within b xs) (hc : b ≤ c) : within c xs := fun a ha => by have := h a ha; omega
theorem within.set {b c : Int} {xs : List Int} (h : within b xs) (hc : b ≤ c) {i : Nat} {x : Int} (hi : i < xs.length) (hx : -c ≤ x ∧ x ≤ c) : within c (xs.set i x) := fun a ha => by
  rw [at0_set _ _ _ _ hi]
  split
  · exact hx
  · rw [List.length_set] at ha
    have := h a ha; omega
/-- The slice holds these small numbers. -/
def I8 (w : World) (ao : Option Addr) (xs : List Int) : Prop := ∀ (i : Nat) (x : Int), xs[i]? = some x → ∃ b o, ao = some ⟨b, o, none⟩ ∧ w.cell? ⟨b, o + i, none⟩ = some (.int .i8 x)
theorem I8.below {w w' : World} {ao : Option Addr} {xs : List Int} (h : I8 w ao xs) (hb : Below w.heap.size w w') : I8 w' ao xs := fun i x hx => by
  obtain ⟨b, o, ha, hc⟩ := h i x hx
  exact ⟨b, o, ha, Below.cellAt hb (Nat.le_refl _) hc⟩
/-- What the loop has in memory. -/
structure Two (w0 w : World) (gR gK : Nat) (R K : List Int) (k i : Nat) : Prop where
  below : Below w0.heap.size w0 w
  zR : ZP w gR R
  zK : ZP w gK K
  ne : gR ≠ gK
  lR : w0.heap.size ≤ gR
  lK : w0.heap.size ≤ gK
  nR : R.length = k
  nK : K.length = k
  bR : within (1000 + 128 * (i : Int)) R
  bK : within (1000 + 128 * (i : Int)) K
theorem Two.setR {w0 w : World} {gR gK : Nat} {R K : List Int} {k i a : Nat} {x : Int} (h : Two w0 w gR gK R K k i) (ha : a < k) (hx : -(1000 + 128 * ((i : Int) + 1)) ≤ x ∧ x ≤ 1000 + 128 * ((i : Int) + 1)) : Two w0 (w.setCell ⟨gR, a, none⟩ (.int .i64 x)) gR gK (R.set a x) K k (i + 1) :=
  ⟨h.below.setCell h.lR _, h.zR.set (by rw [h.nR]; exact ha) x, h.zK.far (Ne.symm h.ne) _, h.ne, h.lR, h.lK, by rw [List.length_set]; exact h.nR, h.nK, h.bR.set (by push_cast; omega) (by rw [h.nR]; exact ha) (by push_cast; exact hx), h.bK.more (by push_cast; omega)⟩
theorem Two.setK {w0 w : World} {gR gK : Nat} {R K : List Int} {k i a : Nat} {x : Int} (h : Two w0 w gR gK R K k i) (ha : a < k) (hx : -(1000 + 128 * ((i : Int) + 1)) ≤ x ∧ x ≤ 1000 + 128 * ((i : Int) + 1)) : Two w0 (w.setCell ⟨gK, a, none⟩ (.int .i64 x)) gR gK R (K.set a x) k (i + 1) :=
  ⟨h.below.setCell h.lK _, h.zR.far h.ne _, h.zK.set (by rw [h.nK]; exact ha) x, h.ne, h.lR, h.lK, h.nR, by rw [List.length_set]; exact h.nK, h.bR.more (by push_cast; omega), h.bK.set (by push_cast; omega) (by rw [h.nK]; exact ha) (by push_cast; exact hx)⟩
theorem Two.dr {w0 w : World} {gR gK : Nat} {R K : List Int} {k i : Nat} (h : Two w0 w gR gK R K k i) : Two w0 w.drew gR gK R K k i := ⟨Below.drew h.below, h.zR, h.zK, h.ne, h.lR, h.lK, h.nR, h.nK, h.bR, h.bK⟩
set_option maxRecDepth 100000 in
set_option maxHeartbeats 25600000 in
theorem egerLaw_any (n0 lx cx lm cm : Nat) (ax am : Option Addr) (xs : List Nat) (ms : List Int) (w : World) (hx : Dg .u16 w ax xs) (hl : xs.length = lx) (hl2 : lx ≤ 9223372036854775807) (hb : ∀ x ∈ xs, x < 65536) (hn : n0 < 256)
    (hM : I8 w am ms) (hlm : ms.length = lm) (hlm2 : lm ≤ 9223372036854775807) (hbm : ∀ x ∈ ms, -128 ≤ x ∧ x ≤ 127) :
    Calls Try.prog 9 #[.int .u8 (n0 : Nat), .slice ax lx cx, .slice am lm cm] w (RetB w true) := by
  have hmade := Lib.hid (made8_any n0 lx cx 50 ax xs w hx hl hl2 hb hn (by omega))
  have hMm := Lib.hid hM
  have hlmH := Lib.hid hlm
  have hbmH := Lib.hid hbm
  clear hx hl hl2 hb hn hM hlm hbm
  go_enter Try.func9, Try.ntmps9
  go_upto_region 2 with (first
    | (go_at_call 29; go_loud (with_reducible refine hmade.out.mono ?_); rintro e w1 ⟨C, a1, d1, k, rfl, hC, hg, hk8, hmo, hM, hd1, hb1⟩; have hCH := Lib.hid hC; have hgH := Lib.hid hg; have hMH := Lib.hid hM; have hb1H := Lib.hid hb1; clear hmo hM hb1))
  have hk1 : 0 < k := by rw [← hC]; exact hg.1
  obtain ⟨p, hp⟩ := best_exJ (sumC C) k
  obtain ⟨v, hv⟩ : ∃ v, sumC C p = v := ⟨_, rfl⟩
  have hpr := mem_allN.1 hp.mem
  obtain ⟨v0, v1⟩ := sumC_in hg hC hpr
  rw [hv] at v0 v1
  have hpB := Lib.hid (pr_pairB hpr)
  have hzl : Hid ((nz p).length = k) := by show _ = _; rw [nz_length]; exact hpr.len
  have hpH := Lib.hid hp
  have hvH := Lib.hid hv
  have hprH := Lib.hid hpr
  have hkk : ((k : Int) != (k : Int)) = false := by simp
  have hvv : (v != v) = false := by simp
  have wv : IntKind.i64.wrap (v + 1) = v + 1 := by rw [IntKind.wrap_i64]; omega
  clear hC hg hp hv hpr
  go_upto_region 11 with (first
    | (go_at_call 19; go_loud (with_reducible refine (cheap_at a1 d1 k C _ hMH.out hgH.out hCH.out hpH.out hvH.out).mono ?_); rintro e w2 ⟨g2, o2, c2, rfl, hc2, hI, hb2⟩; have hM2 := Lib.hid (hMH.out.below hb2); have hI2 := Lib.hid hI; have hb2H := Lib.hid hb2; clear hb2 hI)
    | (go_at_call 33; go_loud (with_reducible refine (prices_ok a1 d1 k C _ hM2.out hgH.out hCH.out).mono ?_); rintro e w3 ⟨R, K, gR, cR, gK, cK, hPO, rfl, hIR, hIK, hcR, hcK, hb3⟩; have hM3 := Lib.hid (hM2.out.below hb3); have hI3 := Lib.hid (hI2.out.below hb3); have hb3H := Lib.hid hb3; have hPOH := Lib.hid hPO; have hIRH := Lib.hid hIR; have hIKH := Lib.hid hIK; clear hb3 hPO hIR hIK)
    | (go_at_call 31; go_loud (with_reducible refine (pairingR_any (some ⟨g2, o2, none⟩) c2 k k (nz p) true _ hI3.out hzl.out hc2 (by omega) (by omega) hpB.out).mono ?_); rintro e w4 ⟨rfl, hb4⟩; have hb4H := Lib.hid hb4; have hM4 := Lib.hid (hM3.out.below hb4); have hI4 := Lib.hid (hI3.out.below hb4); clear hb4)
    | (go_at_call 38; go_loud (with_reducible refine (sum_anyJ a1 _ d1 c2 k C p v _ hM4.out hI4.out hgH.out hCH.out hprH.out hvH.out).mono ?_); rintro e w5 ⟨rfl, hb5⟩; have hb5H := Lib.hid hb5; have hM5 := Lib.hid (hM4.out.below hb5); clear hb5)
    | (go_at_call 21; go_loud (with_reducible refine (lives_any _).mono ?_); rintro e w6 ⟨rfl, hb6⟩; have hb6H := Lib.hid (bseqJ hb4H.out (bseqJ hb5H.out hb6)); have hM6 := Lib.hid (hM5.out.below hb6); clear hb6)
    | (go_at_call 37; (with_reducible refine (proves_good a1 (some ⟨gR, 0, none⟩) (some ⟨gK, 0, none⟩) d1 cR cK k C R K v true _ hM6.out hgH.out hCH.out (hIRH.out.below hb6H.out) (hIKH.out.below hb6H.out) hPOH.out.range.1 hPOH.out.range.2 (hPOH.out.prov hpH.out hvH.out)).mono ?_); rintro e w7 ⟨rfl, hb7⟩; have hb7H := Lib.hid (bseqJ hb6H.out hb7); have hM7 := Lib.hid (hM6.out.below hb7); clear hb7)
    | (go_at_call 37; (with_reducible refine (proves_good a1 (some ⟨gR, 0, none⟩) (some ⟨gK, 0, none⟩) d1 cR cK k C R K (v + 1) false _ hM7.out hgH.out hCH.out (hIRH.out.below hb7H.out) (hIKH.out.below hb7H.out) hPOH.out.range.1 hPOH.out.range.2 (provB_more hprH.out hvH.out)).mono ?_); rintro e w8 ⟨rfl, hb8⟩; have hb8H := Lib.hid (bseqJ hb7H.out hb8); have hM8 := Lib.hid (hM7.out.below hb8); have hIR8 := Lib.hid (hIRH.out.below hb8H.out); have hIK8 := Lib.hid (hIKH.out.below hb8H.out); clear hb8)
    | (at_builtin; (refine wpList_append_ze _ rfl (.tmp 106) (.tmp 107) _ rfl Try.underlying24 w8.heap.size 0 _ [] (by rfl) (ZE.lit _ _ _) rfl (some ⟨gR, 0, none⟩) k cR R (by rfl) (hIR8.out.below (below_al (Below.refl _ _) _)) hPOH.out.lR (by omega) (by omega) (by simp) ?_); intro va x1 hA1; rw [List.nil_append] at hA1; have hAa := Lib.hid hA1; have hba := Lib.hid (Below.trans (below_al (Below.refl _ _) _) hA1.2.1); clear hA1)
    | (at_builtin; (refine wpList_append_ze _ rfl (.tmp 109) (.tmp 110) _ rfl Try.underlying24 x1.heap.size 0 _ [] (by rfl) (ZE.lit _ _ _) rfl (some ⟨gK, 0, none⟩) k cK K (by rfl) (hIK8.out.below (bseqJ hba.out (below_al (Below.refl _ _) _))) hPOH.out.lK (by omega) (by omega) (by simp) ?_); intro vb x2 hA2; rw [List.nil_append] at hA2; have hAb := Lib.hid hA2; have hbb := Lib.hid (Below.trans (below_al (Below.refl _ _) _) hA2.2.1); clear hA2))
  obtain ⟨a2, c2', hva⟩ := hAa.out.1.some (by intro e; have := hPOH.out.lR; rw [e] at this; simp at this; omega)
  obtain ⟨b2, d2', hvb⟩ := hAb.out.1.some (by intro e; have := hPOH.out.lK; rw [e] at this; simp at this; omega)
  rw [hPOH.out.lR] at hva
  rw [hPOH.out.lK] at hvb
  subst hva hvb
  obtain ⟨hzR, hgR⟩ := ze_ownP hAa.out.1 (by rw [hPOH.out.lR]; exact hk1)
  obtain ⟨hzK, hgK⟩ := ze_ownP hAb.out.1 (by rw [hPOH.out.lK]; exact hk1)
  have hltR := hzR.lt
  have hTwo : Hid (Two w8 x2 a2 b2 R K k 0) := by
    refine ⟨bseqJ hba.out hbb.out, hzR.below hbb.out, hzK, by omega, hgR, Nat.le_trans hba.out.size hgK, hPOH.out.lR, hPOH.out.lK, fun i hi => ?_, fun i hi => ?_⟩
    · have := hPOH.out.bR _ (List.mem_of_getElem? (at0_get hi)); omega
    · have := hPOH.out.bK _ (List.mem_of_getElem? (at0_get hi)); omega
  have hfin := Lib.hid (bseqJ hb1H.out (bseqJ hb2H.out (bseqJ hb3H.out hb8H.out)))
  have hM9 := Lib.hid hMm.out
  have k2 : (2 : Int) * (k : Int) = ((2 * k : Nat) : Int) := by push_cast; rfl
  obtain ⟨kk, hk2⟩ : ∃ kk, 2 * k = kk := ⟨_, rfl⟩
  rw [hk2] at k2
  have hkk16 : kk ≤ 16 := by omega
  have hkN : (k : Int) * 2 = (kk : Int) := by omega
  clear hAa hAb hba hbb hzR hzK hb2H hb3H hb4H hb5H hb6H hb7H hb8H hM2 hM3 hM4 hM5 hM6 hM7 hMH hI2 hI3 hI4 hIRH hIKH hIR8 hIK8 hPOH hpH hpB hzl hltR hgR hgK
  go_wp2_with (fail)
  go_loopg [20] kk (fun gk iv wr => ∃ (i : Nat) (R K : List Int), iv = .int .i64 (i : Nat) ∧ i + gk = kk ∧ i ≤ lm ∧ Two w8 wr a2 b2 R K k i)
  case atStart => exact ⟨0, R, K, rfl, by omega, Nat.zero_le _, hTwo.out⟩
  case round =>
    clear hTwo
    obtain ⟨i, R, K, rfl, hi, hilm, hT⟩ := hrel
    have hTH := Lib.hid hT
    clear hT
    by_cases hgo : i < lm ∧ i < kk
    · obtain ⟨hil, hik⟩ := hgo
      obtain ⟨g1, rfl⟩ : ∃ g1, gk = g1 + 1 := ⟨gk - 1, by omega⟩
      have hilI : (i : Int) < (lm : Int) := by omega
      have hikI : (i : Int) < (kk : Int) := by omega
      have hi0 : (0 : Int) ≤ (i : Int) := by omega
      obtain ⟨y, hy⟩ : ∃ y, ms[i]? = some y := ⟨_, List.getElem?_eq_getElem (by rw [hlmH.out]; exact hil)⟩
      obtain ⟨y0, y1⟩ := hbmH.out y (List.mem_of_getElem? hy)
      obtain ⟨bm, om, ham, e1⟩ := (hM9.out.below (bseqJ hfin.out hTH.out.below)) i y hy
      have hamH := Lib.hid ham
      subst ham
      have wy : IntKind.i64.wrap y = y := by rw [IntKind.wrap_i64]; omega
      clear hy
      by_cases hir : i < k
      · have hirI : (i : Int) < (k : Int) := by omega
        have cR := hTH.out.zR.at (i := i) (by rw [hTH.out.nR]; exact hir)
        have zR := hTH.out.zR.frozen i
        obtain ⟨u1, u2⟩ := hTH.out.bR i (by rw [hTH.out.nR]; exact hir)
        obtain ⟨r, hr⟩ : ∃ r, at0 R i = r := ⟨_, rfl⟩
        rw [hr] at cR u1 u2
        have wr1 : IntKind.i64.wrap (r + y) = r + y := by rw [IntKind.wrap_i64]; omega
        have hT2 := Lib.hid (hTH.out.dr.setR (x := r + y) hir (by omega))
        clear hr
        go_upto_region 15 with (fail)
        go_region_with (fail)
        all_goals (
          go_wp2_with (fail)
          go_roundg g1
          case measure => omega
          case rel => exact ⟨i + 1, _, _, by go_num, by omega, by omega, hT2.out⟩)
      · have hirI : ¬ (i : Int) < (k : Int) := by omega
        obtain ⟨j, hj⟩ : ∃ j, i = k + j := ⟨i - k, by omega⟩
        have hjk : j < k := by omega
        have hjI : (i : Int) - (k : Int) = (j : Int) := by omega
        have wj : IntKind.i64.wrap ((i : Int) - (k : Int)) = (j : Int) := by rw [IntKind.wrap_i64]; omega
        have hjkI : (j : Int) < (k : Int) := by omega
        have hjN : i - k = j := by omega
        have f1 : (k : Int) ≤ (i : Int) := by omega
        have f1N : k ≤ i := by omega
        have f2 : (i : Int) - (k : Int) < (k : Int) := by omega
        have f3 : (0 : Int) ≤ (i : Int) - (k : Int) := by omega
        have f4 : (i : Int) < (k : Int) + (k : Int) := by omega
        have w5 : wrap64 ((i : Int) - (k : Int)) = (j : Int) := by rw [IntWalk.wrap64_in]; omega; omega
        have hj0 : (0 : Int) ≤ (j : Int) := by omega
        have cK := hTH.out.zK.at (i := j) (by rw [hTH.out.nK]; exact hjk)
        have zK := hTH.out.zK.frozen j
        obtain ⟨u1, u2⟩ := hTH.out.bK j (by rw [hTH.out.nK]; exact hjk)
        obtain ⟨r, hr⟩ : ∃ r, at0 K j = r := ⟨_, rfl⟩
        rw [hr] at cK u1 u2
        have wr1 : IntKind.i64.wrap (r + y) = r + y := by rw [IntKind.wrap_i64]; omega
        have hT2 := Lib.hid (hTH.out.dr.setK (x := r + y) hjk (by omega))
        clear hr hj
        go_upto_region 16 with (fail)
        go_region
        all_goals (
          go_wp2_with (fail)
          go_roundg g1
          case measure => omega
          case rel => exact ⟨i + 1, _, _, by go_num, by omega, by omega, hT2.out⟩)
    · have hrange := Lib.hid (And.intro (hTH.out.bR.range (n := k) (by omega) hTH.out.nR) (hTH.out.bK.range (n := k) (by omega) hTH.out.nK))
      by_cases hil : i < lm
      · have hilI : (i : Int) < (lm : Int) := by omega
        have hikI : ¬ (i : Int) < (kk : Int) := by omega
        go_wp2_with (go_at_call 37; go_loud (with_reducible refine (proves_good a1 (some ⟨a2, 0, none⟩) (some ⟨b2, 0, none⟩) d1 c2' d2' k C R K (v + 1) false _ (hM8.out.below hTH.out.below) hgH.out hCH.out hTH.out.zR.iz hTH.out.zK.iz hrange.out.1 hrange.out.2 (provB_more hprH.out hvH.out)).mono ?_); rintro e w9 ⟨rfl, hb9⟩; have hb9H := Lib.hid hb9; clear hb9)
        go_ret
        exact ⟨rfl, bseqJ hfin.out (bseqJ hTH.out.below hb9H.out)⟩
      · have hilI : ¬ (i : Int) < (lm : Int) := by omega
        go_wp2_with (go_at_call 37; go_loud (with_reducible refine (proves_good a1 (some ⟨a2, 0, none⟩) (some ⟨b2, 0, none⟩) d1 c2' d2' k C R K (v + 1) false _ (hM8.out.below hTH.out.below) hgH.out hCH.out hTH.out.zR.iz hTH.out.zK.iz hrange.out.1 hrange.out.2 (provB_more hprH.out hvH.out)).mono ?_); rintro e w9 ⟨rfl, hb9⟩; have hb9H := Lib.hid hb9; clear hb9)
        go_ret
        exact ⟨rfl, bseqJ hfin.out (bseqJ hTH.out.below hb9H.out)⟩
end Go.Proofs.Yteiipfajoikfpaa
