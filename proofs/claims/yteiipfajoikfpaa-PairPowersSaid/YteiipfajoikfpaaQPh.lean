/- Gl Gn Gp -/
import Derived.Test.YteiipfajoikfpaaQPg
import Derived.Test.YteiipfajoikfpaaQPa
set_option linter.unusedVariables false
/- Walk of counts. -/
namespace Go.Proofs.Yteiipfajoikfpaa
open Go Go.RowKit Go.Proofs

theorem ZBlk.dn {w : World} {g : Nat} {xs : List Int} (h : ZBlk w g xs) (q : Nat) : ZBlk (w.drewN q) g xs := h
theorem nblk_zblk {w : World} {g N : Nat} (h : Nblk .i64 w g 3 (List.replicate N 0)) : ZBlk w g (List.replicate N 0) := by
  unfold Nblk at h
  unfold ZBlk
  simpa using h
theorem nblk_cell {w : World} {g N i : Nat} (h : Nblk .i64 w g 3 (List.replicate N 0)) (hi : i < N) : w.cell? ⟨g, i, none⟩ = some (.int .i64 0) := by
  have := (nblk_zblk h).at (i := i) (by simpa using hi)
  rw [at0_of (x := 0) (by rw [List.getElem?_replicate, if_pos hi])] at this
  exact this
theorem bits_and_nat (a b : Nat) (ha : a < 9223372036854775808) (hb : b < 9223372036854775808) : bits .and .i64 (a : Int) (b : Int) = ((a &&& b : Nat) : Int) := by
  have hx : a &&& b < 2 ^ 63 := Nat.and_lt_two_pow _ (by omega)
  have h1 : (BitVec.ofInt 64 (a : Int)).toNat = a := by
    rw [BitVec.ofInt_natCast, BitVec.toNat_ofNat]; exact Nat.mod_eq_of_lt (by omega)
  have h2 : (BitVec.ofInt 64 (b : Int)).toNat = b := by
    rw [BitVec.ofInt_natCast, BitVec.toNat_ofNat]; exact Nat.mod_eq_of_lt (by omega)
  show IntKind.i64.wrap ((BitVec.ofInt 64 (a : Int) &&& BitVec.ofInt 64 (b : Int)).toNat : Int) = _
  rw [BitVec.toNat_and, h1, h2, IntKind.wrap_i64]
  omega
theorem bits_or_nat (a b : Nat) (ha : a < 9223372036854775808) (hb : b < 9223372036854775808) : bits .or .i64 (a : Int) (b : Int) = ((a ||| b : Nat) : Int) := by
  have hx : a ||| b < 2 ^ 63 := Nat.or_lt_two_pow (by omega) (by omega)
  have h1 : (BitVec.ofInt 64 (a : Int)).toNat = a := by
    rw [BitVec.ofInt_natCast, BitVec.toNat_ofNat]; exact Nat.mod_eq_of_lt (by omega)
  have h2 : (BitVec.ofInt 64 (b : Int)).toNat = b := by
    rw [BitVec.ofInt_natCast, BitVec.toNat_ofNat]; exact Nat.mod_eq_of_lt (by omega)
  show IntKind.i64.wrap ((BitVec.ofInt 64 (a : Int) ||| BitVec.ofInt 64 (b : Int)).toNat : Int) = _
  rw [BitVec.toNat_or, h1, h2, IntKind.wrap_i64]
  omega
theorem bit_at (u j : Nat) (hu : u < 9223372036854775808) : bits .and .i64 ((u : Int) / 2 ^ j) 1 = ((u.testBit j).toNat : Int) := by
  have e : ((u : Int) / 2 ^ j) = ((u / 2 ^ j : Nat) : Int) := by simp
  rw [e]
  have h1 : u / 2 ^ j ≤ u := Nat.div_le_self _ _
  have := bits_and_nat (u / 2 ^ j) 1 (by omega) (by omega)
  rw [show ((1 : Nat) : Int) = 1 from rfl] at this
  rw [this, Nat.testBit_eq_decide_div_mod_eq, Nat.and_one_is_mod]
  by_cases h : u / 2 ^ j % 2 = 1
  · rw [h]; rfl
  · rw [show u / 2 ^ j % 2 = 0 by omega]; rfl
theorem or_bit (u j : Nat) (hu : u < 9223372036854775808) (hj : j < 63) : bits .or .i64 (u : Int) ((2 : Int) ^ j) = ((u ||| 2 ^ j : Nat) : Int) := by
  have e : ((2 : Int) ^ j) = ((2 ^ j : Nat) : Int) := by simp
  rw [e]
  exact bits_or_nat u (2 ^ j) hu (by have := Nat.pow_lt_pow_right (a := 2) (by omega) hj; omega)
theorem pow_in (j : Nat) (hj : j < 63) : wrap64 ((2 : Int) ^ j) = (2 : Int) ^ j := by
  have e : ((2 : Int) ^ j) = ((2 ^ j : Nat) : Int) := by simp
  have := Nat.pow_lt_pow_right (a := 2) (by omega) hj
  rw [IntWalk.wrap64_in]
  rw [e]; generalize 2 ^ j = x at *; omega
def TabPost (A : Nat → Nat → Bool) (n : Nat) (w : World) (e : Ending) (w' : World) : Prop := ∃ g, e = .returned (.slice (some ⟨g, 0, none⟩) (2 ^ n) (2 ^ n)) ∧ ZBlk w' g (tabW A n) ∧ Below w.heap.size w w' ∧ w.heap.size ≤ g ∧ g < w'.heap.size
set_option maxRecDepth 100000 in
set_option maxHeartbeats 12800000 in
theorem counts_any (A : Nat → Nat → Bool) (n g : Nat) (lb : Array Value) (w : World) (hn : n ≤ 8) (hn1 : 1 ≤ n) (hA : AllowAt g lb A n w) (eg : ∀ args w, (callFunc g args).run Try.prog w = .ok (.enter g args) w) :
    Calls Try.prog 59 #[.int .i64 (n : Nat), .func (.func g) #[] lb] w (TabPost A n w) := by
  obtain ⟨N, hN⟩ : ∃ N, 2 ^ n = N := ⟨_, rfl⟩
  have hN1 : 2 ≤ N := by rw [← hN]; exact Nat.pow_le_pow_right (n := 2) (by omega) hn1
  have hN2 : N ≤ 256 := by rw [← hN]; exact Nat.pow_le_pow_right (n := 2) (by omega) hn
  have sh : wrap64 ((2 : Int) ^ n) = (N : Int) := by rw [IntWalk.wrap64_in] <;> (have e : ((2 : Int) ^ n) = ((2 ^ n : Nat) : Int) := (by simp); rw [e, hN]; try omega)
  have hNH := Lib.hid hN
  have hAH := Lib.hid hA
  have hn2 : (n : Int) < 64 := by omega
  have hn3 : 0 ≤ (n : Int) := by omega
  have hm1 : 0 ≤ (N : Int) - 1 := by omega
  have hm2 : (N : Int) - 1 < (N : Int) := by omega
  clear hN hA
  go_enter Try.func59, Try.ntmps59
  go_upto_region 3 with (first
    | (at_make; go_loud (refine wpList_make_zero _ rfl (.tmp 11) _ rfl 3 .i64 8 Try.underlying24 info_intJ (by omega) .i64 (wrap64 ((2 : Int) ^ n)) N (by rfl) sh (by omega) ?_); intro w2 hN2 hb2; have k0 : w2.cell? ⟨w.heap.size, N - 1, none⟩ = some (.int .i64 0) := nblk_cell hN2 (by omega); have k0f : w2.frozen? ⟨w.heap.size, N - 1, none⟩ = false := Blk.frozen hN2 _; have hR2 := Lib.hid hN2; have hb2H := Lib.hid hb2; clear hN2 hb2))
  obtain ⟨V, hV⟩ : ∃ V, V = w2.setCell ⟨w.heap.size, N - 1, none⟩ (.int .i64 1) := ⟨_, rfl⟩
  rw [← hV]
  have hZV : Hid (ZBlk V w.heap.size (tabU A n (N - 1) (wayT A n (N - 1)))) := by
    have h0 : ZBlk w2 w.heap.size (List.replicate N 0) := nblk_zblk hR2.out
    have h1 := h0.set (N - 1) 1
    rw [← hV] at h1
    have h2 := tabU_start A n
    rw [hNH.out] at h2
    show ZBlk _ _ _
    rw [← h2]; exact h1
  have hbV : Hid (Below w.heap.size w V) := by show Below _ _ _; rw [hV]; exact hb2H.out.setCell (Nat.le_refl _) _
  have hgV : w.heap.size < V.heap.size := World.block_lt_of_cell? _ _ (hZV.out.at (i := 0) (by rw [tabU_len, hNH.out]; omega))
  clear hV k0 k0f hR2 hb2H hm1 hm2
  generalize hgg : w.heap.size = gb at *
  have hggH := Lib.hid hgg
  clear hgg
  go_wp2_with (fail)
  go_loopw [6] (fun uv wr => ∃ (k : Nat) (z : Int), uv = .int .i64 z ∧ z = (k : Int) - 1 ∧ k + 1 ≤ N ∧ ZBlk wr gb (tabU A n k (wayT A n k)) ∧ Below gb w wr) (fun uv _ => (intOf uv + 1).toNat)
  case atStart => exact ⟨N - 1, (N : Int) - 2, rfl, by omega, by omega, hZV.out, hbV.out⟩
  case round =>
    obtain ⟨k, z, rfl, hz, hk, hZ, hbl⟩ := hrel
    have hZH := Lib.hid hZ
    have hblH := Lib.hid hbl
    clear hZ hbl
    rcases k with _ | u
    · have hz1 : ¬ 0 ≤ z := by omega
      go_wp2_with (fail)
      go_ret
      have h1 := hZH.out
      rw [tabU_done] at h1
      refine ⟨gb, by rw [hNH.out]; rfl, h1, by rw [hggH.out]; exact hblH.out, Nat.le_of_eq hggH.out, ?_⟩
      exact World.block_lt_of_cell? _ _ (h1.at (i := 0) (by rw [tabW_len, hNH.out]; omega))
    · have hzu : z = (u : Int) := by omega
      subst hzu
      clear hz
      have hz1 : 0 ≤ (u : Int) := by omega
      go_wp2_with (fail)
      go_loop [7, 26] (fun iv jv => ∃ j : Nat, iv = .int .i64 (pop u j : Nat) ∧ jv = .int .i64 (j : Nat) ∧ j ≤ n) (fun _ jv => n - (intOf jv).toNat)
      case atStart => exact ⟨0, rfl, rfl, by omega⟩
      case round =>
        obtain ⟨j, rfl, rfl, hj⟩ := hrel
        by_cases hjn : j < n
        · have hjI : (j : Int) < (n : Int) := by omega
          have hj64 : (j : Int) < 64 := by omega
          have hj0 : 0 ≤ (j : Int) := by omega
          obtain ⟨t, ht⟩ : ∃ t, (u.testBit j).toNat = t := ⟨_, rfl⟩
          have hbit : bits .and .i64 ((u : Int) / 2 ^ j) 1 = (t : Int) := by rw [← ht]; exact bit_at u j (by omega)
          have ht1 : t ≤ 1 := by rw [← ht]; exact Bool.toNat_le _
          have hpl := pop_le u j
          have hps := Lib.hid (show pop u (j + 1) = pop u j + t by simp only [pop]; rw [ht])
          clear ht
          obtain ⟨p, hp⟩ : ∃ p, pop u j = p := ⟨_, rfl⟩
          rw [hp] at hpl
          rw [hp]
          have hpH := Lib.hid hp
          clear hp
          go_wp2_with (fail)
          go_round
          case rel => exact ⟨j + 1, by rw [hps.out, hpH.out]; go_num, by go_num, by omega⟩
          case measure => simp [intOf]; omega
        · have hje : j = n := by omega
          subst hje
          have hjI : ¬ (j : Int) < (j : Int) := by omega
          obtain ⟨i, hi⟩ : ∃ i, pop u j = i := ⟨_, rfl⟩
          have hin : i < j := by rw [← hi]; exact pop_lt (by rw [hNH.out]; omega)
          obtain ⟨m, hm⟩ : ∃ m, i + (m + 1) = j := ⟨j - i - 1, by omega⟩
          have hZ2 : Hid (ZBlk wr gb (tabU A j u (wayU A j m u 0))) := by
            have := hZH.out
            rw [tabU_next] at this
            exact this
          rw [hi]
          have hiH := Lib.hid hi
          clear hi hZH
          go_wp2_with (fail)
          go_loopw [37] (fun jv wx => ∃ k : Nat, jv = .int .i64 (k : Nat) ∧ k ≤ j ∧ ZBlk wx gb (tabU A j u (wayU A j m u k)) ∧ Below gb w wx) (fun jv _ => j - (intOf jv).toNat)
          case atStart => exact ⟨0, rfl, by omega, hZ2.out, hblH.out⟩
          case round =>
            clear hZ2 hblH
            obtain ⟨k, rfl, hk, hZ, hbl⟩ := hrel
            have hZH := Lib.hid hZ
            have hblH := Lib.hid hbl
            clear hZ hbl
            by_cases hkj : k < j
            · have hkI : (k : Int) < (j : Int) := by omega
              have hk64 : (k : Int) < 64 := by omega
              have hk0 : 0 ≤ (k : Int) := by omega
              have hbA : Hid (Below w.heap.size w wr) := by show Below _ _ _; rw [hggH.out]; exact hblH.out
              have hrow : Hid (j - (m + 1) = i) := by show _ = _; omega
              rcases ht : u.testBit k
              · have hbit : bits .and .i64 ((u : Int) / 2 ^ k) 1 = 0 := by rw [bit_at u k (by omega), ht]; rfl
                have htH := Lib.hid ht
                clear ht
                rcases hAik : A i k
                · have hAH2 := Lib.hid hAik
                  clear hAik
                  go_wp2_with (fail)
                  have cS : Calls Try.prog g (#[.int .i64 (i : Nat), .int .i64 (k : Nat)] ++ lb) wr _ := hAH.out wr i k false hAH2.out hbA.out hin hkj
                  refine cS.mono ?_
                  rintro e w1 ⟨rfl, q, rfl⟩
                  clear cS
                  go_wp2_with (fail)
                  go_roundw
                  case rel => exact ⟨k + 1, by go_num, by omega, by rw [wayU_skip A j m u k (.inr (by rw [hrow.out]; exact hAH2.out))]; exact hZH.out.dn _, bdn hblH.out⟩
                  case measure => simp [intOf]; omega
                · have hAH2 := Lib.hid hAik
                  clear hAik
                  have hpw := pow_in k (by omega)
                  have hpw2 : IntKind.i64.wrap ((2 : Int) ^ k) = (2 : Int) ^ k := (IntWalk.i64_left _).trans hpw
                  have hpw3 : IntKind.i64.wrap (1 * (2 : Int) ^ k) = (2 : Int) ^ k := by rw [Int.one_mul]; exact hpw2
                  have hor := or_bit u k (by omega) (by omega)
                  have hol := or_lt (u := u) (j := k) (n := j) (by rw [hNH.out]; omega) hkj
                  rw [hNH.out] at hol
                  have hog := or_gt htH.out
                  have c1 := hZH.out.at (i := u) (by rw [tabU_len, hNH.out]; omega)
                  have c2 := hZH.out.at (i := u ||| 2 ^ k) (by rw [tabU_len, hNH.out]; exact hol)
                  rw [tabU_here (by rw [hNH.out]; omega)] at c1
                  rw [tabU_far (by rw [hNH.out]; exact hol) hog, wayT_or hiH.out hm hkj htH.out] at c2
                  have c3 := Blk.frozen hZH.out u
                  have hb1 := way_small (A := A) (n := j) (m := m) (u := u) (k := k) hn (by omega) (by omega)
                  have hb2 := wayM_small (A := A) (n := j) (m := m) (u := u ||| 2 ^ k) hn (by omega)
                  have htk := Lib.hid (wayU_take A j m u k htH.out (by rw [hrow.out]; exact hAH2.out))
                  obtain ⟨x, hx⟩ : ∃ x, wayU A j m u k = x := ⟨_, rfl⟩
                  obtain ⟨o, ho⟩ : ∃ o, u ||| 2 ^ k = o := ⟨_, rfl⟩
                  rw [ho] at c2 hor hol hog hb2
                  obtain ⟨y, hy⟩ : ∃ y, wayM A j m o = y := ⟨_, rfl⟩
                  rw [hx] at c1 hb1
                  rw [hy] at c2 hb2
                  have hxy : IntKind.i64.wrap ((x : Int) + (y : Int)) = (x : Int) + (y : Int) := by rw [IntKind.wrap_i64]; omega
                  have hxH := Lib.hid hx
                  have hyH := Lib.hid (show wayM A j m (u ||| 2 ^ k) = y by rw [ho]; exact hy)
                  have hlt1 : (u : Int) < (N : Int) := by omega
                  have hlt2 : (o : Int) < (N : Int) := by omega
                  have ho0 : 0 ≤ (o : Int) := by omega
                  clear hx ho hy
                  go_wp2_with (fail)
                  have cS : Calls Try.prog g (#[.int .i64 (i : Nat), .int .i64 (k : Nat)] ++ lb) wr _ := hAH.out wr i k true hAH2.out hbA.out hin hkj
                  refine cS.mono ?_
                  rintro e w1 ⟨rfl, q, rfl⟩
                  clear cS
                  go_upto_region 16 with (fail)
                  go_wp2_with (fail)
                  go_region_with (fail)
                  all_goals (
                    have hZ3 : Hid (ZBlk ((wr.drewN (q + 1)).setCell ⟨gb, u, none⟩ (.int .i64 ((x : Int) + (y : Int)))) gb (tabU A j u (wayU A j m u (k + 1)))) := by
                      have h := (hZH.out.dn (q + 1)).set u (((x + y : Nat) : Int))
                      rw [tabU_set] at h
                      show ZBlk _ _ _
                      rw [htk.out, hxH.out, hyH.out]
                      exact h
                    have hb3 : Hid (Below gb w ((wr.drewN (q + 1)).setCell ⟨gb, u, none⟩ (.int .i64 ((x : Int) + (y : Int))))) := (show Below gb w (wr.drewN (q + 1)) by have := bdn (n := q + 1) hblH.out; exact this).setCell (Nat.le_refl _) _
                    go_wp2_with (fail)
                    go_roundw
                    case rel => exact ⟨k + 1, by go_num, by omega, hZ3.out, hb3.out⟩
                    case measure => simp [intOf]; omega)
              · have hbit : bits .and .i64 ((u : Int) / 2 ^ k) 1 = 1 := by rw [bit_at u k (by omega), ht]; rfl
                have htH := Lib.hid ht
                clear ht
                go_wp2_with (fail)
                go_roundw
                case rel => exact ⟨k + 1, by go_num, by omega, by rw [wayU_skip A j m u k (.inl htH.out)]; exact hZH.out, hblH.out⟩
                case measure => simp [intOf]; omega
            · have hke : k = j := by omega
              subst hke
              have hkI : ¬ (k : Int) < (k : Int) := by omega
              go_wp2_with (fail)
              go_roundw
              case rel => exact ⟨u, rfl, by omega, by rw [wayT_row hiH.out hm]; exact hZH.out, hblH.out⟩
              case measure => simp [intOf]; omega
end Go.Proofs.Yteiipfajoikfpaa

/- Walk of Count. -/
namespace Go.Proofs.Yteiipfajoikfpaa
open Go Go.RowKit Go.Proofs

theorem count_bad (ao : Option Addr) (c n : Nat) (C : List (List Int)) (z : Int) (w : World) (h : IMx w ao C) (hn : C.length = n) (hm : n ≤ 9223372036854775807) (hb : costsB C = false) :
    Calls Try.prog 26 #[.slice ao n c, .int .i64 z] w (fun e w' => e = .returned (.tuple #[.int .i64 0, .int .i64 1]) ∧ Below w.heap.size w w') := by
  have hH := Lib.hid h
  have hnH := Lib.hid hn
  have hbH := Lib.hid hb
  clear h hn hb
  go_enter Try.func26, Try.ntmps26
  go_wp2_with (go_at_call 48; (with_reducible refine (valid_any ao c n C false _ hH.out hnH.out hm hbH.out).mono ?_); rintro e w1 ⟨rfl, rfl⟩)
  go_ret2
  exact ⟨rfl, Below.refl _ _⟩
def CountPost (A : Nat → Nat → Bool) (n : Nat) (w : World) (e : Ending) (w' : World) : Prop := e = .returned (.tuple #[.int .i64 ((alwN A n).length : Nat), .int .i64 0]) ∧ Below w.heap.size w w'
set_option maxRecDepth 100000 in
theorem count_good (ao : Option Addr) (c n : Nat) (C : List (List Int)) (z : Int) (w : World) (h : IMx w ao C) (hg : goodC C) (hn : C.length = n) :
    Calls Try.prog 26 #[.slice ao n c, .int .i64 z] w (CountPost (upA C z) n w) := by
  have hn8 : n ≤ 8 := by rw [← hn]; exact hg.2.1
  have hn1 : 1 ≤ n := by rw [← hn]; exact hg.1
  obtain ⟨N, hN⟩ : ∃ N, 2 ^ n = N := ⟨_, rfl⟩
  have hN1 : 2 ≤ N := by rw [← hN]; exact Nat.pow_le_pow_right (n := 2) (by omega) hn1
  have hN0 : (0 : Int) < (N : Int) := by omega
  have hb := Lib.hid (show costsB C = true from decide_eq_true hg)
  have hH := Lib.hid h
  have hgH := Lib.hid hg
  have hnH := Lib.hid hn
  have hNH := Lib.hid hN
  have egH := Lib.hid eg_upTo
  clear h hg hn hN
  go_enter Try.func26, Try.ntmps26
  go_wp2_with (first
    | (go_at_call 48; (with_reducible refine (valid_any ao c n C true _ hH.out hnH.out (by omega) hb.out).mono ?_); rintro e w1 ⟨rfl, rfl⟩)
    | (go_at_call 60; go_loud (refine (upTo_any ao c n z _).mono ?_); rintro e w2 ⟨rfl, hb2, c1, c2⟩; have hAl := Lib.hid (upTo_at ao c n w.heap.size (w.heap.size + 1) C z w2 (hH.out.below hb2) hgH.out hnH.out c1 c2); have hb2H := Lib.hid hb2; clear hb2 c1 c2)
    | (go_at_call 59; go_loud (refine (counts_any (upA C z) n 83 #[ptr w.heap.size, ptr (w.heap.size + 1)] _ hn8 hn1 hAl.out egH.out).mono ?_); rintro e w3 ⟨g, rfl, hZ, hb3, hg1, hg2⟩; rw [hNH.out]; have k1 := hZ.at (i := 0) (by rw [tabW_len, hNH.out]; omega); rw [tabW_at (Nat.two_pow_pos n), wayT_zero] at k1; have hb3H := Lib.hid hb3; clear hZ hb3))
  go_ret2
  exact ⟨rfl, bseqJ hb2H.out hb3H.out⟩
end Go.Proofs.Yteiipfajoikfpaa

/- Walk of At. -/
namespace Go.Proofs.Yteiipfajoikfpaa
open Go Go.RowKit Go.Proofs

theorem at_bad (ao : Option Addr) (c n : Nat) (C : List (List Int)) (z r : Int) (w : World) (h : IMx w ao C) (hn : C.length = n) (hm : n ≤ 9223372036854775807) (hb : costsB C = false) :
    Calls Try.prog 27 #[.slice ao n c, .int .i64 z, .int .i64 r] w (fun e w' => e = .returned (.tuple #[.slice none 0 0, .int .i64 1]) ∧ Below w.heap.size w w') := by
  have hH := Lib.hid h
  have hnH := Lib.hid hn
  have hbH := Lib.hid hb
  clear h hn hb
  go_enter Try.func27, Try.ntmps27
  go_wp2_with (go_at_call 48; (with_reducible refine (valid_any ao c n C false _ hH.out hnH.out hm hbH.out).mono ?_); rintro e w1 ⟨rfl, rfl⟩)
  go_ret2
  exact ⟨rfl, Below.refl _ _⟩
set_option maxRecDepth 100000 in
theorem at_none (ao : Option Addr) (c n : Nat) (C : List (List Int)) (z r : Int) (w : World) (h : IMx w ao C) (hg : goodC C) (hn : C.length = n) (hr : r < 0 ∨ ((alwN (upA C z) n).length : Int) ≤ r) :
    Calls Try.prog 27 #[.slice ao n c, .int .i64 z, .int .i64 r] w (fun e w' => e = .returned (.tuple #[.slice none 0 0, .int .i64 5]) ∧ Below w.heap.size w w') := by
  have hn8 : n ≤ 8 := by rw [← hn]; exact hg.2.1
  have hn1 : 1 ≤ n := by rw [← hn]; exact hg.1
  obtain ⟨N, hN⟩ : ∃ N, 2 ^ n = N := ⟨_, rfl⟩
  have hN1 : 2 ≤ N := by rw [← hN]; exact Nat.pow_le_pow_right (n := 2) (by omega) hn1
  have hN0 : (0 : Int) < (N : Int) := by omega
  have hb := Lib.hid (show costsB C = true from decide_eq_true hg)
  obtain ⟨L, hL⟩ : ∃ L, (alwN (upA C z) n).length = L := ⟨_, rfl⟩
  rw [hL] at hr
  have hLH := Lib.hid hL
  have hH := Lib.hid h
  have hgH := Lib.hid hg
  have hnH := Lib.hid hn
  have hNH := Lib.hid hN
  have egH := Lib.hid eg_upTo
  clear h hg hn hN hL
  rcases Classical.em (r < 0) with hr0 | hr0
  · have hrb : decide (r < 0) = true := decide_eq_true hr0
    clear hr
    go_enter Try.func27, Try.ntmps27
    go_wp2_with (first
      | (go_at_call 48; (with_reducible refine (valid_any ao c n C true _ hH.out hnH.out (by omega) hb.out).mono ?_); rintro e w1 ⟨rfl, rfl⟩)
      | (go_at_call 60; go_loud (refine (upTo_any ao c n z _).mono ?_); rintro e w2 ⟨rfl, hb2, c1, c2⟩; have hAl := Lib.hid (upTo_at ao c n w.heap.size (w.heap.size + 1) C z w2 (hH.out.below hb2) hgH.out hnH.out c1 c2); have hb2H := Lib.hid hb2; clear hb2 c1 c2)
      | (go_at_call 59; go_loud (refine (counts_any (upA C z) n 83 #[ptr w.heap.size, ptr (w.heap.size + 1)] _ hn8 hn1 hAl.out egH.out).mono ?_); rintro e w3 ⟨g, rfl, hZ, hb3, hg1, hg2⟩; rw [hNH.out]; have k1 := hZ.at (i := 0) (by rw [tabW_len, hNH.out]; omega); rw [tabW_at (Nat.two_pow_pos n), wayT_zero, hLH.out] at k1; have hb3H := Lib.hid hb3; clear hZ hb3))
    go_ret2
    exact ⟨rfl, bseqJ hb2H.out hb3H.out⟩
  · have hrb : decide (r < 0) = false := decide_eq_false hr0
    have hr1 : (L : Int) ≤ r := by omega
    clear hr
    go_enter Try.func27, Try.ntmps27
    go_wp2_with (first
      | (go_at_call 48; (with_reducible refine (valid_any ao c n C true _ hH.out hnH.out (by omega) hb.out).mono ?_); rintro e w1 ⟨rfl, rfl⟩)
      | (go_at_call 60; go_loud (refine (upTo_any ao c n z _).mono ?_); rintro e w2 ⟨rfl, hb2, c1, c2⟩; have hAl := Lib.hid (upTo_at ao c n w.heap.size (w.heap.size + 1) C z w2 (hH.out.below hb2) hgH.out hnH.out c1 c2); have hb2H := Lib.hid hb2; clear hb2 c1 c2)
      | (go_at_call 59; go_loud (refine (counts_any (upA C z) n 83 #[ptr w.heap.size, ptr (w.heap.size + 1)] _ hn8 hn1 hAl.out egH.out).mono ?_); rintro e w3 ⟨g, rfl, hZ, hb3, hg1, hg2⟩; rw [hNH.out]; have k1 := hZ.at (i := 0) (by rw [tabW_len, hNH.out]; omega); rw [tabW_at (Nat.two_pow_pos n), wayT_zero, hLH.out] at k1; have hb3H := Lib.hid hb3; clear hZ hb3))
    go_ret2
    exact ⟨rfl, bseqJ hb2H.out hb3H.out⟩
def AtPost (A : Nat → Nat → Bool) (n R : Nat) (w : World) (e : Ending) (w' : World) : Prop :=
  ∃ (l : List Nat) (g o c : Nat), (alwN A n)[R]? = some l ∧ l.length = n ∧ e = .returned (.tuple #[.slice (some ⟨g, o, none⟩) n c, .int .i64 0]) ∧ n ≤ c ∧ IZ w' (some ⟨g, o, none⟩) (nz l) ∧ Below w.heap.size w w'
theorem AtI.tab {A : Nat → Nat → Bool} {n R m u k j : Nat} {f : List Nat} (h : AtI A n R (m + 1) u f k) (hj : j < n) (hjf : j ∉ f) : wayT A n (u ||| 2 ^ j) = (alw A n m (f ++ [j])).length :=
  wayT_bits (h.bits.snoc hj) (snoc_nodup h.nodup hjf) (snoc_lt h.lt hj) (by have := h.len; simp; omega)
set_option maxRecDepth 100000 in
set_option maxHeartbeats 12800000 in
theorem at_good (ao : Option Addr) (c n R : Nat) (C : List (List Int)) (z : Int) (w : World) (h : IMx w ao C) (hg : goodC C) (hn : C.length = n) (hR : R < (alwN (upA C z) n).length) :
    Calls Try.prog 27 #[.slice ao n c, .int .i64 z, .int .i64 (R : Nat)] w (AtPost (upA C z) n R w) := by
  have hn8 : n ≤ 8 := by rw [← hn]; exact hg.2.1
  have hn1 : 1 ≤ n := by rw [← hn]; exact hg.1
  obtain ⟨N, hN⟩ : ∃ N, 2 ^ n = N := ⟨_, rfl⟩
  have hN1 : 2 ≤ N := by rw [← hN]; exact Nat.pow_le_pow_right (n := 2) (by omega) hn1
  have hN2 : N ≤ 256 := by rw [← hN]; exact Nat.pow_le_pow_right (n := 2) (by omega) hn8
  have hN0 : (0 : Int) < (N : Int) := by omega
  have hb := Lib.hid (show costsB C = true from decide_eq_true hg)
  have hI := Lib.hid (AtI.start hR)
  obtain ⟨L, hL⟩ : ∃ L, (alwN (upA C z) n).length = L := ⟨_, rfl⟩
  rw [hL] at hR
  have hLH := Lib.hid hL
  have hH := Lib.hid h
  have hgH := Lib.hid hg
  have hnH := Lib.hid hn
  have hNH := Lib.hid hN
  have egH := Lib.hid eg_upTo
  have hrb : decide ((R : Int) < 0) = false := decide_eq_false (by omega)
  have hr1 : ¬ (L : Int) ≤ (R : Int) := by omega
  have hr2 : decide (L ≤ R) = false := decide_eq_false (by omega)
  have hr3 : decide ((L : Int) ≤ (R : Int)) = false := decide_eq_false (by omega)
  clear h hg hn hN hL
  go_enter Try.func27, Try.ntmps27
  go_upto_region 6 with (first
    | (go_at_call 48; (with_reducible refine (valid_any ao c n C true _ hH.out hnH.out (by omega) hb.out).mono ?_); rintro e w1 ⟨rfl, rfl⟩)
    | (go_at_call 60; go_loud (refine (upTo_any ao c n z _).mono ?_); rintro e w2 ⟨rfl, hb2, c1, c2⟩; have hAl := Lib.hid (upTo_at ao c n w.heap.size (w.heap.size + 1) C z w2 (hH.out.below hb2) hgH.out hnH.out c1 c2); have hb2H := Lib.hid hb2; clear hb2 c1 c2)
    | (go_at_call 59; go_loud (refine (counts_any (upA C z) n 83 #[ptr w.heap.size, ptr (w.heap.size + 1)] _ hn8 hn1 hAl.out egH.out).mono ?_); rintro e w3 ⟨g, rfl, hZ, hb3, hg1, hg2⟩; rw [hNH.out]; have k1 := hZ.at (i := 0) (by rw [tabW_len, hNH.out]; omega); rw [tabW_at (Nat.two_pow_pos n), wayT_zero, hLH.out] at k1; have hb3H := Lib.hid hb3; have hZH := Lib.hid hZ; have hM3 := Lib.hid (hH.out.below (bseqJ hb2H.out hb3)); clear hZ hb3))
  clear k1 hr1 hrb
  obtain ⟨A, hA⟩ : ∃ A, upA C z = A := ⟨_, rfl⟩
  rw [hA] at hI ⊢ hZH
  have hAH := Lib.hid hA
  clear hA hAl
  go_wp2_with (fail)
  go_loopg [2, 9, 10, 34] n (fun gk rv ov uv iv wr => ∃ (i k u m : Nat) (f : List Nat) (v : Value), rv = .int .i64 (k : Nat) ∧ v = ov ∧ uv = .int .i64 (u : Nat) ∧ iv = .int .i64 (i : Nat) ∧ i + gk = n ∧ f.length = i ∧ AtI A n R m u f k ∧ ZE wr w3.heap.size v (nz f) ∧ Below w3.heap.size w3 wr)
  case atStart => exact ⟨0, R, 0, n, [], _, rfl, rfl, rfl, rfl, by omega, rfl, hI.out, ZE.nil _ _, Below.refl _ _⟩
  case round =>
    obtain ⟨i, k, u, m, f, v, rfl, rfl, rfl, rfl, hi, hfl, hAt, hZo, hbl⟩ := hrel
    have hAtH := Lib.hid hAt
    have hZoH := Lib.hid hZo
    have hblH := Lib.hid hbl
    have hflH := Lib.hid hfl
    by_cases hin : i < n
    · obtain ⟨g1, rfl⟩ : ∃ g1, gk = g1 + 1 := ⟨gk - 1, by omega⟩
      obtain ⟨m, rfl⟩ : ∃ m', m = m' + 1 := ⟨m - 1, by have := hAt.len; omega⟩
      clear hZo hbl hfl
      have hiI : (i : Int) < (n : Int) := by omega
      have hi0 : (0 : Int) ≤ (i : Int) := by omega
      have hiH := Lib.hid hi
      clear hAt
      go_wp2_with (fail)
      go_loopg [2, 9, 10, 39] n (fun gj rv ov uv jv wx => ∃ (j k : Nat), rv = .int .i64 (k : Nat) ∧ v = ov ∧ uv = .int .i64 (u : Nat) ∧ jv = .int .i64 (j : Nat) ∧ j + gj = n ∧ AtI A n R (m + 1) u f (k + (alwU A n m f j).length) ∧ wx = wr)
      case atStart => exact ⟨0, k, rfl, rfl, rfl, rfl, by omega, by rw [alwU_zero]; exact hAtH.out, rfl⟩
      case round =>
        clear hAtH
        obtain ⟨j, k, rfl, rfl, rfl, rfl, hj, hAt, rfl⟩ := hrel
        have hAtH := Lib.hid hAt
        by_cases hjn : j < n
        · obtain ⟨g2, rfl⟩ : ∃ g2, gk = g2 + 1 := ⟨gk - 1, by omega⟩
          have hjI : (j : Int) < (n : Int) := by omega
          have hj0 : (0 : Int) ≤ (j : Int) := by omega
          have hj64 : (j : Int) < 64 := by omega
          have hu : u < N := by rw [← hNH.out]; exact hAt.bits.1
          have hkbd : k ≤ 16777216 := by
            have h1 := hAt.less
            rw [alw_len A n (m + 1) u f hAt.len hAt.bits] at h1
            have h2 := wayM_small (A := A) (n := n) (m := m + 1) (u := u) hn8 (by have := hAt.len; omega)
            omega
          have hbit := bit_at u j (by omega)
          by_cases hjf : j ∈ f
          · have hbit1 : bits .and .i64 ((u : Int) / 2 ^ j) 1 = 1 := by rw [hbit, (hAt.bits.2 j hjn).2 hjf]; rfl
            have hjfH := Lib.hid hjf
            clear hbit hjf hAt
            go_wp2_with (fail)
            go_roundg g2
            case measure => omega
            case rel => exact ⟨j + 1, k, rfl, rfl, rfl, by go_num, by omega, by rw [alwU_skip A n m f j (.inl hjfH.out)]; exact hAtH.out, rfl⟩
          · have htb : u.testBit j = false := by rw [← Bool.not_eq_true, hAt.bits.2 j hjn]; exact hjf
            have hbit1 : bits .and .i64 ((u : Int) / 2 ^ j) 1 = 0 := by rw [hbit, htb]; rfl
            have hjfH := Lib.hid hjf
            obtain ⟨b5, o3, b4, o4, c4, hao, e1, hc4, e2, q0, q1⟩ := (hM3.out.below hblH.out).cost hgH.out hnH.out hin hjn
            subst hao
            obtain ⟨x, hx⟩ : ∃ x, cst C i j = x := ⟨_, rfl⟩
            rw [hx] at e2
            have hAx : Hid (A i j = decide (x ≤ z)) := by show _ = _; rw [← hAH.out, ← hx]; rfl
            clear hbit hjf hAt hx q0 q1
            by_cases hxz : x ≤ z
            · have hA1 : Hid (A f.length j = true) := by show _ = _; rw [hflH.out, hAx.out]; exact decide_eq_true hxz
              have hxz2 : ¬ x > z := by omega
              have hpw := pow_in j (by omega)
              have hor := or_bit u j (by omega) (by omega)
              have hol := or_lt (u := u) (j := j) (n := n) (by rw [hNH.out]; exact hu) hjn
              rw [hNH.out] at hol
              have c2 := (hZH.out : ZBlk w3 g (tabW A n)).at (i := u ||| 2 ^ j) (by rw [tabW_len, hNH.out]; exact hol)
              rw [tabW_at (by rw [hNH.out]; exact hol), hAtH.out.tab hjn hjfH.out] at c2
              have c3 : wr.cell? ⟨g, u ||| 2 ^ j, none⟩ = _ := (Below.cellAt hblH.out (Nat.le_refl _) c2)
              obtain ⟨o, ho⟩ : ∃ o, u ||| 2 ^ j = o := ⟨_, rfl⟩
              have hoH := Lib.hid ho
              rw [ho] at hor hol c3
              obtain ⟨y, hy⟩ : ∃ y, (alw A n m (f ++ [j])).length = y := ⟨_, rfl⟩
              rw [hy] at c3
              have hyH := Lib.hid hy
              have htk : Hid ((alwU A n m f (j + 1)).length = (alwU A n m f j).length + y) := by show _ = _; rw [alwU_take A n m f j hjfH.out hA1.out, List.length_append, hy]
              have hlt2 : (o : Int) < (N : Int) := by omega
              have ho0 : 0 ≤ (o : Int) := by omega
              have hyb : y ≤ 16777216 := by rw [← hy, alw_len A n m (u ||| 2 ^ j) (f ++ [j]) (by have := hAtH.out.len; simp; omega) (hAtH.out.bits.snoc hjn)]; exact wayM_small hn8 (by have := hAtH.out.len; omega)
              clear c2 ho hy
              by_cases hky : y ≤ k
              · have hkyI : (y : Int) ≤ (k : Int) := by omega
                have hkb : (k : Int) - (y : Int) = ((k - y : Nat) : Int) := by omega
                go_wp2_with (fail)
                go_roundg g2
                case measure => omega
                case rel => exact ⟨j + 1, k - y, by go_num, rfl, rfl, by go_num, by omega, by have h9 := hAtH.out; rwa [show k + (alwU A n m f j).length = k - y + (alwU A n m f (j + 1)).length by rw [htk.out]; omega] at h9, rfl⟩
              · have hkyI : ¬ (y : Int) ≤ (k : Int) := by omega
                obtain ⟨av, cv, hv⟩ := hZoH.out.shape
                rw [nz_length, hflH.out] at hv
                subst hv
                have hlz : Hid ((nz f).length = i) := by show _ = _; rw [nz_length, hflH.out]
                have hbs3 : w3.heap.size ≤ wr.heap.size := hblH.out.size
                go_wp2_with (first
                  | (at_builtin; go_loud (refine wpList_append_ze _ rfl (.tmp 71) (.tmp 73) _ rfl Try.underlying24 w3.heap.size i (.slice av i cv) (nz f) (by rfl) (hZoH.out.alJ _) hlz.out _ 1 1 [(j : Int)] (by rfl) (IZ.one (by simp)) rfl (by omega) (by omega) (by simp; omega) ?_); intro v2 w4 hA4; rw [nz_snoc] at hA4; have hA4H := Lib.hid hA4; clear hA4))
                go_roundg g1
                case measure => omega
                case rel => exact ⟨i + 1, k, o, m, f ++ [j], v2, rfl, rfl, rfl, by go_num, by omega, by rw [List.length_append, hflH.out]; rfl, by rw [← hoH.out]; exact hAtH.out.take hjn hjfH.out hA1.out (by rw [hyH.out]; omega), hA4H.out.1, (below_al hblH.out _).trans hA4H.out.2.1⟩
            · have hA0 : Hid (A f.length j = false) := by show _ = _; rw [hflH.out, hAx.out]; exact decide_eq_false hxz
              have hxz2 : x > z := by omega
              go_wp2_with (fail)
              go_roundg g2
              case measure => omega
              case rel => exact ⟨j + 1, k, rfl, rfl, rfl, by go_num, by omega, by rw [alwU_skip A n m f j (.inr hA0.out)]; exact hAtH.out, rfl⟩
        · have hje : j = n := by omega
          subst hje
          have := hAt.less
          rw [alw_succ] at this
          omega
    · have hie : i = n := by omega
      subst hie
      obtain ⟨g9, c9, hv⟩ := hZo.some (fun e => by have := congrArg List.length e; rw [nz_length, hfl] at this; simp at this; omega)
      rw [nz_length, hfl] at hv
      subst hv
      have hm0 : m = 0 := by have := hAt.len; omega
      subst hm0
      clear hAt hZo hbl hfl
      go_wp2_with (fail)
      go_ret2
      have h1 := hZoH.out.iz
      exact ⟨f, g9, 0, c9, by rw [hAH.out]; exact hAtH.out.done, hflH.out, rfl, h1.2, h1.1, bseqJ hb2H.out (bseqJ hb3H.out hblH.out)⟩
end Go.Proofs.Yteiipfajoikfpaa
