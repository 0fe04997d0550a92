/- Ib -/
import Derived.Test.YtbehfhmdilifkaaQIa
set_option linter.unusedVariables false
/- Walk of the law TeethOstrowski. -/
namespace Go.Proofs.Ytbehfhmdilifkaa
open Go Go.RowKit Go.Proofs

theorem qGoZ_small : ∀ {T : List Nat} {last q : Nat}, (∀ a ∈ T, 1 ≤ a ∧ a ≤ 5) → last ≤ q → q * 6 ^ T.length ≤ 1000000000 → ∃ R, qGoZ last q (zN T) = some R
  | [], _, _, _, _, _ => ⟨[], rfl⟩
  | a :: T, last, q, h, hl, hb => by
    have ha := h a (by simp)
    have h1 : a * q + last ≤ q * 6 := by
      have h2 : a * q ≤ 5 * q := Nat.mul_le_mul_right q ha.2
      omega
    have h3 : (a * q + last) * 6 ^ T.length ≤ 1000000000 := by
      refine Nat.le_trans (Nat.mul_le_mul_right _ h1) ?_
      rw [List.length_cons, Nat.pow_succ, Nat.mul_comm (6 ^ T.length) 6, ← Nat.mul_assoc] at hb
      exact hb
    have h4 : q ≤ a * q + last := by
      have h2 : 1 * q ≤ a * q := Nat.mul_le_mul_right q ha.1
      omega
    have h5 : a * q + last ≤ 1000000000 := Nat.le_trans (Nat.le_mul_of_pos_right _ (Nat.pow_pos (by omega))) h3
    obtain ⟨R, hR⟩ := qGoZ_small (T := T) (last := q) (q := a * q + last) (fun b hb => h b (List.mem_cons_of_mem _ hb)) h4 h3
    refine ⟨(a * q + last) :: R, ?_⟩
    show qGoZ last q ((a : Int) :: zN T) = _
    simp only [qGoZ]
    rw [if_pos (show (1 : Int) ≤ (a : Int) ∧ (a : Int) ≤ 1000000 by omega), Int.toNat_natCast, if_pos h5, hR]
    rfl
/-- What holds of the law's terms and numbers. -/
structure OstI (T Q : List Nat) (nn t v : Nat) : Prop where
  den : den (0 :: zN T) = some Q
  len : Q.length = T.length + 1
  top : topQ Q = t
  lt : v < t
  le : t ≤ 1000000000
  vn : nn % t = v
  val : VY (tnX (0 :: zN T)) (zN (dgF Q v))
  sum : sumQ Q (dgF Q v) = v
  lex : ∀ {u : Nat}, v + 1 = u → u < t → lexL (dgF Q v).reverse (dgF Q u).reverse = true
theorem ost_all {T : List Nat} {nn : Nat} (h1 : 1 ≤ T.length) (h11 : T.length ≤ 11) (h5 : ∀ a ∈ T, 1 ≤ a ∧ a ≤ 5) : ∃ Q t v, OstI T Q nn t v := by
  obtain ⟨R, hR⟩ := qGoZ_small (last := 0) (q := 1) h5 (by omega) (by
    have h2 : 6 ^ T.length ≤ 6 ^ 11 := Nat.pow_le_pow_right (by omega) h11
    have e : (6 : Nat) ^ 11 = 362797056 := rfl
    omega)
  have hzl : (zN T).length = T.length := by simp [zN]
  have hden : den (0 :: zN T) = some (1 :: R) := by
    rw [den_yes ⟨by simp [hzl]; omega, by simp [hzl]; omega, by simp, by simp⟩]
    show (qGoZ 0 1 (zN T)).map _ = _
    rw [hR]; rfl
  obtain ⟨Q, hQ⟩ : ∃ Q, 1 :: R = Q := ⟨_, rfl⟩
  rw [hQ] at hden
  obtain ⟨T', hT', hC, _, _, hQl⟩ := den_some hden
  have hTT : T' = T := by
    have h6 := congrArg (List.map Int.toNat) hT'
    simp only [List.tail_cons] at h6
    unfold zN at h6
    simpa [List.map_map, Function.comp_def] using h6.symm
  subst hTT
  have hlen : Q.length = T'.length + 1 := by rw [hQl]; simp [hzl]
  have htn : tnX (0 :: zN T') = T' := tnX_of hT'
  obtain ⟨q, l, hq⟩ : ∃ q l, Q.reverse = q :: l := by
    rcases h : Q.reverse with _ | ⟨q, l⟩
    · have h2 : Q.reverse.length = T'.length + 1 := by simp; omega
      rw [h] at h2; simp at h2
    · exact ⟨q, l, rfl⟩
  have hQe : Q = l.reverse ++ [q] := by
    have := congrArg List.reverse hq
    rw [List.reverse_reverse] at this
    rw [this]; simp
  have htop : topQ Q = q := by unfold topQ; rw [hQe]; simp [List.getD]
  have hq1 : 1 ≤ q := hC.pos q (by rw [hq]; simp)
  have hv : nn % q < q := Nat.mod_lt _ hq1
  have hval := dgR_val hC hq hv
  have hdg : ∀ n, dgF Q n = (dgR l n).reverse := fun n => by unfold dgF; rw [hq]; rfl
  have hsl : (Q.take T'.length).reverse = l := by
    have h2 : T'.length = l.reverse.length := by
      have := congrArg List.length hQe
      simp at this ⊢; omega
    rw [hQe, h2, List.take_left, List.reverse_reverse]
  refine ⟨Q, q, nn % q, hden, hlen, htop, hv, den_le hden q (by rw [hQe]; simp), rfl, ?_, ?_, ?_⟩
  · rw [htn]
    exact ⟨_, rfl, by rw [hdg, List.reverse_reverse]; exact hval⟩
  · unfold sumQ
    have h3 : (dgF Q (nn % q)).length = T'.length := by rw [dgF_length, hlen]; rfl
    rw [h3, hsl, hdg, List.reverse_reverse]
    exact nbR_dgR hC hq hv
  · intro u hu hut
    rw [hdg, hdg, List.reverse_reverse, List.reverse_reverse]
    exact dgR_lex hC hq (by omega) hut
theorem lex_step {F G : List Nat} {j i : Nat} (hF : i + j + 1 = F.length) (hG : i + j + 1 = G.length) (h : lexL (F.reverse.drop j) (G.reverse.drop j) = true) : (F.getD i 0 ≠ G.getD i 0 → F.getD i 0 < G.getD i 0) ∧ (F.getD i 0 = G.getD i 0 → lexL (F.reverse.drop (j + 1)) (G.reverse.drop (j + 1)) = true) := by
  have hj1 : j < F.reverse.length := by simp; omega
  have hj2 : j < G.reverse.length := by simp; omega
  have e1 : F.reverse[j] = F.getD i 0 := by
    have hi : i < F.length := by omega
    rw [List.getElem_reverse, List.getD, List.getElem?_eq_getElem hi, Option.getD_some]
    congr 1; omega
  have e2 : G.reverse[j] = G.getD i 0 := by
    have hi : i < G.length := by omega
    rw [List.getElem_reverse, List.getD, List.getElem?_eq_getElem hi, Option.getD_some]
    congr 1; omega
  rw [List.drop_eq_getElem_cons hj1, List.drop_eq_getElem_cons hj2, e1, e2] at h
  simp only [lexL, Bool.or_eq_true, decide_eq_true_eq, Bool.and_eq_true] at h
  refine ⟨fun hne => ?_, fun he => ?_⟩
  · rcases h with h | h
    · exact h
    · exact absurd h.1 hne
  · rcases h with h | h
    · omega
    · exact h.2
section
attribute [local go_sem] undef
set_option maxRecDepth 100000 in
set_option maxHeartbeats 25600000 in
theorem ostLaw_any (a0 : Option Addr) (len cap nn : Nat) (xs : List Nat) (w : World) (hl : xs.length = len) (hI : Dg .u8 w a0 xs) (hm : len ≤ 9223372036854775807) (hx : ∀ x ∈ xs, x < 256) (hnn : nn < 4294967296) :
    Calls Try.prog 20 #[.slice a0 len cap, .int .u32 (nn : Nat)] w (RetB w true) := by
  have hlH := Lib.hid hl
  have hIH := Lib.hid hI
  have hxH := Lib.hid hx
  clear hl hI hx
  go_enter Try.func20, Try.ntmps20
  go_wp2_with (fail)
  go_loopg [5, 6] 11 (fun gk tv iv wr => ∃ (i : Nat) (T : List Nat) (v : Value), v = tv ∧ iv = .int .i64 (i : Nat) ∧ i + gk = 11 ∧ T.length = i ∧ (∀ a ∈ T, 1 ≤ a ∧ a ≤ 5) ∧ ZE wr w.heap.size v (0 :: zN T) ∧ Below w.heap.size w wr)
  case atStart => exact ⟨0, [], _, rfl, rfl, rfl, rfl, fun a ha => by simp at ha, .inl (zi_lit1 _ 0 _ (Nat.le_refl _)), below_al (Below.refl _ _) _⟩
  case round =>
    obtain ⟨i, T, v, rfl, rfl, hig, hTi, hT5, hZ, hbl⟩ := hrel
    obtain ⟨g, cc, hv⟩ := hZ.some (by simp)
    have hzl : (0 :: zN T).length = i + 1 := by simp [zN, hTi]
    rw [hzl] at hv
    subst hv
    obtain ⟨i1, hi1⟩ : ∃ i1, i + 1 = i1 := ⟨_, rfl⟩
    rw [hi1] at hZ
    rw [hi1]
    have hi1H := Lib.hid hi1
    have hi1l : i1 ≤ 12 := by omega
    by_cases h1 : i < len
    · have h1I : (i : Int) < (len : Int) := by omega
      by_cases h2 : i1 < 12
      · have h2I : (i1 : Int) < 12 := by omega
        obtain ⟨x, hx⟩ : ∃ x, xs[i]? = some x := ⟨_, List.getElem?_eq_getElem (by rw [hlH.out]; exact h1)⟩
        obtain ⟨b, o, rfl, c0⟩ := (hIH.out i x hx)
        have c1 := Below.cellAt hbl (Nat.le_refl _) c0
        have hx256 := hxH.out x (List.mem_of_getElem? hx)
        obtain ⟨r, hr⟩ : ∃ r, x % 5 = r := ⟨_, rfl⟩
        have hr5 : r < 5 := by omega
        have t1 : (x : Int).tmod 5 = (r : Int) := by rw [← hr]; exact (Int.ofNat_tmod x 5).symm
        have t2 : (x : Int) % 5 = (r : Int) := by rw [← hr]; exact (Int.natCast_emod x 5).symm
        obtain ⟨a, ha⟩ : ∃ a, r + 1 = a := ⟨_, rfl⟩
        have haI : (r : Int) + 1 = (a : Int) := by omega
        have hal : a ≤ 5 := by omega
        have hi0 : (0 : Int) ≤ (i : Int) := by omega
        have hil : i < 11 := by omega
        have hZH := Lib.hid hZ
        have hblH := Lib.hid hbl
        have hbs := hbl.size
        have hzl2 : Hid ((0 :: zN T).length = i1) := by show _ = _; rw [hzl]; exact hi1
        have hT5n : Hid (∀ b ∈ T ++ [a], 1 ≤ b ∧ b ≤ 5) := fun b hb => by
          rcases List.mem_append.1 hb with h | h
          · exact hT5 b h
          · simp at h; omega
        have hTl2 : Hid ((T ++ [a]).length = i + 1) := by show _ = _; rw [List.length_append, hTi]; rfl
        have hsn : Hid ((0 :: zN T) ++ [(a : Int)] = 0 :: zN (T ++ [a])) := by show _ = _; simp [zN]
        clear hZ hbl hx hr c0 ha hzl hT5 hTi hi1
        go_wp2_with (first
          | (at_builtin; go_loud (refine wpList_append_ze _ rfl (.tmp 30) (.tmp 38) _ rfl Try.underlying22 w.heap.size i1 (.slice (some ⟨g, 0, none⟩) i1 cc) (0 :: zN T) (by rfl) (hZH.out.below (below_al (Below.refl _ _) _)) hzl2.out _ 1 1 [(a : Int)] (by rfl) (IZ.one (by simp)) rfl (by omega) (by omega) (by simp; omega) ?_); intro v2 w4 hA4; rw [hsn.out] at hA4; have hA4H := Lib.hid hA4; clear hA4))
        go_roundg (gk - 1)
        case measure => omega
        case rel => exact ⟨i + 1, T ++ [a], v2, rfl, by have := hi1H.out; go_num, by have := hi1H.out; omega, hTl2.out, hT5n.out, hA4H.out.1, (below_al hblH.out _).trans hA4H.out.2.1⟩
      · have h2I : ¬ (i1 : Int) < 12 := by omega
        have hT1 : 1 ≤ T.length := by omega
        have hTl : T.length ≤ 11 := by omega
        have hZ := Lib.hid hZ
        have hbl := Lib.hid hbl
        have hii : i1 = T.length + 1 := by omega
        subst hii
        clear hi1 hi1H hzl hi1l
        obtain ⟨Q, t, v, hO⟩ := ost_all (T := T) (nn := nn) hT1 hTl hT5
        have hOH := Lib.hid hO
        have hden := hO.den
        obtain ⟨K, hK⟩ : ∃ K, T.length = K := ⟨_, rfl⟩
        have hK1 : 1 ≤ K := by omega
        have hK11 : K ≤ 11 := by omega
        have hQK : Q.length = K + 1 := by rw [hO.len, hK]
        have htop := hO.top
        have hvt := hO.lt
        have ht1 : 1 ≤ t := by omega
        have htl := hO.le
        obtain ⟨N, hNK⟩ : ∃ N, K + 1 = N := ⟨_, rfl⟩
        have hN : (0 :: zN T).length = N := by simp [zN, hK, hNK]
        rw [hNK] at hQK
        rw [hK, hNK] at hZ
        rw [hK, hNK]
        have hKN : (N : Int) - 1 = (K : Int) := by omega
        have hNl : N ≤ 12 := by omega
        have hKI : (K : Int) < (N : Int) := by omega
        have hK0 : (0 : Int) ≤ (K : Int) := by omega
        have hN2 : ¬ (N : Int) < 2 := by omega
        have hKN2 : K < N := by omega
        have hN12 : ¬ (N : Int) < 12 := by omega
        have htK : Q.getD K 0 = t := by
          have := htop
          unfold topQ at this
          rw [hQK, show N - 1 = K by omega] at this
          exact this
        have hQK2 : Q.length = K + 1 := by omega
        have hnum := Lib.hid (fun a c W hI hc => (numR_any a N c (0 :: zN T) W hI hN hc).mono fun e w' h => h.yes hden hQK)
        have hdig := Lib.hid (fun a c W hI hc => (digsP_any a N c (0 :: zN T) (v : Int) W hI hN hc).mono fun e w' h => h.in (Q := Q) (K := K) hden hQK2 (by rw [htop]; exact hvt))
        obtain ⟨F, hF⟩ : ∃ F, dgF Q v = F := ⟨_, rfl⟩
        have hFl : F.length = K := by rw [← hF, dgF_length, hQK2]; rfl
        rw [hF] at hdig
        have hnb := Lib.hid (fun a c b c2 W hI hc hJ => (numP_any a b N c K c2 (0 :: zN T) (zN F) W hI hN hc hJ (by simp [zN, hFl]) (by omega)).mono fun e w' h => h.good (Q := Q) (C := F) hden (by have := hO.val; rw [hF] at this; exact this) rfl)
        have hsum : sumQ Q F = v := by rw [← hF]; exact hO.sum
        rw [hsum] at hnb
        have t1 : (nn : Int).tmod (t : Int) = (v : Int) := by rw [← hO.vn]; exact (Int.ofNat_tmod nn t).symm
        have t2 : (nn : Int) % (t : Int) = (v : Int) := by rw [← hO.vn]; exact (Int.natCast_emod nn t).symm
        have f1 : ¬ (t : Int) = 0 := by omega
        have f2 : ((t : Int) == 0) = false := by simp; omega
        have eK : ((K : Int) != (K : Int)) = false := by simp
        have ev : ((v : Int) != (v : Int)) = false := by simp
        obtain ⟨u, hu⟩ : ∃ u, v + 1 = u := ⟨_, rfl⟩
        have huI : (v : Int) + 1 = (u : Int) := by omega
        have hvl : v ≤ 1000000000 := by omega
        have hul : u ≤ 1000000000 := by omega
        have htKH := Lib.hid htK
        have hQH := Lib.hid hQK
        have hZ0 := hZ.out.iz
        have hIt := Lib.hid hZ0.1
        have hct := hZ0.2
        have hFH := Lib.hid hF
        have hNH := Lib.hid hNK
        have hFlH := Lib.hid hFl
        have hdig20 := fun a c W (hI : IZ W a (0 :: zN T)) (hc : N ≤ c) => digsP_any a N c (0 :: zN T) (u : Int) W hI hN hc
        have hden2 := Lib.hid hden
        have htop2 := Lib.hid htop
        have hQK3 := Lib.hid hQK2
        have huH := Lib.hid hu
        clear hO hden hK hQK htop hN hNK htK hQK2 hF hFl hsum hu hT1 hTl hT5 hZ hZ0
        go_upto_region 11 with (first
          | (go_at_call 47; (with_reducible refine (hnum.out _ _ _ hIt.out hct).mono ?_); rintro e w2 ⟨g2, c2, rfl, hI, hb⟩; have hI2 := Lib.hid hI; have hb2 := Lib.hid hb; clear hI hb))
        have c1 := iz_nat (i := K) hI2.out (by rw [hQH.out]; exact hKN2) htKH.out
        rw [Nat.zero_add] at c1
        go_upto_region 19 with (first
          | (go_at_call 46; (with_reducible refine (hdig.out _ _ _ (hIt.out.below hb2.out) hct).mono ?_); rintro e w3 ⟨g3, rfl, hI, hb⟩; have hI3 := Lib.hid hI; have hb3 := Lib.hid hb; clear hI hb)
          | (go_at_call 23; (with_reducible refine (lives_any _).mono ?_); rintro e w4 ⟨rfl, hb⟩; have hb4 := Lib.hid hb; clear hb)
          | (go_at_call 49; (with_reducible refine (hnb.out _ _ _ _ _ (hIt.out.below (bseqT hb2.out (bseqT hb3.out hb4.out))) hct (hI3.out.below hb4.out)).mono ?_); rintro e w5 ⟨rfl, hb⟩; have hb5 := Lib.hid hb; clear hb))
        have hb25 := Lib.hid (bseqT hb2.out (bseqT hb3.out (bseqT hb4.out hb5.out)))
        have hb35 := Lib.hid (bseqT hb4.out hb5.out)
        clear c1 hnum hdig hnb hI2 hb2 hb3 hb4 hb5
        by_cases hut : u = t
        · have eut : ((u : Int) == (t : Int)) = true := by simp; omega
          have hdig2 := Lib.hid (fun a c W hI hc => (hdig20 a c W hI hc).mono fun e w' h => h.out hden2.out (.inr (by rw [htop2.out]; omega)))
          subst hut
          clear hdig20
          go_wp2_with (first
            | (go_at_call 46; (with_reducible refine (hdig2.out _ _ _ (hIt.out.below hb25.out) hct).mono ?_); rintro e w6 ⟨rfl, hb⟩; have hb6 := Lib.hid hb; clear hb))
          go_ret
          exact ⟨rfl, bseqT hbl.out (bseqT hb25.out hb6.out)⟩
        · have eut : ((u : Int) == (t : Int)) = false := by simp; omega
          have eut2 : ¬ (u : Int) = (t : Int) := by omega
          obtain ⟨G, hG⟩ : ∃ G, dgF Q u = G := ⟨_, rfl⟩
          have hGl : Hid (G.length = K) := by show _ = _; rw [← hG, dgF_length, hQK3.out]; rfl
          have hdig2 := Lib.hid (fun a c W hI hc => (hdig20 a c W hI hc).mono fun e w' h => h.in hden2.out hQK3.out (by rw [htop2.out]; omega))
          rw [hG] at hdig2
          have hlex : Hid (lexL F.reverse G.reverse = true) := by
            show _ = _
            have := hOH.out.lex (u := u) huH.out (by omega)
            rw [hFH.out, hG] at this
            exact this
          clear hdig20 hG
          go_wp2_with (first
            | (go_at_call 46; (with_reducible refine (hdig2.out _ _ _ (hIt.out.below hb25.out) hct).mono ?_); rintro e w6 ⟨g6, rfl, hI, hb⟩; have hI6 := Lib.hid hI; have hb6 := Lib.hid hb; clear hI hb))
          go_loopg [17] K (fun gk iv wr => ∃ (j : Nat) (i : Int), iv = .int .i64 i ∧ i + j + 1 = K ∧ j + gk = K ∧ lexL (F.reverse.drop j) (G.reverse.drop j) = true ∧ Below w6.heap.size w6 wr)
          case atStart => exact ⟨0, (K : Int) - 1, by rfl, by omega, by omega, hlex.out, Below.refl _ _⟩
          case round =>
            clear hlex
            obtain ⟨j, iz, rfl, hij, hjg, hlx, hbw⟩ := hrel
            have hbwH := Lib.hid hbw
            clear hbw
            have hjK : j < K := by
              rcases Nat.lt_or_ge j K with h | h
              · exact h
              · exfalso
                rw [List.drop_eq_nil_of_le (by rw [List.length_reverse, hFlH.out]; omega)] at hlx
                simp [lexL] at hlx
            obtain ⟨i, rfl⟩ : ∃ i : Nat, iz = (i : Int) := ⟨iz.toNat, by omega⟩
            have hi0 : (0 : Int) ≤ (i : Int) := by omega
            have hiK : (i : Int) < (K : Int) := by omega
            have hil : i ≤ 11 := by omega
            obtain ⟨x, hx⟩ : ∃ x, F.getD i 0 = x := ⟨_, rfl⟩
            obtain ⟨y, hy⟩ : ∃ y, G.getD i 0 = y := ⟨_, rfl⟩
            have c1 := iz_nat (i := i) ((hI3.out.below hb35.out).below (bseqT hb6.out hbwH.out)) (by rw [hFlH.out]; omega) hx
            have c2 := iz_nat (i := i) (hI6.out.below hbwH.out) (by rw [hGl.out]; omega) hy
            rw [Nat.zero_add] at c1 c2
            have hst := lex_step (F := F) (G := G) (j := j) (i := i) (by rw [hFlH.out]; omega) (by rw [hGl.out]; omega) hlx
            rw [hx, hy] at hst
            have hstH := Lib.hid hst
            have hijH : Hid ((i : Int) + j + 1 = K) := hij
            clear hst hlx hx hy hij
            by_cases hxy : x = y
            · have exy : ((x : Int) != (y : Int)) = false := by simp; omega
              have hnx := Lib.hid (hstH.out.2 hxy)
              subst hxy
              have exx : ((x : Int) != (x : Int)) = false := by simp
              clear hstH
              go_wp2_with (fail)
              go_quiet (fail)
              go_wp2_with (fail)
              go_roundg (gk - 1)
              case measure => omega
              case rel => exact ⟨j + 1, (i : Int) - 1, by go_num, by have := hijH.out; omega, by omega, hnx.out, bdn hbwH.out⟩
            · have exy : ((x : Int) != (y : Int)) = true := by simp; omega
              have exy2 : ¬ (x : Int) = (y : Int) := by omega
              have hlt := hstH.out.1 hxy
              have hltI : decide ((x : Int) < (y : Int)) = true := decide_eq_true (by omega)
              have hltN : decide (x < y) = true := decide_eq_true hlt
              clear hstH
              go_wp2_with (fail)
              go_quiet (fail)
              go_wp2_with (fail)
              have d1 : ∀ nq, (wr.drewN nq).cell? ⟨g3, i, none⟩ = some (.int .i64 (x : Nat)) := fun nq => Below.cellAt (bdn (Below.refl _ _)) (Nat.le_refl _) c1
              have d2 : ∀ nq, (wr.drewN nq).cell? ⟨g6, i, none⟩ = some (.int .i64 (y : Nat)) := fun nq => Below.cellAt (bdn (Below.refl _ _)) (Nat.le_refl _) c2
              obtain ⟨W7, hW7⟩ : ∃ W7, W7 = wr.drewN nq := ⟨_, rfl⟩
              rw [← hW7]
              have d3 := d1 nq
              have d4 := d2 nq
              rw [← hW7] at d3 d4
              have hb7 : Hid (Below w6.heap.size w6 W7) := by show Below _ _ _; rw [hW7]; exact bdn hbwH.out
              clear hW7 d1 d2 c1 c2
              go_quiet (fail)
              go_wp2_with (fail)
              go_ret
              exact ⟨rfl, bseqT hbl.out (bseqT hb25.out (bseqT hb6.out (bdn hb7.out)))⟩
    · have h1I : ¬ (i : Int) < (len : Int) := by omega
      by_cases h2 : i1 < 2
      · have h2I : (i1 : Int) < 2 := by omega
        have hT0 : T = [] := List.eq_nil_of_length_eq_zero (by omega)
        subst hT0
        have hi11 : i1 = 1 := by omega
        subst hi11
        have hZH := Lib.hid hZ
        have hblH := Lib.hid hbl
        have hbs := hbl.size
        clear hZ hbl hzl hTi hi1 hi1H hT5
        go_upto_region 8 with (first
          | (at_builtin; go_loud (refine wpList_append_ze _ rfl (.tmp 43) (.tmp 44) _ rfl Try.underlying22 w.heap.size 1 (.slice (some ⟨g, 0, none⟩) 1 cc) (0 :: zN []) (by rfl) (hZH.out.below (below_al (Below.refl _ _) _)) rfl _ 1 1 [(3 : Int)] (by rfl) (IZ.one (by simp)) rfl (by omega) (by omega) (by simp; omega) ?_); intro v2 w4 hA4; have hA4H := Lib.hid hA4; clear hA4))
        obtain ⟨T, hT⟩ : ∃ T : List Nat, T = [3] := ⟨_, rfl⟩
        have hT1 : 1 ≤ T.length := by rw [hT]; decide
        have hTl : T.length ≤ 11 := by rw [hT]; decide
        have hT5 : ∀ a ∈ T, 1 ≤ a ∧ a ≤ 5 := fun a ha => by rw [hT] at ha; simp at ha; omega
        have hzz : ((0 :: zN []) ++ [(3 : Int)]) = 0 :: zN T := by rw [hT]; rfl
        have hZ1 := hA4H.out.1
        rw [hzz] at hZ1
        obtain ⟨g, cc, hv⟩ := hZ1.some (by simp)
        have hzl : (0 :: zN T).length = T.length + 1 := by simp [zN]
        rw [hzl] at hv
        subst hv
        have hZ := Lib.hid hZ1
        have hbl := Lib.hid ((below_al hblH.out _).trans hA4H.out.2.1)
        clear hT hzz hZ1 hzl hA4H hZH hblH
        obtain ⟨Q, t, v, hO⟩ := ost_all (T := T) (nn := nn) hT1 hTl hT5
        have hOH := Lib.hid hO
        have hden := hO.den
        obtain ⟨K, hK⟩ : ∃ K, T.length = K := ⟨_, rfl⟩
        have hK1 : 1 ≤ K := by omega
        have hK11 : K ≤ 11 := by omega
        have hQK : Q.length = K + 1 := by rw [hO.len, hK]
        have htop := hO.top
        have hvt := hO.lt
        have ht1 : 1 ≤ t := by omega
        have htl := hO.le
        obtain ⟨N, hNK⟩ : ∃ N, K + 1 = N := ⟨_, rfl⟩
        have hN : (0 :: zN T).length = N := by simp [zN, hK, hNK]
        rw [hNK] at hQK
        rw [hK, hNK] at hZ
        rw [hK, hNK]
        have hKN : (N : Int) - 1 = (K : Int) := by omega
        have hNl : N ≤ 12 := by omega
        have hKI : (K : Int) < (N : Int) := by omega
        have hK0 : (0 : Int) ≤ (K : Int) := by omega
        have hN2 : ¬ (N : Int) < 2 := by omega
        have hKN2 : K < N := by omega
        have htK : Q.getD K 0 = t := by
          have := htop
          unfold topQ at this
          rw [hQK, show N - 1 = K by omega] at this
          exact this
        have hQK2 : Q.length = K + 1 := by omega
        have hnum := Lib.hid (fun a c W hI hc => (numR_any a N c (0 :: zN T) W hI hN hc).mono fun e w' h => h.yes hden hQK)
        have hdig := Lib.hid (fun a c W hI hc => (digsP_any a N c (0 :: zN T) (v : Int) W hI hN hc).mono fun e w' h => h.in (Q := Q) (K := K) hden hQK2 (by rw [htop]; exact hvt))
        obtain ⟨F, hF⟩ : ∃ F, dgF Q v = F := ⟨_, rfl⟩
        have hFl : F.length = K := by rw [← hF, dgF_length, hQK2]; rfl
        rw [hF] at hdig
        have hnb := Lib.hid (fun a c b c2 W hI hc hJ => (numP_any a b N c K c2 (0 :: zN T) (zN F) W hI hN hc hJ (by simp [zN, hFl]) (by omega)).mono fun e w' h => h.good (Q := Q) (C := F) hden (by have := hO.val; rw [hF] at this; exact this) rfl)
        have hsum : sumQ Q F = v := by rw [← hF]; exact hO.sum
        rw [hsum] at hnb
        have t1 : (nn : Int).tmod (t : Int) = (v : Int) := by rw [← hO.vn]; exact (Int.ofNat_tmod nn t).symm
        have t2 : (nn : Int) % (t : Int) = (v : Int) := by rw [← hO.vn]; exact (Int.natCast_emod nn t).symm
        have f1 : ¬ (t : Int) = 0 := by omega
        have f2 : ((t : Int) == 0) = false := by simp; omega
        have eK : ((K : Int) != (K : Int)) = false := by simp
        have ev : ((v : Int) != (v : Int)) = false := by simp
        obtain ⟨u, hu⟩ : ∃ u, v + 1 = u := ⟨_, rfl⟩
        have huI : (v : Int) + 1 = (u : Int) := by omega
        have hvl : v ≤ 1000000000 := by omega
        have hul : u ≤ 1000000000 := by omega
        have htKH := Lib.hid htK
        have hQH := Lib.hid hQK
        have hZ0 := hZ.out.iz
        have hIt := Lib.hid hZ0.1
        have hct := hZ0.2
        have hFH := Lib.hid hF
        have hNH := Lib.hid hNK
        have hFlH := Lib.hid hFl
        have hdig20 := fun a c W (hI : IZ W a (0 :: zN T)) (hc : N ≤ c) => digsP_any a N c (0 :: zN T) (u : Int) W hI hN hc
        have hden2 := Lib.hid hden
        have htop2 := Lib.hid htop
        have hQK3 := Lib.hid hQK2
        have huH := Lib.hid hu
        clear hO hden hK hQK htop hN hNK htK hQK2 hF hFl hsum hu hT1 hTl hT5 hZ hZ0
        go_upto_region 11 with (first
          | (go_at_call 47; (with_reducible refine (hnum.out _ _ _ hIt.out hct).mono ?_); rintro e w2 ⟨g2, c2, rfl, hI, hb⟩; have hI2 := Lib.hid hI; have hb2 := Lib.hid hb; clear hI hb))
        have c1 := iz_nat (i := K) hI2.out (by rw [hQH.out]; exact hKN2) htKH.out
        rw [Nat.zero_add] at c1
        go_upto_region 19 with (first
          | (go_at_call 46; (with_reducible refine (hdig.out _ _ _ (hIt.out.below hb2.out) hct).mono ?_); rintro e w3 ⟨g3, rfl, hI, hb⟩; have hI3 := Lib.hid hI; have hb3 := Lib.hid hb; clear hI hb)
          | (go_at_call 23; (with_reducible refine (lives_any _).mono ?_); rintro e w4 ⟨rfl, hb⟩; have hb4 := Lib.hid hb; clear hb)
          | (go_at_call 49; (with_reducible refine (hnb.out _ _ _ _ _ (hIt.out.below (bseqT hb2.out (bseqT hb3.out hb4.out))) hct (hI3.out.below hb4.out)).mono ?_); rintro e w5 ⟨rfl, hb⟩; have hb5 := Lib.hid hb; clear hb))
        have hb25 := Lib.hid (bseqT hb2.out (bseqT hb3.out (bseqT hb4.out hb5.out)))
        have hb35 := Lib.hid (bseqT hb4.out hb5.out)
        clear c1 hnum hdig hnb hI2 hb2 hb3 hb4 hb5
        by_cases hut : u = t
        · have eut : ((u : Int) == (t : Int)) = true := by simp; omega
          have hdig2 := Lib.hid (fun a c W hI hc => (hdig20 a c W hI hc).mono fun e w' h => h.out hden2.out (.inr (by rw [htop2.out]; omega)))
          subst hut
          clear hdig20
          go_wp2_with (first
            | (go_at_call 46; (with_reducible refine (hdig2.out _ _ _ (hIt.out.below hb25.out) hct).mono ?_); rintro e w6 ⟨rfl, hb⟩; have hb6 := Lib.hid hb; clear hb))
          go_ret
          exact ⟨rfl, bseqT hbl.out (bseqT hb25.out hb6.out)⟩
        · have eut : ((u : Int) == (t : Int)) = false := by simp; omega
          have eut2 : ¬ (u : Int) = (t : Int) := by omega
          obtain ⟨G, hG⟩ : ∃ G, dgF Q u = G := ⟨_, rfl⟩
          have hGl : Hid (G.length = K) := by show _ = _; rw [← hG, dgF_length, hQK3.out]; rfl
          have hdig2 := Lib.hid (fun a c W hI hc => (hdig20 a c W hI hc).mono fun e w' h => h.in hden2.out hQK3.out (by rw [htop2.out]; omega))
          rw [hG] at hdig2
          have hlex : Hid (lexL F.reverse G.reverse = true) := by
            show _ = _
            have := hOH.out.lex (u := u) huH.out (by omega)
            rw [hFH.out, hG] at this
            exact this
          clear hdig20 hG
          go_wp2_with (first
            | (go_at_call 46; (with_reducible refine (hdig2.out _ _ _ (hIt.out.below hb25.out) hct).mono ?_); rintro e w6 ⟨g6, rfl, hI, hb⟩; have hI6 := Lib.hid hI; have hb6 := Lib.hid hb; clear hI hb))
          go_loopg [17] K (fun gk iv wr => ∃ (j : Nat) (i : Int), iv = .int .i64 i ∧ i + j + 1 = K ∧ j + gk = K ∧ lexL (F.reverse.drop j) (G.reverse.drop j) = true ∧ Below w6.heap.size w6 wr)
          case atStart => exact ⟨0, (K : Int) - 1, by rfl, by omega, by omega, hlex.out, Below.refl _ _⟩
          case round =>
            clear hlex
            obtain ⟨j, iz, rfl, hij, hjg, hlx, hbw⟩ := hrel
            have hbwH := Lib.hid hbw
            clear hbw
            have hjK : j < K := by
              rcases Nat.lt_or_ge j K with h | h
              · exact h
              · exfalso
                rw [List.drop_eq_nil_of_le (by rw [List.length_reverse, hFlH.out]; omega)] at hlx
                simp [lexL] at hlx
            obtain ⟨i, rfl⟩ : ∃ i : Nat, iz = (i : Int) := ⟨iz.toNat, by omega⟩
            have hi0 : (0 : Int) ≤ (i : Int) := by omega
            have hiK : (i : Int) < (K : Int) := by omega
            have hil : i ≤ 11 := by omega
            obtain ⟨x, hx⟩ : ∃ x, F.getD i 0 = x := ⟨_, rfl⟩
            obtain ⟨y, hy⟩ : ∃ y, G.getD i 0 = y := ⟨_, rfl⟩
            have c1 := iz_nat (i := i) ((hI3.out.below hb35.out).below (bseqT hb6.out hbwH.out)) (by rw [hFlH.out]; omega) hx
            have c2 := iz_nat (i := i) (hI6.out.below hbwH.out) (by rw [hGl.out]; omega) hy
            rw [Nat.zero_add] at c1 c2
            have hst := lex_step (F := F) (G := G) (j := j) (i := i) (by rw [hFlH.out]; omega) (by rw [hGl.out]; omega) hlx
            rw [hx, hy] at hst
            have hstH := Lib.hid hst
            have hijH : Hid ((i : Int) + j + 1 = K) := hij
            clear hst hlx hx hy hij
            by_cases hxy : x = y
            · have exy : ((x : Int) != (y : Int)) = false := by simp; omega
              have hnx := Lib.hid (hstH.out.2 hxy)
              subst hxy
              have exx : ((x : Int) != (x : Int)) = false := by simp
              clear hstH
              go_wp2_with (fail)
              go_quiet (fail)
              go_wp2_with (fail)
              go_roundg (gk - 1)
              case measure => omega
              case rel => exact ⟨j + 1, (i : Int) - 1, by go_num, by have := hijH.out; omega, by omega, hnx.out, bdn hbwH.out⟩
            · have exy : ((x : Int) != (y : Int)) = true := by simp; omega
              have exy2 : ¬ (x : Int) = (y : Int) := by omega
              have hlt := hstH.out.1 hxy
              have hltI : decide ((x : Int) < (y : Int)) = true := decide_eq_true (by omega)
              have hltN : decide (x < y) = true := decide_eq_true hlt
              clear hstH
              go_wp2_with (fail)
              go_quiet (fail)
              go_wp2_with (fail)
              have d1 : ∀ nq, (wr.drewN nq).cell? ⟨g3, i, none⟩ = some (.int .i64 (x : Nat)) := fun nq => Below.cellAt (bdn (Below.refl _ _)) (Nat.le_refl _) c1
              have d2 : ∀ nq, (wr.drewN nq).cell? ⟨g6, i, none⟩ = some (.int .i64 (y : Nat)) := fun nq => Below.cellAt (bdn (Below.refl _ _)) (Nat.le_refl _) c2
              obtain ⟨W7, hW7⟩ : ∃ W7, W7 = wr.drewN nq := ⟨_, rfl⟩
              rw [← hW7]
              have d3 := d1 nq
              have d4 := d2 nq
              rw [← hW7] at d3 d4
              have hb7 : Hid (Below w6.heap.size w6 W7) := by show Below _ _ _; rw [hW7]; exact bdn hbwH.out
              clear hW7 d1 d2 c1 c2
              go_quiet (fail)
              go_wp2_with (fail)
              go_ret
              exact ⟨rfl, bseqT hbl.out (bseqT hb25.out (bseqT hb6.out (bdn hb7.out)))⟩
      · have h2I : ¬ (i1 : Int) < 2 := by omega
        have hT1 : 1 ≤ T.length := by omega
        have hTl : T.length ≤ 11 := by omega
        have hZ := Lib.hid hZ
        have hbl := Lib.hid hbl
        have hii : i1 = T.length + 1 := by omega
        subst hii
        clear hi1 hi1H hzl hi1l
        obtain ⟨Q, t, v, hO⟩ := ost_all (T := T) (nn := nn) hT1 hTl hT5
        have hOH := Lib.hid hO
        have hden := hO.den
        obtain ⟨K, hK⟩ : ∃ K, T.length = K := ⟨_, rfl⟩
        have hK1 : 1 ≤ K := by omega
        have hK11 : K ≤ 11 := by omega
        have hQK : Q.length = K + 1 := by rw [hO.len, hK]
        have htop := hO.top
        have hvt := hO.lt
        have ht1 : 1 ≤ t := by omega
        have htl := hO.le
        obtain ⟨N, hNK⟩ : ∃ N, K + 1 = N := ⟨_, rfl⟩
        have hN : (0 :: zN T).length = N := by simp [zN, hK, hNK]
        rw [hNK] at hQK
        rw [hK, hNK] at hZ
        rw [hK, hNK]
        have hKN : (N : Int) - 1 = (K : Int) := by omega
        have hNl : N ≤ 12 := by omega
        have hKI : (K : Int) < (N : Int) := by omega
        have hK0 : (0 : Int) ≤ (K : Int) := by omega
        have hN2 : ¬ (N : Int) < 2 := by omega
        have hKN2 : K < N := by omega
        have htK : Q.getD K 0 = t := by
          have := htop
          unfold topQ at this
          rw [hQK, show N - 1 = K by omega] at this
          exact this
        have hQK2 : Q.length = K + 1 := by omega
        have hnum := Lib.hid (fun a c W hI hc => (numR_any a N c (0 :: zN T) W hI hN hc).mono fun e w' h => h.yes hden hQK)
        have hdig := Lib.hid (fun a c W hI hc => (digsP_any a N c (0 :: zN T) (v : Int) W hI hN hc).mono fun e w' h => h.in (Q := Q) (K := K) hden hQK2 (by rw [htop]; exact hvt))
        obtain ⟨F, hF⟩ : ∃ F, dgF Q v = F := ⟨_, rfl⟩
        have hFl : F.length = K := by rw [← hF, dgF_length, hQK2]; rfl
        rw [hF] at hdig
        have hnb := Lib.hid (fun a c b c2 W hI hc hJ => (numP_any a b N c K c2 (0 :: zN T) (zN F) W hI hN hc hJ (by simp [zN, hFl]) (by omega)).mono fun e w' h => h.good (Q := Q) (C := F) hden (by have := hO.val; rw [hF] at this; exact this) rfl)
        have hsum : sumQ Q F = v := by rw [← hF]; exact hO.sum
        rw [hsum] at hnb
        have t1 : (nn : Int).tmod (t : Int) = (v : Int) := by rw [← hO.vn]; exact (Int.ofNat_tmod nn t).symm
        have t2 : (nn : Int) % (t : Int) = (v : Int) := by rw [← hO.vn]; exact (Int.natCast_emod nn t).symm
        have f1 : ¬ (t : Int) = 0 := by omega
        have f2 : ((t : Int) == 0) = false := by simp; omega
        have eK : ((K : Int) != (K : Int)) = false := by simp
        have ev : ((v : Int) != (v : Int)) = false := by simp
        obtain ⟨u, hu⟩ : ∃ u, v + 1 = u := ⟨_, rfl⟩
        have huI : (v : Int) + 1 = (u : Int) := by omega
        have hvl : v ≤ 1000000000 := by omega
        have hul : u ≤ 1000000000 := by omega
        have htKH := Lib.hid htK
        have hQH := Lib.hid hQK
        have hZ0 := hZ.out.iz
        have hIt := Lib.hid hZ0.1
        have hct := hZ0.2
        have hFH := Lib.hid hF
        have hNH := Lib.hid hNK
        have hFlH := Lib.hid hFl
        have hdig20 := fun a c W (hI : IZ W a (0 :: zN T)) (hc : N ≤ c) => digsP_any a N c (0 :: zN T) (u : Int) W hI hN hc
        have hden2 := Lib.hid hden
        have htop2 := Lib.hid htop
        have hQK3 := Lib.hid hQK2
        have huH := Lib.hid hu
        clear hO hden hK hQK htop hN hNK htK hQK2 hF hFl hsum hu hT1 hTl hT5 hZ hZ0
        go_upto_region 11 with (first
          | (go_at_call 47; (with_reducible refine (hnum.out _ _ _ hIt.out hct).mono ?_); rintro e w2 ⟨g2, c2, rfl, hI, hb⟩; have hI2 := Lib.hid hI; have hb2 := Lib.hid hb; clear hI hb))
        have c1 := iz_nat (i := K) hI2.out (by rw [hQH.out]; exact hKN2) htKH.out
        rw [Nat.zero_add] at c1
        go_upto_region 19 with (first
          | (go_at_call 46; (with_reducible refine (hdig.out _ _ _ (hIt.out.below hb2.out) hct).mono ?_); rintro e w3 ⟨g3, rfl, hI, hb⟩; have hI3 := Lib.hid hI; have hb3 := Lib.hid hb; clear hI hb)
          | (go_at_call 23; (with_reducible refine (lives_any _).mono ?_); rintro e w4 ⟨rfl, hb⟩; have hb4 := Lib.hid hb; clear hb)
          | (go_at_call 49; (with_reducible refine (hnb.out _ _ _ _ _ (hIt.out.below (bseqT hb2.out (bseqT hb3.out hb4.out))) hct (hI3.out.below hb4.out)).mono ?_); rintro e w5 ⟨rfl, hb⟩; have hb5 := Lib.hid hb; clear hb))
        have hb25 := Lib.hid (bseqT hb2.out (bseqT hb3.out (bseqT hb4.out hb5.out)))
        have hb35 := Lib.hid (bseqT hb4.out hb5.out)
        clear c1 hnum hdig hnb hI2 hb2 hb3 hb4 hb5
        by_cases hut : u = t
        · have eut : ((u : Int) == (t : Int)) = true := by simp; omega
          have hdig2 := Lib.hid (fun a c W hI hc => (hdig20 a c W hI hc).mono fun e w' h => h.out hden2.out (.inr (by rw [htop2.out]; omega)))
          subst hut
          clear hdig20
          go_wp2_with (first
            | (go_at_call 46; (with_reducible refine (hdig2.out _ _ _ (hIt.out.below hb25.out) hct).mono ?_); rintro e w6 ⟨rfl, hb⟩; have hb6 := Lib.hid hb; clear hb))
          go_ret
          exact ⟨rfl, bseqT hbl.out (bseqT hb25.out hb6.out)⟩
        · have eut : ((u : Int) == (t : Int)) = false := by simp; omega
          have eut2 : ¬ (u : Int) = (t : Int) := by omega
          obtain ⟨G, hG⟩ : ∃ G, dgF Q u = G := ⟨_, rfl⟩
          have hGl : Hid (G.length = K) := by show _ = _; rw [← hG, dgF_length, hQK3.out]; rfl
          have hdig2 := Lib.hid (fun a c W hI hc => (hdig20 a c W hI hc).mono fun e w' h => h.in hden2.out hQK3.out (by rw [htop2.out]; omega))
          rw [hG] at hdig2
          have hlex : Hid (lexL F.reverse G.reverse = true) := by
            show _ = _
            have := hOH.out.lex (u := u) huH.out (by omega)
            rw [hFH.out, hG] at this
            exact this
          clear hdig20 hG
          go_wp2_with (first
            | (go_at_call 46; (with_reducible refine (hdig2.out _ _ _ (hIt.out.below hb25.out) hct).mono ?_); rintro e w6 ⟨g6, rfl, hI, hb⟩; have hI6 := Lib.hid hI; have hb6 := Lib.hid hb; clear hI hb))
          go_loopg [17] K (fun gk iv wr => ∃ (j : Nat) (i : Int), iv = .int .i64 i ∧ i + j + 1 = K ∧ j + gk = K ∧ lexL (F.reverse.drop j) (G.reverse.drop j) = true ∧ Below w6.heap.size w6 wr)
          case atStart => exact ⟨0, (K : Int) - 1, by rfl, by omega, by omega, hlex.out, Below.refl _ _⟩
          case round =>
            clear hlex
            obtain ⟨j, iz, rfl, hij, hjg, hlx, hbw⟩ := hrel
            have hbwH := Lib.hid hbw
            clear hbw
            have hjK : j < K := by
              rcases Nat.lt_or_ge j K with h | h
              · exact h
              · exfalso
                rw [List.drop_eq_nil_of_le (by rw [List.length_reverse, hFlH.out]; omega)] at hlx
                simp [lexL] at hlx
            obtain ⟨i, rfl⟩ : ∃ i : Nat, iz = (i : Int) := ⟨iz.toNat, by omega⟩
            have hi0 : (0 : Int) ≤ (i : Int) := by omega
            have hiK : (i : Int) < (K : Int) := by omega
            have hil : i ≤ 11 := by omega
            obtain ⟨x, hx⟩ : ∃ x, F.getD i 0 = x := ⟨_, rfl⟩
            obtain ⟨y, hy⟩ : ∃ y, G.getD i 0 = y := ⟨_, rfl⟩
            have c1 := iz_nat (i := i) ((hI3.out.below hb35.out).below (bseqT hb6.out hbwH.out)) (by rw [hFlH.out]; omega) hx
            have c2 := iz_nat (i := i) (hI6.out.below hbwH.out) (by rw [hGl.out]; omega) hy
            rw [Nat.zero_add] at c1 c2
            have hst := lex_step (F := F) (G := G) (j := j) (i := i) (by rw [hFlH.out]; omega) (by rw [hGl.out]; omega) hlx
            rw [hx, hy] at hst
            have hstH := Lib.hid hst
            have hijH : Hid ((i : Int) + j + 1 = K) := hij
            clear hst hlx hx hy hij
            by_cases hxy : x = y
            · have exy : ((x : Int) != (y : Int)) = false := by simp; omega
              have hnx := Lib.hid (hstH.out.2 hxy)
              subst hxy
              have exx : ((x : Int) != (x : Int)) = false := by simp
              clear hstH
              go_wp2_with (fail)
              go_quiet (fail)
              go_wp2_with (fail)
              go_roundg (gk - 1)
              case measure => omega
              case rel => exact ⟨j + 1, (i : Int) - 1, by go_num, by have := hijH.out; omega, by omega, hnx.out, bdn hbwH.out⟩
            · have exy : ((x : Int) != (y : Int)) = true := by simp; omega
              have exy2 : ¬ (x : Int) = (y : Int) := by omega
              have hlt := hstH.out.1 hxy
              have hltI : decide ((x : Int) < (y : Int)) = true := decide_eq_true (by omega)
              have hltN : decide (x < y) = true := decide_eq_true hlt
              clear hstH
              go_wp2_with (fail)
              go_quiet (fail)
              go_wp2_with (fail)
              have d1 : ∀ nq, (wr.drewN nq).cell? ⟨g3, i, none⟩ = some (.int .i64 (x : Nat)) := fun nq => Below.cellAt (bdn (Below.refl _ _)) (Nat.le_refl _) c1
              have d2 : ∀ nq, (wr.drewN nq).cell? ⟨g6, i, none⟩ = some (.int .i64 (y : Nat)) := fun nq => Below.cellAt (bdn (Below.refl _ _)) (Nat.le_refl _) c2
              obtain ⟨W7, hW7⟩ : ∃ W7, W7 = wr.drewN nq := ⟨_, rfl⟩
              rw [← hW7]
              have d3 := d1 nq
              have d4 := d2 nq
              rw [← hW7] at d3 d4
              have hb7 : Hid (Below w6.heap.size w6 W7) := by show Below _ _ _; rw [hW7]; exact bdn hbwH.out
              clear hW7 d1 d2 c1 c2
              go_quiet (fail)
              go_wp2_with (fail)
              go_ret
              exact ⟨rfl, bseqT hbl.out (bseqT hb25.out (bseqT hb6.out (bdn hb7.out)))⟩
end
end Go.Proofs.Ytbehfhmdilifkaa
