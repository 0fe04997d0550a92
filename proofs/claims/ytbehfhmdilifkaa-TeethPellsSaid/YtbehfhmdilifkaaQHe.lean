/- He -/
import Derived.Test.YtbehfhmdilifkaaQTh
import Derived.Test.YtbehfhmdilifkaaQTj
set_option linter.unusedVariables false
/- Walks of the reference's Terms and Near. -/
namespace Go.Proofs.Ytbehfhmdilifkaa
open Go Go.RowKit Go.Proofs

def TermsR (T : List Nat) (n : Nat) (w : World) (e : Ending) (w' : World) : Prop := ∃ g c, e = .returned (.slice (some ⟨g, 0, none⟩) n c) ∧ n ≤ c ∧ IZ w' (some ⟨g, 0, none⟩) (nzT T) ∧ Below w.heap.size w w'
set_option maxRecDepth 100000 in
set_option maxHeartbeats 3200000 in
theorem termsR_any (a b n : Nat) (w : World) (ha : a ≤ 1000000) (hb1 : 1 ≤ b) (hb : b ≤ 1000000) (hn : (trm a b).length = n) :
    Calls Try.prog 25 #[.int .i64 (a : Nat), .int .i64 (b : Nat)] w (TermsR (trm a b) n w) := by
  obtain ⟨T, hT⟩ : ∃ T, trm a b = T := ⟨_, rfl⟩
  have hT0 : Hid (T ≠ []) := by show _ ≠ _; rw [← hT]; exact trm_ne (by omega)
  have hTl : Hid (T.length ≤ 1000000) := by show _ ≤ _; rw [← hT]; exact Nat.le_trans (trm_length a b) hb
  rw [hT] at hn ⊢
  have hTH := Lib.hid hT
  have hnH := Lib.hid hn
  clear hT hn
  go_enter Try.func25, Try.ntmps25
  go_wp2_with (fail)
  go_loopg [0, 1, 5] b (fun gk xv yv pv wr => ∃ (x y : Nat) (ss : List Nat) (v : Value), xv = .int .i64 (x : Nat) ∧ yv = .int .i64 (y : Nat) ∧ v = pv ∧ y = gk ∧ ss ++ trm x y = T ∧ x ≤ 1000000 ∧ y ≤ 1000000 ∧ ZE wr w.heap.size v (nzT ss) ∧ Below w.heap.size w wr)
  case atStart => exact ⟨a, b, [], _, rfl, rfl, rfl, rfl, hTH.out, ha, hb, ZE.lit _ _ _, below_al (Below.refl _ _) _⟩
  case round =>
    obtain ⟨x, y, ss, v, rfl, rfl, rfl, rfl, hss, hx, hy, hZ, hbl⟩ := hrel
    have hZH := Lib.hid hZ
    have hblH := Lib.hid hbl
    clear hZ hbl
    by_cases h0 : 0 < y
    · have hy1 : (0 : Int) < (y : Int) := by omega
      have hy2 : ¬ (y : Int) = 0 := by omega
      have hy3 : ((y : Int) == 0) = false := by simp; omega
      obtain ⟨q, hq⟩ : ∃ q, x / y = q := ⟨_, rfl⟩
      obtain ⟨z, hz⟩ : ∃ z, x % y = z := ⟨_, rfl⟩
      have hzy : z < y := by rw [← hz]; exact Nat.mod_lt _ h0
      have hqx : q ≤ 1000000 := by rw [← hq]; exact Nat.le_trans (Nat.div_le_self x y) hx
      have t1 : (x : Int).tmod (y : Int) = (z : Int) := by rw [← hz]; exact (Int.ofNat_tmod x y).symm
      have t2 : (x : Int) % (y : Int) = (z : Int) := by rw [← hz]; exact (Int.natCast_emod x y).symm
      have t3 : (x : Int).tdiv (y : Int) = (q : Int) := by rw [← hq]; exact (Int.ofNat_tdiv x y).symm
      have t4 : (x : Int) / (y : Int) = (q : Int) := by rw [← hq]; exact (Int.natCast_ediv x y).symm
      have hss2 : Hid (ss ++ [q] ++ trm y z = T) := by
        show _ = _
        rw [← hss, trm_pos h0, hq, hz, List.append_assoc]; rfl
      obtain ⟨j, hj⟩ : ∃ j, ss.length = j := ⟨_, rfl⟩
      have hjl : j ≤ 1000000 := by
        have h1 := congrArg List.length hss
        rw [List.length_append] at h1
        have := hTl.out
        omega
      have hjH : Hid ((nzT ss).length = j) := by show _ = _; rw [nzT_length, hj]
      have hbs := hblH.out.size
      clear hss hq hz hj
      go_upto_region 4 with (first
        | (at_builtin; go_loud (refine wpList_append_ze _ rfl (.tmp 9) (.tmp 13) _ rfl Try.underlying22 w.heap.size j v (nzT ss) (by rfl) (hZH.out.below (below_al (Below.refl _ _) _)) hjH.out _ 1 1 [(q : Int)] (by rfl) (IZ.one (by simp)) rfl (by omega) (by omega) (by simp; omega) ?_); intro v2 w4 hA4; rw [← nzT_snoc] at hA4; have hA4H := Lib.hid hA4; clear hA4))
      go_region
      go_wp2_with (fail)
      go_roundg z
      case measure => omega
      case rel => exact ⟨y, z, ss ++ [q], v2, rfl, rfl, rfl, rfl, hss2.out, hy, by omega, (hA4H.out.1).below (Below.drew (Below.refl _ _)), Below.drew ((below_al hblH.out _).trans hA4H.out.2.1)⟩
    · have hye : 0 = y := by omega
      subst hye
      have h1 : ss = T := by rw [← hss, trm_zero, List.append_nil]
      subst h1
      obtain ⟨g, c, hv⟩ := hZH.out.some (fun e => by unfold nzT at e; rw [List.map_eq_nil_iff] at e; exact hT0.out e)
      rw [nzT_length, hnH.out] at hv
      subst hv
      clear hss
      go_wp2_with (fail)
      go_ret
      have hc := hZH.out.iz.2
      exact ⟨g, c, rfl, hc, hZH.out.iz.1, hblH.out⟩
/-- The reference's search, before the first fraction or behind it. -/
def NR (o u Q k : Nat) (bp : Int) (bq : Nat) : Prop := (Q = 1 ∧ k = 0 ∧ bp = -1 ∧ bq = 1) ∨ ∃ p : Nat, bp = (p : Int) ∧ NB o u Q k p bq
theorem NR.low {o u Q k : Nat} {bp : Int} {bq : Nat} (h : NR o u Q k bp bq) : bp < 0 → Q = 1 ∧ k = 0 := fun hlt => by
  rcases h with h | ⟨p, hp, _⟩
  · exact ⟨h.1, h.2.1⟩
  · omega
theorem NR.next {o u Q : Nat} {bp : Int} {bq : Nat} (hQ : 1 ≤ Q) (h : NR o u Q 2 bp bq) : NR o u (Q + 1) 0 bp bq := by
  rcases h with h | ⟨p, hp, hB⟩
  · omega
  · exact .inr ⟨p, hp, hB.next hQ⟩
set_option maxRecDepth 100000 in
set_option maxHeartbeats 6400000 in
theorem nearR_good (o u m a b : Nat) (w : World) (ho : 1 ≤ o) (ho2 : o ≤ 1000000) (hu : 1 ≤ u) (hu2 : u ≤ 1000000) (hm : 1 ≤ m) (hm2 : m ≤ 20000) (hN : NearI o u m a b) :
    Calls Try.prog 27 #[.int .i64 (o : Nat), .int .i64 (u : Nat), .int .i64 (m : Nat)] w (fun e w' => e = .returned (.tuple #[.int .i64 (a : Nat), .int .i64 (b : Nat)]) ∧ Below w.heap.size w w') := by
  have hNH := Lib.hid hN
  clear hN
  go_enter Try.func27, Try.ntmps27
  go_wp2_with (fail)
  go_loopg [8, 9, 10, 11, 12] m (fun gk pv qv Qv lv kv wr => ∃ (bp : Int) (bq Q : Nat), pv = .int .i64 bp ∧ qv = .int .i64 (bq : Nat) ∧ Qv = .int .i64 (Q : Nat) ∧ Q + gk = m + 1 ∧ 1 ≤ Q ∧ NR o u Q 0 bp bq ∧ Below w.heap.size w wr)
  case atStart => exact ⟨-1, 1, 1, rfl, rfl, rfl, by omega, by omega, .inl ⟨rfl, rfl, rfl, rfl⟩, Below.refl _ _⟩
  case round =>
    obtain ⟨bp, bq, Q, rfl, rfl, rfl, hQg, hQ1, hR, hbl⟩ := hrel
    have hRH := Lib.hid hR
    have hblH := Lib.hid hbl
    clear hR hbl
    by_cases hQm : Q ≤ m
    · have hQI : (Q : Int) ≤ (m : Int) := by omega
      obtain ⟨A, hA⟩ : ∃ A, o * Q = A := ⟨_, rfl⟩
      have hAI := mulN hA
      have hAl : A ≤ 20000000000 := by rw [← hA]; exact Nat.le_trans (Nat.mul_le_mul ho2 (show Q ≤ 20000 by omega)) (by decide)
      obtain ⟨L, hL⟩ : ∃ L, A / u = L := ⟨_, rfl⟩
      have hLl : L ≤ 20000000000 := by rw [← hL]; exact Nat.le_trans (Nat.div_le_self _ _) hAl
      have e1 : ¬ (u : Int) = 0 := by omega
      have e2 : ((u : Int) == 0) = false := by simp; omega
      have t3 : (A : Int).tdiv (u : Int) = (L : Int) := by rw [← hL]; exact (Int.ofNat_tdiv A u).symm
      have t4 : (A : Int) / (u : Int) = (L : Int) := by rw [← hL]; exact (Int.natCast_ediv A u).symm
      have hLH : Hid (o * Q / u = L) := by show _ = _; rw [hA, hL]
      have hAu : Hid (L * u ≤ A) := by show _ ≤ _; rw [← hL]; exact Nat.div_mul_le_self A u
      have hAH := Lib.hid hA
      clear hA hL
      go_wp2_with (fail)
      obtain ⟨W0, hW0⟩ : ∃ W0, W0 = wr := ⟨_, rfl⟩
      subst hW0
      go_loopg [8, 9, 12] 2 (fun gk pv qv kv wr => ∃ (bp : Int) (bq k : Nat), pv = .int .i64 bp ∧ qv = .int .i64 (bq : Nat) ∧ kv = .int .i64 (k : Nat) ∧ k + gk = 2 ∧ NR o u Q k bp bq ∧ Below w.heap.size w wr)
      case atStart => exact ⟨bp, bq, 0, rfl, rfl, rfl, rfl, hRH.out, hblH.out⟩
      case round =>
        clear hRH hblH
        obtain ⟨bp, bq, k, rfl, rfl, rfl, hkg, hR, hbl⟩ := hrel
        have hblH := Lib.hid hbl
        clear hbl
        by_cases hk2 : k < 2
        · have hkI : (k : Int) < 2 := by omega
          have hLk : (L : Int) + (k : Int) = ((L + k : Nat) : Int) := by omega
          by_cases hneg : bp < 0
          · have hz := hR.low hneg
            obtain ⟨h1, h2⟩ := hz
            subst h1 h2
            have hb1 : bq = 1 := by
              rcases hR with h | ⟨p, hp, _⟩
              · exact h.2.2.2
              · omega
            have hNB : Hid (NR o u 1 1 ((L : Nat) : Int) 1) := .inr ⟨L, rfl, by rw [← hLH.out]; exact NB.first⟩
            clear hR
            go_wp2_with (fail)
            go_roundg (gk - 1)
            case measure => omega
            case rel => exact ⟨(L : Int), 1, 1, by go_num, rfl, by go_num, by omega, hNB.out, hblH.out⟩
          · obtain ⟨p, hp, hB⟩ : ∃ p : Nat, bp = (p : Int) ∧ NB o u Q k p bq := by
              rcases hR with h | h
              · omega
              · exact h
            subst hp
            obtain ⟨b, hb⟩ : ∃ b, closerB o u (L + k) Q p bq = b := ⟨_, rfl⟩
            have hbqQ : bq ≤ Q := hB.mem.le
            have hpl := hB.mem.num_le
            have hbq1 := hB.pos
            have h1 : o * Q ≤ 4611686018427387904 := by rw [hAH.out]; omega
            have h2 : (L + k) * u ≤ 4611686018427387904 := by
              have := hAu.out
              rw [Nat.add_mul]
              have h3 : k * u ≤ 2 * u := Nat.mul_le_mul_right u (by omega)
              omega
            have h3 : o * bq ≤ 4611686018427387904 := Nat.le_trans (Nat.mul_le_mul ho2 (show bq ≤ 20000 by omega)) (by decide)
            have h4 : p * u ≤ 4611686018427387904 := by
              have h5 : o * bq ≤ 1000000 * 20000 := Nat.mul_le_mul ho2 (by omega)
              exact Nat.le_trans (Nat.mul_le_mul (show p ≤ 20000000003 by omega) hu2) (by decide)
            have hcl := Lib.hid (fun W => closer_any o u (L + k) Q p bq b W h1 h2 h3 h4 (by omega) (by omega) hb)
            have hnext : Hid (if b then NR o u Q (k + 1) ((L + k : Nat) : Int) Q else NR o u Q (k + 1) (p : Int) bq) := by
              show if b then _ else _
              cases b with
              | true =>
                have h5 : offN o u (L + k) Q * bq < offN o u p bq * Q := of_decide_eq_true hb
                rw [← hLH.out] at h5 ⊢
                exact .inr ⟨_, rfl, hB.take hQ1 h5⟩
              | false =>
                have h5 : ¬ offN o u (L + k) Q * bq < offN o u p bq * Q := of_decide_eq_false hb
                rw [← hLH.out] at h5
                exact .inr ⟨_, rfl, hB.keep (by omega)⟩
            have hpn : decide ((p : Int) < 0) = false := decide_eq_false (by omega)
            clear hR hB hb h1 h2 h3 h4 hpl hneg
            obtain ⟨S, hS⟩ : ∃ S, L + k = S := ⟨_, rfl⟩
            rw [hS] at hLk hcl hnext
            have hSl : S ≤ 20000000003 := by omega
            clear hS
            cases b with
            | true =>
              go_wp2_with (go_at_call 40; go_loud (with_reducible refine (hcl.out _).mono ?_); rintro e w1 ⟨rfl, rfl⟩)
              go_roundg (gk - 1)
              case measure => omega
              case rel => exact ⟨(S : Int), Q, k + 1, by go_num, rfl, by go_num, by omega, hnext.out, hblH.out⟩
            | false =>
              go_wp2_with (go_at_call 40; go_loud (with_reducible refine (hcl.out _).mono ?_); rintro e w1 ⟨rfl, rfl⟩)
              go_roundg (gk - 1)
              case measure => omega
              case rel => exact ⟨(p : Int), bq, k + 1, rfl, rfl, by go_num, by omega, hnext.out, hblH.out⟩
        · have hkI : ¬ (k : Int) < 2 := by omega
          have hke : k = 2 := by omega
          subst hke
          have hRn := Lib.hid (hR.next hQ1)
          clear hR
          go_wp2_with (fail)
          go_roundg (m - Q)
          case measure => omega
          case rel => exact ⟨bp, bq, Q + 1, rfl, rfl, by go_num, by omega, by omega, hRn.out, hblH.out⟩
    · have hQI : ¬ (Q : Int) ≤ (m : Int) := by omega
      have hQe : Q = m + 1 := by omega
      obtain ⟨p, hp, hB⟩ : ∃ p : Nat, bp = (p : Int) ∧ NB o u (m + 1) 0 p bq := by
        rcases hRH.out with h | ⟨p, hp, hB⟩
        · omega
        · rw [← hQe]; exact ⟨p, hp, hB⟩
      have hu1 := (hB.done hm).unique hm hNH.out
      obtain ⟨rfl, rfl⟩ := hu1
      subst hp
      clear hB hRH hQe
      go_wp2_with (fail)
      go_ret2
      exact ⟨rfl, hblH.out⟩
end Go.Proofs.Ytbehfhmdilifkaa
