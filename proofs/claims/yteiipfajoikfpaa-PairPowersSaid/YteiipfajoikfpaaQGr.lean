/- Gr -/
import Derived.Test.YteiipfajoikfpaaQPh
set_option linter.unusedVariables false
/- Walk of the reference's Lacks. -/
namespace Go.Proofs.Yteiipfajoikfpaa
open Go Go.RowKit Go.Proofs

/-- The best set so far, as a value. -/
def BestV (w : World) (best : Option (List Nat)) (v : Value) : Prop :=
  match best with
  | none => v = .slice none 0 0
  | some p => ∃ g c, v = .slice (some ⟨g, 0, none⟩) p.length c ∧ IZ w (some ⟨g, 0, none⟩) (nz p) ∧ p.length ≤ c
theorem BestV.below {w w' : World} {best : Option (List Nat)} {v : Value} (h : BestV w best v) (hb : Below w.heap.size w w') : BestV w' best v := by
  cases best with
  | none => exact h
  | some p =>
    obtain ⟨g, c, h1, h2, h3⟩ := h
    exact ⟨g, c, h1, h2.below hb, h3⟩
theorem bits_len (u n : Nat) : (bitsL u n).length ≤ n := by
  have h : (bitsL u n).length ≤ (List.range n).length := List.length_filter_le _ _
  rw [List.length_range] at h; exact h
theorem any_take {s : List Nat} {P : Nat → Bool} {i x : Nat} (h : s[i]? = some x) : (s.take (i + 1)).any P = ((s.take i).any P || P x) := by
  rw [take_lastX h, List.any_append]; simp
theorem nz_lt {p q : List Nat} : nz p < nz q ↔ p < q := by
  unfold nz
  induction p generalizing q with
  | nil => cases q <;> simp
  | cons a p ih =>
    cases q with
    | nil => simp
    | cons b q =>
      simp only [List.map_cons, List.cons_lt_cons_iff, Int.ofNat_lt, Int.ofNat_inj]
      have := ih (q := q)
      constructor
      · rintro (h | ⟨h, h2⟩)
        · exact .inl h
        · exact .inr ⟨h, this.1 h2⟩
      · rintro (h | ⟨h, h2⟩)
        · exact .inl h
        · exact .inr ⟨h, this.2 h2⟩
theorem nz_ltl {p q : List Nat} (h : lessB (nz p) (nz q) = true) : p < q := nz_lt.1 (by unfold lessB at h; simpa using h)
theorem nz_nlt {p q : List Nat} (h : lessB (nz p) (nz q) = false) : q ≤ p := fun hlt => by
  have : nz p < nz q := nz_lt.2 hlt
  unfold lessB at h
  simp at h
  exact h this
def RLacksPost (A : Nat → Nat → Bool) (n : Nat) (w : World) (e : Ending) (w' : World) : Prop :=
  ∃ best v, LackI A n (2 ^ n) best ∧ e = .returned v ∧ BestV w' best v ∧ Below w.heap.size w w'
set_option maxRecDepth 100000 in
set_option maxHeartbeats 12800000 in
theorem rlacks_any (ao : Option Addr) (c n : Nat) (C : List (List Int)) (z : Int) (w : World) (h : IMx w ao C) (hg : goodC C) (hn : C.length = n) :
    Calls Try.prog 25 #[.slice ao n c, .int .i64 z] w (RLacksPost (upA C z) n w) := by
  have hn8 : n ≤ 8 := by rw [← hn]; exact hg.2.1
  have hn1 : 1 ≤ n := by rw [← hn]; exact hg.1
  obtain ⟨N, hN⟩ : ∃ N, 2 ^ n = N := ⟨_, rfl⟩
  have hN2 : N ≤ 256 := by rw [← hN]; exact Nat.pow_le_pow_right (n := 2) (by omega) hn8
  have hN1 : 2 ≤ N := by rw [← hN]; exact Nat.pow_le_pow_right (n := 2) (by omega) hn1
  have sh : wrap64 ((2 : Int) ^ n) = (N : Int) := by rw [IntWalk.wrap64_in] <;> (have e : ((2 : Int) ^ n) = ((2 ^ n : Nat) : Int) := (by simp); rw [e, hN]; try omega)
  have sh2 : (2 : Int) ^ n = (N : Int) := by rw [← hN]; simp
  have hn2 : (n : Int) < 64 := by omega
  have hn3 : 0 ≤ (n : Int) := by omega
  have hH := Lib.hid h
  have hgH := Lib.hid hg
  have hnH := Lib.hid hn
  have hNH := Lib.hid hN
  have q0 := eql_nil0
  have q1 := eql_nil1
  obtain ⟨A, hA⟩ : ∃ A, upA C z = A := ⟨_, rfl⟩
  rw [hA]
  have hAH := Lib.hid hA
  clear h hg hn hN hA
  go_enter Try.func25, Try.ntmps25
  go_wp2_with (fail)
  go_loopg [5, 6] N (fun gk bv uv wr => ∃ (u : Nat) (best : Option (List Nat)) (v : Value), v = bv ∧ uv = .int .i64 (u : Nat) ∧ 1 ≤ u ∧ u ≤ N ∧ u + gk = N + 1 ∧ LackI A n u best ∧ BestV wr best v ∧ Below w.heap.size w wr)
  case atStart => exact ⟨1, none, _, rfl, rfl, by omega, by omega, by omega, LackI.start A n, rfl, Below.refl _ _⟩
  case round =>
    obtain ⟨u, best, v, rfl, rfl, hu1, huN, hu, hL, hB, hbl⟩ := hrel
    have hLH := Lib.hid hL
    have hBH := Lib.hid hB
    have hblH := Lib.hid hbl
    have hMr := Lib.hid (hH.out.below hbl)
    clear hL hB hbl
    by_cases huN2 : u < N
    · obtain ⟨g1, rfl⟩ : ∃ g1, gk = g1 + 1 := ⟨gk - 1, by omega⟩
      have huI : (u : Int) < (N : Int) := by omega
      obtain ⟨wq, hwq⟩ : ∃ wq, wq = wr := ⟨_, rfl⟩
      have hwH := Lib.hid hwq
      clear hwq
      go_wp2_with (fail)
      go_loopg [7, 9] n (fun gj rv jv wx => ∃ (j : Nat) (r : Value), r = rv ∧ jv = .int .i64 (j : Nat) ∧ j + gj = n ∧ ZE wx wq.heap.size r (nz (bitsL u j)) ∧ Below wq.heap.size wq wx)
      case atStart => exact ⟨0, _, rfl, rfl, by omega, ZE.lit _ _ _, by rw [hwH.out]; go_grown⟩
      case round =>
        obtain ⟨j, r, rfl, rfl, hj, hZ, hb2⟩ := hrel
        have hZH := Lib.hid hZ
        have hb2H := Lib.hid hb2
        clear hZ hb2
        by_cases hjn : j < n
        · obtain ⟨g2, rfl⟩ : ∃ g2, gk = g2 + 1 := ⟨gk - 1, by omega⟩
          have hjI : (j : Int) < (n : Int) := by omega
          have hj0 : (0 : Int) ≤ (j : Int) := by omega
          have hj64 : (j : Int) < 64 := by omega
          have hbit := bit_at u j (by omega)
          have hbs := Lib.hid (bitsL_succ u j)
          rcases ht : u.testBit j
          · have hbit1 : bits .and .i64 ((u : Int) / 2 ^ j) 1 = 0 := by rw [hbit, ht]; rfl
            have htH := Lib.hid ht
            clear hbit ht
            go_wp2_with (fail)
            go_roundg g2
            case measure => omega
            case rel => exact ⟨j + 1, r, rfl, by go_num, by omega, by rw [hbs.out, htH.out]; exact hZH.out, hb2H.out⟩
          · have hbit1 : bits .and .i64 ((u : Int) / 2 ^ j) 1 = 1 := by rw [hbit, ht]; rfl
            have htH := Lib.hid ht
            have hle := bits_len u j
            obtain ⟨m, hm⟩ : ∃ m, (bitsL u j).length = m := ⟨_, rfl⟩
            rw [hm] at hle
            obtain ⟨av, cv, hv⟩ := hZH.out.shape
            rw [nz_length, hm] at hv
            subst hv
            have hlz : Hid ((nz (bitsL u j)).length = m) := by show _ = _; rw [nz_length, hm]
            clear hbit ht hm
            go_wp2_with (first
              | (at_builtin; go_loud (refine wpList_append_ze _ rfl (.tmp 32) (.tmp 34) _ rfl Try.underlying24 wq.heap.size m (.slice av m cv) (nz (bitsL u j)) (by rfl) (hZH.out.alJ _) hlz.out _ 1 1 [(j : Int)] (by rfl) (IZ.one (by simp)) rfl (by omega) (by omega) (Nat.le_trans hb2H.out.size (by simp)) ?_); intro v2 w4 hA4; rw [nz_snoc] at hA4; have hA4H := Lib.hid hA4; clear hA4))
            go_roundg g2
            case measure => omega
            case rel => exact ⟨j + 1, v2, rfl, by go_num, by omega, by rw [hbs.out, if_pos htH.out]; exact hA4H.out.1, (below_al hb2H.out _).trans hA4H.out.2.1⟩
        · have hje : j = n := by omega
          subst hje
          have hjI : ¬ (j : Int) < (j : Int) := by omega
          obtain ⟨S, hS⟩ : ∃ S, bitsL u j = S := ⟨_, rfl⟩
          rw [hS] at hZH
          have hSH := Lib.hid hS
          have hle := bits_len u j
          rw [hS] at hle
          have hSlt : Hid (∀ x ∈ S, x < j) := by
            intro x hx
            rw [← hS] at hx
            exact (bitsL_asc u j).lt x hx
          obtain ⟨m, hm⟩ : ∃ m, S.length = m := ⟨_, rfl⟩
          have hmH := Lib.hid hm
          rw [hm] at hle
          obtain ⟨av, cv, hv⟩ := hZH.out.shape
          rw [nz_length, hm] at hv
          subst hv
          have hM5 := Lib.hid ((hMr.out).below (show Below _ _ wr by rw [← hwH.out]; exact hb2H.out))
          have hIH := Lib.hid hZH.out.iz
          clear hS hm
          go_wp2_with (fail)
          go_loopg [8, 10] j (fun gj hv kv wx => ∃ k : Nat, hv = .int .i64 (hndU A S k : Nat) ∧ kv = .int .i64 (k : Nat) ∧ k + gj = j ∧ wx = wr)
          case atStart => exact ⟨0, rfl, rfl, by omega, rfl⟩
          case round =>
            obtain ⟨k, rfl, rfl, hk, rfl⟩ := hrel
            have hdk := hndU_le A S k
            obtain ⟨hd, hhd⟩ : ∃ hd, hndU A S k = hd := ⟨_, rfl⟩
            rw [hhd] at hdk ⊢
            have hhdH := Lib.hid hhd
            clear hhd
            by_cases hkj : k < j
            · obtain ⟨g2, rfl⟩ : ∃ g2, gk = g2 + 1 := ⟨gk - 1, by omega⟩
              have hkI : (k : Int) < (j : Int) := by omega
              have hk0 : (0 : Int) ≤ (k : Int) := by omega
              go_wp2_with (fail)
              go_loopg [11, 12] m (fun gi bv iv wx => ∃ (i : Nat) (b : Bool), bv = .bool b ∧ (S.take i).any (fun x => A x k) = b ∧ iv = .int .i64 (i : Nat) ∧ i + gi = m ∧ wx = wr)
              case atStart => exact ⟨0, false, rfl, by simp, rfl, by omega, rfl⟩
              case round =>
                obtain ⟨i, b, rfl, hbb, rfl, hi, rfl⟩ := hrel
                have hbH := Lib.hid hbb
                clear hbb
                by_cases him : i < m
                · obtain ⟨g3, rfl⟩ : ∃ g3, gk = g3 + 1 := ⟨gk - 1, by omega⟩
                  have hiI : (i : Int) < (m : Int) := by omega
                  have hi0 : (0 : Int) ≤ (i : Int) := by omega
                  obtain ⟨x, hx⟩ : ∃ x, S[i]? = some x := ⟨_, List.getElem?_eq_getElem (by rw [hmH.out]; exact him)⟩
                  have hat := Lib.hid (any_take (P := fun x => A x k) hx)
                  cases b
                  · have hxn := hSlt.out x (List.mem_of_getElem? hx)
                    obtain ⟨b1, o1, rfl, e0⟩ := hIH.out.1 i _ (nz_get hx)
                    obtain ⟨b5, o3, b4, o4, c4, hao, e1, hc4, e2, p0, p1⟩ := (hM5.out).cost hgH.out hnH.out hxn hkj
                    subst hao
                    obtain ⟨y, hy⟩ : ∃ y, cst C x k = y := ⟨_, rfl⟩
                    rw [hy] at e2
                    have hAx : Hid (A x k = decide (y ≤ z)) := by show _ = _; rw [← hAH.out, ← hy]; rfl
                    have hxI : (x : Int) < (j : Int) := by omega
                    have hx0 : (0 : Int) ≤ (x : Int) := by omega
                    clear hx hy p0 p1
                    go_wp2_with (fail)
                    go_roundg g3
                    case measure => omega
                    case rel => exact ⟨i + 1, decide (y ≤ z), by first | rfl | simp, by rw [hat.out, hbH.out, hAx.out]; simp, by go_num, by omega, rfl⟩
                  · clear hx
                    go_wp2_with (fail)
                    go_roundg g3
                    case measure => omega
                    case rel => exact ⟨i + 1, true, rfl, by rw [hat.out, hbH.out]; rfl, by go_num, by omega, rfl⟩
                · have hie : i = m := by omega
                  subst hie
                  have hiI : ¬ (i : Int) < (i : Int) := by omega
                  have hsu := Lib.hid (hndU_succ A S k)
                  have hfull : Hid (S.any (fun x => A x k) = b) := by
                    show _ = _
                    have := hbH.out
                    rwa [List.take_of_length_le (by rw [hmH.out]; exact Nat.le_refl _)] at this
                  cases b
                  · go_wp2_with (fail)
                    go_roundg g2
                    case measure => omega
                    case rel => exact ⟨k + 1, by rw [hsu.out, hfull.out, hhdH.out]; rfl, by go_num, by omega, rfl⟩
                  · go_wp2_with (fail)
                    go_roundg g2
                    case measure => omega
                    case rel => exact ⟨k + 1, by rw [hsu.out, hfull.out, hhdH.out, if_pos rfl]; go_num, by go_num, by omega, rfl⟩
            · have hke : k = j := by omega
              subst hke
              have hkI : ¬ (k : Int) < (k : Int) := by omega
              have hlk : Hid (lackB A k S = decide (hd < m)) := by show _ = _; unfold lackB; rw [hmH.out]; rw [show (hnd A k S).length = hd from hhdH.out]
              by_cases hdm : hd < m
              · have hdI : (hd : Int) < (m : Int) := by omega
                have hdb : decide ((hd : Int) < (m : Int)) = true := decide_eq_true hdI
                have hlk1 : Hid (lackB A k S = true) := by show _ = _; rw [hlk.out]; exact decide_eq_true hdm
                obtain ⟨g8, c8, hv8⟩ := hZH.out.some (fun e => by have := congrArg List.length e; rw [nz_length, hmH.out] at this; simp at this; omega)
                rw [nz_length, hmH.out] at hv8
                simp only [Value.slice.injEq] at hv8
                obtain ⟨rfl, _, rfl⟩ := hv8
                cases best with
                | none =>
                  have hv := hBH.out
                  unfold BestV at hv
                  simp only at hv
                  subst hv
                  go_wp2_with (fail)
                  go_roundg g1
                  case measure => omega
                  case rel => exact ⟨u + 1, some S, _, rfl, by go_num, by omega, by omega, by omega, by have h9 := hLH.out.take (by rw [hSH.out]; exact hlk1.out) (.inl rfl); rwa [hSH.out] at h9, ⟨g8, cv, by rw [hmH.out], hIH.out.1, by rw [hmH.out]; exact hIH.out.2⟩, bseqJ hblH.out (by rw [← hwH.out]; exact hb2H.out)⟩
                | some p =>
                  obtain ⟨g9, c9, hv, hIp', hpc⟩ := hBH.out
                  obtain ⟨lp, hlp⟩ : ∃ lp, p.length = lp := ⟨_, rfl⟩
                  rw [hlp] at hv hpc
                  subst hv
                  have hlpH := Lib.hid hlp
                  have hIp := Lib.hid (hIp'.below (show Below _ _ wr by rw [← hwH.out]; exact hb2H.out))
                  have hlp8 : lp ≤ 8 := by rw [← hlp]; have := hLH.out.1.len; rcases this with h | h; omega; (subst h; simp)
                  clear hlp hIp'
                  rcases Nat.lt_trichotomy m lp with hml | hml | hml
                  · have c1 : decide ((m : Int) < (lp : Int)) = true := decide_eq_true (by omega)
                    have c2 : (m : Int) < (lp : Int) := by omega
                    go_wp2_with (fail)
                    go_roundg g1
                    case measure => omega
                    case rel => exact ⟨u + 1, some S, _, rfl, by go_num, by omega, by omega, by omega, by have h9 := hLH.out.take (by rw [hSH.out]; exact hlk1.out) (.inr ⟨p, rfl, .inl (by rw [hSH.out, hmH.out, hlpH.out]; exact hml)⟩); rwa [hSH.out] at h9, ⟨g8, cv, by rw [hmH.out], hIH.out.1, by rw [hmH.out]; exact hIH.out.2⟩, bseqJ hblH.out (by rw [← hwH.out]; exact hb2H.out)⟩
                  · subst hml
                    have c1 : decide ((m : Int) < (m : Int)) = false := decide_eq_false (by omega)
                    rcases hlb' : lessB (nz S) (nz p)
                    · have hlb := Lib.hid hlb'
                      clear hlb'
                      go_wp2_with (go_at_call 58; go_loud (refine (less_any (some ⟨g8, 0, none⟩) (some ⟨g9, 0, none⟩) cv c9 m (nz S) (nz p) false _ hIH.out.1 hIp.out (by rw [nz_length, hmH.out]) (by rw [nz_length, hlpH.out]) (by omega) hlb.out).mono ?_); rintro e w7 ⟨rfl, hb7⟩; have hb7H := Lib.hid hb7; clear hb7)
                      go_roundg g1
                      case measure => omega
                      case rel => exact ⟨u + 1, some p, _, rfl, by go_num, by omega, by omega, by omega, hLH.out.keep (.inr ⟨by rw [hSH.out, hmH.out, hlpH.out], by rw [hSH.out]; exact nz_nlt hlb.out⟩), hBH.out.below (bseqJ (show Below _ _ wr by rw [← hwH.out]; exact hb2H.out) hb7H.out), bseqJ hblH.out (bseqJ (by rw [← hwH.out]; exact hb2H.out) hb7H.out)⟩
                    · have hlb := Lib.hid hlb'
                      clear hlb'
                      go_wp2_with (go_at_call 58; go_loud (refine (less_any (some ⟨g8, 0, none⟩) (some ⟨g9, 0, none⟩) cv c9 m (nz S) (nz p) true _ hIH.out.1 hIp.out (by rw [nz_length, hmH.out]) (by rw [nz_length, hlpH.out]) (by omega) hlb.out).mono ?_); rintro e w7 ⟨rfl, hb7⟩; have hb7H := Lib.hid hb7; clear hb7)
                      go_roundg g1
                      case measure => omega
                      case rel => exact ⟨u + 1, some S, _, rfl, by go_num, by omega, by omega, by omega, by have h9 := hLH.out.take (by rw [hSH.out]; exact hlk1.out) (.inr ⟨p, rfl, .inr ⟨by rw [hSH.out, hmH.out, hlpH.out], by rw [hSH.out]; exact nz_ltl hlb.out⟩⟩); rwa [hSH.out] at h9, ⟨g8, cv, by rw [hmH.out], hIH.out.1.below hb7H.out, by rw [hmH.out]; exact hIH.out.2⟩, bseqJ hblH.out (bseqJ (by rw [← hwH.out]; exact hb2H.out) hb7H.out)⟩
                  · have c1 : decide ((m : Int) < (lp : Int)) = false := decide_eq_false (by omega)
                    have c2 : ¬ (m : Int) < (lp : Int) := by omega
                    have c3 : ((m : Int) == (lp : Int)) = false := by rw [beq_eq_false_iff_ne]; omega
                    go_wp2_with (fail)
                    go_roundg g1
                    case measure => omega
                    case rel => exact ⟨u + 1, some p, _, rfl, by go_num, by omega, by omega, by omega, hLH.out.keep (.inl (by rw [hSH.out, hmH.out, hlpH.out]; exact hml)), hBH.out.below (show Below _ _ wr by rw [← hwH.out]; exact hb2H.out), bseqJ hblH.out (by rw [← hwH.out]; exact hb2H.out)⟩
              · have hdI : ¬ (hd : Int) < (m : Int) := by omega
                have hdb : decide ((hd : Int) < (m : Int)) = false := decide_eq_false hdI
                go_wp2_with (fail)
                go_roundg g1
                case measure => omega
                case rel => exact ⟨u + 1, best, _, rfl, by go_num, by omega, by omega, by omega, hLH.out.no (by rw [hSH.out, hlk.out]; exact decide_eq_false hdm), hBH.out.below (show Below _ _ wr by rw [← hwH.out]; exact hb2H.out), bseqJ hblH.out (by rw [← hwH.out]; exact hb2H.out)⟩
    · have hue : u = N := by omega
      subst hue
      have huI : ¬ (u : Int) < (u : Int) := by omega
      go_wp2_with (fail)
      go_ret
      exact ⟨best, v, by rw [hNH.out]; exact hLH.out, rfl, hBH.out, hblH.out⟩
end Go.Proofs.Yteiipfajoikfpaa
