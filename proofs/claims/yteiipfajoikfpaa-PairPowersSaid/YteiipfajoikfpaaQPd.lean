/- Jq Jr Jt -/
import Derived.Test.YteiipfajoikfpaaQPc
set_option linter.unusedVariables false
/- Walks of the reference's Sum, Falling. -/
namespace Go.Proofs.Yteiipfajoikfpaa
open Go Go.RowKit Go.Proofs

/-- Where a cost lies. -/
theorem IMx.cost {w : World} {ao : Option Addr} {C : List (List Int)} (h : IMx w ao C) (hg : goodC C) {n i j : Nat} (hn : C.length = n) (hi : i < n) (hj : j < n) :
    ∃ b o b2 o2 c, ao = some ⟨b, o, none⟩ ∧ w.cell? ⟨b, o + i, none⟩ = some (.slice (some ⟨b2, o2, none⟩) n c) ∧ n ≤ c ∧ w.cell? ⟨b2, o2 + j, none⟩ = some (.int .i64 (cst C i j)) ∧ 0 ≤ cst C i j ∧ cst C i j ≤ 1000 := by
  obtain ⟨xs, hxs⟩ : ∃ xs, C[i]? = some xs := ⟨_, List.getElem?_eq_getElem (by omega)⟩
  obtain ⟨b, o, a, c, h1, h2, h3, h4⟩ := h.row hxs
  obtain ⟨g1, g2⟩ := hg.2.2 xs (List.mem_of_getElem? hxs)
  rw [g1, hn] at h2 h3
  obtain ⟨b2, o2, rfl, h5⟩ := h4.at (i := j) (by omega)
  have e : cst C i j = at0 xs j := by unfold cst; rw [hxs]; rfl
  obtain ⟨g3, g4⟩ := g2 (at0 xs j) (mem_at0 (by omega) hj)
  exact ⟨b, o, b2, o2, c, h1, h2, h3, by rw [e]; exact h5, by rw [e]; exact g3, by rw [e]; exact g4⟩
theorem good_cst {C : List (List Int)} (hg : goodC C) {n i j : Nat} (hn : C.length = n) (hi : i < n) (hj : j < n) : 0 ≤ cst C i j ∧ cst C i j ≤ 1000 := by
  obtain ⟨xs, hxs⟩ : ∃ xs, C[i]? = some xs := ⟨_, List.getElem?_eq_getElem (by omega)⟩
  obtain ⟨g1, g2⟩ := hg.2.2 xs (List.mem_of_getElem? hxs)
  have e : cst C i j = at0 xs j := by unfold cst; rw [hxs]; rfl
  rw [e]
  exact g2 _ (mem_at0 (n := n) (by omega) hj)
theorem pr_take (C : List (List Int)) {p : List Nat} {k j : Nat} (h : p[k]? = some j) : pcs C (p.take (k + 1)) = pcs C (p.take k) ++ [cst C k j] := by
  have hk : k < p.length := (List.getElem?_eq_some_iff.1 h).1
  rw [List.getElem?_eq_getElem hk] at h
  injection h with h
  rw [List.take_succ_eq_append_getElem hk, pcs_snoc, h, List.length_take, Nat.min_eq_left (by omega)]

/-- The index of a pairing's pair. -/
theorem IZ.col {w : World} {ao : Option Addr} {p : List Nat} (h : IZ w ao (nz p)) {k j : Nat} (hj : p[k]? = some j) : ∃ b o, ao = some ⟨b, o, none⟩ ∧ w.cell? ⟨b, o + k, none⟩ = some (.int .i64 (j : Nat)) := h k _ (nz_get hj)

set_option maxHeartbeats 1600000 in
theorem sum_anyJ (ao bo : Option Addr) (c d n : Nat) (C : List (List Int)) (p : List Nat) (s : Int) (w : World) (h1 : IMx w ao C) (h2 : IZ w bo (nz p)) (hg : goodC C) (hn : C.length = n) (hp : Pr n p) (hs : sumC C p = s) :
    Calls Try.prog 38 #[.slice ao n c, .slice bo n d] w (RetI w s) := by
  have hsH := Lib.hid hs
  have hnH := Lib.hid hn
  have hgH := Lib.hid hg
  have hpH := Lib.hid hp
  have h1H := Lib.hid h1
  have h2H := Lib.hid h2
  have hn8 : n ≤ 8 := by rw [← hn]; exact hg.2.1
  clear hs hn hg hp h1 h2
  go_enter Try.func38, Try.ntmps38
  go_wp2
  go_loopw [5, 6] (fun sv i wr => ∃ (k : Nat) (z : Int), i = .int .i64 (k : Nat) ∧ sv = .int .i64 z ∧ k ≤ n ∧ (pcs C (p.take k)).sum = z ∧ 0 ≤ z ∧ z ≤ 1000 * k ∧ Below w.heap.size w wr) (fun _ i _ => n - (intOf i).toNat)
  case atStart => exact ⟨0, 0, rfl, rfl, by omega, by simp [pcs], by omega, by omega, Below.refl _ _⟩
  case round =>
    obtain ⟨k, z, rfl, rfl, hk, hz, hz0, hz1, hbl⟩ := hrel
    have hzH := Lib.hid hz
    have hblH := Lib.hid hbl
    clear hz
    by_cases hkn : k < n
    · obtain ⟨j, hj, hjn⟩ := hpH.out.get hkn
      obtain ⟨b1, o1, b2, o2, c2, rfl, e1, hc2, e2, q0, q1⟩ := (h1H.out.below hbl).cost hgH.out hnH.out hkn hjn
      obtain ⟨b3, o3, rfl, e3⟩ := (h2H.out.below hbl).col hj
      have ht := Lib.hid (pr_take C hj)
      obtain ⟨x, hx⟩ : ∃ x, cst C k j = x := ⟨_, rfl⟩
      rw [hx] at e2 q0 q1
      have hxH := Lib.hid hx
      have hk0 : (0 : Int) ≤ (k : Int) := by omega
      have hkI : (k : Int) < (n : Int) := by omega
      have hj0 : (0 : Int) ≤ (j : Int) := by omega
      have hjI : (j : Int) < (n : Int) := by omega
      have hw : IntKind.i64.wrap (z + x) = z + x := by rw [IntKind.wrap_i64]; omega
      clear hx hj hbl
      go_wp2
      go_quiet (fail)
      clear hw
      go_wp2
      go_roundw
      case rel => exact ⟨k + 1, z + x, by go_num, rfl, by omega, by rw [ht.out, List.sum_append, hxH.out, hzH.out]; simp, by omega, by omega, bdn hblH.out⟩
      case measure => simp [intOf]; omega
    · have hke : k = n := by omega
      subst hke
      go_wp2
      go_ret
      refine ⟨ret_intJ ?_, hblH.out⟩
      rw [← hsH.out]
      have := hzH.out
      rw [List.take_of_length_le (by rw [hpH.out.len]; exact Nat.le_refl _)] at this
      exact this.symm

theorem bseqJ {w w1 w2 : World} (h : Below w.heap.size w w1) (hb : Below w1.heap.size w1 w2) : Below w.heap.size w w2 := h.trans (hb.mono h.size)
theorem insF_at {v : Int} {F : List Int} {m : Nat} (h1 : ∀ x ∈ F.take m, v ≤ x) (h2 : F.length ≤ m ∨ at0 F m < v) : insF v F = F.take m ++ [v] ++ F.drop m := by
  induction F generalizing m with
  | nil => simp [insF]
  | cons a F ih =>
    rcases m with _ | m
    · have : ¬ v ≤ a := by
        rcases h2 with h2 | h2
        · simp at h2
        · have e : at0 (a :: F) 0 = a := rfl
          rw [e] at h2; omega
      unfold insF
      rw [List.takeWhile_cons_of_neg (by simpa using this), List.dropWhile_cons_of_neg (by simpa using this)]
      rfl
    · have ha : v ≤ a := h1 a (by simp)
      have hi := ih (m := m) (fun x hx => h1 x (by simp [hx])) (by
        rcases h2 with h2 | h2
        · left; simpa using h2
        · exact .inr h2)
      unfold insF at hi ⊢
      rw [List.takeWhile_cons_of_pos (by simpa using ha), List.dropWhile_cons_of_pos (by simpa using ha), List.cons_append, hi]
      simp
set_option maxRecDepth 100000 in
set_option maxHeartbeats 3200000 in
theorem falling_any (ao bo : Option Addr) (c d n : Nat) (C : List (List Int)) (p : List Nat) (fs : List Int) (w : World) (h1 : IMx w ao C) (h2 : IZ w bo (nz p)) (hg : goodC C) (hn : C.length = n) (hp : Pr n p) (hf : fall (pcs C p) = fs) :
    Calls Try.prog 32 #[.slice ao n c, .slice bo n d] w (RetZ w fs) := by
  have hfH := Lib.hid hf
  have hnH := Lib.hid hn
  have hgH := Lib.hid hg
  have hpH := Lib.hid hp
  have h1H := Lib.hid h1
  have h2H := Lib.hid h2
  have hn8 : n ≤ 8 := by rw [← hn]; exact hg.2.1
  clear hf hn hg hp h1 h2
  go_enter Try.func32, Try.ntmps32
  go_wp2
  go_loopw [5, 6] (fun b i wr => ∃ (k : Nat) (F : List Int) (g cb : Nat), i = .int .i64 (k : Nat) ∧ b = .slice (some ⟨g, 0, none⟩) k cb ∧ k ≤ n ∧ fall (pcs C (p.take k)) = F ∧ F.length = k ∧ ZE wr w.heap.size b F ∧ Below w.heap.size w wr) (fun _ i _ => n - (intOf i).toNat)
  case atStart => exact ⟨0, [], w.heap.size, 0, rfl, rfl, by omega, rfl, rfl, ZE.lit _ _ _, (Below.refl _ _).alloc (Nat.le_refl _) _⟩
  case round =>
    obtain ⟨k, F, g, cb, rfl, rfl, hk, hF, hFl, hO, hbl⟩ := hrel
    have hFH := Lib.hid hF
    have hFlH := Lib.hid hFl
    have hOH := Lib.hid hO
    have hblH := Lib.hid hbl
    have hkcb := hO.iz.2
    clear hF hFl hO
    by_cases hkn : k < n
    · obtain ⟨j, hj, hjn⟩ := hpH.out.get hkn
      obtain ⟨b1, o1, b2, o2, c2, rfl, e1, hc2, e2, q0, q1⟩ := (h1H.out.below hbl).cost hgH.out hnH.out hkn hjn
      obtain ⟨b3, o3, rfl, e3⟩ := (h2H.out.below hbl).col hj
      have ht := Lib.hid (pr_take C hj)
      obtain ⟨x, hx⟩ : ∃ x, cst C k j = x := ⟨_, rfl⟩
      rw [hx] at e2 q0 q1
      have hxH := Lib.hid hx
      have hk0 : (0 : Int) ≤ (k : Int) := by omega
      have hkI : (k : Int) < (n : Int) := by omega
      have hj0 : (0 : Int) ≤ (j : Int) := by omega
      have hjI : (j : Int) < (n : Int) := by omega
      clear hx hj hbl
      go_wp2_with (fail)
      go_cut [7] from 16 to 25 (fun s7 wx => s7 = .int .i64 x ∧ Below wr.heap.size wr wx)
      case first =>
        go_quiet (fail)
        go_wp2
        go_meet
        exact ⟨rfl, bdn (Below.refl _ _)⟩
      case rest =>
      obtain ⟨rfl, hbc⟩ := hcut
      have hbcH := Lib.hid (bseqJ hblH.out hbc)
      have hOc := Lib.hid (hOH.out.below hbc)
      have hIc := Lib.hid hOc.out.iz.1
      clear hOH hblH hbc e1 e2 e3
      go_wp2_with (fail)
      go_loop [8] (fun mv => ∃ m : Nat, mv = .int .i64 (m : Nat) ∧ m ≤ k ∧ ∀ y ∈ F.take m, x ≤ y) (fun mv => k - (intOf mv).toNat)
      case atStart => exact ⟨0, rfl, by omega, by simp⟩
      case round =>
        obtain ⟨m, rfl, hm, hge⟩ := hrel
        have hgeH := Lib.hid hge
        clear hge
        by_cases hmk : m < k ∧ x ≤ at0 F m
        · obtain ⟨hmk, hxm⟩ := hmk
          obtain ⟨b4, o4, ha4, e4⟩ := hIc.out.at (i := m) (by rw [hFlH.out]; exact hmk)
          injection ha4 with ha4
          injection ha4 with hb4 ho4
          subst hb4 ho4
          rw [Nat.zero_add] at e4
          obtain ⟨y, hy⟩ : ∃ y, at0 F m = y := ⟨_, rfl⟩
          have ht2 := Lib.hid (take_at0 F (k := m) (by rw [hFlH.out]; exact hmk))
          rw [hy] at e4 hxm
          have hyH := Lib.hid hy
          have hmI : decide ((m : Int) < (k : Int)) = true := by simp; omega
          have hm0 : (0 : Int) ≤ (m : Int) := by omega
          have hmk2 : (m : Int) < (k : Int) := by omega
          have hxd : decide (x ≤ y) = true := by simpa using hxm
          clear hy
          go_wp2
          go_round
          case rel => exact ⟨m + 1, by go_num, by omega, by rw [ht2.out, hyH.out]; intro z hz; rcases List.mem_append.1 hz with h | h; exact hgeH.out z h; rw [List.mem_singleton.1 h]; exact hxm⟩
          case measure => simp [intOf]; omega
        · have hins := Lib.hid (insF_at hgeH.out (by rw [hFlH.out]; omega))
          have hins2 : Hid (fall (pcs C (p.take (k + 1))) = F.take m ++ [x] ++ F.drop m) := by
            show _ = _
            rw [ht.out, fall_snoc, hFH.out, hxH.out, hins.out]
          have hl1 : Hid ((F.take m).length = m) := by show _ = _; rw [List.length_take, hFlH.out]; omega
          have hl2 : Hid ((F.drop m).length = k - m) := by show _ = _; rw [List.length_drop, hFlH.out]
          have hI1 := Lib.hid (hIc.out.take m)
          have hgo : (m < k ∧ at0 F m < x) ∨ m = k := by omega
          have hl12 : Hid ((F.take m ++ [x]).length = m + 1) := by show _ = _; rw [List.length_append, hl1.out]; rfl
          have hl3 : Hid ((F.take m ++ [x] ++ F.drop m).length = k + 1) := by show _ = _; rw [List.length_append, hl12.out, hl2.out]; omega
          have hne3 : Hid (F.take m ++ [x] ++ F.drop m ≠ []) := by show _ ≠ _; intro h; have := congrArg List.length h; rw [hl3.out] at this; simp at this
          -- REGION 9
          rcases hgo with ⟨hmk3, hlt3⟩ | hmk3
          · -- some are less
            obtain ⟨b4, o4, ha4, e4⟩ := hIc.out.at (i := m) (by rw [hFlH.out]; exact hmk3)
            injection ha4 with ha4
            injection ha4 with hb4 ho4
            subst hb4 ho4
            rw [Nat.zero_add] at e4
            obtain ⟨y, hy⟩ : ∃ y, at0 F m = y := ⟨_, rfl⟩
            rw [hy] at e4 hlt3
            have hmI : decide ((m : Int) < (k : Int)) = true := by simp; omega
            have hm0 : (0 : Int) ≤ (m : Int) := by omega
            have hmk2 : (m : Int) < (k : Int) := by omega
            have hmk4 : (m : Int) ≤ (k : Int) := by omega
            have hmc : (m : Int) ≤ (cb : Int) := by omega
            have hkc : (k : Int) ≤ (cb : Int) := by omega
            have hmcne : ¬ cb = m := by omega
            have hxd : decide (x ≤ y) = false := by simp; omega
            have hI2 := Lib.hid (show IZ wc (some ⟨g, m, none⟩) (F.drop m) by have := hIc.out.drop m; rwa [Nat.zero_add] at this)
            clear hy
            go_wp2_with (fail)
            go_region_held3 (fun w' => Below wc.heap.size wc w')
              (repeat (first | assumption | (with_reducible exact Below.refl _ _) | (with_reducible refine Below.drew ?_) | (with_reducible refine below_al ?_ _)))
              (first
                | ((refine step_append_ze rfl (.tmp 40) (.tmp 43) _ rfl Try.underlying24 wc.heap.size 0 _ [] (by rfl) (ZE.lit _ _ _) rfl (some ⟨g, 0, none⟩) m cb (F.take m) (by rfl) (hI1.out.upto (by assumption) (Nat.le_refl _)) hl1.out (by omega) (by omega) (Below.size (by assumption)) ?_); intro v1 x1 hA1; have hb1 : Below wc.heap.size wc x1 := Below.trans (by assumption) hA1.2.1; have hcl1 := Lib.hid (fun b o h1 h2 => AppZ.cell hA1 (b := b) (o := o) h1 h2); rw [List.nil_append] at hA1; obtain ⟨a1, d1, hv1⟩ := hA1.1.shape; rw [hl1.out] at hv1; subst hv1; have hZ1 := Lib.hid hA1.1; clear hA1)
                | ((refine step_append_ze rfl (.tmp 44) (.tmp 46) _ rfl Try.underlying24 wc.heap.size m (.slice a1 m d1) (F.take m) (by rfl) (by first | exact hZ1.out | exact hZ1.out.below ((Below.refl _ _).alloc (Nat.le_refl _) _)) hl1.out _ 1 1 [x] (by rfl) (IZ.one (by first | (simp; done) | (rw [hcl1.out _ _ (by first | (simp; done) | (simp; omega)) (by simp [Value.ownBlock])]; simp; done))) rfl (by omega) (by omega) (Below.size (by assumption)) ?_); intro v2 x2 hA2; have hb2 : Below wc.heap.size wc x2 := Below.trans (by assumption) hA2.2.1; obtain ⟨a2, d2, hv2⟩ := hA2.1.shape; rw [hl12.out] at hv2; subst hv2; have hZ2 := Lib.hid hA2.1; clear hA2)
                | ((refine step_append_ze rfl (.tmp 47) (.tmp 50) _ rfl Try.underlying24 wc.heap.size (m + 1) (.slice a2 (m + 1) d2) (F.take m ++ [x]) (by rfl) hZ2.out hl12.out (some ⟨g, m, none⟩) (k - m) (cb - m) (F.drop m) (by rfl) (hI2.out.upto (by assumption) (Nat.le_refl _)) hl2.out (by omega) (by omega) (Below.size (by assumption)) ?_); intro v3 x3 hA3; have hb3 : Below wc.heap.size wc x3 := Below.trans (by assumption) hA3.2.1; have hA3H := Lib.hid hA3; clear hA3))
            all_goals (
              go_wp2_with (fail)
              obtain ⟨g3, c3, hv3⟩ := hA3H.out.1.some hne3.out
              rw [hl3.out] at hv3
              subst hv3
              go_roundw
              case rel => exact ⟨k + 1, _, g3, c3, by go_num, by go_num, by omega, hins2.out, hl3.out, hA3H.out.1.mono hbcH.out.size, bseqJ hbcH.out hb3⟩
              case measure => simp [intOf]; omega)

          · subst hmk3
            by_cases hcap : m = cb
            · subst hcap
              have hmI : decide ((m : Int) < (m : Int)) = false := by simp
              have hm0 : (0 : Int) ≤ (m : Int) := by omega
              have hl20 : Hid ((F.drop m).length = 0) := by show _ = _; rw [hl2.out]; omega
              have hI2 := Lib.hid (show ∀ a, IZ wc a (F.drop m) by intro a; rw [List.drop_of_length_le (by rw [hFlH.out]; exact Nat.le_refl _)]; exact IZ.nil _ _)
              go_wp2_with (fail)
              go_region_held3 (fun w' => Below wc.heap.size wc w')
                (repeat (first | assumption | (with_reducible exact Below.refl _ _) | (with_reducible refine Below.drew ?_) | (with_reducible refine below_al ?_ _)))
                (first
                  | ((refine step_append_ze rfl (.tmp 40) (.tmp 43) _ rfl Try.underlying24 wc.heap.size 0 _ [] (by rfl) (ZE.lit _ _ _) rfl (some ⟨g, 0, none⟩) m m (F.take m) (by rfl) (hI1.out.upto (by assumption) (Nat.le_refl _)) hl1.out (by omega) (by omega) (Below.size (by assumption)) ?_); intro v1 x1 hA1; have hb1 : Below wc.heap.size wc x1 := Below.trans (by assumption) hA1.2.1; have hcl1 := Lib.hid (fun b o h1 h2 => AppZ.cell hA1 (b := b) (o := o) h1 h2); rw [List.nil_append] at hA1; obtain ⟨a1, d1, hv1⟩ := hA1.1.shape; rw [hl1.out] at hv1; subst hv1; have hZ1 := Lib.hid hA1.1; clear hA1)
                  | ((refine step_append_ze rfl (.tmp 44) (.tmp 46) _ rfl Try.underlying24 wc.heap.size m (.slice a1 m d1) (F.take m) (by rfl) (by first | exact hZ1.out | exact hZ1.out.below ((Below.refl _ _).alloc (Nat.le_refl _) _)) hl1.out _ 1 1 [x] (by rfl) (IZ.one (by first | (simp; done) | (rw [hcl1.out _ _ (by first | (simp; done) | (simp; omega)) (by simp [Value.ownBlock])]; simp; done))) rfl (by omega) (by omega) (Below.size (by assumption)) ?_); intro v2 x2 hA2; have hb2 : Below wc.heap.size wc x2 := Below.trans (by assumption) hA2.2.1; obtain ⟨a2, d2, hv2⟩ := hA2.1.shape; rw [hl12.out] at hv2; subst hv2; have hZ2 := Lib.hid hA2.1; clear hA2)
                  | ((refine step_append_ze rfl (.tmp 47) (.tmp 50) _ rfl Try.underlying24 wc.heap.size (m + 1) (.slice a2 (m + 1) d2) (F.take m ++ [x]) (by rfl) hZ2.out hl12.out (some ⟨g, 0, none⟩) 0 0 (F.drop m) (by rfl) ((hI2.out _).upto (by assumption) (Nat.le_refl _)) hl20.out (by omega) (by omega) (Below.size (by assumption)) ?_); intro v3 x3 hA3; have hb3 : Below wc.heap.size wc x3 := Below.trans (by assumption) hA3.2.1; have hA3H := Lib.hid hA3; clear hA3))
              all_goals (
                go_wp2_with (fail)
                obtain ⟨g3, c3, hv3⟩ := hA3H.out.1.some hne3.out
                rw [hl3.out] at hv3
                subst hv3
                go_roundw
                case rel => exact ⟨m + 1, _, g3, c3, by go_num, by go_num, by omega, hins2.out, hl3.out, hA3H.out.1.mono hbcH.out.size, bseqJ hbcH.out hb3⟩
                case measure => simp [intOf]; omega)

            · have hcap2 : m < cb := by omega
              have hmI : decide ((m : Int) < (m : Int)) = false := by simp
              have hm0 : (0 : Int) ≤ (m : Int) := by omega
              have hmc : (m : Int) ≤ (cb : Int) := by omega
              have hmcne : ¬ cb = m := by omega
              have hl20 : Hid ((F.drop m).length = 0) := by show _ = _; rw [hl2.out]; omega
              have hI2 := Lib.hid (show ∀ a, IZ wc a (F.drop m) by intro a; rw [List.drop_of_length_le (by rw [hFlH.out]; exact Nat.le_refl _)]; exact IZ.nil _ _)
              go_wp2_with (fail)
              go_region_held3 (fun w' => Below wc.heap.size wc w')
                (repeat (first | assumption | (with_reducible exact Below.refl _ _) | (with_reducible refine Below.drew ?_) | (with_reducible refine below_al ?_ _)))
                (first
                  | ((refine step_append_ze rfl (.tmp 40) (.tmp 43) _ rfl Try.underlying24 wc.heap.size 0 _ [] (by rfl) (ZE.lit _ _ _) rfl (some ⟨g, 0, none⟩) m cb (F.take m) (by rfl) (hI1.out.upto (by assumption) (Nat.le_refl _)) hl1.out (by omega) (by omega) (Below.size (by assumption)) ?_); intro v1 x1 hA1; have hb1 : Below wc.heap.size wc x1 := Below.trans (by assumption) hA1.2.1; have hcl1 := Lib.hid (fun b o h1 h2 => AppZ.cell hA1 (b := b) (o := o) h1 h2); rw [List.nil_append] at hA1; obtain ⟨a1, d1, hv1⟩ := hA1.1.shape; rw [hl1.out] at hv1; subst hv1; have hZ1 := Lib.hid hA1.1; clear hA1)
                  | ((refine step_append_ze rfl (.tmp 44) (.tmp 46) _ rfl Try.underlying24 wc.heap.size m (.slice a1 m d1) (F.take m) (by rfl) (by first | exact hZ1.out | exact hZ1.out.below ((Below.refl _ _).alloc (Nat.le_refl _) _)) hl1.out _ 1 1 [x] (by rfl) (IZ.one (by first | (simp; done) | (rw [hcl1.out _ _ (by first | (simp; done) | (simp; omega)) (by simp [Value.ownBlock])]; simp; done))) rfl (by omega) (by omega) (Below.size (by assumption)) ?_); intro v2 x2 hA2; have hb2 : Below wc.heap.size wc x2 := Below.trans (by assumption) hA2.2.1; obtain ⟨a2, d2, hv2⟩ := hA2.1.shape; rw [hl12.out] at hv2; subst hv2; have hZ2 := Lib.hid hA2.1; clear hA2)
                  | ((refine step_append_ze rfl (.tmp 47) (.tmp 50) _ rfl Try.underlying24 wc.heap.size (m + 1) (.slice a2 (m + 1) d2) (F.take m ++ [x]) (by rfl) hZ2.out hl12.out (some ⟨g, m, none⟩) 0 (cb - m) (F.drop m) (by rfl) ((hI2.out _).upto (by assumption) (Nat.le_refl _)) hl20.out (by omega) (by omega) (Below.size (by assumption)) ?_); intro v3 x3 hA3; have hb3 : Below wc.heap.size wc x3 := Below.trans (by assumption) hA3.2.1; have hA3H := Lib.hid hA3; clear hA3))
              all_goals (
                go_wp2_with (fail)
                obtain ⟨g3, c3, hv3⟩ := hA3H.out.1.some hne3.out
                rw [hl3.out] at hv3
                subst hv3
                go_roundw
                case rel => exact ⟨m + 1, _, g3, c3, by go_num, by go_num, by omega, hins2.out, hl3.out, hA3H.out.1.mono hbcH.out.size, bseqJ hbcH.out hb3⟩
                case measure => simp [intOf]; omega)

          -- REGION 9 END
    · have hke : k = n := by omega
      subst hke
      go_wp2
      go_ret
      have hfull := hFH.out
      rw [List.take_of_length_le (by rw [hpH.out.len]; exact Nat.le_refl _), hfH.out] at hfull
      subst hfull
      exact ⟨some ⟨g, 0, none⟩, cb, by rw [hFlH.out]; rfl, hOH.out.iz.1, by rw [hFlH.out]; exact hOH.out.iz.2, hblH.out⟩
end Go.Proofs.Yteiipfajoikfpaa

/- Walk of the reference's All. -/
namespace Go.Proofs.Yteiipfajoikfpaa
open Go Go.RowKit Go.Proofs

theorem allU_le {n m : Nat} (ih : ∀ f, (allP n m f).length ≤ n ^ m) (f : List Nat) (k : Nat) : (allU n m f k).length ≤ k * n ^ m := by
  induction k with
  | zero => rw [allU_zero]; exact Nat.zero_le _
  | succ k ihk =>
    rw [Nat.succ_mul]
    by_cases h : k ∈ f
    · rw [allU_skip _ _ _ _ h]; omega
    · rw [allU_take _ _ _ _ h, List.length_append]
      have := ih (f ++ [k]); omega
theorem allP_le (n : Nat) : ∀ m f, (allP n m f).length ≤ n ^ m := by
  intro m
  induction m with
  | zero => intro f; simp [allP]
  | succ m ih =>
    intro f
    rw [allP_succ, Nat.pow_succ, Nat.mul_comm]
    exact allU_le ih f n
theorem pow_small {n m : Nat} (hn : n ≤ 8) (hm : m ≤ 8) : n ^ m ≤ 16777216 := by
  have h1 : n ^ m ≤ 8 ^ m := Nat.pow_le_pow_left hn m
  have h2 : 8 ^ m ≤ 8 ^ 8 := Nat.pow_le_pow_right (by omega) hm
  omega
theorem allU_small {n m : Nat} (f : List Nat) {k : Nat} (hn : n ≤ 8) (hm : m ≤ 8) (hk : k ≤ n) : (allU n m f k).length ≤ 134217728 := by
  have h1 := allU_le (allP_le n m) f k
  have h2 := pow_small hn hm
  have h3 : k * n ^ m ≤ 8 * 16777216 := Nat.mul_le_mul (by omega) h2
  omega
theorem allP_pos (n : Nat) : ∀ m f, f.length + m = n → 0 < (allP n m f).length := by
  intro m
  induction m with
  | zero => intro f _; simp [allP]
  | succ m ih =>
    intro f hl
    obtain ⟨j, hj, hjf⟩ : ∃ j, j < n ∧ j ∉ f := by
      refine Classical.byContradiction fun hno => ?_
      have hs : List.range n ⊆ f := fun x hx => by
        refine Classical.byContradiction fun hnot => hno ⟨x, List.mem_range.1 hx, hnot⟩
      have := List.nodup_range.length_le_of_subset hs
      rw [List.length_range] at this
      omega
    have h1 := ih (f ++ [j]) (by simp; omega)
    obtain ⟨p, hp⟩ := List.exists_mem_of_length_pos h1
    refine List.length_pos_of_mem (a := p) ?_
    simp only [allP, List.mem_flatMap, List.mem_filter, List.mem_range, Bool.not_eq_true', List.contains_eq_mem, decide_eq_false_iff_not]
    exact ⟨j, ⟨hj, hjf⟩, hp⟩
/-- The rows of pairings. -/
def rowsP (L : List (List Nat)) : List (List Int) := L.map nz
theorem rowsP_append (L M : List (List Nat)) : rowsP L ++ rowsP M = rowsP (L ++ M) := by simp [rowsP]
theorem rowsP_length (L : List (List Nat)) : (rowsP L).length = L.length := by simp [rowsP]
theorem hasB_nz (f : List Nat) (k : Nat) : hasB (nz f) (k : Int) = decide (k ∈ f) := by unfold hasB; exact decide_eq_decide.2 mem_nz
theorem RetM.out {w : World} {C : List (List Int)} {e : Ending} {w' : World} (h : RetM w C e w') {n : Nat} (hn : C.length = n) : ∃ a c, e = .returned (.slice a n c) ∧ IMx w' a C ∧ n ≤ c ∧ Below w.heap.size w w' := by
  subst hn; exact h
set_option maxRecDepth 100000 in
set_option maxHeartbeats 3200000 in
theorem all_any (n : Nat) (hn8 : n ≤ 8) : ∀ (m l : Nat) (f : List Nat) (ao : Option Addr) (c : Nat) (w : World), f.length = l → l + m = n → f.Nodup → (∀ x ∈ f, x < n) → IZ w ao (nz f) →
    Calls Try.prog 53 #[.slice ao l c, .int .i64 (n : Nat)] w (RetM w (rowsP (allP n m f))) := by
  intro m
  induction m with
  | zero =>
    intro l f ao c w hl hm hnd hlt hI
    have hln : l = n := by omega
    have hlz : Hid ((nz f).length = l) := by show _ = _; rw [nz_length]; exact hl
    have hIH := Lib.hid hI
    have e1 : ((l : Int) == (n : Int)) = true := by simp; omega
    clear hnd hlt hI hl
    go_enter Try.func53, Try.ntmps53
    go_wp2_with (first
      | (at_builtin; go_loud (refine wpList_append_ze _ rfl (.tmp 11) (.tmp 12) _ rfl Try.underlying24 w.heap.size 0 _ [] (by rfl) (ZE.lit _ _ _) rfl ao l c (nz f) (by rfl) (hIH.out.below ((Below.refl _ _).alloc (Nat.le_refl _) _)) hlz.out (by omega) (by omega) (by simp) ?_); intro v1 x1 hA1; rw [List.nil_append] at hA1; obtain ⟨a1, d1, hv1⟩ := hA1.1.shape; rw [hlz.out] at hv1; subst hv1; have hZ1 := Lib.hid hA1.1.iz; have hb1 := Lib.hid (((Below.refl w.heap.size w).alloc (Nat.le_refl _) _).trans hA1.2.1); clear hA1))
    go_ret
    refine ⟨_, _, rfl, ?_, Nat.le_refl _, hb1.out.alloc hb1.out.size _⟩
    refine ⟨[.slice a1 l d1], fun i v hv => ?_, rfl, fun i v xs hv hx => ?_⟩
    · rcases i with _ | i
      · simp at hv; subst hv
        exact ⟨_, 0, rfl, by simp; try omega⟩
      · simp at hv
    · rcases i with _ | i
      · simp [rowsP, allP] at hv hx
        subst hv hx
        exact ⟨a1, d1, by rw [hlz.out, hln], by rw [hlz.out]; exact hZ1.out.2, hZ1.out.1.below ((Below.refl _ _).alloc (Nat.le_refl _) _)⟩
      · simp at hv
  | succ m ih =>
    intro l f ao c w hl hm hnd hlt hI
    have hlz : Hid ((nz f).length = l) := by show _ = _; rw [nz_length]; exact hl
    have hIH := Lib.hid hI
    have hlH := Lib.hid hl
    have hndH := Lib.hid hnd
    have hltH := Lib.hid hlt
    have e1 : ((l : Int) == (n : Int)) = false := by simp; omega
    have ihH := Lib.hid ih
    clear hnd hlt hI hl ih
    go_enter Try.func53, Try.ntmps53
    go_wp2
    go_loopw [5, 6] (fun b i wr => ∃ k : Nat, i = .int .i64 (k : Nat) ∧ k ≤ n ∧ MI wr w.heap.size b (rowsP (allU n m f k)) ∧ Below w.heap.size w wr) (fun _ i _ => n - (intOf i).toNat)
    case atStart => exact ⟨0, rfl, by omega, MI.lit0 _ _ (Nat.le_refl _), (Below.refl _ _).alloc (Nat.le_refl _) _⟩
    case round =>
      obtain ⟨k, rfl, hk, hM, hbl⟩ := hrel
      obtain ⟨ab, cb, hbv⟩ := hM.shape
      subst hbv
      obtain ⟨u, hu⟩ : ∃ u, (rowsP (allU n m f k)).length = u := ⟨_, rfl⟩
      have hus : u ≤ 134217728 := by rw [← hu, rowsP_length]; exact allU_small f hn8 (by omega) hk
      rw [hu] at hM ⊢
      have huH := Lib.hid hu
      have hMH := Lib.hid hM
      have hblH := Lib.hid hbl
      have hIr := Lib.hid (hIH.out.below hbl)
      clear hu hM hbl
      by_cases hkn : k < n
      · by_cases hkf : k ∈ f
        · have hb := Lib.hid (show hasB (nz f) (k : Int) = true by rw [hasB_nz]; simpa using hkf)
          have hU := Lib.hid (allU_skip n m f k hkf)
          clear hkf
          go_wp2_with (go_at_call 62; (with_reducible refine (has_any ao c l (nz f) (k : Nat) true _ hIr.out hlz.out (by omega) hb.out).mono ?_); rintro e w1 ⟨rfl, rfl⟩)
          go_roundw
          case rel => exact ⟨k + 1, by go_num, by omega, by rw [hU.out]; exact hMH.out, hblH.out⟩
          case measure => simp [intOf]; omega
        · have hb := Lib.hid (show hasB (nz f) (k : Int) = false by rw [hasB_nz]; simpa using hkf)
          have hU := Lib.hid (show rowsP (allU n m f k) ++ rowsP (allP n m (f ++ [k])) = rowsP (allU n m f (k + 1)) by rw [rowsP_append, allU_take n m f k hkf])
          have hnd2 := Lib.hid (snoc_nodup hndH.out hkf)
          have hlt2 := Lib.hid (snoc_lt hltH.out hkn)
          have hl2 : Hid ((f ++ [k]).length = l + 1) := by show _ = _; rw [List.length_append, hlH.out]; rfl
          have hnz2 := Lib.hid (nz_snoc f k)
          have hlz2 : Hid ((nz (f ++ [k])).length = l + 1) := by show _ = _; rw [nz_length]; exact hl2.out
          obtain ⟨t, ht⟩ : ∃ t, (rowsP (allP n m (f ++ [k]))).length = t := ⟨_, rfl⟩
          have ht0 : 0 < t := by rw [← ht, rowsP_length]; exact allP_pos n m _ (by rw [hl2.out]; omega)
          have hts : t ≤ 16777216 := by rw [← ht, rowsP_length]; exact Nat.le_trans (allP_le n m _) (pow_small hn8 (by omega))
          have htH := Lib.hid ht
          clear hkf ht
          go_wp2_with (first
            | (go_at_call 62; (with_reducible refine (has_any ao c l (nz f) (k : Nat) false _ hIr.out hlz.out (by omega) hb.out).mono ?_); rintro e w1 ⟨rfl, rfl⟩)
            | (at_builtin; go_loud (refine wpList_append_ze _ rfl (.tmp 26) (.tmp 27) _ rfl Try.underlying24 wr.heap.size 0 _ [] (by rfl) (ZE.lit _ _ _) rfl ao l c (nz f) (by rfl) (hIr.out.below ((Below.refl _ _).alloc (Nat.le_refl _) _)) hlz.out (by omega) (by omega) (by simp) ?_); intro v1 x1 hA1; rw [List.nil_append] at hA1; obtain ⟨a1, d1, hv1⟩ := hA1.1.shape; rw [hlz.out] at hv1; subst hv1; have hZ1 := Lib.hid hA1.1; have hb1 := Lib.hid (((Below.refl wr.heap.size wr).alloc (Nat.le_refl _) _).trans hA1.2.1); clear hA1)
            | (at_builtin; go_loud (refine wpList_append_ze _ rfl (.tmp 28) (.tmp 30) _ rfl Try.underlying24 wr.heap.size l (.slice a1 l d1) (nz f) (by rfl) (hZ1.out.below ((Below.refl _ _).alloc (Nat.le_refl _) _)) hlz.out _ 1 1 [(k : Int)] (by rfl) (IZ.one (by simp)) rfl (by omega) (by omega) (by have := hb1.out.size; simp; omega) ?_); intro v2 x2 hA2; rw [hnz2.out] at hA2; obtain ⟨a2, d2, hv2⟩ := hA2.1.shape; rw [hlz2.out] at hv2; subst hv2; have hZ2 := Lib.hid hA2.1.iz; have hb2 := Lib.hid ((hb1.out.alloc hb1.out.size _).trans hA2.2.1); clear hA2)
            | (go_at_call 53; go_loud (with_reducible refine (ihH.out (l + 1) (f ++ [k]) a2 d2 _ hl2.out (by omega) hnd2.out hlt2.out hZ2.out.1).mono ?_); rintro e x3 hR; obtain ⟨a3, d3, rfl, hM3, hd3, hbx⟩ := hR.out htH.out; have hM3H := Lib.hid hM3; have hb3 := Lib.hid (hb2.out.trans (hbx.mono hb2.out.size)); clear hR hM3 hbx)
            | (at_builtin; go_loud (refine wpList_append_rows _ rfl (.tmp 25) (.tmp 33) _ rfl Try.underlying22 w.heap.size u (.slice ab u cb) (rowsP (allU n m f k)) (by rfl) (hMH.out.below hb3.out) huH.out a3 t d3 (rowsP (allP n m (f ++ [k]))) (by rfl) hM3H.out htH.out ht0 (by omega) (by omega) (by have := hblH.out.size; have := hb3.out.size; omega) ?_); intro v4 x4 hM4 hg4; rw [hU.out] at hM4; have hb4 := Lib.hid ((bseqJ hblH.out hb3.out).grown hg4 (by have := hblH.out.size; have := hb3.out.size; omega) (fun g hg => (hMH.out.lt g hg).1)); clear hg4))
          go_roundw
          case rel => exact ⟨k + 1, by go_num, by omega, hM4, hb4.out⟩
          case measure => simp [intOf]; omega
      · have hke : k = n := by omega
        subst hke
        go_wp2
        go_ret
        refine ⟨ab, cb, ?_, ?_, ?_, hblH.out⟩
        · rw [allP_succ, huH.out]; rfl
        · rw [allP_succ]; exact hMH.out.imx.1
        · rw [allP_succ, huH.out]; exact hMH.out.imx.2
end Go.Proofs.Yteiipfajoikfpaa

/- Walks of the reference's Worst, Cheapest, Even. (Printed by gen_best.py.) -/
namespace Go.Proofs.Yteiipfajoikfpaa
open Go Go.RowKit Go.Proofs

def RetZI (w : World) (xs : List Int) (z : Int) (e : Ending) (w' : World) : Prop := ∃ a c, e = .returned (.tuple #[.slice a xs.length c, .int .i64 z]) ∧ IZ w' a xs ∧ xs.length ≤ c ∧ Below w.heap.size w w'
/-- The best one so far, and its measure. -/
def BestI (m : List Nat → Int) (n : Nat) (L : List (List Nat)) (wr : World) (bv : Value) (z : Int) : Prop :=
  (L = [] ∧ bv = .slice none 0 0 ∧ z = 0) ∨ ∃ (p : List Nat) (g o c : Nat), bv = .slice (some ⟨g, o, none⟩) n c ∧ n ≤ c ∧ IZ wr (some ⟨g, o, none⟩) (nz p) ∧ Best (byI m) L p ∧ m p = z
theorem BestI.below {m : List Nat → Int} {n : Nat} {L : List (List Nat)} {wr w' : World} {bv : Value} {z : Int} (h : BestI m n L wr bv z) (hb : Below wr.heap.size wr w') : BestI m n L w' bv z := by
  rcases h with h | ⟨p, g, o, c, h1, h2, h3, h4⟩
  · exact .inl h
  · exact .inr ⟨p, g, o, c, h1, h2, h3.below hb, h4⟩
theorem take_last {α : Type} {L : List α} {k : Nat} {q : α} (h : L[k]? = some q) : L.take (k + 1) = L.take k ++ [q] := by
  have hk : k < L.length := (List.getElem?_eq_some_iff.1 h).1
  rw [List.take_succ_eq_append_getElem hk]
  rw [List.getElem?_eq_getElem hk] at h
  injection h with h
  rw [h]
theorem sorted_take {L : List (List Nat)} (h : L.Pairwise (· < ·)) {k : Nat} {q : List Nat} (hq : L[k]? = some q) : (L.take k ++ [q]).Pairwise (· < ·) := by
  rw [← take_last hq]; exact h.sublist (List.take_sublist ..)
theorem BestI.first {m : List Nat → Int} {n : Nat} {L : List (List Nat)} {wr : World} {q : List Nat} {z : Int} {a c : Nat} {o : Nat} (hL : L = []) (hq : m q = z) (hc : n ≤ c) (hI : IZ wr (some ⟨a, o, none⟩) (nz q)) : BestI m n (L ++ [q]) wr (.slice (some ⟨a, o, none⟩) n c) z := by
  subst hL
  exact .inr ⟨q, a, o, c, rfl, hc, hI, Best.one _ _ (fun h => Int.lt_irrefl _ h), hq⟩
theorem BestI.win {m : List Nat → Int} {n : Nat} {L : List (List Nat)} {wr : World} {p q : List Nat} {z : Int} {a c : Nat} {o : Nat} (hp : Best (byI m) L p) (hq : m q = z) (hlt : z < m p) (hc : n ≤ c) (hI : IZ wr (some ⟨a, o, none⟩) (nz q)) : BestI m n (L ++ [q]) wr (.slice (some ⟨a, o, none⟩) n c) z :=
  .inr ⟨q, a, o, c, rfl, hc, hI, hp.better (show m q < m p by omega) (fun a b c h1 h2 => Int.lt_trans h1 h2) (fun a h => Int.lt_irrefl _ h) (fun a b c h1 h2 => by unfold byI at *; omega), hq⟩
theorem row_nz {w : World} {ao : Option Addr} {L : List (List Nat)} (h : IMx w ao (rowsP L)) {k n : Nat} {q : List Nat} (hq : L[k]? = some q) (hn : q.length = n) (h0 : 0 < n) : ∃ b o g o2 c, ao = some ⟨b, o, none⟩ ∧ w.cell? ⟨b, o + k, none⟩ = some (.slice (some ⟨g, o2, none⟩) n c) ∧ n ≤ c ∧ IZ w (some ⟨g, o2, none⟩) (nz q) := by
  obtain ⟨b, o, a, c, h1, h2, h3, h4⟩ := h.row (i := k) (xs := nz q) (by unfold rowsP; rw [List.getElem?_map, hq]; rfl)
  rw [nz_length, hn] at h2 h3
  obtain ⟨g, o2, rfl, _⟩ := h4.at (i := 0) (by rw [nz_length]; omega)
  exact ⟨b, o, g, o2, c, h1, h2, h3, h4⟩
def mxP (C : List (List Int)) (p : List Nat) : Int := mxL (pcs C p)

set_option maxRecDepth 100000 in
set_option maxHeartbeats 6400000 in
theorem worstR_any (ao : Option Addr) (c n : Nat) (C : List (List Int)) (p : List Nat) (z : Int) (w : World) (h : IMx w ao C) (hg : goodC C) (hn : C.length = n) (hp : Best (byI (mxP C)) (allN n) p) (hz : mxP C p = z) :
    Calls Try.prog 44 #[.slice ao n c] w (RetZI w (nz p) z) := by
  have hn8 : n ≤ 8 := by rw [← hn]; exact hg.2.1
  have hn1 : 0 < n := by rw [← hn]; exact hg.1
  obtain ⟨L, hL⟩ : ∃ L, allN n = L := ⟨_, rfl⟩
  obtain ⟨N, hN⟩ : ∃ N, (rowsP L).length = N := ⟨_, rfl⟩
  have hNs : N ≤ 16777216 := by rw [← hN, rowsP_length, ← hL]; exact Nat.le_trans (allP_le n n []) (pow_small hn8 hn8)
  have hNL : Hid (L.length = N) := by show _ = _; rw [← hN, rowsP_length]
  have hsrt := Lib.hid (show L.Pairwise (· < ·) by rw [← hL]; exact allN_sorted n)
  have hmem : Hid (∀ q ∈ L, Pr n q) := fun q hq => mem_allN.1 (by rw [hL]; exact hq)
  have hal : Hid (∀ v, Calls Try.prog 53 #[.slice none 0 0, .int .i64 (n : Nat)] v (RetM v (rowsP L))) := fun v => by
    rw [← hL]; exact all_any n hn8 n 0 [] none 0 v rfl (by omega) (by simp) (by simp) (IZ.nil _ _)
  rw [hL] at hp
  have hHH := Lib.hid h
  have hgH := Lib.hid hg
  have hnH := Lib.hid hn
  have hpH := Lib.hid hp
  have hzH := Lib.hid hz
  have hNH := Lib.hid hN
  clear h hg hn hp hz hL hN
  have nl0 := eql_nil0
  have nl1 := eql_nil1
  go_enter Try.func44, Try.ntmps44
  go_wp2_with (first
    | (go_at_call 53; go_loud (with_reducible refine (hal.out _).mono ?_); rintro e w1 hR; obtain ⟨a1, d1, rfl, hM1, hd1, hb1⟩ := hR.out hNH.out; have hM1H := Lib.hid hM1; have hb1H := Lib.hid hb1; clear hR hM1 hb1))
  go_loopw [4, 5, 13] (fun bv lv i wr => ∃ (k : Nat) (y : Int), i = .int .i64 (k : Nat) ∧ lv = .int .i64 y ∧ k ≤ N ∧ BestI (mxP C) n (L.take k) wr bv y ∧ Below w1.heap.size w1 wr) (fun _ _ i _ => N - (intOf i).toNat)
  case atStart => exact ⟨0, 0, rfl, rfl, by omega, .inl ⟨by simp, rfl, rfl⟩, Below.refl _ _⟩
  case round =>
    obtain ⟨k, y, rfl, rfl, hk, hB, hbl⟩ := hrel
    have hblH := Lib.hid hbl
    have hBH := Lib.hid hB
    by_cases hkN : k < N
    · obtain ⟨q, hq⟩ : ∃ q, L[k]? = some q := ⟨_, List.getElem?_eq_getElem (by rw [hNL.out]; exact hkN)⟩
      have hpq := Lib.hid (hmem.out q (List.mem_of_getElem? hq))
      obtain ⟨b2, o2, g2, o3, c3, rfl, e1, hc3, hI⟩ := row_nz (hM1H.out.below hbl) hq hpq.out.len hn1
      have hIH := Lib.hid hI
      have hCr := Lib.hid (hHH.out.below (bseqJ hb1H.out hbl))
      obtain ⟨x, hx⟩ : ∃ x, mxP C q = x := ⟨_, rfl⟩
      have hxH := Lib.hid hx
      have htk := Lib.hid (take_last hq)
      have hst := Lib.hid (sorted_take hsrt.out hq)
      have hq0 := (List.getElem?_eq_some_iff.1 hq).1
      obtain ⟨fs, hfs'⟩ : ∃ fs, fall (pcs C q) = fs := ⟨_, rfl⟩
      have hfl : Hid (fs.length = n) := by show _ = _; rw [← hfs', fall_length, pcs_length]; exact hpq.out.len
      have hf0 : Hid (at0 fs 0 = x) := by show _ = _; rw [← hx, ← hfs']; rfl
      have hfs := Lib.hid hfs'
      have hnI : (0 : Int) < (n : Int) := by omega
      clear hfs'
      clear hI hx hq hbl
      rcases hB with ⟨hL0, hbv, hy⟩ | ⟨r, g4, o4, c4, hbv, hc4, hI4, hB4, hr4⟩
      · subst hbv hy
        have hL0H := Lib.hid hL0
        clear hL0
        go_wp2_with (first | (go_at_call 32; go_loud (with_reducible refine (falling_any ao (some ⟨g2, o3, none⟩) c c3 n C q fs _ hCr.out hIH.out hgH.out hnH.out hpq.out hfs.out).mono ?_); rintro e w9 hR; go_loud (obtain ⟨a9, d9, rfl, hI9, hd9, hb9'⟩ := hR); go_loud (rw [hfl.out]); have hb9 := Lib.hid hb9'; go_loud (obtain ⟨g9, o9, rfl, e9⟩ := hI9.at (i := 0) (by rw [hfl.out]; exact hn1)); rw [hf0.out, Nat.add_zero] at e9; go_loud (clear hI9 hb9')))
        go_roundw
        case rel => exact ⟨k + 1, x, by go_num, rfl, by omega, by rw [htk.out]; exact BestI.first hL0H.out hxH.out hc3 (hIH.out.below hb9.out), bseqJ hblH.out hb9.out⟩
        case measure => simp [intOf]; omega
      · subst hbv
        have hI4H := Lib.hid hI4
        have hB4H := Lib.hid hB4
        have hr4H := Lib.hid hr4
        clear hI4 hB4 hr4
        by_cases hlt : x < y
        · have hd : decide (x < y) = true := by simpa using hlt
          go_wp2_with (first | (go_at_call 32; go_loud (with_reducible refine (falling_any ao (some ⟨g2, o3, none⟩) c c3 n C q fs _ hCr.out hIH.out hgH.out hnH.out hpq.out hfs.out).mono ?_); rintro e w9 hR; go_loud (obtain ⟨a9, d9, rfl, hI9, hd9, hb9'⟩ := hR); go_loud (rw [hfl.out]); have hb9 := Lib.hid hb9'; go_loud (obtain ⟨g9, o9, rfl, e9⟩ := hI9.at (i := 0) (by rw [hfl.out]; exact hn1)); rw [hf0.out, Nat.add_zero] at e9; go_loud (clear hI9 hb9')))
          go_roundw
          case rel => exact ⟨k + 1, x, by go_num, rfl, by omega, by rw [htk.out]; exact BestI.win hB4H.out hxH.out (by rw [hr4H.out]; exact hlt) hc3 (hIH.out.below hb9.out), bseqJ hblH.out hb9.out⟩
          case measure => simp [intOf]; omega
        · have hd : decide (x < y) = false := by simpa using hlt
          have hge : y ≤ x := by omega
          go_wp2_with (first | (go_at_call 32; go_loud (with_reducible refine (falling_any ao (some ⟨g2, o3, none⟩) c c3 n C q fs _ hCr.out hIH.out hgH.out hnH.out hpq.out hfs.out).mono ?_); rintro e w9 hR; go_loud (obtain ⟨a9, d9, rfl, hI9, hd9, hb9'⟩ := hR); go_loud (rw [hfl.out]); have hb9 := Lib.hid hb9'; go_loud (obtain ⟨g9, o9, rfl, e9⟩ := hI9.at (i := 0) (by rw [hfl.out]; exact hn1)); rw [hf0.out, Nat.add_zero] at e9; go_loud (clear hI9 hb9')))
          go_roundw
          case rel => exact ⟨k + 1, y, by go_num, rfl, by omega, by rw [htk.out]; exact .inr ⟨r, g4, o4, c4, rfl, hc4, hI4H.out.below hb9.out, hB4H.out.keep (show ¬ mxP C q < mxP C r by rw [hr4H.out, hxH.out]; omega) hst.out, hr4H.out⟩, bseqJ hblH.out hb9.out⟩
          case measure => simp [intOf]; omega
    · have hke : k = N := by omega
      subst hke
      have hfull : L.take k = L := List.take_of_length_le (by rw [hNL.out]; exact Nat.le_refl _)
      rcases hB with ⟨hL0, hbv, hy⟩ | ⟨r, g4, o4, c4, hbv, hc4, hI4, hB4, hr4⟩
      · rw [hfull] at hL0
        exact absurd (hL0 ▸ hpH.out.mem) (by simp)
      · rw [hfull] at hB4
        have hrp := hB4.unique hpH.out
        subst hrp hbv
        have e1 := hr4.symm.trans hzH.out
        subst e1
        have hI4H := Lib.hid hI4
        have hlen : Hid ((nz r).length = n) := by show _ = _; rw [nz_length]; exact (hmem.out r hpH.out.mem).len
        clear hI4 hB4 hr4 hfull
        go_wp2
        go_ret2
        exact ⟨_, _, by rw [hlen.out]; rfl, hI4H.out, by rw [hlen.out]; exact hc4, bseqJ hb1H.out hblH.out⟩

set_option maxRecDepth 100000 in
set_option maxHeartbeats 6400000 in
theorem cheapestR_any (ao : Option Addr) (c n : Nat) (C : List (List Int)) (p : List Nat) (z : Int) (w : World) (h : IMx w ao C) (hg : goodC C) (hn : C.length = n) (hp : Best (byI (sumC C)) (allN n) p) (hz : sumC C p = z) :
    Calls Try.prog 22 #[.slice ao n c] w (RetZI w (nz p) z) := by
  have hn8 : n ≤ 8 := by rw [← hn]; exact hg.2.1
  have hn1 : 0 < n := by rw [← hn]; exact hg.1
  obtain ⟨L, hL⟩ : ∃ L, allN n = L := ⟨_, rfl⟩
  obtain ⟨N, hN⟩ : ∃ N, (rowsP L).length = N := ⟨_, rfl⟩
  have hNs : N ≤ 16777216 := by rw [← hN, rowsP_length, ← hL]; exact Nat.le_trans (allP_le n n []) (pow_small hn8 hn8)
  have hNL : Hid (L.length = N) := by show _ = _; rw [← hN, rowsP_length]
  have hsrt := Lib.hid (show L.Pairwise (· < ·) by rw [← hL]; exact allN_sorted n)
  have hmem : Hid (∀ q ∈ L, Pr n q) := fun q hq => mem_allN.1 (by rw [hL]; exact hq)
  have hal : Hid (∀ v, Calls Try.prog 53 #[.slice none 0 0, .int .i64 (n : Nat)] v (RetM v (rowsP L))) := fun v => by
    rw [← hL]; exact all_any n hn8 n 0 [] none 0 v rfl (by omega) (by simp) (by simp) (IZ.nil _ _)
  rw [hL] at hp
  have hHH := Lib.hid h
  have hgH := Lib.hid hg
  have hnH := Lib.hid hn
  have hpH := Lib.hid hp
  have hzH := Lib.hid hz
  have hNH := Lib.hid hN
  clear h hg hn hp hz hL hN
  have nl0 := eql_nil0
  have nl1 := eql_nil1
  go_enter Try.func22, Try.ntmps22
  go_wp2_with (first
    | (go_at_call 53; go_loud (with_reducible refine (hal.out _).mono ?_); rintro e w1 hR; obtain ⟨a1, d1, rfl, hM1, hd1, hb1⟩ := hR.out hNH.out; have hM1H := Lib.hid hM1; have hb1H := Lib.hid hb1; clear hR hM1 hb1))
  go_loopw [4, 5, 13] (fun bv lv i wr => ∃ (k : Nat) (y : Int), i = .int .i64 (k : Nat) ∧ lv = .int .i64 y ∧ k ≤ N ∧ BestI (sumC C) n (L.take k) wr bv y ∧ Below w1.heap.size w1 wr) (fun _ _ i _ => N - (intOf i).toNat)
  case atStart => exact ⟨0, 0, rfl, rfl, by omega, .inl ⟨by simp, rfl, rfl⟩, Below.refl _ _⟩
  case round =>
    obtain ⟨k, y, rfl, rfl, hk, hB, hbl⟩ := hrel
    have hblH := Lib.hid hbl
    have hBH := Lib.hid hB
    by_cases hkN : k < N
    · obtain ⟨q, hq⟩ : ∃ q, L[k]? = some q := ⟨_, List.getElem?_eq_getElem (by rw [hNL.out]; exact hkN)⟩
      have hpq := Lib.hid (hmem.out q (List.mem_of_getElem? hq))
      obtain ⟨b2, o2, g2, o3, c3, rfl, e1, hc3, hI⟩ := row_nz (hM1H.out.below hbl) hq hpq.out.len hn1
      have hIH := Lib.hid hI
      have hCr := Lib.hid (hHH.out.below (bseqJ hb1H.out hbl))
      obtain ⟨x, hx⟩ : ∃ x, sumC C q = x := ⟨_, rfl⟩
      have hxH := Lib.hid hx
      have htk := Lib.hid (take_last hq)
      have hst := Lib.hid (sorted_take hsrt.out hq)
      have hq0 := (List.getElem?_eq_some_iff.1 hq).1

      clear hI hx hq hbl
      rcases hB with ⟨hL0, hbv, hy⟩ | ⟨r, g4, o4, c4, hbv, hc4, hI4, hB4, hr4⟩
      · subst hbv hy
        have hL0H := Lib.hid hL0
        clear hL0
        go_wp2_with (first | (go_at_call 38; go_loud (with_reducible refine (sum_anyJ ao (some ⟨g2, o3, none⟩) c c3 n C q x _ hCr.out hIH.out hgH.out hnH.out hpq.out hxH.out).mono ?_); rintro e w9 ⟨rfl, hb9'⟩; have hb9 := Lib.hid hb9'; clear hb9'))
        go_roundw
        case rel => exact ⟨k + 1, x, by go_num, rfl, by omega, by rw [htk.out]; exact BestI.first hL0H.out hxH.out hc3 (hIH.out.below hb9.out), bseqJ hblH.out hb9.out⟩
        case measure => simp [intOf]; omega
      · subst hbv
        have hI4H := Lib.hid hI4
        have hB4H := Lib.hid hB4
        have hr4H := Lib.hid hr4
        clear hI4 hB4 hr4
        by_cases hlt : x < y
        · have hd : decide (x < y) = true := by simpa using hlt
          go_wp2_with (first | (go_at_call 38; go_loud (with_reducible refine (sum_anyJ ao (some ⟨g2, o3, none⟩) c c3 n C q x _ hCr.out hIH.out hgH.out hnH.out hpq.out hxH.out).mono ?_); rintro e w9 ⟨rfl, hb9'⟩; have hb9 := Lib.hid hb9'; clear hb9'))
          go_roundw
          case rel => exact ⟨k + 1, x, by go_num, rfl, by omega, by rw [htk.out]; exact BestI.win hB4H.out hxH.out (by rw [hr4H.out]; exact hlt) hc3 (hIH.out.below hb9.out), bseqJ hblH.out hb9.out⟩
          case measure => simp [intOf]; omega
        · have hd : decide (x < y) = false := by simpa using hlt
          have hge : y ≤ x := by omega
          go_wp2_with (first | (go_at_call 38; go_loud (with_reducible refine (sum_anyJ ao (some ⟨g2, o3, none⟩) c c3 n C q x _ hCr.out hIH.out hgH.out hnH.out hpq.out hxH.out).mono ?_); rintro e w9 ⟨rfl, hb9'⟩; have hb9 := Lib.hid hb9'; clear hb9'))
          go_roundw
          case rel => exact ⟨k + 1, y, by go_num, rfl, by omega, by rw [htk.out]; exact .inr ⟨r, g4, o4, c4, rfl, hc4, hI4H.out.below hb9.out, hB4H.out.keep (show ¬ sumC C q < sumC C r by rw [hr4H.out, hxH.out]; omega) hst.out, hr4H.out⟩, bseqJ hblH.out hb9.out⟩
          case measure => simp [intOf]; omega
    · have hke : k = N := by omega
      subst hke
      have hfull : L.take k = L := List.take_of_length_le (by rw [hNL.out]; exact Nat.le_refl _)
      rcases hB with ⟨hL0, hbv, hy⟩ | ⟨r, g4, o4, c4, hbv, hc4, hI4, hB4, hr4⟩
      · rw [hfull] at hL0
        exact absurd (hL0 ▸ hpH.out.mem) (by simp)
      · rw [hfull] at hB4
        have hrp := hB4.unique hpH.out
        subst hrp hbv
        have e1 := hr4.symm.trans hzH.out
        subst e1
        have hI4H := Lib.hid hI4
        have hlen : Hid ((nz r).length = n) := by show _ = _; rw [nz_length]; exact (hmem.out r hpH.out.mem).len
        clear hI4 hB4 hr4 hfull
        go_wp2
        go_ret2
        exact ⟨_, _, by rw [hlen.out]; rfl, hI4H.out, by rw [hlen.out]; exact hc4, bseqJ hb1H.out hblH.out⟩
end Go.Proofs.Yteiipfajoikfpaa
