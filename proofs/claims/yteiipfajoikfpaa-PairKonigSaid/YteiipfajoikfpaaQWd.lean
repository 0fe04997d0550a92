/- Wd -/
import Derived.Test.YteiipfajoikfpaaQWc
set_option linter.unusedVariables false
/- Walk of the program's Most. -/
namespace Go.Proofs.Yteiipfajoikfpaa
open Go Go.RowKit Go.Proofs Go.Sort

theorem results_tmp4 {fn : Func} {t u v x : Tmp} (h : fn.results = #[.tmp t, .tmp u, .tmp v, .tmp x]) (tmps : Array Value) (P : Program) (w : World) :
    (results fn tmps).run P w = .ok (.tuple #[tmps.getD t undef, tmps.getD u undef, tmps.getD v undef, tmps.getD x undef]) w := by
  simp [results, h]
/-- Sort of an own list of columns; other blocks stay. -/
theorem sort_zi (v : Value) (base n : Nat) (cs : List Nat) (w : World) (h : ZI w base v (nz cs)) (hnd : cs.Nodup) (hlt : ∀ j ∈ cs, j < n) (hs : cs.length ≤ 1000) (B : Nat) (hB : B ≤ base) (hBw : B ≤ w.heap.size) :
    Calls Try.prog 66 #[v] w (fun e w' => e = .returned (.tuple #[]) ∧ ∃ ds : List Nat, ZI w' base v (nz ds) ∧ Asc n 0 ds ∧ ds.length = cs.length ∧ (∀ j, j ∈ ds ↔ j ∈ cs) ∧ Below B w w' ∧ ∀ b o x, v.ownBlock ≠ some b → w.cell? ⟨b, o, none⟩ = some x → w'.cell? ⟨b, o, none⟩ = some x) := by
  obtain ⟨ds, e1, e2, e3, e4⟩ := sort_nz hnd hlt
  rcases h.2 with ⟨h1, h2⟩ | ⟨g, cap, cur, hv, _, _, _⟩
  · rcases cs with _ | ⟨c, cs⟩
    · subst h1
      refine (Try.slices_Sort_int_none none 0 w).mono fun e w' ⟨q1, q2⟩ => ?_
      subst q2
      have : ds = [] := List.length_eq_zero_iff.1 (by rw [e3]; rfl)
      subst this
      exact ⟨q1, [], h, e2, rfl, e4, Below.refl _ _, fun b o x _ hc => hc⟩
    · simp [nz] at h2
  · have hv0 : v = .slice (some ⟨g, 0, none⟩) (nz cs).length cap := hv
    subst hv0
    refine (sort_own2 g _ cap base (nz cs) w h rfl (by rw [nz_length]; exact hs) B hB hBw).mono fun e w' ⟨q1, q2, q3, q4⟩ => ⟨q1, ds, by rw [← e1]; exact q2, e2, e3, e4, q3, fun b o x hne hc => q4 b o x (fun q => hne (by rw [q]; rfl)) hc⟩
theorem mostP_bad (ao : Option Addr) (c n : Nat) (C : List (List Int)) (z : Int) (w : World) (h : IMx w ao C) (hn : C.length = n) (hm : n ≤ 9223372036854775807) (hb : costsB C = false) :
    Calls Try.prog 39 #[.slice ao n c, .int .i64 z] w (fun e w' => e = .returned (.tuple #[.int .i64 0, .slice none 0 0, .slice none 0 0, .int .i64 1]) ∧ Below w.heap.size w w') := by
  have hH := Lib.hid h
  have hnH := Lib.hid hn
  have hbH := Lib.hid hb
  clear h hn hb
  go_enter Try.func39, Try.ntmps39
  go_wp2_with (go_at_call 48; (with_reducible refine (valid_any ao c n C false _ hH.out hnH.out hm hbH.out).mono ?_); rintro e w1 ⟨rfl, rfl⟩)
  (try simp only [Exit.inBlock, Exit.then]); refine bodyPost_ret (results_tmp4 rfl _ _ _) rfl ?_
  exact ⟨rfl, Below.refl _ _⟩
def MostPost (A : Nat → Nat → Bool) (n : Nat) (w : World) (e : Ending) (w' : World) : Prop :=
  ∃ (rs cs : List Nat) (aR aC : Option Addr) (lR lC cR cC t : Nat), Asc n 0 rs ∧ Asc n 0 cs ∧ Cov A n rs cs ∧ rs.length = lR ∧ cs.length = lC ∧ lR + lC = t ∧ mostM A n n 0 = t ∧ e = .returned (.tuple #[.int .i64 (t : Nat), .slice aR lR cR, .slice aC lC cC, .int .i64 0]) ∧ IZ w' aR (nz rs) ∧ IZ w' aC (nz cs) ∧ lR ≤ cR ∧ lC ≤ cC ∧ Below w.heap.size w w'
/-- Columns that lie in every dead set. -/
def DeadIn (A : Nat → Nat → Bool) (n : Nat) (r : List Int) (cs : List Nat) : Prop := ∀ c ∈ cs, ∀ D : Nat → Prop, (∀ x, D x → x < n) → Dead A n r D → (∀ k, k < n → r.count (k : Int) = 0 → ∀ y, y < n → A k y = true → D y) → D c
theorem own_nat {n : Nat} {r : List Int} {x k : Nat} (h : r[x]? = some (k : Int)) : at0 r x = (k : Int) := at0_of h
set_option maxRecDepth 100000 in
set_option maxHeartbeats 25600000 in
theorem mostP_good (ao : Option Addr) (c n : Nat) (C : List (List Int)) (z : Int) (w : World) (h : IMx w ao C) (hg : goodC C) (hn : C.length = n) :
    Calls Try.prog 39 #[.slice ao n c, .int .i64 z] w (MostPost (upA C z) n w) := by
  have hn8 : n ≤ 8 := by rw [← hn]; exact hg.2.1
  have hn1 : 1 ≤ n := by rw [← hn]; exact hg.1
  have hb := Lib.hid (show costsB C = true from decide_eq_true hg)
  have hH := Lib.hid h
  have hgH := Lib.hid hg
  have hnH := Lib.hid hn
  have egH := Lib.hid eg_upTo
  clear h hg hn
  go_enter Try.func39, Try.ntmps39
  go_upto_region 6 with (first
    | (go_at_call 48; (with_reducible refine (valid_any ao c n C true _ hH.out hnH.out (by omega) hb.out).mono ?_); rintro e w1 ⟨rfl, rfl⟩)
    | (go_at_call 60; go_loud (refine (upTo_any ao c n z _).mono ?_); rintro e w1 ⟨rfl, hb1, c1, c2⟩; have hAl := Lib.hid (upTo_at ao c n w.heap.size (w.heap.size + 1) C z w1 (hH.out.below hb1) hgH.out hnH.out c1 c2); have hb1H := Lib.hid hb1; clear hb1 c1 c2)
    | (go_at_call 64; go_loud (refine (match_any (upA C z) n 83 #[ptr w.heap.size, ptr (w.heap.size + 1)] _ (by omega) hn1 hAl.out egH.out).mono ?_); rintro e w2 ⟨gr, r, rfl, hR, hl, hZ, hb2, hgr⟩; have hRH := Lib.hid hR.good; have hlH := Lib.hid hl; have hIr := Lib.hid hZ.iz; have hb2H := Lib.hid hb2; clear hR hl hZ hb2 hgr))
  have hw2 := Lib.hid (bseqJ hb1H.out hb2H.out)
  clear hAl egH hb1H hb2H
  go_wp2_with (fail)
  go_loopg [10, 28] n (fun gk rv iv wr => ∃ (i : Nat) (v : Value), v = rv ∧ iv = .int .i64 (i : Nat) ∧ i + gk = n ∧ ZI wr w2.heap.size v (nz (zeroR r i)) ∧ Below w2.heap.size w2 wr)
  case atStart => exact ⟨0, _, rfl, rfl, by omega, ZI.nil _ _, Below.refl _ _⟩
  case round =>
    obtain ⟨i, v, rfl, rfl, hi, hZ, hbl⟩ := hrel
    obtain ⟨av, cv, hv⟩ := hZ.shape
    obtain ⟨u, hu⟩ : ∃ u, (nz (zeroR r i)).length = u := ⟨_, rfl⟩
    rw [hu] at hv
    subst hv
    have hu8 : u ≤ 8 := by rw [← hu, nz_length]; exact Nat.le_trans zeroR_len (by omega)
    have huH := Lib.hid hu
    have hZH := Lib.hid hZ
    have hblH := Lib.hid hbl
    clear hu hZ hbl
    by_cases hin : i < n
    · obtain ⟨g1, rfl⟩ : ∃ g1, gk = g1 + 1 := ⟨gk - 1, by omega⟩
      have hiI : (i : Int) < (n : Int) := by omega
      have hIr2 := Lib.hid (hIr.out.below hblH.out)
      by_cases hmem : (i : Int) ∈ r
      · have hmB := Lib.hid (decide_eq_true hmem)
        have hnx := Lib.hid (zeroR_no hmem)
        clear hmem
        go_wp2_with (go_at_call 65; go_loud (refine (containsZ_any (some ⟨gr, 0, none⟩) n n r (i : Nat) true _ hIr2.out hlH.out (by omega) hmB.out).mono ?_); rintro e w3 ⟨rfl, rfl⟩)
        go_roundg g1
        case measure => omega
        case rel => exact ⟨i + 1, _, rfl, by go_num, by omega, by rw [hnx.out]; exact hZH.out, hblH.out⟩
      · have hmB := Lib.hid (decide_eq_false hmem)
        have hnx : Hid (nz (zeroR r i) ++ [(i : Int)] = nz (zeroR r (i + 1))) := by show _ = _; rw [zeroR_yes hmem, ← nz_snoc]
        clear hmem
        go_wp2_with (first
          | (go_at_call 65; go_loud (refine (containsZ_any (some ⟨gr, 0, none⟩) n n r (i : Nat) false _ hIr2.out hlH.out (by omega) hmB.out).mono ?_); rintro e w3 ⟨rfl, rfl⟩)
          | (at_builtin; go_loud (refine wpList_append_z _ rfl (.tmp 35) (.tmp 37) _ rfl Try.underlying24 w2.heap.size u (.slice av u cv) (nz (zeroR r i)) (i : Nat) (by rfl) (hZH.out.below (below_al (Below.refl _ _) _)) huH.out wr.heap.size (by rfl) (by omega) (by have := hblH.out.size; simp; omega) (by simp) ?_); intro v4 w4 hZ4 hg4 ho4; rw [hnx.out] at hZ4; have hZ4H := Lib.hid hZ4; have hb4 := Lib.hid ((below_al hblH.out _).grown hg4 (by have := hblH.out.size; simp; omega) (fun k hk => (hZH.out.lt k hk).1)); clear hZ4 hg4 ho4))
        go_roundg g1
        case measure => omega
        case rel => exact ⟨i + 1, _, rfl, by go_num, by omega, hZ4H.out, hb4.out⟩
    · have hie : n = i := by omega
      subst hie
      have hiI : ¬ (n : Int) < (n : Int) := by omega
      have hRch := Lib.hid (Rch.start (upA C z) n r)
      have hTwo : Hid (TwoL wr w2.heap.size (.slice av u cv) (nz (zeroR r n)) (.slice none 0 0) (nz [])) := by
        refine ⟨hZH.out, ZI.nil _ _, fun g _ e => ?_⟩
        simp [Value.ownBlock] at e
      obtain ⟨rs0, hrs0⟩ : ∃ rs0, zeroR r n = rs0 := ⟨_, rfl⟩
      have hRch : Hid (Rch (upA C z) n r rs0 []) := by show Rch _ _ _ _ _; rw [← hrs0]; exact hRch.out
      have hTwo : Hid (TwoL wr w2.heap.size (.slice av u cv) (nz rs0) (.slice none 0 0) (nz [])) := by show TwoL _ _ _ _ _ _; rw [← hrs0]; exact hTwo.out
      clear hrs0 hZH huH
      go_wp2_with (fail)
      go_loopg [10, 11, 13] n (fun gk rv cv iv wr => ∃ (k : Nat) (v1 v2 : Value) (rs cs : List Nat), v1 = rv ∧ v2 = cv ∧ iv = .int .i64 (k : Nat) ∧ k + gk = n ∧ k ≤ rs.length ∧ Rch (upA C z) n r rs cs ∧ DeadIn (upA C z) n r cs ∧ (∀ i ∈ rs.take k, ∀ j, j < n → upA C z i j = true → j ∈ cs) ∧ TwoL wr w2.heap.size v1 (nz rs) v2 (nz cs) ∧ Below w2.heap.size w2 wr)
      case atStart => exact ⟨0, _, _, rs0, [], rfl, rfl, rfl, by omega, Nat.zero_le _, hRch.out, fun c hc => (by cases hc), fun i hi => (by simp at hi), hTwo.out, hblH.out⟩
      case round =>
        clear hRch hTwo hblH
        obtain ⟨k, v1, v2, rs, cs, rfl, rfl, rfl, hk, hkl, hRc, hDd, hall, hT, hbl⟩ := hrel
        obtain ⟨a1, d1, hv1⟩ := hT.z1.shape
        obtain ⟨a2, d2, hv2⟩ := hT.z2.shape
        obtain ⟨u1, hu1⟩ : ∃ u1, rs.length = u1 := ⟨_, rfl⟩
        obtain ⟨u2, hu2⟩ : ∃ u2, cs.length = u2 := ⟨_, rfl⟩
        rw [nz_length, hu1] at hv1
        rw [nz_length, hu2] at hv2
        subst hv1 hv2
        have hrn : u1 ≤ n := by
          rw [← hu1]
          have := hRc.rnd.length_le_of_subset (l₂ := List.range n) (fun x hx => List.mem_range.2 (hRc.rlt x hx))
          rwa [List.length_range] at this
        rw [hu1] at hkl
        have hu1H := Lib.hid hu1
        have hu2H := Lib.hid hu2
        have hRcH := Lib.hid hRc
        have hDdH := Lib.hid hDd
        have hallH := Lib.hid hall
        have hTH := Lib.hid hT
        have hblH := Lib.hid hbl
        clear hu1 hu2 hRc hDd hall hT hbl
        by_cases hku : k < u1
        · obtain ⟨g1, rfl⟩ : ∃ g1, gk = g1 + 1 := ⟨gk - 1, by omega⟩
          obtain ⟨i0, hi0⟩ : ∃ i0, rs[k]? = some i0 := ⟨_, List.getElem?_eq_getElem (by rw [hu1H.out]; exact hku)⟩
          have hi0n : i0 < n := hRcH.out.rlt i0 (List.mem_of_getElem? hi0)
          have hi0H := Lib.hid hi0
          have hkI : (k : Int) < (u1 : Int) := by omega
          clear hi0
          go_wp2_with (fail)
          go_loopg [10, 11, 47] n (fun gj rv cv jv wx => ∃ (j : Nat) (v1 v2 : Value) (rs cs : List Nat), v1 = rv ∧ v2 = cv ∧ jv = .int .i64 (j : Nat) ∧ j + gj = n ∧ rs[k]? = some i0 ∧ Rch (upA C z) n r rs cs ∧ DeadIn (upA C z) n r cs ∧ (∀ i ∈ rs.take k, ∀ j, j < n → upA C z i j = true → j ∈ cs) ∧ (∀ d, d < j → upA C z i0 d = true → d ∈ cs) ∧ TwoL wx w2.heap.size v1 (nz rs) v2 (nz cs) ∧ Below w2.heap.size w2 wx)
          case atStart => exact ⟨0, _, _, rs, cs, rfl, rfl, rfl, by omega, hi0H.out, hRcH.out, hDdH.out, hallH.out, fun d hd => absurd hd (Nat.not_lt_zero _), hTH.out, hblH.out⟩
          case round =>
            clear hRcH hDdH hallH hTH hblH hi0H hu1H hkI
            clear hku hkl hrn
            obtain ⟨j, v1, v2, rs, cs, rfl, rfl, rfl, hj, hi0, hRc, hDd, hall, hrow, hT, hbl⟩ := hrel
            obtain ⟨a1, d1, hv1⟩ := hT.z1.shape
            obtain ⟨a2, d2, hv2⟩ := hT.z2.shape
            obtain ⟨u1, hu1⟩ : ∃ u1, rs.length = u1 := ⟨_, rfl⟩
            obtain ⟨u2, hu2⟩ : ∃ u2, cs.length = u2 := ⟨_, rfl⟩
            rw [nz_length, hu1] at hv1
            rw [nz_length, hu2] at hv2
            subst hv1 hv2
            have hrn : u1 ≤ n := by
              rw [← hu1]
              have := hRc.rnd.length_le_of_subset (l₂ := List.range n) (fun x hx => List.mem_range.2 (hRc.rlt x hx))
              rwa [List.length_range] at this
            have hcn : u2 ≤ n := by
              rw [← hu2]
              have := hRc.cnd.length_le_of_subset (l₂ := List.range n) (fun x hx => List.mem_range.2 (hRc.clt x hx))
              rwa [List.length_range] at this
            have hku : k < u1 := by rw [← hu1]; exact (List.getElem?_eq_some_iff.1 hi0).1
            have hz1 : Hid ((nz rs).length = u1) := by show _ = _; rw [nz_length]; exact hu1
            have hz2 : Hid ((nz cs).length = u2) := by show _ = _; rw [nz_length]; exact hu2
            have hi0H := Lib.hid hi0
            have hRcH := Lib.hid hRc
            have hDdH := Lib.hid hDd
            have hallH := Lib.hid hall
            have hrowH := Lib.hid hrow
            have hTH := Lib.hid hT
            have hblH := Lib.hid hbl
            clear hu1 hu2 hRc hDd hall hrow hT hbl
            by_cases hjn : j < n
            · obtain ⟨g2, rfl⟩ : ∃ g2, gk = g2 + 1 := ⟨gk - 1, by omega⟩
              have hjI : (j : Int) < (n : Int) := by omega
              have hj0 : (0 : Int) ≤ (j : Int) := by omega
              have hkI : (k : Int) < (u1 : Int) := by omega
              have hk0 : (0 : Int) ≤ (k : Int) := by omega
              have hiI : (i0 : Int) < (n : Int) := by omega
              have hi00 : (0 : Int) ≤ (i0 : Int) := by omega
              obtain ⟨bb1, oo1, hae1, e1⟩ := hTH.out.z1.iz.1 k _ (nz_get hi0)
              have hae1H := Lib.hid hae1
              subst hae1
              obtain ⟨b5, o5, b6, o6, c6, hao, f1, hc6, f2, q0, q1⟩ := (hH.out.below (bseqJ hw2.out hblH.out)).cost hgH.out hnH.out hi0n hjn
              have haoH := Lib.hid hao
              subst hao
              obtain ⟨y, hy⟩ : ∃ y, cst C i0 j = y := ⟨_, rfl⟩
              rw [hy] at f2
              have hup : Hid (upA C z i0 j = decide (y ≤ z)) := by show _ = _; rw [← hy]; rfl
              have hI2 := Lib.hid hTH.out.z2.iz.1
              clear hi0 hy q0 q1
              by_cases hle : y ≤ z
              · have hleB : decide (z < y) = false := by simp; omega
                have hleU : Hid (upA C z i0 j = true) := by show _ = _; rw [hup.out]; simpa using hle
                by_cases hjc : j ∈ cs
                · have hcB := Lib.hid (decide_eq_true (show (j : Int) ∈ nz cs from mem_nz.2 hjc))
                  have hjcH := Lib.hid hjc
                  clear hjc
                  go_wp2_with (go_at_call 65; go_loud (refine (containsZ_any a2 d2 u2 (nz cs) (j : Nat) true _ hI2.out hz2.out (by omega) hcB.out).mono ?_); rintro e w3 ⟨rfl, rfl⟩)
                  go_roundg g2
                  case measure => omega
                  case rel =>
                    refine ⟨j + 1, _, _, rs, cs, rfl, rfl, by go_num, by omega, hi0H.out, hRcH.out, hDdH.out, hallH.out, fun d hd hA => ?_, hTH.out, hblH.out⟩
                    by_cases e : d = j
                    · subst e; exact hjcH.out
                    · exact hrowH.out d (by omega) hA
                · have hcB := Lib.hid (decide_eq_false (show ¬ (j : Int) ∈ nz cs from fun h => hjc (mem_nz.1 h)))
                  obtain ⟨q, hrj, hqn, hDj⟩ := hRcH.out.lead hRH.out (List.mem_of_getElem? hi0H.out) hjn hleU.out hDdH.out
                  obtain ⟨hqr, hadd⟩ := hRcH.out.add hRH.out hjn hjc hrj hqn
                  have hqB := Lib.hid (decide_eq_false (show ¬ (q : Int) ∈ nz rs from fun h => hqr (mem_nz.1 h)))
                  have hD2 : Hid (DeadIn (upA C z) n r (cs ++ [j])) := fun c hc => by
                    rcases List.mem_append.1 hc with hc | hc
                    · exact hDdH.out c hc
                    · rw [List.mem_singleton.1 hc]; exact hDj
                  obtain ⟨bb2, oo2, hae2, e2⟩ := (hIr.out.below hblH.out) j _ hrj
                  injection hae2 with hae2
                  injection hae2 with q3 q4
                  subst q3 q4
                  have hrjH := Lib.hid hrj
                  have haddH := Lib.hid hadd
                  have hnz1 := Lib.hid (nz_snoc rs q)
                  have hnz2 := Lib.hid (nz_snoc cs j)
                  have hrsn : Hid ((rs ++ [q])[k]? = some i0) := by show _ = _; rw [List.getElem?_append_left (List.getElem?_eq_some_iff.1 hi0H.out).1]; exact hi0H.out
                  have htk : Hid ((rs ++ [q]).take k = rs.take k) := by show _ = _; rw [List.take_append_of_le_length (Nat.le_of_lt (List.getElem?_eq_some_iff.1 hi0H.out).1)]
                  have hsz := hblH.out.size
                  clear hjc hadd hrj hDj hqr
                  go_upto_region 20 with (first
                    | (go_at_call 65; go_loud (refine (containsZ_any a2 d2 u2 (nz cs) (j : Nat) false _ hI2.out hz2.out (by omega) hcB.out).mono ?_); rintro e w3 ⟨rfl, rfl⟩)
                    | (at_builtin; go_loud (refine wpList_append_z _ rfl (.tmp 67) (.tmp 69) _ rfl Try.underlying24 w2.heap.size u2 (.slice a2 u2 d2) (nz cs) (j : Nat) (by rfl) (hTH.out.z2.below (below_al (Below.refl _ _) _)) hz2.out wr.heap.size (by rfl) (by omega) (by simp; omega) (by simp) ?_); intro v4 w4 hZ4 hg4 ho4; rw [hnz2.out] at hZ4; have hT4 := Lib.hid ((hTH.out.below (below_al (Below.refl _ _) _)).put2 hZ4 hg4 ho4); have hb4 := Lib.hid ((below_al hblH.out _).grown hg4 (by simp; omega) (fun k hk => (hTH.out.z2.lt k hk).1)); clear hZ4 hg4 ho4))
                  have e3 : w4.cell? ⟨gr, 0 + j, none⟩ = some (.int .i64 (q : Nat)) := by
                    obtain ⟨b9, o9, e9, c9⟩ := (hIr.out.below hb4.out) j _ hrjH.out
                    injection e9 with e9
                    injection e9 with e9 e10
                    subst e9 e10
                    exact c9
                  rw [Nat.zero_add] at e3
                  have hI1 := Lib.hid hT4.out.z1.iz.1
                  have hsz4 := hb4.out.size
                  clear e1 e2 f1 f2
                  go_wp2_with (first
                    | (go_at_call 65; go_loud (refine (containsZ_any _ d1 u1 (nz rs) (q : Nat) false _ hI1.out hz1.out (by omega) hqB.out).mono ?_); rintro e w5 ⟨rfl, rfl⟩)
                    | (at_builtin; go_loud (refine wpList_append_z _ rfl (.tmp 78) (.tmp 83) _ rfl Try.underlying24 w2.heap.size u1 _ (nz rs) (q : Nat) (by rfl) (hT4.out.z1.below (below_al (Below.refl _ _) _)) hz1.out w4.heap.size (by rfl) (by omega) (by simp; omega) (by simp) ?_); intro v6 w6 hZ6 hg6 ho6; rw [hnz1.out] at hZ6; have hT6 := Lib.hid ((hT4.out.below (below_al (Below.refl _ _) _)).put1 hZ6 hg6 ho6); have hb6 := Lib.hid ((below_al hb4.out _).grown hg6 (by simp; omega) (fun k hk => (hT4.out.z1.lt k hk).1)); clear hZ6 hg6 ho6))
                  go_roundg g2
                  case measure => omega
                  case rel =>
                    refine ⟨j + 1, _, _, rs ++ [q], cs ++ [j], rfl, rfl, by go_num, by omega, hrsn.out, haddH.out, hD2.out, fun i hi d hd hA => ?_, fun d hd hA => ?_, hT6.out, hb6.out⟩
                    · rw [htk.out] at hi
                      exact List.mem_append_left _ (hallH.out i hi d hd hA)
                    · by_cases e : d = j
                      · subst e; simp
                      · exact List.mem_append_left _ (hrowH.out d (by omega) hA)
              · have hleB : decide (z < y) = true := by simp; omega
                have hleU : Hid (upA C z i0 j = false) := by show _ = _; rw [hup.out]; simpa using hle
                go_wp2_with (fail)
                go_roundg g2
                case measure => omega
                case rel =>
                  refine ⟨j + 1, _, _, rs, cs, rfl, rfl, by go_num, by omega, hi0H.out, hRcH.out, hDdH.out, hallH.out, fun d hd hA => ?_, hTH.out, hblH.out⟩
                  by_cases e : d = j
                  · subst e; rw [hleU.out] at hA; cases hA
                  · exact hrowH.out d (by omega) hA
            · have hje : n = j := by omega
              subst hje
              have hjI : ¬ (n : Int) < (n : Int) := by omega
              have hlen := (List.getElem?_eq_some_iff.1 hi0H.out).1
              clear hi0
              go_wp2_with (fail)
              go_roundg g1
              case measure => omega
              case rel =>
                refine ⟨k + 1, _, _, rs, cs, rfl, rfl, by go_num, by omega, by omega, hRcH.out, hDdH.out, fun i hi d hd hA => ?_, hTH.out, hblH.out⟩
                rw [take_lastX hi0H.out] at hi
                rcases List.mem_append.1 hi with hi | hi
                · exact hallH.out i hi d hd hA
                · rw [List.mem_singleton.1 hi] at hA; exact hrowH.out d hd hA
        · have hke : u1 = k := by omega
          subst hke
          have hkI : ¬ (u1 : Int) < (u1 : Int) := by omega
          have hfull : rs.take u1 = rs := List.take_of_length_le (by rw [hu1H.out]; exact Nat.le_refl _)
          have hall2 := hallH.out
          rw [hfull] at hall2
          have hall2H := Lib.hid hall2
          clear hall2 hfull hallH
          have hcv := hRcH.out.cover hRH.out hall2H.out
          have hcvH := Lib.hid hcv
          have hI1 := Lib.hid hTH.out.z1.iz.1
          have hl1 : Hid ((nz rs).length = u1) := by show _ = _; rw [nz_length]; exact hu1H.out
          have hsz := hblH.out.size
          clear hcv hall2H hDdH hIr hRH hlH hH hgH hb
          obtain ⟨wq, hwq⟩ : ∃ wq, wq = wr := ⟨_, rfl⟩
          subst hwq
          go_wp2_with (fail)
          go_loopg [15, 87] n (fun gk rv iv wx => ∃ (i : Nat) (v : Value), v = rv ∧ iv = .int .i64 (i : Nat) ∧ i + gk = n ∧ ZI wx wq.heap.size v (nz (offR rs i)) ∧ Below wq.heap.size wq wx)
          case atStart => exact ⟨0, _, rfl, rfl, by omega, ZI.nil _ _, Below.refl _ _⟩
          case round =>
            obtain ⟨i, v, rfl, rfl, hi, hZ, hbx⟩ := hrel
            obtain ⟨av, cv, hv⟩ := hZ.shape
            obtain ⟨u, hu⟩ : ∃ u, (nz (offR rs i)).length = u := ⟨_, rfl⟩
            rw [hu] at hv
            subst hv
            have hu8 : u ≤ 8 := by rw [← hu, nz_length]; exact Nat.le_trans offR_len (by omega)
            have huH := Lib.hid hu
            have hZH := Lib.hid hZ
            have hbxH := Lib.hid hbx
            clear hu hZ hbx
            by_cases hin : i < n
            · obtain ⟨g1, rfl⟩ : ∃ g1, gk = g1 + 1 := ⟨gk - 1, by omega⟩
              have hiI : (i : Int) < (n : Int) := by omega
              have hI2 := Lib.hid (hI1.out.below hbxH.out)
              by_cases hmem : i ∈ rs
              · have hmB := Lib.hid (decide_eq_true (show (i : Int) ∈ nz rs from mem_nz.2 hmem))
                have hnx := Lib.hid (offR_no hmem)
                clear hmem
                go_wp2_with (go_at_call 65; go_loud (refine (containsZ_any a1 d1 u1 (nz rs) (i : Nat) true _ hI2.out hl1.out (by omega) hmB.out).mono ?_); rintro e w3 ⟨rfl, rfl⟩)
                go_roundg g1
                case measure => omega
                case rel => exact ⟨i + 1, _, rfl, by go_num, by omega, by rw [hnx.out]; exact hZH.out, hbxH.out⟩
              · have hmB := Lib.hid (decide_eq_false (show ¬ (i : Int) ∈ nz rs from fun h => hmem (mem_nz.1 h)))
                have hnx : Hid (nz (offR rs i) ++ [(i : Int)] = nz (offR rs (i + 1))) := by show _ = _; rw [offR_yes hmem, ← nz_snoc]
                clear hmem
                go_wp2_with (first
                  | (go_at_call 65; go_loud (refine (containsZ_any a1 d1 u1 (nz rs) (i : Nat) false _ hI2.out hl1.out (by omega) hmB.out).mono ?_); rintro e w3 ⟨rfl, rfl⟩)
                  | (at_builtin; go_loud (refine wpList_append_z _ rfl (.tmp 94) (.tmp 96) _ rfl Try.underlying24 wq.heap.size u (.slice av u cv) (nz (offR rs i)) (i : Nat) (by rfl) (hZH.out.below (below_al (Below.refl _ _) _)) huH.out wr.heap.size (by rfl) (by omega) (by have := hbxH.out.size; simp; omega) (by simp) ?_); intro v4 w4 hZ4 hg4 ho4; rw [hnx.out] at hZ4; have hZ4H := Lib.hid hZ4; have hb4 := Lib.hid ((below_al hbxH.out _).grown hg4 (by have := hbxH.out.size; simp; omega) (fun k hk => (hZH.out.lt k hk).1)); clear hZ4 hg4 ho4))
                go_roundg g1
                case measure => omega
                case rel => exact ⟨i + 1, _, rfl, by go_num, by omega, hZ4H.out, hb4.out⟩
            · have hie : n = i := by omega
              subst hie
              have hiI : ¬ (n : Int) < (n : Int) := by omega
              have hszx := hbxH.out.size
              have hu2n : u2 ≤ 8 := by
                rw [← hu2H.out]
                have := hRcH.out.cnd.length_le_of_subset (l₂ := List.range n) (fun x hx => List.mem_range.2 (hRcH.out.clt x hx))
                rw [List.length_range] at this; omega
              have hsum : Hid (u + u2 = mostM (upA C z) n n 0) := by
                show _ = _
                rw [← hcvH.out.2, ← huH.out, ← hu2H.out, nz_length]; rfl
              go_wp2_with (go_at_call 66; go_loud (refine (sort_zi (.slice a2 u2 d2) w2.heap.size n cs _ (hTH.out.z2.below hbxH.out) hRcH.out.cnd hRcH.out.clt (by rw [hu2H.out]; omega) w2.heap.size (Nat.le_refl _) (by omega)).mono ?_); rintro e w7 ⟨rfl, ds, hz7, hA7, hl7, hm7, hb7, hc7⟩; have hz7H := Lib.hid hz7; have hA7H := Lib.hid hA7; have hl7H := Lib.hid hl7; have hm7H := Lib.hid hm7; have hb7H := Lib.hid hb7; have hc7H := Lib.hid hc7; clear hz7 hA7 hl7 hm7 hb7 hc7)
              (try simp only [Exit.inBlock, Exit.then]); refine bodyPost_ret (results_tmp4 rfl _ _ _) rfl ?_
              have hz2 := hz7H.out.iz
              have hu2' := hu2H.out
              refine ⟨offR rs n, ds, av, a2, u, u2, cv, d2, u + u2, offR_asc _ _, hA7H.out, fun i j hi hj hA => ?_, by rw [← huH.out, nz_length], by rw [hl7H.out]; exact hu2', rfl, hsum.out.symm, ?_, ?_, hz2.1, hZH.out.iz.2, hz2.2, ?_⟩
              · rcases hcvH.out.1 i j hi hj hA with h1 | h1
                · exact .inl h1
                · exact .inr ((hm7H.out j).2 h1)
              · rw [Int.natCast_add]; rfl
              · intro x y hx
                obtain ⟨b, o, e1, e2⟩ := hZH.out.iz.1 x y hx
                refine ⟨b, o, e1, hc7H.out b (o + x) _ (fun q => ?_) e2⟩
                have h1 := (hZH.out.lt b (by rw [e1]; rfl)).1
                have h2 := (hTH.out.z2.lt b q).2
                omega
              · exact hw2.out.trans ((hblH.out.trans ((hbxH.out.mono hsz).trans hb7H.out)).mono hw2.out.size)
end Go.Proofs.Yteiipfajoikfpaa
