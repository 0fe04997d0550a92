/- Wth -/
import Derived.Test.YtkecdjdggkpdpaaQWtg
import Derived.Test.YtkecdjdggkpdpaaQUs
import Derived.Test.YtkecdjdggkpdpaaQUg
import Derived.Test.YtkecdjdggkpdpaaQUi
import Derived.Deep.CutBlock
set_option linter.unusedVariables false
/- Walk of the law TopPieces. -/
namespace Go.Proofs.Ytkecdjdggkpdpaa
open Go Go.RowKit Go.Proofs

/-- What the first loop holds at its head. -/
structure InvT (w0 w : World) (vf vg vp vs : Value) (i : Nat) (fl : List Nat) (gs : List (List Nat)) (R : List Value) : Prop where
  fv : FV w0 w vf vg vp vs (.slice none 0 0) (List.replicate i 0) R (gs.map nz) (nz (piecesW (fnN fl) i)) (slotsW (fnG gs) i) []
  lf : fl.length = i
  lg : gs.length = i
  b3 : ∀ x ∈ fl, x ≤ 3
  ok : okG gs
  fa : ∀ k, Fall (fnG gs k)
  p8 : (piecesW (fnN fl) i).length ≤ 8
  s8 : (slotsW (fnG gs) i).length ≤ 8
set_option maxRecDepth 100000 in
set_option maxHeartbeats 6400000 in
theorem piecesLaw_any (a0 a1 : Option Addr) (n0 c0 n1 c1 : Nat) (fs : List Nat) (GS : List (List Nat)) (w : World) (h0 : Dg .u8 w a0 fs) (hl0 : fs.length = n0) (hb0 : ∀ x ∈ fs, x < 256) (hn0 : n0 ≤ 9223372036854775807) (h1 : UMx w a1 GS) (hl1 : GS.length = n1) (hn1 : n1 ≤ 9223372036854775807) (hrl : ∀ r ∈ GS, r.length ≤ 9223372036854775807) (hb1 : ∀ r ∈ GS, ∀ x ∈ r, x < 65536) :
    Calls Try.prog 3 #[.slice a0 n0 c0, .slice a1 n1 c1] w (RetB w true) := by
  have h0H := Lib.hid h0
  have hl0H := Lib.hid hl0
  have h1H := Lib.hid h1
  have hl1H := Lib.hid hl1
  have hrlH := Lib.hid hrl
  have hb0H := Lib.hid hb0
  have hb1H := Lib.hid hb1
  clear h0 hl0 hb0 h1 hl1 hrl hb1
  have hF0 : Hid (FV w ((((w.alloc (.cells #[] 3)).alloc (.cells #[] 24)).alloc (.cells #[] 3)).alloc (.cells #[] 29)) (.slice (some ⟨w.heap.size, 0, none⟩) 0 0) (.slice (some ⟨w.heap.size + 1, 0, none⟩) 0 0) (.slice (some ⟨w.heap.size + 1 + 1, 0, none⟩) 0 0) (.slice (some ⟨w.heap.size + 1 + 1 + 1, 0, none⟩) 0 0) (.slice none 0 0) [] [] [] [] [] []) :=
    ⟨Five.start w, (fun r hr => by cases hr), below_al (below_al (below_al (below_al (Below.refl _ _) _) _) _) _⟩
  obtain ⟨N, hN⟩ : ∃ N, max 1 (min n0 4) = N := ⟨_, rfl⟩
  have hNI : max (1 : Int) (min (n0 : Int) 4) = (N : Int) := by omega
  have hN1 : 1 ≤ N := by omega
  have hN4 : N ≤ 4 := by omega
  go_enter Try.func3, Try.ntmps3
  go_wp2_with (fail)
  go_loopg [5, 6, 7, 8, 10] N (fun gk fv gv pv sv iv wr => ∃ (i : Nat) (fl : List Nat) (gs : List (List Nat)) (R : List Value) (vf vg vp vs : Value), vf = fv ∧ vg = gv ∧ vp = pv ∧ vs = sv ∧ iv = .int .i64 (i : Nat) ∧ i + gk = N ∧ InvT w wr vf vg vp vs i fl gs R)
  case atStart => exact ⟨0, [], [], [], _, _, _, _, rfl, rfl, rfl, rfl, rfl, by omega, hF0.out, rfl, rfl, (fun x hx => by cases hx), (fun l hl => by cases hl), (fun k => by simp [fnG, Fall]), by simp [piecesW], by simp [slotsW]⟩
  case round =>
    clear hF0
    obtain ⟨i, fl, gs, R, vf, vg, vp, vs, rfl, rfl, rfl, rfl, rfl, hi, hT⟩ := hrel
    obtain ⟨af, cf, hvf⟩ := hT.fv.five.f.shape
    obtain ⟨ag, cg, hvg⟩ := own_shape hT.fv.five.g
    obtain ⟨ap, cp, hvp⟩ := hT.fv.five.p.shape
    obtain ⟨ao, cs, hvs⟩ := hT.fv.five.s.shape
    obtain ⟨np, hnp⟩ : ∃ n, (piecesW (fnN fl) i).length = n := ⟨_, rfl⟩
    obtain ⟨ns, hns⟩ : ∃ n, (slotsW (fnG gs) i).length = n := ⟨_, rfl⟩
    have hnp8 : np ≤ 8 := by rw [← hnp]; exact hT.p8
    have hns8 : ns ≤ 8 := by rw [← hns]; exact hT.s8
    rw [List.length_replicate] at hvf
    rw [List.length_map, hT.lg] at hvg
    rw [nz_length, hnp] at hvp
    rw [hns] at hvs
    subst hvf hvg hvp hvs
    have hTH := Lib.hid hT
    have hnpH := Lib.hid hnp
    have hnsH := Lib.hid hns
    clear hT hnp hns
    by_cases hiN : i < N
    · -- cutA
      obtain ⟨g1, rfl⟩ : ∃ g1, gk = g1 + 1 := ⟨gk - 1, by omega⟩
      have hiI : (i : Int) < (N : Int) := by omega
      have hi0 : (0 : Int) ≤ (i : Int) := by omega
      obtain ⟨v, hv⟩ : ∃ v, (if i < n0 then (fs[i]?.getD 0) % 4 else 0) = v := ⟨_, rfl⟩
      have hv3 : v ≤ 3 := by rw [← hv]; split <;> omega
      go_upto_if 54 with (fail)
      have hV1 : Hid (FV w (wr.alloc (.cells #[] 3)) (.slice af i cf) (.slice ag i cg) (.slice ap np cp) (.slice ao ns cs) (.slice (some ⟨wr.heap.size, 0, none⟩) 0 0) (List.replicate i 0) R (gs.map nz) (nz (piecesW (fnN fl) i)) (slotsW (fnG gs) i) []) := hTH.out.fv.fresh
      obtain ⟨V, hV⟩ : ∃ V, V = wr.alloc (.cells #[] 3) := ⟨_, rfl⟩
      rw [← hV] at hV1 ⊢
      have hbV := hV1.out.bl
      have hbVH := Lib.hid hbV
      clear hV hbV
      go_cut [11] from 45 to 126 (fun s wx => s = .int .i64 (v : Nat) ∧ wx = V)
      case first =>
        by_cases hin : i < n0
        · have hinI : (i : Int) < (n0 : Int) := by omega
          obtain ⟨b, o, x, hx, ha, hc⟩ := (h0H.out.below hbVH.out).at (i := i) (by rw [hl0H.out]; exact hin)
          have haH := Lib.hid ha
          subst ha
          have hxv : x % 4 = v := by rw [← hv, if_pos hin, hx]; rfl
          have hx256 : x < 256 := hb0H.out x (List.mem_of_getElem? hx)
          have t1 : ((x : Int)).tmod 4 = (v : Int) := by rw [← hxv]; exact (Int.ofNat_tmod x 4).symm
          clear hx hv
          have hx256H := Lib.hid hx256
          clear hx256
          go_wp2_with (fail)
          go_meet
          case rel =>
            have t0 : wrap64 (x : Int) = (x : Int) := by have := hx256H.out; rw [IntWalk.wrap64_in] <;> omega
            exact ⟨by rw [t0, t1], rfl⟩
        · have hinI : ¬ (i : Int) < (n0 : Int) := by omega
          have hv0 : v = 0 := by rw [← hv, if_neg hin]
          clear hv
          subst hv0
          go_wp2_with (fail)
          go_meet
          case rel => exact ⟨rfl, rfl⟩
      case rest =>
        obtain ⟨rfl, rfl⟩ := hcut
        clear hv
        go_upto_block 2 with (fail)
        go_cut [7, 14] from 45 to 126 (fun pv kv wx => ∃ (k : Nat) (ap2 : Option Addr) (cp2 : Nat), pv = .slice ap2 (np + k : Nat) cp2 ∧ k ≤ 3 ∧ np + k ≤ 8 ∧ FV w wx (.slice af i cf) (.slice ag i cg) (.slice ap2 (np + k) cp2) (.slice ao ns cs) (.slice (some ⟨wr.heap.size, 0, none⟩) 0 0) (List.replicate i 0) R (gs.map nz) (nz (piecesW (fnN fl) i ++ List.replicate k i)) (slotsW (fnG gs) i) [])
        case first =>
          go_wp2_with (fail)
          go_loopg [7, 14] v (fun g2 pv kv wx => ∃ (k : Nat) (ap2 : Option Addr) (cp2 : Nat), pv = .slice ap2 (np + k : Nat) cp2 ∧ kv = .int .i64 (k : Nat) ∧ k + g2 = v ∧ np + k ≤ 8 ∧ FV w wx (.slice af i cf) (.slice ag i cg) (.slice ap2 (np + k) cp2) (.slice ao ns cs) (.slice (some ⟨wr.heap.size, 0, none⟩) 0 0) (List.replicate i 0) R (gs.map nz) (nz (piecesW (fnN fl) i ++ List.replicate k i)) (slotsW (fnG gs) i) [])
          case atStart => exact ⟨0, ap, cp, rfl, rfl, by omega, hnp8, by rw [List.replicate_zero, List.append_nil]; exact hV1.out⟩
          case round =>
            clear hV1
            obtain ⟨k, ap2, cp2, rfl, rfl, hk, hk8, hT2⟩ := hrel
            have hT2H := Lib.hid hT2
            have hlP : Hid ((nz (piecesW (fnN fl) i ++ List.replicate k i)).length = np + k) := by show _ = _; rw [nz_length, List.length_append, hnpH.out, List.length_replicate]
            clear hT2
            by_cases hkv : k < v
            · have hkI : (k : Int) < (v : Int) := by omega
              by_cases hk8' : np + k < 8
              · have hkJ : ((np + k : Nat) : Int) < 8 := by omega
                have hkJ2 : (np : Int) + (k : Int) < 8 := by omega
                obtain ⟨g3, rfl⟩ : ∃ g3, gk = g3 + 1 := ⟨gk - 1, by omega⟩
                go_wp2_with (at_builtin; go_loud (refine fv_appP _ rfl (.tmp 71) (.tmp 73) _ rfl Try.underlying24 (hT2H.out.al _) (np + k) (i : Nat) (by rfl) hlP.out _ (by rfl) (by omega) (by simp) ?_); intro v4 w4 hA4; have hA := Lib.hid hA4; clear hA4)
                obtain ⟨ap4, cp4, hv4⟩ := hA.out.five.p.shape
                have hl4 : (nz (piecesW (fnN fl) i ++ List.replicate k i) ++ [((i : Nat) : Int)]).length = np + (k + 1) := by rw [List.length_append, hlP.out]; rfl
                rw [hl4] at hv4
                have hvH := Lib.hid hv4
                clear hl4 hv4
                go_roundg g3
                case measure => omega
                case rel => exact ⟨k + 1, ap4, cp4, hvH.out, by go_num, by omega, by omega, by have := hA.out; rw [nz_snoc, List.append_assoc, ← List.replicate_succ', hvH.out] at this; exact this⟩
              · have hkJ : ¬ ((np + k : Nat) : Int) < 8 := by omega
                have hkJ2 : ¬ (np : Int) + (k : Int) < 8 := by omega
                go_wp2_with (fail)
                go_meet
                case rel => exact ⟨k, ap2, cp2, rfl, by omega, hk8, hT2H.out⟩
            · have hkI : ¬ (k : Int) < (v : Int) := by omega
              go_wp2_with (fail)
              go_meet
              case rel => exact ⟨k, ap2, cp2, rfl, by omega, hk8, hT2H.out⟩
        case rest =>
          clear hV1
          obtain ⟨cnt, ap2, cp2, rfl, hc3, hc8, hT2⟩ := hcut
          have hT2H := Lib.hid hT2
          clear hT2
          go_upto_block 4 with (fail)
          go_cut [8, 12, 13, 15] from 45 to 126 (fun sv lv xv kv wx => ∃ (k : Nat) (L : List Nat) (ao2 : Option Addr) (cs2 : Nat) (al : Option Addr) (cl : Nat), sv = .slice ao2 (ns + k : Nat) cs2 ∧ lv = .slice al k cl ∧ L.length = k ∧ k ≤ 3 ∧ Fall L ∧ (∀ y ∈ L, y ≤ 1000) ∧ ns + k ≤ 8 ∧ FV w wx (.slice af i cf) (.slice ag i cg) (.slice ap2 (np + cnt) cp2) (.slice ao2 (ns + k) cs2) (.slice al k cl) (List.replicate i 0) R (gs.map nz) (nz (piecesW (fnN fl) i ++ List.replicate cnt i)) (slotsW (fnG gs) i ++ L.map fun x => (i, x)) (nz L))
          case first =>
            go_wp2_with (fail)
            go_loopg [8, 12, 13, 15] 3 (fun gc sv lv xv kv wx => ∃ (k : Nat) (L : List Nat) (ao2 : Option Addr) (cs2 : Nat) (al : Option Addr) (cl : Nat) (x : Nat), sv = .slice ao2 (ns + k : Nat) cs2 ∧ lv = .slice al k cl ∧ xv = .int .i64 (x : Nat) ∧ kv = .int .i64 (k : Nat) ∧ L.length = k ∧ k + gc = 3 ∧ Fall L ∧ (∀ y ∈ L, x ≤ y ∧ y ≤ 1000) ∧ x ≤ 1000 ∧ ns + k ≤ 8 ∧ FV w wx (.slice af i cf) (.slice ag i cg) (.slice ap2 (np + cnt) cp2) (.slice ao2 (ns + k) cs2) (.slice al k cl) (List.replicate i 0) R (gs.map nz) (nz (piecesW (fnN fl) i ++ List.replicate cnt i)) (slotsW (fnG gs) i ++ L.map fun x => (i, x)) (nz L))
            case atStart => exact ⟨0, [], ao, cs, _, 0, 1000, rfl, rfl, rfl, rfl, rfl, rfl, List.Pairwise.nil, (fun y hy => by cases hy), Nat.le_refl _, hns8, by rw [List.map_nil, List.append_nil]; exact hT2H.out⟩
            case round =>
              clear hT2H
              obtain ⟨k, L, ao2, cs2, al, cl, x, rfl, rfl, rfl, rfl, hLk, hk, hfL, hyL, hx1, hk8, hT3⟩ := hrel
              have hT3H := Lib.hid hT3
              have hLkH := Lib.hid hLk
              have hfLH := Lib.hid hfL
              have hyLH := Lib.hid hyL
              have hend : Hid (∀ y ∈ L, y ≤ 1000) := fun y hy => (hyLH.out y hy).2
              have hlS : Hid ((slotsW (fnG gs) i ++ L.map fun x => (i, x)).length = ns + k) := by show _ = _; rw [List.length_append, List.length_map, hnsH.out, hLkH.out]
              have hlL : Hid ((nz L).length = k) := by show _ = _; rw [nz_length, hLkH.out]
              clear hT3 hLk hfL hyL
              have hk0 : (0 : Int) ≤ (k : Int) := by omega
              by_cases hin : i < n1
              · have hinI : (i : Int) < (n1 : Int) := by omega
                obtain ⟨r, hr⟩ : ∃ r, GS[i]? = some r := ⟨_, List.getElem?_eq_getElem (by rw [hl1H.out]; exact hin)⟩
                obtain ⟨b, o, ar, cr, ha, hc, hcr, hD⟩ := (h1H.out.below hT3H.out.bl).row hr
                have hrl := hrlH.out r (List.mem_of_getElem? hr)
                have hrM := Lib.hid (List.mem_of_getElem? hr)
                obtain ⟨rn, hrn⟩ : ∃ n, r.length = n := ⟨_, rfl⟩
                rw [hrn] at hc hcr hrl
                have haH := Lib.hid ha
                have hDH := Lib.hid hD
                have hrnH := Lib.hid hrn
                subst ha
                clear hr hD hrn
                by_cases hkr : k < rn
                · have hkrI : (k : Int) < (rn : Int) := by omega
                  by_cases hk3 : k < 3
                  · have hk3I : (k : Int) < 3 := by omega
                    by_cases hk8' : ns + k < 8
                    · have hkJ : ((ns + k : Nat) : Int) < 8 := by omega
                      have hkJ2 : (ns : Int) + (k : Int) < 8 := by omega
                      obtain ⟨g3, rfl⟩ : ∃ g3, gk = g3 + 1 := ⟨gk - 1, by omega⟩
                      obtain ⟨b2, o2, z, hz, ha2, hc2⟩ := hDH.out.at (i := k) (by rw [hrnH.out]; exact hkr)
                      have ha2H := Lib.hid ha2
                      subst ha2
                      have hz6 : Hid (z < 65536) := hb1H.out r hrM.out z (List.mem_of_getElem? hz)
                      obtain ⟨y, hy⟩ : ∃ y, min x (z % 1001) = y := ⟨_, rfl⟩
                      have hyx : y ≤ x := by omega
                      have hyH := Lib.hid hy
                      clear hz hy
                      go_upto_region 17 with (fail)
                      go_cut [13] from 75 to 119 (fun s wy => s = .int .i64 (y : Nat) ∧ wy = wr)
                      case first =>
                        go_wp2_with (fail)
                        go_meet
                        case rel =>
                          have t0 : wrap64 (z : Int) = (z : Int) := by have := hz6.out; rw [IntWalk.wrap64_in] <;> omega
                          have t1 : ((z : Int)).tmod 1001 = ((z % 1001 : Nat) : Int) := (Int.ofNat_tmod z 1001).symm
                          refine ⟨?_, rfl⟩
                          rw [t0, t1, ← hyH.out]
                          congr 1
                          omega
                      case rest =>
                        obtain ⟨rfl, rfl⟩ := hcut
                        go_wp2_with (first
                          | (at_builtin; (refine fv_appL _ rfl (.tmp 110) (.tmp 112) _ rfl Try.underlying24 (hT3H.out.al _) k (y : Nat) (by rfl) hlL.out _ (by rfl) (by omega) (by simp) ?_); intro v4 w4 hA4; have hA := Lib.hid hA4; clear hA4)
                          | (at_builtin; go_loud (refine fv_appS _ rfl (.tmp 114) (.tmp 118) _ rfl Try.underlying26 (hA.out.al _) (ns + k) i y (by rfl) hlS.out _ (by rfl) (by omega) (by simp) (by simp) ?_); intro v5 w5 hA5; have hB := Lib.hid hA5; clear hA5))
                        obtain ⟨al4, cl4, hv4⟩ := hB.out.five.l.shape
                        obtain ⟨ao4, cs4, hv5⟩ := hB.out.five.s.shape
                        have hl4 : (nz L ++ [((y : Nat) : Int)]).length = k + 1 := by rw [List.length_append, hlL.out]; rfl
                        have hl5 : (slotsW (fnG gs) i ++ (L.map fun x => (i, x)) ++ [(i, y)]).length = ns + (k + 1) := by rw [List.length_append, hlS.out]; rfl
                        rw [hl4] at hv4
                        rw [hl5] at hv5
                        have hv4H := Lib.hid hv4
                        have hv5H := Lib.hid hv5
                        clear hl4 hl5 hv4 hv5
                        go_roundg g3
                        case measure => omega
                        case rel =>
                          refine ⟨k + 1, L ++ [y], ao4, cs4, al4, cl4, y, hv5H.out, hv4H.out, rfl, by go_num, by rw [List.length_append, hLkH.out]; rfl, by omega, hfLH.out.snoc fun u hu => by have := hyLH.out u hu; omega, fun u hu => ?_, by omega, by omega, ?_⟩
                          · rcases List.mem_append.1 hu with h3 | h3
                            · have := hyLH.out u h3; omega
                            · rw [List.mem_singleton] at h3; omega
                          · have := hB.out
                            rw [nz_snoc, List.append_assoc, hv4H.out, hv5H.out] at this
                            rw [List.map_append]
                            exact this
                    · have hkJ : ¬ ((ns + k : Nat) : Int) < 8 := by omega
                      have hkJ2 : ¬ (ns : Int) + (k : Int) < 8 := by omega
                      go_wp2_with (fail)
                      go_meet
                      case rel => exact ⟨k, L, ao2, cs2, al, cl, rfl, rfl, hLkH.out, by omega, hfLH.out, hend.out, hk8, hT3H.out⟩
                  · have hk3I : ¬ (k : Int) < 3 := by omega
                    go_wp2_with (fail)
                    go_meet
                    case rel => exact ⟨k, L, ao2, cs2, al, cl, rfl, rfl, hLkH.out, by omega, hfLH.out, hend.out, hk8, hT3H.out⟩
                · have hkrI : ¬ (k : Int) < (rn : Int) := by omega
                  go_wp2_with (fail)
                  go_meet
                  case rel => exact ⟨k, L, ao2, cs2, al, cl, rfl, rfl, hLkH.out, by omega, hfLH.out, hend.out, hk8, hT3H.out⟩
              · have hinI : ¬ (i : Int) < (n1 : Int) := by omega
                go_wp2_with (fail)
                go_meet
                case rel => exact ⟨k, L, ao2, cs2, al, cl, rfl, rfl, hLkH.out, by omega, hfLH.out, hend.out, hk8, hT3H.out⟩
          case rest =>
            clear hT2H
            obtain ⟨k, L, ao2, cs2, al, cl, rfl, rfl, hLk, hk3, hfL, hyL, hk8, hT3⟩ := hcut
            have hT3H := Lib.hid hT3
            have hlF : Hid ((List.replicate i (0 : Int)).length = i) := List.length_replicate
            have hlG : Hid ((gs.map nz).length = i) := by show _ = _; rw [List.length_map]; exact hTH.out.lg
            have hLkH := Lib.hid hLk
            have hfLH := Lib.hid hfL
            have hyLH := Lib.hid hyL
            clear hT3 hLk hfL hyL
            go_wp2_with (first
              | (at_builtin; (refine fv_appF _ rfl (.tmp 120) (.tmp 121) _ rfl Try.underlying24 (hT3H.out.al _) i 0 (by rfl) hlF.out _ (by rfl) (by omega) (by simp) ?_); intro v4 w4 hA4; have hA := Lib.hid hA4; clear hA4)
              | (at_builtin; go_loud (refine fv_appG _ rfl (.tmp 123) (.tmp 125) _ rfl Try.underlying25 (hA.out.al _) i (by rfl) hlG.out _ (by rfl) (by omega) (by simp) ?_); intro v5 w5 hA5; have hB := Lib.hid hA5; clear hA5))
            go_roundg g1
            case measure => omega
            case rel =>
              refine ⟨i + 1, fl ++ [cnt], gs ++ [L], R ++ [.slice al k cl], _, _, _, _, rfl, rfl, rfl, rfl, by go_num, by omega, ?_, ?_, ?_, ?_, ?_, ?_, ?_, ?_⟩
              · have := hB.out
                rw [← repl_next] at this
                rw [pieces_snoc hTH.out.lf, slots_snoc hTH.out.lg, List.map_append]
                exact this
              · rw [List.length_append, hTH.out.lf]; rfl
              · rw [List.length_append, hTH.out.lg]; rfl
              · intro x hx
                rcases List.mem_append.1 hx with h3 | h3
                · exact hTH.out.b3 x h3
                · rw [List.mem_singleton] at h3; omega
              · exact hTH.out.ok.snoc (by rw [hLkH.out]; omega) hyLH.out
              · exact fallG_snoc hTH.out.fa hfLH.out
              · rw [pieces_snoc hTH.out.lf, List.length_append, List.length_replicate, hnpH.out]; exact hc8
              · rw [slots_snoc hTH.out.lg, List.length_append, List.length_map, hnsH.out, hLkH.out]; exact hk8
      -- endA
    · have hie : i = N := by omega
      subst hie
      have hiI : ¬ (i : Int) < (i : Int) := by omega
      obtain ⟨gf, rfl⟩ := own_some (show wr.ownsRow w.heap.size 3 1 (.slice af i cf) i _ by have := hTH.out.fv.five.f; unfold ZI at this; rw [List.length_replicate] at this; exact this) hN1
      have hSV0 := Lib.hid (hTH.out.fv.sv (by rw [List.length_replicate]; exact hN1))
      have hcfi : i ≤ cf := by have := hTH.out.fv.five.f; have := (ZI.iz this).2; exact this
      have hlf := Lib.hid hTH.out.lf
      have hlg := Lib.hid hTH.out.lg
      have hb3 := Lib.hid hTH.out.b3
      have hok := Lib.hid hTH.out.ok
      have hfa := Lib.hid hTH.out.fa
      obtain ⟨P, hP⟩ : ∃ P, piecesW (fnN fl) i = P := ⟨_, rfl⟩
      have hPH := Lib.hid hP
      rw [hP] at hSV0 hnpH
      have hPlt : Hid (∀ a ∈ P, a < i) := by show _; rw [← hP]; exact pieces_lt _
      clear hTH hP hi hNI hN
      go_wp2_with (fail)
      go_loopg [16] np (fun gc kv wx => ∃ (k : Nat) (F : List Nat), kv = .int .i64 (k : Nat) ∧ k + gc = np ∧ F.length = i ∧ (∀ j, j < i → fnN F j = (P.take k).count j) ∧ SV w wx gf (.slice ag i cg) (.slice ap np cp) (.slice ao ns cs) (nz F) R (gs.map nz) (nz P) (slotsW (fnG gs) i))
      case atStart => exact ⟨0, List.replicate i 0, rfl, by omega, List.length_replicate, fun j hj => by unfold fnN; rw [List.getElem?_replicate, if_pos hj]; simp, by have := hSV0.out; rw [show nz (List.replicate i 0) = List.replicate i (0 : Int) by unfold nz; rw [List.map_replicate]; rfl]; exact this⟩
      case round =>
        clear hSV0
        obtain ⟨k, F, rfl, hk, hFl, hFc, hS⟩ := hrel
        have hSH := Lib.hid hS
        have hFlH := Lib.hid hFl
        have hFcH := Lib.hid hFc
        clear hS hFl hFc
        by_cases hkn : k < np
        · obtain ⟨g1, rfl⟩ : ∃ g1, gk = g1 + 1 := ⟨gk - 1, by omega⟩
          have hknI : (k : Int) < (np : Int) := by omega
          have hk0 : (0 : Int) ≤ (k : Int) := by omega
          obtain ⟨a, ha⟩ : ∃ a, P[k]? = some a := ⟨_, List.getElem?_eq_getElem (by rw [hnpH.out]; exact hkn)⟩
          have hai : a < i := hPlt.out a (List.mem_of_getElem? ha)
          have haI : (a : Int) < (i : Int) := by omega
          have ha0 : (0 : Int) ≤ (a : Int) := by omega
          obtain ⟨bp, op, hap, hcp⟩ := (ZI.iz hSH.out.p).1 k (a : Nat) (nz_get ha)
          have hapH := Lib.hid hap
          subst hap
          have hcF := hSH.out.zp.at (i := a) (by rw [nz_length, hFlH.out]; exact hai)
          have hzF := hSH.out.zp.frozen a
          obtain ⟨y, hy⟩ : ∃ y, fnN F a = y := ⟨_, rfl⟩
          have hcnt : y ≤ 8 := by
            have h1 := hFcH.out a hai
            have h2 := List.count_le_length (a := a) (l := P.take k)
            rw [List.length_take, hnpH.out] at h2
            omega
          rw [show at0 (nz F) a = (y : Int) by rw [← hy]; exact at0_of (nz_get (by unfold fnN; rw [List.getElem?_eq_getElem (by rw [hFlH.out]; exact hai)]; rfl))] at hcF
          have hset : Hid (SV w (wr.setCell ⟨gf, a, none⟩ (.int .i64 ((y : Int) + 1))) gf (.slice ag i cg) (.slice (some ⟨bp, op, none⟩) np cp) (.slice ao ns cs) (nz (addU F a)) R (gs.map nz) (nz P) (slotsW (fnG gs) i)) := by
            have := hSH.out.set (i := a) (by rw [nz_length, hFlH.out]; exact hai) ((y : Int) + 1)
            show SV _ _ _ _ _ _ _ _ _ _ _
            rw [addU_nz, hy]; exact this
          have hw1 : IntKind.i64.wrap ((y : Int) + 1) = (y : Int) + 1 := by rw [IntKind.wrap_i64]; omega
          have haH := Lib.hid ha
          clear ha hy
          go_wp2_with (fail)
          go_roundg g1
          case measure => omega
          case rel => exact ⟨k + 1, addU F a, by go_num, by omega, by rw [addU_len, hFlH.out], count_step hFlH.out hFcH.out haH.out hai, hset.out⟩
        · have hke : k = np := by omega
          subst hke
          have hkI : ¬ (k : Int) < (k : Int) := by omega
          have hFe : F = fl := count_end hFlH.out hlf.out fun j hj => by rw [hFcH.out j hj, hPH.out, List.take_of_length_le (by rw [hnpH.out]; exact Nat.le_refl _)]
          subst hFe
          obtain ⟨bg, rfl⟩ := own_some (show wr.ownsRow w.heap.size 24 1 (.slice ag i cg) i _ by have := hSH.out.g; rw [List.length_map, hlg.out] at this; exact this) hN1
          obtain ⟨hGx, hcg⟩ := rows_imx hSH.out.g hSH.out.rows
          have hF4 := Lib.hid hSH.out.zp.iz
          have hG4 := Lib.hid hGx
          have hP4 := Lib.hid (ZI.iz hSH.out.p).1
          have hS4 := Lib.hid hSH.out.s
          have hb4 := Lib.hid hSH.out.bl
          clear hSH hFlH hFcH hGx hk
          obtain ⟨K, hK⟩ : ∃ K, max (max 1 k) ns = K := ⟨_, rfl⟩
          have hK1 : 1 ≤ K := by omega
          have hK8 : K ≤ 8 := by omega
          have hkK : k ≤ K := by omega
          have hnK : ns ≤ K := by omega
          obtain ⟨W4, hW4⟩ : ∃ W, W = wr := ⟨_, rfl⟩
          subst hW4
          obtain ⟨S, hS⟩ : ∃ S, slotsW (fnG gs) i = S := ⟨_, rfl⟩
          have hSH := Lib.hid hS
          rw [hS] at hS4 hnsH
          have hMI0 := Lib.hid (MI.lit0 W4 W4.heap.size (Nat.le_refl _))
          clear hS hkI hkn
          go_upto_region 24 with (fail)
          go_cut [17] from 142 to 146 (fun s wx => s = .int .i64 (K : Nat) ∧ W4 = wx)
          case first =>
            go_wp2_with (fail)
            all_goals (
              go_meet
              case rel => exact ⟨congrArg (Value.int .i64) (by omega), rfl⟩)
          case rest =>
          obtain ⟨rfl, rfl⟩ := hcut
          clear hK
          go_wp2_with (fail)
          go_loopg [18, 19] K (fun gc cv tv wx => ∃ (t : Nat) (ac : Option Addr) (cc : Nat), cv = .slice ac t cc ∧ tv = .int .i64 (t : Nat) ∧ t + gc = K ∧ MI wx W4.heap.size (.slice ac t cc) (costTab P S K t) ∧ Below W4.heap.size W4 wx)
          case atStart => exact ⟨0, _, 0, rfl, rfl, by omega, hMI0.out, below_al (Below.refl _ _) _⟩
          case round =>
            clear hMI0
            obtain ⟨t, ac, cc, rfl, rfl, ht, hM, hbl⟩ := hrel
            have hMH := Lib.hid hM
            have hblH := Lib.hid hbl
            have hCl := Lib.hid (costTab_len P S K t)
            clear hM hbl
            by_cases htK : t < K
            · obtain ⟨g1, rfl⟩ : ∃ g1, gk = g1 + 1 := ⟨gk - 1, by omega⟩
              have htI : (t : Int) < (K : Int) := by omega
              have ht0 : (0 : Int) ≤ (t : Int) := by omega
              obtain ⟨wq, hwq⟩ : ∃ wq, wq = wr := ⟨_, rfl⟩
              subst hwq
              go_wp2_with (fail)
              go_loopg [20, 21] K (fun gc rv jv wx => ∃ (j : Nat) (ar : Option Addr) (cr : Nat), rv = .slice ar j cr ∧ jv = .int .i64 (j : Nat) ∧ j + gc = K ∧ ZE wx wq.heap.size (.slice ar j cr) (costRow P S t j) ∧ Below wq.heap.size wq wx)
              case atStart => exact ⟨0, _, 0, rfl, rfl, by omega, ZE.lit _ _ _, below_al (Below.refl _ _) _⟩
              case round =>
                obtain ⟨j, ar, cr, rfl, rfl, hj, hZ, hbx⟩ := hrel
                have hZH := Lib.hid hZ
                have hbxH := Lib.hid hbx
                have hRl := Lib.hid (costRow_len P S t j)
                clear hZ hbx
                by_cases hjK : j < K
                · -- cutC
                  obtain ⟨g2, rfl⟩ : ∃ g2, gk = g2 + 1 := ⟨gk - 1, by omega⟩
                  have hjI : (j : Int) < (K : Int) := by omega
                  have hj0 : (0 : Int) ≤ (j : Int) := by omega
                  obtain ⟨bb, hbb⟩ : ∃ bb : Bool, decide (t < k ∧ j < ns ∧ P[t]?.getD 0 ≤ (S[j]?.getD (0, 0)).1) = bb := ⟨_, rfl⟩
                  have hbbH := Lib.hid hbb
                  have hb4x := Lib.hid (bseqJ hblH.out hbxH.out)
                  clear hbb
                  go_upto_region 34 with (fail)
                  go_cut [180] from 154 to 191 (fun b wx => b = .bool bb ∧ Below wr.heap.size wr wx)
                  case first =>
                    by_cases htk : t < k
                    · have htkI : (t : Int) < (k : Int) := by omega
                      have htkB : decide ((t : Int) < (k : Int)) = true := decide_eq_true htkI
                      by_cases hjn : j < ns
                      · have hjnI : (j : Int) < (ns : Int) := by omega
                        have hjnB : decide ((j : Int) < (ns : Int)) = true := decide_eq_true hjnI
                        obtain ⟨a, ha⟩ : ∃ a, P[t]? = some a := ⟨_, List.getElem?_eq_getElem (by rw [hnpH.out]; exact htk)⟩
                        obtain ⟨s, hs⟩ : ∃ s, S[j]? = some s := ⟨_, List.getElem?_eq_getElem (by rw [hnsH.out]; exact hjn)⟩
                        obtain ⟨bp, op, hap, hcp⟩ := (hP4.out.below hb4x.out) t (a : Nat) (nz_get ha)
                        obtain ⟨bs, has, hcs0, hcs1⟩ := (hS4.out.below hb4x.out).at hs
                        rw [Nat.zero_add] at hcs0 hcs1
                        obtain ⟨s1, s2⟩ := s
                        have hbb2 := hbbH.out
                        rw [ha, hs] at hbb2
                        simp only [htk, hjn, true_and, Option.getD_some] at hbb2
                        have hsl := hS4.out.1
                        clear hs ha
                        subst hap has
                        have hb3H := Lib.hid hbb2
                        clear hbb2 hsl
                        go_quiet (fail)
                        go_wp2_with (fail)
                        go_meet
                        case rel => exact ⟨congrArg Value.bool hb3H.out, bdn (Below.refl _ _)⟩
                      · have hjnI : ¬ (j : Int) < (ns : Int) := by omega
                        have hjnB : decide ((j : Int) < (ns : Int)) = false := decide_eq_false hjnI
                        have hb3H : Hid (bb = false) := by show _ = _; rw [← hbbH.out]; exact decide_eq_false fun h => hjn h.2.1
                        go_quiet (fail)
                        go_wp2_with (fail)
                        go_meet
                        case rel => exact ⟨congrArg Value.bool hb3H.out.symm, bdn (Below.refl _ _)⟩
                    · have htkI : ¬ (t : Int) < (k : Int) := by omega
                      have htkB : decide ((t : Int) < (k : Int)) = false := decide_eq_false htkI
                      have hb3H : Hid (bb = false) := by show _ = _; rw [← hbbH.out]; exact decide_eq_false fun h => htk h.1
                      go_quiet (fail)
                      go_wp2_with (fail)
                      go_meet
                      case rel => exact ⟨congrArg Value.bool hb3H.out.symm, bdn (Below.refl _ _)⟩
                  case rest =>
                    obtain ⟨rfl, hbc⟩ := hcut
                    have hbcH := Lib.hid (bseqJ hbxH.out hbc)
                    have hb4c := Lib.hid (bseqJ hb4x.out hbc)
                    have hZc := Lib.hid (hZH.out.below hbc)
                    clear hbc hb4x hZH
                    cases bb
                    · have hgn : gnW P S t j = 0 := by
                        have hcond := of_decide_eq_false hbbH.out
                        by_cases htk : t < k
                        · by_cases hjn : j < ns
                          · obtain ⟨a, ha⟩ : ∃ a, P[t]? = some a := ⟨_, List.getElem?_eq_getElem (by rw [hnpH.out]; exact htk)⟩
                            obtain ⟨s, hs⟩ : ∃ s, S[j]? = some s := ⟨_, List.getElem?_eq_getElem (by rw [hnsH.out]; exact hjn)⟩
                            rw [gn_some ha hs, if_neg fun h => hcond ⟨htk, hjn, by rw [ha, hs]; exact h⟩]
                          · exact gn_none (.inr (by rw [hnsH.out]; omega))
                        · exact gn_none (.inl (by rw [hnpH.out]; omega))
                      have hgnH := Lib.hid hgn
                      clear hgn
                      go_wp2_with (at_builtin; go_loud (refine wpList_append_ze _ rfl (.tmp 188) (.tmp 190) _ rfl Try.underlying24 wq.heap.size j (.slice ar j cr) (costRow P S t j) (by rfl) (hZc.out.below (below_al (Below.refl _ _) _)) hRl.out (some ⟨wc.heap.size, 0, none⟩) 1 1 [1000 - ((0 : Nat) : Int)] (by rfl) (IZ.one (by simp)) rfl (by omega) (by omega) (by have := hbcH.out.size; simp; omega) ?_); intro v4 w4 hA4; have hA := Lib.hid hA4; clear hA4)
                      obtain ⟨ar4, cr4, hv4⟩ := hA.out.1.shape
                      have hl4 : (costRow P S t j ++ [1000 - ((0 : Nat) : Int)]).length = j + 1 := by rw [List.length_append, hRl.out]; rfl
                      rw [hl4] at hv4
                      have hv4H := Lib.hid hv4
                      have hb5 := Lib.hid (Below.trans (below_al hbcH.out _) hA.out.2.1)
                      clear hl4 hv4
                      go_roundg g2
                      case measure => omega
                      case rel => exact ⟨j + 1, ar4, cr4, hv4H.out, by go_num, by omega, by have := hA.out.1; rw [hv4H.out] at this; rw [costRow_next, hgnH.out]; exact this, hb5.out⟩
                    · have hcond := of_decide_eq_true hbbH.out
                      have hjn := hcond.2.1
                      have hjnI : (j : Int) < (ns : Int) := by omega
                      obtain ⟨s, hs⟩ : ∃ s, S[j]? = some s := ⟨_, List.getElem?_eq_getElem (by rw [hnsH.out]; exact hjn)⟩
                      obtain ⟨bs, has, hcs0, hcs1⟩ := (hS4.out.below hb4c.out).at hs
                      rw [Nat.zero_add] at hcs0 hcs1
                      obtain ⟨s1, s2⟩ := s
                      have hgn : gnW P S t j = s2 := by
                        obtain ⟨a, ha⟩ : ∃ a, P[t]? = some a := ⟨_, List.getElem?_eq_getElem (by rw [hnpH.out]; exact hcond.1)⟩
                        have h3 : P[t]?.getD 0 ≤ (S[j]?.getD (0, 0)).1 := hcond.2.2
                        rw [ha, hs] at h3
                        rw [gn_some ha hs]
                        exact if_pos h3
                      have hs2 : s2 ≤ 1000 := by have := slots_le hok.out i (s1, s2) (by rw [hSH.out]; exact List.mem_of_getElem? hs); exact this
                      have hgnH := Lib.hid hgn
                      have hasH := Lib.hid has
                      subst has
                      clear hcond hs hgn
                      have hw1 : IntKind.i64.wrap (1000 - (s2 : Int)) = 1000 - (s2 : Int) := by rw [IntKind.wrap_i64]; omega
                      go_wp2_with (at_builtin; go_loud (refine wpList_append_ze _ rfl (.tmp 188) (.tmp 190) _ rfl Try.underlying24 wq.heap.size j (.slice ar j cr) (costRow P S t j) (by rfl) (hZc.out.below (below_al (Below.refl _ _) _)) hRl.out (some ⟨wc.heap.size, 0, none⟩) 1 1 [1000 - (s2 : Int)] (by rfl) (IZ.one (by simp)) rfl (by omega) (by omega) (by have := hbcH.out.size; simp; omega) ?_); intro v4 w4 hA4; have hA := Lib.hid hA4; clear hA4)
                      obtain ⟨ar4, cr4, hv4⟩ := hA.out.1.shape
                      have hl4 : (costRow P S t j ++ [1000 - (s2 : Int)]).length = j + 1 := by rw [List.length_append, hRl.out]; rfl
                      rw [hl4] at hv4
                      have hv4H := Lib.hid hv4
                      have hb5 := Lib.hid (Below.trans (below_al hbcH.out _) hA.out.2.1)
                      clear hl4 hv4
                      go_roundg g2
                      case measure => omega
                      case rel => exact ⟨j + 1, ar4, cr4, hv4H.out, by go_num, by omega, by have := hA.out.1; rw [hv4H.out] at this; rw [costRow_next, hgnH.out]; exact this, hb5.out⟩
                  -- endC
                · have hje : K = j := by omega
                  subst hje
                  have hjI : ¬ (K : Int) < (K : Int) := by omega
                  obtain ⟨hIz, hcr⟩ := hZH.out.iz
                  have hIzH := Lib.hid hIz
                  clear hZH hIz
                  go_wp2_with (at_builtin; go_loud (refine wpList_append_row _ rfl (.tmp 192) (.tmp 194) _ rfl Try.underlying25 W4.heap.size t (.slice ac t cc) (costTab P S K t) (costRow P S t K) (by rfl) (hMH.out.below (below_al hbxH.out _)) hCl.out wr.heap.size (by rfl) ar K cr (by omega) (by have := hblH.out.size; have := hbxH.out.size; simp; omega) (by simp) hRl.out hcr (hIzH.out.below (below_al (Below.refl _ _) _)) ?_); intro v4 w4 hM4 hg4; have hM4H := Lib.hid hM4; have hb4H := Lib.hid ((bseqJ hblH.out (below_al hbxH.out _)).grown hg4 (by have := hblH.out.size; have := hbxH.out.size; simp; omega) (fun g hg => (hMH.out.lt g hg).1)); clear hM4 hg4)
                  obtain ⟨ac4, cc4, hv4⟩ := hM4H.out.shape
                  have hl4 : (costTab P S K t ++ [costRow P S t K]).length = t + 1 := by rw [List.length_append, hCl.out]; rfl
                  rw [hl4] at hv4
                  have hv4H := Lib.hid hv4
                  clear hl4 hv4
                  go_roundg g1
                  case measure => omega
                  case rel => exact ⟨t + 1, ac4, cc4, hv4H.out, by go_num, by omega, by have := hM4H.out; rw [hv4H.out] at this; rw [costTab_next]; exact this, hb4H.out⟩
            · have hte : K = t := by omega
              subst hte
              have htI : ¬ (K : Int) < (K : Int) := by omega
              have hzex : ∀ t, ∃ z : Nat, z ≤ 80000 ∧ (t ≤ i → ValW (F.take t) (gs.take t) t (z : Nat)) := fun t => by
                by_cases hti : t ≤ i
                · obtain ⟨z, h1, h2⟩ := valW_ex (fl := F.take t) (gs := gs.take t) t (hok.out.take t) (fall_take hfa.out t)
                  exact ⟨z, by omega, fun _ => h2⟩
                · exact ⟨0, by omega, fun h => absurd h hti⟩
              obtain ⟨zu, hzu⟩ := Classical.axiomOfChoice hzex
              obtain ⟨zv, hzv⟩ : ∃ zv : Nat → Nat, (fun t => if t = 0 then 0 else zu t) = zv := ⟨_, rfl⟩
              have hz0 : Hid (zv 0 = 0) := by show _ = _; rw [← hzv]; rfl
              have hzb : Hid (∀ t, zv t ≤ 80000) := fun t => by
                rw [← hzv]
                show (if t = 0 then 0 else zu t) ≤ _
                split
                · omega
                · exact (hzu t).1
              have hzV : Hid (∀ t, 1 ≤ t → t ≤ i → ValW (F.take t) (gs.take t) t (zv t : Nat)) := fun t h1 h2 => by
                have h3 : zv t = zu t := by rw [← hzv]; exact if_neg (by omega)
                rw [h3]
                exact (hzu t).2 h2
              have hgC := Lib.hid (costTab_good (P := P) (S := S) hK1 hK8 (by have := slots_le hok.out i; rw [hSH.out] at this; exact this))
              have hCst := Lib.hid (fun i j (hi : i < K) (hj : j < K) => costTab_cst (P := P) (S := S) hi hj)
              have hMx := Lib.hid (MI.imx hMH.out).1
              obtain ⟨C, hC⟩ : ∃ C, costTab P S K K = C := ⟨_, rfl⟩
              rw [hC] at hgC hMx hCl hMH
              have hCst2 : Hid (∀ i j, i < K → j < K → cst C i j = 1000 - (gnW P S i j : Int)) := by show _; rw [← hC]; exact hCst.out
              obtain ⟨p, hp⟩ := best_exJ (sumC C) K
              obtain ⟨v, hv⟩ : ∃ v, sumC C p = v := ⟨_, rfl⟩
              have hpH := Lib.hid hp
              have hvH := Lib.hid hv
              have h30 : Hid (∀ x ∈ F, x ≤ 30) := fun x hx => by have := hb3.out x hx; omega
              obtain ⟨zi, hzi⟩ : ∃ zi, zv i = zi := ⟨_, rfl⟩
              have hziH := Lib.hid hzi
              have hzi8 : zi ≤ 80000 := by rw [← hzi]; exact hzb.out i
              have hzVi : Hid (ValW F gs i (zi : Nat)) := by
                have h1 := hzV.out i hN1 (Nat.le_refl _)
                rw [List.take_of_length_le (by rw [hlf.out]; exact Nat.le_refl _), List.take_of_length_le (by rw [hlg.out]; exact Nat.le_refl _), hzi] at h1
                exact h1
              clear hzex hzu hzv hC hp hv hCst hMH hzi
              have hFr := Lib.hid (hF4.out.below hblH.out)
              have hGr := Lib.hid (hG4.out.below hblH.out)
              have hwr := Lib.hid (bseqJ hb4.out hblH.out)
              go_upto_region 39 with (go_at_call 4; go_loud (refine (bestF_any (some ⟨gf, 0, none⟩) (some ⟨bg, 0, none⟩) cf cg i F gs (zi : Nat) _ hFr.out hGr.out hlf.out hlg.out (by omega) hN1 h30.out hok.out hfa.out hzVi.out).mono ?_); rintro e w2 ⟨g2, us, rfl, hul, hrun, hb2⟩; have hulH := Lib.hid hul; have hrunH := Lib.hid hrun; have hb2H := Lib.hid hb2; clear hul hrun hb2)
              have hvE : v = (K : Int) * 1000 - (zi : Int) := by
                have hlen : ∀ k, k < i → fnN us k ≤ (fnG gs k).length := fun k hk => hrunH.out.len (fun _ _ => Nat.zero_le _) k hk
                have h2 := water_cost (T := 1000) (hok.out.run hfa.out i) (run_filled hok.out hfa.out hrunH.out) hlen (hrunH.out.poss (poss_zero i (fnN F))) (by rw [hPH.out, hnpH.out]; exact hkK) (by rw [hSH.out, hnsH.out]; exact hnK) (fun a b ha hb => by rw [hPH.out, hSH.out]; exact hCst2.out a b ha hb) hpH.out
                rw [hvH.out] at h2
                have h3 := hzVi.out us hulH.out hrunH.out
                omega
              have hw1 : IntKind.i64.wrap ((K : Int) * 1000) = (K : Int) * 1000 := by rw [IntKind.wrap_i64]; omega
              have hw2 : IntKind.i64.wrap ((K : Int) * 1000 - (zi : Int)) = v := by rw [IntKind.wrap_i64]; omega
              have hvv : (v != v) = false := by simp
              have hvEH := Lib.hid hvE
              have hG2 := Lib.hid (hGr.out.below hb2H.out)
              have hF2 := Lib.hid (hFr.out.below hb2H.out)
              have hM2 := Lib.hid (hMx.out.below hb2H.out)
              clear hvE hFr hGr hMx hulH hrunH hzVi hF4 hG4 hP4 hS4 hb4 hblH hb3
              go_upto_region 43 with (first
                | (go_at_call 5; go_loud (refine (sharesP_any gf 0 bg 0 cf cg i F gs zv _ hF2.out hG2.out hlf.out hlg.out (by omega) hN1 hcfi hcg h30.out hok.out hfa.out hz0.out (fun t => by have := hzb.out t; omega) hzV.out).mono ?_); rintro e w3 ⟨sa, sc, rfl, hI3, hb3⟩; have hI3H := Lib.hid hI3; have hb3H := Lib.hid hb3; have hM3 := Lib.hid (hM2.out.below hb3); clear hI3 hb3)
                | (go_at_call 6; go_loud (with_reducible refine (cheap_at ac cc K C _ hM3.out hgC.out hCl.out hpH.out hvH.out).mono ?_); rintro e w4 ⟨g3, o3, c3, rfl, hc3, hI4, hb4⟩; have hM4 := Lib.hid (hM3.out.below hb4); have hI5 := Lib.hid (hI3H.out.below hb4); have hb4H := Lib.hid (bseqJ hb2H.out (bseqJ hb3H.out hb4)); clear hb4 hI4))
              obtain ⟨W5, hW5⟩ : ∃ W, W = w4 := ⟨_, rfl⟩
              subst hW5
              have hsl := Lib.hid (shares_len zv i)
              clear hG2 hF2 hM2 hM3 hI3H hw1 hw2 hvv
              go_wp2_with (fail)
              go_loopg [24, 31] i (fun gc xv kv wx => ∃ (k : Nat) (x : Int), xv = .int .i64 x ∧ kv = .int .i64 (k : Nat) ∧ x = (zi : Int) - (zv k : Int) ∧ k + gc = i ∧ W5 = wx)
              case atStart => exact ⟨0, zi, rfl, rfl, by rw [hz0.out]; simp, by omega, rfl⟩
              case round =>
                obtain ⟨k2, x, rfl, rfl, hx, hk2, rfl⟩ := hrel
                by_cases hki : k2 < i
                · obtain ⟨g2, rfl⟩ : ∃ g2, gk = g2 + 1 := ⟨gk - 1, by omega⟩
                  have hkiI : (k2 : Int) < (i : Int) := by omega
                  have hk20 : (0 : Int) ≤ (k2 : Int) := by omega
                  have z1 := hzb.out k2
                  have z2 := hzb.out (k2 + 1)
                  obtain ⟨y, hy⟩ : ∃ y, (zv (k2 + 1) : Int) - (zv k2 : Int) = y := ⟨_, rfl⟩
                  have hyH := Lib.hid hy
                  have hxH := Lib.hid hx
                  obtain ⟨bs, os, hsa, hcs⟩ := hI5.out k2 y (by rw [← hy]; unfold sharesW; rw [List.getElem?_map, List.getElem?_range hki]; rfl)
                  have hsaH := Lib.hid hsa
                  subst hsa
                  have hw1 : IntKind.i64.wrap (x - y) = x - y := by rw [IntKind.wrap_i64]; omega
                  clear hx hy
                  go_wp2_with (fail)
                  go_roundg g2
                  case measure => omega
                  case rel => exact ⟨k2 + 1, x - y, rfl, by go_num, by have := hyH.out; have := hxH.out; omega, by omega, rfl⟩
                · have hke : i = k2 := by omega
                  subst hke
                  have hkI : ¬ (i : Int) < (i : Int) := by omega
                  have hx0 : x = 0 := by rw [hx, hziH.out]; omega
                  subst hx0
                  clear hx
                  go_wp2_with (first
                    | (go_at_call 7; (with_reducible refine (prices_ok ac cc K C _ hM4.out hgC.out hCl.out).mono ?_); rintro e w5 ⟨PR, PK, gR, cR, gK, cK, hPO, rfl, hIR, hIK, hcR, hcK, hb5⟩; have hPOH := Lib.hid hPO; have hIRH := Lib.hid hIR; have hIKH := Lib.hid hIK; have hM5 := Lib.hid (hM4.out.below hb5); have hb5H := Lib.hid hb5; clear hPO hIR hIK hb5)
                    | (go_at_call 8; go_loud (with_reducible refine (proves_good ac (some ⟨gR, 0, none⟩) (some ⟨gK, 0, none⟩) cc cR cK K C PR PK v true _ hM5.out hgC.out hCl.out hIRH.out hIKH.out hPOH.out.range.1 hPOH.out.range.2 (hPOH.out.prov hpH.out hvH.out)).mono ?_); rintro e w6 ⟨rfl, hb6⟩; have hb6H := Lib.hid hb6; clear hb6))
                  go_ret
                  exact ⟨rfl, bseqJ hwr.out (bseqJ hb4H.out (bseqJ hb5H.out hb6H.out))⟩
end Go.Proofs.Ytkecdjdggkpdpaa
