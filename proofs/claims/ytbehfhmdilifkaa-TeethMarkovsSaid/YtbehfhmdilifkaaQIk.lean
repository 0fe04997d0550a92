/- Ik -/
import Derived.Test.YtbehfhmdilifkaaQIj
set_option linter.unusedVariables false
/- Walk of the reference's Markov. -/
namespace Go.Proofs.Ytbehfhmdilifkaa
open Go Go.RowKit Go.Proofs

def MarkR (L : List Nat) (w : World) (e : Ending) (w' : World) : Prop := ∃ g c, e = .returned (.slice (some ⟨g, 0, none⟩) L.length c) ∧ L.length ≤ c ∧ IZ w' (some ⟨g, 0, none⟩) (nzT L) ∧ Below w.heap.size w w'
section
attribute [local go_sem] undef
set_option maxRecDepth 100000 in
set_option maxHeartbeats 25600000 in
theorem markR_any (m : Nat) (w : World) (h1 : 1 ≤ m) (h2 : m ≤ 1000000000) : Calls Try.prog 38 #[.int .i64 (m : Nat)] w (MarkR (mkL m) w) := by
  have hQ0 := Lib.hid (QI.start h1 h2)
  have hN0 := Lib.hid (QI.startN m)
  go_enter Try.func38, Try.ntmps38
  go_upto_region 2 with (fail)
  obtain ⟨W0, hW0⟩ : ∃ W0, W0 = (w.alloc (Obj.cells #[] 3)).alloc (Obj.cells (tcells [⟨40, 1, 1, 1⟩, ⟨40, 1, 1, 2⟩, ⟨40, 1, 2, 5⟩]).toArray 115) := ⟨_, rfl⟩
  have hT0 := Lib.hid (TD.lit (w.alloc (Obj.cells #[] 3)) [⟨40, 1, 1, 1⟩, ⟨40, 1, 1, 2⟩, ⟨40, 1, 2, 5⟩] (by decide))
  rw [← hW0] at hT0
  have hb0 : Hid (Below w.heap.size w W0) := by show Below _ _ _; rw [hW0]; exact below_al (below_al (Below.refl _ _) _) _
  rw [show (w.alloc (Obj.cells #[] 3)).heap.size = w.heap.size + 1 by simp] at hT0
  have hW0' : Hid (W0 = (w.alloc (Obj.cells #[] 3)).alloc (Obj.cells #[.int .i64 1, .int .i64 1, .int .i64 1, .int .i64 1, .int .i64 1, .int .i64 2, .int .i64 1, .int .i64 2, .int .i64 5] 115)) := hW0
  clear hW0
  rw [← hW0'.out]
  go_loopg [3, 4] (qN m [⟨40, 1, 1, 1⟩, ⟨40, 1, 1, 2⟩, ⟨40, 1, 2, 5⟩]) (fun gk ov tv wr => ∃ (out : List Nat) (ts : List Tri) (hh co g off cap : Nat), ov = .slice (some ⟨hh, 0, none⟩) out.length co ∧ tv = .slice (some ⟨g, off, none⟩) ts.length cap ∧ gk = qN m ts ∧ gk ≤ 2199023255560 ∧ QI m out ts ∧ IZ wr (some ⟨hh, 0, none⟩) (nzT out) ∧ out.length ≤ co ∧ TD wr g off ts.length cap (tcells ts) ∧ hh ≠ g ∧ w.heap.size ≤ g ∧ Below w.heap.size w wr)
  case atStart => exact ⟨[], _, w.heap.size, 0, w.heap.size + 1, 0, 3, rfl, rfl, rfl, hN0.out, hQ0.out, IZ.nil _ _, Nat.le_refl _, hT0.out, by omega, by omega, hb0.out⟩
  case round =>
    obtain ⟨out, ts, hh, co, g, off, cap, rfl, rfl, hgk, hgl, hQ, hI, hco, hT, hne, hgw, hbl⟩ := hrel
    have hblH := Lib.hid hbl
    have hIH := Lib.hid hI
    have hTH := Lib.hid hT
    have hQH := Lib.hid hQ
    have hgkH := Lib.hid hgk
    have hol := hQ.len h1
    clear hbl hI hT hQ hgk
    rcases ts with _ | ⟨⟨f, x, y, z⟩, ts⟩
    · have hd := hQH.out.done
      subst hd
      go_wp2_with (fail)
      go_ret
      exact ⟨hh, co, rfl, hco, hIH.out, hblH.out⟩
    · obtain ⟨c0, c1, c2⟩ := hTH.out.three
      have hcl := hTH.out.le
      have hcl2 := hTH.out.capl
      have hglt := hTH.out.lt
      obtain ⟨n, hn⟩ : ∃ n, ts.length = n := ⟨_, rfl⟩
      have hnH := Lib.hid hn
      obtain ⟨N1, hN1⟩ : ∃ N1, n + 1 = N1 := ⟨_, rfl⟩
      have hn1I := Lib.hid hN1
      have hn1 : Hid ((⟨f, x, y, z⟩ :: ts : List Tri).length = N1) := by show _ = _; rw [List.length_cons, hn, hN1]
      rw [hn1.out] at hcl hTH
      rw [hn1.out]
      have hnI : (0 : Int) < (N1 : Int) := by omega
      clear hn hN1
      go_upto_region 4 with (fail)

      obtain ⟨W3, hW3⟩ : ∃ W3, W3 = wr.alloc (Obj.cells #[.int .i64 (x : Nat), .int .i64 (y : Nat), .int .i64 (z : Nat)] 115) := ⟨_, rfl⟩
      rw [← hW3]
      have hb3 : Hid (Below wr.heap.size wr W3) := by show Below _ _ _; rw [hW3]; exact below_al (Below.refl _ _) _
      have hBx : Hid (B3T W3 wr.heap.size x y z) := by show B3T _ _ _ _ _; rw [hW3]; exact B3T.new _ _ _ _
      have hT3 := Lib.hid (hTH.out.below hb3.out)
      have hI3 := Lib.hid (hIH.out.below hb3.out)
      clear hW3 c0 c1 c2
      obtain ⟨B, hB⟩ : ∃ B, wr.heap.size = B := ⟨_, rfl⟩
      rw [hB] at hBx hglt
      rw [hB]
      have hBH := Lib.hid hB
      clear hB
      have h1N : (1 : Int) ≤ (N1 : Int) := by omega
      go_cut [4] from 18 to 20 (fun v wx => ∃ off', v = .slice (some ⟨g, off', none⟩) n (cap - 1) ∧ TD W3 g off' n (cap - 1) (tcells ts) ∧ W3 = wx)
      case first =>
        have hnN : N1 - 1 = n := by have := hn1I.out; omega
        by_cases hcap : cap = 1
        · subst hcap
          have ht := hT3.out
          rw [← hn1I.out] at ht
          obtain ⟨hn0, ht0, hl0⟩ := ht.tail1
          have htH := Lib.hid ht0
          have hlH := Lib.hid hl0
          clear ht ht0 hl0
          go_wp2_with (fail)
          go_meet
          refine ⟨off, by rw [hn0], ?_, rfl⟩
          rw [hn0, hlH.out]; exact htH.out
        · have ht := hT3.out
          rw [← hn1I.out] at ht
          have htH := Lib.hid (ht.tail hcap)
          clear ht
          go_wp2_with (fail)
          go_meet
          exact ⟨off + 3, rfl, htH.out, rfl⟩
      case rest =>
      obtain ⟨off', rfl, hT4, rfl⟩ := hcut
      have hT4H := Lib.hid hT4
      clear hT4 hT3
      have b2 := hBx.out.z2
      by_cases hz : m < z
      · have hzI : (m : Int) < (z : Int) := by omega
        obtain ⟨q1, q2⟩ := hQH.out.skip hz
        have q1H := Lib.hid q1
        have q2H := Lib.hid q2
        clear q1 q2
        go_wp2_with (fail)
        go_roundg (qN m ts)
        case measure => have := hgkH.out; have := q2H.out; omega
        case rel => exact ⟨out, ts, hh, co, g, off', cap - 1, rfl, by rw [hnH.out], rfl, by have := hgkH.out; have := q2H.out; omega, q1H.out, hI3.out, hco, by rw [hnH.out]; exact hT4H.out, hne, hgw, bseqT hblH.out hb3.out⟩
      · have hzI : ¬ (m : Int) < (z : Int) := by omega
        have hzm : z ≤ m := by omega
        have hok := hQH.out.ok _ (List.mem_cons_self ..)
        obtain ⟨f, rfl⟩ : ∃ f', f = f' + 1 := by
          rcases f with _ | f'
          · exact absurd hok.zero (by simpa using hz)
          · exact ⟨f', rfl⟩
        have px1 : 1 ≤ x := hok.x1
        have xy : x ≤ y := hok.xy
        have yz : y ≤ z := hok.yz
        obtain ⟨P, hP⟩ : ∃ P, posS z out = P := ⟨_, rfl⟩
        obtain ⟨N, hN⟩ : ∃ N, out.length = N := ⟨_, rfl⟩
        have hPN : P ≤ N := by rw [← hP, ← hN]; exact posS_le
        have hNH := Lib.hid hN
        have hPH := Lib.hid hP
        have hco2 : N ≤ co := by omega
        have hNl : N ≤ m + 1 := by omega
        rw [hN]
        clear hN hP hok hco hol
        go_wp2_with (fail)
        go_loopg [6] P (fun gk kv wx => ∃ k : Nat, kv = .int .i64 (k : Nat) ∧ k + gk = P ∧ Below W3.heap.size W3 wx)
        case atStart => exact ⟨0, rfl, by omega, Below.refl _ _⟩
        case round =>
          obtain ⟨k, rfl, hkg, hbx⟩ := hrel
          have hbxH := Lib.hid hbx
          clear hbx b2
          have b2 := (hBx.out.up hbxH.out).z2
          have hk0 : (0 : Int) ≤ (k : Int) := by omega
          by_cases hkP : k < P
          · obtain ⟨a, ha⟩ : ∃ a, out.getD k 0 = a := ⟨_, rfl⟩
            have hlt : a < z := by rw [← ha]; exact posS_lt (by rw [hPH.out]; exact hkP)
            have ca := iz_cell (hI3.out.below hbxH.out) (i := k) (by rw [hNH.out]; omega) ha
            have kI : decide ((k : Int) < (N : Int)) = true := decide_eq_true (by omega)
            have kI2 : (k : Int) < (N : Int) := by omega
            have aI : decide ((a : Int) < (z : Int)) = true := decide_eq_true (by omega)
            clear ha
            go_wp2_with (fail)
            go_quiet (fail)
            go_wp2_with (fail)
            go_roundg (P - (k + 1))
            case measure => omega
            case rel => exact ⟨k + 1, by go_num, by omega, bdn hbxH.out⟩
          · have hPk : P = k := by omega
            subst hPk
            rcases Nat.lt_or_ge P N with hPN2 | hPN2
            · obtain ⟨a, ha⟩ : ∃ a, out.getD P 0 = a := ⟨_, rfl⟩
              have hge : z ≤ a := by have := posS_end (v := z) (l := out) (by rw [hPH.out, hNH.out]; exact hPN2); rw [hPH.out, ha] at this; exact this
              by_cases haz : a = z
              · have kI : decide ((P : Int) < (N : Int)) = true := decide_eq_true (by omega)
                have e1 : ((P : Int) == (N : Int)) = false := beq_eq_false_iff_ne.2 (by omega)
                subst haz
                have e2 : ((a : Int) != (a : Int)) = false := by simp
                have aI : decide ((a : Int) < (a : Int)) = false := by simp
                have ca := iz_cell (hI3.out.below hbxH.out) (i := P) (by rw [hNH.out]; exact hPN2) ha
                have hPI : (P : Int) < (N : Int) := by omega
                have hold : Hid (insS a out = out) := insS_old (by rw [hPH.out, hNH.out]; exact hPN2) (by rw [hPH.out]; exact ha)
                go_wp2_with (fail)
                go_quiet (fail)
                obtain ⟨V0, hV0⟩ : ∃ V0, V0 = wr.drewN nq := ⟨_, rfl⟩
                rw [← hV0]
                have hbV0 : Hid (Below W3.heap.size W3 V0) := by show Below _ _ _; rw [hV0]; exact bdn hbxH.out
                clear hV0 ca b2
                have b2 := (hBx.out.up hbV0.out).z2
                have ca := iz_cell (hI3.out.below hbV0.out) (i := P) (by rw [hNH.out]; exact hPN2) ha
                go_wp2_with (fail)
                go_quiet (fail)
                obtain ⟨V, hV⟩ : ∃ V, V = V0.drewN nq := ⟨_, rfl⟩
                rw [← hV]
                have hbV : Hid (Below W3.heap.size W3 V) := by show Below _ _ _; rw [hV]; exact bdn hbV0.out
                clear hV ca b2
                have hli : Hid ((insS a out).length = N) := by show _ = _; rw [hold.out]; exact hNH.out
                have hinz : Hid (nzT (insS a out) ≠ []) := by show _ ≠ _; intro h; have := congrArg List.length h; rw [nzT_length, hli.out] at this; simp at this; omega
                have hbX := hbV
                have hIX : Hid (IZ V (some ⟨hh, 0, none⟩) (nzT (insS a out))) := by show IZ _ _ _; rw [hold.out]; exact hI3.out.below hbV.out
                obtain ⟨b0, b1, b2⟩ := hBx.out.up hbX.out
                have hTX := Lib.hid (hT4H.out.below hbX.out)
                by_cases y1 : 1 < y
                · have y1I : (1 : Int) < (y : Int) := by omega
                  have y1D : decide ((1 : Int) < (y : Int)) = true := decide_eq_true y1I
                  by_cases xy1 : x < y
                  · have xyI : (x : Int) < (y : Int) := by omega
                    have xyD : decide ((x : Int) < (y : Int)) = true := decide_eq_true xyI
                    obtain ⟨q1, q2⟩ := hQH.out.more hzm ⟨y1, xy1⟩
                    obtain ⟨A3, hA3⟩ : ∃ A3, 3 * x = A3 := ⟨_, rfl⟩
                    obtain ⟨P3, hP3⟩ : ∃ P3, A3 * a = P3 := ⟨_, rfl⟩
                    obtain ⟨D1, hD1⟩ : ∃ D1, P3 - y = D1 := ⟨_, rfl⟩
                    obtain ⟨A4, hA4⟩ : ∃ A4, 3 * y = A4 := ⟨_, rfl⟩
                    obtain ⟨P4, hP4⟩ : ∃ P4, A4 * a = P4 := ⟨_, rfl⟩
                    obtain ⟨D2, hD2⟩ : ∃ D2, P4 - x = D2 := ⟨_, rfl⟩
                    have g1 := mk_ge (x := x) (y := y) (z := a) px1 yz
                    have g2 := mk_ge (x := y) (y := x) (z := a) (by omega) (by omega)
                    rw [hA3, hP3, hD1] at g1
                    rw [hA4, hP4, hD2] at g2
                    rw [hA3, hP3, hD1, hA4, hP4, hD2] at q1 q2
                    have hA3I : (3 : Int) * (x : Int) = (A3 : Int) := by omega
                    have hA4I : (3 : Int) * (y : Int) = (A4 : Int) := by omega
                    have hP3I := mulN hP3
                    have hP4I := mulN hP4
                    have hD1I : (P3 : Int) - (y : Int) = (D1 : Int) := by omega
                    have hD2I : (P4 : Int) - (x : Int) = (D2 : Int) := by omega
                    have hA3l : A3 ≤ 3000000000 := by omega
                    have hA4l : A4 ≤ 3000000000 := by omega
                    have hP3l : P3 ≤ 3000000000000000000 := by rw [← hP3]; exact Nat.le_trans (Nat.mul_le_mul hA3l (show a ≤ 1000000000 by omega)) (by decide)
                    have hP4l : P4 ≤ 3000000000000000000 := by rw [← hP4]; exact Nat.le_trans (Nat.mul_le_mul hA4l (show a ≤ 1000000000 by omega)) (by decide)
                    have q1H := Lib.hid q1
                    have q2H := Lib.hid q2
                    have hnl : n ≤ 2199023255560 := by have h3 := qN_len m (⟨f + 1, x, y, a⟩ :: ts); rw [← hgkH.out, List.length_cons, hnH.out] at h3; omega
                    clear q1 q2 g1 g2 hA3 hP3 hD1 hA4 hP4 hD2
                    go_wp2_with (first
                      | (at_builtin; go_loud (refine wpList_append_td _ rfl (.tmp 75) (.tmp 104) _ rfl Try.underlying116 g off' n (cap - 1) (tcells ts) (by rfl) (hTX.out.below (below_al (Below.refl _ _) _)) _ 2 2 [.int .i64 (x : Nat), .int .i64 (a : Nat), .int .i64 (D1 : Nat), .int .i64 (y : Nat), .int .i64 (a : Nat), .int .i64 (D2 : Nat)] (by rfl) rfl (litT _ _ _) (oneT6 _ _ _ _ _ _) (by omega) ?_); intro g5 off5 cap5 w5 hT5 hg5 hgr5; have hT5H := Lib.hid hT5; have hg5H := Lib.hid hg5; have hgr5H := Lib.hid hgr5; clear hT5 hg5 hgr5))
                    have hI5 := Lib.hid ((hIX.out.below (below_al (Below.refl _ _) _)).grownT hgr5H.out hne)
                    have hs1 := hblH.out.size
                    have hs2 := hb3.out.size
                    have hs3 := hbX.out.size
                    go_roundg (qN m (ts ++ [⟨f, x, a, D1⟩, ⟨f, y, a, D2⟩]))
                    case measure => have := hgkH.out; have := q2H.out; omega
                    case rel =>
                      refine ⟨insS a out, ts ++ [⟨f, x, a, D1⟩, ⟨f, y, a, D2⟩], hh, co, g5, off5, cap5, by rw [hli.out], by rw [List.length_append, hnH.out]; rfl, rfl, ?_, q1H.out, hI5.out, by rw [hli.out]; exact hco2, ?_, ?_, ?_, ?_⟩
                      · have := hgkH.out; have := q2H.out; omega
                      · rw [tcells_app, List.length_append, hnH.out]; exact hT5H.out
                      · rcases hg5H.out with h | h
                        · rw [h]; exact hne
                        · have := hIX.out.ltT hinz.out; simp at h; omega
                      · rcases hg5H.out with h | h
                        · rw [h]; exact hgw
                        · simp at h; omega
                      · exact Below.grown (below_al (bseqT hblH.out (bseqT hb3.out hbX.out)) _) hgr5H.out (by simp; omega) (fun k hk => by injection hk with hk; omega)
                  · have xyI : ¬ (x : Int) < (y : Int) := by omega
                    have xyD : decide ((x : Int) < (y : Int)) = false := decide_eq_false xyI
                    obtain ⟨q1, q2⟩ := hQH.out.last hzm (fun h => xy1 h.2)
                    have q1H := Lib.hid q1
                    have q2H := Lib.hid q2
                    clear q1 q2
                    go_wp2_with (fail)
                    go_roundg (qN m ts)
                    case measure => have := hgkH.out; have := q2H.out; omega
                    case rel => exact ⟨insS a out, ts, hh, co, g, off', cap - 1, by rw [hli.out], by rw [hnH.out], rfl, by have := hgkH.out; have := q2H.out; omega, q1H.out, hIX.out, by rw [hli.out]; exact hco2, by rw [hnH.out]; exact hTX.out, hne, hgw, bseqT hblH.out (bseqT hb3.out hbX.out)⟩
                · have y1I : ¬ (1 : Int) < (y : Int) := by omega
                  have y1D : decide ((1 : Int) < (y : Int)) = false := decide_eq_false y1I
                  obtain ⟨q1, q2⟩ := hQH.out.last hzm (fun h => y1 h.1)
                  have q1H := Lib.hid q1
                  have q2H := Lib.hid q2
                  clear q1 q2
                  go_wp2_with (fail)
                  go_roundg (qN m ts)
                  case measure => have := hgkH.out; have := q2H.out; omega
                  case rel => exact ⟨insS a out, ts, hh, co, g, off', cap - 1, by rw [hli.out], by rw [hnH.out], rfl, by have := hgkH.out; have := q2H.out; omega, q1H.out, hIX.out, by rw [hli.out]; exact hco2, by rw [hnH.out]; exact hTX.out, hne, hgw, bseqT hblH.out (bseqT hb3.out hbX.out)⟩
              · have kI : decide ((P : Int) < (N : Int)) = true := decide_eq_true (by omega)
                have e1 : ((P : Int) == (N : Int)) = false := beq_eq_false_iff_ne.2 (by omega)
                have e2 : ((a : Int) != (z : Int)) = true := bne_iff_ne.2 (by omega)
                have aI : decide ((a : Int) < (z : Int)) = false := decide_eq_false (by omega)
                have hinsv := nzT_ins hPH.out (.inr (by rw [ha]; exact haz))
                have ca := iz_cell (hI3.out.below hbxH.out) (i := P) (by rw [hNH.out]; exact hPN2) ha
                have hPI : (P : Int) < (N : Int) := by omega
                go_wp2_with (fail)
                go_quiet (fail)
                obtain ⟨V0, hV0⟩ : ∃ V0, V0 = wr.drewN nq := ⟨_, rfl⟩
                rw [← hV0]
                have hbV0 : Hid (Below W3.heap.size W3 V0) := by show Below _ _ _; rw [hV0]; exact bdn hbxH.out
                clear hV0 ca b2
                have b2 := (hBx.out.up hbV0.out).z2
                have ca := iz_cell (hI3.out.below hbV0.out) (i := P) (by rw [hNH.out]; exact hPN2) ha
                go_wp2_with (fail)
                go_quiet (fail)
                obtain ⟨V, hV⟩ : ∃ V, V = V0.drewN nq := ⟨_, rfl⟩
                rw [← hV]
                have hbV : Hid (Below W3.heap.size W3 V) := by show Below _ _ _; rw [hV]; exact bdn hbV0.out
                clear hV ca b2
                obtain ⟨F, hF⟩ : ∃ F, nzT out = F := ⟨_, rfl⟩
                have hFl : Hid (F.length = N) := by show _ = _; rw [← hF, nzT_length]; exact hNH.out
                rw [hF] at hinsv
                have hins := Lib.hid hinsv
                have hIV : Hid (IZ V (some ⟨hh, 0, none⟩) F) := by show IZ _ _ _; rw [← hF]; exact hI3.out.below hbV.out
                have hl1 : Hid ((F.take P).length = P) := by show _ = _; rw [List.length_take, hFl.out]; omega
                have hl2 : Hid ((F.drop P).length = N - P) := by show _ = _; rw [List.length_drop, hFl.out]
                have hI1 := Lib.hid (hIV.out.take P)
                have hl12 : Hid ((F.take P ++ [(z : Int)]).length = P + 1) := by show _ = _; rw [List.length_append, hl1.out]; rfl
                have hl3 : Hid ((F.take P ++ [(z : Int)] ++ F.drop P).length = N + 1) := by show _ = _; rw [List.length_append, hl12.out, hl2.out]; omega
                have hne3 : Hid (F.take P ++ [(z : Int)] ++ F.drop P ≠ []) := by show _ ≠ _; intro h; have := congrArg List.length h; rw [hl3.out] at this; simp at this
                clear hinsv hF
                have hI2 := Lib.hid (show IZ V (some ⟨hh, P, none⟩) (F.drop P) by have := hIV.out.drop P; rwa [Nat.zero_add] at this)
                have hPc : (P : Int) ≤ (co : Int) := by omega
                have hPN3 : (P : Int) ≤ (N : Int) := by omega
                have hNc : (N : Int) ≤ (co : Int) := by omega
                have hcne : ¬ co = P := by omega
                go_wp2_with (fail)
                have hI0 : V.cell? ⟨B, 2, none⟩ = some (.int .i64 (z : Nat)) := (hBx.out.up hbV.out).z2
                have hB0 : Below V.heap.size V V := Below.refl _ _
                go_region_held3 (fun w' => w'.cell? ⟨B, 2, none⟩ = some (.int .i64 (z : Nat)))
                  (repeat (first | (with_reducible assumption) | (with_reducible refine cell_drM ?_) | (with_reducible refine cell_alM ?_ _)))
                  (first
                    | ((refine step_append_ze rfl (.tmp 52) (.tmp 55) _ rfl Try.underlying22 V.heap.size 0 _ [] (by rfl) (ZE.lit _ _ _) rfl (some ⟨hh, 0, none⟩) P co (F.take P) (by rfl) (IZ.upto (B := V.heap.size) hI1.out (by repeat (first | (with_reducible assumption) | (with_reducible exact Below.refl _ _) | (with_reducible refine Below.drew ?_) | (with_reducible refine below_al ?_ _))) (Nat.le_refl _)) hl1.out (by omega) (by omega) (Below.size (B := V.heap.size) (w := V) (by repeat (first | (with_reducible assumption) | (with_reducible exact Below.refl _ _) | (with_reducible refine Below.drew ?_) | (with_reducible refine below_al ?_ _)))) ?_); intro v1 x1 hA1; have hq1 : Below V.heap.size V x1 := Below.trans (by repeat (first | (with_reducible assumption) | (with_reducible exact Below.refl _ _) | (with_reducible refine Below.drew ?_) | (with_reducible refine below_al ?_ _))) hA1.2.1; have hk1 : x1.cell? ⟨B, 2, none⟩ = some (.int .i64 (z : Nat)) := Below.cellAt hq1 (Nat.le_refl _) hI0; have hcl1 := Lib.hid (fun b o h1 h2 => AppZ.cell hA1 (b := b) (o := o) h1 h2); rw [List.nil_append] at hA1; obtain ⟨a1, d1, hv1⟩ := hA1.1.shape; rw [hl1.out] at hv1; subst hv1; have hZ1 := Lib.hid hA1.1; clear hA1)
                    | ((refine step_append_ze rfl (.tmp 56) (.tmp 59) _ rfl Try.underlying22 V.heap.size P (.slice a1 P d1) (F.take P) (by rfl) (by repeat (first | exact hZ1.out | (with_reducible refine ZE.drM ?_) | (with_reducible refine ZE.alM ?_ _))) hl1.out _ 1 1 [(z : Int)] (by rfl) (IZ.one (by first | (simp; done) | (rw [hcl1.out _ _ (by first | (simp; done) | (simp; omega)) (by simp [Value.ownBlock])]; simp; done))) rfl (by omega) (by omega) (Below.size (B := V.heap.size) (w := V) (by repeat (first | (with_reducible assumption) | (with_reducible exact Below.refl _ _) | (with_reducible refine Below.drew ?_) | (with_reducible refine below_al ?_ _)))) ?_); intro v2 x2 hA2; have hq2 : Below V.heap.size V x2 := Below.trans (by repeat (first | (with_reducible assumption) | (with_reducible exact Below.refl _ _) | (with_reducible refine Below.drew ?_) | (with_reducible refine below_al ?_ _))) hA2.2.1; have hk2 : x2.cell? ⟨B, 2, none⟩ = some (.int .i64 (z : Nat)) := Below.cellAt hq2 (Nat.le_refl _) hI0; obtain ⟨a2, d2, hv2⟩ := hA2.1.shape; rw [hl12.out] at hv2; subst hv2; have hZ2 := Lib.hid hA2.1; clear hA2)
                    | ((refine step_append_ze rfl (.tmp 60) (.tmp 63) _ rfl Try.underlying22 V.heap.size (P + 1) (.slice a2 (P + 1) d2) (F.take P ++ [(z : Int)]) (by rfl) (by repeat (first | exact hZ2.out | (with_reducible refine ZE.drM ?_) | (with_reducible refine ZE.alM ?_ _))) hl12.out (some ⟨hh, P, none⟩) (N - P) (co - P) (F.drop P) (by rfl) (IZ.upto (B := V.heap.size) hI2.out (by repeat (first | (with_reducible assumption) | (with_reducible exact Below.refl _ _) | (with_reducible refine Below.drew ?_) | (with_reducible refine below_al ?_ _))) (Nat.le_refl _)) hl2.out (by omega) (by omega) (Below.size (B := V.heap.size) (w := V) (by repeat (first | (with_reducible assumption) | (with_reducible exact Below.refl _ _) | (with_reducible refine Below.drew ?_) | (with_reducible refine below_al ?_ _)))) ?_); intro v3 x3 hA3; have hq3 : Below V.heap.size V x3 := Below.trans (by repeat (first | (with_reducible assumption) | (with_reducible exact Below.refl _ _) | (with_reducible refine Below.drew ?_) | (with_reducible refine below_al ?_ _))) hA3.2.1; have hk3 : x3.cell? ⟨B, 2, none⟩ = some (.int .i64 (z : Nat)) := Below.cellAt hq3 (Nat.le_refl _) hI0; have hA3H := Lib.hid hA3; clear hA3))
                all_goals (
                  obtain ⟨g3, c3, hv3⟩ := hA3H.out.1.some hne3.out
                  rw [hl3.out] at hv3
                  subst hv3
                  have hbX := Lib.hid (Below.trans hbV.out (hq3.mono hbV.out.size))
                  have hIX : Hid (IZ x3 (some ⟨g3, 0, none⟩) (nzT (insS z out))) := by show IZ _ _ _; rw [hins.out]; exact hA3H.out.1.iz.1
                  have hc3 : N + 1 ≤ c3 := hA3H.out.1.iz.2
                  have hneX : g3 ≠ g := by have := ze_geM hA3H.out.1 hne3.out; have := hbV.out.size; have := hb3.out.size; have := hBH.out; omega
                  have hli : Hid ((insS z out).length = N + 1) := by show _ = _; rw [← nzT_length, hins.out, hl3.out]
                  have hinz : Hid (nzT (insS z out) ≠ []) := by show _ ≠ _; rw [hins.out]; exact hne3.out
                  clear hA3H hk3 hq3
                  obtain ⟨b0, b1, b2⟩ := hBx.out.up hbX.out
                  have hTX := Lib.hid (hT4H.out.below hbX.out)
                  by_cases y1 : 1 < y
                  · have y1I : (1 : Int) < (y : Int) := by omega
                    have y1D : decide ((1 : Int) < (y : Int)) = true := decide_eq_true y1I
                    by_cases xy1 : x < y
                    · have xyI : (x : Int) < (y : Int) := by omega
                      have xyD : decide ((x : Int) < (y : Int)) = true := decide_eq_true xyI
                      obtain ⟨q1, q2⟩ := hQH.out.more hzm ⟨y1, xy1⟩
                      obtain ⟨A3, hA3⟩ : ∃ A3, 3 * x = A3 := ⟨_, rfl⟩
                      obtain ⟨P3, hP3⟩ : ∃ P3, A3 * z = P3 := ⟨_, rfl⟩
                      obtain ⟨D1, hD1⟩ : ∃ D1, P3 - y = D1 := ⟨_, rfl⟩
                      obtain ⟨A4, hA4⟩ : ∃ A4, 3 * y = A4 := ⟨_, rfl⟩
                      obtain ⟨P4, hP4⟩ : ∃ P4, A4 * z = P4 := ⟨_, rfl⟩
                      obtain ⟨D2, hD2⟩ : ∃ D2, P4 - x = D2 := ⟨_, rfl⟩
                      have g1 := mk_ge (x := x) (y := y) (z := z) px1 yz
                      have g2 := mk_ge (x := y) (y := x) (z := z) (by omega) (by omega)
                      rw [hA3, hP3, hD1] at g1
                      rw [hA4, hP4, hD2] at g2
                      rw [hA3, hP3, hD1, hA4, hP4, hD2] at q1 q2
                      have hA3I : (3 : Int) * (x : Int) = (A3 : Int) := by omega
                      have hA4I : (3 : Int) * (y : Int) = (A4 : Int) := by omega
                      have hP3I := mulN hP3
                      have hP4I := mulN hP4
                      have hD1I : (P3 : Int) - (y : Int) = (D1 : Int) := by omega
                      have hD2I : (P4 : Int) - (x : Int) = (D2 : Int) := by omega
                      have hA3l : A3 ≤ 3000000000 := by omega
                      have hA4l : A4 ≤ 3000000000 := by omega
                      have hP3l : P3 ≤ 3000000000000000000 := by rw [← hP3]; exact Nat.le_trans (Nat.mul_le_mul hA3l (show z ≤ 1000000000 by omega)) (by decide)
                      have hP4l : P4 ≤ 3000000000000000000 := by rw [← hP4]; exact Nat.le_trans (Nat.mul_le_mul hA4l (show z ≤ 1000000000 by omega)) (by decide)
                      have q1H := Lib.hid q1
                      have q2H := Lib.hid q2
                      have hnl : n ≤ 2199023255560 := by have h3 := qN_len m (⟨f + 1, x, y, z⟩ :: ts); rw [← hgkH.out, List.length_cons, hnH.out] at h3; omega
                      clear q1 q2 g1 g2 hA3 hP3 hD1 hA4 hP4 hD2
                      go_wp2_with (first
                        | (at_builtin; go_loud (refine wpList_append_td _ rfl (.tmp 75) (.tmp 104) _ rfl Try.underlying116 g off' n (cap - 1) (tcells ts) (by rfl) (hTX.out.below (below_al (Below.refl _ _) _)) _ 2 2 [.int .i64 (x : Nat), .int .i64 (z : Nat), .int .i64 (D1 : Nat), .int .i64 (y : Nat), .int .i64 (z : Nat), .int .i64 (D2 : Nat)] (by rfl) rfl (litT _ _ _) (oneT6 _ _ _ _ _ _) (by omega) ?_); intro g5 off5 cap5 w5 hT5 hg5 hgr5; have hT5H := Lib.hid hT5; have hg5H := Lib.hid hg5; have hgr5H := Lib.hid hgr5; clear hT5 hg5 hgr5))
                      have hI5 := Lib.hid ((hIX.out.below (below_al (Below.refl _ _) _)).grownT hgr5H.out hneX)
                      have hs1 := hblH.out.size
                      have hs2 := hb3.out.size
                      have hs3 := hbX.out.size
                      go_roundg (qN m (ts ++ [⟨f, x, z, D1⟩, ⟨f, y, z, D2⟩]))
                      case measure => have := hgkH.out; have := q2H.out; omega
                      case rel =>
                        refine ⟨insS z out, ts ++ [⟨f, x, z, D1⟩, ⟨f, y, z, D2⟩], g3, c3, g5, off5, cap5, by rw [hli.out], by rw [List.length_append, hnH.out]; rfl, rfl, ?_, q1H.out, hI5.out, by rw [hli.out]; exact hc3, ?_, ?_, ?_, ?_⟩
                        · have := hgkH.out; have := q2H.out; omega
                        · rw [tcells_app, List.length_append, hnH.out]; exact hT5H.out
                        · rcases hg5H.out with h | h
                          · rw [h]; exact hneX
                          · have := hIX.out.ltT hinz.out; simp at h; omega
                        · rcases hg5H.out with h | h
                          · rw [h]; exact hgw
                          · simp at h; omega
                        · exact Below.grown (below_al (bseqT hblH.out (bseqT hb3.out hbX.out)) _) hgr5H.out (by simp; omega) (fun k hk => by injection hk with hk; omega)
                    · have xyI : ¬ (x : Int) < (y : Int) := by omega
                      have xyD : decide ((x : Int) < (y : Int)) = false := decide_eq_false xyI
                      obtain ⟨q1, q2⟩ := hQH.out.last hzm (fun h => xy1 h.2)
                      have q1H := Lib.hid q1
                      have q2H := Lib.hid q2
                      clear q1 q2
                      go_wp2_with (fail)
                      go_roundg (qN m ts)
                      case measure => have := hgkH.out; have := q2H.out; omega
                      case rel => exact ⟨insS z out, ts, g3, c3, g, off', cap - 1, by rw [hli.out], by rw [hnH.out], rfl, by have := hgkH.out; have := q2H.out; omega, q1H.out, hIX.out, by rw [hli.out]; exact hc3, by rw [hnH.out]; exact hTX.out, hneX, hgw, bseqT hblH.out (bseqT hb3.out hbX.out)⟩
                  · have y1I : ¬ (1 : Int) < (y : Int) := by omega
                    have y1D : decide ((1 : Int) < (y : Int)) = false := decide_eq_false y1I
                    obtain ⟨q1, q2⟩ := hQH.out.last hzm (fun h => y1 h.1)
                    have q1H := Lib.hid q1
                    have q2H := Lib.hid q2
                    clear q1 q2
                    go_wp2_with (fail)
                    go_roundg (qN m ts)
                    case measure => have := hgkH.out; have := q2H.out; omega
                    case rel => exact ⟨insS z out, ts, g3, c3, g, off', cap - 1, by rw [hli.out], by rw [hnH.out], rfl, by have := hgkH.out; have := q2H.out; omega, q1H.out, hIX.out, by rw [hli.out]; exact hc3, by rw [hnH.out]; exact hTX.out, hneX, hgw, bseqT hblH.out (bseqT hb3.out hbX.out)⟩)
            · have hPN1 : P = N := by omega
              subst hPN1
              have kI : decide ((P : Int) < (P : Int)) = false := by simp
              have e1 : ((P : Int) == (P : Int)) = true := by simp
              have hinsv := nzT_ins hPH.out (.inl hNH.out.symm)
              go_wp2_with (fail)
              go_quiet (fail)
              obtain ⟨V0, hV0⟩ : ∃ V0, V0 = wr.drewN nq := ⟨_, rfl⟩
              rw [← hV0]
              have hbV0 : Hid (Below W3.heap.size W3 V0) := by show Below _ _ _; rw [hV0]; exact bdn hbxH.out
              clear hV0  b2
              have b2 := (hBx.out.up hbV0.out).z2

              go_wp2_with (fail)
              go_quiet (fail)
              obtain ⟨V, hV⟩ : ∃ V, V = V0.drewN nq := ⟨_, rfl⟩
              rw [← hV]
              have hbV : Hid (Below W3.heap.size W3 V) := by show Below _ _ _; rw [hV]; exact bdn hbV0.out
              clear hV  b2
              obtain ⟨F, hF⟩ : ∃ F, nzT out = F := ⟨_, rfl⟩
              have hFl : Hid (F.length = P) := by show _ = _; rw [← hF, nzT_length]; exact hNH.out
              rw [hF] at hinsv
              have hins := Lib.hid hinsv
              have hIV : Hid (IZ V (some ⟨hh, 0, none⟩) F) := by show IZ _ _ _; rw [← hF]; exact hI3.out.below hbV.out
              have hl1 : Hid ((F.take P).length = P) := by show _ = _; rw [List.length_take, hFl.out]; omega
              have hl2 : Hid ((F.drop P).length = P - P) := by show _ = _; rw [List.length_drop, hFl.out]
              have hI1 := Lib.hid (hIV.out.take P)
              have hl12 : Hid ((F.take P ++ [(z : Int)]).length = P + 1) := by show _ = _; rw [List.length_append, hl1.out]; rfl
              have hl3 : Hid ((F.take P ++ [(z : Int)] ++ F.drop P).length = P + 1) := by show _ = _; rw [List.length_append, hl12.out, hl2.out]; omega
              have hne3 : Hid (F.take P ++ [(z : Int)] ++ F.drop P ≠ []) := by show _ ≠ _; intro h; have := congrArg List.length h; rw [hl3.out] at this; simp at this
              clear hinsv hF
              have hl20 : Hid ((F.drop P).length = 0) := by show _ = _; rw [hl2.out]; omega
              have hI2 := Lib.hid (show ∀ a, IZ V a (F.drop P) by intro a; rw [List.drop_of_length_le (by rw [hFl.out]; exact Nat.le_refl _)]; exact IZ.nil _ _)
              have hPc : (P : Int) ≤ (co : Int) := by omega
              by_cases hcap : P = co
              · subst hcap
                go_wp2_with (fail)
                have hI0 : V.cell? ⟨B, 2, none⟩ = some (.int .i64 (z : Nat)) := (hBx.out.up hbV.out).z2
                have hB0 : Below V.heap.size V V := Below.refl _ _
                go_region_held3 (fun w' => w'.cell? ⟨B, 2, none⟩ = some (.int .i64 (z : Nat)))
                  (repeat (first | (with_reducible assumption) | (with_reducible refine cell_drM ?_) | (with_reducible refine cell_alM ?_ _)))
                  (first
                    | ((refine step_append_ze rfl (.tmp 52) (.tmp 55) _ rfl Try.underlying22 V.heap.size 0 _ [] (by rfl) (ZE.lit _ _ _) rfl (some ⟨hh, 0, none⟩) P P (F.take P) (by rfl) (IZ.upto (B := V.heap.size) hI1.out (by repeat (first | (with_reducible assumption) | (with_reducible exact Below.refl _ _) | (with_reducible refine Below.drew ?_) | (with_reducible refine below_al ?_ _))) (Nat.le_refl _)) hl1.out (by omega) (by omega) (Below.size (B := V.heap.size) (w := V) (by repeat (first | (with_reducible assumption) | (with_reducible exact Below.refl _ _) | (with_reducible refine Below.drew ?_) | (with_reducible refine below_al ?_ _)))) ?_); intro v1 x1 hA1; have hq1 : Below V.heap.size V x1 := Below.trans (by repeat (first | (with_reducible assumption) | (with_reducible exact Below.refl _ _) | (with_reducible refine Below.drew ?_) | (with_reducible refine below_al ?_ _))) hA1.2.1; have hk1 : x1.cell? ⟨B, 2, none⟩ = some (.int .i64 (z : Nat)) := Below.cellAt hq1 (Nat.le_refl _) hI0; have hcl1 := Lib.hid (fun b o h1 h2 => AppZ.cell hA1 (b := b) (o := o) h1 h2); rw [List.nil_append] at hA1; obtain ⟨a1, d1, hv1⟩ := hA1.1.shape; rw [hl1.out] at hv1; subst hv1; have hZ1 := Lib.hid hA1.1; clear hA1)
                    | ((refine step_append_ze rfl (.tmp 56) (.tmp 59) _ rfl Try.underlying22 V.heap.size P (.slice a1 P d1) (F.take P) (by rfl) (by repeat (first | exact hZ1.out | (with_reducible refine ZE.drM ?_) | (with_reducible refine ZE.alM ?_ _))) hl1.out _ 1 1 [(z : Int)] (by rfl) (IZ.one (by first | (simp; done) | (rw [hcl1.out _ _ (by first | (simp; done) | (simp; omega)) (by simp [Value.ownBlock])]; simp; done))) rfl (by omega) (by omega) (Below.size (B := V.heap.size) (w := V) (by repeat (first | (with_reducible assumption) | (with_reducible exact Below.refl _ _) | (with_reducible refine Below.drew ?_) | (with_reducible refine below_al ?_ _)))) ?_); intro v2 x2 hA2; have hq2 : Below V.heap.size V x2 := Below.trans (by repeat (first | (with_reducible assumption) | (with_reducible exact Below.refl _ _) | (with_reducible refine Below.drew ?_) | (with_reducible refine below_al ?_ _))) hA2.2.1; have hk2 : x2.cell? ⟨B, 2, none⟩ = some (.int .i64 (z : Nat)) := Below.cellAt hq2 (Nat.le_refl _) hI0; obtain ⟨a2, d2, hv2⟩ := hA2.1.shape; rw [hl12.out] at hv2; subst hv2; have hZ2 := Lib.hid hA2.1; clear hA2)
                    | ((refine step_append_ze rfl (.tmp 60) (.tmp 63) _ rfl Try.underlying22 V.heap.size (P + 1) (.slice a2 (P + 1) d2) (F.take P ++ [(z : Int)]) (by rfl) (by repeat (first | exact hZ2.out | (with_reducible refine ZE.drM ?_) | (with_reducible refine ZE.alM ?_ _))) hl12.out (some ⟨hh, 0, none⟩) 0 0 (F.drop P) (by rfl) (IZ.upto (B := V.heap.size) (hI2.out _) (by repeat (first | (with_reducible assumption) | (with_reducible exact Below.refl _ _) | (with_reducible refine Below.drew ?_) | (with_reducible refine below_al ?_ _))) (Nat.le_refl _)) hl20.out (by omega) (by omega) (Below.size (B := V.heap.size) (w := V) (by repeat (first | (with_reducible assumption) | (with_reducible exact Below.refl _ _) | (with_reducible refine Below.drew ?_) | (with_reducible refine below_al ?_ _)))) ?_); intro v3 x3 hA3; have hq3 : Below V.heap.size V x3 := Below.trans (by repeat (first | (with_reducible assumption) | (with_reducible exact Below.refl _ _) | (with_reducible refine Below.drew ?_) | (with_reducible refine below_al ?_ _))) hA3.2.1; have hk3 : x3.cell? ⟨B, 2, none⟩ = some (.int .i64 (z : Nat)) := Below.cellAt hq3 (Nat.le_refl _) hI0; have hA3H := Lib.hid hA3; clear hA3))
                all_goals (
                  obtain ⟨g3, c3, hv3⟩ := hA3H.out.1.some hne3.out
                  rw [hl3.out] at hv3
                  subst hv3
                  have hbX := Lib.hid (Below.trans hbV.out (hq3.mono hbV.out.size))
                  have hIX : Hid (IZ x3 (some ⟨g3, 0, none⟩) (nzT (insS z out))) := by show IZ _ _ _; rw [hins.out]; exact hA3H.out.1.iz.1
                  have hc3 : P + 1 ≤ c3 := hA3H.out.1.iz.2
                  have hneX : g3 ≠ g := by have := ze_geM hA3H.out.1 hne3.out; have := hbV.out.size; have := hb3.out.size; have := hBH.out; omega
                  have hli : Hid ((insS z out).length = P + 1) := by show _ = _; rw [← nzT_length, hins.out, hl3.out]
                  have hinz : Hid (nzT (insS z out) ≠ []) := by show _ ≠ _; rw [hins.out]; exact hne3.out
                  clear hA3H hk3 hq3
                  obtain ⟨b0, b1, b2⟩ := hBx.out.up hbX.out
                  have hTX := Lib.hid (hT4H.out.below hbX.out)
                  by_cases y1 : 1 < y
                  · have y1I : (1 : Int) < (y : Int) := by omega
                    have y1D : decide ((1 : Int) < (y : Int)) = true := decide_eq_true y1I
                    by_cases xy1 : x < y
                    · have xyI : (x : Int) < (y : Int) := by omega
                      have xyD : decide ((x : Int) < (y : Int)) = true := decide_eq_true xyI
                      obtain ⟨q1, q2⟩ := hQH.out.more hzm ⟨y1, xy1⟩
                      obtain ⟨A3, hA3⟩ : ∃ A3, 3 * x = A3 := ⟨_, rfl⟩
                      obtain ⟨P3, hP3⟩ : ∃ P3, A3 * z = P3 := ⟨_, rfl⟩
                      obtain ⟨D1, hD1⟩ : ∃ D1, P3 - y = D1 := ⟨_, rfl⟩
                      obtain ⟨A4, hA4⟩ : ∃ A4, 3 * y = A4 := ⟨_, rfl⟩
                      obtain ⟨P4, hP4⟩ : ∃ P4, A4 * z = P4 := ⟨_, rfl⟩
                      obtain ⟨D2, hD2⟩ : ∃ D2, P4 - x = D2 := ⟨_, rfl⟩
                      have g1 := mk_ge (x := x) (y := y) (z := z) px1 yz
                      have g2 := mk_ge (x := y) (y := x) (z := z) (by omega) (by omega)
                      rw [hA3, hP3, hD1] at g1
                      rw [hA4, hP4, hD2] at g2
                      rw [hA3, hP3, hD1, hA4, hP4, hD2] at q1 q2
                      have hA3I : (3 : Int) * (x : Int) = (A3 : Int) := by omega
                      have hA4I : (3 : Int) * (y : Int) = (A4 : Int) := by omega
                      have hP3I := mulN hP3
                      have hP4I := mulN hP4
                      have hD1I : (P3 : Int) - (y : Int) = (D1 : Int) := by omega
                      have hD2I : (P4 : Int) - (x : Int) = (D2 : Int) := by omega
                      have hA3l : A3 ≤ 3000000000 := by omega
                      have hA4l : A4 ≤ 3000000000 := by omega
                      have hP3l : P3 ≤ 3000000000000000000 := by rw [← hP3]; exact Nat.le_trans (Nat.mul_le_mul hA3l (show z ≤ 1000000000 by omega)) (by decide)
                      have hP4l : P4 ≤ 3000000000000000000 := by rw [← hP4]; exact Nat.le_trans (Nat.mul_le_mul hA4l (show z ≤ 1000000000 by omega)) (by decide)
                      have q1H := Lib.hid q1
                      have q2H := Lib.hid q2
                      have hnl : n ≤ 2199023255560 := by have h3 := qN_len m (⟨f + 1, x, y, z⟩ :: ts); rw [← hgkH.out, List.length_cons, hnH.out] at h3; omega
                      clear q1 q2 g1 g2 hA3 hP3 hD1 hA4 hP4 hD2
                      go_wp2_with (first
                        | (at_builtin; go_loud (refine wpList_append_td _ rfl (.tmp 75) (.tmp 104) _ rfl Try.underlying116 g off' n (cap - 1) (tcells ts) (by rfl) (hTX.out.below (below_al (Below.refl _ _) _)) _ 2 2 [.int .i64 (x : Nat), .int .i64 (z : Nat), .int .i64 (D1 : Nat), .int .i64 (y : Nat), .int .i64 (z : Nat), .int .i64 (D2 : Nat)] (by rfl) rfl (litT _ _ _) (oneT6 _ _ _ _ _ _) (by omega) ?_); intro g5 off5 cap5 w5 hT5 hg5 hgr5; have hT5H := Lib.hid hT5; have hg5H := Lib.hid hg5; have hgr5H := Lib.hid hgr5; clear hT5 hg5 hgr5))
                      have hI5 := Lib.hid ((hIX.out.below (below_al (Below.refl _ _) _)).grownT hgr5H.out hneX)
                      have hs1 := hblH.out.size
                      have hs2 := hb3.out.size
                      have hs3 := hbX.out.size
                      go_roundg (qN m (ts ++ [⟨f, x, z, D1⟩, ⟨f, y, z, D2⟩]))
                      case measure => have := hgkH.out; have := q2H.out; omega
                      case rel =>
                        refine ⟨insS z out, ts ++ [⟨f, x, z, D1⟩, ⟨f, y, z, D2⟩], g3, c3, g5, off5, cap5, by rw [hli.out], by rw [List.length_append, hnH.out]; rfl, rfl, ?_, q1H.out, hI5.out, by rw [hli.out]; exact hc3, ?_, ?_, ?_, ?_⟩
                        · have := hgkH.out; have := q2H.out; omega
                        · rw [tcells_app, List.length_append, hnH.out]; exact hT5H.out
                        · rcases hg5H.out with h | h
                          · rw [h]; exact hneX
                          · have := hIX.out.ltT hinz.out; simp at h; omega
                        · rcases hg5H.out with h | h
                          · rw [h]; exact hgw
                          · simp at h; omega
                        · exact Below.grown (below_al (bseqT hblH.out (bseqT hb3.out hbX.out)) _) hgr5H.out (by simp; omega) (fun k hk => by injection hk with hk; omega)
                    · have xyI : ¬ (x : Int) < (y : Int) := by omega
                      have xyD : decide ((x : Int) < (y : Int)) = false := decide_eq_false xyI
                      obtain ⟨q1, q2⟩ := hQH.out.last hzm (fun h => xy1 h.2)
                      have q1H := Lib.hid q1
                      have q2H := Lib.hid q2
                      clear q1 q2
                      go_wp2_with (fail)
                      go_roundg (qN m ts)
                      case measure => have := hgkH.out; have := q2H.out; omega
                      case rel => exact ⟨insS z out, ts, g3, c3, g, off', cap - 1, by rw [hli.out], by rw [hnH.out], rfl, by have := hgkH.out; have := q2H.out; omega, q1H.out, hIX.out, by rw [hli.out]; exact hc3, by rw [hnH.out]; exact hTX.out, hneX, hgw, bseqT hblH.out (bseqT hb3.out hbX.out)⟩
                  · have y1I : ¬ (1 : Int) < (y : Int) := by omega
                    have y1D : decide ((1 : Int) < (y : Int)) = false := decide_eq_false y1I
                    obtain ⟨q1, q2⟩ := hQH.out.last hzm (fun h => y1 h.1)
                    have q1H := Lib.hid q1
                    have q2H := Lib.hid q2
                    clear q1 q2
                    go_wp2_with (fail)
                    go_roundg (qN m ts)
                    case measure => have := hgkH.out; have := q2H.out; omega
                    case rel => exact ⟨insS z out, ts, g3, c3, g, off', cap - 1, by rw [hli.out], by rw [hnH.out], rfl, by have := hgkH.out; have := q2H.out; omega, q1H.out, hIX.out, by rw [hli.out]; exact hc3, by rw [hnH.out]; exact hTX.out, hneX, hgw, bseqT hblH.out (bseqT hb3.out hbX.out)⟩)
              · have hcne : ¬ co = P := by omega
                go_wp2_with (fail)
                have hI0 : V.cell? ⟨B, 2, none⟩ = some (.int .i64 (z : Nat)) := (hBx.out.up hbV.out).z2
                have hB0 : Below V.heap.size V V := Below.refl _ _
                go_region_held3 (fun w' => w'.cell? ⟨B, 2, none⟩ = some (.int .i64 (z : Nat)))
                  (repeat (first | (with_reducible assumption) | (with_reducible refine cell_drM ?_) | (with_reducible refine cell_alM ?_ _)))
                  (first
                    | ((refine step_append_ze rfl (.tmp 52) (.tmp 55) _ rfl Try.underlying22 V.heap.size 0 _ [] (by rfl) (ZE.lit _ _ _) rfl (some ⟨hh, 0, none⟩) P co (F.take P) (by rfl) (IZ.upto (B := V.heap.size) hI1.out (by repeat (first | (with_reducible assumption) | (with_reducible exact Below.refl _ _) | (with_reducible refine Below.drew ?_) | (with_reducible refine below_al ?_ _))) (Nat.le_refl _)) hl1.out (by omega) (by omega) (Below.size (B := V.heap.size) (w := V) (by repeat (first | (with_reducible assumption) | (with_reducible exact Below.refl _ _) | (with_reducible refine Below.drew ?_) | (with_reducible refine below_al ?_ _)))) ?_); intro v1 x1 hA1; have hq1 : Below V.heap.size V x1 := Below.trans (by repeat (first | (with_reducible assumption) | (with_reducible exact Below.refl _ _) | (with_reducible refine Below.drew ?_) | (with_reducible refine below_al ?_ _))) hA1.2.1; have hk1 : x1.cell? ⟨B, 2, none⟩ = some (.int .i64 (z : Nat)) := Below.cellAt hq1 (Nat.le_refl _) hI0; have hcl1 := Lib.hid (fun b o h1 h2 => AppZ.cell hA1 (b := b) (o := o) h1 h2); rw [List.nil_append] at hA1; obtain ⟨a1, d1, hv1⟩ := hA1.1.shape; rw [hl1.out] at hv1; subst hv1; have hZ1 := Lib.hid hA1.1; clear hA1)
                    | ((refine step_append_ze rfl (.tmp 56) (.tmp 59) _ rfl Try.underlying22 V.heap.size P (.slice a1 P d1) (F.take P) (by rfl) (by repeat (first | exact hZ1.out | (with_reducible refine ZE.drM ?_) | (with_reducible refine ZE.alM ?_ _))) hl1.out _ 1 1 [(z : Int)] (by rfl) (IZ.one (by first | (simp; done) | (rw [hcl1.out _ _ (by first | (simp; done) | (simp; omega)) (by simp [Value.ownBlock])]; simp; done))) rfl (by omega) (by omega) (Below.size (B := V.heap.size) (w := V) (by repeat (first | (with_reducible assumption) | (with_reducible exact Below.refl _ _) | (with_reducible refine Below.drew ?_) | (with_reducible refine below_al ?_ _)))) ?_); intro v2 x2 hA2; have hq2 : Below V.heap.size V x2 := Below.trans (by repeat (first | (with_reducible assumption) | (with_reducible exact Below.refl _ _) | (with_reducible refine Below.drew ?_) | (with_reducible refine below_al ?_ _))) hA2.2.1; have hk2 : x2.cell? ⟨B, 2, none⟩ = some (.int .i64 (z : Nat)) := Below.cellAt hq2 (Nat.le_refl _) hI0; obtain ⟨a2, d2, hv2⟩ := hA2.1.shape; rw [hl12.out] at hv2; subst hv2; have hZ2 := Lib.hid hA2.1; clear hA2)
                    | ((refine step_append_ze rfl (.tmp 60) (.tmp 63) _ rfl Try.underlying22 V.heap.size (P + 1) (.slice a2 (P + 1) d2) (F.take P ++ [(z : Int)]) (by rfl) (by repeat (first | exact hZ2.out | (with_reducible refine ZE.drM ?_) | (with_reducible refine ZE.alM ?_ _))) hl12.out (some ⟨hh, P, none⟩) 0 (co - P) (F.drop P) (by rfl) (IZ.upto (B := V.heap.size) (hI2.out _) (by repeat (first | (with_reducible assumption) | (with_reducible exact Below.refl _ _) | (with_reducible refine Below.drew ?_) | (with_reducible refine below_al ?_ _))) (Nat.le_refl _)) hl20.out (by omega) (by omega) (Below.size (B := V.heap.size) (w := V) (by repeat (first | (with_reducible assumption) | (with_reducible exact Below.refl _ _) | (with_reducible refine Below.drew ?_) | (with_reducible refine below_al ?_ _)))) ?_); intro v3 x3 hA3; have hq3 : Below V.heap.size V x3 := Below.trans (by repeat (first | (with_reducible assumption) | (with_reducible exact Below.refl _ _) | (with_reducible refine Below.drew ?_) | (with_reducible refine below_al ?_ _))) hA3.2.1; have hk3 : x3.cell? ⟨B, 2, none⟩ = some (.int .i64 (z : Nat)) := Below.cellAt hq3 (Nat.le_refl _) hI0; have hA3H := Lib.hid hA3; clear hA3))
                all_goals (
                  obtain ⟨g3, c3, hv3⟩ := hA3H.out.1.some hne3.out
                  rw [hl3.out] at hv3
                  subst hv3
                  have hbX := Lib.hid (Below.trans hbV.out (hq3.mono hbV.out.size))
                  have hIX : Hid (IZ x3 (some ⟨g3, 0, none⟩) (nzT (insS z out))) := by show IZ _ _ _; rw [hins.out]; exact hA3H.out.1.iz.1
                  have hc3 : P + 1 ≤ c3 := hA3H.out.1.iz.2
                  have hneX : g3 ≠ g := by have := ze_geM hA3H.out.1 hne3.out; have := hbV.out.size; have := hb3.out.size; have := hBH.out; omega
                  have hli : Hid ((insS z out).length = P + 1) := by show _ = _; rw [← nzT_length, hins.out, hl3.out]
                  have hinz : Hid (nzT (insS z out) ≠ []) := by show _ ≠ _; rw [hins.out]; exact hne3.out
                  clear hA3H hk3 hq3
                  obtain ⟨b0, b1, b2⟩ := hBx.out.up hbX.out
                  have hTX := Lib.hid (hT4H.out.below hbX.out)
                  by_cases y1 : 1 < y
                  · have y1I : (1 : Int) < (y : Int) := by omega
                    have y1D : decide ((1 : Int) < (y : Int)) = true := decide_eq_true y1I
                    by_cases xy1 : x < y
                    · have xyI : (x : Int) < (y : Int) := by omega
                      have xyD : decide ((x : Int) < (y : Int)) = true := decide_eq_true xyI
                      obtain ⟨q1, q2⟩ := hQH.out.more hzm ⟨y1, xy1⟩
                      obtain ⟨A3, hA3⟩ : ∃ A3, 3 * x = A3 := ⟨_, rfl⟩
                      obtain ⟨P3, hP3⟩ : ∃ P3, A3 * z = P3 := ⟨_, rfl⟩
                      obtain ⟨D1, hD1⟩ : ∃ D1, P3 - y = D1 := ⟨_, rfl⟩
                      obtain ⟨A4, hA4⟩ : ∃ A4, 3 * y = A4 := ⟨_, rfl⟩
                      obtain ⟨P4, hP4⟩ : ∃ P4, A4 * z = P4 := ⟨_, rfl⟩
                      obtain ⟨D2, hD2⟩ : ∃ D2, P4 - x = D2 := ⟨_, rfl⟩
                      have g1 := mk_ge (x := x) (y := y) (z := z) px1 yz
                      have g2 := mk_ge (x := y) (y := x) (z := z) (by omega) (by omega)
                      rw [hA3, hP3, hD1] at g1
                      rw [hA4, hP4, hD2] at g2
                      rw [hA3, hP3, hD1, hA4, hP4, hD2] at q1 q2
                      have hA3I : (3 : Int) * (x : Int) = (A3 : Int) := by omega
                      have hA4I : (3 : Int) * (y : Int) = (A4 : Int) := by omega
                      have hP3I := mulN hP3
                      have hP4I := mulN hP4
                      have hD1I : (P3 : Int) - (y : Int) = (D1 : Int) := by omega
                      have hD2I : (P4 : Int) - (x : Int) = (D2 : Int) := by omega
                      have hA3l : A3 ≤ 3000000000 := by omega
                      have hA4l : A4 ≤ 3000000000 := by omega
                      have hP3l : P3 ≤ 3000000000000000000 := by rw [← hP3]; exact Nat.le_trans (Nat.mul_le_mul hA3l (show z ≤ 1000000000 by omega)) (by decide)
                      have hP4l : P4 ≤ 3000000000000000000 := by rw [← hP4]; exact Nat.le_trans (Nat.mul_le_mul hA4l (show z ≤ 1000000000 by omega)) (by decide)
                      have q1H := Lib.hid q1
                      have q2H := Lib.hid q2
                      have hnl : n ≤ 2199023255560 := by have h3 := qN_len m (⟨f + 1, x, y, z⟩ :: ts); rw [← hgkH.out, List.length_cons, hnH.out] at h3; omega
                      clear q1 q2 g1 g2 hA3 hP3 hD1 hA4 hP4 hD2
                      go_wp2_with (first
                        | (at_builtin; go_loud (refine wpList_append_td _ rfl (.tmp 75) (.tmp 104) _ rfl Try.underlying116 g off' n (cap - 1) (tcells ts) (by rfl) (hTX.out.below (below_al (Below.refl _ _) _)) _ 2 2 [.int .i64 (x : Nat), .int .i64 (z : Nat), .int .i64 (D1 : Nat), .int .i64 (y : Nat), .int .i64 (z : Nat), .int .i64 (D2 : Nat)] (by rfl) rfl (litT _ _ _) (oneT6 _ _ _ _ _ _) (by omega) ?_); intro g5 off5 cap5 w5 hT5 hg5 hgr5; have hT5H := Lib.hid hT5; have hg5H := Lib.hid hg5; have hgr5H := Lib.hid hgr5; clear hT5 hg5 hgr5))
                      have hI5 := Lib.hid ((hIX.out.below (below_al (Below.refl _ _) _)).grownT hgr5H.out hneX)
                      have hs1 := hblH.out.size
                      have hs2 := hb3.out.size
                      have hs3 := hbX.out.size
                      go_roundg (qN m (ts ++ [⟨f, x, z, D1⟩, ⟨f, y, z, D2⟩]))
                      case measure => have := hgkH.out; have := q2H.out; omega
                      case rel =>
                        refine ⟨insS z out, ts ++ [⟨f, x, z, D1⟩, ⟨f, y, z, D2⟩], g3, c3, g5, off5, cap5, by rw [hli.out], by rw [List.length_append, hnH.out]; rfl, rfl, ?_, q1H.out, hI5.out, by rw [hli.out]; exact hc3, ?_, ?_, ?_, ?_⟩
                        · have := hgkH.out; have := q2H.out; omega
                        · rw [tcells_app, List.length_append, hnH.out]; exact hT5H.out
                        · rcases hg5H.out with h | h
                          · rw [h]; exact hneX
                          · have := hIX.out.ltT hinz.out; simp at h; omega
                        · rcases hg5H.out with h | h
                          · rw [h]; exact hgw
                          · simp at h; omega
                        · exact Below.grown (below_al (bseqT hblH.out (bseqT hb3.out hbX.out)) _) hgr5H.out (by simp; omega) (fun k hk => by injection hk with hk; omega)
                    · have xyI : ¬ (x : Int) < (y : Int) := by omega
                      have xyD : decide ((x : Int) < (y : Int)) = false := decide_eq_false xyI
                      obtain ⟨q1, q2⟩ := hQH.out.last hzm (fun h => xy1 h.2)
                      have q1H := Lib.hid q1
                      have q2H := Lib.hid q2
                      clear q1 q2
                      go_wp2_with (fail)
                      go_roundg (qN m ts)
                      case measure => have := hgkH.out; have := q2H.out; omega
                      case rel => exact ⟨insS z out, ts, g3, c3, g, off', cap - 1, by rw [hli.out], by rw [hnH.out], rfl, by have := hgkH.out; have := q2H.out; omega, q1H.out, hIX.out, by rw [hli.out]; exact hc3, by rw [hnH.out]; exact hTX.out, hneX, hgw, bseqT hblH.out (bseqT hb3.out hbX.out)⟩
                  · have y1I : ¬ (1 : Int) < (y : Int) := by omega
                    have y1D : decide ((1 : Int) < (y : Int)) = false := decide_eq_false y1I
                    obtain ⟨q1, q2⟩ := hQH.out.last hzm (fun h => y1 h.1)
                    have q1H := Lib.hid q1
                    have q2H := Lib.hid q2
                    clear q1 q2
                    go_wp2_with (fail)
                    go_roundg (qN m ts)
                    case measure => have := hgkH.out; have := q2H.out; omega
                    case rel => exact ⟨insS z out, ts, g3, c3, g, off', cap - 1, by rw [hli.out], by rw [hnH.out], rfl, by have := hgkH.out; have := q2H.out; omega, q1H.out, hIX.out, by rw [hli.out]; exact hc3, by rw [hnH.out]; exact hTX.out, hneX, hgw, bseqT hblH.out (bseqT hb3.out hbX.out)⟩)

end
end Go.Proofs.Ytbehfhmdilifkaa
