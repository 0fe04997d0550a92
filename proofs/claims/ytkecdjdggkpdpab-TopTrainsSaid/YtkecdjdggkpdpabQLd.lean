/- Ld -/
import Derived.Test.YtkecdjdggkpdpabQLa
import Derived.Test.YtkecdjdggkpdpabQJs
set_option linter.unusedVariables false
/- Walk of the law TopTrains (begun). -/
namespace Go.Proofs.Ytkecdjdggkpdpab
open Go Go.RowKit Go.Proofs

def whl (xs : List Nat) (k : Nat) : List Nat := (xs.take k).map fun x => x % 60 + 1
theorem whl_next {xs : List Nat} {k x : Nat} (h : xs[k]? = some x) : whl xs (k + 1) = whl xs k ++ [x % 60 + 1] := by
  unfold whl
  rw [List.take_add_one, h, List.map_append]; rfl
theorem ch_next {w : Nat → Nat} {t : Tr} {i : Nat} {x : Nat × Nat} (h : t[i]? = some x) : ((chB w t).take (i + 1)).map toR = ((chB w t).take i).map toR ++ [⟨(i : Nat), ((i + 1 : Nat) : Int), (w x.1 : Nat), (w x.2 : Nat)⟩] := by
  have e : (chB w t)[i]? = some ⟨i, i + 1, (w x.1 : Int), w x.2⟩ := by
    unfold chB
    rw [List.getElem?_map, List.getElem?_zipIdx, h]
    simp
  rw [List.take_add_one, e, List.map_append]
  rfl
theorem trP_next {w : Nat → Nat} {t : Tr} {i : Nat} {x : Nat × Nat} (h : t[i]? = some x) : trP w (t.take (i + 1)) = trP w (t.take i) * w x.1 ∧ trQ w (t.take (i + 1)) = trQ w (t.take i) * w x.2 := by
  rw [List.take_add_one, h]
  exact ⟨trP_snoc w _ x.1 x.2, trQ_snoc w _ x.1 x.2⟩
/-- No fraction with Near's bound is closer than Near. -/
theorem NearI.all {o u m c d p q : Nat} (hu : 0 < u) (hm : 1 ≤ m) (h : NearI o u m c d) (hq : 1 ≤ q) (hqm : q ≤ m) : closerB o u p q c d = false := by
  unfold closerB
  refine decide_eq_false ?_
  have h0 := h.closest (k := 0) hu hm hq hqm
  have hl := low_le (o := o) (q := q) (u := u) hu
  rcases Nat.lt_or_ge p (o * q / u) with h1 | h1
  · have h2 : offN o u (o * q / u + 0) q ≤ offN o u p q := by
      unfold offN
      have : p * u ≤ o * q / u * u := Nat.mul_le_mul_right u (by omega)
      rw [Nat.add_zero]
      omega
    have h3 := Nat.mul_le_mul_right d h2
    omega
  · have h2 := h.closest (k := p - o * q / u) hu hm hq hqm
    rw [show o * q / u + (p - o * q / u) = p by omega] at h2
    omega
theorem nearI_is {o u m : Nat} (hm : 1 ≤ m) : ∃ a b, NearI o u m a b := by
  have h : ∀ Q, 1 ≤ Q → ∃ a b, NB o u Q 2 a b := by
    have st : ∀ Q a b, 1 ≤ Q → NB o u Q 0 a b → ∃ a b, NB o u Q 2 a b := fun Q a b hQ hB => by
      have st1 : ∀ k a b, NB o u Q k a b → ∃ a b, NB o u Q (k + 1) a b := fun k a b hB => by
        by_cases hlt : offN o u (o * Q / u + k) Q * b < offN o u a b * Q
        · exact ⟨_, _, hB.take hQ hlt⟩
        · exact ⟨_, _, hB.keep (by omega)⟩
      obtain ⟨a1, b1, h1⟩ := st1 0 a b hB
      exact st1 1 a1 b1 h1
    intro Q hQ
    induction Q with
    | zero => omega
    | succ Q ih =>
      by_cases hQ0 : Q = 0
      · subst hQ0
        have h1 : NB o u 1 1 (o * 1 / u) 1 := NB.first
        by_cases hlt : offN o u (o * 1 / u + 1) 1 * 1 < offN o u (o * 1 / u) 1 * 1
        · exact ⟨_, _, h1.take (Nat.le_refl _) hlt⟩
        · exact ⟨_, _, h1.keep (by omega)⟩
      · obtain ⟨a, b, hB⟩ := ih (by omega)
        exact st (Q + 1) a b (by omega) (hB.next (by omega))
  exact h m hm
theorem chain_gear {w : Nat → Nat} {t : Tr} {n : Nat} (hw : ∀ x ∈ t, 1 ≤ w x.1 ∧ w x.1 ≤ 60 ∧ 1 ≤ w x.2 ∧ w x.2 ≤ 60) (hn : t.length + 1 = n) (h2 : t.length ≤ 2) : okGear (n : Int) ((chB w t).map toR) = true := by
  have hok := chB_ok hw hn
  unfold okGear
  simp only [Bool.and_eq_true, decide_eq_true_eq, List.all_eq_true, Bool.not_eq_true', List.length_map, chB_len]
  refine ⟨⟨⟨by omega, by omega⟩, by omega⟩, fun r hr => ?_⟩
  obtain ⟨b, hb, rfl⟩ := List.mem_map.1 hr
  have := hok b hb
  unfold okBt at this
  unfold badB toR
  refine decide_eq_false ?_
  simp only
  omega
theorem short_nat {p q : Nat} (hp : p ≤ 1000000) (hq : q ≤ 1000000) (hq0 : 1 ≤ q) : Short4 (Rat.divInt (p : Int) (q : Int)) := by
  have h := divInt_size (x := (p : Int)) (y := (q : Int)) (by omega)
  have hw : Wd 2 (Rat.divInt (p : Int) (q : Int)) := ⟨Nat.le_trans h.1 (by simpa using hp), Nat.le_trans h.2 (by simpa using hq)⟩
  exact hw.short (by omega)
set_option maxRecDepth 100000 in
set_option maxHeartbeats 6400000 in
theorem trainsLaw_any (z0 z1 n0 c0 pr : Nat) (ax : Option Addr) (xs : List Nat) (w : World) (hx : Dg .u8 w ax xs) (hl : xs.length = n0) (hn0 : n0 ≤ 9223372036854775807) (hb : ∀ x ∈ xs, x < 256) (hz0 : z0 < 65536) (hz1 : z1 < 65536) (hpr : pr < 256) :
    Calls Try.prog 3 #[.agg #[.int .u16 (z0 : Nat), .int .u16 (z1 : Nat)], .slice ax n0 c0, .int .u8 (pr : Nat)] w (RetB w true) := by
  have hxH := Lib.hid hx
  have hlH := Lib.hid hl
  have hbH := Lib.hid hb
  have hz0H := Lib.hid hz0
  have hz1H := Lib.hid hz1
  have hprH := Lib.hid hpr
  clear hx hl hb hz0 hz1 hpr
  obtain ⟨V, hV⟩ : ∃ V, V = w.alloc (Obj.cells #[.int .u16 (z0 : Nat), .int .u16 (z1 : Nat)] 23) := ⟨_, rfl⟩
  have e0 : V.cell? ⟨w.heap.size, 0, none⟩ = some (.int .u16 (z0 : Nat)) := by rw [hV]; simp [go_sem]
  have e1 : V.cell? ⟨w.heap.size, 1, none⟩ = some (.int .u16 (z1 : Nat)) := by rw [hV]; simp [go_sem]
  have hbV : Below w.heap.size w V := by rw [hV]; exact below_al (Below.refl _ _) _
  have hbVH := Lib.hid hbV
  have hVH := Lib.hid hV
  clear hbV hV
  obtain ⟨o, ho⟩ : ∃ o, z0 % 2000 + 1 = o := ⟨_, rfl⟩
  obtain ⟨u, hu⟩ : ∃ u, z1 % 2000 + 1 = u := ⟨_, rfl⟩
  obtain ⟨L, hL⟩ : ∃ L, pr % 2 + 1 = L := ⟨_, rfl⟩
  have hoH := Lib.hid ho
  have huH := Lib.hid hu
  have hLH := Lib.hid hL
  have hobd : 1 ≤ o ∧ o ≤ 2000 := by omega
  have hubd : 1 ≤ u ∧ u ≤ 2000 := by omega
  have hLbd : 1 ≤ L ∧ L ≤ 2 := by omega
  clear ho hu hL
  go_enter Try.func3, Try.ntmps3
  go_upto_region 1 with (fail)
  rw [← hVH.out]
  go_cut [7, 8, 9] from 25 to 38 (fun a b c wx => a = .int .i64 (o : Nat) ∧ b = .int .i64 (u : Nat) ∧ c = .int .i64 (L : Nat) ∧ Below V.heap.size V wx)
  case first =>
    have e0' : V.drew.cell? ⟨w.heap.size, 0, none⟩ = some (.int .u16 (z0 : Nat)) := e0
    have e1' : V.drew.cell? ⟨w.heap.size, 1, none⟩ = some (.int .u16 (z1 : Nat)) := e1
    go_region
    all_goals (
      go_wp2_with (fail)
      go_meet
      case rel =>
        have t0 : wrap64 (z0 : Int) = (z0 : Int) := by have := hz0H.out; rw [IntWalk.wrap64_in] <;> omega
        have t1 : wrap64 (z1 : Int) = (z1 : Int) := by have := hz1H.out; rw [IntWalk.wrap64_in] <;> omega
        have t2 : wrap64 (pr : Int) = (pr : Int) := by have := hprH.out; rw [IntWalk.wrap64_in] <;> omega
        have m0 : ((z0 : Int)).tmod 2000 = ((z0 % 2000 : Nat) : Int) := (Int.ofNat_tmod z0 2000).symm
        have m1 : ((z1 : Int)).tmod 2000 = ((z1 % 2000 : Nat) : Int) := (Int.ofNat_tmod z1 2000).symm
        have m2 : ((pr : Int)).tmod 2 = ((pr % 2 : Nat) : Int) := (Int.ofNat_tmod pr 2).symm
        have w0 : ∀ y : Nat, y < 3000 → wrap64 (((y : Nat) : Int) + 1) = ((y + 1 : Nat) : Int) := fun y hy => by rw [IntWalk.wrap64_in] <;> omega
        refine ⟨?_, ?_, ?_, Below.drew (Below.refl _ _)⟩
        · rw [t0, m0, w0 _ (by omega), hoH.out]
        · rw [t1, m1, w0 _ (by omega), huH.out]
        · rw [t2, m2, w0 _ (by omega), hLH.out])
  case rest =>
    obtain ⟨rfl, rfl, rfl, hbc⟩ := hcut
    have hb0 := Lib.hid (hbVH.out.trans (hbc.mono hbVH.out.size))
    clear hbc e0 e1 hbVH hVH hoH huH hLH hz0H hz1H hprH
    obtain ⟨M, hM⟩ : ∃ M, min n0 7 = M := ⟨_, rfl⟩
    go_upto_block 0 with (fail)
    go_cut [10, 11] from 40 to 59 (fun wv kv wx => ∃ (aw : Option Addr) (cw : Nat), wv = .slice aw M cw ∧ ZE wx w.heap.size (.slice aw M cw) (nzT (whl xs M)) ∧ Below w.heap.size w wx)
    case first =>
-- cut1
      go_wp2_with (fail)
      go_loopg [10, 11] M (fun gk wv kv wx => ∃ (k : Nat) (aw : Option Addr) (cw : Nat), wv = .slice aw k cw ∧ kv = .int .i64 (k : Nat) ∧ k + gk = M ∧ ZE wx w.heap.size (.slice aw k cw) (nzT (whl xs k)) ∧ Below w.heap.size w wx)
      case atStart => exact ⟨0, _, 0, rfl, rfl, by omega, ZE.lit _ _ _, below_al hb0.out _⟩
      case round =>
        clear hb0
        obtain ⟨k, aw, cw, rfl, rfl, hk, hZ, hbl⟩ := hrel
        have hZH := Lib.hid hZ
        have hblH := Lib.hid hbl
        have hwl : Hid ((nzT (whl xs k)).length = k) := by show _ = _; rw [nzT_length]; unfold whl; rw [List.length_map, List.length_take, hlH.out]; omega
        clear hZ hbl
        by_cases hkM : k < M
        · obtain ⟨g1, rfl⟩ : ∃ g1, gk = g1 + 1 := ⟨gk - 1, by omega⟩
          have hkn : (k : Int) < (n0 : Int) := by omega
          have hk7 : (k : Int) < 7 := by omega
          have hk0 : (0 : Int) ≤ (k : Int) := by omega
          obtain ⟨b, ob, x, hx, ha, hc⟩ := (hxH.out.below hblH.out).at (i := k) (by rw [hlH.out]; omega)
          have haH := Lib.hid ha
          have hx256 : Hid (x < 256) := hbH.out x (List.mem_of_getElem? hx)
          have hnx := Lib.hid (whl_next hx)
          subst ha
          clear hx
          have hval : Hid (wrap64 ((wrap64 (x : Int)).tmod 60 + 1) = ((x % 60 + 1 : Nat) : Int)) := by
            show _ = _
            have := hx256.out
            have t0 : wrap64 (x : Int) = (x : Int) := by rw [IntWalk.wrap64_in] <;> omega
            have m0 : ((x : Int)).tmod 60 = ((x % 60 : Nat) : Int) := (Int.ofNat_tmod x 60).symm
            rw [t0, m0, IntWalk.wrap64_in] <;> omega
          go_wp2_with (at_builtin; go_loud (refine wpList_append_ze _ rfl (.tmp 50) (.tmp 58) _ rfl Try.underlying25 w.heap.size k (.slice aw k cw) (nzT (whl xs k)) (by rfl) (hZH.out.below (below_al (Below.refl _ _) _)) hwl.out (some ⟨wr.heap.size, 0, none⟩) 1 1 [((x % 60 + 1 : Nat) : Int)] (by rfl) (IZ.one (by rw [← hval.out]; simp [go_sem])) rfl (by omega) (by omega) (by have := hblH.out.size; simp; omega) ?_); intro v4 w4 hA4; have hA := Lib.hid hA4; clear hA4)
          obtain ⟨aw4, cw4, hv4⟩ := hA.out.1.shape
          have hl4 : (nzT (whl xs k) ++ [((x % 60 + 1 : Nat) : Int)]).length = k + 1 := by rw [List.length_append, hwl.out]; rfl
          rw [hl4] at hv4
          have hv4H := Lib.hid hv4
          have hb5 := Lib.hid (Below.trans (below_al hblH.out _) hA.out.2.1)
          clear hl4 hv4
          go_roundg g1
          case measure => omega
          case rel => exact ⟨k + 1, aw4, cw4, hv4H.out, by go_num, by omega, by have := hA.out.1; rw [hv4H.out] at this; rw [hnx.out, nzT_snoc]; exact this, hb5.out⟩
        · have hke : M = k := by omega
          subst hke
          by_cases hkn : M < n0
          · have hknI : (M : Int) < (n0 : Int) := by omega
            have hk7 : ¬ (M : Int) < 7 := by omega
            go_wp2_with (fail)
            go_meet
            case rel => exact ⟨aw, cw, rfl, hZH.out, hblH.out⟩
          · have hknI : ¬ (M : Int) < (n0 : Int) := by omega
            go_wp2_with (fail)
            go_meet
            case rel => exact ⟨aw, cw, rfl, hZH.out, hblH.out⟩
-- end1
    case rest =>
      obtain ⟨aw, cw, rfl, hZ, hbl⟩ := hcut
      have hZiz := hZ.iz
      have hI := Lib.hid hZiz.1
      have hblH := Lib.hid hbl
      have hml := Lib.hid (show (whl xs M).length = M by unfold whl; rw [List.length_map, List.length_take, hlH.out]; omega)
      have hwb : Hid (∀ x ∈ whl xs M, 1 ≤ x ∧ x ≤ 60) := fun x hx => by
        obtain ⟨y, _, rfl⟩ := List.mem_map.1 hx
        omega
      obtain ⟨ws, hws⟩ : ∃ ws, whl xs M = ws := ⟨_, rfl⟩
      rw [hws] at hI hml hwb
      have hM7 : M ≤ 7 := by omega
      have hok : Hid (trOk (o : Nat) (u : Nat) (L : Nat) M (nzT ws) = true) := by
        show _ = _
        unfold trOk
        simp only [Bool.and_eq_true, decide_eq_true_eq]
        refine ⟨⟨⟨inL_iff.2 fun x hx => ?_, by omega⟩, inL_iff.2 fun x hx => ?_⟩, inL_iff.2 fun x hx => ?_⟩
        · simp at hx; omega
        · unfold nzT at hx
          obtain ⟨y, hy, rfl⟩ := List.mem_map.1 hx
          have := hwb.out y hy
          omega
        · simp at hx; omega
      clear hZ hZiz hbl hws hM hb0
      by_cases hfew : M < 2 * L
      · have hfI : (M : Int) < 2 * (L : Int) := by omega
        have hw2 : IntKind.i64.wrap (2 * (L : Int)) = 2 * (L : Int) := by rw [IntKind.wrap_i64]; omega
        go_wp2_with (go_at_call 4; go_loud (refine (trainP_none o u L aw M cw (nzT ws) _ hI.out (by rw [nzT_length]; exact hml.out) hok.out hfew).mono ?_); rintro e w2 ⟨rfl, hb2⟩; have hb2H := Lib.hid hb2; clear hb2)
        go_ret
        exact ⟨rfl, hblH.out.trans (hb2H.out.mono hblH.out.size)⟩
      · have hge : 2 * L ≤ M := by omega
        have hfI : ¬ (M : Int) < 2 * (L : Int) := by omega
        have hw2 : IntKind.i64.wrap (2 * (L : Int)) = 2 * (L : Int) := by rw [IntKind.wrap_i64]; omega
        obtain ⟨t, p, q, hR⟩ := tryT_ex (o := o) (u := u) (n := M) (w := wf ws) hLbd.1 hLbd.2 hge
        obtain ⟨ht1, ht2, ht3, ht4⟩ := (tryT_good (o := o) (u := u) (L := L) (n := M) (w := wf ws) L [] none (by simp) (fun x hx => by cases hx) (fun t p q h => by cases h)) t p q hR
        have hRH := Lib.hid hR
        have ht2H := Lib.hid ht2
        have ht3H := Lib.hid ht3
        have ht4H := Lib.hid ht4
        have htl := Lib.hid ht1
        have hrt : Hid (resT (some (t, p, q)) = t) := rfl
        clear hR ht1 ht2 ht3 ht4
        go_upto_region 12 with (go_at_call 4; go_loud (refine (trainP_good o u L aw M cw ws _ hI.out hml.out hok.out hge _ hRH.out).mono ?_); rintro e w2 ⟨ta, tc, rfl, hIM, htc, hb2⟩; rw [hrt.out, htl.out]; have hIMH := Lib.hid hIM; have hb2H := Lib.hid (hblH.out.trans (hb2.mono hblH.out.size)); have hI2 := Lib.hid (hI.out.below hb2); clear hIM hb2)
        have hLM : L ≤ M := by omega
        have hBW0 := Lib.hid (BW.lit0 w2 w2.heap.size (Nat.le_refl _))
        go_wp2_with (fail)
        go_loopg [14, 15, 16, 17] L (fun gk bv pv qv iv wx => ∃ (i : Nat) (ab : Option Addr) (cb2 : Nat), bv = .slice ab i cb2 ∧ pv = .int .i64 (trP (wf ws) (t.take i) : Nat) ∧ qv = .int .i64 (trQ (wf ws) (t.take i) : Nat) ∧ iv = .int .i64 (i : Nat) ∧ i + gk = L ∧ BW wx w2.heap.size (.slice ab i cb2) (((chB (wf ws) t).take i).map toR) ∧ Below w2.heap.size w2 wx)
        case atStart => exact ⟨0, _, 0, rfl, rfl, rfl, rfl, by omega, hBW0.out, below_al (Below.refl _ _) _⟩
        case round =>
          clear hBW0
          obtain ⟨i, ab, cb2, rfl, rfl, rfl, rfl, hi, hBW, hbx⟩ := hrel
          have hBWH := Lib.hid hBW
          have hbxH := Lib.hid hbx
          clear hBW hbx
          by_cases hiL : i < L
          · obtain ⟨g1, rfl⟩ : ∃ g1, gk = g1 + 1 := ⟨gk - 1, by omega⟩
-- cut2
            have hiI : (i : Int) < (L : Int) := by omega
            have hi0 : (0 : Int) ≤ (i : Int) := by omega
            obtain ⟨x, hx⟩ : ∃ x, t[i]? = some x := ⟨_, List.getElem?_eq_getElem (by rw [htl.out]; exact hiL)⟩
            obtain ⟨hx1, hx2⟩ := ht4H.out x (List.mem_of_getElem? hx)
            have hrow : (rowsT t)[i]? = some [(x.1 : Int), (x.2 : Int)] := by unfold rowsT; rw [List.getElem?_map, hx]; rfl
            obtain ⟨bt, ot, ar, cr, hta, hcr, hcr2, hIr⟩ := (hIMH.out.below hbxH.out).row hrow
            obtain ⟨br, orr, har, hr0⟩ := hIr 0 _ rfl
            obtain ⟨br', orr', har', hr1⟩ := hIr 1 _ rfl
            rw [har] at har'
            injection har' with har'
            injection har' with q1 q2
            subst q1 q2
            have hcr' : wr.cell? ⟨bt, ot + i, none⟩ = some (.slice ar 2 cr) := hcr
            have hr0' : wr.cell? ⟨br, orr, none⟩ = some (.int .i64 (x.1 : Nat)) := hr0
            have hIw := hI2.out.below hbxH.out
            obtain ⟨bw, ow, hawb, hw1⟩ := hIw x.1 (wf ws x.1 : Nat) (by unfold nzT wf; rw [List.getElem?_map, List.getD_eq_getElem?_getD, List.getElem?_eq_getElem (by rw [hml.out]; exact hx1)]; rfl)
            obtain ⟨bw', ow', hawb', hw2'⟩ := hIw x.2 (wf ws x.2 : Nat) (by unfold nzT wf; rw [List.getElem?_map, List.getD_eq_getElem?_getD, List.getElem?_eq_getElem (by rw [hml.out]; exact hx2)]; rfl)
            rw [hawb] at hawb'
            injection hawb' with hawb'
            injection hawb' with q1 q2
            subst q1 q2
            have htaH := Lib.hid hta
            have harH := Lib.hid har
            have hawH := Lib.hid hawb
            subst hta har hawb
            have hchn := Lib.hid (ch_next (w := wf ws) hx)
            have htpn := Lib.hid (trP_next (w := wf ws) hx)
            obtain ⟨a1, ha1⟩ : ∃ a, x.1 = a := ⟨_, rfl⟩
            obtain ⟨a2, ha2⟩ : ∃ a, x.2 = a := ⟨_, rfl⟩
            rw [ha1] at hx1 hr0' hw1 hchn htpn
            rw [ha2] at hx2 hr1 hw2' hchn htpn
            have hx1I : (a1 : Int) < (M : Int) := by omega
            have hx2I : (a2 : Int) < (M : Int) := by omega
            have hx10 : (0 : Int) ≤ (a1 : Int) := by omega
            have hx20 : (0 : Int) ≤ (a2 : Int) := by omega
            clear hx hrow hcr hr0 hIr hIw ha1 ha2
            go_upto_region 18 with (fail)
            go_quiet (fail)
            obtain ⟨W8, hW8⟩ : ∃ W, wr.drewN nq = W := ⟨_, rfl⟩
            rw [hW8]
            have hb8 : Below wr.heap.size wr W8 := by rw [← hW8]; exact bdn (Below.refl _ _)
            have hBW8 := Lib.hid (hBWH.out.below hb8)
            have hbx8 := Lib.hid (hbxH.out.trans (hb8.mono hbxH.out.size))
            have hln : Hid ((((chB (wf ws) t).take i).map toR).length = i) := by show _ = _; rw [List.length_map, List.length_take, chB_len, htl.out]; omega
            have hget : ∀ j, j < M → 1 ≤ wf ws j ∧ wf ws j ≤ 60 := fun j hj => by
              have := hwb.out (wf ws j) (by unfold wf; rw [List.getD_eq_getElem?_getD, List.getElem?_eq_getElem (by rw [hml.out]; exact hj)]; exact List.getElem_mem _)
              exact this
            obtain ⟨b1, b2, b3, b4⟩ := tr_bd (w := wf ws) (t := t.take i) (fun x hx => by
              have h := ht4H.out x (List.mem_of_mem_take hx)
              have h5 := hget x.1 h.1
              have h6 := hget x.2 h.2
              omega)
            have h60 : 60 ^ (t.take i).length ≤ 3600 := by
              have : (t.take i).length ≤ 2 := by rw [List.length_take, htl.out]; omega
              exact Nat.pow_le_pow_right (by decide) this
            have g1b := hget a1 hx1
            have g2b := hget a2 hx2
            obtain ⟨p1, hp1⟩ : ∃ p, wf ws a1 = p := ⟨_, rfl⟩
            obtain ⟨p2, hp2⟩ : ∃ p, wf ws a2 = p := ⟨_, rfl⟩
            obtain ⟨pt, hpt⟩ : ∃ p, trP (wf ws) (t.take i) = p := ⟨_, rfl⟩
            obtain ⟨qt, hqt⟩ : ∃ p, trQ (wf ws) (t.take i) = p := ⟨_, rfl⟩
            rw [hp1, hp2] at hchn
            rw [hp1, hp2, hpt, hqt] at htpn
            rw [hp1] at g1b ⊢
            rw [hp2] at g2b ⊢
            rw [hpt] at b1 b2 ⊢
            rw [hqt] at b3 b4 ⊢
            have m1 : pt * p1 ≤ 3600 * 60 := Nat.mul_le_mul (by omega) g1b.2
            have m2 : qt * p2 ≤ 3600 * 60 := Nat.mul_le_mul (by omega) g2b.2
            have w1 : IntKind.i64.wrap ((pt : Int) * (p1 : Int)) = ((pt * p1 : Nat) : Int) := by rw [← Int.natCast_mul, IntKind.wrap_i64]; omega
            have w3 : IntKind.i64.wrap ((qt : Int) * (p2 : Int)) = ((qt * p2 : Nat) : Int) := by rw [← Int.natCast_mul, IntKind.wrap_i64]; omega
            have w4 : IntKind.i64.wrap ((i : Int) + 1) = ((i + 1 : Nat) : Int) := by rw [IntKind.wrap_i64]; omega
            clear hcr' hr0' hr1 hw1 hw2' hW8 hget h60 b1 b2 b3 b4 g1b g2b m1 m2 hp1 hp2 hpt hqt hb8
            go_wp2_with (at_builtin; go_loud (refine wpList_append_bl _ rfl (.tmp 153) (.tmp 160) _ rfl Try.underlying30 w2.heap.size i (.slice ab i cb2) (((chB (wf ws) t).take i).map toR) ⟨(i : Nat), ((i + 1 : Nat) : Int), (p1 : Nat), (p2 : Nat)⟩ (by rfl) (hBW8.out.below (below_al (Below.refl _ _) _)) hln.out _ (by rfl) (by omega) (by have := hbx8.out.size; simp; omega) (by simp [go_sem]) (by simp [go_sem]) (by simp [go_sem]) (by simp [go_sem]) ?_); intro v4 x4 hv4 hg4 ho4; have hv4H := Lib.hid hv4; have hg4H := Lib.hid hg4; clear hv4 hg4 ho4)
            obtain ⟨ab4, cb4, hv5⟩ := hv4H.out.shape
            have hl5 : (((chB (wf ws) t).take i).map toR ++ [(⟨(i : Nat), ((i + 1 : Nat) : Int), (p1 : Nat), (p2 : Nat)⟩ : Rb)]).length = i + 1 := by rw [List.length_append, hln.out]; rfl
            rw [hl5] at hv5
            have hv5H := Lib.hid hv5
            have hb9 := Lib.hid ((hbx8.out.alloc hbx8.out.size _).grown hg4H.out (by have := hbx8.out.size; simp; omega) (fun g hg => (hBW8.out.lt g hg).1))
            clear hl5 hv5
            go_roundg g1
            case measure => omega
            case rel => exact ⟨i + 1, ab4, cb4, hv5H.out, by rw [htpn.out.1, Int.natCast_mul], by rw [htpn.out.2, Int.natCast_mul], by go_num, by omega, by have := hv4H.out; rw [hv5H.out] at this; rw [hchn.out]; exact this, hb9.out⟩
-- end2
          · have hiL' : L = i := by omega
            subst hiL'
            have hget : ∀ j, j < M → 1 ≤ wf ws j ∧ wf ws j ≤ 60 := fun j hj => by
              have := hwb.out (wf ws j) (by unfold wf; rw [List.getD_eq_getElem?_getD, List.getElem?_eq_getElem (by rw [hml.out]; exact hj)]; exact List.getElem_mem _)
              exact this
            have hall : ∀ x ∈ t, 1 ≤ wf ws x.1 ∧ wf ws x.1 ≤ 60 ∧ 1 ≤ wf ws x.2 ∧ wf ws x.2 ≤ 60 := fun x hx => by
              have h := ht4H.out x hx
              have h5 := hget x.1 h.1
              have h6 := hget x.2 h.2
              omega
            obtain ⟨b1, b2, b3, b4⟩ := tr_bd (w := wf ws) (t := t) hall
            have h60 : 60 ^ t.length ≤ 3600 := by
              have : t.length ≤ 2 := by rw [htl.out]; omega
              exact Nat.pow_le_pow_right (by decide) this
            have htk : t.take L = t := List.take_of_length_le (by rw [htl.out]; exact Nat.le_refl _)
            have hck : (chB (wf ws) t).take L = chB (wf ws) t := List.take_of_length_le (by rw [chB_len, htl.out]; exact Nat.le_refl _)
            have hBW' := hBWH.out
            rw [hck] at hBW'
            have hn1 : t.length + 1 = L + 1 := by rw [htl.out]
            obtain ⟨k1, k2, k3⟩ := chain_ratio hall hn1 (by rw [htl.out]; omega) (by rw [htl.out]; omega)
            have hok2 := chain_gear hall hn1 (by rw [htl.out]; omega)
            have hok3 := chB_ok hall hn1
            rw [htl.out] at k2 k3
            obtain ⟨p', hp'⟩ : ∃ p', trP (wf ws) t = p' := ⟨_, rfl⟩
            obtain ⟨q', hq'⟩ : ∃ q', trQ (wf ws) t = q' := ⟨_, rfl⟩
            rw [hp', hq'] at k3
            rw [hp'] at b1 b2
            rw [hq'] at b3 b4
            have hp3 : p' ≤ 3600 := by omega
            have hq3 : q' ≤ 3600 := by omega
            have hRat : Hid (∀ W, RV W ab ((chB (wf ws) t).map toR) → Calls Try.prog 5 #[.int .i64 ((L + 1 : Nat) : Int), .slice ab L cb2, .int .i64 0, .int .i64 (L : Nat)] W (RetS W (nt (Rat.divInt (p' : Int) (q' : Int))) 0)) := fun W hRV => by
              have h := ratioP_at (L + 1) ab L cb2 (chB (wf ws) t) 0 L true W hRV (by rw [chB_len, htl.out]) hok2 hok3 (by omega) (by omega) (by omega) (by omega) (by omega) (by rw [k1, k2]; simp)
              rw [← k3]
              exact h
            obtain ⟨c, d, hN⟩ := nearI_is (o := o) (u := u) (m := q') b3
            have hcl := hN.all (p := p') (q := q') (by omega) b3 b3 (Nat.le_refl _)
            have hd1 := hN.pos
            have hd2 := hN.mem.le
            have hc2 := hN.mem.num_le
            have hNear := Lib.hid (fun W => nearP_good o u q' c d W hobd.1 (by omega) hubd.1 (by omega) b3 (by omega) hN)
            have hoq : o * q' ≤ 2000 * 3600 := Nat.mul_le_mul (by omega) hq3
            have hod : o * d ≤ 2000 * 3600 := Nat.mul_le_mul (by omega) (by omega)
            have hpu : p' * u ≤ 3600 * 2000 := Nat.mul_le_mul hp3 (by omega)
            have hcl2 : c ≤ 7200003 := by omega
            have hcu : c * u ≤ 7200003 * 2000 := Nat.mul_le_mul hcl2 (by omega)
            have hClo := Lib.hid (fun W => closer_any o u p' q' c d false W (by omega) (by omega) (by omega) (by omega) (by omega) (by omega) hcl)
            have hMk := Lib.hid (fun W => make_any p' q' (by omega) (by omega) (by omega) W)
            have hsh := Lib.hid (short_nat (p := p') (q := q') (by omega) (by omega) b3)
            have hw4 : IntKind.i64.wrap ((L : Int) + 1) = ((L + 1 : Nat) : Int) := by rw [IntKind.wrap_i64]; omega
            have hBWf := Lib.hid hBW'
            rw [htk, hp', hq']
            clear hget hall b1 b2 b3 b4 h60 htk hck hBW' hn1 k1 k2 k3 hok2 hok3 hp' hq' hN hcl hd1 hd2 hc2 hoq hod hpu hcu hBWH ht4H htl hRH ht2H ht3H hIMH hI2 hok
            go_upto_region 22 with (first
              | (go_at_call 5; go_loud (refine (hRat.out _ hBWf.out.rv).mono ?_); rintro e w3 ⟨rfl, hb3⟩; have hb3H := Lib.hid hb3; clear hb3)
              | (go_at_call 6; go_loud (refine (hNear.out _).mono ?_); rintro e w4 ⟨rfl, hb4⟩; have hb4H := Lib.hid (hb3H.out.trans (hb4.mono hb3H.out.size)); clear hb4))
            clear hBWf hRat hNear
            go_wp2_with (first
              | (go_at_call 8; go_loud (refine (hMk.out _).mono ?_); rintro e w5 ⟨ma, mc, ma', mc', rfl, hm5, hb5⟩; have hm5H := Lib.hid hm5; have hb5H := Lib.hid hb5; clear hm5 hb5)
              | (go_at_call 7; go_loud (refine (is_b _ ma mc ma' mc' (Rat.divInt (p' : Int) (q' : Int)) true _ (decide_eq_true rfl) hm5H.out hsh.out).mono ?_); rintro e w6 ⟨rfl, hb6⟩; have hb6H := Lib.hid (bseqK hb5H.out hb6); clear hb6)
              | (go_at_call 9; go_loud (refine (hClo.out _).mono ?_); rintro e w7 ⟨rfl, rfl⟩))
            go_ret
            exact ⟨rfl, bseqK (bseqK (bseqK hb2H.out hbxH.out) hb4H.out) hb6H.out⟩
end Go.Proofs.Ytkecdjdggkpdpab
