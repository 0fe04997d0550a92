/- Is It -/
import Derived.Test.YtkecdjdggkpdpabQIr
import Derived.Test.YtkecdjdggkpdpabQHf
set_option linter.unusedVariables false
/- Train's recursion. (Printed by wip/tools/gen_is.py.) -/
namespace Go.Proofs.Ytkecdjdggkpdpab
open Go Go.RowKit Go.Proofs

def wf (ws : List Nat) (i : Nat) : Nat := ws.getD i 0
theorem wf_in {ws : List Nat} {n i : Nat} (hl : ws.length = n) (hr : ∀ x ∈ ws, 1 ≤ x ∧ x ≤ 1000) (hi : i < n) : 1 ≤ wf ws i ∧ wf ws i ≤ 1000 := by
  have e : wf ws i = ws[i]'(by omega) := by unfold wf; simp [List.getD, hl, hi]
  rw [e]
  exact hr _ (List.getElem_mem _)
theorem wf_get {ws : List Nat} {n i : Nat} (hl : ws.length = n) (hi : i < n) : (nzT ws)[i]? = some ((wf ws i : Nat) : Int) := by
  unfold nzT wf
  rw [List.getElem?_map, List.getElem?_eq_getElem (by omega)]
  simp [List.getD, hl, hi]
theorem rowF_st {f : Nat → Bt → Bt} {S : Bt → Prop} {n : Nat} (hf : ∀ k s, k < n → S s → S (f k s)) : ∀ (m k : Nat) (s : Bt), k + m ≤ n → S s → S (rowF f m k s)
  | 0, _, _, _, h => h
  | m + 1, k, s, hk, h => rowF_st hf m (k + 1) (f k s) (by omega) (hf k s (by omega) h)
theorem tryT_st {L n o u : Nat} {w : Nat → Nat} (hw : ∀ i, i < n → 1 ≤ w i ∧ w i ≤ 1000) (hL : L ≤ 3) : ∀ (l : Nat) (t : Tr) (p q : Nat) (s : Bt), t.length + l = L → Pw t.length p → Pw t.length q → (∀ x ∈ t, x.1 < n ∧ x.2 < n) → StT L n s → StT L n (tryT o u n w l t p q s) := by
  intro l
  induction l with
  | zero =>
    intro t p q s hl hp hq ht hs
    rw [tryT_zero]
    exact hs.upd ⟨by omega, hp.1, hp.le (by omega), hq.1, hq.le (by omega), ht⟩
  | succ l ih =>
    intro t p q s hl hp hq ht hs
    rw [tryT_succ]
    refine rowF_st (n := n) (fun i s hi hs => ?_) n 0 s (by omega) hs
    refine rowF_st (n := n) (fun k s hk hs => ?_) n 0 s (by omega) hs
    unfold inF
    split
    · refine ih _ _ _ _ (by simp; omega) ?_ ?_ ?_ hs
      · rw [List.length_append]; exact hp.mul (hw i hi).1 (hw i hi).2
      · rw [List.length_append]; exact hq.mul (hw k hk).1 (hw k hk).2
      · intro x hx
        rw [List.mem_append, List.mem_singleton] at hx
        rcases hx with hx | rfl
        · exact ht x hx
        · exact ⟨hi, hk⟩
    · exact hs
/-- A copy of a train. -/
theorem cloneU_any (at_ : Option Addr) (j ct : Nat) (t : Tr) (w : World) (h : IMx w at_ (rowsT t)) (hn : t.length = j) (h0 : j = 0 → at_ = none ∧ ct = 0) (hb : j ≤ 1000000) :
    Calls Try.prog 18 #[.slice at_ j ct] w (fun e w' => ∃ v, e = .returned v ∧ MI w' w.heap.size v (rowsT t) ∧ Below w.heap.size w w') := by
  rcases Nat.eq_zero_or_pos j with hj | hj
  · obtain ⟨rfl, rfl⟩ := h0 hj
    subst hj
    have ht : t = [] := List.length_eq_zero_iff.1 hn
    subst ht
    exact (cloneR_nil w).mono fun e w' ⟨he, hw⟩ => by
      subst hw
      exact ⟨_, he, MI.nil _ _, Below.refl _ _⟩
  · have hl : (rowsT t).length = j := by rw [rowsT_length]; exact hn
    obtain ⟨b, o', a, c, ha, _⟩ := h.row (i := 0) (List.getElem?_eq_getElem (by omega))
    subst ha
    exact cloneR_some _ j ct (rowsT t) w h hl hj hb
theorem cmpGT (ao bo' : Option Addr) (c d : Nat) (x y i k : Nat) (w : World) (h1 : IZ w ao [(x : Int), (y : Int)]) (h2 : IZ w bo' [(i : Int), (k : Int)]) (h : i < x) :
    Calls Try.prog 19 #[.slice ao 2 c, .slice bo' 2 d] w (fun e w' => ∃ z : Int, e = .returned (.int .i64 z) ∧ 0 < z ∧ Below w.heap.size w w') :=
  (compareE_any ao bo' c d 2 _ _ w h1 h2 rfl rfl (by omega)).mono fun e w' ⟨z, he, hz, hb⟩ => by
    have hlt : [(i : Int), (k : Int)] < [(x : Int), (y : Int)] := List.Lex.rel (by omega)
    refine ⟨z, he, ?_, hb⟩
    rcases hz with ⟨_, h⟩ | ⟨h, _⟩ | ⟨_, h⟩
    · exact absurd hlt (List.lt_asymm h)
    · exact h
    · rw [h] at hlt; exact absurd hlt (List.lt_irrefl _)
theorem cmpLT (ao bo' : Option Addr) (c d : Nat) (x y i k : Nat) (w : World) (h1 : IZ w ao [(x : Int), (y : Int)]) (h2 : IZ w bo' [(i : Int), (k : Int)]) (h : x < i) :
    Calls Try.prog 19 #[.slice ao 2 c, .slice bo' 2 d] w (fun e w' => ∃ z : Int, e = .returned (.int .i64 z) ∧ z < 0 ∧ Below w.heap.size w w') :=
  (compareE_any ao bo' c d 2 _ _ w h1 h2 rfl rfl (by omega)).mono fun e w' ⟨z, he, hz, hb⟩ => by
    have hlt : [(x : Int), (y : Int)] < [(i : Int), (k : Int)] := List.Lex.rel (by omega)
    refine ⟨z, he, ?_, hb⟩
    rcases hz with ⟨h, _⟩ | ⟨_, h⟩ | ⟨_, h⟩
    · exact h
    · exact absurd hlt (List.lt_asymm h)
    · rw [h] at hlt; exact absurd hlt (List.lt_irrefl _)
theorem iz_pair {w : World} (i k : Int) : IZ (w.alloc (Obj.cells #[.int .i64 i, .int .i64 k] 3)) (some ⟨w.heap.size, 0, none⟩) [i, k] := fun m x hx => by
  refine ⟨_, 0, rfl, ?_⟩
  rw [al_newT rfl]
  rcases m with _ | _ | m
  · simp at hx ⊢; exact hx
  · simp at hx ⊢; exact hx
  · simp at hx
theorem lastOk_some {t : Tr} {j1 x y : Nat} (hl : t.length = j1 + 1) (h : t[j1]? = some (x, y)) (i : Nat) : lastOk t i = decide (x ≤ i) := by
  have e : t.getLast? = some (x, y) := by rw [List.getLast?_eq_getElem?, hl]; exact h
  unfold lastOk
  rw [e]
theorem lastOk_nil (i : Nat) : lastOk [] i = true := rfl
theorem ix_mem {t : Tr} {x y : Nat} (h : (x, y) ∈ t) : x ∈ ixT t := by
  unfold ixT
  rw [List.mem_flatMap]
  exact ⟨_, h, by simp⟩
set_option maxRecDepth 100000 in
set_option maxHeartbeats 51200000 in
theorem growT_any (o u n L : Nat) (ws : List Nat) (Q : Rat) (aw : Option Addr) (cw : Nat) (a1 : Option Addr) (c1 : Nat) (a2 : Option Addr) (c2 bp bt bb bo bw bg : Nat) (hN : NRd bp bt bb bo bw bg) (ho : o ≤ 1000000) (hu1 : 1 ≤ u) (hu : u ≤ 1000000) (hQ : ((o : Nat) : Rat) / ((u : Nat) : Rat) = Q) (hL1 : 1 ≤ L) (hL3 : L ≤ 3) (hws : ws.length = n) (hn : n ≤ 10) (hwr : ∀ x ∈ ws, 1 ≤ x ∧ x ≤ 1000) :
    ∀ (l : Nat) (t : Tr) (us p q j : Nat) (at_ : Option Addr) (ct : Nat) (s : Bt) (W : World), t.length = j → j + l = L → TRd W n L ws Q aw cw a1 c1 a2 c2 bp bt bb bo bw bg → IMx W at_ (rowsT t) → (∀ a, at_ = some a → a.block ≠ bb ∧ a.block ≠ bo) → (j = 0 → at_ = none ∧ ct = 0) → Bits n us (ixT t) → (∀ x ∈ t, x.1 < n ∧ x.2 < n) → Pw j p → Pw j q → StT L n s → BOK o u s W bb bo →
      Calls Try.prog 13 #[.slice at_ j ct, .int .i64 (us : Nat), .int .i64 (p : Nat), .int .i64 (q : Nat), ptr bp, ptr bt, ptr bb, ptr bo, ptr bw, ptr bg] W (GrowT o u (tryT o u n (wf ws) l t p q s) bb bo W) := by
  have hwsH := Lib.hid hws
  have hwrH := Lib.hid hwr
  have hNH := Lib.hid hN
  have hst := Lib.hid (fun l t p q s => tryT_st (L := L) (n := n) (o := o) (u := u) (w := wf ws) (fun i hi => wf_in hws hwr hi) hL3 l t p q s)
  have hleaf := Lib.hid (growT_leaf o u n L ws Q aw cw a1 c1 a2 c2 bp bt bb bo bw bg hN ho hu1 hu hQ hL1 hL3)
  have eg : ∀ args w, (callFunc 13 args).run Try.prog w = .ok (.enter 13 args) w := enters_of Try.func13 (by kernel_rfl) rfl
  clear hws hwr hN hQ
  intro l
  induction l with
  | zero =>
    intro t us p q j at_ ct s W hj hl hR hT hne h0 hBi ht hp hq hS hB
    obtain rfl : j = L := by omega
    have hrl : (rowsT t).length = j := by rw [rowsT_length]; exact hj
    obtain ⟨b, o', a, c, ha, _⟩ := hT.row (i := 0) (List.getElem?_eq_getElem (by omega))
    subst ha
    rw [tryT_zero]
    exact hleaf.out t us p q _ ct s W hR hT hj hp.1 (hp.le hL3) hq.1 (hq.le hL3) hS hB
  | succ l ih =>
    intro t us p q j at_ ct s W hj hl hR hT hne h0 hBi ht hp hq hS hB
    have hjL : j < L := by omega
    have hjne : ((j : Int) == (L : Int)) = false := by rw [beq_eq_false_iff_ne]; omega
    obtain ⟨R, hRR⟩ : ∃ R, tryT o u n (wf ws) (l + 1) t p q s = R := ⟨_, rfl⟩
    have hR0 : rowF (outF o u n (wf ws) l t p q) (n - 0) 0 s = R := by rw [← hRR, tryT_succ]; rfl
    obtain ⟨n1, n2⟩ := hB.no
    have hn1 := Lib.hid n1
    have hn2 := Lib.hid n2
    have hjH := Lib.hid hj
    have hlH := Lib.hid hl
    have hRd := Lib.hid hR
    have hTH := Lib.hid hT
    have hneH := Lib.hid hne
    have h0H := Lib.hid h0
    have hBiH := Lib.hid hBi
    have htH := Lib.hid ht
    have hpH := Lib.hid hp
    have hqH := Lib.hid hq
    have hSH := Lib.hid hS
    have hBH := Lib.hid hB
    have hR0H := Lib.hid hR0
    have ihH := Lib.hid ih
    have k1 := hR.cp
    have k2 := hR.cw
    rw [hRR]
    clear hj hl hR hT hne h0 hBi ht hp hq hS hB hR0 ih n1 n2 hRR
    go_enter Try.func13, Try.ntmps13
    go_wp2_with (fail)
    go_loopw [47] (fun iv wr => ∃ (i : Nat) (s' : Bt), iv = .int .i64 (i : Nat) ∧ i ≤ n ∧ Fr bb bo W wr ∧ BOK o u s' wr bb bo ∧ StT L n s' ∧ rowF (outF o u n (wf ws) l t p q) (n - i) i s' = R) (fun iv _ => n - (intOf iv).toNat)
    case atStart => exact ⟨0, s, rfl, by omega, Fr.refl _ _ _, hBH.out, hSH.out, hR0H.out⟩
    case round =>
      obtain ⟨i, s', rfl, hi, hf, hB, hS, hRi⟩ := hrel
      have hfH := Lib.hid hf
      have hB1 := Lib.hid hB
      have hS1 := Lib.hid hS
      have hRiH := Lib.hid hRi
      clear hf hB hS hRi k1 k2
      by_cases hin : i < n
      · have hiI : (i : Int) < (n : Int) := by omega
        have hi0 : (0 : Int) ≤ (i : Int) := by omega
        have hi64 : (i : Int) < 64 := by omega
        obtain ⟨R2, hR2⟩ : ∃ R2, outF o u n (wf ws) l t p q i s' = R2 := ⟨_, rfl⟩
        have hR2H : Hid (rowF (outF o u n (wf ws) l t p q) (n - (i + 1)) (i + 1) R2 = R) := by show _ = _; rw [← hR2, ← rowF_next hin]; exact hRiH.out
        have hIn0 : Hid (rowF (inF o u n (wf ws) l t p q i) (n - 0) 0 s' = R2) := by show _ = _; rw [← hR2]; rfl
        have k2 := (hRd.out.fr hNH.out hfH.out hn1.out hn2.out).cw
        clear hR2 hRiH
        go_wp2_with (fail)
        go_loopw [52] (fun kv wr' => ∃ (k : Nat) (s2 : Bt), kv = .int .i64 (k : Nat) ∧ k ≤ n ∧ Fr bb bo W wr' ∧ BOK o u s2 wr' bb bo ∧ StT L n s2 ∧ rowF (inF o u n (wf ws) l t p q i) (n - k) k s2 = R2) (fun kv _ => n - (intOf kv).toNat)
        case atStart => exact ⟨0, s', rfl, by omega, hfH.out, hB1.out, hS1.out, hIn0.out⟩
        case round =>
          obtain ⟨k, s2, rfl, hk, hf, hB, hS, hRk⟩ := hrel
          obtain ⟨w2, hw2⟩ : ∃ w2, w2 = wr := ⟨_, rfl⟩
          subst hw2
          have hf2 := Lib.hid hf
          have hB2 := Lib.hid hB
          have hS2 := Lib.hid hS
          have hRkH := Lib.hid hRk
          have hRd2 := Lib.hid (hRd.out.fr hNH.out hf hn1.out hn2.out)
          have hT2 := Lib.hid (hTH.out.fr hf hn1.out hn2.out hneH.out)
          clear hf hB hS hRk k2 hIn0
          by_cases hkn : k < n
          · have hkI : (k : Int) < (n : Int) := by omega
            have hk0 : (0 : Int) ≤ (k : Int) := by omega
            have hk64 : (k : Int) < 64 := by omega
            have husb : us < 1024 := by
              have h1 := hBiH.out.1
              have h2 : 2 ^ n ≤ 2 ^ 10 := Nat.pow_le_pow_right (by omega) hn
              omega
            obtain ⟨ok, hok⟩ : ∃ ok, okT t i k = ok := ⟨_, rfl⟩
            have hokH := Lib.hid hok
            go_upto_region 13 with (fail)
            obtain ⟨wA, hwA⟩ : ∃ wA, w2.alloc (Obj.cells #[.int .i64 (i : Nat), .int .i64 (k : Nat)] 3) = wA := ⟨_, rfl⟩
            have hPr := Lib.hid (show IZ wA (some ⟨w2.heap.size, 0, none⟩) [(i : Int), (k : Int)] by rw [← hwA]; exact iz_pair _ _)
            have hbA : Below w2.heap.size w2 wA := by rw [← hwA]; exact below_al (Below.refl _ _) _
            have hbAH := Lib.hid hbA
            have hTA := Lib.hid (hT2.out.below hbA)
            rw [hwA]
            obtain ⟨GP, hGP⟩ : ∃ GP, w2.heap.size = GP := ⟨_, rfl⟩
            rw [hGP] at hPr
            rw [hGP]
            have hGPl : GP < wA.heap.size := by rw [← hwA, ← hGP]; simp
            clear hwA hbA hok
            go_cut [90] from 58 to 90 (fun bv wx => bv = .bool (!ok) ∧ Below wA.heap.size wA wx)
            case first =>
              by_cases hik : i = k
              · have hokf := hokH.out
                obtain rfl : ok = false := by rw [← hokf]; unfold okT; simp [hik]
                have hikI : ((i : Int) == (k : Int)) = true := by rw [beq_iff_eq]; omega
                clear hokf
                go_wp2_with (fail)
                go_meet
                exact ⟨rfl, Below.refl _ _⟩
              · have hikI : ((i : Int) == (k : Int)) = false := by rw [beq_eq_false_iff_ne]; omega
                have hbiti := bit_at us i (by omega)
                have hbitk := bit_at us k (by omega)
                by_cases hiu : i ∈ ixT t
                · have hokf := hokH.out
                  obtain rfl : ok = false := by rw [← hokf]; exact okT_i (.inl hiu) k
                  have b1 : bits .and .i64 ((us : Int) / 2 ^ i) 1 = 1 := by rw [hbiti, (hBiH.out.2 i hin).2 hiu]; rfl
                  clear hokf hbiti hbitk hiu hik
                  go_wp2_with (fail)
                  go_meet
                  exact ⟨rfl, Below.refl _ _⟩
                · have hti : us.testBit i = false := by rw [← Bool.not_eq_true, hBiH.out.2 i hin]; exact hiu
                  have b1 : bits .and .i64 ((us : Int) / 2 ^ i) 1 = 0 := by rw [hbiti, hti]; rfl
                  by_cases hku : k ∈ ixT t
                  · have hokf := hokH.out
                    obtain rfl : ok = false := by rw [← hokf]; unfold okT; simp [hku]
                    have b2 : bits .and .i64 ((us : Int) / 2 ^ k) 1 = 1 := by rw [hbitk, (hBiH.out.2 k hkn).2 hku]; rfl
                    clear hokf hbiti hbitk hiu hti hku hik
                    go_wp2_with (fail)
                    go_meet
                    exact ⟨rfl, Below.refl _ _⟩
                  · have htk : us.testBit k = false := by rw [← Bool.not_eq_true, hBiH.out.2 k hkn]; exact hku
                    have b2 : bits .and .i64 ((us : Int) / 2 ^ k) 1 = 0 := by rw [hbitk, htk]; rfl
                    rcases Nat.eq_zero_or_pos j with hj0 | hj0
                    · have hokf := hokH.out
                      have hte : t = [] := List.length_eq_zero_iff.1 (by rw [hjH.out]; exact hj0)
                      obtain rfl : ok = true := by rw [← hokf, hte]; unfold okT ixT lastOk; simp; exact fun h => hik h.symm
                      have hjB : decide ((0 : Int) < (j : Int)) = false := decide_eq_false (by omega)
                      have hjB2 : decide (0 < j) = false := decide_eq_false (by omega)
                      clear hokf hbiti hbitk hiu hti hku htk hik hte hj0
                      go_wp2_with (fail)
                      go_meet
                      exact ⟨rfl, Below.refl _ _⟩
                    · obtain ⟨j1, hj1⟩ : ∃ j1, j = j1 + 1 := ⟨j - 1, by omega⟩
                      have hlt1 : j1 < t.length := by rw [hjH.out]; omega
                      obtain ⟨⟨x, y⟩, hxy⟩ : ∃ z, t[j1]? = some z := ⟨_, List.getElem?_eq_getElem hlt1⟩
                      have hlast := lastOk_some (by rw [hjH.out, hj1]) hxy i
                      have hrow : (rowsT t)[j1]? = some [(x : Int), (y : Int)] := by unfold rowsT; rw [List.getElem?_map, hxy]; rfl
                      obtain ⟨b', o', a', c', hat, hcell, hc2, hIx⟩ := hTA.out.row hrow
                      have hcell2 : wA.cell? ⟨b', o' + j1, none⟩ = some (.slice a' 2 c') := hcell
                      have hxi : x ≠ i := fun e => hiu (by rw [← e]; exact ix_mem (List.mem_of_getElem? hxy))
                      have hIxH := Lib.hid hIx
                      have hj1I : (j : Int) - 1 = (j1 : Int) := by omega
                      have hj1l : (j1 : Int) < (j : Int) := by omega
                      have hj10 : (0 : Int) ≤ (j1 : Int) := by omega
                      have hjB : decide ((0 : Int) < (j : Int)) = true := decide_eq_true (by omega)
                      have hjB2 : decide (0 < j) = true := decide_eq_true hj0
                      have hatH := Lib.hid hat
                      by_cases hxl : i < x
                      · have hokf := hokH.out
                        obtain rfl : ok = false := by rw [← hokf]; exact okT_i (.inr (by rw [hlast]; exact decide_eq_false (by omega))) k
                        have hxlH := Lib.hid hxl
                        clear hokf hbiti hbitk hiu hti hku htk hik hj0 hlast hrow hcell hIx hxi hxl hxy hlt1 hj1
                        subst hat
                        go_wp2_with (go_at_call 19; (with_reducible refine (cmpGT a' (some ⟨GP, 0, none⟩) c' 2 x y i k _ hIxH.out hPr.out hxlH.out).mono ?_); rintro e w5 ⟨z, rfl, hz, hb⟩; have hzb : decide (0 < z) = true := decide_eq_true hz; have hb5 := Lib.hid hb; clear hb hz)
                        go_meet
                        exact ⟨rfl, hb5.out⟩
                      · have hokf := hokH.out
                        obtain rfl : ok = true := by rw [← hokf]; unfold okT; rw [hlast, decide_eq_true (show x ≤ i by omega)]; simp [hiu, hku]; exact fun h => hik h.symm
                        have hxlH := Lib.hid (show x < i by omega)
                        clear hokf hbiti hbitk hiu hti hku htk hik hj0 hlast hrow hcell hIx hxi hxl hxy hlt1 hj1
                        subst hat
                        go_wp2_with (go_at_call 19; (with_reducible refine (cmpLT a' (some ⟨GP, 0, none⟩) c' 2 x y i k _ hIxH.out hPr.out hxlH.out).mono ?_); rintro e w5 ⟨z, rfl, hz, hb⟩; have hzb : decide (0 < z) = false := decide_eq_false (by omega); have hb5 := Lib.hid hb; clear hb hz)
                        go_meet
                        exact ⟨rfl, hb5.out⟩
            case rest =>
            obtain ⟨rfl, hbx⟩ := hcut
            obtain ⟨wx, hwx⟩ : ∃ wx, wx = wc := ⟨_, rfl⟩
            subst hwx
            have hbx2 := Lib.hid (bseqT hbAH.out hbx)
            have hPx := Lib.hid (hPr.out.below hbx)
            have hGx : GP < wx.heap.size := Nat.lt_of_lt_of_le hGPl hbx.size
            have hTx := Lib.hid (hTA.out.below hbx)
            have hBx := Lib.hid (hB2.out.below hbx2.out)
            have hfx := Lib.hid (hf2.out.trans (Fr.of hbx2.out))
            clear hbx hPr hTA hbAH hGPl hT2 hB2
            cases ok with
            | false =>
              have hnx : Hid (rowF (inF o u n (wf ws) l t p q i) (n - (k + 1)) (k + 1) s2 = R2) := by show _ = _; have := hRkH.out; rw [rowF_next hkn, inF_no hokH.out] at this; exact this
              go_wp2_with (fail)
              go_roundw
              case rel => exact ⟨k + 1, s2, by go_num, by omega, hfx.out, hBx.out, hS2.out, hnx.out⟩
              case measure => simp [intOf]; omega
            | true =>
              obtain ⟨hi_, _, hk_, hki⟩ := okT_yes hokH.out
              have hRdx := hRd.out.fr hNH.out hfx.out hn1.out hn2.out
              have hpi := pow_in i (by omega)
              have hpi2 : IntKind.i64.wrap ((2 : Int) ^ i) = (2 : Int) ^ i := (IntWalk.i64_left _).trans hpi
              have hpk := pow_in k (by omega)
              have hpk2 : IntKind.i64.wrap ((2 : Int) ^ k) = (2 : Int) ^ k := (IntWalk.i64_left _).trans hpk
              have hor1 := or_bit us i (by omega) (by omega)
              obtain ⟨u1, hu1'⟩ : ∃ u1, us ||| 2 ^ i = u1 := ⟨_, rfl⟩
              have hBi1 : Bits n u1 (ixT t ++ [i]) := by rw [← hu1']; exact hBiH.out.snoc hin
              have hu1b : u1 < 1024 := by
                have h1 := hBi1.1
                have h2 : 2 ^ n ≤ 2 ^ 10 := Nat.pow_le_pow_right (by omega) hn
                omega
              have hor2 := or_bit u1 k (by omega) (by omega)
              obtain ⟨u2, hu2'⟩ : ∃ u2, u1 ||| 2 ^ k = u2 := ⟨_, rfl⟩
              have hBi2 : Hid (Bits n u2 (ixT (t ++ [(i, k)]))) := by show Bits _ _ _; rw [ixT_snoc, ← hu2']; exact hBi1.snoc hkn
              rw [hu1'] at hor1
              rw [hu2'] at hor2
              obtain ⟨wi, hwi⟩ : ∃ wi, wf ws i = wi := ⟨_, rfl⟩
              obtain ⟨wk, hwk⟩ : ∃ wk, wf ws k = wk := ⟨_, rfl⟩
              have hwiR := wf_in hwsH.out hwrH.out hin
              have hwkR := wf_in hwsH.out hwrH.out hkn
              obtain ⟨bz, oz, haz, ci⟩ := hRdx.iz _ _ (wf_get hwsH.out hin)
              obtain ⟨bz', oz', haz', ck⟩ := hRdx.iz _ _ (wf_get hwsH.out hkn)
              rw [hwi] at ci hwiR
              rw [hwk] at ck hwkR
              have hzz : bz' = bz ∧ oz' = oz := by
                rw [haz] at haz'
                injection haz' with h1
                injection h1 with h2 h3
                exact ⟨h2.symm, h3.symm⟩
              obtain ⟨rfl, rfl⟩ := hzz
              obtain ⟨p2, hp2⟩ : ∃ p2, p * wi = p2 := ⟨_, rfl⟩
              obtain ⟨q2, hq2⟩ : ∃ q2, q * wk = q2 := ⟨_, rfl⟩
              have hPw2 : Pw (j + 1) p2 := by rw [← hp2]; exact hpH.out.mul hwiR.1 hwiR.2
              have hQw2 : Pw (j + 1) q2 := by rw [← hq2]; exact hqH.out.mul hwkR.1 hwkR.2
              have hp2b := hPw2.le (by omega)
              have hq2b := hQw2.le (by omega)
              have hp2I : (p : Int) * (wi : Int) = (p2 : Int) := by rw [← Int.natCast_mul, hp2]
              have hq2I : (q : Int) * (wk : Int) = (q2 : Int) := by rw [← Int.natCast_mul, hq2]
              have hp2w : IntKind.i64.wrap (p2 : Int) = (p2 : Int) := by rw [IntKind.wrap_i64]; omega
              have hq2w : IntKind.i64.wrap (q2 : Int) = (q2 : Int) := by rw [IntKind.wrap_i64]; omega
              have hPwH := Lib.hid hPw2
              have hQwH := Lib.hid hQw2
              have hnx : Hid (rowF (inF o u n (wf ws) l t p q i) (n - (k + 1)) (k + 1) (tryT o u n (wf ws) l (t ++ [(i, k)]) p2 q2 s2) = R2) := by show _ = _; have := hRkH.out; rw [rowF_next hkn, inF_yes hokH.out, hwi, hwk, hp2, hq2] at this; exact this
              have ht2 : Hid (∀ x ∈ t ++ [(i, k)], x.1 < n ∧ x.2 < n) := fun x hx => by
                rw [List.mem_append, List.mem_singleton] at hx
                rcases hx with hx | rfl
                · exact htH.out x hx
                · exact ⟨hin, hkn⟩
              have hl2 : Hid ((t ++ [(i, k)]).length = j + 1) := by show _ = _; rw [List.length_append, hjH.out]; rfl
              have hS3 : Hid (StT L n (tryT o u n (wf ws) l (t ++ [(i, k)]) p2 q2 s2)) := hst.out l _ _ _ _ (by rw [hl2.out]; have := hlH.out; omega) (by rw [hl2.out]; exact hPw2) (by rw [hl2.out]; exact hQw2) ht2.out hS2.out
              have g0 := hRdx.cg
              have g1 := hRdx.cw
              have hRx := Lib.hid hRdx
              have hB0 : Below wx.heap.size wx wx := Below.refl _ _
              have hjH2 := Lib.hid hjH.out
              have hrl : Hid ((rowsT t).length = j) := by show _ = _; rw [rowsT_length]; exact hjH.out
              have hcl := Lib.hid (fun W h => cloneU_any at_ j ct t W h hjH.out h0H.out (by omega))
              have hlo := Lib.hid hBx.out.lt
              have hazH := Lib.hid haz
              have hj1 : ((j : Int) + 1) = ((j + 1 : Nat) : Int) := by omega
              clear hRkH hokH hi_ hk_ hki hRdx hu1' hu2' hBi1 hwi hwk hwiR hwkR hp2 hq2 hPw2 hQw2
              subst haz
              go_upto_region 14 with (fail)
              have hupS : Hid (∀ w', Below wx.heap.size wx w' → w'.cell? ⟨bg, 0, none⟩ = some (.func (.func 13) #[] #[ptr bp, ptr bt, ptr bb, ptr bo, ptr bw, ptr bg]) ∧ w'.cell? ⟨bw, 0, none⟩ = some (.slice (some ⟨bz', oz', none⟩) n cw) ∧ w'.cell? ⟨bz', oz' + i, none⟩ = some (.int .i64 (wi : Nat)) ∧ w'.cell? ⟨bz', oz' + k, none⟩ = some (.int .i64 (wk : Nat))) := fun w' hW => ⟨Below.cellAt hW (Nat.le_refl _) g0, Below.cellAt hW (Nat.le_refl _) g1, Below.cellAt hW (Nat.le_refl _) ci, Below.cellAt hW (Nat.le_refl _) ck⟩
              have hupF : Hid (∀ w', Fr bb bo wx w' → w'.cell? ⟨bg, 0, none⟩ = some (.func (.func 13) #[] #[ptr bp, ptr bt, ptr bb, ptr bo, ptr bw, ptr bg]) ∧ w'.cell? ⟨bw, 0, none⟩ = some (.slice (some ⟨bz', oz', none⟩) n cw) ∧ w'.cell? ⟨bz', oz' + i, none⟩ = some (.int .i64 (wi : Nat)) ∧ w'.cell? ⟨bz', oz' + k, none⟩ = some (.int .i64 (wk : Nat))) := fun w' hW => ⟨hW.cell g0 hNH.out.gb hNH.out.gq, hW.cell g1 hNH.out.wb hNH.out.wo, hW.icell hBx.out.no.1 hBx.out.no.2 ci, hW.icell hBx.out.no.1 hBx.out.no.2 ck⟩
              -- tail S: fun w' => w'.cell? ⟨bg, 0, none⟩ = some (.func (.func 13) #[] #[ptr bp, ptr bt, ptr bb, ptr bo, ptr bw, ptr bg]) ∧ w'.cell? ⟨bw, 0, none⟩ = some (.slice (some ⟨bz', oz', none⟩) n cw) ∧ w'.cell? ⟨bz', oz' + i, none⟩ = some (.int .i64 (wi : Nat)) ∧ w'.cell? ⟨bz', oz' + k, none⟩ = some (.int .i64 (wk : Nat))
              -- tail s0: hupS.out _ (Below.drew hB0)
              -- tail gr 0 1 3 6 7 8 9 10 11 12 13 14 15 16 17 18 19 20 21 22 23 24 x
              refine wp_region_tail (fun w' => w'.cell? ⟨bg, 0, none⟩ = some (.func (.func 13) #[] #[ptr bp, ptr bt, ptr bb, ptr bo, ptr bw, ptr bg]) ∧ w'.cell? ⟨bw, 0, none⟩ = some (.slice (some ⟨bz', oz', none⟩) n cw) ∧ w'.cell? ⟨bz', oz' + i, none⟩ = some (.int .i64 (wi : Nat)) ∧ w'.cell? ⟨bz', oz' + k, none⟩ = some (.int .i64 (wk : Nat))) (fun j => decide (1000 ≤ j)) (by kernel_rfl) (hupS.out _ (Below.drew hB0)) (fun hHeld => ?_)
              refine wpAnyT_take (i := 0) (oi := ?oigr0) (v := ?vgr0) ?hogr0 (by kernel_rfl) (by kernel_rfl) (by kernel_rfl) (by kernel_rfl) ?hqgr0 (Or.inl ⟨?hwgr0, ?hygr0⟩) (by assumption) ?_
              case hogr0 => rfl
              case hwgr0 => rfl
              case hygr0 => (intro w hSw; (try dsimp only at hSw); go_split_ands; go_simp; (try (with_reducible rfl)))
              case hqgr0 => exact fun _ _ _ h => h
              simp only [Act.put, List.getElem_toArray, List.getElem_cons_zero, List.setIfInBounds_toArray, List.set_cons_zero, List.set_cons_succ]
              refine wpAnyT_take (i := 1) (oi := ?oigr1) (v := ?vgr1) ?hogr1 (by kernel_rfl) (by kernel_rfl) (by kernel_rfl) (by kernel_rfl) ?hqgr1 (Or.inl ⟨?hwgr1, ?hygr1⟩) (by assumption) ?_
              case hogr1 => rfl
              case hwgr1 => rfl
              case hygr1 => (intro w hSw; (try dsimp only at hSw); go_split_ands; go_simp; (try (with_reducible rfl)))
              case hqgr1 => exact fun _ _ _ h => h
              simp only [Act.put, List.getElem_toArray, List.getElem_cons_succ, List.getElem_cons_zero, List.setIfInBounds_toArray, List.set_cons_zero, List.set_cons_succ]
              refine wpAnyT_take (i := 3) (oi := ?oigr3) (v := ?vgr3) ?hogr3 (by kernel_rfl) (by kernel_rfl) (by kernel_rfl) (by kernel_rfl) ?hqgr3 (Or.inl ⟨?hwgr3, ?hygr3⟩) (by assumption) ?_
              case hogr3 => rfl
              case hwgr3 => rfl
              case hygr3 => (intro w hSw; (try dsimp only at hSw); go_split_ands; go_simp; (try (with_reducible rfl)))
              case hqgr3 => exact fun _ _ _ h => h
              simp only [Act.put, List.getElem_toArray, List.getElem_cons_succ, List.getElem_cons_zero, List.setIfInBounds_toArray, List.set_cons_zero, List.set_cons_succ]
              refine wpAnyT_take (i := 6) (oi := ?oigr6) (v := ?vgr6) ?hogr6 (by kernel_rfl) (by kernel_rfl) (by kernel_rfl) (by kernel_rfl) ?hqgr6 (Or.inl ⟨?hwgr6, ?hygr6⟩) (by assumption) ?_
              case hogr6 => rfl
              case hwgr6 => rfl
              case hygr6 => (intro w hSw; (try dsimp only at hSw); go_split_ands; go_simp; (try (with_reducible rfl)))
              case hqgr6 => exact fun _ _ _ h => h
              simp only [Act.put, List.getElem_toArray, List.getElem_cons_succ, List.getElem_cons_zero, List.setIfInBounds_toArray, List.set_cons_zero, List.set_cons_succ]
              refine wpAnyT_take (i := 7) (oi := ?oigr7) (v := ?vgr7) ?hogr7 (by kernel_rfl) (by kernel_rfl) (by kernel_rfl) (by kernel_rfl) ?hqgr7 (Or.inl ⟨?hwgr7, ?hygr7⟩) (by assumption) ?_
              case hogr7 => rfl
              case hwgr7 => rfl
              case hygr7 => (intro w hSw; (try dsimp only at hSw); go_split_ands; go_simp; (try (with_reducible rfl)))
              case hqgr7 => exact fun _ _ _ h => h
              simp only [Act.put, List.getElem_toArray, List.getElem_cons_succ, List.getElem_cons_zero, List.setIfInBounds_toArray, List.set_cons_zero, List.set_cons_succ]
              refine wpAnyT_take (i := 8) (oi := ?oigr8) (v := ?vgr8) ?hogr8 (by kernel_rfl) (by kernel_rfl) (by kernel_rfl) (by kernel_rfl) ?hqgr8 (Or.inl ⟨?hwgr8, ?hygr8⟩) (by assumption) ?_
              case hogr8 => rfl
              case hwgr8 => rfl
              case hygr8 => (intro w hSw; (try dsimp only at hSw); go_split_ands; go_simp; (try (with_reducible rfl)))
              case hqgr8 => exact fun _ _ _ h => h
              simp only [Act.put, List.getElem_toArray, List.getElem_cons_succ, List.getElem_cons_zero, List.setIfInBounds_toArray, List.set_cons_zero, List.set_cons_succ]
              refine wpAnyT_take (i := 9) (oi := ?oigr9) (v := ?vgr9) ?hogr9 (by kernel_rfl) (by kernel_rfl) (by kernel_rfl) (by kernel_rfl) ?hqgr9 (Or.inl ⟨?hwgr9, ?hygr9⟩) (by assumption) ?_
              case hogr9 => rfl
              case hwgr9 => rfl
              case hygr9 => (intro w hSw; (try dsimp only at hSw); go_split_ands; go_simp; (try (with_reducible rfl)))
              case hqgr9 => exact fun _ _ _ h => h
              simp only [Act.put, List.getElem_toArray, List.getElem_cons_succ, List.getElem_cons_zero, List.setIfInBounds_toArray, List.set_cons_zero, List.set_cons_succ]
              refine wpAnyT_take (i := 10) (oi := ?oigr10) (v := ?vgr10) ?hogr10 (by kernel_rfl) (by kernel_rfl) (by kernel_rfl) (by kernel_rfl) ?hqgr10 (Or.inl ⟨?hwgr10, ?hygr10⟩) (by assumption) ?_
              case hogr10 => rfl
              case hwgr10 => rfl
              case hygr10 => (intro w hSw; (try dsimp only at hSw); go_split_ands; go_simp; (try (with_reducible rfl)))
              case hqgr10 => exact fun _ _ _ h => h
              simp only [Act.put, List.getElem_toArray, List.getElem_cons_succ, List.getElem_cons_zero, List.setIfInBounds_toArray, List.set_cons_zero, List.set_cons_succ]
              refine wpAnyT_take (i := 11) (oi := ?oigr11) (v := ?vgr11) ?hogr11 (by kernel_rfl) (by kernel_rfl) (by kernel_rfl) (by kernel_rfl) ?hqgr11 (Or.inl ⟨?hwgr11, ?hygr11⟩) (by assumption) ?_
              case hogr11 => rfl
              case hwgr11 => rfl
              case hygr11 => (intro w hSw; (try dsimp only at hSw); go_split_ands; go_simp; (try (with_reducible rfl)))
              case hqgr11 => exact fun _ _ _ h => h
              simp only [Act.put, List.getElem_toArray, List.getElem_cons_succ, List.getElem_cons_zero, List.setIfInBounds_toArray, List.set_cons_zero, List.set_cons_succ]
              refine wpAnyT_take (i := 12) (oi := ?oigr12) (v := ?vgr12) ?hogr12 (by kernel_rfl) (by kernel_rfl) (by kernel_rfl) (by kernel_rfl) ?hqgr12 (Or.inl ⟨?hwgr12, ?hygr12⟩) (by assumption) ?_
              case hogr12 => rfl
              case hwgr12 => rfl
              case hygr12 => (intro w hSw; (try dsimp only at hSw); go_split_ands; go_simp; (try (with_reducible rfl)))
              case hqgr12 => exact fun _ _ _ h => h
              simp only [Act.put, List.getElem_toArray, List.getElem_cons_succ, List.getElem_cons_zero, List.setIfInBounds_toArray, List.set_cons_zero, List.set_cons_succ]
              refine wpAnyT_take (i := 13) (oi := ?oigr13) (v := ?vgr13) ?hogr13 (by kernel_rfl) (by kernel_rfl) (by kernel_rfl) (by kernel_rfl) ?hqgr13 (Or.inl ⟨?hwgr13, ?hygr13⟩) (by assumption) ?_
              case hogr13 => rfl
              case hwgr13 => rfl
              case hygr13 => (intro w hSw; (try dsimp only at hSw); go_split_ands; go_simp; (try (with_reducible rfl)))
              case hqgr13 => exact fun _ _ _ h => h
              simp only [Act.put, List.getElem_toArray, List.getElem_cons_succ, List.getElem_cons_zero, List.setIfInBounds_toArray, List.set_cons_zero, List.set_cons_succ]
              refine wpAnyT_take (i := 14) (oi := ?oigr14) (v := ?vgr14) ?hogr14 (by kernel_rfl) (by kernel_rfl) (by kernel_rfl) (by kernel_rfl) ?hqgr14 (Or.inl ⟨?hwgr14, ?hygr14⟩) (by assumption) ?_
              case hogr14 => rfl
              case hwgr14 => rfl
              case hygr14 => (intro w hSw; (try dsimp only at hSw); go_split_ands; go_simp; (try (with_reducible rfl)))
              case hqgr14 => exact fun _ _ _ h => h
              simp only [Act.put, List.getElem_toArray, List.getElem_cons_succ, List.getElem_cons_zero, List.setIfInBounds_toArray, List.set_cons_zero, List.set_cons_succ]
              refine wpAnyT_take (i := 15) (oi := ?oigr15) (v := ?vgr15) ?hogr15 (by kernel_rfl) (by kernel_rfl) (by kernel_rfl) (by kernel_rfl) ?hqgr15 (Or.inl ⟨?hwgr15, ?hygr15⟩) (by assumption) ?_
              case hogr15 => rfl
              case hwgr15 => rfl
              case hygr15 => (intro w hSw; (try dsimp only at hSw); go_split_ands; go_simp; (try (with_reducible rfl)))
              case hqgr15 => exact fun _ _ _ h => h
              simp only [Act.put, List.getElem_toArray, List.getElem_cons_succ, List.getElem_cons_zero, List.setIfInBounds_toArray, List.set_cons_zero, List.set_cons_succ]
              refine wpAnyT_take (i := 16) (oi := ?oigr16) (v := ?vgr16) ?hogr16 (by kernel_rfl) (by kernel_rfl) (by kernel_rfl) (by kernel_rfl) ?hqgr16 (Or.inl ⟨?hwgr16, ?hygr16⟩) (by assumption) ?_
              case hogr16 => rfl
              case hwgr16 => rfl
              case hygr16 => (intro w hSw; (try dsimp only at hSw); go_split_ands; go_simp; (try (with_reducible rfl)))
              case hqgr16 => exact fun _ _ _ h => h
              simp only [Act.put, List.getElem_toArray, List.getElem_cons_succ, List.getElem_cons_zero, List.setIfInBounds_toArray, List.set_cons_zero, List.set_cons_succ]
              refine wpAnyT_take (i := 17) (oi := ?oigr17) (v := ?vgr17) ?hogr17 (by kernel_rfl) (by kernel_rfl) (by kernel_rfl) (by kernel_rfl) ?hqgr17 (Or.inl ⟨?hwgr17, ?hygr17⟩) (by assumption) ?_
              case hogr17 => rfl
              case hwgr17 => rfl
              case hygr17 => (intro w hSw; (try dsimp only at hSw); go_split_ands; go_simp; (try (with_reducible rfl)))
              case hqgr17 => exact fun _ _ _ h => h
              simp only [Act.put, List.getElem_toArray, List.getElem_cons_succ, List.getElem_cons_zero, List.setIfInBounds_toArray, List.set_cons_zero, List.set_cons_succ]
              refine wpAnyT_take (i := 18) (oi := ?oigr18) (v := ?vgr18) ?hogr18 (by kernel_rfl) (by kernel_rfl) (by kernel_rfl) (by kernel_rfl) ?hqgr18 (Or.inl ⟨?hwgr18, ?hygr18⟩) (by assumption) ?_
              case hogr18 => rfl
              case hwgr18 => rfl
              case hygr18 => (intro w hSw; (try dsimp only at hSw); go_split_ands; go_simp; (try (with_reducible rfl)))
              case hqgr18 => exact fun _ _ _ h => h
              simp only [Act.put, List.getElem_toArray, List.getElem_cons_succ, List.getElem_cons_zero, List.setIfInBounds_toArray, List.set_cons_zero, List.set_cons_succ]
              refine wpAnyT_take (i := 19) (oi := ?oigr19) (v := ?vgr19) ?hogr19 (by kernel_rfl) (by kernel_rfl) (by kernel_rfl) (by kernel_rfl) ?hqgr19 (Or.inl ⟨?hwgr19, ?hygr19⟩) (by assumption) ?_
              case hogr19 => rfl
              case hwgr19 => rfl
              case hygr19 => (intro w hSw; (try dsimp only at hSw); go_split_ands; go_simp; (try (with_reducible rfl)))
              case hqgr19 => exact fun _ _ _ h => h
              simp only [Act.put, List.getElem_toArray, List.getElem_cons_succ, List.getElem_cons_zero, List.setIfInBounds_toArray, List.set_cons_zero, List.set_cons_succ]
              refine wpAnyT_take (i := 20) (oi := ?oigr20) (v := ?vgr20) ?hogr20 (by kernel_rfl) (by kernel_rfl) (by kernel_rfl) (by kernel_rfl) ?hqgr20 (Or.inl ⟨?hwgr20, ?hygr20⟩) (by assumption) ?_
              case hogr20 => rfl
              case hwgr20 => rfl
              case hygr20 => (intro w hSw; (try dsimp only at hSw); go_split_ands; go_simp; (try (with_reducible rfl)))
              case hqgr20 => exact fun _ _ _ h => h
              simp only [Act.put, List.getElem_toArray, List.getElem_cons_succ, List.getElem_cons_zero, List.setIfInBounds_toArray, List.set_cons_zero, List.set_cons_succ]
              refine wpAnyT_take (i := 21) (oi := ?oigr21) (v := ?vgr21) ?hogr21 (by kernel_rfl) (by kernel_rfl) (by kernel_rfl) (by kernel_rfl) ?hqgr21 (Or.inl ⟨?hwgr21, ?hygr21⟩) (by assumption) ?_
              case hogr21 => rfl
              case hwgr21 => rfl
              case hygr21 => (intro w hSw; (try dsimp only at hSw); go_split_ands; go_simp; (try (with_reducible rfl)))
              case hqgr21 => exact fun _ _ _ h => h
              simp only [Act.put, List.getElem_toArray, List.getElem_cons_succ, List.getElem_cons_zero, List.setIfInBounds_toArray, List.set_cons_zero, List.set_cons_succ]
              refine wpAnyT_take (i := 22) (oi := ?oigr22) (v := ?vgr22) ?hogr22 (by kernel_rfl) (by kernel_rfl) (by kernel_rfl) (by kernel_rfl) ?hqgr22 (Or.inl ⟨?hwgr22, ?hygr22⟩) (by assumption) ?_
              case hogr22 => rfl
              case hwgr22 => rfl
              case hygr22 => (intro w hSw; (try dsimp only at hSw); go_split_ands; go_simp; (try (with_reducible rfl)))
              case hqgr22 => exact fun _ _ _ h => h
              simp only [Act.put, List.getElem_toArray, List.getElem_cons_succ, List.getElem_cons_zero, List.setIfInBounds_toArray, List.set_cons_zero, List.set_cons_succ]
              refine wpAnyT_take (i := 23) (oi := ?oigr23) (v := ?vgr23) ?hogr23 (by kernel_rfl) (by kernel_rfl) (by kernel_rfl) (by kernel_rfl) ?hqgr23 (Or.inl ⟨?hwgr23, ?hygr23⟩) (by assumption) ?_
              case hogr23 => rfl
              case hwgr23 => rfl
              case hygr23 => (intro w hSw; (try dsimp only at hSw); go_split_ands; go_simp; (try (with_reducible rfl)))
              case hqgr23 => exact fun _ _ _ h => h
              simp only [Act.put, List.getElem_toArray, List.getElem_cons_succ, List.getElem_cons_zero, List.setIfInBounds_toArray, List.set_cons_zero, List.set_cons_succ]
              refine wpAnyT_take (i := 24) (oi := ?oigr24) (v := ?vgr24) ?hogr24 (by kernel_rfl) (by kernel_rfl) (by kernel_rfl) (by kernel_rfl) ?hqgr24 (Or.inl ⟨?hwgr24, ?hygr24⟩) (by assumption) ?_
              case hogr24 => rfl
              case hwgr24 => rfl
              case hygr24 => (intro w hSw; (try dsimp only at hSw); go_split_ands; go_simp; (try (with_reducible rfl)))
              case hqgr24 => exact fun _ _ _ h => h
              simp only [Act.put, List.getElem_toArray, List.getElem_cons_succ, List.getElem_cons_zero, List.setIfInBounds_toArray, List.set_cons_zero, List.set_cons_succ]
              -- tail end
              clear hHeld
              obtain ⟨w60, hw60⟩ : ∃ w60, w60 = wx.drew := ⟨_, rfl⟩
              rw [← hw60]
              have hq60 : Below wx.heap.size wx w60 := by rw [hw60]; exact Below.drew hB0
              clear hw60
              refine wpAnyT_twoR (i := 2) (j := 4) (oi := ?og2) (oj := ?og4) (by kernel_rfl) ?hg2 ?hg4 (fun K hK => ?_) (fun K hK => ?_)
              case hg2 => rfl
              case hg4 => rfl
              · rw [if_pos (by rfl)]
                go_simp
                go_at_call 18; (with_reducible refine (hcl.out _ (hTx.out.below hq60)).mono ?_); rintro e w7a ⟨v7a, rfl, hM, hb⟩
                have hq7a : Below wx.heap.size wx w7a := bseqT hq60 hb
                have hM7a := Lib.hid hM
                have hz7a : wx.heap.size ≤ w60.heap.size := hq60.size
                have hlt7a : w60.heap.size ≤ w7a.heap.size := hb.size
                clear hM
                clear hb
                (try go_wp2_with (fail))
                refine hK.out _ _ (fun _ => hupS.out _ hq7a) (fun hHeld => ?_)
                clear hHeld hK K
                refine wpAnyT_one (i := 4) (o := ?og4a) (by kernel_rfl) ?hg4a (fun K hK => ?_)
                case hg4a => rfl
                rw [if_pos (by rfl)]
                go_simp
                have hba : Below w7a.heap.size w7a (w7a.alloc (Obj.cells #[.slice (some ⟨GP, 0, none⟩) 2 2] 25)) := below_al (Below.refl _ _) _
                have hqa : Below wx.heap.size wx (w7a.alloc (Obj.cells #[.slice (some ⟨GP, 0, none⟩) 2 2] 25)) := bseqT hq7a hba
                have hMa : MI (w7a.alloc (Obj.cells #[.slice (some ⟨GP, 0, none⟩) 2 2] 25)) w60.heap.size v7a (rowsT t) := hM7a.out.below hba
                have hca : (w7a.alloc (Obj.cells #[.slice (some ⟨GP, 0, none⟩) 2 2] 25)).cell? ⟨w7a.heap.size, 0, none⟩ = some (.slice (some ⟨GP, 0, none⟩) 2 2) := by rw [al_newT rfl]; rfl
                have hsa : w60.heap.size ≤ (w7a.alloc (Obj.cells #[.slice (some ⟨GP, 0, none⟩) 2 2] 25)).heap.size := Nat.le_trans hlt7a hba.size
                refine hK.out _ _ (fun _ => hupS.out _ hqa) (fun hHeld => ?_)
                clear hHeld hK K
                refine wpAnyT_one (i := 5) (o := ?og5a) (by kernel_rfl) ?hg5a (fun K hK => ?_)
                case hg5a => rfl
                refine step_append_rowM rfl (.tmp 93) (.tmp 95) _ rfl Try.underlying26 w60.heap.size j v7a (rowsT t) [(i : Int), (k : Int)] (by rfl) hMa hrl.out w7a.heap.size (by rfl) (some ⟨GP, 0, none⟩) 2 2 (by omega) hsa hca rfl (by omega) (hPx.out.below hqa) ?_
                intro v8 w8 hM8 hg8 ho8
                have hq8 : Below wx.heap.size wx w8 := hqa.grown hg8 hqa.size (fun g hg => Nat.le_trans hz7a (MI.lt hMa g hg).1)
                have hlS : (rowsT t ++ [[(i : Int), (k : Int)]]).length = j + 1 := by rw [List.length_append, hrl.out]; rfl
                obtain ⟨g8, c8, hv8, hgl, _, hc8, hI8⟩ := hM8.headE (by rw [hlS]; omega)
                rw [hlS] at hv8 hc8
                subst hv8
                have hI8H := Lib.hid hI8
                have hgx : wx.heap.size ≤ g8 := Nat.le_trans hz7a hgl
                clear hM8 hg8 ho8 hI8 hgl hlS
                refine hK.out _ _ (fun _ => hupS.out _ hq8) (fun hHeld => ?_)
                clear hHeld hK K
                refine wpAnyT_one (i := 25) (o := ?og25a) (by kernel_rfl) ?hg25a (fun K hK => ?_)
                case hg25a => rfl
                rw [if_pos (by rfl)]
                go_simp
                go_at_call 13; go_loud (with_reducible refine (ihH.out (t ++ [(i, k)]) u2 p2 q2 (j + 1) (some ⟨g8, 0, none⟩) c8 s2 _ hl2.out (by have := hlH.out; omega) (hRx.out.fr hNH.out (Fr.of hq8) hBx.out.no.1 hBx.out.no.2) (by rw [rowsT_snoc]; exact hI8H.out) (fun a ha => by injection ha with ha; subst ha; have := hlo.out; exact ⟨by show g8 ≠ bb; omega, by show g8 ≠ bo; omega⟩) (fun h => by omega) hBi2.out ht2.out hPwH.out hQwH.out hS2.out (hBx.out.below hq8)).mono ?_); rintro e w9 ⟨rfl, hF9, hB9⟩
                have hF9H := Lib.hid ((Fr.of hq8).trans hF9)
                have hB9H := Lib.hid hB9
                clear hF9 hB9
                (try go_wp2_with (fail))
                refine hK.out _ _ (fun _ => hupF.out _ hF9H.out) (fun hHeld => ?_)
                clear hHeld hK K
                refine wpAnyT_done (by kernel_rfl) ?_ _
                go_wp2_with (fail)
                go_roundw
                case rel => exact ⟨k + 1, _, by go_num, by omega, hfx.out.trans hF9H.out, hB9H.out, hS3.out, hnx.out⟩
                case measure => simp [intOf]; omega
              · rw [if_pos (by rfl)]
                go_simp
                have hba : Below w60.heap.size w60 (w60.alloc (Obj.cells #[.slice (some ⟨GP, 0, none⟩) 2 2] 25)) := below_al (Below.refl _ _) _
                have hqa : Below wx.heap.size wx (w60.alloc (Obj.cells #[.slice (some ⟨GP, 0, none⟩) 2 2] 25)) := bseqT hq60 hba
                have hca : (w60.alloc (Obj.cells #[.slice (some ⟨GP, 0, none⟩) 2 2] 25)).cell? ⟨w60.heap.size, 0, none⟩ = some (.slice (some ⟨GP, 0, none⟩) 2 2) := by rw [al_newT rfl]; rfl
                refine hK.out _ _ (fun _ => hupS.out _ hqa) (fun hHeld => ?_)
                clear hHeld hK K
                refine wpAnyT_one (i := 2) (o := ?og2b) (by kernel_rfl) ?hg2b (fun K hK => ?_)
                case hg2b => rfl
                rw [if_pos (by rfl)]
                go_simp
                go_at_call 18; (with_reducible refine (hcl.out _ (hTx.out.below hqa)).mono ?_); rintro e w7b ⟨v7b, rfl, hM, hb⟩
                have hq7b : Below wx.heap.size wx w7b := bseqT hqa hb
                have hM7b := Lib.hid hM
                have hz7b : wx.heap.size ≤ (w60.alloc (Obj.cells #[.slice (some ⟨GP, 0, none⟩) 2 2] 25)).heap.size := hqa.size
                have hlt7b : (w60.alloc (Obj.cells #[.slice (some ⟨GP, 0, none⟩) 2 2] 25)).heap.size ≤ w7b.heap.size := hb.size
                clear hM
                have hcb : w7b.cell? ⟨w60.heap.size, 0, none⟩ = some (.slice (some ⟨GP, 0, none⟩) 2 2) := Below.cellAt hb (Nat.le_refl _) hca
                clear hb
                (try go_wp2_with (fail))
                refine hK.out _ _ (fun _ => hupS.out _ hq7b) (fun hHeld => ?_)
                clear hHeld hK K
                refine wpAnyT_one (i := 5) (o := ?og5b) (by kernel_rfl) ?hg5b (fun K hK => ?_)
                case hg5b => rfl
                refine step_append_rowM rfl (.tmp 93) (.tmp 95) _ rfl Try.underlying26 (w60.alloc (Obj.cells #[.slice (some ⟨GP, 0, none⟩) 2 2] 25)).heap.size j v7b (rowsT t) [(i : Int), (k : Int)] (by rfl) hM7b.out hrl.out w60.heap.size (by rfl) (some ⟨GP, 0, none⟩) 2 2 (by omega) hlt7b hcb rfl (by omega) (hPx.out.below hq7b) ?_
                intro v8 w8 hM8 hg8 ho8
                have hq8 : Below wx.heap.size wx w8 := hq7b.grown hg8 hq7b.size (fun g hg => Nat.le_trans hz7b (MI.lt hM7b.out g hg).1)
                have hlS : (rowsT t ++ [[(i : Int), (k : Int)]]).length = j + 1 := by rw [List.length_append, hrl.out]; rfl
                obtain ⟨g8, c8, hv8, hgl, _, hc8, hI8⟩ := hM8.headE (by rw [hlS]; omega)
                rw [hlS] at hv8 hc8
                subst hv8
                have hI8H := Lib.hid hI8
                have hgx : wx.heap.size ≤ g8 := Nat.le_trans hz7b hgl
                clear hM8 hg8 ho8 hI8 hgl hlS
                refine hK.out _ _ (fun _ => hupS.out _ hq8) (fun hHeld => ?_)
                clear hHeld hK K
                refine wpAnyT_one (i := 25) (o := ?og25b) (by kernel_rfl) ?hg25b (fun K hK => ?_)
                case hg25b => rfl
                rw [if_pos (by rfl)]
                go_simp
                go_at_call 13; go_loud (with_reducible refine (ihH.out (t ++ [(i, k)]) u2 p2 q2 (j + 1) (some ⟨g8, 0, none⟩) c8 s2 _ hl2.out (by have := hlH.out; omega) (hRx.out.fr hNH.out (Fr.of hq8) hBx.out.no.1 hBx.out.no.2) (by rw [rowsT_snoc]; exact hI8H.out) (fun a ha => by injection ha with ha; subst ha; have := hlo.out; exact ⟨by show g8 ≠ bb; omega, by show g8 ≠ bo; omega⟩) (fun h => by omega) hBi2.out ht2.out hPwH.out hQwH.out hS2.out (hBx.out.below hq8)).mono ?_); rintro e w9 ⟨rfl, hF9, hB9⟩
                have hF9H := Lib.hid ((Fr.of hq8).trans hF9)
                have hB9H := Lib.hid hB9
                clear hF9 hB9
                (try go_wp2_with (fail))
                refine hK.out _ _ (fun _ => hupF.out _ hF9H.out) (fun hHeld => ?_)
                clear hHeld hK K
                refine wpAnyT_done (by kernel_rfl) ?_ _
                go_wp2_with (fail)
                go_roundw
                case rel => exact ⟨k + 1, _, by go_num, by omega, hfx.out.trans hF9H.out, hB9H.out, hS3.out, hnx.out⟩
                case measure => simp [intOf]; omega
          · obtain rfl : n = k := by omega
            have hkI : ¬ (n : Int) < (n : Int) := by omega
            have hRe := hRkH.out
            rw [rowF_end (Nat.le_refl _)] at hRe
            subst hRe
            go_wp2_with (fail)
            go_roundw
            case rel => exact ⟨i + 1, s2, by go_num, by omega, hf2.out, hB2.out, hS2.out, hR2H.out⟩
            case measure => simp [intOf]; omega
      · obtain rfl : n = i := by omega
        have hiI : ¬ (n : Int) < (n : Int) := by omega
        have hRe := hRiH.out
        rw [rowF_end (Nat.le_refl _)] at hRe
        subst hRe
        go_wp2_with (fail)
        refine bodyPost_ret (results_none rfl _ _ _) rfl ?_
        exact ⟨rfl, hfH.out, hB1.out⟩
end Go.Proofs.Ytkecdjdggkpdpab

/- Walk of Train. -/
namespace Go.Proofs.Ytkecdjdggkpdpab
open Go Go.RowKit Go.Proofs

def trOk (o u k : Int) (m : Nat) (xs : List Int) : Bool := inL 1000000 [o, u] && decide (m ≤ 10) && inL 1000 xs && inL 3 [k]
theorem inLitE (most : Int) (l : List Int) (n : Nat) (b : Bool) (W : World) (hn : l.length = n) (hs : n ≤ 1000) (hb : inL most l = b) :
    Calls Try.prog 10 #[.int .i64 most, .slice (some ⟨W.heap.size, 0, none⟩) n n] (W.alloc (Obj.cells (l.map fun x => Value.int .i64 x).toArray 3)) (fun e w' => e = .returned (.bool b) ∧ Below W.heap.size W w') :=
  (inP_any _ n n most l b _ (izlit W l) hn (by omega) hb).mono fun e w' ⟨he, hb⟩ => ⟨he, bseqT (below_al (Below.refl _ _) _) hb⟩
section
attribute [local go_sem] undef
set_option maxHeartbeats 3200000 in
theorem trainP_bad (o u k : Int) (aw : Option Addr) (m cw : Nat) (xs : List Int) (w : World) (h : IZ w aw xs) (hm : xs.length = m) (hm2 : m ≤ 1000000) (hb : trOk o u k m xs = false) :
    Calls Try.prog 4 #[.int .i64 o, .int .i64 u, .slice aw m cw, .int .i64 k] w (fun e w' => e = .returned (.tuple #[.slice none 0 0, .int .i64 1]) ∧ Below w.heap.size w w') := by
  obtain ⟨b1, hb1⟩ : ∃ b, inL 1000000 [o, u] = b := ⟨_, rfl⟩
  obtain ⟨b3, hb3⟩ : ∃ b, inL 1000 xs = b := ⟨_, rfl⟩
  obtain ⟨b4, hb4⟩ : ∃ b, inL 3 [k] = b := ⟨_, rfl⟩
  have h1 : Hid (∀ W, Calls Try.prog 10 #[.int .i64 1000000, .slice (some ⟨W.heap.size, 0, none⟩) 2 2] (W.alloc (Obj.cells #[.int .i64 o, .int .i64 u] 3)) (fun e w' => e = .returned (.bool b1) ∧ Below W.heap.size W w')) := fun W => inLitE 1000000 [o, u] 2 b1 W rfl (by omega) hb1
  have h3 : Hid (∀ W, Below w.heap.size w W → Calls Try.prog 10 #[.int .i64 1000, .slice aw m cw] W (fun e w' => e = .returned (.bool b3) ∧ Below W.heap.size W w')) := fun W hW => inP_any aw m cw 1000 xs b3 W (h.below hW) hm hm2 hb3
  have h4 : Hid (∀ W, Calls Try.prog 10 #[.int .i64 3, .slice (some ⟨W.heap.size, 0, none⟩) 1 1] (W.alloc (Obj.cells #[.int .i64 k] 3)) (fun e w' => e = .returned (.bool b4) ∧ Below W.heap.size W w')) := fun W => inLitE 3 [k] 1 b4 W rfl (by omega) hb4
  have hcs : b1 = false ∨ (b1 = true ∧ 10 < m) ∨ (b1 = true ∧ ¬ 10 < m ∧ b3 = false) ∨ (b1 = true ∧ ¬ 10 < m ∧ b3 = true ∧ b4 = false) := by
    unfold trOk at hb
    rw [hb1, hb3, hb4] at hb
    cases b1
    · exact .inl rfl
    · by_cases h9 : 10 < m
      · exact .inr (.inl ⟨rfl, h9⟩)
      · cases b3
        · exact .inr (.inr (.inl ⟨rfl, h9, rfl⟩))
        · cases b4
          · exact .inr (.inr (.inr ⟨rfl, h9, rfl, rfl⟩))
          · simp at hb; omega
  obtain ⟨V, hV⟩ : ∃ V, V = (w.alloc (Obj.cells #[.slice aw m cw] 25)).alloc (Obj.cells #[.int .i64 k] 3) := ⟨_, rfl⟩
  have hbV : Below w.heap.size w V := by rw [hV]; exact below_al (below_al (Below.refl _ _) _) _
  have hup : Hid (∀ W, Below V.heap.size V W → W.cell? ⟨w.heap.size, 0, none⟩ = some (.slice aw m cw) ∧ W.cell? ⟨w.heap.size + 1, 0, none⟩ = some (.int .i64 k)) := fun W hW =>
    ⟨Below.cellAt hW (Nat.le_refl _) (by rw [hV]; exact Below.cellAt (below_al (Below.refl _ _) _) (Nat.le_refl _) (by rw [al_newT rfl]; rfl)), Below.cellAt hW (Nat.le_refl _) (by rw [hV, al_newT (by simp)]; rfl)⟩
  have hbVH := Lib.hid hbV
  clear hb hb1 hb3 hb4 h hm hbV
  rcases hcs with rfl | ⟨rfl, h9⟩ | ⟨rfl, h9, rfl⟩ | ⟨rfl, h9, rfl, rfl⟩
  all_goals (
    go_enter Try.func4, Try.ntmps4
    go_upto_region 1 with (fail)
    rw [← hV]
    clear hV
    (try have h9I : ¬ (10 : Int) < (m : Int) := (by omega))
    (try have h9J : (10 : Int) < (m : Int) := (by omega))
    go_wp2_with (first
      | (go_at_call 10; (with_reducible refine (h1.out _).mono ?_); rintro e w1 ⟨rfl, hb⟩; have hq1 := Lib.hid hb; obtain ⟨c1, c2⟩ := hup.out _ hb; clear hb)
      | (go_at_call 10; (with_reducible refine (h3.out _ (bseqT hbVH.out hq1.out)).mono ?_); rintro e w2 ⟨rfl, hb⟩; have hq2 := Lib.hid (bseqT hq1.out hb); obtain ⟨d1, d2⟩ := hup.out _ hq2.out; clear hb)
      | (go_at_call 10; (with_reducible refine (h4.out _).mono ?_); rintro e w3 ⟨rfl, hb⟩; have hq3 := Lib.hid (bseqT hq2.out hb); clear hb))
    go_ret2
    exact ⟨rfl, by first | exact bseqT hbVH.out hq3.out | exact bseqT hbVH.out hq2.out | exact bseqT hbVH.out hq1.out⟩)
end
theorem bseqT' {bb bc : Nat} {w w1 w2 : World} (h : Below w.heap.size w w1) (hf : Fr bb bc w1 w2) (h1 : w.heap.size ≤ bb) (h2 : w.heap.size ≤ bc) : Below w.heap.size w w2 := h.trans (hf.below h1 h2 h.size)
def resT (s : Bt) : Tr :=
  match s with
  | none => []
  | some (t, _, _) => t
def TrPost (s : Bt) (w : World) (e : Ending) (w' : World) : Prop := ∃ (a : Option Addr) (c : Nat), e = .returned (.tuple #[.slice a (resT s).length c, .int .i64 0]) ∧ IMx w' a (rowsT (resT s)) ∧ (resT s).length ≤ c ∧ Below w.heap.size w w'
theorem trOk_parts {o u k : Int} {m : Nat} {xs : List Int} (h : trOk o u k m xs = true) : inL 1000000 [o, u] = true ∧ m ≤ 10 ∧ inL 1000 xs = true ∧ inL 3 [k] = true := by
  unfold trOk at h
  simp only [Bool.and_eq_true, decide_eq_true_eq] at h
  exact ⟨h.1.1.1, h.1.1.2, h.1.2, h.2⟩
theorem trOk_nat {o u k : Int} {m : Nat} {xs : List Int} (h : trOk o u k m xs = true) : 1 ≤ o ∧ o ≤ 1000000 ∧ 1 ≤ u ∧ u ≤ 1000000 ∧ 1 ≤ k ∧ k ≤ 3 ∧ m ≤ 10 ∧ ∀ x ∈ xs, 1 ≤ x ∧ x ≤ 1000 := by
  obtain ⟨h1, h2, h3, h4⟩ := trOk_parts h
  have a1 := inL_iff.1 h1 o (by simp)
  have a2 := inL_iff.1 h1 u (by simp)
  have a4 := inL_iff.1 h4 k (by simp)
  exact ⟨a1.1, a1.2, a2.1, a2.2, a4.1, a4.2, h2, inL_iff.1 h3⟩
section
attribute [local go_sem] undef
set_option maxHeartbeats 3200000 in
theorem trainP_none (o u L : Nat) (aw : Option Addr) (m cw : Nat) (xs : List Int) (w : World) (h : IZ w aw xs) (hm : xs.length = m) (hok : trOk o u L m xs = true) (hlt : m < 2 * L) :
    Calls Try.prog 4 #[.int .i64 (o : Nat), .int .i64 (u : Nat), .slice aw m cw, .int .i64 (L : Nat)] w (fun e w' => e = .returned (.tuple #[.slice none 0 0, .int .i64 5]) ∧ Below w.heap.size w w') := by
  obtain ⟨hb1, hm10, hb3, hb4⟩ := trOk_parts hok
  have hnat := trOk_nat hok
  have h1 : Hid (∀ W, Calls Try.prog 10 #[.int .i64 1000000, .slice (some ⟨W.heap.size, 0, none⟩) 2 2] (W.alloc (Obj.cells #[.int .i64 (o : Nat), .int .i64 (u : Nat)] 3)) (fun e w' => e = .returned (.bool true) ∧ Below W.heap.size W w')) := fun W => inLitE 1000000 [(o : Int), (u : Int)] 2 true W rfl (by omega) hb1
  have h3 : Hid (∀ W, Below w.heap.size w W → Calls Try.prog 10 #[.int .i64 1000, .slice aw m cw] W (fun e w' => e = .returned (.bool true) ∧ Below W.heap.size W w')) := fun W hW => inP_any aw m cw 1000 xs true W (h.below hW) hm (by omega) hb3
  have h4 : Hid (∀ W, Calls Try.prog 10 #[.int .i64 3, .slice (some ⟨W.heap.size, 0, none⟩) 1 1] (W.alloc (Obj.cells #[.int .i64 (L : Nat)] 3)) (fun e w' => e = .returned (.bool true) ∧ Below W.heap.size W w')) := fun W => inLitE 3 [(L : Int)] 1 true W rfl (by omega) hb4
  obtain ⟨V, hV⟩ : ∃ V, V = (w.alloc (Obj.cells #[.slice aw m cw] 25)).alloc (Obj.cells #[.int .i64 (L : Nat)] 3) := ⟨_, rfl⟩
  have hbV : Below w.heap.size w V := by rw [hV]; exact below_al (below_al (Below.refl _ _) _) _
  have hup : Hid (∀ W, Below V.heap.size V W → W.cell? ⟨w.heap.size, 0, none⟩ = some (.slice aw m cw) ∧ W.cell? ⟨w.heap.size + 1, 0, none⟩ = some (.int .i64 (L : Nat))) := fun W hW =>
    ⟨Below.cellAt hW (Nat.le_refl _) (by rw [hV]; exact Below.cellAt (below_al (Below.refl _ _) _) (Nat.le_refl _) (by rw [al_newT rfl]; rfl)), Below.cellAt hW (Nat.le_refl _) (by rw [hV, al_newT (by simp)]; rfl)⟩
  have hbVH := Lib.hid hbV
  obtain ⟨L2, hL2⟩ : ∃ L2, 2 * L = L2 := ⟨_, rfl⟩
  have hL2I : (2 : Int) * (L : Int) = (L2 : Int) := by omega
  have hmI : (m : Int) < (L2 : Int) := by omega
  have hL3 : L ≤ 3 := by omega
  have h9I : ¬ (10 : Int) < (m : Int) := by omega
  clear hok hb1 hb3 hb4 h hm hbV hnat hlt hL2
  go_enter Try.func4, Try.ntmps4
  go_upto_region 1 with (fail)
  rw [← hV]
  clear hV
  go_wp2_with (first
    | (go_at_call 10; (with_reducible refine (h1.out _).mono ?_); rintro e w1 ⟨rfl, hb⟩; have hq1 := Lib.hid hb; obtain ⟨c1, c2⟩ := hup.out _ hb; clear hb)
    | (go_at_call 10; (with_reducible refine (h3.out _ (bseqT hbVH.out hq1.out)).mono ?_); rintro e w2 ⟨rfl, hb⟩; have hq2 := Lib.hid (bseqT hq1.out hb); obtain ⟨d1, d2⟩ := hup.out _ hq2.out; clear hb)
    | (go_at_call 10; (with_reducible refine (h4.out _).mono ?_); rintro e w3 ⟨rfl, hb⟩; have hq3 := Lib.hid (bseqT hq2.out hb); obtain ⟨d3, d4⟩ := hup.out _ hq3.out; clear hb))
  go_ret2
  exact ⟨rfl, bseqT hbVH.out hq3.out⟩
end
set_option maxRecDepth 100000 in
set_option maxHeartbeats 12800000 in
theorem trainP_good (o u L : Nat) (aw : Option Addr) (m cw : Nat) (ws : List Nat) (w : World) (h : IZ w aw (nzT ws)) (hm : ws.length = m) (hok : trOk o u L m (nzT ws) = true) (hge : 2 * L ≤ m) (R : Bt) (hR : tryT o u m (wf ws) L [] 1 1 none = R) :
    Calls Try.prog 4 #[.int .i64 (o : Nat), .int .i64 (u : Nat), .slice aw m cw, .int .i64 (L : Nat)] w (TrPost R w) := by
  have hmf : ∀ (fn : Fn) (first cap : Array Value) (w : World), (Instr.makeFunc fn first cap).run Try.prog w = .ok (.func fn first cap) w := fun _ _ _ _ => rfl
  have eg : ∀ args w, (callFunc 13 args).run Try.prog w = .ok (.enter 13 args) w := enters_of Try.func13 (by kernel_rfl) rfl
  have hzl : (nzT ws).length = m := by rw [nzT_length]; exact hm
  obtain ⟨hb1, hm10, hb3, hb4⟩ := trOk_parts hok
  obtain ⟨ho1, ho2, hu1, hu2, hk1, hk2, _, hwr⟩ := trOk_nat hok
  have hwr2 : ∀ x ∈ ws, 1 ≤ x ∧ x ≤ 1000 := fun x hx => by
    have := hwr (x : Int) (by unfold nzT; exact List.mem_map_of_mem hx)
    omega
  have h1 : Hid (∀ W, Calls Try.prog 10 #[.int .i64 1000000, .slice (some ⟨W.heap.size, 0, none⟩) 2 2] (W.alloc (Obj.cells #[.int .i64 (o : Nat), .int .i64 (u : Nat)] 3)) (fun e w' => e = .returned (.bool true) ∧ Below W.heap.size W w')) := fun W => inLitE 1000000 [(o : Int), (u : Int)] 2 true W rfl (by omega) hb1
  have h3 : Hid (∀ W, Below w.heap.size w W → Calls Try.prog 10 #[.int .i64 1000, .slice aw m cw] W (fun e w' => e = .returned (.bool true) ∧ Below W.heap.size W w')) := fun W hW => inP_any aw m cw 1000 (nzT ws) true W (h.below hW) hzl (by omega) hb3
  have h4 : Hid (∀ W, Calls Try.prog 10 #[.int .i64 3, .slice (some ⟨W.heap.size, 0, none⟩) 1 1] (W.alloc (Obj.cells #[.int .i64 (L : Nat)] 3)) (fun e w' => e = .returned (.bool true) ∧ Below W.heap.size W w')) := fun W => inLitE 3 [(L : Int)] 1 true W rfl (by omega) hb4
  obtain ⟨V, hV⟩ : ∃ V, V = (w.alloc (Obj.cells #[.slice aw m cw] 25)).alloc (Obj.cells #[.int .i64 (L : Nat)] 3) := ⟨_, rfl⟩
  have hbV : Below w.heap.size w V := by rw [hV]; exact below_al (below_al (Below.refl _ _) _) _
  have hVs : V.heap.size = w.heap.size + 2 := by rw [hV]; simp
  have hup : Hid (∀ W, Below V.heap.size V W → W.cell? ⟨w.heap.size, 0, none⟩ = some (.slice aw m cw) ∧ W.cell? ⟨w.heap.size + 1, 0, none⟩ = some (.int .i64 (L : Nat))) := fun W hW =>
    ⟨Below.cellAt hW (Nat.le_refl _) (by rw [hV]; exact Below.cellAt (below_al (Below.refl _ _) _) (Nat.le_refl _) (by rw [al_newT rfl]; rfl)), Below.cellAt hW (Nat.le_refl _) (by rw [hV, al_newT (by simp)]; rfl)⟩
  have hbVH := Lib.hid hbV
  have hVsH := Lib.hid hVs
  obtain ⟨L2, hL2⟩ : ∃ L2, 2 * L = L2 := ⟨_, rfl⟩
  have hL2I : (2 : Int) * (L : Int) = (L2 : Int) := by omega
  have hmI : ¬ (m : Int) < (L2 : Int) := by omega
  have hL3 : L ≤ 3 := by omega
  have h9I : ¬ (10 : Int) < (m : Int) := by omega
  obtain ⟨P, hP⟩ : ∃ P, ((o : Nat) : Rat) = P := ⟨_, rfl⟩
  obtain ⟨G, hG⟩ : ∃ G, ((u : Nat) : Rat) = G := ⟨_, rfl⟩
  obtain ⟨Q, hQ⟩ : ∃ Q, P / G = Q := ⟨_, rfl⟩
  have szP := Lib.hid (show Sz P by rw [← hP]; exact natR_sz (by omega))
  have szG := Lib.hid (show Sz G by rw [← hG]; exact natR_sz (by omega))
  have hrG := Lib.hid (show 0 < rn G by rw [← hG]; exact natR_rn (by omega))
  have hwp := Lib.hid (fun W => wholeE o P W (by omega) hP)
  have hwg := Lib.hid (fun W => wholeE u G W (by omega) hG)
  have hQH := Lib.hid hQ
  have hQQ : Hid (((o : Nat) : Rat) / ((u : Nat) : Rat) = Q) := by show _ = _; rw [← hQ, ← hP, ← hG]
  have hmH := Lib.hid hm
  have hH := Lib.hid h
  have hRH := Lib.hid hR
  have hwrH := Lib.hid hwr2
  clear hok hb1 hb3 hb4 h hm hbV hge hL2 hVs hzl hwr hwr2 hP hG hQ hR
  go_enter Try.func4, Try.ntmps4
  go_upto_region 1 with (fail)
  rw [← hV]
  clear hV
  go_upto_region 10 with (first
    | (go_at_call 10; (with_reducible refine (h1.out _).mono ?_); rintro e w1 ⟨rfl, hb⟩; have hq1 := Lib.hid hb; obtain ⟨c1, c2⟩ := hup.out _ hb; clear hb)
    | (go_at_call 10; (with_reducible refine (h3.out _ (bseqT hbVH.out hq1.out)).mono ?_); rintro e w2 ⟨rfl, hb⟩; have hq2 := Lib.hid (bseqT hq1.out hb); obtain ⟨d1, d2⟩ := hup.out _ hq2.out; clear hb)
    | (go_at_call 10; (with_reducible refine (h4.out _).mono ?_); rintro e w3 ⟨rfl, hb⟩; have hq3 := Lib.hid (bseqT hq2.out hb); obtain ⟨d3, d4⟩ := hup.out _ hq3.out; clear hb)
    | (go_at_call 11; (with_reducible refine (hwp.out _).mono ?_); rintro e w4 ⟨a4, c4, e4, f4, rfl, hm4, hb⟩; have hm4H := Lib.hid hm4; have hq4 := Lib.hid (bseqT hq3.out hb); clear hb hm4)
    | (go_at_call 11; (with_reducible refine (hwg.out _).mono ?_); rintro e w5 ⟨a5, c5, e5, f5, rfl, hm5, hb⟩; have hm5H := Lib.hid hm5; have hm45 := Lib.hid (hm4H.out.up hb); have hq5 := Lib.hid (bseqT hq4.out hb); clear hb hm5)
    | (go_at_call 12; (with_reducible refine (rdivE a4 c4 e4 f4 a5 c5 e5 f5 P G Q _ hm45.out hm5H.out szP.out szG.out hrG.out hQH.out).mono ?_); rintro e w6 ⟨a6, c6, e6, f6, rfl, hm6, hb⟩; have hm6H := Lib.hid hm6; have hq6 := Lib.hid (bseqT hq5.out hb); clear hb hm6))
  obtain ⟨N, hNe⟩ : ∃ N, w.heap.size = N := ⟨_, rfl⟩
  obtain ⟨M, hMe⟩ : ∃ M, w6.heap.size = M := ⟨_, rfl⟩
  obtain ⟨U1, hU1⟩ : ∃ V, V = w6.alloc (Obj.cells #[.bool (ng (rn Q)), .slice a6 (LI (rn Q)) c6, .bool (ng (rd Q)), .slice e6 (LI (rd Q)) f6] 51) := ⟨_, rfl⟩
  obtain ⟨U2, hU2⟩ : ∃ V, V = U1.alloc (Obj.cells #[.slice none 0 0] 26) := ⟨_, rfl⟩
  obtain ⟨U3, hU3⟩ : ∃ V, V = U2.alloc (Obj.cells #[.bool false, .slice none 0 0, .bool false, .slice none 0 0] 51) := ⟨_, rfl⟩
  rw [hNe, hMe]
  obtain ⟨U, hU⟩ : ∃ V, V = U3.alloc (Obj.cells #[.func (.func 13) #[] #[ptr (N + 1), ptr M, ptr (M + 1), ptr (M + 1 + 1), ptr N, ptr (M + 1 + 1 + 1)]] 54) := ⟨_, rfl⟩
  have s1 : U1.heap.size = M + 1 := by rw [hU1, ← hMe]; simp
  have s2 : U2.heap.size = M + 1 + 1 := by rw [hU2]; simp [s1]
  have s3 : U3.heap.size = M + 1 + 1 + 1 := by rw [hU3]; simp [s2]
  have q1 : Below w6.heap.size w6 U1 := by rw [hU1]; exact below_al (Below.refl _ _) _
  have q2 : Below U1.heap.size U1 U2 := by rw [hU2]; exact below_al (Below.refl _ _) _
  have q3 : Below U2.heap.size U2 U3 := by rw [hU3]; exact below_al (Below.refl _ _) _
  have q4 : Below U3.heap.size U3 U := by rw [hU]; exact below_al (Below.refl _ _) _
  have r1 : RB U1 M Q a6 c6 e6 f6 := by rw [hU1, ← hMe]; exact RB.new hm6H.out
  have r2 : Blk U2 (M + 1) 26 [.slice none 0 0] := by rw [hU2, ← s1]; exact World.alloc_heap_new U1 _
  have r3 : Blk U3 (M + 1 + 1) 51 [.bool false, .slice none 0 0, .bool false, .slice none 0 0] := by rw [hU3, ← s2]; exact World.alloc_heap_new U2 _
  have r4 : U.cell? ⟨M + 1 + 1 + 1, 0, none⟩ = some (.func (.func 13) #[] #[ptr (N + 1), ptr M, ptr (M + 1), ptr (M + 1 + 1), ptr N, ptr (M + 1 + 1 + 1)]) := by rw [hU, al_newT s3.symm]; rfl
  have rT := ((r1.up q2).up q3).up q4
  have hb1' : Blk U (M + 1) 26 [.slice none 0 0] := (r2.later q3).later q4
  have hb2' : Blk U (M + 1 + 1) 51 [.bool false, .slice none 0 0, .bool false, .slice none 0 0] := r3.later q4
  have hq6U : Below V.heap.size V U := bseqT hq6.out (bseqT q1 (bseqT q2 (bseqT q3 q4)))
  obtain ⟨g1, g2⟩ := hup.out _ hq6U
  rw [hNe] at g1 g2
  have hVN : V.heap.size = N + 2 := by rw [hVsH.out, hNe]
  have hNM : N + 2 ≤ M := by rw [← hVN, ← hMe]; exact hq6.out.size
  have hbU := Lib.hid (bseqT hbVH.out hq6U)
  have hTR : Hid (TRd U m L ws Q aw cw a6 c6 e6 f6 (N + 1) M (M + 1) (M + 1 + 1) N (M + 1 + 1 + 1)) :=
    ⟨g2, g1, r4, by rw [rT.blk.cell]; rfl, by rw [rT.blk.cell]; rfl, by rw [rT.blk.cell]; rfl, by rw [rT.blk.cell]; rfl, rT.rm, hH.out.below hbU.out⟩
  have hNR : Hid (NRd (N + 1) M (M + 1) (M + 1 + 1) N (M + 1 + 1 + 1)) := by
    show NRd _ _ _ _ _ _
    constructor <;> omega
  have hBO : Hid (BOK o u none U (M + 1) (M + 1 + 1)) := ⟨hb1', hb2'⟩
  have hg : Calls Try.prog 13 #[.slice none ([] : Tr).length 0, .int .i64 ((0 : Nat) : Int), .int .i64 ((1 : Nat) : Int), .int .i64 ((1 : Nat) : Int), ptr (N + 1), ptr M, ptr (M + 1), ptr (M + 1 + 1), ptr N, ptr (M + 1 + 1 + 1)] U (GrowT o u (tryT o u m (wf ws) L [] 1 1 none) (M + 1) (M + 1 + 1) U) :=
    growT_any o u m L ws Q aw cw a6 c6 e6 f6 (N + 1) M (M + 1) (M + 1 + 1) N (M + 1 + 1 + 1) hNR.out (by omega) (by omega) (by omega) hQQ.out (by omega) (by omega) hmH.out hm10 hwrH.out L [] 0 1 1 0 none 0 none U rfl (by omega) hTR.out ⟨[], fun i v h => by simp at h, rfl, fun i v xs h => by simp at h⟩ (fun a h => by cases h) (fun _ => ⟨rfl, rfl⟩) (Bits.zero m) (by simp) Pw.one Pw.one (fun t p q h => by cases h) hBO.out
  rw [hRH.out] at hg
  have hgH : Hid (Calls Try.prog 13 #[.slice none 0 0, .int .i64 0, .int .i64 1, .int .i64 1, ptr (N + 1), ptr M, ptr (M + 1), ptr (M + 1 + 1), ptr N, ptr (M + 1 + 1 + 1)] U (GrowT o u R (M + 1) (M + 1 + 1) U)) := hg
  rw [← hU1, ← hU2, ← hU3, ← hU]
  have hlU : M + 1 + 1 < U.heap.size := hb2'.lt
  have hwN : w.heap.size = N := hNe
  have hwNH := Lib.hid hwN
  have hsz : N ≤ U.heap.size := by omega
  clear hU hU1 hU2 hU3 s1 s2 s3 q1 q2 q3 q4 r1 r2 r3 rT hb1' hb2' hq6U g1 g2 hVN hg hTR hNR hBO hMe hNe hwN hq6 hm6H hm45 hm5H hm4H hq1 hq2 hq3 hq4 hq5 h1 h3 h4 hwp hwg hup c1 c2 d1 d2 d3 d4
  go_upto_region 11 with (go_at_call 13; (with_reducible refine hgH.out.mono ?_); rintro e w9 ⟨rfl, hF, hB⟩; have hFH := Lib.hid hF; have hBH := Lib.hid hB; clear hF hB)
  have hbw9 : Below w.heap.size w w9 := bseqT' hbU.out hFH.out (by rw [hwNH.out]; omega) (by rw [hwNH.out]; omega)
  have hbwH := Lib.hid hbw9
  clear hbw9
  rcases R with _ | ⟨t, p, q⟩
  · have k0 : w9.cell? ⟨M + 1, 0, none⟩ = some (.slice none 0 0) := by rw [hBH.out.1.cell]; rfl
    go_wp2_with (fail)
    go_ret2
    exact ⟨none, 0, rfl, ⟨[], fun i v h => by simp at h, rfl, fun i v xs h => by simp at h⟩, Nat.le_refl _, hbwH.out⟩
  · obtain ⟨g, c, b1, d1, b2, d2, hb, hc, hI, _, _, _⟩ := hBH.out
    have k0 : w9.cell? ⟨M + 1, 0, none⟩ = some (.slice (some ⟨g, 0, none⟩) t.length c) := by rw [hb.cell]; rfl
    have hIH := Lib.hid hI
    clear hb hI
    go_wp2_with (fail)
    go_ret2
    exact ⟨some ⟨g, 0, none⟩, c, rfl, hIH.out, hc, hbwH.out⟩
end Go.Proofs.Ytkecdjdggkpdpab
