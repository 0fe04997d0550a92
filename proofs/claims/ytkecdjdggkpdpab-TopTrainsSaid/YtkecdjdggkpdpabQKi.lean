/- Ki Kj -/
import Derived.Test.YtkecdjdggkpdpabQKt
set_option linter.unusedVariables false
/- Walk of gear.turns, gear.none. -/
namespace Go.Proofs.Ytkecdjdggkpdpab
open Go Go.RowKit Go.Proofs

theorem rsg_zero (p q : Rat) : rsg p q = 0 ↔ p = q := by
  unfold rsg
  have h1 : sg (rn p * rd q - rn q * rd p) = 0 ↔ rn p * rd q = rn q * rd p := by
    unfold sg
    split
    · constructor
      · intro h; cases h
      · intro h; omega
    · split
      · constructor
        · intro _; omega
        · intro _; rfl
      · constructor
        · intro h; cases h
        · intro h; omega
  rw [h1]
  constructor
  · intro h
    rw [← rat_eq p, ← rat_eq q]
    exact (Rat.divInt_eq_divInt_iff (Int.ne_of_gt (rd_pos p)) (Int.ne_of_gt (rd_pos q))).2 h
  · rintro rfl
    rfl
/-- A belt is kept. -/
def keptB (s : St) (b : BtK) : Bool := match stG s b.A, stG s b.B with
  | some (_, p), some (_, q) => decide (p * rt b = q)
  | _, _ => false
def chkB (wo : Nat → Bool) (s : St) (l : List BtK) (i : Nat) : Bool := wo i || match l[i]? with
  | some b => keptB s b
  | none => true
def turnsG (wo : Nat → Bool) (l : List BtK) (n : Nat) : Bool := (List.range l.length).all (chkB wo (speedsG wo l n n) l)
/-- Who has a speed keeps it. -/
theorem step_some {f : Nat} {b : BtK} {s : St} {j : Nat} {v : Nat × Rat} (h : stG s j = some v) (hA : b.A < s.length) (hB : b.B < s.length) : ∃ v, stG (stepG f b s) j = some v := by
  unfold stepG
  split
  · rename_i g q h1 h2
    split
    · rw [stG_set s b.B _ j hB]
      split
      · exact ⟨_, rfl⟩
      · exact ⟨_, h⟩
    · exact ⟨_, h⟩
  · rename_i g q h1 h2
    split
    · rw [stG_set s b.A _ j hA]
      split
      · exact ⟨_, rfl⟩
      · exact ⟨_, h⟩
    · exact ⟨_, h⟩
  · exact ⟨_, h⟩
theorem pass_some {n f j : Nat} (wo : Nat → Bool) : ∀ (l : List BtK) (i : Nat) (s : St) (v : Nat × Rat), (∀ b ∈ l, okBt n b) → s.length = n → stG s j = some v → ∃ v, stG (passG wo f i l s) j = some v
  | [], _, _, v, _, _, h => ⟨v, h⟩
  | b :: l, i, s, v, hl, hn, h => by
    show ∃ v, stG (passG wo f (i + 1) l _) j = some v
    have hb := hl b (List.mem_cons_self ..)
    have hl' : ∀ b ∈ l, okBt n b := fun c hc => hl c (List.mem_cons_of_mem _ hc)
    split
    · exact pass_some wo l (i + 1) s v hl' hn h
    · obtain ⟨v2, h2⟩ := step_some (f := f) h (by rw [hn]; exact hb.1) (by rw [hn]; exact hb.2.1)
      exact pass_some wo l (i + 1) _ v2 hl' (by rw [stepG_len]; exact hn) h2
theorem iter_some {n j : Nat} {g : St → St} (hg : ∀ s v, s.length = n → stG s j = some v → ∃ v, stG (g s) j = some v) (hgl : ∀ s : St, (g s).length = s.length) {s : St} {v : Nat × Rat} (hn : s.length = n) (h : stG s j = some v) : ∀ k, (iterN g k s).length = n ∧ ∃ v, stG (iterN g k s) j = some v
  | 0 => ⟨hn, v, h⟩
  | k + 1 => by
    obtain ⟨h1, v2, h2⟩ := iter_some hg hgl hn h k
    exact ⟨by show (g _).length = n; rw [hgl]; exact h1, hg _ v2 h1 h2⟩
/-- In the end all wheels have speeds. -/
theorem speeds_all {n : Nat} {wo : Nat → Bool} {l : List BtK} (hl : ∀ b ∈ l, okBt n b) : ∀ f, f ≤ n → ∀ j, j < f → ∃ v, stG (speedsG wo l n f) j = some v
  | 0, _, j, hj => absurd hj (Nat.not_lt_zero _)
  | f + 1, hf, j, hj => by
    have ih := speeds_all (wo := wo) hl f (by omega)
    have hln := (okSt.speeds (wo := wo) hl f (by omega)).1
    unfold speedsG
    rcases hs : stG (speedsG wo l n f) f with _ | v
    · have hlen : ((speedsG wo l n f).set f (some (f, 1))).length = n := by rw [List.length_set]; exact hln
      have h1 : ∃ v, stG ((speedsG wo l n f).set f (some (f, 1))) j = some v := by
        rw [stG_set _ f _ j (by rw [hln]; omega)]
        split
        · exact ⟨_, rfl⟩
        · exact ih j (by omega)
      obtain ⟨v, h1⟩ := h1
      exact (iter_some (fun s v hn h => pass_some wo l 0 s v hl hn h) (fun s => passG_len wo f l 0 s) hlen h1 n).2
    · by_cases hjf : j = f
      · subst hjf; exact ⟨v, hs⟩
      · exact ih j (by omega)
theorem all_snoc (p : Nat → Bool) (i : Nat) : (List.range (i + 1)).all p = ((List.range i).all p && p i) := by rw [List.range_succ, List.all_append]; simp
theorem all_false {p : Nat → Bool} {i m : Nat} (h : p i = false) (hi : i < m) : (List.range m).all p = false := by
  rw [List.all_eq_false]
  exact ⟨i, List.mem_range.2 hi, by rw [h]; simp⟩
theorem none_any (i : Int) (w : World) : Calls Try.prog 22 #[.int .i64 i] w (RetB w false) := by
  go_enter Try.func22, Try.ntmps22
  go_wp2_with (fail)
  go_ret
  exact ⟨rfl, Below.refl _ _⟩
section
attribute [local go_sem] undef
set_option maxRecDepth 100000 in
set_option maxHeartbeats 6400000 in
theorem turns_any (bg cb n m fw : Nat) (ao : Option Addr) (lb : Array Value) (wo : Nat → Bool) (l : List BtK) (w : World) (c0 : w.cell? ⟨bg, 0, none⟩ = some (.int .i64 (n : Nat))) (c1 : w.cell? ⟨bg, 1, none⟩ = some (.slice ao m cb)) (hB : BV w ao l) (hm : l.length = m) (hl : ∀ b ∈ l, okBt n b) (hn1 : 1 ≤ n) (hn : n ≤ 10) (hm16 : m ≤ 16)
    (hwo : ∀ i W, i < m → Below w.heap.size w W → Calls Try.prog fw (#[.int .i64 (i : Nat)] ++ lb) W (RetB W (wo i))) (eg : ∀ args w, (callFunc fw args).run Try.prog w = .ok (.enter fw args) w) :
    Calls Try.prog 23 #[.pointer (some ⟨bg, 0, none⟩), .func (.func fw) #[] lb] w (RetB w (turnsG wo l n)) := by
  have hsp := Lib.hid (speeds_any bg cb n m fw ao lb wo l w c0 c1 hB hm hl hn1 hn hm16 hwo eg)
  have c1H := Lib.hid c1
  have hBH := Lib.hid hB
  have hmH := Lib.hid hm
  have hlH := Lib.hid hl
  have hwoH := Lib.hid hwo
  have hallH := Lib.hid (fun j (hj : j < n) => speeds_all (wo := wo) hl n (Nat.le_refl _) j hj)
  have hokH := Lib.hid (okSt.speeds (wo := wo) hl n (Nat.le_refl _))
  obtain ⟨s, hs⟩ : ∃ s, speedsG wo l n n = s := ⟨_, rfl⟩
  have htg : Hid (turnsG wo l n = (List.range m).all (chkB wo s l)) := by show _ = _; unfold turnsG; rw [hs, hm]
  rw [hs] at hallH hokH
  have hsH := Lib.hid hs
  clear hB hm hl hwo c0 c1 hs
  go_enter Try.func23, Try.ntmps23
  go_upto_region 2 with (go_at_call 21; go_loud (refine hsp.out.mono ?_); rintro e w1 ⟨gs, gp, rfl, hS⟩; have hS1 := Lib.hid hS; clear hS)
  have hS2 : Hid (SPm w w1 gs gp n s) := by show SPm _ _ _ _ _ _; rw [← hsH.out]; exact hS1.out
  have d1 := Below.cellAt hS2.out.bl (Nat.le_refl _) c1H.out
  clear hS1 hsp hsH
  go_wp2_with (fail)
  go_loopg [20] m (fun gk iv wx => ∃ i : Nat, iv = .int .i64 (i : Nat) ∧ i + gk = m ∧ (List.range i).all (chkB wo s l) = true ∧ SPm w wx gs gp n s)
  case atStart => exact ⟨0, rfl, by omega, rfl, hS2.out⟩
  case round =>
    clear hS2 d1
    obtain ⟨i, rfl, hi, hall, hS⟩ := hrel
    have hSH := Lib.hid hS
    have haH := Lib.hid hall
    clear hS hall
    by_cases him : i < m
    · obtain ⟨g1, rfl⟩ : ∃ g1, gk = g1 + 1 := ⟨gk - 1, by omega⟩
      have hiI : (i : Int) < (m : Int) := by omega
      have hi0 : (0 : Int) ≤ (i : Int) := by omega
      obtain ⟨b, hb⟩ : ∃ b, l[i]? = some b := ⟨_, List.getElem?_eq_getElem (by rw [hmH.out]; exact him)⟩
      have hbok := hlH.out b (List.mem_of_getElem? hb)
      obtain ⟨kb, ob, hao, e0, e1, e2, e3⟩ := (hBH.out.below hSH.out.bl) i b hb
      have haoH := Lib.hid hao
      have hwoi := Lib.hid (fun W (hW : Below w.heap.size w W) => hwoH.out i W him hW)
      have hbokH := Lib.hid hbok
      have hchk : Hid (chkB wo s l i = (wo i || keptB s b)) := by show _ = _; unfold chkB; rw [hb]
      subst hao
      clear hb hbok
      go_upto_region 5 with (fail)
      have hSV := Lib.hid (hSH.out.below (below_al (Below.refl _ _) (Obj.cells #[.int .i64 (b.A : Nat), .int .i64 (b.B : Nat), .int .i64 b.o, .int .i64 (b.u : Nat)] 32)))
      obtain ⟨V, hV⟩ : ∃ V, V = wr.alloc (Obj.cells #[.int .i64 (b.A : Nat), .int .i64 (b.B : Nat), .int .i64 b.o, .int .i64 (b.u : Nat)] 32) := ⟨_, rfl⟩
      have x0 : V.cell? ⟨wr.heap.size, 0, none⟩ = some (.int .i64 (b.A : Nat)) := by rw [hV]; simp [go_sem]
      have x1 : V.cell? ⟨wr.heap.size, 1, none⟩ = some (.int .i64 (b.B : Nat)) := by rw [hV]; simp [go_sem]
      have x2 : V.cell? ⟨wr.heap.size, 2, none⟩ = some (.int .i64 b.o) := by rw [hV]; simp [go_sem]
      have x3 : V.cell? ⟨wr.heap.size, 3, none⟩ = some (.int .i64 (b.u : Nat)) := by rw [hV]; simp [go_sem]
      rw [← hV] at hSV ⊢
      obtain ⟨bx, hbx⟩ : ∃ bx, wr.heap.size = bx := ⟨_, rfl⟩
      rw [hbx] at x0 x1 x2 x3 ⊢
      clear hV hSH e0 e1 e2 e3 hbx
      have hAn : b.A < n := hbokH.out.1
      have hBn : b.B < n := hbokH.out.2.1
      have hAnI : ((b.A : Nat) : Int) < (n : Int) := by omega
      have hBnI : ((b.B : Nat) : Int) < (n : Int) := by omega
      have hA0 : (0 : Int) ≤ ((b.A : Nat) : Int) := by omega
      have hB0 : (0 : Int) ≤ ((b.B : Nat) : Int) := by omega
      obtain ⟨⟨f1, p⟩, hp⟩ := hallH.out b.A hAn
      obtain ⟨⟨f2, q⟩, hq⟩ := hallH.out b.B hBn
      have hkept : Hid (keptB s b = decide (p * rt b = q)) := by show _ = _; unfold keptB; rw [hp, hq]
      have hcn : cntS s ≤ 10 := by have := cntS_le s; rw [hokH.out.1] at this; omega
      have wdp := (hokH.out.2 b.A f1 p hp).2.2
      have szp := Lib.hid (wdp.sz (by omega))
      have szq := Lib.hid ((hokH.out.2 b.B f2 q hq).2.2.sz (by omega))
      have szr := Lib.hid ((rt_wd hbokH.out).sz (by omega))
      have szm := Lib.hid ((wdp.mul (rt_wd hbokH.out)).sz (by omega))
      obtain ⟨a, c, a', c', y0, y1, y2, y3, hRM⟩ := hSV.out.rat b.A f1 p hp
      obtain ⟨d, h, d', h', z0, z1, z2, z3, hRN⟩ := hSV.out.rat b.B f2 q hq
      have hRMH := Lib.hid hRM
      have hRNH := Lib.hid hRN
      have hRd := Lib.hid (show Rd bx gs b.A b.A b.B b.o b.u a a' c c' p V from ⟨⟨x0, x1, x2, x3⟩, y0, y1, y2, y3⟩)
      have hRe := Lib.hid (show Rd bx gs b.B b.A b.B b.o b.u d d' h h' q V from ⟨⟨x0, x1, x2, x3⟩, z0, z1, z2, z3⟩)
      clear hRM hRN x0 x1 x2 x3 y0 y1 y2 y3 z0 z1 z2 z3 hp hq wdp
      rcases hwi : wo i with _ | _
      · have hcf : Hid (chkB wo s l i = decide (p * rt b = q)) := by show _ = _; rw [hchk.out, hwi, hkept.out]; rfl
        rw [hwi] at hwoi
        clear hwi hchk hkept
        go_cut [45] from 21 to 46 (fun bv wx => bv = .bool (rsg (p * rt b) q != 0) ∧ Below V.heap.size V wx)
        case first =>
          -- tree S: fun w' => (w'.cell? ⟨bx, 0, none⟩ = some (.int .i64 (b.A : Nat)) ∧ w'.cell? ⟨bx, 1, none⟩ = some (.int .i64 (b.B : Nat)) ∧ w'.cell? ⟨bx, 2, none⟩ = some (.int .i64 b.o) ∧ w'.cell? ⟨bx, 3, none⟩ = some (.int .i64 (b.u : Nat))) ∧ (w'.cell? ⟨gs, b.A * 4, none⟩ = some (.bool (ng (rn p))) ∧ w'.cell? ⟨gs, b.A * 4 + 1, none⟩ = some (.slice a (LI (rn p)) c) ∧ w'.cell? ⟨gs, b.A * 4 + 2, none⟩ = some (.bool (ng (rd p))) ∧ w'.cell? ⟨gs, b.A * 4 + 3, none⟩ = some (.slice a' (LI (rd p)) c')) ∧ (w'.cell? ⟨gs, b.B * 4, none⟩ = some (.bool (ng (rn q))) ∧ w'.cell? ⟨gs, b.B * 4 + 1, none⟩ = some (.slice d (LI (rn q)) h) ∧ w'.cell? ⟨gs, b.B * 4 + 2, none⟩ = some (.bool (ng (rd q))) ∧ w'.cell? ⟨gs, b.B * 4 + 3, none⟩ = some (.slice d' (LI (rd q)) h'))
          -- tree s0: ⟨(hRd.out.below (Below.drew (Below.refl _ _))).1, (hRd.out.below (Below.drew (Below.refl _ _))).2, (hRe.out.below (Below.drew (Below.refl _ _))).2⟩
          -- arm 2: have cS : Calls Try.prog fw (#[.int .i64 (i : Nat)] ++ lb) V.drew _ := hwoi.out V.drew (bseqK hSV.out.bl (Below.drew (Below.refl _ _))); refine cS.mono ?_; rintro e w5 ⟨rfl, hb5⟩; clear cS; have hq5 : Below V.heap.size V w5 := bseqK (Below.drew (Below.refl _ _)) hb5; have hq5H := Lib.hid hq5; clear hb5 hq5
          -- arm 2 s: ⟨(hRd.out.below hq5H.out).1, (hRd.out.below hq5H.out).2, (hRe.out.below hq5H.out).2⟩
          -- arm 11: go_at_call 44; (with_reducible refine (ratio_bt b hbokH.out _).mono ?_); rintro e w6 ⟨ra, rc, ra', rc', rfl, hm6, hb6⟩; have hq6 : Below V.heap.size V w6 := bseqK hq5H.out hb6; have hm6H := Lib.hid hm6; have hq6H := Lib.hid hq6; clear hm6 hb6 hq6
          -- arm 11 s: ⟨(hRd.out.below hq6H.out).1, (hRd.out.below hq6H.out).2, (hRe.out.below hq6H.out).2⟩
          -- arm 12: go_at_call 43; (with_reducible refine (rmul_any a c a' c' ra rc ra' rc' p (rt b) _ (hRMH.out.up hq6H.out) hm6H.out szp.out szr.out).mono ?_); rintro e w7 ⟨pa, pc, pa', pc', rfl, hm7, hb7⟩; have hq7 : Below V.heap.size V w7 := bseqK hq6H.out hb7; have hm7H := Lib.hid hm7; have hq7H := Lib.hid hq7; clear hm7 hb7 hq7
          -- arm 12 s: ⟨(hRd.out.below hq7H.out).1, (hRd.out.below hq7H.out).2, (hRe.out.below hq7H.out).2⟩
          -- arm 18: go_at_call 17; (with_reducible refine (rcmp_any pa pc pa' pc' d h d' h' (p * rt b) q _ hm7H.out (hRNH.out.up hq7H.out) szm.out szq.out).mono ?_); rintro e w8 ⟨rfl, hb8⟩; have hq8 : Below V.heap.size V w8 := bseqK hq7H.out hb8; have hq8H := Lib.hid hq8; clear hb8 hq8
          -- arm 18 s: ⟨(hRd.out.below hq8H.out).1, (hRd.out.below hq8H.out).2, (hRe.out.below hq8H.out).2⟩
          -- leaf: (go_wp2_with (fail); go_meet; (case rel => exact ⟨rfl, hq8H.out⟩))
          -- tree tu 0 1 c2 3 4 5 6 7 8 9 10 13 14 15 16 17 c11 c12 c18 19 20
          refine wp_region_tail (fun w' => (w'.cell? ⟨bx, 0, none⟩ = some (.int .i64 (b.A : Nat)) ∧ w'.cell? ⟨bx, 1, none⟩ = some (.int .i64 (b.B : Nat)) ∧ w'.cell? ⟨bx, 2, none⟩ = some (.int .i64 b.o) ∧ w'.cell? ⟨bx, 3, none⟩ = some (.int .i64 (b.u : Nat))) ∧ (w'.cell? ⟨gs, b.A * 4, none⟩ = some (.bool (ng (rn p))) ∧ w'.cell? ⟨gs, b.A * 4 + 1, none⟩ = some (.slice a (LI (rn p)) c) ∧ w'.cell? ⟨gs, b.A * 4 + 2, none⟩ = some (.bool (ng (rd p))) ∧ w'.cell? ⟨gs, b.A * 4 + 3, none⟩ = some (.slice a' (LI (rd p)) c')) ∧ (w'.cell? ⟨gs, b.B * 4, none⟩ = some (.bool (ng (rn q))) ∧ w'.cell? ⟨gs, b.B * 4 + 1, none⟩ = some (.slice d (LI (rn q)) h) ∧ w'.cell? ⟨gs, b.B * 4 + 2, none⟩ = some (.bool (ng (rd q))) ∧ w'.cell? ⟨gs, b.B * 4 + 3, none⟩ = some (.slice d' (LI (rd q)) h'))) (fun j => decide (1000 ≤ j)) (by kernel_rfl) (⟨(hRd.out.below (Below.drew (Below.refl _ _))).1, (hRd.out.below (Below.drew (Below.refl _ _))).2, (hRe.out.below (Below.drew (Below.refl _ _))).2⟩) (fun hHeld => ?_)
          refine wpAnyT_take (i := 0) (oi := ?oitu_1) (v := ?vtu_1) ?hotu_1 (by kernel_rfl) (by kernel_rfl) (by kernel_rfl) (by kernel_rfl) ?hqtu_1 (Or.inl ⟨?hwtu_1, ?hytu_1⟩) (by assumption) ?_
          case hotu_1 => rfl
          case hwtu_1 => rfl
          case hytu_1 => (intro w hSw; (try dsimp only at hSw); go_split_ands; go_simp; (try (with_reducible rfl)))
          case hqtu_1 => exact fun _ _ _ h => h
          simp only [Act.put, List.getElem_toArray, List.getElem_cons_zero, List.setIfInBounds_toArray, List.set_cons_zero, List.set_cons_succ]
          refine wpAnyT_take (i := 1) (oi := ?oitu_2) (v := ?vtu_2) ?hotu_2 (by kernel_rfl) (by kernel_rfl) (by kernel_rfl) (by kernel_rfl) ?hqtu_2 (Or.inl ⟨?hwtu_2, ?hytu_2⟩) (by assumption) ?_
          case hotu_2 => rfl
          case hwtu_2 => rfl
          case hytu_2 => (intro w hSw; (try dsimp only at hSw); go_split_ands; go_simp; (try (with_reducible rfl)))
          case hqtu_2 => exact fun _ _ _ h => h
          simp only [Act.put, List.getElem_toArray, List.getElem_cons_succ, List.getElem_cons_zero, List.setIfInBounds_toArray, List.set_cons_zero, List.set_cons_succ]
          refine wpAnyT_one (i := 2) (o := ?oitu_3) (by kernel_rfl) ?hotu_3 (fun K hK => ?_)
          case hotu_3 => rfl
          rw [if_pos (by rfl)]
          go_simp
          have cS : Calls Try.prog fw (#[.int .i64 (i : Nat)] ++ lb) V.drew _ := hwoi.out V.drew (bseqK hSV.out.bl (Below.drew (Below.refl _ _))); refine cS.mono ?_; rintro e w5 ⟨rfl, hb5⟩; clear cS; have hq5 : Below V.heap.size V w5 := bseqK (Below.drew (Below.refl _ _)) hb5; have hq5H := Lib.hid hq5; clear hb5 hq5
          (try go_wp2_with (fail))
          refine hK.out _ _ (fun _ => ⟨(hRd.out.below hq5H.out).1, (hRd.out.below hq5H.out).2, (hRe.out.below hq5H.out).2⟩) (fun hHeld => ?_)
          replace hHeld := hHeld rfl
          clear hK K
          refine wpAnyT_take (i := 3) (oi := ?oitu_4) (v := ?vtu_4) ?hotu_4 (by kernel_rfl) (by kernel_rfl) (by kernel_rfl) (by kernel_rfl) ?hqtu_4 (Or.inl ⟨?hwtu_4, ?hytu_4⟩) (by assumption) ?_
          case hotu_4 => rfl
          case hwtu_4 => rfl
          case hytu_4 => (intro w hSw; (try dsimp only at hSw); go_split_ands; go_simp; (try (with_reducible rfl)))
          case hqtu_4 => exact fun _ _ _ h => h
          simp only [Act.put, List.getElem_toArray, List.getElem_cons_succ, List.getElem_cons_zero, List.setIfInBounds_toArray, List.set_cons_zero, List.set_cons_succ]
          refine wpAnyT_take (i := 4) (oi := ?oitu_5) (v := ?vtu_5) ?hotu_5 (by kernel_rfl) (by kernel_rfl) (by kernel_rfl) (by kernel_rfl) ?hqtu_5 (Or.inl ⟨?hwtu_5, ?hytu_5⟩) (by assumption) ?_
          case hotu_5 => rfl
          case hwtu_5 => rfl
          case hytu_5 => (intro w hSw; (try dsimp only at hSw); go_split_ands; go_simp; (try (with_reducible rfl)))
          case hqtu_5 => exact fun _ _ _ h => h
          simp only [Act.put, List.getElem_toArray, List.getElem_cons_succ, List.getElem_cons_zero, List.setIfInBounds_toArray, List.set_cons_zero, List.set_cons_succ]
          refine wpAnyT_take (i := 5) (oi := ?oitu_6) (v := ?vtu_6) ?hotu_6 (by kernel_rfl) (by kernel_rfl) (by kernel_rfl) (by kernel_rfl) ?hqtu_6 (Or.inl ⟨?hwtu_6, ?hytu_6⟩) (by assumption) ?_
          case hotu_6 => rfl
          case hwtu_6 => rfl
          case hytu_6 => (intro w hSw; (try dsimp only at hSw); go_split_ands; go_simp; (try (with_reducible rfl)))
          case hqtu_6 => exact fun _ _ _ h => h
          simp only [Act.put, List.getElem_toArray, List.getElem_cons_succ, List.getElem_cons_zero, List.setIfInBounds_toArray, List.set_cons_zero, List.set_cons_succ]
          refine wpAnyT_take (i := 6) (oi := ?oitu_7) (v := ?vtu_7) ?hotu_7 (by kernel_rfl) (by kernel_rfl) (by kernel_rfl) (by kernel_rfl) ?hqtu_7 (Or.inl ⟨?hwtu_7, ?hytu_7⟩) (by assumption) ?_
          case hotu_7 => rfl
          case hwtu_7 => rfl
          case hytu_7 => (intro w hSw; (try dsimp only at hSw); go_split_ands; go_simp; (try (with_reducible rfl)))
          case hqtu_7 => exact fun _ _ _ h => h
          simp only [Act.put, List.getElem_toArray, List.getElem_cons_succ, List.getElem_cons_zero, List.setIfInBounds_toArray, List.set_cons_zero, List.set_cons_succ]
          refine wpAnyT_take (i := 7) (oi := ?oitu_8) (v := ?vtu_8) ?hotu_8 (by kernel_rfl) (by kernel_rfl) (by kernel_rfl) (by kernel_rfl) ?hqtu_8 (Or.inl ⟨?hwtu_8, ?hytu_8⟩) (by assumption) ?_
          case hotu_8 => rfl
          case hwtu_8 => rfl
          case hytu_8 => (intro w hSw; (try dsimp only at hSw); go_split_ands; go_simp; (try (with_reducible rfl)))
          case hqtu_8 => exact fun _ _ _ h => h
          simp only [Act.put, List.getElem_toArray, List.getElem_cons_succ, List.getElem_cons_zero, List.setIfInBounds_toArray, List.set_cons_zero, List.set_cons_succ]
          refine wpAnyT_take (i := 8) (oi := ?oitu_9) (v := ?vtu_9) ?hotu_9 (by kernel_rfl) (by kernel_rfl) (by kernel_rfl) (by kernel_rfl) ?hqtu_9 (Or.inl ⟨?hwtu_9, ?hytu_9⟩) (by assumption) ?_
          case hotu_9 => rfl
          case hwtu_9 => rfl
          case hytu_9 => (intro w hSw; (try dsimp only at hSw); go_split_ands; go_simp; (try (with_reducible rfl)))
          case hqtu_9 => exact fun _ _ _ h => h
          simp only [Act.put, List.getElem_toArray, List.getElem_cons_succ, List.getElem_cons_zero, List.setIfInBounds_toArray, List.set_cons_zero, List.set_cons_succ]
          refine wpAnyT_take (i := 9) (oi := ?oitu_10) (v := ?vtu_10) ?hotu_10 (by kernel_rfl) (by kernel_rfl) (by kernel_rfl) (by kernel_rfl) ?hqtu_10 (Or.inl ⟨?hwtu_10, ?hytu_10⟩) (by assumption) ?_
          case hotu_10 => rfl
          case hwtu_10 => rfl
          case hytu_10 => (intro w hSw; (try dsimp only at hSw); go_split_ands; go_simp; (try (with_reducible rfl)))
          case hqtu_10 => exact fun _ _ _ h => h
          simp only [Act.put, List.getElem_toArray, List.getElem_cons_succ, List.getElem_cons_zero, List.setIfInBounds_toArray, List.set_cons_zero, List.set_cons_succ]
          refine wpAnyT_take (i := 10) (oi := ?oitu_11) (v := ?vtu_11) ?hotu_11 (by kernel_rfl) (by kernel_rfl) (by kernel_rfl) (by kernel_rfl) ?hqtu_11 (Or.inl ⟨?hwtu_11, ?hytu_11⟩) (by assumption) ?_
          case hotu_11 => rfl
          case hwtu_11 => rfl
          case hytu_11 => (intro w hSw; (try dsimp only at hSw); go_split_ands; go_simp; (try (with_reducible rfl)))
          case hqtu_11 => exact fun _ _ _ h => h
          simp only [Act.put, List.getElem_toArray, List.getElem_cons_succ, List.getElem_cons_zero, List.setIfInBounds_toArray, List.set_cons_zero, List.set_cons_succ]
          refine wpAnyT_take (i := 13) (oi := ?oitu_12) (v := ?vtu_12) ?hotu_12 (by kernel_rfl) (by kernel_rfl) (by kernel_rfl) (by kernel_rfl) ?hqtu_12 (Or.inl ⟨?hwtu_12, ?hytu_12⟩) (by assumption) ?_
          case hotu_12 => rfl
          case hwtu_12 => rfl
          case hytu_12 => (intro w hSw; (try dsimp only at hSw); go_split_ands; go_simp; (try (with_reducible rfl)))
          case hqtu_12 => exact fun _ _ _ h => h
          simp only [Act.put, List.getElem_toArray, List.getElem_cons_succ, List.getElem_cons_zero, List.setIfInBounds_toArray, List.set_cons_zero, List.set_cons_succ]
          refine wpAnyT_take (i := 14) (oi := ?oitu_13) (v := ?vtu_13) ?hotu_13 (by kernel_rfl) (by kernel_rfl) (by kernel_rfl) (by kernel_rfl) ?hqtu_13 (Or.inl ⟨?hwtu_13, ?hytu_13⟩) (by assumption) ?_
          case hotu_13 => rfl
          case hwtu_13 => rfl
          case hytu_13 => (intro w hSw; (try dsimp only at hSw); go_split_ands; go_simp; (try (with_reducible rfl)))
          case hqtu_13 => exact fun _ _ _ h => h
          simp only [Act.put, List.getElem_toArray, List.getElem_cons_succ, List.getElem_cons_zero, List.setIfInBounds_toArray, List.set_cons_zero, List.set_cons_succ]
          refine wpAnyT_take (i := 15) (oi := ?oitu_14) (v := ?vtu_14) ?hotu_14 (by kernel_rfl) (by kernel_rfl) (by kernel_rfl) (by kernel_rfl) ?hqtu_14 (Or.inl ⟨?hwtu_14, ?hytu_14⟩) (by assumption) ?_
          case hotu_14 => rfl
          case hwtu_14 => rfl
          case hytu_14 => (intro w hSw; (try dsimp only at hSw); go_split_ands; go_simp; (try (with_reducible rfl)))
          case hqtu_14 => exact fun _ _ _ h => h
          simp only [Act.put, List.getElem_toArray, List.getElem_cons_succ, List.getElem_cons_zero, List.setIfInBounds_toArray, List.set_cons_zero, List.set_cons_succ]
          refine wpAnyT_take (i := 16) (oi := ?oitu_15) (v := ?vtu_15) ?hotu_15 (by kernel_rfl) (by kernel_rfl) (by kernel_rfl) (by kernel_rfl) ?hqtu_15 (Or.inl ⟨?hwtu_15, ?hytu_15⟩) (by assumption) ?_
          case hotu_15 => rfl
          case hwtu_15 => rfl
          case hytu_15 => (intro w hSw; (try dsimp only at hSw); go_split_ands; go_simp; (try (with_reducible rfl)))
          case hqtu_15 => exact fun _ _ _ h => h
          simp only [Act.put, List.getElem_toArray, List.getElem_cons_succ, List.getElem_cons_zero, List.setIfInBounds_toArray, List.set_cons_zero, List.set_cons_succ]
          refine wpAnyT_take (i := 17) (oi := ?oitu_16) (v := ?vtu_16) ?hotu_16 (by kernel_rfl) (by kernel_rfl) (by kernel_rfl) (by kernel_rfl) ?hqtu_16 (Or.inl ⟨?hwtu_16, ?hytu_16⟩) (by assumption) ?_
          case hotu_16 => rfl
          case hwtu_16 => rfl
          case hytu_16 => (intro w hSw; (try dsimp only at hSw); go_split_ands; go_simp; (try (with_reducible rfl)))
          case hqtu_16 => exact fun _ _ _ h => h
          simp only [Act.put, List.getElem_toArray, List.getElem_cons_succ, List.getElem_cons_zero, List.setIfInBounds_toArray, List.set_cons_zero, List.set_cons_succ]
          refine wpAnyT_one (i := 11) (o := ?oitu_17) (by kernel_rfl) ?hotu_17 (fun K hK => ?_)
          case hotu_17 => rfl
          rw [if_pos (by rfl)]
          go_simp
          go_at_call 44; (with_reducible refine (ratio_bt b hbokH.out _).mono ?_); rintro e w6 ⟨ra, rc, ra', rc', rfl, hm6, hb6⟩; have hq6 : Below V.heap.size V w6 := bseqK hq5H.out hb6; have hm6H := Lib.hid hm6; have hq6H := Lib.hid hq6; clear hm6 hb6 hq6
          (try go_wp2_with (fail))
          refine hK.out _ _ (fun _ => ⟨(hRd.out.below hq6H.out).1, (hRd.out.below hq6H.out).2, (hRe.out.below hq6H.out).2⟩) (fun hHeld => ?_)
          replace hHeld := hHeld rfl
          clear hK K
          refine wpAnyT_one (i := 12) (o := ?oitu_18) (by kernel_rfl) ?hotu_18 (fun K hK => ?_)
          case hotu_18 => rfl
          rw [if_pos (by rfl)]
          go_simp
          go_at_call 43; (with_reducible refine (rmul_any a c a' c' ra rc ra' rc' p (rt b) _ (hRMH.out.up hq6H.out) hm6H.out szp.out szr.out).mono ?_); rintro e w7 ⟨pa, pc, pa', pc', rfl, hm7, hb7⟩; have hq7 : Below V.heap.size V w7 := bseqK hq6H.out hb7; have hm7H := Lib.hid hm7; have hq7H := Lib.hid hq7; clear hm7 hb7 hq7
          (try go_wp2_with (fail))
          refine hK.out _ _ (fun _ => ⟨(hRd.out.below hq7H.out).1, (hRd.out.below hq7H.out).2, (hRe.out.below hq7H.out).2⟩) (fun hHeld => ?_)
          replace hHeld := hHeld rfl
          clear hK K
          refine wpAnyT_one (i := 18) (o := ?oitu_19) (by kernel_rfl) ?hotu_19 (fun K hK => ?_)
          case hotu_19 => rfl
          rw [if_pos (by rfl)]
          go_simp
          go_at_call 17; (with_reducible refine (rcmp_any pa pc pa' pc' d h d' h' (p * rt b) q _ hm7H.out (hRNH.out.up hq7H.out) szm.out szq.out).mono ?_); rintro e w8 ⟨rfl, hb8⟩; have hq8 : Below V.heap.size V w8 := bseqK hq7H.out hb8; have hq8H := Lib.hid hq8; clear hb8 hq8
          (try go_wp2_with (fail))
          refine hK.out _ _ (fun _ => ⟨(hRd.out.below hq8H.out).1, (hRd.out.below hq8H.out).2, (hRe.out.below hq8H.out).2⟩) (fun hHeld => ?_)
          replace hHeld := hHeld rfl
          clear hK K
          refine wpAnyT_take (i := 19) (oi := ?oitu_20) (v := ?vtu_20) ?hotu_20 (by kernel_rfl) (by kernel_rfl) (by kernel_rfl) (by kernel_rfl) ?hqtu_20 (Or.inl ⟨?hwtu_20, ?hytu_20⟩) (by assumption) ?_
          case hotu_20 => rfl
          case hwtu_20 => rfl
          case hytu_20 => (intro w hSw; (try dsimp only at hSw); go_split_ands; go_simp; (try (with_reducible rfl)))
          case hqtu_20 => exact fun _ _ _ h => h
          simp only [Act.put, List.getElem_toArray, List.getElem_cons_succ, List.getElem_cons_zero, List.setIfInBounds_toArray, List.set_cons_zero, List.set_cons_succ]
          refine wpAnyT_take (i := 20) (oi := ?oitu_21) (v := ?vtu_21) ?hotu_21 (by kernel_rfl) (by kernel_rfl) (by kernel_rfl) (by kernel_rfl) ?hqtu_21 (Or.inl ⟨?hwtu_21, ?hytu_21⟩) (by assumption) ?_
          case hotu_21 => rfl
          case hwtu_21 => rfl
          case hytu_21 => (intro w hSw; (try dsimp only at hSw); go_split_ands; go_simp; (try (with_reducible rfl)))
          case hqtu_21 => exact fun _ _ _ h => h
          simp only [Act.put, List.getElem_toArray, List.getElem_cons_succ, List.getElem_cons_zero, List.setIfInBounds_toArray, List.set_cons_zero, List.set_cons_succ]
          refine wpAnyT_done (by kernel_rfl) ?_ _
          (go_wp2_with (fail); go_meet; (case rel => exact ⟨rfl, hq8H.out⟩))
          -- tree end
        case rest =>
          obtain ⟨rfl, hbc⟩ := hcut
          have hSc := Lib.hid (hSV.out.below hbc)
          clear hbc
          by_cases hpq : p * rt b = q
          · have hz : (rsg (p * rt b) q != 0) = false := by rw [(rsg_zero _ _).2 hpq]; rfl
            rw [hz]
            have hct : Hid (chkB wo s l i = true) := by show _ = _; rw [hcf.out]; exact decide_eq_true hpq
            clear hz hpq
            go_wp2_with (fail)
            go_roundg g1
            case measure => omega
            case rel => exact ⟨i + 1, by go_num, by omega, by rw [all_snoc, haH.out, hct.out]; rfl, hSc.out⟩
          · have hz : (rsg (p * rt b) q != 0) = true := by
              have : rsg (p * rt b) q ≠ 0 := fun e => hpq ((rsg_zero _ _).1 e)
              simpa using this
            rw [hz]
            have hct : Hid (turnsG wo l n = false) := by show _ = _; rw [htg.out]; exact all_false (by rw [hcf.out]; exact decide_eq_false hpq) him
            clear hz hpq
            go_wp2_with (fail)
            go_ret
            exact ⟨by rw [hct.out]; rfl, hSc.out.bl⟩
      · have hct : Hid (chkB wo s l i = true) := by show _ = _; rw [hchk.out, hwi]; rfl
        rw [hwi] at hwoi
        clear hwi hchk hkept
        go_cut [45] from 21 to 46 (fun bv wx => bv = .bool false ∧ Below V.heap.size V wx)
        case first =>
          -- tree S: fun w' => True
          -- tree s0: trivial
          -- arm 2 s: trivial
          -- leaf: (go_wp2_with (fail); go_meet; (case rel => exact ⟨rfl, hq5H.out⟩))
          -- tree tv 0 1 c2 3 4 s5 s6 s7 s8 s9 s10 s13 s14 s15 s16 s17 s11 s12 s18 s19 20
          refine wp_region_tail (fun w' => True) (fun j => decide (1000 ≤ j)) (by kernel_rfl) (trivial) (fun hHeld => ?_)
          refine wpAnyT_take (i := 0) (oi := ?oitv_1) (v := ?vtv_1) ?hotv_1 (by kernel_rfl) (by kernel_rfl) (by kernel_rfl) (by kernel_rfl) ?hqtv_1 (Or.inl ⟨?hwtv_1, ?hytv_1⟩) (by assumption) ?_
          case hotv_1 => rfl
          case hwtv_1 => rfl
          case hytv_1 => (intro w hSw; (try dsimp only at hSw); go_split_ands; go_simp; (try (with_reducible rfl)))
          case hqtv_1 => exact fun _ _ _ h => h
          simp only [Act.put, List.getElem_toArray, List.getElem_cons_zero, List.setIfInBounds_toArray, List.set_cons_zero, List.set_cons_succ]
          refine wpAnyT_take (i := 1) (oi := ?oitv_2) (v := ?vtv_2) ?hotv_2 (by kernel_rfl) (by kernel_rfl) (by kernel_rfl) (by kernel_rfl) ?hqtv_2 (Or.inl ⟨?hwtv_2, ?hytv_2⟩) (by assumption) ?_
          case hotv_2 => rfl
          case hwtv_2 => rfl
          case hytv_2 => (intro w hSw; (try dsimp only at hSw); go_split_ands; go_simp; (try (with_reducible rfl)))
          case hqtv_2 => exact fun _ _ _ h => h
          simp only [Act.put, List.getElem_toArray, List.getElem_cons_succ, List.getElem_cons_zero, List.setIfInBounds_toArray, List.set_cons_zero, List.set_cons_succ]
          refine wpAnyT_one (i := 2) (o := ?oitv_3) (by kernel_rfl) ?hotv_3 (fun K hK => ?_)
          case hotv_3 => rfl
          rw [if_pos (by rfl)]
          go_simp
          have cS : Calls Try.prog fw (#[.int .i64 (i : Nat)] ++ lb) V.drew _ := hwoi.out V.drew (bseqK hSV.out.bl (Below.drew (Below.refl _ _))); refine cS.mono ?_; rintro e w5 ⟨rfl, hb5⟩; clear cS; have hq5 : Below V.heap.size V w5 := bseqK (Below.drew (Below.refl _ _)) hb5; have hq5H := Lib.hid hq5; clear hb5 hq5
          (try go_wp2_with (fail))
          refine hK.out _ _ (fun _ => trivial) (fun hHeld => ?_)
          replace hHeld := hHeld rfl
          clear hK K
          refine wpAnyT_take (i := 3) (oi := ?oitv_4) (v := ?vtv_4) ?hotv_4 (by kernel_rfl) (by kernel_rfl) (by kernel_rfl) (by kernel_rfl) ?hqtv_4 (Or.inl ⟨?hwtv_4, ?hytv_4⟩) (by assumption) ?_
          case hotv_4 => rfl
          case hwtv_4 => rfl
          case hytv_4 => (intro w hSw; (try dsimp only at hSw); go_split_ands; go_simp; (try (with_reducible rfl)))
          case hqtv_4 => exact fun _ _ _ h => h
          simp only [Act.put, List.getElem_toArray, List.getElem_cons_succ, List.getElem_cons_zero, List.setIfInBounds_toArray, List.set_cons_zero, List.set_cons_succ]
          refine wpAnyT_take (i := 4) (oi := ?oitv_5) (v := ?vtv_5) ?hotv_5 (by kernel_rfl) (by kernel_rfl) (by kernel_rfl) (by kernel_rfl) ?hqtv_5 (Or.inl ⟨?hwtv_5, ?hytv_5⟩) (by assumption) ?_
          case hotv_5 => rfl
          case hwtv_5 => rfl
          case hytv_5 => (intro w hSw; (try dsimp only at hSw); go_split_ands; go_simp; (try (with_reducible rfl)))
          case hqtv_5 => exact fun _ _ _ h => h
          simp only [Act.put, List.getElem_toArray, List.getElem_cons_succ, List.getElem_cons_zero, List.setIfInBounds_toArray, List.set_cons_zero, List.set_cons_succ]
          refine wpAnyT_take (i := 5) (oi := ?oitv_6) (v := undef) ?hotv_6 (by kernel_rfl) (by kernel_rfl) (by kernel_rfl) (by kernel_rfl) ?hqtv_6 (Or.inr ⟨?hwtv_6, rfl⟩) (by assumption) ?_
          case hotv_6 => rfl
          case hwtv_6 => rfl
          case hqtv_6 => exact fun _ _ _ h => h
          simp only [Act.put, List.getElem_toArray, List.getElem_cons_succ, List.getElem_cons_zero, List.setIfInBounds_toArray, List.set_cons_zero, List.set_cons_succ]
          refine wpAnyT_take (i := 6) (oi := ?oitv_7) (v := undef) ?hotv_7 (by kernel_rfl) (by kernel_rfl) (by kernel_rfl) (by kernel_rfl) ?hqtv_7 (Or.inr ⟨?hwtv_7, rfl⟩) (by assumption) ?_
          case hotv_7 => rfl
          case hwtv_7 => rfl
          case hqtv_7 => exact fun _ _ _ h => h
          simp only [Act.put, List.getElem_toArray, List.getElem_cons_succ, List.getElem_cons_zero, List.setIfInBounds_toArray, List.set_cons_zero, List.set_cons_succ]
          refine wpAnyT_take (i := 7) (oi := ?oitv_8) (v := undef) ?hotv_8 (by kernel_rfl) (by kernel_rfl) (by kernel_rfl) (by kernel_rfl) ?hqtv_8 (Or.inr ⟨?hwtv_8, rfl⟩) (by assumption) ?_
          case hotv_8 => rfl
          case hwtv_8 => rfl
          case hqtv_8 => exact fun _ _ _ h => h
          simp only [Act.put, List.getElem_toArray, List.getElem_cons_succ, List.getElem_cons_zero, List.setIfInBounds_toArray, List.set_cons_zero, List.set_cons_succ]
          refine wpAnyT_take (i := 8) (oi := ?oitv_9) (v := undef) ?hotv_9 (by kernel_rfl) (by kernel_rfl) (by kernel_rfl) (by kernel_rfl) ?hqtv_9 (Or.inr ⟨?hwtv_9, rfl⟩) (by assumption) ?_
          case hotv_9 => rfl
          case hwtv_9 => rfl
          case hqtv_9 => exact fun _ _ _ h => h
          simp only [Act.put, List.getElem_toArray, List.getElem_cons_succ, List.getElem_cons_zero, List.setIfInBounds_toArray, List.set_cons_zero, List.set_cons_succ]
          refine wpAnyT_take (i := 9) (oi := ?oitv_10) (v := undef) ?hotv_10 (by kernel_rfl) (by kernel_rfl) (by kernel_rfl) (by kernel_rfl) ?hqtv_10 (Or.inr ⟨?hwtv_10, rfl⟩) (by assumption) ?_
          case hotv_10 => rfl
          case hwtv_10 => rfl
          case hqtv_10 => exact fun _ _ _ h => h
          simp only [Act.put, List.getElem_toArray, List.getElem_cons_succ, List.getElem_cons_zero, List.setIfInBounds_toArray, List.set_cons_zero, List.set_cons_succ]
          refine wpAnyT_take (i := 10) (oi := ?oitv_11) (v := undef) ?hotv_11 (by kernel_rfl) (by kernel_rfl) (by kernel_rfl) (by kernel_rfl) ?hqtv_11 (Or.inr ⟨?hwtv_11, rfl⟩) (by assumption) ?_
          case hotv_11 => rfl
          case hwtv_11 => rfl
          case hqtv_11 => exact fun _ _ _ h => h
          simp only [Act.put, List.getElem_toArray, List.getElem_cons_succ, List.getElem_cons_zero, List.setIfInBounds_toArray, List.set_cons_zero, List.set_cons_succ]
          refine wpAnyT_take (i := 13) (oi := ?oitv_12) (v := undef) ?hotv_12 (by kernel_rfl) (by kernel_rfl) (by kernel_rfl) (by kernel_rfl) ?hqtv_12 (Or.inr ⟨?hwtv_12, rfl⟩) (by assumption) ?_
          case hotv_12 => rfl
          case hwtv_12 => rfl
          case hqtv_12 => exact fun _ _ _ h => h
          simp only [Act.put, List.getElem_toArray, List.getElem_cons_succ, List.getElem_cons_zero, List.setIfInBounds_toArray, List.set_cons_zero, List.set_cons_succ]
          refine wpAnyT_take (i := 14) (oi := ?oitv_13) (v := undef) ?hotv_13 (by kernel_rfl) (by kernel_rfl) (by kernel_rfl) (by kernel_rfl) ?hqtv_13 (Or.inr ⟨?hwtv_13, rfl⟩) (by assumption) ?_
          case hotv_13 => rfl
          case hwtv_13 => rfl
          case hqtv_13 => exact fun _ _ _ h => h
          simp only [Act.put, List.getElem_toArray, List.getElem_cons_succ, List.getElem_cons_zero, List.setIfInBounds_toArray, List.set_cons_zero, List.set_cons_succ]
          refine wpAnyT_take (i := 15) (oi := ?oitv_14) (v := undef) ?hotv_14 (by kernel_rfl) (by kernel_rfl) (by kernel_rfl) (by kernel_rfl) ?hqtv_14 (Or.inr ⟨?hwtv_14, rfl⟩) (by assumption) ?_
          case hotv_14 => rfl
          case hwtv_14 => rfl
          case hqtv_14 => exact fun _ _ _ h => h
          simp only [Act.put, List.getElem_toArray, List.getElem_cons_succ, List.getElem_cons_zero, List.setIfInBounds_toArray, List.set_cons_zero, List.set_cons_succ]
          refine wpAnyT_take (i := 16) (oi := ?oitv_15) (v := undef) ?hotv_15 (by kernel_rfl) (by kernel_rfl) (by kernel_rfl) (by kernel_rfl) ?hqtv_15 (Or.inr ⟨?hwtv_15, rfl⟩) (by assumption) ?_
          case hotv_15 => rfl
          case hwtv_15 => rfl
          case hqtv_15 => exact fun _ _ _ h => h
          simp only [Act.put, List.getElem_toArray, List.getElem_cons_succ, List.getElem_cons_zero, List.setIfInBounds_toArray, List.set_cons_zero, List.set_cons_succ]
          refine wpAnyT_take (i := 17) (oi := ?oitv_16) (v := undef) ?hotv_16 (by kernel_rfl) (by kernel_rfl) (by kernel_rfl) (by kernel_rfl) ?hqtv_16 (Or.inr ⟨?hwtv_16, rfl⟩) (by assumption) ?_
          case hotv_16 => rfl
          case hwtv_16 => rfl
          case hqtv_16 => exact fun _ _ _ h => h
          simp only [Act.put, List.getElem_toArray, List.getElem_cons_succ, List.getElem_cons_zero, List.setIfInBounds_toArray, List.set_cons_zero, List.set_cons_succ]
          refine wpAnyT_take (i := 11) (oi := ?oitv_17) (v := undef) ?hotv_17 (by kernel_rfl) (by kernel_rfl) (by kernel_rfl) (by kernel_rfl) ?hqtv_17 (Or.inr ⟨?hwtv_17, rfl⟩) (by assumption) ?_
          case hotv_17 => rfl
          case hwtv_17 => rfl
          case hqtv_17 => exact fun _ _ _ h => h
          simp only [Act.put, List.getElem_toArray, List.getElem_cons_succ, List.getElem_cons_zero, List.setIfInBounds_toArray, List.set_cons_zero, List.set_cons_succ]
          refine wpAnyT_take (i := 12) (oi := ?oitv_18) (v := undef) ?hotv_18 (by kernel_rfl) (by kernel_rfl) (by kernel_rfl) (by kernel_rfl) ?hqtv_18 (Or.inr ⟨?hwtv_18, rfl⟩) (by assumption) ?_
          case hotv_18 => rfl
          case hwtv_18 => rfl
          case hqtv_18 => exact fun _ _ _ h => h
          simp only [Act.put, List.getElem_toArray, List.getElem_cons_succ, List.getElem_cons_zero, List.setIfInBounds_toArray, List.set_cons_zero, List.set_cons_succ]
          refine wpAnyT_take (i := 18) (oi := ?oitv_19) (v := undef) ?hotv_19 (by kernel_rfl) (by kernel_rfl) (by kernel_rfl) (by kernel_rfl) ?hqtv_19 (Or.inr ⟨?hwtv_19, rfl⟩) (by assumption) ?_
          case hotv_19 => rfl
          case hwtv_19 => rfl
          case hqtv_19 => exact fun _ _ _ h => h
          simp only [Act.put, List.getElem_toArray, List.getElem_cons_succ, List.getElem_cons_zero, List.setIfInBounds_toArray, List.set_cons_zero, List.set_cons_succ]
          refine wpAnyT_take (i := 19) (oi := ?oitv_20) (v := undef) ?hotv_20 (by kernel_rfl) (by kernel_rfl) (by kernel_rfl) (by kernel_rfl) ?hqtv_20 (Or.inr ⟨?hwtv_20, rfl⟩) (by assumption) ?_
          case hotv_20 => rfl
          case hwtv_20 => rfl
          case hqtv_20 => exact fun _ _ _ h => h
          simp only [Act.put, List.getElem_toArray, List.getElem_cons_succ, List.getElem_cons_zero, List.setIfInBounds_toArray, List.set_cons_zero, List.set_cons_succ]
          refine wpAnyT_take (i := 20) (oi := ?oitv_21) (v := ?vtv_21) ?hotv_21 (by kernel_rfl) (by kernel_rfl) (by kernel_rfl) (by kernel_rfl) ?hqtv_21 (Or.inl ⟨?hwtv_21, ?hytv_21⟩) (by assumption) ?_
          case hotv_21 => rfl
          case hwtv_21 => rfl
          case hytv_21 => (intro w hSw; (try dsimp only at hSw); go_split_ands; go_simp; (try (with_reducible rfl)))
          case hqtv_21 => exact fun _ _ _ h => h
          simp only [Act.put, List.getElem_toArray, List.getElem_cons_succ, List.getElem_cons_zero, List.setIfInBounds_toArray, List.set_cons_zero, List.set_cons_succ]
          refine wpAnyT_done (by kernel_rfl) ?_ _
          (go_wp2_with (fail); go_meet; (case rel => exact ⟨rfl, hq5H.out⟩))
          -- tree end
        case rest =>
          obtain ⟨rfl, hbc⟩ := hcut
          have hSc := Lib.hid (hSV.out.below hbc)
          clear hbc
          go_wp2_with (fail)
          go_roundg g1
          case measure => omega
          case rel => exact ⟨i + 1, by go_num, by omega, by rw [all_snoc, haH.out, hct.out]; rfl, hSc.out⟩
    · have hie : m = i := by omega
      subst hie
      have hmI : ¬ (m : Int) < (m : Int) := by omega
      go_wp2_with (fail)
      go_ret
      exact ⟨by rw [htg.out, haH.out]; rfl, hSH.out.bl⟩
end
end Go.Proofs.Ytkecdjdggkpdpab

/- Belts as they are given; walk of gear.read. (Printed by wip/tools/gen_kj.py.) -/
namespace Go.Proofs.Ytkecdjdggkpdpab
open Go Go.RowKit Go.Proofs

/-- A belt of any numbers. -/
structure Rb where
  A : Int
  B : Int
  o : Int
  u : Int
def badB (n : Int) (r : Rb) : Bool := decide (r.A < 0 ∨ n ≤ r.A ∨ r.B < 0 ∨ n ≤ r.B ∨ r.A = r.B ∨ r.o = 0 ∨ r.o < -1000 ∨ 1000 < r.o ∨ r.u < 1 ∨ 1000 < r.u)
/-- The gear is valid. -/
def okGear (n : Int) (l : List Rb) : Bool := decide (1 ≤ n) && decide (n ≤ 10) && decide (l.length ≤ 16) && l.all fun r => !badB n r
def toR (b : BtK) : Rb := ⟨(b.A : Nat), (b.B : Nat), b.o, (b.u : Nat)⟩
def ofR (r : Rb) : BtK := ⟨r.A.toNat, r.B.toNat, r.o, r.u.toNat⟩
theorem toR_ofR {n : Int} {r : Rb} (h : badB n r = false) : toR (ofR r) = r ∧ okBt n.toNat (ofR r) := by
  have h' := of_decide_eq_false h
  obtain ⟨A, B, o, u⟩ := r
  simp only at h'
  constructor
  · have e1 : ((A.toNat : Nat) : Int) = A := by omega
    have e2 : ((B.toNat : Nat) : Int) = B := by omega
    have e3 : ((u.toNat : Nat) : Int) = u := by omega
    show (⟨((A.toNat : Nat) : Int), ((B.toNat : Nat) : Int), o, ((u.toNat : Nat) : Int)⟩ : Rb) = ⟨A, B, o, u⟩
    rw [e1, e2, e3]
  · unfold okBt ofR
    simp only
    omega
/-- A valid gear's belts. -/
theorem okGear_belts {n : Int} {l : List Rb} (h : okGear n l = true) : ∃ (k : Nat) (bs : List BtK), n = (k : Int) ∧ l = bs.map toR ∧ 1 ≤ k ∧ k ≤ 10 ∧ bs.length ≤ 16 ∧ ∀ b ∈ bs, okBt k b := by
  unfold okGear at h
  simp only [Bool.and_eq_true, decide_eq_true_eq, List.all_eq_true] at h
  obtain ⟨⟨⟨h1, h2⟩, h3⟩, h4⟩ := h
  have key : ∀ r ∈ l, badB n r = false := fun r hr => by have := h4 r hr; simpa using this
  refine ⟨n.toNat, l.map ofR, by omega, ?_, by omega, by omega, by rw [List.length_map]; exact h3, fun b hb => ?_⟩
  · rw [List.map_map]
    conv => lhs; rw [← List.map_id l]
    exact List.map_congr_left fun r hr => ((toR_ofR (key r hr)).1).symm
  · obtain ⟨r, hr, rfl⟩ := List.mem_map.1 hb
    exact (toR_ofR (key r hr)).2
/-- The slice holds these belts. -/
def RV (w : World) (ao : Option Addr) (l : List Rb) : Prop := ∀ (i : Nat) (r : Rb), l[i]? = some r → ∃ k o, ao = some ⟨k, o, none⟩ ∧ w.cell? ⟨k, o + i * 4, none⟩ = some (.int .i64 r.A) ∧ w.cell? ⟨k, o + i * 4 + 1, none⟩ = some (.int .i64 r.B) ∧ w.cell? ⟨k, o + i * 4 + 2, none⟩ = some (.int .i64 r.o) ∧ w.cell? ⟨k, o + i * 4 + 3, none⟩ = some (.int .i64 r.u)
theorem RV.below {w w' : World} {ao : Option Addr} {l : List Rb} (h : RV w ao l) (hb : Below w.heap.size w w') : RV w' ao l := fun i b hi => by
  obtain ⟨k, o, h0, h1, h2, h3, h4⟩ := h i b hi
  exact ⟨k, o, h0, Below.cellAt hb (Nat.le_refl _) h1, Below.cellAt hb (Nat.le_refl _) h2, Below.cellAt hb (Nat.le_refl _) h3, Below.cellAt hb (Nat.le_refl _) h4⟩
theorem RV.bv {w : World} {ao : Option Addr} {l : List BtK} (h : RV w ao (l.map toR)) : BV w ao l := fun i b hi => h i (toR b) (by rw [List.getElem?_map, hi]; rfl)
/-- A gear in memory. -/
def GM (w : World) (g : Nat) (n : Nat) (ao : Option Addr) (m cb : Nat) : Prop := w.cell? ⟨g, 0, none⟩ = some (.int .i64 (n : Nat)) ∧ w.cell? ⟨g, 1, none⟩ = some (.slice ao m cb)
theorem GM.below {w w' : World} {g n m cb : Nat} {ao : Option Addr} (h : GM w g n ao m cb) (hb : Below w.heap.size w w') : GM w' g n ao m cb := ⟨Below.cellAt hb (Nat.le_refl _) h.1, Below.cellAt hb (Nat.le_refl _) h.2⟩
def ReadPost (ok : Bool) (n : Int) (ao : Option Addr) (m cb : Nat) (w : World) (e : Ending) (w' : World) : Prop :=
  match ok with
  | false => e = .returned (.tuple #[.pointer none, .bool false]) ∧ Below w.heap.size w w'
  | true => ∃ g, e = .returned (.tuple #[.pointer (some ⟨g, 0, none⟩), .bool true]) ∧ GM w' g n.toNat ao m cb ∧ w.heap.size ≤ g ∧ Below w.heap.size w w'
set_option maxRecDepth 100000 in
set_option maxHeartbeats 6400000 in
theorem read_gear (n : Int) (ao : Option Addr) (m cb : Nat) (l : List Rb) (w : World) (hB : RV w ao l) (hm : l.length = m) (hm2 : m ≤ 9223372036854775807) :
    Calls Try.prog 20 #[.int .i64 n, .slice ao m cb] w (ReadPost (okGear n l) n ao m cb w) := by
  have hBH := Lib.hid hB
  have hmH := Lib.hid hm
  clear hB hm
  by_cases hbad : n < 1 ∨ 10 < n ∨ 16 < m
  · have hk : Hid (okGear n l = false) := by
      show _ = _
      unfold okGear
      rw [Bool.and_eq_false_iff]
      left
      have := hmH.out
      simp only [Bool.and_eq_false_iff, decide_eq_false_iff_not]
      omega
    rw [hk.out]
    clear hk
    go_enter Try.func20, Try.ntmps20
    by_cases h1 : n < 1
    · go_wp2_with (fail)
      go_ret2
      exact ⟨rfl, Below.refl _ _⟩
    · by_cases h2 : 10 < n
      · go_wp2_with (fail)
        go_ret2
        exact ⟨rfl, Below.refl _ _⟩
      · have h3 : (16 : Int) < (m : Int) := by omega
        go_wp2_with (fail)
        go_ret2
        exact ⟨rfl, Below.refl _ _⟩
  · have h1 : ¬ n < 1 := by omega
    have h2 : ¬ 10 < n := by omega
    have h3 : ¬ (16 : Int) < (m : Int) := by omega
    have hm16 : m ≤ 16 := by omega
    clear hbad
    go_enter Try.func20, Try.ntmps20
    go_wp2_with (fail)
    go_loopg [21] m (fun gk iv wx => ∃ i : Nat, iv = .int .i64 (i : Nat) ∧ i + gk = m ∧ (∀ r ∈ l.take i, badB n r = false) ∧ Below w.heap.size w wx)
    case atStart => exact ⟨0, rfl, by omega, (fun r hr => by simp at hr), Below.refl _ _⟩
    case round =>
      obtain ⟨i, rfl, hi, hall, hbl⟩ := hrel
      have haH := Lib.hid hall
      have hblH := Lib.hid hbl
      clear hall hbl
      by_cases him : i < m
      · obtain ⟨g1, rfl⟩ : ∃ g1, gk = g1 + 1 := ⟨gk - 1, by omega⟩
        have hiI : (i : Int) < (m : Int) := by omega
        have hi0 : (0 : Int) ≤ (i : Int) := by omega
        obtain ⟨r, hr⟩ : ∃ r, l[i]? = some r := ⟨_, List.getElem?_eq_getElem (by rw [hmH.out]; exact him)⟩
        obtain ⟨kb, ob, hao, e0, e1, e2, e3⟩ := (hBH.out.below hblH.out) i r hr
        have haoH := Lib.hid hao
        have hrH := Lib.hid hr
        subst hao
        clear hr
        go_upto_region 6 with (fail)
        have hbV := Lib.hid (hblH.out.alloc hblH.out.size (Obj.cells #[.int .i64 r.A, .int .i64 r.B, .int .i64 r.o, .int .i64 r.u] 32))
        obtain ⟨V, hV⟩ : ∃ V, V = wr.alloc (Obj.cells #[.int .i64 r.A, .int .i64 r.B, .int .i64 r.o, .int .i64 r.u] 32) := ⟨_, rfl⟩
        have x0 : V.cell? ⟨wr.heap.size, 0, none⟩ = some (.int .i64 r.A) := by rw [hV]; simp [go_sem]
        have x1 : V.cell? ⟨wr.heap.size, 1, none⟩ = some (.int .i64 r.B) := by rw [hV]; simp [go_sem]
        have x2 : V.cell? ⟨wr.heap.size, 2, none⟩ = some (.int .i64 r.o) := by rw [hV]; simp [go_sem]
        have x3 : V.cell? ⟨wr.heap.size, 3, none⟩ = some (.int .i64 r.u) := by rw [hV]; simp [go_sem]
        rw [← hV] at hbV ⊢
        clear hV e0 e1 e2 e3
        go_cut [76] from 22 to 77 (fun bv wx => bv = .bool (badB n r) ∧ V = wx)
        case first =>
          by_cases hA0 : r.A < 0
          · have hbadH : Hid (badB n r = true) := by show _ = _; unfold badB; exact decide_eq_true (by omega)
            go_wp2_with (fail)
            go_meet
            case rel => exact ⟨congrArg Value.bool hbadH.out.symm, rfl⟩
          · by_cases hAn : n ≤ r.A
            · have hbadH : Hid (badB n r = true) := by show _ = _; unfold badB; exact decide_eq_true (by omega)
              go_wp2_with (fail)
              go_meet
              case rel => exact ⟨congrArg Value.bool hbadH.out.symm, rfl⟩
            · by_cases hB0 : r.B < 0
              · have hbadH : Hid (badB n r = true) := by show _ = _; unfold badB; exact decide_eq_true (by omega)
                go_wp2_with (fail)
                go_meet
                case rel => exact ⟨congrArg Value.bool hbadH.out.symm, rfl⟩
              · by_cases hBn : n ≤ r.B
                · have hbadH : Hid (badB n r = true) := by show _ = _; unfold badB; exact decide_eq_true (by omega)
                  go_wp2_with (fail)
                  go_meet
                  case rel => exact ⟨congrArg Value.bool hbadH.out.symm, rfl⟩
                · by_cases hAB : r.A = r.B
                  · have hbadH : Hid (badB n r = true) := by show _ = _; unfold badB; exact decide_eq_true (by omega)
                    have hABB : (r.A == r.B) = true := by simpa using hAB
                    have hABH := Lib.hid hAB
                    clear hAB
                    go_wp2_with (fail)
                    go_meet
                    case rel => exact ⟨congrArg Value.bool hbadH.out.symm, rfl⟩
                  · have hABB : (r.A == r.B) = false := by simpa using hAB
                    by_cases ho0 : r.o = 0
                    · have hbadH : Hid (badB n r = true) := by show _ = _; unfold badB; exact decide_eq_true (by omega)
                      have ho0B : (r.o == 0) = true := by simpa using ho0
                      have ho0H := Lib.hid ho0
                      clear ho0
                      go_wp2_with (fail)
                      go_meet
                      case rel => exact ⟨congrArg Value.bool hbadH.out.symm, rfl⟩
                    · have ho0B : (r.o == 0) = false := by simpa using ho0
                      by_cases ho1 : r.o < -1000
                      · have hbadH : Hid (badB n r = true) := by show _ = _; unfold badB; exact decide_eq_true (by omega)
                        go_wp2_with (fail)
                        go_meet
                        case rel => exact ⟨congrArg Value.bool hbadH.out.symm, rfl⟩
                      · by_cases ho2 : 1000 < r.o
                        · have hbadH : Hid (badB n r = true) := by show _ = _; unfold badB; exact decide_eq_true (by omega)
                          go_wp2_with (fail)
                          go_meet
                          case rel => exact ⟨congrArg Value.bool hbadH.out.symm, rfl⟩
                        · by_cases hu1 : r.u < 1
                          · have hbadH : Hid (badB n r = true) := by show _ = _; unfold badB; exact decide_eq_true (by omega)
                            go_wp2_with (fail)
                            go_meet
                            case rel => exact ⟨congrArg Value.bool hbadH.out.symm, rfl⟩
                          · by_cases hu2 : 1000 < r.u
                            · have hbadH : Hid (badB n r = true) := by show _ = _; unfold badB; exact decide_eq_true (by omega)
                              go_wp2_with (fail)
                              go_meet
                              case rel => exact ⟨congrArg Value.bool hbadH.out.symm, rfl⟩
                            · have hbadH : Hid (badB n r = false) := by show _ = _; unfold badB; exact decide_eq_false (by omega)
                              go_wp2_with (fail)
                              go_meet
                              case rel => exact ⟨congrArg Value.bool hbadH.out.symm, rfl⟩
        case rest =>
          obtain ⟨rfl, rfl⟩ := hcut
          clear x0 x1 x2 x3
          rcases hbr : badB n r with _ | _
          · have hn : Hid (∀ r ∈ l.take (i + 1), badB n r = false) := fun q hq => by
              rw [List.take_add_one, hrH.out, List.mem_append] at hq
              rcases hq with hq | hq
              · exact haH.out q hq
              · have : q = r := by simpa using hq
                rw [this]; exact hbr
            clear hbr
            go_wp2_with (fail)
            go_roundg g1
            case measure => omega
            case rel => exact ⟨i + 1, by go_num, by omega, hn.out, hbV.out⟩
          · have hk : Hid (okGear n l = false) := by
              show _ = _
              unfold okGear
              rw [Bool.and_eq_false_iff]
              right
              rw [List.all_eq_false]
              exact ⟨r, List.mem_of_getElem? hrH.out, by rw [hbr]; simp⟩
            clear hbr
            go_wp2_with (fail)
            go_ret2
            rw [hk.out]
            exact ⟨rfl, hbV.out⟩
      · have hie : m = i := by omega
        subst hie
        have hmI : ¬ (m : Int) < (m : Int) := by omega
        have hk : Hid (okGear n l = true) := by
          show _ = _
          have h5 := haH.out
          rw [List.take_of_length_le (by rw [hmH.out]; exact Nat.le_refl _)] at h5
          unfold okGear
          simp only [Bool.and_eq_true, decide_eq_true_eq, List.all_eq_true]
          refine ⟨⟨⟨by omega, by omega⟩, by rw [hmH.out]; exact hm16⟩, fun r hr => by rw [h5 r hr]; rfl⟩
        have hnn : Hid (((n.toNat : Nat) : Int) = n) := by show _ = _; omega
        go_wp2_with (fail)
        go_ret2
        rw [hk.out]
        exact ⟨wr.heap.size, rfl, ⟨by rw [hnn.out]; simp [go_sem], by simp [go_sem]⟩, hblH.out.size, hblH.out.alloc hblH.out.size _⟩
end Go.Proofs.Ytkecdjdggkpdpab
