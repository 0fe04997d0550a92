/- Kk Kl -/
import Derived.Test.YtkecdjdggkpdpabQKi
import Derived.Test.YtkecdjdggkpdpabQWi
set_option linter.unusedVariables false
/- Walks of gear.nums, gear.Speeds, gear.Ratio. -/
namespace Go.Proofs.Ytkecdjdggkpdpab
open Go Go.RowKit Go.Proofs

/-- No belt is left out. -/
def wo0 : Nat → Bool := fun _ => false
theorem eg_none : ∀ args w, (callFunc 22 args).run Try.prog w = .ok (.enter 22 args) w := enters_of Try.func22 (by kernel_rfl) rfl
theorem wo_none (m : Nat) (w : World) : ∀ i W, i < m → Below w.heap.size w W → Calls Try.prog 22 (#[.int .i64 (i : Nat)] ++ #[]) W (RetB W (wo0 i)) := fun i W _ _ => none_any (i : Nat) W
theorem speeds_none (bg cb n m : Nat) (ao : Option Addr) (l : List BtK) (w : World) (hG : GM w bg n ao m cb) (hB : BV w ao l) (hm : l.length = m) (hl : ∀ b ∈ l, okBt n b) (hn1 : 1 ≤ n) (hn : n ≤ 10) (hm16 : m ≤ 16) :
    Calls Try.prog 21 #[.pointer (some ⟨bg, 0, none⟩), .func (.func 22) #[] #[]] w (SpPost wo0 l n w) := speeds_any bg cb n m _ ao #[] wo0 l w hG.1 hG.2 hB hm hl hn1 hn hm16 (wo_none m w) eg_none
theorem turns_none (bg cb n m : Nat) (ao : Option Addr) (l : List BtK) (w : World) (hG : GM w bg n ao m cb) (hB : BV w ao l) (hm : l.length = m) (hl : ∀ b ∈ l, okBt n b) (hn1 : 1 ≤ n) (hn : n ≤ 10) (hm16 : m ≤ 16) :
    Calls Try.prog 23 #[.pointer (some ⟨bg, 0, none⟩), .func (.func 22) #[] #[]] w (RetB w (turnsG wo0 l n)) := turns_any bg cb n m _ ao #[] wo0 l w hG.1 hG.2 hB hm hl hn1 hn hm16 (wo_none m w) eg_none
/-- The speeds as a list. -/
def spL (s : St) : List Rat := s.map fun x => (x.getD (0, 0)).2
theorem spL_get {s : St} {j f : Nat} {q : Rat} (h : stG s j = some (f, q)) : (spL s)[j]? = some q := by
  unfold stG at h
  unfold spL
  rw [List.getElem?_map]
  rcases hj : s[j]? with _ | x
  · rw [hj] at h; cases h
  · rw [hj] at h
    have : x = some (f, q) := h
    subst this; rfl
theorem p10_lt {a b : Nat} (h : a < b) : p10 a < p10 b := by unfold p10; exact Nat.pow_lt_pow_right (by decide) h
theorem Wd.short {k : Nat} {q : Rat} (h : Wd k q) (hk : k ≤ 20) : (rn q).natAbs < p10 4000 ∧ (rd q).natAbs < p10 4000 := by
  have h1 : 1000 ^ k ≤ 1000 ^ 20 := Nat.pow_le_pow_right (by decide) hk
  have h2 : 1000 ^ 20 = p10 60 := by unfold p10; rw [show (1000 : Nat) = 10 ^ 3 by rfl, ← Nat.pow_mul]
  rw [h2] at h1
  have key := Nat.lt_of_le_of_lt h1 (p10_lt (show 60 < 4000 by decide))
  exact ⟨Nat.lt_of_le_of_lt h.1 key, Nat.lt_of_le_of_lt h.2 key⟩
theorem SPm.ql {w0 w : World} {gs gp n : Nat} {s : St} (h : SPm w0 w gs gp n s) (hall : ∀ j, j < n → ∃ v, stG s j = some v) : QL w (some ⟨gs, 0, none⟩) (spL s) := fun i q hq => by
  have hi : i < n := by
    have := (List.getElem?_eq_some_iff.1 hq).1
    unfold spL at this
    rw [List.length_map, h.len] at this
    exact this
  obtain ⟨⟨f, p⟩, hv⟩ := hall i hi
  rw [spL_get hv] at hq
  cases hq
  obtain ⟨a, c, a', c', h0, h1, h2, h3, h4⟩ := h.rat i f q hv
  exact ⟨gs, 0, ⟨a, c, a', c'⟩, rfl, h4, by rw [Nat.zero_add]; exact h0, by rw [Nat.zero_add]; exact h1, by rw [Nat.zero_add]; exact h2, by rw [Nat.zero_add]; exact h3⟩
theorem SV.mono {w : World} {base base' : Nat} {v : Value} {ss : List ByteArray} (h : SV w base v ss) (hb : base' ≤ base) : SV w base' v ss := by
  refine ⟨⟨h.1.1, ?_⟩, h.2⟩
  rcases h.1.2 with h' | ⟨g', cap', cur, hv, h1, hg, h2⟩
  · exact .inl h'
  · exact .inr ⟨g', cap', cur, hv, by omega, hg, h2⟩
def SpdPost (t : Bool) (ss : List ByteArray) (w : World) (e : Ending) (w' : World) : Prop :=
  match t with
  | false => e = .returned (.tuple #[.slice none 0 0, .int .i64 5]) ∧ Below w.heap.size w w'
  | true => RetNums w ss e w'
end Go.Proofs.Ytkecdjdggkpdpab

/- Walk of gear.Ratio. -/
namespace Go.Proofs.Ytkecdjdggkpdpab
open Go Go.RowKit Go.Proofs

/-- A wheel's part and speed. -/
def prt (s : St) (j : Nat) : Nat := match stG s j with
  | some (f, _) => f
  | none => 0
def spd (s : St) (j : Nat) : Rat := match stG s j with
  | some (_, q) => q
  | none => 0
def RetS (w : World) (x : ByteArray) (z : Int) (e : Ending) (w' : World) : Prop := e = .returned (.tuple #[.string x, .int .i64 z]) ∧ Below w.heap.size w w'
set_option maxHeartbeats 3200000 in
theorem ratioP_bad (n : Int) (ao : Option Addr) (m cb : Nat) (l : List Rb) (a b : Int) (w : World) (hB : RV w ao l) (hm : l.length = m) (hm2 : m ≤ 9223372036854775807) (hbad : okGear n l = false ∨ a < 0 ∨ n ≤ a ∨ b < 0 ∨ n ≤ b) :
    Calls Try.prog 5 #[.int .i64 n, .slice ao m cb, .int .i64 a, .int .i64 b] w (RetS w ⟨#[]⟩ 1) := by
  have hrd := read_gear n ao m cb l w hB hm hm2
  rcases hok : okGear n l with _ | _
  · rw [hok] at hrd
    have hrdH := Lib.hid hrd
    clear hrd hB hm hbad hok
    go_enter Try.func5, Try.ntmps5
    go_wp2_with (go_at_call 20; go_loud (refine hrdH.out.mono ?_); rintro e w1 ⟨rfl, hb1⟩; have hb1H := Lib.hid hb1; clear hb1)
    go_ret2
    exact ⟨rfl, hb1H.out⟩
  · rw [hok] at hrd hbad
    have hrdH := Lib.hid hrd
    have hb2 : a < 0 ∨ n ≤ a ∨ b < 0 ∨ n ≤ b := by rcases hbad with h | h; cases h; exact h
    clear hrd hB hm hbad hok
    by_cases h1 : a < 0
    · clear hb2
      go_enter Try.func5, Try.ntmps5
      go_wp2_with (go_at_call 20; go_loud (refine hrdH.out.mono ?_); rintro e w1 ⟨bg, rfl, hG, _, hb1⟩; have hb1H := Lib.hid hb1; clear hb1 hG)
      go_ret2
      exact ⟨rfl, hb1H.out⟩
    · by_cases h2 : n ≤ a
      · clear hb2
        go_enter Try.func5, Try.ntmps5
        go_wp2_with (go_at_call 20; go_loud (refine hrdH.out.mono ?_); rintro e w1 ⟨bg, rfl, hG, _, hb1⟩; have hb1H := Lib.hid hb1; clear hb1 hG)
        go_ret2
        exact ⟨rfl, hb1H.out⟩
      · by_cases h3 : b < 0
        · clear hb2
          go_enter Try.func5, Try.ntmps5
          go_wp2_with (go_at_call 20; go_loud (refine hrdH.out.mono ?_); rintro e w1 ⟨bg, rfl, hG, _, hb1⟩; have hb1H := Lib.hid hb1; clear hb1 hG)
          go_ret2
          exact ⟨rfl, hb1H.out⟩
        · have h4 : n ≤ b := by omega
          clear hb2
          go_enter Try.func5, Try.ntmps5
          go_wp2_with (go_at_call 20; go_loud (refine hrdH.out.mono ?_); rintro e w1 ⟨bg, rfl, hG, _, hb1⟩; have hb1H := Lib.hid hb1; clear hb1 hG)
          go_ret2
          exact ⟨rfl, hb1H.out⟩
section
attribute [local go_sem] undef
set_option maxRecDepth 100000 in
set_option maxHeartbeats 6400000 in
theorem ratioP_at (n : Nat) (ao : Option Addr) (m cb : Nat) (l : List BtK) (a b : Nat) (t : Bool) (w : World) (hB : RV w ao (l.map toR)) (hm : l.length = m) (hg : okGear (n : Int) (l.map toR) = true) (hl : ∀ b ∈ l, okBt n b) (hn1 : 1 ≤ n) (hn : n ≤ 10) (hm16 : m ≤ 16) (ha : a < n) (hb : b < n)
    (ht : (turnsG wo0 l n && decide (prt (speedsG wo0 l n n) a = prt (speedsG wo0 l n n) b)) = t) :
    Calls Try.prog 5 #[.int .i64 (n : Nat), .slice ao m cb, .int .i64 (a : Nat), .int .i64 (b : Nat)] w (match (generalizing := false) t with
      | false => RetS w ⟨#[]⟩ 5
      | true => RetS w (nt (spd (speedsG wo0 l n n) b / spd (speedsG wo0 l n n) a)) 0) := by
  have hrd := read_gear (n : Int) ao m cb (l.map toR) w hB (by rw [List.length_map]; exact hm) (by omega)
  rw [hg] at hrd
  have hrdH := Lib.hid hrd
  have hBH := Lib.hid hB.bv
  have hmH := Lib.hid hm
  have hlH := Lib.hid hl
  have hok := Lib.hid (okSt.speeds (wo := wo0) hl n (Nat.le_refl _))
  obtain ⟨⟨fa, qa⟩, hva⟩ := speeds_all (wo := wo0) hl n (Nat.le_refl _) a ha
  obtain ⟨⟨fb, qb⟩, hvb⟩ := speeds_all (wo := wo0) hl n (Nat.le_refl _) b hb
  obtain ⟨s, hs⟩ : ∃ s, speedsG wo0 l n n = s := ⟨_, rfl⟩
  rw [hs] at hok hva hvb ht ⊢
  have hsH := Lib.hid hs
  have hea : spd s a = qa := by unfold spd; rw [hva]
  have heb : spd s b = qb := by unfold spd; rw [hvb]
  have hfa : prt s a = fa := by unfold prt; rw [hva]
  have hfb : prt s b = fb := by unfold prt; rw [hvb]
  rw [hea, heb]
  rw [hfa, hfb] at ht
  have haI : (a : Int) < (n : Int) := by omega
  have hbI : (b : Int) < (n : Int) := by omega
  have ha0 : (0 : Int) ≤ (a : Int) := by omega
  have hb0 : (0 : Int) ≤ (b : Int) := by omega
  have hc := cntS_le s
  rw [hok.out.1] at hc
  have wa := (hok.out.2 a fa qa hva)
  have wb := (hok.out.2 b fb qb hvb)
  have sza := Lib.hid (wa.2.2.sz (by omega))
  have szb := Lib.hid (wb.2.2.sz (by omega))
  have hra := Lib.hid (rn_ne wa.2.1)
  have wd := (wb.2.2.div wa.2.2 wa.2.1).mono (show cntS s + cntS s ≤ 20 by omega)
  have szd := Lib.hid (wd.sz (by omega))
  have hnum := Lib.hid (numRes_ok (wd.short (Nat.le_refl _)).1 (wd.short (Nat.le_refl _)).2)
  have hvaH := Lib.hid hva
  have hvbH := Lib.hid hvb
  obtain ⟨tt, htt⟩ : ∃ tt, turnsG wo0 l n = tt := ⟨_, rfl⟩
  have httH := Lib.hid htt
  rw [htt] at ht
  clear hrd hB hm hg hl hs hea heb hfa hfb hc wa wb wd hva hvb htt
  go_enter Try.func5, Try.ntmps5
  go_upto_region 5 with (first
    | (go_at_call 20; go_loud (refine hrdH.out.mono ?_); rintro e w1 ⟨bg, rfl, hG, _, hb1⟩; have hG1 := Lib.hid hG; have hb1H := Lib.hid hb1; have hB1 := Lib.hid (hBH.out.below hb1); clear hG hb1)
    | (go_at_call 21; go_loud (refine (speeds_none bg cb n m ao l _ hG1.out hB1.out hmH.out hlH.out hn1 hn hm16).mono ?_); rintro e w3 ⟨gs, gp, rfl, hS⟩; rw [hsH.out] at hS; have hS3 := Lib.hid hS; have hb3 := Lib.hid (bseqK hb1H.out hS.bl); have hG3 := Lib.hid (hG1.out.below hS.bl); have hB3 := Lib.hid (hB1.out.below hS.bl); clear hS))
  have pa := hS3.out.part ha
  have pb := hS3.out.part hb
  rw [hvaH.out] at pa
  rw [hvbH.out] at pb
  have pa' : w3.cell? ⟨gp, a, none⟩ = some (.int .i64 (fa : Nat)) := pa
  have pb' : w3.cell? ⟨gp, b, none⟩ = some (.int .i64 (fb : Nat)) := pb
  have hup : Hid (∀ w', Below w3.heap.size w3 w' → w'.cell? ⟨gp, a, none⟩ = some (.int .i64 (fa : Nat)) ∧ w'.cell? ⟨gp, b, none⟩ = some (.int .i64 (fb : Nat))) := fun w' hb => ⟨Below.cellAt hb (Nat.le_refl _) pa', Below.cellAt hb (Nat.le_refl _) pb'⟩
  clear pa pb pa' pb'
  go_cut [58] from 45 to 58 (fun bv wx => bv = .bool (!t) ∧ Below w3.heap.size w3 wx)
  case first =>
    cases tt
    · have ht2 : Hid (t = false) := by show _ = _; rw [← ht]; rfl
      clear ht
      -- tree S: fun w' => True
      -- tree s0: trivial
      -- arm 1: go_at_call 23; (refine (turns_none bg cb n m ao l _ (hG3.out.below (Below.drew (Below.refl _ _))) (hB3.out.below (Below.drew (Below.refl _ _))) hmH.out hlH.out hn1 hn hm16).mono ?_); rintro e w4 ⟨rfl, hb4⟩; rw [httH.out]; have hq4 := Lib.hid (bseqK (Below.drew (Below.refl _ _)) hb4); clear hb4
      -- arm 1 s: trivial
      -- leaf: (go_wp2_with (fail); go_meet; (case rel => exact ⟨by rw [ht2.out]; rfl, hq4.out⟩))
      -- tree na 0 c1 2 3 s4 s5 s6 s7 s8 s9 s10 s11 s12 13
      refine wp_region_tail (fun w' => True) (fun j => decide (1000 ≤ j)) (by kernel_rfl) (trivial) (fun hHeld => ?_)
      refine wpAnyT_take (i := 0) (oi := ?oina_1) (v := ?vna_1) ?hona_1 (by kernel_rfl) (by kernel_rfl) (by kernel_rfl) (by kernel_rfl) ?hqna_1 (Or.inl ⟨?hwna_1, ?hyna_1⟩) (by assumption) ?_
      case hona_1 => rfl
      case hwna_1 => rfl
      case hyna_1 => (intro w hSw; (try dsimp only at hSw); go_split_ands; go_simp; (try (with_reducible rfl)))
      case hqna_1 => exact fun _ _ _ h => h
      simp only [Act.put, List.getElem_toArray, List.getElem_cons_zero, List.setIfInBounds_toArray, List.set_cons_zero, List.set_cons_succ]
      refine wpAnyT_one (i := 1) (o := ?oina_2) (by kernel_rfl) ?hona_2 (fun K hK => ?_)
      case hona_2 => rfl
      rw [if_pos (by rfl)]
      go_simp
      go_at_call 23; (refine (turns_none bg cb n m ao l _ (hG3.out.below (Below.drew (Below.refl _ _))) (hB3.out.below (Below.drew (Below.refl _ _))) hmH.out hlH.out hn1 hn hm16).mono ?_); rintro e w4 ⟨rfl, hb4⟩; rw [httH.out]; have hq4 := Lib.hid (bseqK (Below.drew (Below.refl _ _)) hb4); clear hb4
      (try go_wp2_with (fail))
      refine hK.out _ _ (fun _ => trivial) (fun hHeld => ?_)
      replace hHeld := hHeld rfl
      clear hK K
      refine wpAnyT_take (i := 2) (oi := ?oina_3) (v := ?vna_3) ?hona_3 (by kernel_rfl) (by kernel_rfl) (by kernel_rfl) (by kernel_rfl) ?hqna_3 (Or.inl ⟨?hwna_3, ?hyna_3⟩) (by assumption) ?_
      case hona_3 => rfl
      case hwna_3 => rfl
      case hyna_3 => (intro w hSw; (try dsimp only at hSw); go_split_ands; go_simp; (try (with_reducible rfl)))
      case hqna_3 => exact fun _ _ _ h => h
      simp only [Act.put, List.getElem_toArray, List.getElem_cons_succ, List.getElem_cons_zero, List.setIfInBounds_toArray, List.set_cons_zero, List.set_cons_succ]
      refine wpAnyT_take (i := 3) (oi := ?oina_4) (v := ?vna_4) ?hona_4 (by kernel_rfl) (by kernel_rfl) (by kernel_rfl) (by kernel_rfl) ?hqna_4 (Or.inl ⟨?hwna_4, ?hyna_4⟩) (by assumption) ?_
      case hona_4 => rfl
      case hwna_4 => rfl
      case hyna_4 => (intro w hSw; (try dsimp only at hSw); go_split_ands; go_simp; (try (with_reducible rfl)))
      case hqna_4 => exact fun _ _ _ h => h
      simp only [Act.put, List.getElem_toArray, List.getElem_cons_succ, List.getElem_cons_zero, List.setIfInBounds_toArray, List.set_cons_zero, List.set_cons_succ]
      refine wpAnyT_take (i := 4) (oi := ?oina_5) (v := undef) ?hona_5 (by kernel_rfl) (by kernel_rfl) (by kernel_rfl) (by kernel_rfl) ?hqna_5 (Or.inr ⟨?hwna_5, rfl⟩) (by assumption) ?_
      case hona_5 => rfl
      case hwna_5 => rfl
      case hqna_5 => exact fun _ _ _ h => h
      simp only [Act.put, List.getElem_toArray, List.getElem_cons_succ, List.getElem_cons_zero, List.setIfInBounds_toArray, List.set_cons_zero, List.set_cons_succ]
      refine wpAnyT_take (i := 5) (oi := ?oina_6) (v := undef) ?hona_6 (by kernel_rfl) (by kernel_rfl) (by kernel_rfl) (by kernel_rfl) ?hqna_6 (Or.inr ⟨?hwna_6, rfl⟩) (by assumption) ?_
      case hona_6 => rfl
      case hwna_6 => rfl
      case hqna_6 => exact fun _ _ _ h => h
      simp only [Act.put, List.getElem_toArray, List.getElem_cons_succ, List.getElem_cons_zero, List.setIfInBounds_toArray, List.set_cons_zero, List.set_cons_succ]
      refine wpAnyT_take (i := 6) (oi := ?oina_7) (v := undef) ?hona_7 (by kernel_rfl) (by kernel_rfl) (by kernel_rfl) (by kernel_rfl) ?hqna_7 (Or.inr ⟨?hwna_7, rfl⟩) (by assumption) ?_
      case hona_7 => rfl
      case hwna_7 => rfl
      case hqna_7 => exact fun _ _ _ h => h
      simp only [Act.put, List.getElem_toArray, List.getElem_cons_succ, List.getElem_cons_zero, List.setIfInBounds_toArray, List.set_cons_zero, List.set_cons_succ]
      refine wpAnyT_take (i := 7) (oi := ?oina_8) (v := undef) ?hona_8 (by kernel_rfl) (by kernel_rfl) (by kernel_rfl) (by kernel_rfl) ?hqna_8 (Or.inr ⟨?hwna_8, rfl⟩) (by assumption) ?_
      case hona_8 => rfl
      case hwna_8 => rfl
      case hqna_8 => exact fun _ _ _ h => h
      simp only [Act.put, List.getElem_toArray, List.getElem_cons_succ, List.getElem_cons_zero, List.setIfInBounds_toArray, List.set_cons_zero, List.set_cons_succ]
      refine wpAnyT_take (i := 8) (oi := ?oina_9) (v := undef) ?hona_9 (by kernel_rfl) (by kernel_rfl) (by kernel_rfl) (by kernel_rfl) ?hqna_9 (Or.inr ⟨?hwna_9, rfl⟩) (by assumption) ?_
      case hona_9 => rfl
      case hwna_9 => rfl
      case hqna_9 => exact fun _ _ _ h => h
      simp only [Act.put, List.getElem_toArray, List.getElem_cons_succ, List.getElem_cons_zero, List.setIfInBounds_toArray, List.set_cons_zero, List.set_cons_succ]
      refine wpAnyT_take (i := 9) (oi := ?oina_10) (v := undef) ?hona_10 (by kernel_rfl) (by kernel_rfl) (by kernel_rfl) (by kernel_rfl) ?hqna_10 (Or.inr ⟨?hwna_10, rfl⟩) (by assumption) ?_
      case hona_10 => rfl
      case hwna_10 => rfl
      case hqna_10 => exact fun _ _ _ h => h
      simp only [Act.put, List.getElem_toArray, List.getElem_cons_succ, List.getElem_cons_zero, List.setIfInBounds_toArray, List.set_cons_zero, List.set_cons_succ]
      refine wpAnyT_take (i := 10) (oi := ?oina_11) (v := undef) ?hona_11 (by kernel_rfl) (by kernel_rfl) (by kernel_rfl) (by kernel_rfl) ?hqna_11 (Or.inr ⟨?hwna_11, rfl⟩) (by assumption) ?_
      case hona_11 => rfl
      case hwna_11 => rfl
      case hqna_11 => exact fun _ _ _ h => h
      simp only [Act.put, List.getElem_toArray, List.getElem_cons_succ, List.getElem_cons_zero, List.setIfInBounds_toArray, List.set_cons_zero, List.set_cons_succ]
      refine wpAnyT_take (i := 11) (oi := ?oina_12) (v := undef) ?hona_12 (by kernel_rfl) (by kernel_rfl) (by kernel_rfl) (by kernel_rfl) ?hqna_12 (Or.inr ⟨?hwna_12, rfl⟩) (by assumption) ?_
      case hona_12 => rfl
      case hwna_12 => rfl
      case hqna_12 => exact fun _ _ _ h => h
      simp only [Act.put, List.getElem_toArray, List.getElem_cons_succ, List.getElem_cons_zero, List.setIfInBounds_toArray, List.set_cons_zero, List.set_cons_succ]
      refine wpAnyT_take (i := 12) (oi := ?oina_13) (v := undef) ?hona_13 (by kernel_rfl) (by kernel_rfl) (by kernel_rfl) (by kernel_rfl) ?hqna_13 (Or.inr ⟨?hwna_13, rfl⟩) (by assumption) ?_
      case hona_13 => rfl
      case hwna_13 => rfl
      case hqna_13 => exact fun _ _ _ h => h
      simp only [Act.put, List.getElem_toArray, List.getElem_cons_succ, List.getElem_cons_zero, List.setIfInBounds_toArray, List.set_cons_zero, List.set_cons_succ]
      refine wpAnyT_take (i := 13) (oi := ?oina_14) (v := ?vna_14) ?hona_14 (by kernel_rfl) (by kernel_rfl) (by kernel_rfl) (by kernel_rfl) ?hqna_14 (Or.inl ⟨?hwna_14, ?hyna_14⟩) (by assumption) ?_
      case hona_14 => rfl
      case hwna_14 => rfl
      case hyna_14 => (intro w hSw; (try dsimp only at hSw); go_split_ands; go_simp; (try (with_reducible rfl)))
      case hqna_14 => exact fun _ _ _ h => h
      simp only [Act.put, List.getElem_toArray, List.getElem_cons_succ, List.getElem_cons_zero, List.setIfInBounds_toArray, List.set_cons_zero, List.set_cons_succ]
      refine wpAnyT_done (by kernel_rfl) ?_ _
      (go_wp2_with (fail); go_meet; (case rel => exact ⟨by rw [ht2.out]; rfl, hq4.out⟩))
      -- tree end
    · have ht2 : Hid (t = decide (fa = fb)) := by show _ = _; rw [← ht]; rfl
      clear ht
      -- tree S: fun w' => w'.cell? ⟨gp, a, none⟩ = some (.int .i64 (fa : Nat)) ∧ w'.cell? ⟨gp, b, none⟩ = some (.int .i64 (fb : Nat))
      -- tree s0: hup.out _ (Below.drew (Below.refl _ _))
      -- arm 1 s: hup.out _ hq4.out
      -- leaf: (go_wp2_with (fail); go_meet; (case rel => exact ⟨by rw [ht2.out]; congr 1; (by_cases h : fa = fb); (simp [h]); (have h2 : ¬ (fa : Int) = (fb : Int) := by omega); (simp [h, h2]), hq4.out⟩))
      -- tree nb 0 c1 2 3 4 5 6 7 8 9 10 11 12 13
      refine wp_region_tail (fun w' => w'.cell? ⟨gp, a, none⟩ = some (.int .i64 (fa : Nat)) ∧ w'.cell? ⟨gp, b, none⟩ = some (.int .i64 (fb : Nat))) (fun j => decide (1000 ≤ j)) (by kernel_rfl) (hup.out _ (Below.drew (Below.refl _ _))) (fun hHeld => ?_)
      refine wpAnyT_take (i := 0) (oi := ?oinb_1) (v := ?vnb_1) ?honb_1 (by kernel_rfl) (by kernel_rfl) (by kernel_rfl) (by kernel_rfl) ?hqnb_1 (Or.inl ⟨?hwnb_1, ?hynb_1⟩) (by assumption) ?_
      case honb_1 => rfl
      case hwnb_1 => rfl
      case hynb_1 => (intro w hSw; (try dsimp only at hSw); go_split_ands; go_simp; (try (with_reducible rfl)))
      case hqnb_1 => exact fun _ _ _ h => h
      simp only [Act.put, List.getElem_toArray, List.getElem_cons_zero, List.setIfInBounds_toArray, List.set_cons_zero, List.set_cons_succ]
      refine wpAnyT_one (i := 1) (o := ?oinb_2) (by kernel_rfl) ?honb_2 (fun K hK => ?_)
      case honb_2 => rfl
      rw [if_pos (by rfl)]
      go_simp
      go_at_call 23; (refine (turns_none bg cb n m ao l _ (hG3.out.below (Below.drew (Below.refl _ _))) (hB3.out.below (Below.drew (Below.refl _ _))) hmH.out hlH.out hn1 hn hm16).mono ?_); rintro e w4 ⟨rfl, hb4⟩; rw [httH.out]; have hq4 := Lib.hid (bseqK (Below.drew (Below.refl _ _)) hb4); clear hb4
      (try go_wp2_with (fail))
      refine hK.out _ _ (fun _ => hup.out _ hq4.out) (fun hHeld => ?_)
      replace hHeld := hHeld rfl
      clear hK K
      refine wpAnyT_take (i := 2) (oi := ?oinb_3) (v := ?vnb_3) ?honb_3 (by kernel_rfl) (by kernel_rfl) (by kernel_rfl) (by kernel_rfl) ?hqnb_3 (Or.inl ⟨?hwnb_3, ?hynb_3⟩) (by assumption) ?_
      case honb_3 => rfl
      case hwnb_3 => rfl
      case hynb_3 => (intro w hSw; (try dsimp only at hSw); go_split_ands; go_simp; (try (with_reducible rfl)))
      case hqnb_3 => exact fun _ _ _ h => h
      simp only [Act.put, List.getElem_toArray, List.getElem_cons_succ, List.getElem_cons_zero, List.setIfInBounds_toArray, List.set_cons_zero, List.set_cons_succ]
      refine wpAnyT_take (i := 3) (oi := ?oinb_4) (v := ?vnb_4) ?honb_4 (by kernel_rfl) (by kernel_rfl) (by kernel_rfl) (by kernel_rfl) ?hqnb_4 (Or.inl ⟨?hwnb_4, ?hynb_4⟩) (by assumption) ?_
      case honb_4 => rfl
      case hwnb_4 => rfl
      case hynb_4 => (intro w hSw; (try dsimp only at hSw); go_split_ands; go_simp; (try (with_reducible rfl)))
      case hqnb_4 => exact fun _ _ _ h => h
      simp only [Act.put, List.getElem_toArray, List.getElem_cons_succ, List.getElem_cons_zero, List.setIfInBounds_toArray, List.set_cons_zero, List.set_cons_succ]
      refine wpAnyT_take (i := 4) (oi := ?oinb_5) (v := ?vnb_5) ?honb_5 (by kernel_rfl) (by kernel_rfl) (by kernel_rfl) (by kernel_rfl) ?hqnb_5 (Or.inl ⟨?hwnb_5, ?hynb_5⟩) (by assumption) ?_
      case honb_5 => rfl
      case hwnb_5 => rfl
      case hynb_5 => (intro w hSw; (try dsimp only at hSw); go_split_ands; go_simp; (try (with_reducible rfl)))
      case hqnb_5 => exact fun _ _ _ h => h
      simp only [Act.put, List.getElem_toArray, List.getElem_cons_succ, List.getElem_cons_zero, List.setIfInBounds_toArray, List.set_cons_zero, List.set_cons_succ]
      refine wpAnyT_take (i := 5) (oi := ?oinb_6) (v := ?vnb_6) ?honb_6 (by kernel_rfl) (by kernel_rfl) (by kernel_rfl) (by kernel_rfl) ?hqnb_6 (Or.inl ⟨?hwnb_6, ?hynb_6⟩) (by assumption) ?_
      case honb_6 => rfl
      case hwnb_6 => rfl
      case hynb_6 => (intro w hSw; (try dsimp only at hSw); go_split_ands; go_simp; (try (with_reducible rfl)))
      case hqnb_6 => exact fun _ _ _ h => h
      simp only [Act.put, List.getElem_toArray, List.getElem_cons_succ, List.getElem_cons_zero, List.setIfInBounds_toArray, List.set_cons_zero, List.set_cons_succ]
      refine wpAnyT_take (i := 6) (oi := ?oinb_7) (v := ?vnb_7) ?honb_7 (by kernel_rfl) (by kernel_rfl) (by kernel_rfl) (by kernel_rfl) ?hqnb_7 (Or.inl ⟨?hwnb_7, ?hynb_7⟩) (by assumption) ?_
      case honb_7 => rfl
      case hwnb_7 => rfl
      case hynb_7 => (intro w hSw; (try dsimp only at hSw); go_split_ands; go_simp; (try (with_reducible rfl)))
      case hqnb_7 => exact fun _ _ _ h => h
      simp only [Act.put, List.getElem_toArray, List.getElem_cons_succ, List.getElem_cons_zero, List.setIfInBounds_toArray, List.set_cons_zero, List.set_cons_succ]
      refine wpAnyT_take (i := 7) (oi := ?oinb_8) (v := ?vnb_8) ?honb_8 (by kernel_rfl) (by kernel_rfl) (by kernel_rfl) (by kernel_rfl) ?hqnb_8 (Or.inl ⟨?hwnb_8, ?hynb_8⟩) (by assumption) ?_
      case honb_8 => rfl
      case hwnb_8 => rfl
      case hynb_8 => (intro w hSw; (try dsimp only at hSw); go_split_ands; go_simp; (try (with_reducible rfl)))
      case hqnb_8 => exact fun _ _ _ h => h
      simp only [Act.put, List.getElem_toArray, List.getElem_cons_succ, List.getElem_cons_zero, List.setIfInBounds_toArray, List.set_cons_zero, List.set_cons_succ]
      refine wpAnyT_take (i := 8) (oi := ?oinb_9) (v := ?vnb_9) ?honb_9 (by kernel_rfl) (by kernel_rfl) (by kernel_rfl) (by kernel_rfl) ?hqnb_9 (Or.inl ⟨?hwnb_9, ?hynb_9⟩) (by assumption) ?_
      case honb_9 => rfl
      case hwnb_9 => rfl
      case hynb_9 => (intro w hSw; (try dsimp only at hSw); go_split_ands; go_simp; (try (with_reducible rfl)))
      case hqnb_9 => exact fun _ _ _ h => h
      simp only [Act.put, List.getElem_toArray, List.getElem_cons_succ, List.getElem_cons_zero, List.setIfInBounds_toArray, List.set_cons_zero, List.set_cons_succ]
      refine wpAnyT_take (i := 9) (oi := ?oinb_10) (v := ?vnb_10) ?honb_10 (by kernel_rfl) (by kernel_rfl) (by kernel_rfl) (by kernel_rfl) ?hqnb_10 (Or.inl ⟨?hwnb_10, ?hynb_10⟩) (by assumption) ?_
      case honb_10 => rfl
      case hwnb_10 => rfl
      case hynb_10 => (intro w hSw; (try dsimp only at hSw); go_split_ands; go_simp; (try (with_reducible rfl)))
      case hqnb_10 => exact fun _ _ _ h => h
      simp only [Act.put, List.getElem_toArray, List.getElem_cons_succ, List.getElem_cons_zero, List.setIfInBounds_toArray, List.set_cons_zero, List.set_cons_succ]
      refine wpAnyT_take (i := 10) (oi := ?oinb_11) (v := ?vnb_11) ?honb_11 (by kernel_rfl) (by kernel_rfl) (by kernel_rfl) (by kernel_rfl) ?hqnb_11 (Or.inl ⟨?hwnb_11, ?hynb_11⟩) (by assumption) ?_
      case honb_11 => rfl
      case hwnb_11 => rfl
      case hynb_11 => (intro w hSw; (try dsimp only at hSw); go_split_ands; go_simp; (try (with_reducible rfl)))
      case hqnb_11 => exact fun _ _ _ h => h
      simp only [Act.put, List.getElem_toArray, List.getElem_cons_succ, List.getElem_cons_zero, List.setIfInBounds_toArray, List.set_cons_zero, List.set_cons_succ]
      refine wpAnyT_take (i := 11) (oi := ?oinb_12) (v := ?vnb_12) ?honb_12 (by kernel_rfl) (by kernel_rfl) (by kernel_rfl) (by kernel_rfl) ?hqnb_12 (Or.inl ⟨?hwnb_12, ?hynb_12⟩) (by assumption) ?_
      case honb_12 => rfl
      case hwnb_12 => rfl
      case hynb_12 => (intro w hSw; (try dsimp only at hSw); go_split_ands; go_simp; (try (with_reducible rfl)))
      case hqnb_12 => exact fun _ _ _ h => h
      simp only [Act.put, List.getElem_toArray, List.getElem_cons_succ, List.getElem_cons_zero, List.setIfInBounds_toArray, List.set_cons_zero, List.set_cons_succ]
      refine wpAnyT_take (i := 12) (oi := ?oinb_13) (v := ?vnb_13) ?honb_13 (by kernel_rfl) (by kernel_rfl) (by kernel_rfl) (by kernel_rfl) ?hqnb_13 (Or.inl ⟨?hwnb_13, ?hynb_13⟩) (by assumption) ?_
      case honb_13 => rfl
      case hwnb_13 => rfl
      case hynb_13 => (intro w hSw; (try dsimp only at hSw); go_split_ands; go_simp; (try (with_reducible rfl)))
      case hqnb_13 => exact fun _ _ _ h => h
      simp only [Act.put, List.getElem_toArray, List.getElem_cons_succ, List.getElem_cons_zero, List.setIfInBounds_toArray, List.set_cons_zero, List.set_cons_succ]
      refine wpAnyT_take (i := 13) (oi := ?oinb_14) (v := ?vnb_14) ?honb_14 (by kernel_rfl) (by kernel_rfl) (by kernel_rfl) (by kernel_rfl) ?hqnb_14 (Or.inl ⟨?hwnb_14, ?hynb_14⟩) (by assumption) ?_
      case honb_14 => rfl
      case hwnb_14 => rfl
      case hynb_14 => (intro w hSw; (try dsimp only at hSw); go_split_ands; go_simp; (try (with_reducible rfl)))
      case hqnb_14 => exact fun _ _ _ h => h
      simp only [Act.put, List.getElem_toArray, List.getElem_cons_succ, List.getElem_cons_zero, List.setIfInBounds_toArray, List.set_cons_zero, List.set_cons_succ]
      refine wpAnyT_done (by kernel_rfl) ?_ _
      (go_wp2_with (fail); go_meet; (case rel => exact ⟨by rw [ht2.out]; congr 1; (by_cases h : fa = fb); (simp [h]); (have h2 : ¬ (fa : Int) = (fb : Int) := by omega); (simp [h, h2]), hq4.out⟩))
      -- tree end
  case rest =>
    obtain ⟨rfl, hbc⟩ := hcut
    have hSc := Lib.hid (hS3.out.below hbc)
    have hbw := Lib.hid (bseqK hb3.out hbc)
    clear hbc hup ht
    cases t
    · go_wp2_with (fail)
      go_ret2
      exact ⟨rfl, hbw.out⟩
    · obtain ⟨xa, ya, xa', ya', u0, u1, u2, u3, hRa⟩ := hSc.out.rat a fa qa hvaH.out
      obtain ⟨xb, yb, xb', yb', v0, v1, v2, v3, hRb⟩ := hSc.out.rat b fb qb hvbH.out
      have hRaH := Lib.hid hRa
      have hRbH := Lib.hid hRb
      have hup : Hid (∀ w', Below wc.heap.size wc w' → (w'.cell? ⟨gs, b * 4, none⟩ = some (.bool (ng (rn qb))) ∧ w'.cell? ⟨gs, b * 4 + 1, none⟩ = some (.slice xb (LI (rn qb)) yb) ∧ w'.cell? ⟨gs, b * 4 + 2, none⟩ = some (.bool (ng (rd qb))) ∧ w'.cell? ⟨gs, b * 4 + 3, none⟩ = some (.slice xb' (LI (rd qb)) yb')) ∧ (w'.cell? ⟨gs, a * 4, none⟩ = some (.bool (ng (rn qa))) ∧ w'.cell? ⟨gs, a * 4 + 1, none⟩ = some (.slice xa (LI (rn qa)) ya) ∧ w'.cell? ⟨gs, a * 4 + 2, none⟩ = some (.bool (ng (rd qa))) ∧ w'.cell? ⟨gs, a * 4 + 3, none⟩ = some (.slice xa' (LI (rd qa)) ya'))) := fun w' hb => ⟨⟨Below.cellAt hb (Nat.le_refl _) v0, Below.cellAt hb (Nat.le_refl _) v1, Below.cellAt hb (Nat.le_refl _) v2, Below.cellAt hb (Nat.le_refl _) v3⟩, Below.cellAt hb (Nat.le_refl _) u0, Below.cellAt hb (Nat.le_refl _) u1, Below.cellAt hb (Nat.le_refl _) u2, Below.cellAt hb (Nat.le_refl _) u3⟩
      clear hRa hRb u0 u1 u2 u3 v0 v1 v2 v3
      go_upto_region 7 with (fail)
      -- tree S: fun w' => (w'.cell? ⟨gs, b * 4, none⟩ = some (.bool (ng (rn qb))) ∧ w'.cell? ⟨gs, b * 4 + 1, none⟩ = some (.slice xb (LI (rn qb)) yb) ∧ w'.cell? ⟨gs, b * 4 + 2, none⟩ = some (.bool (ng (rd qb))) ∧ w'.cell? ⟨gs, b * 4 + 3, none⟩ = some (.slice xb' (LI (rd qb)) yb')) ∧ (w'.cell? ⟨gs, a * 4, none⟩ = some (.bool (ng (rn qa))) ∧ w'.cell? ⟨gs, a * 4 + 1, none⟩ = some (.slice xa (LI (rn qa)) ya) ∧ w'.cell? ⟨gs, a * 4 + 2, none⟩ = some (.bool (ng (rd qa))) ∧ w'.cell? ⟨gs, a * 4 + 3, none⟩ = some (.slice xa' (LI (rd qa)) ya'))
      -- tree s0: hup.out _ (Below.drew (Below.refl _ _))
      -- arm 8: go_at_call 12; (with_reducible refine (rdiv_all xb yb xb' yb' xa ya xa' ya' qb qa _ (hRbH.out.up (Below.drew (Below.refl _ _))) (hRaH.out.up (Below.drew (Below.refl _ _))) szb.out sza.out hra.out).mono ?_); rintro e w6 ⟨ra, rc, ra', rc', rfl, hm6, hb6⟩; have hq6 := Lib.hid (bseqK (Below.drew (Below.refl wc.heap.size wc)) hb6); have hm6H := Lib.hid hm6; clear hm6 hb6
      -- arm 8 s: hup.out _ hq6.out
      -- arm 9: go_at_call 24; (with_reducible refine (rnum_ok ra rc ra' rc' (qb / qa) _ hm6H.out szd.out hnum.out).mono ?_); rintro e w7 ⟨rfl, hb7⟩; have hq7 := Lib.hid (bseqK hq6.out hb7); clear hb7
      -- arm 9 s: hup.out _ hq7.out
      -- arm 12 s: hup.out _ hq7.out
      -- arm 13 s: hup.out _ hq7.out
      -- leaf: (go_wp2_with (fail); go_ret2; exact ⟨rfl, bseqK hbw.out hq7.out⟩)
      -- tree nc 0 1 2 3 4 5 6 7 c8 c9 10 11 m12 m13
      refine wp_region_tail (fun w' => (w'.cell? ⟨gs, b * 4, none⟩ = some (.bool (ng (rn qb))) ∧ w'.cell? ⟨gs, b * 4 + 1, none⟩ = some (.slice xb (LI (rn qb)) yb) ∧ w'.cell? ⟨gs, b * 4 + 2, none⟩ = some (.bool (ng (rd qb))) ∧ w'.cell? ⟨gs, b * 4 + 3, none⟩ = some (.slice xb' (LI (rd qb)) yb')) ∧ (w'.cell? ⟨gs, a * 4, none⟩ = some (.bool (ng (rn qa))) ∧ w'.cell? ⟨gs, a * 4 + 1, none⟩ = some (.slice xa (LI (rn qa)) ya) ∧ w'.cell? ⟨gs, a * 4 + 2, none⟩ = some (.bool (ng (rd qa))) ∧ w'.cell? ⟨gs, a * 4 + 3, none⟩ = some (.slice xa' (LI (rd qa)) ya'))) (fun j => decide (1000 ≤ j)) (by kernel_rfl) (hup.out _ (Below.drew (Below.refl _ _))) (fun hHeld => ?_)
      refine wpAnyT_take (i := 0) (oi := ?oinc_1) (v := ?vnc_1) ?honc_1 (by kernel_rfl) (by kernel_rfl) (by kernel_rfl) (by kernel_rfl) ?hqnc_1 (Or.inl ⟨?hwnc_1, ?hync_1⟩) (by assumption) ?_
      case honc_1 => rfl
      case hwnc_1 => rfl
      case hync_1 => (intro w hSw; (try dsimp only at hSw); go_split_ands; go_simp; (try (with_reducible rfl)))
      case hqnc_1 => exact fun _ _ _ h => h
      simp only [Act.put, List.getElem_toArray, List.getElem_cons_zero, List.setIfInBounds_toArray, List.set_cons_zero, List.set_cons_succ]
      refine wpAnyT_take (i := 1) (oi := ?oinc_2) (v := ?vnc_2) ?honc_2 (by kernel_rfl) (by kernel_rfl) (by kernel_rfl) (by kernel_rfl) ?hqnc_2 (Or.inl ⟨?hwnc_2, ?hync_2⟩) (by assumption) ?_
      case honc_2 => rfl
      case hwnc_2 => rfl
      case hync_2 => (intro w hSw; (try dsimp only at hSw); go_split_ands; go_simp; (try (with_reducible rfl)))
      case hqnc_2 => exact fun _ _ _ h => h
      simp only [Act.put, List.getElem_toArray, List.getElem_cons_succ, List.getElem_cons_zero, List.setIfInBounds_toArray, List.set_cons_zero, List.set_cons_succ]
      refine wpAnyT_take (i := 2) (oi := ?oinc_3) (v := ?vnc_3) ?honc_3 (by kernel_rfl) (by kernel_rfl) (by kernel_rfl) (by kernel_rfl) ?hqnc_3 (Or.inl ⟨?hwnc_3, ?hync_3⟩) (by assumption) ?_
      case honc_3 => rfl
      case hwnc_3 => rfl
      case hync_3 => (intro w hSw; (try dsimp only at hSw); go_split_ands; go_simp; (try (with_reducible rfl)))
      case hqnc_3 => exact fun _ _ _ h => h
      simp only [Act.put, List.getElem_toArray, List.getElem_cons_succ, List.getElem_cons_zero, List.setIfInBounds_toArray, List.set_cons_zero, List.set_cons_succ]
      refine wpAnyT_take (i := 3) (oi := ?oinc_4) (v := ?vnc_4) ?honc_4 (by kernel_rfl) (by kernel_rfl) (by kernel_rfl) (by kernel_rfl) ?hqnc_4 (Or.inl ⟨?hwnc_4, ?hync_4⟩) (by assumption) ?_
      case honc_4 => rfl
      case hwnc_4 => rfl
      case hync_4 => (intro w hSw; (try dsimp only at hSw); go_split_ands; go_simp; (try (with_reducible rfl)))
      case hqnc_4 => exact fun _ _ _ h => h
      simp only [Act.put, List.getElem_toArray, List.getElem_cons_succ, List.getElem_cons_zero, List.setIfInBounds_toArray, List.set_cons_zero, List.set_cons_succ]
      refine wpAnyT_take (i := 4) (oi := ?oinc_5) (v := ?vnc_5) ?honc_5 (by kernel_rfl) (by kernel_rfl) (by kernel_rfl) (by kernel_rfl) ?hqnc_5 (Or.inl ⟨?hwnc_5, ?hync_5⟩) (by assumption) ?_
      case honc_5 => rfl
      case hwnc_5 => rfl
      case hync_5 => (intro w hSw; (try dsimp only at hSw); go_split_ands; go_simp; (try (with_reducible rfl)))
      case hqnc_5 => exact fun _ _ _ h => h
      simp only [Act.put, List.getElem_toArray, List.getElem_cons_succ, List.getElem_cons_zero, List.setIfInBounds_toArray, List.set_cons_zero, List.set_cons_succ]
      refine wpAnyT_take (i := 5) (oi := ?oinc_6) (v := ?vnc_6) ?honc_6 (by kernel_rfl) (by kernel_rfl) (by kernel_rfl) (by kernel_rfl) ?hqnc_6 (Or.inl ⟨?hwnc_6, ?hync_6⟩) (by assumption) ?_
      case honc_6 => rfl
      case hwnc_6 => rfl
      case hync_6 => (intro w hSw; (try dsimp only at hSw); go_split_ands; go_simp; (try (with_reducible rfl)))
      case hqnc_6 => exact fun _ _ _ h => h
      simp only [Act.put, List.getElem_toArray, List.getElem_cons_succ, List.getElem_cons_zero, List.setIfInBounds_toArray, List.set_cons_zero, List.set_cons_succ]
      refine wpAnyT_take (i := 6) (oi := ?oinc_7) (v := ?vnc_7) ?honc_7 (by kernel_rfl) (by kernel_rfl) (by kernel_rfl) (by kernel_rfl) ?hqnc_7 (Or.inl ⟨?hwnc_7, ?hync_7⟩) (by assumption) ?_
      case honc_7 => rfl
      case hwnc_7 => rfl
      case hync_7 => (intro w hSw; (try dsimp only at hSw); go_split_ands; go_simp; (try (with_reducible rfl)))
      case hqnc_7 => exact fun _ _ _ h => h
      simp only [Act.put, List.getElem_toArray, List.getElem_cons_succ, List.getElem_cons_zero, List.setIfInBounds_toArray, List.set_cons_zero, List.set_cons_succ]
      refine wpAnyT_take (i := 7) (oi := ?oinc_8) (v := ?vnc_8) ?honc_8 (by kernel_rfl) (by kernel_rfl) (by kernel_rfl) (by kernel_rfl) ?hqnc_8 (Or.inl ⟨?hwnc_8, ?hync_8⟩) (by assumption) ?_
      case honc_8 => rfl
      case hwnc_8 => rfl
      case hync_8 => (intro w hSw; (try dsimp only at hSw); go_split_ands; go_simp; (try (with_reducible rfl)))
      case hqnc_8 => exact fun _ _ _ h => h
      simp only [Act.put, List.getElem_toArray, List.getElem_cons_succ, List.getElem_cons_zero, List.setIfInBounds_toArray, List.set_cons_zero, List.set_cons_succ]
      refine wpAnyT_one (i := 8) (o := ?oinc_9) (by kernel_rfl) ?honc_9 (fun K hK => ?_)
      case honc_9 => rfl
      rw [if_pos (by rfl)]
      go_simp
      go_at_call 12; (with_reducible refine (rdiv_all xb yb xb' yb' xa ya xa' ya' qb qa _ (hRbH.out.up (Below.drew (Below.refl _ _))) (hRaH.out.up (Below.drew (Below.refl _ _))) szb.out sza.out hra.out).mono ?_); rintro e w6 ⟨ra, rc, ra', rc', rfl, hm6, hb6⟩; have hq6 := Lib.hid (bseqK (Below.drew (Below.refl wc.heap.size wc)) hb6); have hm6H := Lib.hid hm6; clear hm6 hb6
      (try go_wp2_with (fail))
      refine hK.out _ _ (fun _ => hup.out _ hq6.out) (fun hHeld => ?_)
      replace hHeld := hHeld rfl
      clear hK K
      refine wpAnyT_one (i := 9) (o := ?oinc_10) (by kernel_rfl) ?honc_10 (fun K hK => ?_)
      case honc_10 => rfl
      rw [if_pos (by rfl)]
      go_simp
      go_at_call 24; (with_reducible refine (rnum_ok ra rc ra' rc' (qb / qa) _ hm6H.out szd.out hnum.out).mono ?_); rintro e w7 ⟨rfl, hb7⟩; have hq7 := Lib.hid (bseqK hq6.out hb7); clear hb7
      (try go_wp2_with (fail))
      refine hK.out _ _ (fun _ => hup.out _ hq7.out) (fun hHeld => ?_)
      replace hHeld := hHeld rfl
      clear hK K
      refine wpAnyT_take (i := 10) (oi := ?oinc_11) (v := ?vnc_11) ?honc_11 (by kernel_rfl) (by kernel_rfl) (by kernel_rfl) (by kernel_rfl) ?hqnc_11 (Or.inl ⟨?hwnc_11, ?hync_11⟩) (by assumption) ?_
      case honc_11 => rfl
      case hwnc_11 => rfl
      case hync_11 => (intro w hSw; (try dsimp only at hSw); go_split_ands; go_simp; (try (with_reducible rfl)))
      case hqnc_11 => exact fun _ _ _ h => h
      simp only [Act.put, List.getElem_toArray, List.getElem_cons_succ, List.getElem_cons_zero, List.setIfInBounds_toArray, List.set_cons_zero, List.set_cons_succ]
      refine wpAnyT_take (i := 11) (oi := ?oinc_12) (v := ?vnc_12) ?honc_12 (by kernel_rfl) (by kernel_rfl) (by kernel_rfl) (by kernel_rfl) ?hqnc_12 (Or.inl ⟨?hwnc_12, ?hync_12⟩) (by assumption) ?_
      case honc_12 => rfl
      case hwnc_12 => rfl
      case hync_12 => (intro w hSw; (try dsimp only at hSw); go_split_ands; go_simp; (try (with_reducible rfl)))
      case hqnc_12 => exact fun _ _ _ h => h
      simp only [Act.put, List.getElem_toArray, List.getElem_cons_succ, List.getElem_cons_zero, List.setIfInBounds_toArray, List.set_cons_zero, List.set_cons_succ]
      refine wpAnyT_one (i := 12) (o := ?oinc_13) (by kernel_rfl) ?honc_13 (fun K hK => ?_)
      case honc_13 => rfl
      rw [if_pos (by rfl)]
      go_simp
      refine hK.out _ _ (fun _ => hup.out _ hq7.out) (fun hHeld => ?_)
      replace hHeld := hHeld rfl
      clear hK K
      refine wpAnyT_one (i := 13) (o := ?oinc_14) (by kernel_rfl) ?honc_14 (fun K hK => ?_)
      case honc_14 => rfl
      rw [if_pos (by rfl)]
      go_simp
      refine hK.out _ _ (fun _ => hup.out _ hq7.out) (fun hHeld => ?_)
      replace hHeld := hHeld rfl
      clear hK K
      refine wpAnyT_done (by kernel_rfl) ?_ _
      (go_wp2_with (fail); go_ret2; exact ⟨rfl, bseqK hbw.out hq7.out⟩)
      -- tree end
end
end Go.Proofs.Ytkecdjdggkpdpab
