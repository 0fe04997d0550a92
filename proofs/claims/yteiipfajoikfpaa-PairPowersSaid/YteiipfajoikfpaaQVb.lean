/- Vb -/
import Derived.Test.YteiipfajoikfpaaQVa
import Derived.Test.YteiipfajoikfpaaQPi
set_option linter.unusedVariables false
/- Walk of Even. -/
namespace Go.Proofs.Yteiipfajoikfpaa
open Go Go.RowKit Go.Proofs

theorem EvenI.fewer {C : List (List Int)} {n : Nat} {T T' : Int → Int → Prop} {best : Option (List Nat)} {least : Int} (h : EvenI C n T best least) (hT : ∀ a b, T' a b → T a b) : EvenI C n T' best least := by
  cases best with
  | none => exact ⟨h.1, fun a b hab hle => h.2 a b (hT a b hab) hle⟩
  | some p => exact ⟨h.1, fun a b hab hle => h.2 a b (hT a b hab) hle⟩
theorem EvenI.start (C : List (List Int)) (n : Nat) (T : Int → Int → Prop) (hT : ∀ a b, ¬ T a b) : EvenI C n T none 0 := ⟨rfl, fun a b hab _ => absurd hab (hT a b)⟩
theorem nz_lt_iff {p q : List Nat} : nz p < nz q ↔ p < q := by
  induction p generalizing q with
  | nil =>
    cases q with
    | nil => simp [nz]
    | cons y q => simp [nz]
  | cons x p ih =>
    cases q with
    | nil => simp [nz]
    | cons y q =>
      have ih' := @ih q
      unfold nz at ih' ⊢
      rw [List.map_cons, List.map_cons, List.cons_lt_cons_iff, List.cons_lt_cons_iff, ih']
      constructor
      · rintro (h | ⟨h1, h2⟩)
        · left; omega
        · right; exact ⟨by omega, h2⟩
      · rintro (h | ⟨h1, h2⟩)
        · left; omega
        · right; exact ⟨by omega, h2⟩
/-- The best one so far. -/
def EvB (n : Nat) (wr : World) (best : Option (List Nat)) (v : Value) : Prop :=
  match best with
  | none => v = .slice none 0 0
  | some b => ∃ g o c, v = .slice (some ⟨g, o, none⟩) n c ∧ n ≤ c ∧ IZ wr (some ⟨g, o, none⟩) (nz b)
theorem EvB.below {n : Nat} {w w' : World} {best : Option (List Nat)} {v : Value} (h : EvB n w best v) (hb : Below w.heap.size w w') : EvB n w' best v := by
  cases best with
  | none => exact h
  | some b =>
    obtain ⟨g, o, c, h1, h2, h3⟩ := h
    exact ⟨g, o, c, h1, h2, h3.below hb⟩
theorem compare_lt (ao bo : Option Addr) (c d n : Nat) (p q : List Nat) (w : World) (h1 : IZ w ao (nz p)) (h2 : IZ w bo (nz q)) (hx : (nz p).length = n) (hy : (nz q).length = n) (hn : n ≤ 1000000) (hlt : p < q) :
    Calls Try.prog 70 #[.slice ao n c, .slice bo n d] w (fun e w' => ∃ z : Int, e = .returned (.int .i64 z) ∧ z < 0 ∧ Below w.heap.size w w') :=
  (compare_anyJ ao bo c d n (nz p) (nz q) w h1 h2 hx hy hn).mono fun e w' ⟨z, he, hz, hb⟩ => by
    refine ⟨z, he, ?_, hb⟩
    rcases hz with ⟨h, _⟩ | ⟨_, h⟩ | ⟨_, h⟩
    · exact h
    · exact absurd (nz_lt_iff.1 h) (List.lt_asymm hlt)
    · rw [nz_inj h] at hlt; exact absurd hlt (List.lt_irrefl _)
theorem compare_ge (ao bo : Option Addr) (c d n : Nat) (p q : List Nat) (w : World) (h1 : IZ w ao (nz p)) (h2 : IZ w bo (nz q)) (hx : (nz p).length = n) (hy : (nz q).length = n) (hn : n ≤ 1000000) (hlt : ¬ p < q) :
    Calls Try.prog 70 #[.slice ao n c, .slice bo n d] w (fun e w' => ∃ z : Int, e = .returned (.int .i64 z) ∧ 0 ≤ z ∧ Below w.heap.size w w') :=
  (compare_anyJ ao bo c d n (nz p) (nz q) w h1 h2 hx hy hn).mono fun e w' ⟨z, he, hz, hb⟩ => by
    refine ⟨z, he, ?_, hb⟩
    rcases hz with ⟨_, h⟩ | ⟨h, _⟩ | ⟨h, _⟩
    · exact absurd (nz_lt_iff.1 h) hlt
    · omega
    · omega
def EvenPost (C : List (List Int)) (n : Nat) (w : World) (e : Ending) (w' : World) : Prop :=
  ∃ (l : List Nat) (g o c : Nat) (v : Int), Best (byI (spr C)) (allN n) l ∧ spr C l = v ∧ e = .returned (.tuple #[.slice (some ⟨g, o, none⟩) n c, .int .i64 v, .int .i64 0]) ∧ n ≤ c ∧ IZ w' (some ⟨g, o, none⟩) (nz l) ∧ Below w.heap.size w w'
theorem even_bad (ao : Option Addr) (c n : Nat) (C : List (List Int)) (w : World) (h : IMx w ao C) (hn : C.length = n) (hm : n ≤ 9223372036854775807) (hb : costsB C = false) :
    Calls Try.prog 43 #[.slice ao n c] w (fun e w' => e = .returned (.tuple #[.slice none 0 0, .int .i64 0, .int .i64 1]) ∧ Below w.heap.size w w') := by
  have hH := Lib.hid h
  have hnH := Lib.hid hn
  have hbH := Lib.hid hb
  clear h hn hb
  go_enter Try.func43, Try.ntmps43
  go_upto_region 1 with (fail)
  obtain ⟨V, hV⟩ : ∃ V, V = w.alloc (Obj.cells #[.slice ao n c] 22) := ⟨_, rfl⟩
  rw [← hV]
  have hbV : Below w.heap.size w V := by rw [hV]; go_grown
  have k1 : V.cell? ⟨w.heap.size, 0, none⟩ = some (.slice ao n c) := by rw [hV, al_new rfl]; rfl
  have hbVH := Lib.hid hbV
  clear hV hbV
  go_wp2_with (go_at_call 48; (with_reducible refine (valid_any ao c n C false _ (hH.out.below hbVH.out) hnH.out hm hbH.out).mono ?_); rintro e w1 ⟨rfl, rfl⟩)
  go_ret3
  exact ⟨rfl, hbVH.out⟩
/-- The windows that were tried. -/
def winT (vs : List Int) (i : Nat) (a b : Int) : Prop := a ∈ vs.take i ∧ b ∈ vs
def winU (vs : List Int) (i j : Nat) (a b : Int) : Prop := winT vs i a b ∨ (a = at0 vs i ∧ b ∈ vs.take j)
theorem winU_next {vs : List Int} {i j : Nat} {lo hi : Int} (hj : j < vs.length) (h1 : at0 vs i = lo) (h2 : at0 vs j = hi) : ∀ a b, winU vs i (j + 1) a b → withT (winU vs i j) lo hi a b := fun a b h => by
  rcases h with h | ⟨h3, h4⟩
  · exact .inl (.inl h)
  · rw [take_at0 vs hj] at h4
    rcases List.mem_append.1 h4 with h4 | h4
    · exact .inl (.inr ⟨h3, h4⟩)
    · exact .inr ⟨by rw [h3, h1], by rw [List.mem_singleton.1 h4, h2]⟩
theorem winU_end {vs : List Int} {i m : Nat} (hi : i < vs.length) (hm : vs.length = m) : ∀ a b, winT vs (i + 1) a b → winU vs i m a b := fun a b ⟨h1, h2⟩ => by
  rw [take_at0 vs hi] at h1
  rcases List.mem_append.1 h1 with h1 | h1
  · exact .inl ⟨h1, h2⟩
  · refine .inr ⟨List.mem_singleton.1 h1, ?_⟩
    rw [List.take_of_length_le (by omega)]; exact h2
set_option maxRecDepth 100000 in
set_option maxHeartbeats 25600000 in
theorem even_good (ao : Option Addr) (c n : Nat) (C : List (List Int)) (w : World) (h : IMx w ao C) (hg : goodC C) (hn : C.length = n) :
    Calls Try.prog 43 #[.slice ao n c] w (EvenPost C n w) := by
  have hn8 : n ≤ 8 := by rw [← hn]; exact hg.2.1
  have hn1 : 1 ≤ n := by rw [← hn]; exact hg.1
  obtain ⟨vs, hvs⟩ : ∃ vs, valsL C = vs := ⟨_, rfl⟩
  obtain ⟨m, hm⟩ : ∃ m, vs.length = m := ⟨_, rfl⟩
  have hv := Lib.hid (hvs ▸ vals_L hg hn : Vals C n vs)
  have hb := Lib.hid (show costsB C = true from decide_eq_true hg)
  have hmb : m ≤ 64 := by
    rw [← hm, ← hvs]
    refine Nat.le_trans (Lib.compact_length_le _) ?_
    rw [List.length_mergeSort, flat_len (n := n) (fun xs hx => by rw [(hg.2.2 xs hx).1, hn]), hn]
    exact Nat.le_trans (Nat.mul_le_mul hn8 hn8) (by omega)
  have hvb : Hid (∀ i, i < m → 0 ≤ at0 vs i ∧ at0 vs i ≤ 1000) := fun i hi => by
    obtain ⟨a, b, ha, hb, e⟩ := (hv.out.mem _).1 (List.mem_of_getElem? (at0_get (l := vs) (j := i) (by omega)))
    rw [← e]
    exact ⟨hg.lo hn a b ha hb, hg.hi hn a b ha hb⟩
  have hH := Lib.hid h
  have hgH := Lib.hid hg
  have hnH := Lib.hid hn
  have hvsH := Lib.hid hvs
  have hmH := Lib.hid hm
  have egH := Lib.hid eg_even
  have q0 := neq_nil0
  have q1 := neq_nil1
  have q2 := eql_nil0
  have q3 := eql_nil1
  have hmf : ∀ (fn : Fn) (first cap : Array Value) (w : World), (Instr.makeFunc fn first cap).run Try.prog w = .ok (.func fn first cap) w := fun _ _ _ _ => rfl
  clear h hg hn hvs hm
  go_enter Try.func43, Try.ntmps43
  go_upto_region 1 with (fail)
  obtain ⟨V, hV⟩ : ∃ V, V = w.alloc (Obj.cells #[.slice ao n c] 22) := ⟨_, rfl⟩
  rw [← hV]
  have hbV := Lib.hid (show Below w.heap.size w V by rw [hV]; go_grown)
  have k1 : V.cell? ⟨w.heap.size, 0, none⟩ = some (.slice ao n c) := by rw [hV, al_new rfl]; rfl
  have k1H := Lib.hid k1
  have hMV := Lib.hid (hH.out.below hbV.out)
  clear hV
  go_upto_region 6 with (first
    | (go_at_call 48; (with_reducible refine (valid_any ao c n C true _ hMV.out hnH.out (by omega) hb.out).mono ?_); rintro e w1 ⟨rfl, rfl⟩)
    | (go_at_call 61; go_loud (refine (sorted_any ao c n C vs _ hMV.out hgH.out hnH.out hvsH.out).mono ?_); rintro e w1 ⟨gv, dv, rfl, hI1, hd1, hb1⟩; rw [hmH.out]; have hI1H := Lib.hid hI1; have hb1H := Lib.hid hb1; clear hI1 hd1 hb1))
  have kH := Lib.hid (show w1.cell? ⟨w.heap.size, 0, none⟩ = some (.slice ao n c) from Below.cellAt hb1H.out (Nat.le_refl _) k1H.out)
  have hM1 := Lib.hid (hMV.out.below hb1H.out)
  have hw1 := Lib.hid (bseqJ hbV.out hb1H.out)
  clear k1 k1H hMV hbV hb1H
  go_wp2_with (fail)
  go_loopg [5, 6, 20] m (fun gk bv lv iv wr => ∃ (i : Nat) (y : Int) (best : Option (List Nat)) (v : Value), v = bv ∧ lv = .int .i64 y ∧ iv = .int .i64 (i : Nat) ∧ i + gk = m ∧ EvenI C n (winT vs i) best y ∧ EvB n wr best v ∧ 0 ≤ y ∧ y ≤ 1000 ∧ Below w1.heap.size w1 wr)
  case atStart => exact ⟨0, 0, none, _, rfl, rfl, rfl, by omega, EvenI.start C n _ (fun a b h => by simp [winT] at h), rfl, by omega, by omega, Below.refl _ _⟩
  case round =>
    obtain ⟨i, y, best, v, rfl, rfl, rfl, hi, hE, hB, y0, y1, hbl⟩ := hrel
    have hEH := Lib.hid hE
    have hBH := Lib.hid hB
    have hblH := Lib.hid hbl
    clear hE hB hbl
    by_cases him : i < m
    · obtain ⟨g1, rfl⟩ : ∃ g1, gk = g1 + 1 := ⟨gk - 1, by omega⟩
      have hiI : (i : Int) < (m : Int) := by omega
      have hi0 : (0 : Int) ≤ (i : Int) := by omega
      obtain ⟨b1, o1, hae, e1⟩ := (hI1H.out.below hblH.out).at (i := i) (by rw [hmH.out]; exact him)
      injection hae with hae
      injection hae with h1 h2
      subst h1 h2
      rw [Nat.zero_add] at e1
      obtain ⟨lo, hlo⟩ : ∃ lo, at0 vs i = lo := ⟨_, rfl⟩
      obtain ⟨lo0, lo1⟩ := hvb.out i him
      rw [hlo] at e1 lo0 lo1
      have hloH := Lib.hid hlo
      clear hlo
      go_upto_region 9 with (fail)
      obtain ⟨W, hW⟩ : ∃ W, W = wr.alloc (Obj.cells #[.int .i64 lo] 3) := ⟨_, rfl⟩
      rw [← hW]
      have kl := Lib.hid (show W.cell? ⟨wr.heap.size, 0, none⟩ = some (.int .i64 lo) by rw [hW, al_new rfl]; rfl)
      have hbW := Lib.hid (show Below wr.heap.size wr W by rw [hW]; exact below_al (Below.refl _ _) _)
      have hlL : wr.heap.size < W.heap.size := by rw [hW]; simp
      clear hW e1
      have hB2 := Lib.hid (hBH.out.below hbW.out)
      have hb2 := Lib.hid (bseqJ hblH.out hbW.out)
      generalize hgl : wr.heap.size = bl at *
      clear hgl hBH hblH hbW
      go_wp2_with (fail)
      go_loopg [5, 6, 26] m (fun gj bv lv jv wx => ∃ (j : Nat) (y : Int) (best : Option (List Nat)) (v : Value), v = bv ∧ lv = .int .i64 y ∧ jv = .int .i64 (j : Nat) ∧ j + gj = m ∧ EvenI C n (winU vs i j) best y ∧ EvB n wx best v ∧ 0 ≤ y ∧ y ≤ 1000 ∧ Below w1.heap.size w1 wx ∧ wx.cell? ⟨bl, 0, none⟩ = some (.int .i64 lo))
      case atStart => exact ⟨0, y, best, v, rfl, rfl, rfl, by omega, hEH.out.fewer (fun a b h => by rcases h with h | ⟨_, h⟩; exact h; simp at h), hB2.out, y0, y1, hb2.out, kl.out⟩
      case round =>
        clear hB2 hb2 kl hEH y0 y1
        obtain ⟨j, y, best, v, rfl, rfl, rfl, hj, hE, hB, y0, y1, hbl, kl⟩ := hrel
        have hEH := Lib.hid hE
        have hBH := Lib.hid hB
        have hblH := Lib.hid hbl
        have klH := Lib.hid kl
        clear hE hB hbl
        by_cases hjm : j < m
        · obtain ⟨g2, rfl⟩ : ∃ g2, gk = g2 + 1 := ⟨gk - 1, by omega⟩
          have hjI : (j : Int) < (m : Int) := by omega
          have hj0 : (0 : Int) ≤ (j : Int) := by omega
          obtain ⟨b1, o1, hae, e1⟩ := (hI1H.out.below hblH.out).at (i := j) (by rw [hmH.out]; exact hjm)
          injection hae with hae
          injection hae with h1 h2
          subst h1 h2
          rw [Nat.zero_add] at e1
          obtain ⟨hi_, hhi⟩ : ∃ hi_, at0 vs j = hi_ := ⟨_, rfl⟩
          obtain ⟨hi0', hi1'⟩ := hvb.out j hjm
          rw [hhi] at e1 hi0' hi1'
          have hnx := Lib.hid (winU_next (i := i) (by rw [hmH.out]; exact hjm) hloH.out hhi)
          have hbll : bl < wr.heap.size := World.block_lt_of_cell? _ _ kl
          clear hhi
          go_upto_region 12 with (fail)
          obtain ⟨W, hW⟩ : ∃ W, W = wr.alloc (Obj.cells #[.int .i64 hi_] 3) := ⟨_, rfl⟩
          rw [← hW]
          have kh : W.cell? ⟨wr.heap.size, 0, none⟩ = some (.int .i64 hi_) := by rw [hW, al_new rfl]; rfl
          have hbW := Lib.hid (show Below wr.heap.size wr W by rw [hW]; exact below_al (Below.refl _ _) _)
          have kl2 : W.cell? ⟨bl, 0, none⟩ = some (.int .i64 lo) := Below.cellAt hbW.out (Nat.le_refl _) kl
          have hb3 := Lib.hid (bseqJ hblH.out hbW.out)
          have kc : W.cell? ⟨w.heap.size, 0, none⟩ = some (.slice ao n c) := Below.cellAt hb3.out (Nat.le_refl _) kH.out
          have hB3 := Lib.hid (hBH.out.below hbW.out)
          have hAl := Lib.hid (win_at ao c n w.heap.size bl wr.heap.size C lo hi_ W (hM1.out.below hb3.out) hgH.out hnH.out kc kl2 kh)
          have kl2H := Lib.hid kl2
          have khH := Lib.hid kh
          have wd : IntKind.i64.wrap (hi_ - lo) = hi_ - lo := by rw [IntKind.wrap_i64]; omega
          clear hW e1 kl hBH hblH hbW klH
          generalize hgh : wr.heap.size = bh at *
          clear hgh
          by_cases hhl : hi_ < lo
          · have hhlB : decide (hi_ < lo) = true := by simpa using hhl
            have hE2 := Lib.hid ((hEH.out.skip (.inl hhl)).fewer hnx.out)
            go_wp2_with (fail)
            go_roundg g2
            case measure => omega
            case rel => exact ⟨j + 1, y, best, _, rfl, rfl, by go_num, by omega, hE2.out, hB3.out, y0, y1, hb3.out, kl2H.out⟩
          · have hhlB : decide (hi_ < lo) = false := by simpa using hhl
            rcases best with _ | b
            · have hvn : v = .slice none 0 0 := hB3.out
              subst hvn
              by_cases hex : ∃ p, Pr n p ∧ Ok (winA C lo hi_) p
              · have hexH := Lib.hid hex
                have hEE := Lib.hid (fun l (hl : First (winA C lo hi_) n l) => (hEH.out.take hl (.inl rfl)).fewer hnx.out)
                clear hex
                go_upto_region 15 with (first
                  | (go_at_call 50; go_loud (refine (first_some (winA C lo hi_) n 69 #[ptr w.heap.size, ptr bl, ptr bh] _ (by omega) hn1 hAl.out egH.out hexH.out).mono ?_); rintro e w4 ⟨l, g3, o3, c3, hl, rfl, hc3, hI3, hb4⟩; have hlH := Lib.hid hl; have hI3H := Lib.hid hI3; have hb4H := Lib.hid hb4; clear hl hI3 hb4))
                have kl9 : w4.cell? ⟨bl, 0, none⟩ = some (.int .i64 lo) := Below.cellAt (hb4H.out) (Nat.le_refl _) kl2H.out
                have kh9 : w4.cell? ⟨bh, 0, none⟩ = some (.int .i64 hi_) := Below.cellAt (hb4H.out) (Nat.le_refl _) khH.out
                go_quiet (fail)
                obtain ⟨X, hX⟩ : ∃ X, X = w4.drewN nq := ⟨_, rfl⟩
                rw [← hX]
                have hbX := Lib.hid (show Below w4.heap.size w4 X by rw [hX]; exact bdn (Below.refl _ _))
                clear hX
                go_wp2_with (fail)
                go_roundg g2
                case measure => omega
                case rel => exact ⟨j + 1, hi_ - lo, some l, _, rfl, rfl, by go_num, by omega, hEE.out l hlH.out, ⟨g3, o3, c3, rfl, hc3, (hI3H.out.below (hbX.out))⟩, by omega, by omega, bseqJ hb3.out (bseqJ hb4H.out (hbX.out)), Below.cellAt (bseqJ hb4H.out (hbX.out)) (Nat.le_refl _) kl2H.out⟩
              · have hexH := Lib.hid hex
                have hE2 := Lib.hid ((hEH.out.skip (.inr (.inr hex))).fewer hnx.out)
                clear hex
                go_wp2_with (first
                  | (go_at_call 50; go_loud (refine (first_none (winA C lo hi_) n 69 #[ptr w.heap.size, ptr bl, ptr bh] _ (by omega) hn1 hAl.out egH.out hexH.out).mono ?_); rintro e w4 ⟨rfl, hb4⟩; have hb4H := Lib.hid hb4; clear hb4))
                go_roundg g2
                case measure => omega
                case rel => exact ⟨j + 1, y, none, _, rfl, rfl, by go_num, by omega, hE2.out, rfl, y0, y1, bseqJ hb3.out hb4H.out, Below.cellAt hb4H.out (Nat.le_refl _) kl2H.out⟩
            · obtain ⟨g5, o5, c5, hv5, hc5, hI5⟩ := hB3.out
              subst hv5
              have hI5H := Lib.hid hI5
              clear hI5
              by_cases hgt : y < hi_ - lo
              · have hgtB : decide (y < hi_ - lo) = true := by simpa using hgt
                have hE2 := Lib.hid ((hEH.out.skip (.inr (.inl ⟨by simp, hgt⟩))).fewer hnx.out)
                go_wp2_with (fail)
                go_roundg g2
                case measure => omega
                case rel => exact ⟨j + 1, y, some b, _, rfl, rfl, by go_num, by omega, hE2.out, hB3.out, y0, y1, hb3.out, kl2H.out⟩
              · have hgtB : decide (y < hi_ - lo) = false := by simpa using hgt
                by_cases hex : ∃ p, Pr n p ∧ Ok (winA C lo hi_) p
                · have hexH := Lib.hid hex
                  clear hex
                  go_upto_region 14 with (first
                    | (go_at_call 50; go_loud (refine (first_some (winA C lo hi_) n 69 #[ptr w.heap.size, ptr bl, ptr bh] _ (by omega) hn1 hAl.out egH.out hexH.out).mono ?_); rintro e w4 ⟨l, g3, o3, c3, hl, rfl, hc3, hI3, hb4⟩; have hlH := Lib.hid hl; have hI3H := Lib.hid hI3; have hb4H := Lib.hid hb4; clear hl hI3 hb4))
                  have kl3 : w4.cell? ⟨bl, 0, none⟩ = some (.int .i64 lo) := Below.cellAt hb4H.out (Nat.le_refl _) kl2H.out
                  have kh3 : w4.cell? ⟨bh, 0, none⟩ = some (.int .i64 hi_) := Below.cellAt hb4H.out (Nat.le_refl _) khH.out
                  clear kl2 kh kc
                  by_cases hls : hi_ - lo < y
                  · have hlsB : decide (hi_ - lo < y) = true := by simpa using hls
                    have hEE := Lib.hid (fun l (hl : First (winA C lo hi_) n l) => (hEH.out.take hl (.inr ⟨b, rfl, .inl hls⟩)).fewer hnx.out)
                    go_upto_region 15 with (fail)
                    go_quiet (fail)
                    obtain ⟨X, hX⟩ : ∃ X, X = w4.drewN nq := ⟨_, rfl⟩
                    rw [← hX]
                    have hbX := Lib.hid (show Below w4.heap.size w4 X by rw [hX]; exact bdn (Below.refl _ _))
                    clear hX
                    go_wp2_with (fail)
                    go_roundg g2
                    case measure => omega
                    case rel => exact ⟨j + 1, hi_ - lo, some l, _, rfl, rfl, by go_num, by omega, hEE.out l hlH.out, ⟨g3, o3, c3, rfl, hc3, (hI3H.out.below (hbX.out))⟩, by omega, by omega, bseqJ hb3.out (bseqJ hb4H.out (hbX.out)), Below.cellAt (bseqJ hb4H.out (hbX.out)) (Nat.le_refl _) kl2H.out⟩
                  · have hlsB : decide (hi_ - lo < y) = false := by simpa using hls
                    have heq : hi_ - lo = y := by omega
                    have hI5b := Lib.hid (hI5H.out.below hb4H.out)
                    have hb5 := Lib.hid (mem_allN.1 (show b ∈ allN n from mem_allN.2 (by obtain ⟨⟨_, _, _, h3, _⟩, _⟩ := hEH.out; exact h3))).len
                    have hl5 := Lib.hid hlH.out.pr.len
                    have hlb := Lib.hid (show (nz l).length = n by rw [nz_length]; exact hl5.out)
                    have hbb := Lib.hid (show (nz b).length = n by rw [nz_length]; exact hb5.out)
                    by_cases hlt : l < b
                    · have hEE := Lib.hid (fun l (hl : First (winA C lo hi_) n l) (hlb : l < b) => (hEH.out.take hl (.inr ⟨b, rfl, .inr ⟨heq, hlb⟩⟩)).fewer hnx.out)
                      have hltH := Lib.hid hlt
                      clear hlt
                      go_upto_region 15 with (first
                        | (go_at_call 70; go_loud (refine (compare_lt (some ⟨g3, o3, none⟩) (some ⟨g5, o5, none⟩) c3 c5 n l b _ hI3H.out hI5b.out hlb.out hbb.out (by omega) hltH.out).mono ?_); rintro e w5 ⟨z, rfl, hz, hb5'⟩; have hzB : decide (z < 0) = true := (by simpa using hz); have hb5H := Lib.hid hb5'; clear hb5'))
                      have kl9 : w5.cell? ⟨bl, 0, none⟩ = some (.int .i64 lo) := Below.cellAt (bseqJ hb4H.out hb5H.out) (Nat.le_refl _) kl2H.out
                      have kh9 : w5.cell? ⟨bh, 0, none⟩ = some (.int .i64 hi_) := Below.cellAt (bseqJ hb4H.out hb5H.out) (Nat.le_refl _) khH.out
                      go_quiet (fail)
                      obtain ⟨X, hX⟩ : ∃ X, X = w5.drewN nq := ⟨_, rfl⟩
                      rw [← hX]
                      have hbX := Lib.hid (show Below w5.heap.size w5 X by rw [hX]; exact bdn (Below.refl _ _))
                      clear hX
                      go_wp2_with (fail)
                      go_roundg g2
                      case measure => omega
                      case rel => exact ⟨j + 1, y, some l, _, rfl, rfl, by go_num, by omega, (by have := hEE.out l hlH.out hltH.out; rwa [heq] at this), ⟨g3, o3, c3, rfl, hc3, (hI3H.out.below (bseqJ hb5H.out hbX.out))⟩, by omega, by omega, bseqJ hb3.out (bseqJ hb4H.out (bseqJ hb5H.out hbX.out)), Below.cellAt (bseqJ hb4H.out (bseqJ hb5H.out hbX.out)) (Nat.le_refl _) kl2H.out⟩
                    · have hE2 := Lib.hid (fun (hl : First (winA C lo hi_) n l) => (hEH.out.stay hl (by omega) (List.not_lt.1 hlt)).fewer hnx.out)
                      have hltH := Lib.hid hlt
                      clear hlt
                      go_wp2_with (first
                        | (go_at_call 70; go_loud (refine (compare_ge (some ⟨g3, o3, none⟩) (some ⟨g5, o5, none⟩) c3 c5 n l b _ hI3H.out hI5b.out hlb.out hbb.out (by omega) hltH.out).mono ?_); rintro e w5 ⟨z, rfl, hz, hb5'⟩; have hzB : decide (z < 0) = false := (by simpa using hz); have hb5H := Lib.hid hb5'; clear hb5'))
                      go_roundg g2
                      case measure => omega
                      case rel => exact ⟨j + 1, y, some b, _, rfl, rfl, by go_num, by omega, hE2.out hlH.out, (hB3.out.below hb4H.out).below hb5H.out, y0, y1, bseqJ hb3.out (bseqJ hb4H.out hb5H.out), Below.cellAt (bseqJ hb4H.out hb5H.out) (Nat.le_refl _) kl2H.out⟩
                · have hexH := Lib.hid hex
                  have hE2 := Lib.hid ((hEH.out.skip (.inr (.inr hex))).fewer hnx.out)
                  clear hex
                  go_wp2_with (first
                    | (go_at_call 50; go_loud (refine (first_none (winA C lo hi_) n 69 #[ptr w.heap.size, ptr bl, ptr bh] _ (by omega) hn1 hAl.out egH.out hexH.out).mono ?_); rintro e w4 ⟨rfl, hb4⟩; have hb4H := Lib.hid hb4; clear hb4))
                  go_roundg g2
                  case measure => omega
                  case rel => exact ⟨j + 1, y, some b, _, rfl, rfl, by go_num, by omega, hE2.out, hB3.out.below hb4H.out, y0, y1, bseqJ hb3.out hb4H.out, Below.cellAt hb4H.out (Nat.le_refl _) kl2H.out⟩
        · have hje : m = j := by omega
          subst hje
          have hjI : ¬ (m : Int) < (m : Int) := by omega
          go_wp2_with (fail)
          go_roundg g1
          case measure => omega
          case rel => exact ⟨i + 1, y, best, v, rfl, rfl, by go_num, by omega, hEH.out.fewer (winU_end (by rw [hmH.out]; exact him) hmH.out), hBH.out, y0, y1, hblH.out⟩
    · have hie : m = i := by omega
      subst hie
      have hiI : ¬ (m : Int) < (m : Int) := by omega
      rcases best with _ | b
      · exact absurd (hEH.out.never hv.out hn1 (fun lo hlo hi hhi => ⟨by rw [List.take_of_length_le (by rw [hmH.out]; exact Nat.le_refl _)]; exact hlo, hhi⟩)) (fun h => h)
      · obtain ⟨g5, o5, c5, hv5, hc5, hI5⟩ := hBH.out
        subst hv5
        have hI5H := Lib.hid hI5
        have hD := hEH.out.done hv.out hn1 (fun lo hlo hi hhi => ⟨by rw [List.take_of_length_le (by rw [hmH.out]; exact Nat.le_refl _)]; exact hlo, hhi⟩)
        have hDH := Lib.hid hD
        clear hI5 hD
        go_wp2_with (fail)
        go_ret3
        exact ⟨b, g5, o5, c5, y, hDH.out.1, hDH.out.2, rfl, hc5, hI5H.out, bseqJ hw1.out hblH.out⟩
end Go.Proofs.Yteiipfajoikfpaa
