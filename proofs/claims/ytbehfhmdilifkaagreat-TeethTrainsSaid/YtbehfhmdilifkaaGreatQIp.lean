/- Ip -/
import Derived.Test.YtbehfhmdilifkaaGreatQIo
import Derived.Test.YtbehfhmdilifkaaGreatQTo
import Derived.Test.YtbehfhmdilifkaaGreatQPd
import Derived.Test.YtbehfhmdilifkaaGreatQPc
import Derived.Test.YtbehfhmdilifkaaGreatQTd
import Derived.Deep.LoopGhost
import Derived.Deep.RegionLawGrows
import Derived.Laws.EntriesVeiled
set_option linter.unusedVariables false
/- Helpers for trains: bits, slices.Compare, slices.Clone of rows, append of a row in a region that draws, the frame of two boxes. -/
namespace Go.Proofs.YtbehfhmdilifkaaGreat
open Go Go.RowKit Go.Proofs

theorem bits_and_nat (a b : Nat) (ha : a < 9223372036854775808) (hb : b < 9223372036854775808) : bits .and .i64 (a : Int) (b : Int) = ((a &&& b : Nat) : Int) := by
  have hx : a &&& b < 2 ^ 63 := Nat.and_lt_two_pow _ (by omega)
  have h1 : (BitVec.ofInt 64 (a : Int)).toNat = a := by
    rw [BitVec.ofInt_natCast, BitVec.toNat_ofNat]; exact Nat.mod_eq_of_lt (by omega)
  have h2 : (BitVec.ofInt 64 (b : Int)).toNat = b := by
    rw [BitVec.ofInt_natCast, BitVec.toNat_ofNat]; exact Nat.mod_eq_of_lt (by omega)
  show IntKind.i64.wrap ((BitVec.ofInt 64 (a : Int) &&& BitVec.ofInt 64 (b : Int)).toNat : Int) = _
  rw [BitVec.toNat_and, h1, h2, IntKind.wrap_i64]
  omega
theorem bits_or_nat (a b : Nat) (ha : a < 9223372036854775808) (hb : b < 9223372036854775808) : bits .or .i64 (a : Int) (b : Int) = ((a ||| b : Nat) : Int) := by
  have hx : a ||| b < 2 ^ 63 := Nat.or_lt_two_pow (by omega) (by omega)
  have h1 : (BitVec.ofInt 64 (a : Int)).toNat = a := by
    rw [BitVec.ofInt_natCast, BitVec.toNat_ofNat]; exact Nat.mod_eq_of_lt (by omega)
  have h2 : (BitVec.ofInt 64 (b : Int)).toNat = b := by
    rw [BitVec.ofInt_natCast, BitVec.toNat_ofNat]; exact Nat.mod_eq_of_lt (by omega)
  show IntKind.i64.wrap ((BitVec.ofInt 64 (a : Int) ||| BitVec.ofInt 64 (b : Int)).toNat : Int) = _
  rw [BitVec.toNat_or, h1, h2, IntKind.wrap_i64]
  omega
theorem bit_at (u j : Nat) (hu : u < 9223372036854775808) : bits .and .i64 ((u : Int) / 2 ^ j) 1 = ((u.testBit j).toNat : Int) := by
  have e : ((u : Int) / 2 ^ j) = ((u / 2 ^ j : Nat) : Int) := by simp
  rw [e]
  have h1 : u / 2 ^ j ≤ u := Nat.div_le_self _ _
  have := bits_and_nat (u / 2 ^ j) 1 (by omega) (by omega)
  rw [show ((1 : Nat) : Int) = 1 from rfl] at this
  rw [this, Nat.testBit_eq_decide_div_mod_eq, Nat.and_one_is_mod]
  by_cases h : u / 2 ^ j % 2 = 1
  · rw [h]; rfl
  · rw [show u / 2 ^ j % 2 = 0 by omega]; rfl
theorem or_bit (u j : Nat) (hu : u < 9223372036854775808) (hj : j < 63) : bits .or .i64 (u : Int) ((2 : Int) ^ j) = ((u ||| 2 ^ j : Nat) : Int) := by
  have e : ((2 : Int) ^ j) = ((2 ^ j : Nat) : Int) := by simp
  rw [e]
  exact bits_or_nat u (2 ^ j) hu (by have := Nat.pow_lt_pow_right (a := 2) (by omega) hj; omega)
theorem pow_in (j : Nat) (hj : j < 63) : wrap64 ((2 : Int) ^ j) = (2 : Int) ^ j := by
  have e : ((2 : Int) ^ j) = ((2 ^ j : Nat) : Int) := by simp
  have := Nat.pow_lt_pow_right (a := 2) (by omega) hj
  rw [IntWalk.wrap64_in]
  rw [e]; generalize 2 ^ j = x at *; omega
def cmpE (x y : Int) : Int := if x < y then -1 else if y < x then 1 else 0
theorem isNaNE_any (x : Int) (w : World) : Calls Tryz.prog 104 #[.int .i64 x] w (fun e w' => e = .returned (.bool false) ∧ w = w') := by
  have e1 : (x != x) = false := by simp
  go_enter Tryz.func104, Tryz.ntmps104
  go_wp2_with (fail)
  go_ret
  exact ⟨ret_boolJ (by simp), rfl⟩
theorem cmpE_any (x y : Int) (w : World) : Calls Tryz.prog 81 #[.int .i64 x, .int .i64 y] w (fun e w' => e = .returned (.int .i64 (cmpE x y)) ∧ w = w') := by
  by_cases h1 : x < y
  · have h1B : decide (x < y) = true := by simpa using h1
    have hc : Hid (cmpE x y = -1) := by show _ = _; unfold cmpE; rw [if_pos h1]
    go_enter Tryz.func81, Tryz.ntmps81
    go_wp2_with (first
      | (go_at_call 104; (with_reducible refine (isNaNE_any x _).mono ?_); rintro e w1 ⟨rfl, rfl⟩)
      | (go_at_call 104; (with_reducible refine (isNaNE_any y _).mono ?_); rintro e w1 ⟨rfl, rfl⟩))
    go_ret
    exact ⟨ret_intJ hc.out.symm, rfl⟩
  · have h1B : decide (x < y) = false := by simpa using h1
    by_cases h2 : y < x
    · have h2B : decide (y < x) = true := by simpa using h2
      have hc : Hid (cmpE x y = 1) := by show _ = _; unfold cmpE; rw [if_neg h1, if_pos h2]
      go_enter Tryz.func81, Tryz.ntmps81
      go_wp2_with (first
        | (go_at_call 104; (with_reducible refine (isNaNE_any x _).mono ?_); rintro e w1 ⟨rfl, rfl⟩)
        | (go_at_call 104; (with_reducible refine (isNaNE_any y _).mono ?_); rintro e w1 ⟨rfl, rfl⟩))
      go_ret
      exact ⟨ret_intJ hc.out.symm, rfl⟩
    · have h2B : decide (y < x) = false := by simpa using h2
      have hc : Hid (cmpE x y = 0) := by show _ = _; unfold cmpE; rw [if_neg h1, if_neg h2]
      go_enter Tryz.func81, Tryz.ntmps81
      go_wp2_with (first
        | (go_at_call 104; (with_reducible refine (isNaNE_any x _).mono ?_); rintro e w1 ⟨rfl, rfl⟩)
        | (go_at_call 104; (with_reducible refine (isNaNE_any y _).mono ?_); rintro e w1 ⟨rfl, rfl⟩))
      go_ret
      exact ⟨ret_intJ hc.out.symm, rfl⟩
/-- The order of lists of one length. -/
theorem lt_atE {α : Type} [LT α] {l m : List α} {k : Nat} {a b : α} (ht : l.take k = m.take k) (ha : l[k]? = some a) (hb : m[k]? = some b) (h : a < b) : l < m := by
  induction k generalizing l m with
  | zero =>
    cases l with
    | nil => simp at ha
    | cons x l =>
      cases m with
      | nil => simp at hb
      | cons y m =>
        simp at ha hb
        subst ha hb
        exact List.Lex.rel h
  | succ k ih =>
    cases l with
    | nil => simp at ha
    | cons x l =>
      cases m with
      | nil => simp at hb
      | cons y m =>
        simp at ha hb ht
        obtain ⟨e, ht⟩ := ht
        subst e
        exact List.Lex.cons (ih ht ha hb)
/-- What Compare returns of lists of one length. -/
def CmpPostE (xs ys : List Int) (w : World) (e : Ending) (w' : World) : Prop := ∃ z : Int, e = .returned (.int .i64 z) ∧ ((z < 0 ∧ xs < ys) ∨ (0 < z ∧ ys < xs) ∨ (z = 0 ∧ xs = ys)) ∧ Below w.heap.size w w'
set_option maxRecDepth 100000 in
set_option maxHeartbeats 3200000 in
theorem compareE_any (ao bo : Option Addr) (c d n : Nat) (xs ys : List Int) (w : World) (h1 : IZ w ao xs) (h2 : IZ w bo ys) (hx : xs.length = n) (hy : ys.length = n) (hn : n ≤ 1000000) :
    Calls Tryz.prog 48 #[.slice ao n c, .slice bo n d] w (CmpPostE xs ys w) := by
  have h1H := Lib.hid h1
  have h2H := Lib.hid h2
  have hxH := Lib.hid hx
  have hyH := Lib.hid hy
  clear h1 h2 hx hy
  go_enter Tryz.func48, Tryz.ntmps48
  go_wp2_with (fail)
  go_loopg [11] n (fun gk iv wr => ∃ k : Nat, iv = .int .i64 (k : Nat) ∧ k + gk = n ∧ xs.take k = ys.take k ∧ Below w.heap.size w wr)
  case atStart => exact ⟨0, rfl, by omega, by simp, Below.refl _ _⟩
  case round =>
    obtain ⟨k, rfl, hk, heq, hbl⟩ := hrel
    have heqH := Lib.hid heq
    have hblH := Lib.hid hbl
    clear heq hbl
    by_cases hkn : k < n
    · obtain ⟨g1, rfl⟩ : ∃ g1, gk = g1 + 1 := ⟨gk - 1, by omega⟩
      obtain ⟨b1, o1, hao, e1⟩ := (h1H.out.below hblH.out).at (i := k) (by rw [hxH.out]; exact hkn)
      obtain ⟨b2, o2, hbo, e2⟩ := (h2H.out.below hblH.out).at (i := k) (by rw [hyH.out]; exact hkn)
      have haoH := Lib.hid hao
      have hboH := Lib.hid hbo
      subst hao
      subst hbo
      have hgx := Lib.hid (at0_get (l := xs) (j := k) (by rw [hxH.out]; exact hkn))
      have hgy := Lib.hid (at0_get (l := ys) (j := k) (by rw [hyH.out]; exact hkn))
      have t1 := Lib.hid (take_at0 xs (k := k) (by rw [hxH.out]; exact hkn))
      have t2 := Lib.hid (take_at0 ys (k := k) (by rw [hyH.out]; exact hkn))
      obtain ⟨x, hx⟩ : ∃ x, at0 xs k = x := ⟨_, rfl⟩
      obtain ⟨y, hy⟩ : ∃ y, at0 ys k = y := ⟨_, rfl⟩
      rw [hx] at e1
      rw [hy] at e2
      have hxv := Lib.hid hx
      have hyv := Lib.hid hy
      have hkI : (k : Int) < (n : Int) := by omega
      have hk0 : (0 : Int) ≤ (k : Int) := by omega
      have hkB : decide ((n : Int) ≤ (k : Int)) = false := by simp; omega
      clear hx hy
      obtain ⟨z, hz⟩ : ∃ z, cmpE x y = z := ⟨_, rfl⟩
      have hzH := Lib.hid hz
      by_cases hlt : x < y
      · have ez : z = -1 := by rw [← hz]; unfold cmpE; rw [if_pos hlt]
        subst ez
        clear hz
        go_wp2_with (go_at_call 81; (with_reducible refine (cmpE_any x y _).mono ?_); rintro e w1 ⟨rfl, rfl⟩; rw [hzH.out])
        go_ret
        exact ⟨-1, rfl, .inl ⟨by omega, lt_atE heqH.out (by rw [hgx.out, hxv.out]) (by rw [hgy.out, hyv.out]) hlt⟩, hblH.out⟩
      · by_cases hgt : y < x
        · have ez : z = 1 := by rw [← hz]; unfold cmpE; rw [if_neg hlt, if_pos hgt]
          subst ez
          clear hz
          go_wp2_with (go_at_call 81; (with_reducible refine (cmpE_any x y _).mono ?_); rintro e w1 ⟨rfl, rfl⟩; rw [hzH.out])
          go_ret
          exact ⟨1, rfl, .inr (.inl ⟨by omega, lt_atE heqH.out.symm (by rw [hgy.out, hyv.out]) (by rw [hgx.out, hxv.out]) hgt⟩), hblH.out⟩
        · have ez : z = 0 := by rw [← hz]; unfold cmpE; rw [if_neg hlt, if_neg hgt]
          have exy : x = y := by omega
          subst ez exy
          clear hz
          go_wp2_with (go_at_call 81; (with_reducible refine (cmpE_any x x _).mono ?_); rintro e w1 ⟨rfl, rfl⟩; rw [hzH.out])
          go_roundg g1
          case measure => omega
          case rel => exact ⟨k + 1, by go_num, by omega, by rw [t1.out, t2.out, hxv.out, hyv.out, heqH.out], hblH.out⟩
    · have hke : n = k := by omega
      subst hke
      have hkI : ¬ (n : Int) < (n : Int) := by omega
      have hkB : decide ((n : Int) < (n : Int)) = false := by simp
      go_wp2_with (fail)
      go_ret
      refine ⟨0, rfl, .inr (.inr ⟨rfl, ?_⟩), hblH.out⟩
      have h3 := heqH.out
      rw [List.take_of_length_le (by rw [hxH.out]; exact Nat.le_refl _), List.take_of_length_le (by rw [hyH.out]; exact Nat.le_refl _)] at h3
      exact h3
theorem step_append_rowM {ops : Array Oper} {o : Oper} {a : Act} {w : World} {K : Act → World → Prop} {Q : Exit → Act → World → Prop} {E : Prop} (hgd : o.guard = none) (s x : Operand) (t : TypeId)
    (ho : o.op = .call { callee := .builtin .append, args := #[s, x], argTypes := #[t, t] }) (ht : Tryz.prog.underlying t = some (.slice 23)) (base n : Nat) (v : Value) (C : List (List Int)) (xs : List Int) (hs : a.eval s = v) (hv : MI w base v C)
    (hn : C.length = n) (g0 : Nat) (hx : a.eval x = .slice (some ⟨g0, 0, none⟩) 1 1) (b : Option Addr) (k d : Nat) (hb : n ≤ 1000000000000) (hbs : base ≤ w.heap.size) (c0 : w.cell? ⟨g0, 0, none⟩ = some (.slice b k d)) (hk : xs.length = k) (hd : k ≤ d) (hz : IZ w b xs)
    (hK : ∀ v' w', MI w' base v' (C ++ [xs]) → w.grownBy w' v.ownBlock → (v'.ownBlock = v.ownBlock ∨ v'.ownBlock = some w.heap.size) → K (a.put o.dst v') w') :
    if Region.wanted o (yielded ops a.tmps) = true then Oper.wp Tryz.prog o a w K Q else E := by
  have hw : Region.wanted o (yielded ops a.tmps) = true := by simp [Region.wanted, hgd]
  rw [if_pos hw]
  subst hk hn
  obtain ⟨i, h2, h3, h4, h5⟩ := info_parts info_rowJ
  obtain ⟨vs, hown, hno, hr⟩ := hv
  have hnews : ∀ (j : Nat) (u : Value), [Value.slice b xs.length d][j]? = some u → w.cell? ((⟨g0, 0, none⟩ : Addr).add j) = some u := fun j u hu => by
    rcases j with _ | j
    · simp at hu; subst hu
      rw [Addr.add_lit]; exact c0
    · simp at hu
  have hone : ∀ u ∈ [Value.slice b xs.length d], u.oneCell' = true := fun u hu => by rw [List.mem_singleton] at hu; subst hu; rfl
  have hnew : ∀ u ∈ [Value.slice b xs.length d], ∀ k z, u ≠ .int k z := fun u hu k z => by rw [List.mem_singleton] at hu; subst hu; simp
  have hzn : ∀ u ∈ (Value.slice none 0 0).cells.toList, ∀ k z, u ≠ .int k z := fun u hm k z => by
    simp [Value.cells] at hm
    subst hm; simp
  obtain ⟨v', w', hrun, e2, e3, _, e5⟩ := run_append_own_at (P := Tryz.prog) w base t o.type 23 i _ 1 24 ht h2 h3 h4 h5 rfl (by omega) v C.length vs hown ⟨g0, 0, none⟩ 1 1 _ (by simp) hnews hone (by unfold maxLen; omega) (by omega) hbs
  obtain ⟨v2, w2, hrun2, e6⟩ := run_append_noint (P := Tryz.prog) w base t o.type 23 i _ 1 24 ht h2 h3 h4 h5 rfl (by omega) v C.length vs hown ⟨g0, 0, none⟩ 1 1 _ (by simp) hnews hone (by unfold maxLen; omega) (by omega) (by omega) hno hnew hzn
  rw [hrun] at hrun2
  injection hrun2 with q1 q2
  subst q1 q2
  unfold Oper.wp execOp
  simp only [ho, resolve, invoke, builtin, Sem.run_bind, Sem.run_pure, Result.andThen_ok, List.map_toArray, List.map_cons, List.map_nil, hs, hx, hrun]
  refine hK v' w' ⟨vs ++ [.slice b xs.length d], ?_, e6, ?_⟩ e3 e5
  · rw [List.length_append]; exact e2
  · refine (hr.append (us := [.slice b xs.length d]) (D := [xs]) ⟨rfl, fun j u ys hu hy => ?_⟩).grown e3 hno
    rcases j with _ | j
    · simp at hu hy
      subst hu hy
      exact ⟨b, d, rfl, hd, hz⟩
    · simp at hu
theorem eql_nilR0 (W : World) : (binOp .eql 44 (.slice none 0 0) (.slice none 0 0)).run Tryz.prog W = .ok (.bool true) W := Lib.run_eql_slice_nil W _ _ none 0 0 0 0 Tryz.underlying44
theorem eql_nilR1 (W : World) (a : Addr) (n c : Nat) : (binOp .eql 44 (.slice (some a) n c) (.slice none 0 0)).run Tryz.prog W = .ok (.bool false) W := Lib.run_eql_slice_nil W _ _ (some a) n c 0 0 Tryz.underlying44
/-- A copy of a list of rows. -/
theorem cloneR_nil (w : World) : Calls Tryz.prog 47 #[.slice none 0 0] w (fun e w' => e = .returned (.slice none 0 0) ∧ w = w') := by
  have e0 := eql_nilR0
  go_enter Tryz.func47, Tryz.ntmps47
  go_wp2_with (fail)
  go_ret
  exact ⟨rfl, rfl⟩
set_option maxRecDepth 100000 in
set_option maxHeartbeats 1600000 in
theorem cloneR_some (ad : Addr) (n c : Nat) (C : List (List Int)) (w : World) (h : IMx w (some ad) C) (hn : C.length = n) (h0 : 0 < n) (hb : n ≤ 1000000) :
    Calls Tryz.prog 47 #[.slice (some ad) n c] w (fun e w' => ∃ v', e = .returned v' ∧ MI w' w.heap.size v' C ∧ Below w.heap.size w w') := by
  have e1 := eql_nilR1
  have hH := Lib.hid h
  have hnH := Lib.hid hn
  clear h hn
  go_enter Tryz.func47, Tryz.ntmps47
  go_wp2_with (first
    | (at_builtin; go_loud (refine wpList_append_rows _ rfl (.tmp 5) (.tmp 6) _ rfl Tryz.underlying44 w.heap.size 0 _ [] (by rfl) (MI.lit0 w w.heap.size (Nat.le_refl _)) rfl (some ad) n c C (by rfl) (hH.out.below (below_al (Below.refl _ _) _)) hnH.out h0 (by omega) (by omega) (by simp) ?_); intro v' w' hM hg; have hMH := Lib.hid hM; have hgH := Lib.hid hg; clear hM hg))
  go_ret
  refine ⟨v', rfl, ?_, ?_⟩
  · have := hMH.out
    rw [List.nil_append] at this
    exact this
  · exact (below_al (Below.refl _ _) _).grown hgH.out (by simp) (fun g hg => by simp [Value.ownBlock] at hg; omega)
/-- Two boxes may have turned, nothing else that was there. -/
structure Fr (bb bc : Nat) (w w' : World) : Prop where
  os : w'.os = w.os
  tape : w'.tape = w.tape
  output : w'.output = w.output
  size : w.heap.size ≤ w'.heap.size
  block : ∀ k, k < w.heap.size → k ≠ bb → k ≠ bc → w'.heap[k]? = w.heap[k]?
theorem Fr.of {bb bc : Nat} {w w' : World} (h : Below w.heap.size w w') : Fr bb bc w w' := ⟨h.os, h.tape, h.output, h.size, fun k hk _ _ => h.block k hk⟩
theorem Fr.refl (bb bc : Nat) (w : World) : Fr bb bc w w := Fr.of (Below.refl _ _)
theorem Fr.trans {bb bc : Nat} {a b c : World} (h : Fr bb bc a b) (k : Fr bb bc b c) : Fr bb bc a c :=
  ⟨k.os.trans h.os, k.tape.trans h.tape, k.output.trans h.output, Nat.le_trans h.size k.size, fun i hi h1 h2 => (k.block i (Nat.lt_of_lt_of_le hi h.size) h1 h2).trans (h.block i hi h1 h2)⟩
theorem Fr.setb {bb bc : Nat} {a w : World} (h : Fr bb bc a w) (o : Nat) (u : Value) : Fr bb bc a (w.setCell ⟨bb, o, none⟩ u) :=
  h.trans ⟨rfl, rfl, rfl, by simp [World.setCell], fun k _ h1 _ => Below.heap_setCell _ _ _ _ h1⟩
theorem Fr.setc {bb bc : Nat} {a w : World} (h : Fr bb bc a w) (o : Nat) (u : Value) : Fr bb bc a (w.setCell ⟨bc, o, none⟩ u) :=
  h.trans ⟨rfl, rfl, rfl, by simp [World.setCell], fun k _ _ h2 => Below.heap_setCell _ _ _ _ h2⟩
theorem Fr.cell {bb bc : Nat} {w w' : World} (h : Fr bb bc w w') {b o : Nat} {v : Value} (hc : w.cell? ⟨b, o, none⟩ = some v) (h1 : b ≠ bb) (h2 : b ≠ bc) : w'.cell? ⟨b, o, none⟩ = some v := by
  rw [World.cell?_of_block (w := w) (a := ⟨b, o, none⟩) (h.block b (World.block_lt_of_cell? w ⟨b, o, none⟩ hc) h1 h2)]
  exact hc
theorem Fr.below {bb bc B : Nat} {w w' : World} (h : Fr bb bc w w') (h1 : B ≤ bb) (h2 : B ≤ bc) (h3 : B ≤ w.heap.size) : Below B w w' :=
  ⟨h.os, h.tape, h.output, h.size, fun k hk => h.block k (by omega) (by omega) (by omega)⟩
theorem Fr.icell {bb bc : Nat} {w w' : World} (h : Fr bb bc w w') (n1 : NoInt w bb) (n2 : NoInt w bc) {b o : Nat} {k : IntKind} {z : Int} (hc : w.cell? ⟨b, o, none⟩ = some (.int k z)) : w'.cell? ⟨b, o, none⟩ = some (.int k z) :=
  h.cell hc (fun e => by subst e; exact n1 o k z hc) (fun e => by subst e; exact n2 o k z hc)
theorem IZ.fr {bb bc : Nat} {w w' : World} {ao : Option Addr} {xs : List Int} (hI : IZ w ao xs) (h : Fr bb bc w w') (n1 : NoInt w bb) (n2 : NoInt w bc) : IZ w' ao xs := fun i x hx => by
  obtain ⟨b, o', ha, hc⟩ := hI i x hx
  exact ⟨b, o', ha, h.icell n1 n2 hc⟩
theorem Blk.fr {bb bc : Nat} {w w' : World} {g T : Nat} {cs : List Value} (hB : Blk w g T cs) (h : Fr bb bc w w') (h1 : g ≠ bb) (h2 : g ≠ bc) : Blk w' g T cs := (h.block g hB.lt h1 h2).trans hB
theorem IMx.fr {bb bc : Nat} {w w' : World} {ao : Option Addr} {C : List (List Int)} (hI : IMx w ao C) (h : Fr bb bc w w') (n1 : NoInt w bb) (n2 : NoInt w bc) (hne : ∀ a, ao = some a → a.block ≠ bb ∧ a.block ≠ bc) : IMx w' ao C := by
  obtain ⟨vs, hc, hl, hr⟩ := hI
  refine ⟨vs, fun i v hv => ?_, hl, fun i v xs hv hx => ?_⟩
  · obtain ⟨b, o, ha, hcell⟩ := hc i v hv
    have := hne _ ha
    exact ⟨b, o, ha, h.cell hcell this.1 this.2⟩
  · obtain ⟨a, c, e, hle, hz⟩ := hr i v xs hv hx
    exact ⟨a, c, e, hle, hz.fr h n1 n2⟩
end Go.Proofs.YtbehfhmdilifkaaGreat
