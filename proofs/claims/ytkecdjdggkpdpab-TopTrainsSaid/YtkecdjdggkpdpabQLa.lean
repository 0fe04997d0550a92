/- La Lb Lc Le -/
import Derived.Test.YtkecdjdggkpdpabQIs
import Derived.Test.YtkecdjdggkpdpabQTh
import Derived.Test.YtkecdjdggkpdpabQHe
import Derived.Test.YtkecdjdggkpdpabQKk
import Derived.Test.YtkecdjdggkpdpabQWp
import Derived.Test.YtkecdjdggkpdpabQWm
import Derived.Test.YtkecdjdggkpdpabQWk
set_option linter.unusedVariables false
/- Plain: the trains that were tried; the speeds of a chain. -/
namespace Go.Proofs.Ytkecdjdggkpdpab

/-- The products of a train's wheels. -/
def trP (w : Nat → Nat) (t : Tr) : Nat := t.foldl (fun p x => p * w x.1) 1
def trQ (w : Nat → Nat) (t : Tr) : Nat := t.foldl (fun p x => p * w x.2) 1
theorem trP_snoc (w : Nat → Nat) (t : Tr) (i k : Nat) : trP w (t ++ [(i, k)]) = trP w t * w i := by unfold trP; rw [List.foldl_append]; rfl
theorem trQ_snoc (w : Nat → Nat) (t : Tr) (i k : Nat) : trQ w (t ++ [(i, k)]) = trQ w t * w k := by unfold trQ; rw [List.foldl_append]; rfl
/-- What holds of the best train: its pairs, its products. -/
def GoodT (L n : Nat) (w : Nat → Nat) (s : Bt) : Prop := ∀ t p q, s = some (t, p, q) → t.length = L ∧ p = trP w t ∧ q = trQ w t ∧ ∀ x ∈ t, x.1 < n ∧ x.2 < n
theorem rowF_keep {f : Nat → Bt → Bt} {n : Nat} {I : Bt → Prop} (h : ∀ k s, k < n → I s → I (f k s)) : ∀ m k s, k + m ≤ n → I s → I (rowF f m k s)
  | 0, _, _, _, hs => hs
  | m + 1, k, s, hk, hs => rowF_keep h m (k + 1) (f k s) (by omega) (h k s (by omega) hs)
theorem tryT_good {o u L n : Nat} {w : Nat → Nat} : ∀ (l : Nat) (t : Tr) (s : Bt), t.length + l = L → (∀ x ∈ t, x.1 < n ∧ x.2 < n) → GoodT L n w s → GoodT L n w (tryT o u n w l t (trP w t) (trQ w t) s)
  | 0, t, s, hl, ht, hs => by
    rw [tryT_zero]
    intro t' p' q' he
    have hnew : t.length = L ∧ trP w t = trP w t ∧ trQ w t = trQ w t ∧ ∀ x ∈ t, x.1 < n ∧ x.2 < n := ⟨by omega, rfl, rfl, ht⟩
    unfold updT at he
    split at he
    · injection he with he
      injection he with e1 he
      injection he with e2 e3
      subst e1 e2 e3
      exact hnew
    · split at he
      · injection he with he
        injection he with e1 he
        injection he with e2 e3
        subst e1 e2 e3
        exact hnew
      · exact hs _ _ _ he
  | l + 1, t, s, hl, ht, hs => by
    rw [tryT_succ]
    refine rowF_keep (n := n) (fun i s hi hs => ?_) n 0 s (by omega) hs
    refine rowF_keep (n := n) (fun k s hk hs => ?_) n 0 s (by omega) hs
    rcases hok : okT t i k with _ | _
    · rw [inF_no hok]; exact hs
    · rw [inF_yes hok, ← trP_snoc w t i k, ← trQ_snoc w t i k]
      refine tryT_good l _ s (by rw [List.length_append]; simp; omega) (fun x hx => ?_) hs
      rcases List.mem_append.1 hx with h | h
      · exact ht x h
      · rw [List.mem_singleton] at h; subst h; exact ⟨hi, hk⟩
/-- Once there is a train, there is one. -/
theorem tryT_some {o u n : Nat} {w : Nat → Nat} : ∀ (l : Nat) (t : Tr) (p q : Nat) (s : Bt), s ≠ none → tryT o u n w l t p q s ≠ none
  | 0, t, p, q, s, hs => by
    rw [tryT_zero]
    obtain ⟨x, hx⟩ := updT_some (o := o) (u := u) (s := s) (t := t) (p := p) (q := q)
    rw [hx]; simp
  | l + 1, t, p, q, s, hs => by
    rw [tryT_succ]
    refine rowF_keep (n := n) (I := fun s => s ≠ none) (fun i s hi hs => ?_) n 0 s (by omega) hs
    refine rowF_keep (n := n) (I := fun s => s ≠ none) (fun k s hk hs => ?_) n 0 s (by omega) hs
    rcases hok : okT t i k with _ | _
    · rw [inF_no hok]; exact hs
    · rw [inF_yes hok]; exact tryT_some l _ _ _ s hs
theorem rowF_hit {f : Nat → Bt → Bt} {n j : Nat} (hk : ∀ k s, s ≠ none → f k s ≠ none) (hj : ∀ s, f j s ≠ none) : ∀ m k s, k ≤ j → j < k + m → rowF f m k s ≠ none
  | 0, k, s, h1, h2 => by omega
  | m + 1, k, s, h1, h2 => by
    show rowF f m (k + 1) (f k s) ≠ none
    by_cases e : k = j
    · subst e
      exact rowF_keep (n := k + 1 + m) (I := fun s => s ≠ none) (fun k s _ hs => hk k s hs) m (k + 1) _ (by omega) (hj s)
    · exact rowF_hit (n := n) hk hj m (k + 1) _ (by omega) (by omega)
theorem outF_some {o u n : Nat} {w : Nat → Nat} {l : Nat} {t : Tr} {p q : Nat} (i : Nat) (s : Bt) (hs : s ≠ none) : outF o u n w l t p q i s ≠ none := by
  refine rowF_keep (n := n) (I := fun s => s ≠ none) (fun k s hk hs => ?_) n 0 s (by omega) hs
  rcases hok : okT t i k with _ | _
  · rw [inF_no hok]; exact hs
  · rw [inF_yes hok]; exact tryT_some l _ _ _ s hs
theorem tryT_hit {o u n : Nat} {w : Nat → Nat} {l : Nat} {t : Tr} {p q : Nat} {s : Bt} (i k : Nat) (hi : i < n) (hk : k < n) (hok : okT t i k = true) (h : ∀ s, tryT o u n w l (t ++ [(i, k)]) (p * w i) (q * w k) s ≠ none) : tryT o u n w (l + 1) t p q s ≠ none := by
  rw [tryT_succ]
  refine rowF_hit (n := n) (j := i) (fun i s hs => outF_some i s hs) (fun s => ?_) n 0 s (by omega) (by omega)
  refine rowF_hit (n := n) (j := k) (fun k s hs => ?_) (fun s => ?_) n 0 s (by omega) (by omega)
  · rcases hok : okT t i k with _ | _
    · rw [inF_no hok]; exact hs
    · rw [inF_yes hok]; exact tryT_some l _ _ _ s hs
  · rw [inF_yes hok]; exact h s
theorem tryT_last {o u n : Nat} {w : Nat → Nat} {t : Tr} {p q : Nat} (s : Bt) : tryT o u n w 0 t p q s ≠ none := by
  rw [tryT_zero]
  obtain ⟨x, hx⟩ := updT_some (o := o) (u := u) (s := s) (t := t) (p := p) (q := q)
  rw [hx]; simp
/-- One or two pairs of enough wheels: there is a train. -/
theorem tryT_ex {o u n L : Nat} {w : Nat → Nat} (h1 : 1 ≤ L) (h2 : L ≤ 2) (hn : 2 * L ≤ n) : ∃ t p q, tryT o u n w L [] 1 1 none = some (t, p, q) := by
  have key : tryT o u n w L [] 1 1 none ≠ none := by
    rcases L with _ | _ | _ | L
    · omega
    · exact tryT_hit 0 1 (by omega) (by omega) (by decide) fun s => tryT_last s
    · exact tryT_hit 0 1 (by omega) (by omega) (by decide) fun s => tryT_hit 2 3 (by omega) (by omega) (by decide) fun s => tryT_last s
    · omega
  rcases h : tryT o u n w L [] 1 1 none with _ | ⟨t, p, q⟩
  · exact absurd h key
  · exact ⟨t, p, q, rfl⟩
end Go.Proofs.Ytkecdjdggkpdpab

/- Plain: the speeds of a chain of one or two belts. -/
namespace Go.Proofs.Ytkecdjdggkpdpab

/-- The chain's belts, made of a train. -/
def chB (w : Nat → Nat) (t : Tr) : List BtK := t.zipIdx.map fun x => ⟨x.2, x.2 + 1, (w x.1.1 : Int), w x.1.2⟩
theorem sp_one (b : BtK) (h0 : b.A = 0) (h1 : b.B = 1) : speedsG wo0 [b] 2 2 = [some (0, 1), some (0, 1 * rt b)] := by
  obtain ⟨A, B, o, u⟩ := b
  simp only at h0 h1
  subst h0 h1
  simp [speedsG, passG, stepG, iterN, stG, wo0]
theorem sp_two (b c : BtK) (h0 : b.A = 0) (h1 : b.B = 1) (h2 : c.A = 1) (h3 : c.B = 2) : speedsG wo0 [b, c] 3 3 = [some (0, 1), some (0, 1 * rt b), some (0, 1 * rt b * rt c)] := by
  obtain ⟨A, B, o, u⟩ := b
  obtain ⟨A2, B2, o2, u2⟩ := c
  simp only at h0 h1 h2 h3
  subst h0 h1 h2 h3
  simp [speedsG, passG, stepG, iterN, stG, wo0]
theorem inv1 : (1 : Rat)⁻¹ = 1 := by
  have h := Rat.mul_inv_cancel (1 : Rat) (by decide)
  rwa [Rat.one_mul] at h
theorem turns_one (b : BtK) (h0 : b.A = 0) (h1 : b.B = 1) : turnsG wo0 [b] 2 = true ∧ prt (speedsG wo0 [b] 2 2) 0 = prt (speedsG wo0 [b] 2 2) 1 ∧ spd (speedsG wo0 [b] 2 2) 1 / spd (speedsG wo0 [b] 2 2) 0 = rt b := by
  unfold turnsG
  rw [sp_one b h0 h1]
  refine ⟨?_, rfl, ?_⟩
  · simp [chkB, wo0, keptB, stG, h0, h1, List.range_succ]
  · show 1 * rt b / 1 = rt b
    rw [Rat.one_mul, Rat.div_def, inv1, Rat.mul_one]
theorem turns_two (b c : BtK) (h0 : b.A = 0) (h1 : b.B = 1) (h2 : c.A = 1) (h3 : c.B = 2) : turnsG wo0 [b, c] 3 = true ∧ prt (speedsG wo0 [b, c] 3 3) 0 = prt (speedsG wo0 [b, c] 3 3) 2 ∧ spd (speedsG wo0 [b, c] 3 3) 2 / spd (speedsG wo0 [b, c] 3 3) 0 = rt b * rt c := by
  unfold turnsG
  rw [sp_two b c h0 h1 h2 h3]
  refine ⟨?_, rfl, ?_⟩
  · simp [chkB, wo0, keptB, stG, h0, h1, h2, h3, List.range_succ]
  · show 1 * rt b * rt c / 1 = rt b * rt c
    rw [Rat.one_mul, Rat.div_def, inv1, Rat.mul_one]
/-- A train's belts, as the law lays them. -/
theorem chB_len (w : Nat → Nat) (t : Tr) : (chB w t).length = t.length := by unfold chB; simp
theorem chB_ok {w : Nat → Nat} {t : Tr} {n : Nat} (hw : ∀ x ∈ t, 1 ≤ w x.1 ∧ w x.1 ≤ 60 ∧ 1 ≤ w x.2 ∧ w x.2 ≤ 60) (hn : t.length + 1 = n) : ∀ b ∈ chB w t, okBt n b := fun b hb => by
  unfold chB at hb
  obtain ⟨⟨x, i⟩, hx, rfl⟩ := List.mem_map.1 hb
  have hm := List.mem_zipIdx hx
  have h1 := hw x (by rw [hm.2.2]; exact List.getElem_mem _)
  have h2 := hm.2.1
  unfold okBt
  simp only
  omega
/-- The chain's ratio is that of its teeth. -/
theorem chain_ratio {w : Nat → Nat} {t : Tr} {n : Nat} (hw : ∀ x ∈ t, 1 ≤ w x.1 ∧ w x.1 ≤ 60 ∧ 1 ≤ w x.2 ∧ w x.2 ≤ 60) (hn : t.length + 1 = n) (h1 : 1 ≤ t.length) (h2 : t.length ≤ 2) :
    turnsG wo0 (chB w t) n = true ∧ prt (speedsG wo0 (chB w t) n n) 0 = prt (speedsG wo0 (chB w t) n n) t.length ∧ spd (speedsG wo0 (chB w t) n n) t.length / spd (speedsG wo0 (chB w t) n n) 0 = Rat.divInt ((trP w t : Nat) : Int) ((trQ w t : Nat) : Int) := by
  subst hn
  rcases t with _ | ⟨x, _ | ⟨y, _ | ⟨z, t⟩⟩⟩
  · simp at h1
  · obtain ⟨e1, e2, e3⟩ := turns_one ⟨0, 0 + 1, (w x.1 : Int), w x.2⟩ rfl rfl
    refine ⟨e1, e2, e3.trans ?_⟩
    show Rat.divInt (w x.1 : Int) (w x.2 : Int) = Rat.divInt ((1 * w x.1 : Nat) : Int) ((1 * w x.2 : Nat) : Int)
    rw [Nat.one_mul, Nat.one_mul]
  · obtain ⟨e1, e2, e3⟩ := turns_two ⟨0, 0 + 1, (w x.1 : Int), w x.2⟩ ⟨1, 1 + 1, (w y.1 : Int), w y.2⟩ rfl rfl rfl rfl
    refine ⟨e1, e2, e3.trans ?_⟩
    show Rat.divInt (w x.1 : Int) (w x.2 : Int) * Rat.divInt (w y.1 : Int) (w y.2 : Int) = Rat.divInt ((1 * w x.1 * w y.1 : Nat) : Int) ((1 * w x.2 * w y.2 : Nat) : Int)
    rw [Rat.divInt_mul_divInt, Nat.one_mul, Nat.one_mul, Int.natCast_mul, Int.natCast_mul]
  · simp at h2
theorem fold_bd {f : Nat × Nat → Nat} : ∀ (t : Tr) (p : Nat), (∀ x ∈ t, 1 ≤ f x ∧ f x ≤ 60) → 1 ≤ p → 1 ≤ t.foldl (fun p x => p * f x) p ∧ t.foldl (fun p x => p * f x) p ≤ p * 60 ^ t.length
  | [], p, _, hp => ⟨hp, by simp⟩
  | x :: t, p, h, hp => by
    obtain ⟨h1, h2⟩ := h x (List.mem_cons_self ..)
    obtain ⟨h3, h4⟩ := fold_bd t (p * f x) (fun y hy => h y (List.mem_cons_of_mem _ hy)) (Nat.mul_pos hp h1)
    refine ⟨h3, Nat.le_trans h4 ?_⟩
    rw [List.length_cons, Nat.pow_succ, Nat.mul_assoc]
    refine Nat.mul_le_mul_left p ?_
    rw [Nat.mul_comm]
    exact Nat.mul_le_mul_left _ h2
/-- The products stay small. -/
theorem tr_bd {w : Nat → Nat} {t : Tr} (h : ∀ x ∈ t, 1 ≤ w x.1 ∧ w x.1 ≤ 60 ∧ 1 ≤ w x.2 ∧ w x.2 ≤ 60) : 1 ≤ trP w t ∧ trP w t ≤ 60 ^ t.length ∧ 1 ≤ trQ w t ∧ trQ w t ≤ 60 ^ t.length := by
  obtain ⟨h1, h2⟩ := fold_bd (f := fun x => w x.1) t 1 (fun x hx => ⟨(h x hx).1, (h x hx).2.1⟩) (Nat.le_refl _)
  obtain ⟨h3, h4⟩ := fold_bd (f := fun x => w x.2) t 1 (fun x hx => ⟨(h x hx).2.2.1, (h x hx).2.2.2⟩) (Nat.le_refl _)
  rw [Nat.one_mul] at h2 h4
  exact ⟨h1, h2, h3, h4⟩
end Go.Proofs.Ytkecdjdggkpdpab

/- Walk of the reference's Make. -/
namespace Go.Proofs.Ytkecdjdggkpdpab
open Go Go.RowKit Go.Proofs

theorem LZ_nat {n : Nat} (h : n < 10000 ^ 16) : LZ ((n : Nat) : Int) ≤ 16 := by
  unfold LZ
  rw [Int.natAbs_natCast]
  exact L_le_of_lt two_le_B4 16 n h

set_option maxRecDepth 100000 in
set_option maxHeartbeats 1600000 in
theorem make_any (n d : Nat) (hd : 0 < d) (hn : n ≤ 1000000) (hd2 : d ≤ 1000000) (w : World) :
    Calls Try.prog 8 #[.int .i64 n, .int .i64 d] w (RetQ w (rn (Rat.divInt n d)) (rd (Rat.divInt n d))) := by
  obtain ⟨W, hW⟩ : ∃ W, W = w.alloc (Obj.cells #[.bool false, .slice none 0 0, .bool false, .slice none 0 0] 42) := ⟨_, rfl⟩
  have HR : Hid (Rg w.heap.size 4 W W) := by rw [hW]; exact Rg.new4 _ _ _ rfl
  have hbW' : Below w.heap.size w W := by rw [hW]; go_grown
  have hbW := Lib.hid hbW'
  have hWH := Lib.hid hW
  have B1 := Lib.hid (show LZ ((n : Nat) : Int) ≤ 1000000 by have := LZ_nat (n := n) (by omega); omega)
  have B2 := Lib.hid (show LZ ((d : Nat) : Int) ≤ 1000000 by have := LZ_nat (n := d) (by omega); omega)
  have hdd : 0 < ((d : Nat) : Int) := by omega
  have hddH := Lib.hid hdd
  clear hW hbW' hd hdd
  go_enter Try.func8, Try.ntmps8
  go_wp2_with (first
    | (go_at_call 29; rw [← hWH.out]; (with_reducible refine (zint_any n _ (by omega)).mono ?_); rintro e w1 ⟨a1, c1, rfl, hm1, hb1⟩; have r1 := Lib.hid (Rg.slf (Rg.step HR.out (by omega) hb1)); have q1 := Lib.hid (bseqZ hbW.out hb1); have hm1H := Lib.hid hm1; clear hm1 hb1)
    | (go_at_call 29; go_loud (with_reducible refine (zint_any d _ (by omega)).mono ?_); rintro e w2 ⟨a2, c2, rfl, hm2, hb2⟩; have r2 := Lib.hid (Rg.slf (Rg.step r1.out (by omega) hb2)); have q2 := Lib.hid (bseqZ q1.out hb2); have hm12H := Lib.hid (hm1H.out.up hb2); have hm2H := Lib.hid hm2; clear hm2 hb2)
    | (go_at_call 28; go_loud (with_reducible refine (over_any a1 c1 a2 c2 ((n : Nat) : Int) ((d : Nat) : Int) _ hm12H.out hm2H.out hddH.out).mono ?_); rintro e w3 ⟨a3, c3, a3', c3', rfl, hm3, hb3⟩; have r3 := Lib.hid (Rg.slf (Rg.step r2.out (by omega) hb3)); have q3 := Lib.hid (bseqZ q2.out hb3); have hm3H := Lib.hid hm3; clear hm3 hb3)
    | (go_at_call 27; go_loud (with_reducible refine (lowest_q a3 c3 a3' c3' ((n : Nat) : Int) ((d : Nat) : Int) (Rat.divInt n d) _ hm3H.out B1.out B2.out hddH.out rfl).mono ?_); rintro e w4 ⟨a4, c4, a4', c4', rfl, hm4, hb4⟩; have r4 := Lib.hid (Rg.slf (Rg.step r3.out (by omega) hb4)); have q4 := Lib.hid (bseqZ q3.out hb4); obtain ⟨_, t2, t3, t5, _⟩ := r4.out))
  refine bodyPost_ret (v := .agg #[.bool (ng (rn (Rat.divInt n d))), .slice a4 (LZ (rn (Rat.divInt n d))) c4, .bool (ng (rd (Rat.divInt n d))), .slice a4' (LZ (rd (Rat.divInt n d))) c4']) (by simp [results, Try.results8, go_sem, t2]) rfl ?_
  exact ⟨a4, c4, a4', c4', rfl, ⟨hm4.1.set4 t5 _ _ _ _ _ _ _ _, hm4.2.set4 t5 _ _ _ _ _ _ _ _⟩, below_set4 q4.out (Nat.le_refl _) _ _ _ _⟩

end Go.Proofs.Ytkecdjdggkpdpab

/- An own list of belts ([]api.Belt). -/
namespace Go.Proofs.Ytkecdjdggkpdpab
open Go Go.RowKit Go.Proofs

def blC (l : List Rb) : List Value := l.flatMap fun r => [Value.int .i64 r.A, Value.int .i64 r.B, Value.int .i64 r.o, Value.int .i64 r.u]
theorem blC_snoc (l : List Rb) (r : Rb) : blC (l ++ [r]) = blC l ++ [Value.int .i64 r.A, Value.int .i64 r.B, Value.int .i64 r.o, Value.int .i64 r.u] := by unfold blC; simp
/-- An own list of belts. -/
def BW (w : World) (base : Nat) (v : Value) (l : List Rb) : Prop := w.ownsRow base 32 4 v l.length (blC l)
theorem BW.nil (w : World) (base : Nat) : BW w base (.slice none 0 0) [] := World.ownsRow_nil _ _ _ _
theorem BW.below {w w' : World} {base : Nat} {v : Value} {l : List Rb} (h : BW w base v l) (hb : Below w.heap.size w w') : BW w' base v l := by
  refine ⟨h.1, ?_⟩
  rcases h.2 with h' | ⟨g', cap', cur, hv, h1, hg, h2⟩
  · exact .inl h'
  · exact .inr ⟨g', cap', cur, hv, h1, by rw [hb.block g' (Array.getElem?_eq_some_iff.1 hg).1]; exact hg, h2⟩
theorem BW.shape {w : World} {base : Nat} {v : Value} {l : List Rb} (h : BW w base v l) : ∃ ao c, v = .slice ao l.length c := own_shape h
theorem BW.lt {w : World} {base : Nat} {v : Value} {l : List Rb} (h : BW w base v l) : ∀ k, v.ownBlock = some k → base ≤ k ∧ k < w.heap.size := World.ownsRow.lt h
theorem BW.lit0 (w : World) (base : Nat) (hb : base ≤ w.heap.size) : BW (w.alloc (.cells #[] 32)) base (.slice (some ⟨w.heap.size, 0, none⟩) 0 0) [] :=
  World.ownsRow_lit (base := base) (size := 4) (e := 32) w #[] 0 hb (by unfold maxLen; omega) rfl
theorem info_belt : (Try.prog.info? 32).map (fun i => (i.zero, i.size, i.bytes)) = some (some (.agg #[.int .i64 0, .int .i64 0, .int .i64 0, .int .i64 0]), 4, 32) := by kernel_rfl
set_option maxRecDepth 100000 in
theorem wpList_append_bl (w : World) {ops : Array Oper} {rest : List Oper} {o : Oper} {a : Act} {Q : Exit → Act → World → Prop} (hg : o.guard = none) (s x : Operand) (t : TypeId)
    (ho : o.op = .call { callee := .builtin .append, args := #[s, x], argTypes := #[t, t] }) (ht : Try.prog.underlying t = some (.slice 32)) (base n : Nat) (v : Value) (l : List Rb) (r : Rb) (hs : a.eval s = v) (hv : BW w base v l)
    (hn : l.length = n) (g0 : Nat) (hx : a.eval x = .slice (some ⟨g0, 0, none⟩) 1 1) (hb : n ≤ 1000000000000) (hbs : base ≤ w.heap.size) (c0 : w.cell? ⟨g0, 0, none⟩ = some (.int .i64 r.A)) (c1 : w.cell? ⟨g0, 1, none⟩ = some (.int .i64 r.B)) (c2 : w.cell? ⟨g0, 2, none⟩ = some (.int .i64 r.o)) (c3 : w.cell? ⟨g0, 3, none⟩ = some (.int .i64 r.u))
    (hK : ∀ v' w', BW w' base v' (l ++ [r]) → w.grownBy w' v.ownBlock → (v'.ownBlock = v.ownBlock ∨ v'.ownBlock = some w.heap.size) → wpList Try.prog ops Q rest (a.put o.dst v') w') : wpList Try.prog ops Q (o :: rest) a w := by
  obtain ⟨i, h2, h3, h4, h5⟩ := info_parts info_belt
  subst hn
  refine wpList_append_own_at w hg s x t ho base 32 i _ 4 32 ht h2 h3 h4 h5 rfl (by omega) v l.length _ hs hv ⟨g0, 0, none⟩ 1 1 [Value.int .i64 r.A, Value.int .i64 r.B, Value.int .i64 r.o, Value.int .i64 r.u] hx (by simp) ?_ ?_ (by unfold maxLen; omega) (by omega) hbs ?_
  · intro j u hu
    rw [Addr.add_lit, Nat.zero_add]
    rcases j with _ | _ | _ | _ | j
    · rw [c0]; exact hu
    · rw [c1]; exact hu
    · rw [c2]; exact hu
    · rw [c3]; exact hu
    · simp at hu
  · intro u hu
    simp at hu
    rcases hu with rfl | rfl | rfl | rfl <;> rfl
  · intro v' w' h6 h7 _ h8
    refine hK v' w' ?_ h7 h8
    unfold BW
    rw [blC_snoc, List.length_append]; exact h6
theorem blC_at : ∀ {l : List Rb} {i : Nat} {r : Rb}, l[i]? = some r → (blC l)[4 * i]? = some (Value.int .i64 r.A) ∧ (blC l)[4 * i + 1]? = some (Value.int .i64 r.B) ∧ (blC l)[4 * i + 2]? = some (Value.int .i64 r.o) ∧ (blC l)[4 * i + 3]? = some (Value.int .i64 r.u)
  | [], i, s, h => by simp at h
  | q :: l, 0, s, h => by
    simp at h
    subst h
    exact ⟨rfl, rfl, rfl, rfl⟩
  | q :: l, i + 1, s, h => by
    obtain ⟨h1, h2, h3, h4⟩ := blC_at (l := l) (i := i) (r := s) (by simpa using h)
    have e : blC (q :: l) = Value.int .i64 q.A :: Value.int .i64 q.B :: Value.int .i64 q.o :: Value.int .i64 q.u :: blC l := rfl
    rw [e, show 4 * (i + 1) = 4 * i + 1 + 1 + 1 + 1 by omega]
    exact ⟨by simpa using h1, by simpa using h2, by simpa using h3, by simpa using h4⟩
theorem blC_len (l : List Rb) : (blC l).length = 4 * l.length := by
  induction l with
  | nil => rfl
  | cons r l ih => show (blC l).length + 1 + 1 + 1 + 1 = _; rw [ih, List.length_cons]; omega
/-- The list can be read. -/
theorem BW.rv {w : World} {base n c : Nat} {a : Option Addr} {l : List Rb} (h : BW w base (.slice a n c) l) : RV w a l := fun i r hr => by
  have hi : i < l.length := (List.getElem?_eq_some_iff.1 hr).1
  have ho : w.ownsRow base 32 4 (.slice a n c) l.length (blC l) := h
  obtain ⟨h1, h2, h3, h4⟩ := blC_at hr
  rcases ho.2 with ⟨_, h2⟩ | ⟨g', cap', cur, hv, _⟩
  · omega
  · injection hv with e1 e2 e3
    subst e1 e3
    rw [e2] at ho
    refine ⟨g', 0, rfl, ?_, ?_, ?_, ?_⟩
    · rw [Nat.zero_add, Nat.mul_comm i 4, ← h1]
      exact ho.cellAt (4 * i) (by omega)
    · rw [Nat.zero_add, Nat.mul_comm i 4, ← h2]
      exact ho.cellAt (4 * i + 1) (by omega)
    · rw [Nat.zero_add, Nat.mul_comm i 4, ← h3]
      exact ho.cellAt (4 * i + 2) (by omega)
    · rw [Nat.zero_add, Nat.mul_comm i 4, ← h4]
      exact ho.cellAt (4 * i + 3) (by omega)
end Go.Proofs.Ytkecdjdggkpdpab
