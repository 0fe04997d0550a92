/- Pn Mk -/
import Derived.Test.YtcaeonpjokkjnaaQWt
import Derived.Test.YtcaeonpjokkjnaaQWp
import Derived.Test.YtcaeonpjokkjnaaQWu
import Derived.Test.YtcaeonpjokkjnaaQWm
import Derived.Test.YtcaeonpjokkjnaaQWk
set_option linter.unusedVariables false
/- A number's text is read back as that number. Plain. -/
namespace Go.Proofs.Ytcaeonpjokkjnaa
open Go

theorem size_list (t : ByteArray) : t.data.toList.length = t.size := by rw [Array.length_toList]; rfl
theorem get_list (s : ByteArray) {i : Nat} (h : i < s.size) : s.data.toList[i]? = some (s[i]'h) := by
  rw [Array.getElem?_toList]
  exact Array.getElem?_eq_getElem h
theorem dec_list {N : Nat} (h : N ≠ 0) : (dec N).data.toList = (digs 10 N).reverse.map fun d => UInt8.ofNat (48 + d) := by
  unfold dec
  rw [if_neg h]
  show (bl N).reverse.map UInt8.ofNat = _
  unfold bl
  rw [← List.map_reverse, List.map_map]
  rfl
theorem byte_nat {d : Nat} (h : d < 10) : (UInt8.ofNat (48 + d)).toNat = 48 + d := by
  rw [UInt8.toNat_ofNat']
  omega
theorem dec_bytes (N : Nat) : ∀ b ∈ (dec N).data.toList, 48 ≤ b.toNat ∧ b.toNat ≤ 57 := fun b hb => by
  by_cases h : N = 0
  · subst h
    have : b ∈ [(48 : UInt8)] := hb
    rw [List.mem_singleton.1 this]
    decide
  · rw [dec_list h] at hb
    obtain ⟨d, hd, rfl⟩ := List.mem_map.1 hb
    have h1 := digs_lt two_le_10 N d (List.mem_reverse.1 hd)
    rw [byte_nat h1]
    omega
theorem dec_digs (N : Nat) : Digs (dec N) (dec N).size := fun i hi _ => dec_bytes N _ (List.mem_of_getElem? (get_list (dec N) hi))
theorem dg_dec {N i : Nat} (hN : N ≠ 0) (h : i < (digs 10 N).reverse.length) : dg (dec N) i = (digs 10 N).reverse[i] := by
  have hl := dec_list hN
  have hs : i < (dec N).size := by rw [← size_list, hl, List.length_map]; exact h
  have h1 := get_list (dec N) hs
  rw [hl, List.getElem?_map, List.getElem?_eq_getElem h] at h1
  injection h1 with h1
  unfold dg
  rw [dif_pos hs, ← h1, byte_nat (digs_lt two_le_10 N _ (List.mem_reverse.1 (List.getElem_mem h)))]
  omega
theorem dec_sz {N : Nat} (hN : N ≠ 0) : (dec N).size = (digs 10 N).reverse.length := by rw [← size_list, dec_list hN, List.length_map]
theorem digs_ne {N : Nat} (hN : N ≠ 0) : 0 < (digs 10 N).reverse.length := by
  rw [List.length_reverse, digs_pos two_le_10 hN]
  simp
theorem dg_first {N : Nat} (hN : N ≠ 0) : dg (dec N) 0 ≠ 0 := by
  rw [dg_dec hN (digs_ne hN)]
  refine digs_last two_le_10 N _ ?_
  rw [← List.head?_reverse, List.head?_eq_getElem?, List.getElem?_eq_getElem (digs_ne hN)]
theorem rv_dec (N : Nat) : rv (dec N) (dec N).size = N := by
  by_cases hN : N = 0
  · subst hN; rfl
  · obtain ⟨k, hk⟩ : ∃ k, (dec N).size = k + 1 := ⟨(dec N).size - 1, by have := dec_sz hN; have := digs_ne hN; omega⟩
    obtain ⟨h1, _⟩ := digs_rv (dec_digs N) (dg_first hN) k
    have h2 : (List.range (k + 1)).map (dg (dec N)) = (digs 10 N).reverse := by
      apply List.ext_getElem
      · rw [List.length_map, List.length_range, ← hk, dec_sz hN]
      · intro i h3 h4
        rw [List.getElem_map, List.getElem_range, dg_dec hN h4]
    rw [h2, List.reverse_reverse] at h1
    rw [hk, ← val_digs two_le_10 (rv (dec N) (k + 1)), h1, val_digs two_le_10]
theorem L_of_p10 {N j : Nat} (h : N < p10 j) : L 10 N ≤ j := L_le_of_lt two_le_10 j N h
theorem dec_read {N : Nat} (h : L 10 N ≤ 4000) : readOK (dec N) := by
  by_cases hN : N = 0
  · subst hN
    exact read1_48
  · have hd := dec_sz hN
    have hp := digs_ne hN
    refine ⟨dec_digs N, by omega, fun ⟨⟨h0, h1⟩, _⟩ => ?_, ?_⟩
    · have h2 := dg_first hN
      rw [dg, dif_pos h0] at h2
      omega
    · rw [hd, List.length_reverse]; exact h
where
  read1_48 : readOK (dec 0) := by
    refine ⟨dec_digs 0, (show (1 : Nat) ≠ 0 by decide), fun h => absurd h.2 (show ¬ (1 : Nat) < 1 by decide), (show (1 : Nat) ≤ 4000 by decide)⟩

/-- The parts of a text that is put together. -/
theorem split_text (m st : Bool) (D E s : ByteArray) (hD : ∀ b ∈ D.data.toList, b ≠ 45 ∧ b ≠ 47) (h0 : 0 < D.size) (hs : s.data.toList = (if m then [45] else []) ++ (D.data.toList ++ (if st then 47 :: E.data.toList else []))) :
    minus s = m ∧ bare s = D ∧ stroke s = st ∧ (st = true → under s = E) := by
  have hl := size_list D
  obtain ⟨d, ds, hds⟩ : ∃ d ds, D.data.toList = d :: ds := by
    cases h : D.data.toList with
    | nil => rw [h] at hl; simp at hl; omega
    | cons d ds => exact ⟨d, ds, rfl⟩
  have hm : mns s = m := by
    unfold mns
    rw [hs]
    cases m
    · rw [hds]
      have := (hD d (by rw [hds]; exact List.mem_cons_self ..)).1
      simp [this]
    · simp
  have ht : (tail s).data.toList = D.data.toList ++ (if st then 47 :: E.data.toList else []) := by
    unfold tail
    rw [hm]
    cases m
    · rw [if_neg (by decide), hs]; rfl
    · rw [if_pos rfl, sub_list, hs]; rfl
  have hts : (tail s).size = D.size + (if st then 47 :: E.data.toList else []).length := by rw [← size_list, ht, List.length_append, hl]
  have hfs : IsFs (tail s) 0 D.size := by
    refine ⟨Nat.zero_le _, by omega, fun k _ hk h => ?_, fun hlt => ?_⟩
    · rw [ht, List.getElem?_append_left (by omega)] at h
      exact (hD 47 (List.mem_of_getElem? h)).2 rfl
    · rw [ht, List.getElem?_append_right (by omega), hl, Nat.sub_self]
      cases st
      · simp at hts; omega
      · rfl
  obtain ⟨q1, q2, q3, q4⟩ := parts hfs
  refine ⟨by rw [q1, hm], ?_, ?_, fun h => ?_⟩
  · rw [q2]
    apply ba_ext
    rw [ext_list, ht, List.drop_zero, List.take_append_of_le_length (by omega), List.take_of_length_le (by omega)]
  · rw [q3, hts]
    cases st
    · simp
    · simp
  · subst h
    have hlt : D.size < (tail s).size := by rw [hts]; simp
    rw [q4 hlt]
    apply ba_ext
    rw [ext_list, List.take_of_length_le (by rw [size_list]; exact Nat.le_refl _), ht]
    have e : D.data.toList ++ (if true = true then 47 :: E.data.toList else []) = (D.data.toList ++ [47]) ++ E.data.toList := by simp
    rw [e, List.drop_left' (by simp)]

theorem digit_sep {b : UInt8} (h : 48 ≤ b.toNat ∧ b.toNat ≤ 57) : b ≠ 45 ∧ b ≠ 47 := by
  constructor
  · rintro rfl; exact absurd h.1 (by decide)
  · rintro rfl; exact absurd h.1 (by decide)
theorem nt_list (q : Rat) : (nt q).data.toList = (if ng (rn q) then [45] else []) ++ ((sdec (rn q)).data.toList ++ (if !isInt q then 47 :: (sdec (rd q)).data.toList else [])) := by
  unfold nt
  cases isInt q <;> cases ng (rn q) <;> simp
theorem dec_pos (N : Nat) : 0 < (dec N).size := by
  rw [dec_size]
  by_cases h : N = 0
  · rw [if_pos h]; omega
  · rw [if_neg h]
    have := digs_ne h
    rw [List.length_reverse] at this
    exact this
/-- The text of a number is a valid text, and its number is that number. -/
theorem parse_nt {q : Rat} (h : Short4 q) : parseOK (nt q) ∧ parseQ (nt q) = q := by
  obtain ⟨h1, h2, h3, h4⟩ := split_text (ng (rn q)) (!isInt q) (sdec (rn q)) (sdec (rd q)) (nt q) (fun b hb => digit_sep (dec_bytes _ b hb)) (dec_pos _) (nt_list q)
  have r1 : readOK (sdec (rn q)) := dec_read (L_of_p10 h.1)
  have r2 : readOK (sdec (rd q)) := dec_read (L_of_p10 h.2)
  have e1 : pn (nt q) = (rn q).natAbs := by unfold pn; rw [h2]; exact rv_dec _
  have hrd := rd_pos q
  have e2 : stroke (nt q) = true → pd (nt q) = q.den := fun hs => by
    unfold pd
    rw [h4 (by rw [← h3]; exact hs)]
    have := rv_dec (rd q).natAbs
    unfold sdec
    rw [this]
    unfold rd
    exact Int.natAbs_natCast _
  have hi : stroke (nt q) = true → 1 < q.den := fun hs => by
    rw [h3] at hs
    have h5 : isInt q = false := by simpa using hs
    unfold isInt at h5
    have h6 := of_decide_eq_false h5
    unfold rd at h6
    have := q.den_pos
    omega
  refine ⟨⟨by rw [h2]; exact r1, fun hs => ⟨by rw [h4 (by rw [← h3]; exact hs)]; exact r2, by rw [e2 hs]; exact hi hs, ?_⟩, fun hm => ?_⟩, ?_⟩
  · rw [e1, e2 hs]
    exact q.reduced
  · rw [h1, e1] at hm
    have h5 := of_decide_eq_true hm.1
    have h6 := hm.2
    omega
  · have e3 : pz (nt q) = rn q := by
      unfold pz
      rw [h1, e1]
      exact sgn_ng _
    have e4 : pden (nt q) = rd q := by
      unfold pden
      by_cases hs : stroke (nt q) = true
      · rw [if_pos hs, e2 hs]; rfl
      · rw [if_neg hs]
        have hs2 : stroke (nt q) = false := by simpa using hs
        rw [h3] at hs2
        have h5 : isInt q = true := by simpa using hs2
        unfold isInt at h5
        exact (of_decide_eq_true h5).symm
    unfold parseQ
    rw [e3, e4]
    exact rat_eq q

end Go.Proofs.Ytcaeonpjokkjnaa

/- Walks: Make, and the laws' own helper made. -/
namespace Go.Proofs.Ytcaeonpjokkjnaa
open Go Go.RowKit Go.Proofs

theorem LZ_nat {n : Nat} (h : n < 10000 ^ 16) : LZ ((n : Nat) : Int) ≤ 16 := by
  unfold LZ
  rw [Int.natAbs_natCast]
  exact L_le_of_lt two_le_B4 16 n h

set_option maxRecDepth 100000 in
set_option maxHeartbeats 1600000 in
theorem make_any (n d : Nat) (hd : 0 < d) (hn : n ≤ 1000000) (hd2 : d ≤ 1000000) (w : World) :
    Calls Try.prog 17 #[.int .i64 n, .int .i64 d] w (RetQ w (rn (Rat.divInt n d)) (rd (Rat.divInt n d))) := by
  obtain ⟨W, hW⟩ : ∃ W, W = w.alloc (Obj.cells #[.bool false, .slice none 0 0, .bool false, .slice none 0 0] 37) := ⟨_, rfl⟩
  have HR : Hid (Rg w.heap.size 4 W W) := by rw [hW]; exact Rg.new4 _ _ _ rfl
  have hbW' : Below w.heap.size w W := by rw [hW]; go_grown
  have hbW := Lib.hid hbW'
  have hWH := Lib.hid hW
  have B1 := Lib.hid (show LZ ((n : Nat) : Int) ≤ 1000000 by have := LZ_nat (n := n) (by omega); omega)
  have B2 := Lib.hid (show LZ ((d : Nat) : Int) ≤ 1000000 by have := LZ_nat (n := d) (by omega); omega)
  have hdd : 0 < ((d : Nat) : Int) := by omega
  have hddH := Lib.hid hdd
  clear hW hbW' hd hdd
  go_enter Try.func17, Try.ntmps17
  go_wp2_with (first
    | (go_at_call 39; rw [← hWH.out]; (with_reducible refine (zint_any n _ (by omega)).mono ?_); rintro e w1 ⟨a1, c1, rfl, hm1, hb1⟩; have r1 := Lib.hid (Rg.slf (Rg.step HR.out (by omega) hb1)); have q1 := Lib.hid (bseqZ hbW.out hb1); have hm1H := Lib.hid hm1; clear hm1 hb1)
    | (go_at_call 39; go_loud (with_reducible refine (zint_any d _ (by omega)).mono ?_); rintro e w2 ⟨a2, c2, rfl, hm2, hb2⟩; have r2 := Lib.hid (Rg.slf (Rg.step r1.out (by omega) hb2)); have q2 := Lib.hid (bseqZ q1.out hb2); have hm12H := Lib.hid (hm1H.out.up hb2); have hm2H := Lib.hid hm2; clear hm2 hb2)
    | (go_at_call 41; go_loud (with_reducible refine (over_any a1 c1 a2 c2 ((n : Nat) : Int) ((d : Nat) : Int) _ hm12H.out hm2H.out hddH.out).mono ?_); rintro e w3 ⟨a3, c3, a3', c3', rfl, hm3, hb3⟩; have r3 := Lib.hid (Rg.slf (Rg.step r2.out (by omega) hb3)); have q3 := Lib.hid (bseqZ q2.out hb3); have hm3H := Lib.hid hm3; clear hm3 hb3)
    | (go_at_call 19; go_loud (with_reducible refine (lowest_q a3 c3 a3' c3' ((n : Nat) : Int) ((d : Nat) : Int) (Rat.divInt n d) _ hm3H.out B1.out B2.out hddH.out rfl).mono ?_); rintro e w4 ⟨a4, c4, a4', c4', rfl, hm4, hb4⟩; have r4 := Lib.hid (Rg.slf (Rg.step r3.out (by omega) hb4)); have q4 := Lib.hid (bseqZ q3.out hb4); obtain ⟨_, t2, t3, t5, _⟩ := r4.out))
  refine bodyPost_ret (v := .agg #[.bool (ng (rn (Rat.divInt n d))), .slice a4 (LZ (rn (Rat.divInt n d))) c4, .bool (ng (rd (Rat.divInt n d))), .slice a4' (LZ (rd (Rat.divInt n d))) c4']) (by simp [results, Try.results17, go_sem, t2]) rfl ?_
  exact ⟨a4, c4, a4', c4', rfl, ⟨hm4.1.set4 t5 _ _ _ _ _ _ _ _, hm4.2.set4 t5 _ _ _ _ _ _ _ _⟩, below_set4 q4.out (Nat.le_refl _) _ _ _ _⟩

/-- The weights; without the zeros at their end. -/
def wts (xs : List Nat) : List Nat := (xs.take 12).map (· % 10)
def trimZ (l : List Nat) : List Nat := (l.reverse.dropWhile (· == 0)).reverse
def madeL (xs : List Nat) : List Rat := if (wts xs).sum = 0 then [1] else (trimZ (wts xs)).map fun a => Rat.divInt ((a : Nat) : Int) (((wts xs).sum : Nat) : Int)
theorem wts_len (xs : List Nat) : (wts xs).length = min 12 xs.length := by unfold wts; rw [List.length_map, List.length_take]
theorem wts_at {xs : List Nat} {k x : Nat} (h : xs[k]? = some x) (hk : k < 12) : (wts xs)[k]? = some (x % 10) := by
  unfold wts; rw [List.getElem?_map, List.getElem?_take_of_lt hk, h]; rfl
theorem wts_lt (xs : List Nat) : ∀ a ∈ wts xs, a ≤ 9 := fun a ha => by
  unfold wts at ha
  obtain ⟨x, _, rfl⟩ := List.mem_map.1 ha
  omega
theorem take_sum {l : List Nat} {k x : Nat} (h : l[k]? = some x) : (l.take k).sum + x = (l.take (k + 1)).sum := by
  rw [List.take_add_one, h, List.sum_append]; simp
theorem take_nx2 {l : List Nat} {k x : Nat} (h : l[k]? = some x) : l.take k ++ [x] = l.take (k + 1) := by
  rw [List.take_add_one, h]; rfl
theorem sum_9 : ∀ l : List Nat, (∀ a ∈ l, a ≤ 9) → l.sum ≤ 9 * l.length
  | [], _ => by simp
  | a :: l, h => by
    have := sum_9 l fun x hx => h x (List.mem_cons_of_mem _ hx)
    have := h a (List.mem_cons_self ..)
    rw [List.sum_cons, List.length_cons]; omega
theorem wts_sum (xs : List Nat) : (wts xs).sum ≤ 108 := by
  have h1 := sum_9 (wts xs) (wts_lt xs)
  have h2 := wts_len xs
  omega
theorem trim_next {l : List Nat} {k : Nat} (h : l[k]? = some 0) : trimZ (l.take (k + 1)) = trimZ (l.take k) := by
  rw [← take_nx2 h]
  unfold trimZ
  rw [List.reverse_append]
  simp
theorem trim_stop {l : List Nat} {k x : Nat} (h : l[k]? = some x) (hx : x ≠ 0) : trimZ (l.take (k + 1)) = l.take (k + 1) := by
  rw [← take_nx2 h]
  unfold trimZ
  rw [List.reverse_append]
  simp [hx]
theorem trim_nil (l : List Nat) : trimZ (l.take 0) = l.take 0 := rfl
theorem drop_nil : ∀ l : List Nat, l.dropWhile (· == 0) = [] → ∀ a ∈ l, a = 0
  | [], _, a, ha => by simp at ha
  | b :: l, h, a, ha => by
    rw [List.dropWhile_cons] at h
    by_cases hb : b = 0
    · rw [if_pos (by simpa using hb)] at h
      rcases List.mem_cons.1 ha with rfl | ha
      · exact hb
      · exact drop_nil l h a ha
    · rw [if_neg (by simpa using hb)] at h
      cases h
theorem trim_zero {l : List Nat} (h : trimZ l = trimZ (l.take 0)) : l.sum = 0 := by
  have h1 : l.reverse.dropWhile (· == 0) = [] := by
    have h2 : (l.reverse.dropWhile (· == 0)).reverse = [] := h
    simpa using h2
  have h3 : ∀ a ∈ l, a = 0 := fun a ha => by
    exact drop_nil _ h1 a (List.mem_reverse.2 ha)
  clear h h1
  induction l with
  | nil => rfl
  | cons a l ih =>
    rw [List.sum_cons, h3 a (List.mem_cons_self ..), ih fun x hx => h3 x (List.mem_cons_of_mem _ hx)]
theorem take_le_sum (l : List Nat) (k : Nat) : (l.take k).sum ≤ l.sum := by
  have : l.sum = (l.take k).sum + (l.drop k).sum := by rw [← List.sum_append, List.take_append_drop]
  omega
theorem SV.one (w : World) (base : Nat) (s : ByteArray) (hb : base ≤ w.heap.size) : SV (w.alloc (.cells #[.string s] 25)) base (.slice (some ⟨w.heap.size, 0, none⟩) 1 1) [s] := by
  refine ⟨World.ownsRow_lit (base := base) (size := 1) (e := 25) w #[.string s] 1 hb (by unfold maxLen; omega) rfl, fun g hg => ?_⟩
  simp [Value.ownBlock] at hg
  subst hg
  exact noInt_cells (heap_alloc_new w _) fun u hu k z => by
    have : u ∈ [Value.string s] := hu
    rw [List.mem_singleton.1 this]
    simp

set_option maxRecDepth 100000 in
set_option maxHeartbeats 3200000 in
theorem madeW_any (ao : Option Addr) (c l : Nat) (xs : List Nat) (w : World) (hl : xs.length = l) (h : Dg .u8 w ao xs) (hl1 : l ≤ 9223372036854775807) (hx : ∀ x ∈ xs, x < 256) (h4 : ∀ q ∈ madeL xs, Short4 q) :
    Calls Try.prog 8 #[.slice ao l c] w (RetTxts w ((madeL xs).map nt)) := by
  have hH := Lib.hid h
  have hlH := Lib.hid hl
  have hxH := Lib.hid hx
  have h4H := Lib.hid h4
  have hws := Lib.hid (wts_sum xs)
  have hwl : Hid ((wts xs).length = min 12 l) := by show _ = _; rw [wts_len, hl]
  clear h hl hx h4
  go_enter Try.func8, Try.ntmps8
  go_wp2_with (fail)
  go_loopw [3, 4, 5] (fun sm b i wr => ∃ k, i = .int .i64 (k : Nat) ∧ k ≤ min 12 l ∧ sm = .int .i64 (((wts xs).take k).sum : Nat) ∧ IV wr w.heap.size b ((wts xs).take k) ∧ Below w.heap.size w wr) (fun _ _ i _ => 12 - (intOf i).toNat)
  case atStart => exact ⟨0, rfl, by omega, rfl, IV.lit0 _ _ (Nat.le_refl _), (Below.refl _ _).alloc (Nat.le_refl _) _⟩
  case round =>
    obtain ⟨k, rfl, hk, rfl, hV, hbl⟩ := hrel
    obtain ⟨ab, cb, hbv⟩ := hV.shape
    subst hbv
    have htl : ((wts xs).take k).length = k := by rw [List.length_take, hwl.out]; omega
    have htlH := Lib.hid htl
    rw [htl] at hV ⊢
    have hVH := Lib.hid hV
    have hblH := Lib.hid hbl
    have hbs := hbl.size
    clear hV htl
    by_cases hkn : k < min 12 l
    · obtain ⟨x, hx⟩ : ∃ x, xs[k]? = some x := ⟨_, List.getElem?_eq_getElem (by rw [hlH.out]; omega)⟩
      obtain ⟨b, o, rfl, e0⟩ := (hH.out.below hbl) k x hx
      have hx8 := Lib.hid (hxH.out x (List.mem_of_getElem? hx))
      have hx7 : x < 256 := hx8.out
      have hwk := Lib.hid (wts_at hx (by omega))
      have hnx := Lib.hid (take_nx2 hwk.out)
      have hsm := Lib.hid (take_sum hwk.out)
      have hsl : Hid (((wts xs).take k).sum ≤ 108) := by
        have h1 := sum_9 ((wts xs).take k) (fun a ha => wts_lt xs a (List.mem_of_mem_take ha))
        have h2 := htlH.out
        show _ ≤ _
        omega
      have hs8 := hsl.out
      have htl2 : Hid (((wts xs).take (k + 1)).length = k + 1) := by show _ = _; rw [List.length_take, hwl.out]; omega
      have hk1 : (k : Int) < l := by omega
      have hk2 : (k : Int) < 12 := by omega
      have hat : Hid (((wts xs).take (k + 1))[k]? = some (x % 10)) := by show _ = _; rw [List.getElem?_take_of_lt (by omega)]; exact hwk.out
      clear hx hbl
      go_wp2_with (first
        | (at_builtin; go_loud (refine wpList_append_int _ rfl (.tmp 21) (.tmp 28) _ rfl Try.underlying33 w.heap.size k (.slice ab k cb) ((wts xs).take k) (x % 10) ((x : Int) % 10) rfl (hVH.out.below ((Below.refl _ _).alloc (Nat.le_refl _) _)) htlH.out wr.heap.size rfl (by omega) (by simp; omega) (by simp [go_sem]) (by omega) ?_); intro v' w2 hv2 hg2; rw [hnx.out] at hv2; have hb2 := Lib.hid ((hblH.out.alloc hbs _).grown hg2 (by simp; omega) (fun g hg => (hVH.out.lt g hg).1)); obtain ⟨ab2, cb2, hvv⟩ := hv2.shape; rw [htl2.out] at hvv; subst hvv; obtain ⟨b3, o3, rfl, f0⟩ := (hv2.dg htl2.out).1 k (x % 10) hat.out; have hv2H := Lib.hid hv2; clear hv2 hg2))
      go_roundw
      case rel => exact ⟨k + 1, by go_num, by omega, by rw [← hsm.out]; simp, hv2H.out, hb2.out⟩
      case measure => simp [intOf]; omega
    · have hke : k = min 12 l := by omega
      have hall : Hid ((wts xs).take k = wts xs) := by show _ = _; rw [List.take_of_length_le (by rw [hwl.out]; omega)]
      have hDg : Hid (Dg .i64 wr ab (wts xs)) := by
        have h9 := (hVH.out.dg htlH.out).1
        rw [hall.out] at h9
        exact h9
      have hcap := (hVH.out.dg htlH.out).2
      have hkl : Hid ((wts xs).length = k) := by show _ = _; rw [hwl.out]; exact hke.symm
      have hk12 : k ≤ 12 := by omega
      have hcs : (¬ (k : Int) < l) ∨ ((k : Int) < l ∧ ¬ (k : Int) < 12) := by omega
      rw [hall.out]
      clear hbl hkn hke hk hVH
      rcases hcs with h1 | ⟨h1, h2⟩
      all_goals (
        go_wp2_with (fail)
        go_loopw [4] (fun b wi => ∃ m, b = .slice ab m cb ∧ m ≤ k ∧ trimZ ((wts xs).take m) = trimZ (wts xs) ∧ Below w.heap.size w wi ∧ Below wr.heap.size wr wi) (fun b _ => lenOf b)
        case atStart => exact ⟨k, rfl, Nat.le_refl _, by rw [hall.out], hblH.out, Below.refl _ _⟩
        case round =>
          obtain ⟨m, rfl, hm, htr, hbi, hbi2⟩ := hrel
          have htrH := Lib.hid htr
          have hbiH := Lib.hid hbi
          have hbi2H := Lib.hid hbi2
          clear htr hbi hbi2
          generalize wr = wz at *
          by_cases hm0 : m = 0
          · have hsum : (((wts xs).sum : Nat) : Int) = 0 := by
              rw [hm0] at htrH
              have := trim_zero htrH.out.symm
              omega
            have hmm : ¬ 0 < (m : Int) := by omega
            have hmd : Hid ((madeL xs).map nt = [⟨#[49]⟩]) := by
              show _ = _
              unfold madeL
              rw [if_pos (by omega)]
              show [nt 1] = _
              rw [← t1_q, nt_parse t1_ok]
            clear hm0
            go_wp2_with (fail)
            go_ret
            rw [hmd.out]
            exact ⟨_, 1, rfl, SV.one _ _ _ hbiH.out.size, hbiH.out.alloc hbiH.out.size _⟩
          · obtain ⟨u, rfl⟩ : ∃ u, m = u + 1 := ⟨m - 1, by omega⟩
            obtain ⟨y, hy⟩ : ∃ y, (wts xs)[u]? = some y := ⟨_, List.getElem?_eq_getElem (by rw [hkl.out]; omega)⟩
            obtain ⟨b2, o2, rfl, f0⟩ := (hDg.out.below hbi2H.out) u y hy
            have hyH := Lib.hid hy
            have hmm : 0 < (u : Int) + 1 := by omega
            have hm1 : (u : Int) + 1 - 1 = (u : Int) := by omega
            have hm2 : (u : Int) ≤ (cb : Int) := by omega
            have hm3 : (u : Int) < (u : Int) + 1 := by omega
            have hw1 : IntKind.i64.wrap (u : Int) = (u : Int) := by rw [IntKind.wrap_i64]; omega
            clear hm0 hy
            by_cases hy0 : y = 0
            · have hyz : ((y : Int) == 0) = true := by simp; exact hy0
              have hyk : Hid ((wts xs)[u]? = some 0) := by show _ = _; rw [hyH.out, hy0]
              clear hy0
              go_wp2_with (fail)
              go_roundw
              case rel => exact ⟨u, rfl, by omega, by rw [← trim_next hyk.out]; exact htrH.out, hbiH.out, hbi2H.out⟩
              case measure => simp [lenOf]
            · have hyz : ((y : Int) == 0) = false := by simp; exact hy0
              have hst := trim_stop hyH.out hy0
              have hpos : 0 < (wts xs).sum := by
                have h5 := take_sum hyH.out
                have h6 := take_le_sum (wts xs) (u + 1)
                omega
              have hsz : ((((wts xs).sum : Nat) : Int) == 0) = false := by simp; omega
              have hmd : Hid (madeL xs = ((wts xs).take (u + 1)).map fun a => Rat.divInt ((a : Nat) : Int) (((wts xs).sum : Nat) : Int)) := by
                show _ = _
                unfold madeL
                rw [if_neg (by omega), ← htrH.out, hst]
              have hml : Hid (((madeL xs).map nt).length = u + 1) := by
                show _ = _
                rw [List.length_map, hmd.out, List.length_map, List.length_take, hkl.out]; omega
              have hposH := Lib.hid hpos
              clear hst hy0
              go_wp2_with (fail)
              obtain ⟨V2, hV2e⟩ : ∃ V2, V2 = wz.alloc (Obj.cells #[] 25) := ⟨_, rfl⟩
              have hO0 : Hid (SV V2 wz.heap.size (.slice (some ⟨wz.heap.size, 0, none⟩) 0 0) []) := by rw [hV2e]; exact SV.lit0 _ _ (Nat.le_refl _)
              have hbO' : Below wz.heap.size wz V2 := by rw [hV2e]; go_grown
              have hbO := Lib.hid hbO'
              rw [← hV2e]
              clear hV2e hbO' f0
              go_loopw [6, 7] (fun b i wi => ∃ j : Nat, i = .int .i64 (j : Nat) ∧ j ≤ u + 1 ∧ SV wi wz.heap.size b (((madeL xs).map nt).take j) ∧ Below wz.heap.size wz wi) (fun _ i _ => u + 1 - (intOf i).toNat)
              case atStart => exact ⟨0, rfl, by omega, hO0.out, hbO.out⟩
              case round =>
                clear hO0 hbO
                obtain ⟨j, rfl, hj, hO, hbl⟩ := hrel
                obtain ⟨ao2, co2, hbv⟩ := hO.shape
                subst hbv
                have htl : (((madeL xs).map nt).take j).length = j := by rw [List.length_take, hml.out]; omega
                have htlj := Lib.hid htl
                rw [htl] at hO ⊢
                have hOH := Lib.hid hO
                have hblj := Lib.hid hbl
                have hbs := hbl.size
                clear hO htl
                by_cases hju : j < u + 1
                · obtain ⟨a, ha⟩ : ∃ a, (wts xs)[j]? = some a := ⟨_, List.getElem?_eq_getElem (by rw [hkl.out]; omega)⟩
                  obtain ⟨b3, o3, hq3, e0⟩ := ((hDg.out.below hbi2H.out).below hbl) j a ha
                  cases hq3
                  have ha9 := wts_lt xs a (List.mem_of_getElem? ha)
                  have hmq : (madeL xs)[j]? = some (Rat.divInt ((a : Nat) : Int) (((wts xs).sum : Nat) : Int)) := by
                    rw [hmd.out, List.getElem?_map, List.getElem?_take_of_lt hju, ha]; rfl
                  have hq4 := Lib.hid (h4H.out _ (List.mem_of_getElem? hmq))
                  have hnx : Hid (((madeL xs).map nt).take j ++ [nt (Rat.divInt ((a : Nat) : Int) (((wts xs).sum : Nat) : Int))] = ((madeL xs).map nt).take (j + 1)) := by
                    show _ = _
                    rw [List.take_add_one, List.getElem?_map, hmq]; rfl
                  have hkk : (j : Int) < (u : Int) + 1 := by omega
                  have hs108 := hws.out
                  clear ha hmq hbl
                  generalize (wts xs).sum = sm at *
                  generalize hqe : Rat.divInt ((a : Nat) : Int) ((sm : Nat) : Int) = q at *
                  have hqeH := Lib.hid hqe
                  have B1 := Lib.hid (show LZ (rn q) ≤ 1000000 by have := LZ_small hq4.out.1; omega)
                  have B2 := Lib.hid (show LZ (rd q) ≤ 1000000 by have := LZ_small hq4.out.2; omega)
                  clear hqe
                  go_wp2_with (first
                    | (go_at_call 17; go_loud (with_reducible refine (make_any a sm hposH.out (by omega) (by omega) _).mono ?_); rintro e w5 ⟨a5, c5, a5', c5', rfl, hm5, hb5⟩; rw [hqeH.out] at hm5; rw [hqeH.out]; have hm5H := Lib.hid hm5; have q5 := Lib.hid (bseq hblj.out hb5); have hO5 := Lib.hid (hOH.out.below hb5); clear hm5 hb5)
                    | (go_at_call 18; go_loud (with_reducible refine (num_s a5 c5 a5' c5' (rn q) (rd q) q _ hm5H.out B1.out B2.out (rd_pos q) (rat_eq q) hq4.out).mono ?_); rintro e w6 ⟨rfl, hb6⟩; have q6 := Lib.hid (bseq q5.out hb6); have hO6 := Lib.hid (hO5.out.below hb6); have hs6 := q6.out.size; clear hb6)
                    | (at_builtin; go_loud (refine wpList_append_num _ rfl (.tmp 73) (.tmp 75) _ rfl Try.underlying23 wz.heap.size j (.slice ao2 j co2) (((madeL xs).map nt).take j) (nt q) rfl (hO6.out.below ((Below.refl _ _).alloc (Nat.le_refl _) _)) htlj.out _ rfl (by omega) (by simp; omega) (by simp [go_sem]) ?_); intro v' w7 hv7 hg7; rw [hnx.out] at hv7; have hb7 := Lib.hid ((q6.out.alloc hs6 _).grown hg7 (by simp; omega) (fun g hg => (hOH.out.lt g hg).1)); clear hg7))
                  go_roundw
                  case rel => exact ⟨j + 1, by go_num, by omega, hv7, hb7.out⟩
                  case measure => simp [intOf]; omega
                · have hkk : ¬ (j : Int) < (u : Int) + 1 := by omega
                  have hje : j = u + 1 := by omega
                  subst hje
                  have hfull : Hid (((madeL xs).map nt).take (u + 1) = (madeL xs).map nt) := by show _ = _; rw [List.take_of_length_le (by rw [hml.out]; exact Nat.le_refl _)]
                  have h9 := hOH.out
                  rw [hfull.out] at h9
                  have h9H := Lib.hid (h9.base hbiH.out.size)
                  clear h9 hbl
                  go_wp2_with (fail)
                  go_ret
                  exact ⟨ao2, co2, by rw [hml.out]; rfl, by rw [hml.out]; exact h9H.out, bseq hbiH.out hblj.out⟩)

end Go.Proofs.Ytcaeonpjokkjnaa
