/- Gs Gt -/
import Derived.Test.YteiipfajoikfpaaQGr
import Derived.Test.YteiipfajoikfpaaQPe
set_option linter.unusedVariables false
/- Walk of pairing. -/
namespace Go.Proofs.Yteiipfajoikfpaa
open Go Go.RowKit Go.Proofs

/-- The columns that were seen. -/
def seenL (n : Nat) (xs : List Int) : List Bool := (List.range n).map fun j : Nat => decide ((j : Int) ∈ xs)
theorem seen_len (n : Nat) (xs : List Int) : (seenL n xs).length = n := by simp [seenL]
theorem seen_nil (n : Nat) : seenL n [] = List.replicate n false := by
  unfold seenL
  refine List.ext_getElem? fun j => ?_
  rw [List.getElem?_map, List.getElem?_replicate]
  by_cases h : j < n
  · rw [List.getElem?_range h, if_pos h]; simp
  · rw [List.getElem?_eq_none (by simp; omega), if_neg h]; rfl
theorem seen_get {n j : Nat} {xs : List Int} (h : j < n) : (seenL n xs)[j]? = some (decide ((j : Int) ∈ xs)) := by
  unfold seenL
  rw [List.getElem?_map, List.getElem?_range h]; rfl
theorem seen_set {n j : Nat} {xs : List Int} (h : j < n) : (seenL n xs).set j true = seenL n (xs ++ [(j : Int)]) := by
  refine List.ext_getElem? fun i => ?_
  rw [List.getElem?_set, seen_len]
  by_cases hi : i < n
  · rw [seen_get hi, seen_get hi]
    by_cases hij : j = i
    · subst hij; simp [hi]
    · rw [if_neg hij]
      have : ¬ (i : Int) = (j : Int) := by omega
      simp [this]
  · rw [if_neg (show ¬ j = i by omega), List.getElem?_eq_none (by rw [seen_len]; omega), List.getElem?_eq_none (by rw [seen_len]; omega)]
/-- Is it a pairing? -/
def pairB (n : Nat) (xs : List Int) : Bool := decide (xs.length = n ∧ (∀ x ∈ xs, 0 ≤ x ∧ x < (n : Int)) ∧ xs.Nodup)
theorem pairB_pr {n : Nat} {xs : List Int} (h : pairB n xs = true) : ∃ p, xs = nz p ∧ Pr n p := by
  obtain ⟨h1, h2, h3⟩ := of_decide_eq_true h
  have e : xs = nz (xs.map Int.toNat) := by
    unfold nz
    rw [List.map_map]
    refine (List.map_id xs).symm.trans (List.map_congr_left fun x hx => ?_)
    have := h2 x hx
    simp; omega
  refine ⟨xs.map Int.toNat, e, by simp [h1], ?_, fun x hx => ?_⟩
  · rw [e] at h3
    unfold nz at h3
    exact (List.Pairwise.of_map _ (fun a b hab he => hab (by rw [he])) h3)
  · obtain ⟨y, hy, rfl⟩ := List.mem_map.1 hx
    have := h2 y hy
    omega
theorem pr_pairB {n : Nat} {p : List Nat} (h : Pr n p) : pairB n (nz p) = true := by
  refine decide_eq_true ⟨by rw [nz_length]; exact h.len, fun x hx => ?_, ?_⟩
  · unfold nz at hx
    obtain ⟨y, hy, rfl⟩ := List.mem_map.1 hx
    have := h.lt y hy
    omega
  · unfold nz
    exact h.nodup.map _ (fun a b hab he => hab (by omega))
theorem pairB_bad {n k : Nat} {xs : List Int} (hk : k < xs.length) (h : at0 xs k < 0 ∨ (n : Int) ≤ at0 xs k ∨ at0 xs k ∈ xs.take k) : pairB n xs = false := by
  refine decide_eq_false fun ⟨_, h2, h3⟩ => ?_
  have hm := List.mem_of_getElem? (at0_get hk)
  have h4 := h2 _ hm
  rcases h with h | h | h
  · omega
  · omega
  · obtain ⟨i, hi⟩ := List.mem_iff_getElem?.1 h
    rw [List.getElem?_take] at hi
    split at hi
    · rename_i hik
      have h5 := List.pairwise_iff_getElem.1 h3 i k (by omega) hk hik
      refine h5 ?_
      have e1 := at0_get hk
      rw [List.getElem?_eq_getElem hk] at e1
      rw [List.getElem?_eq_getElem (by omega : i < xs.length)] at hi
      injection e1 with e1
      injection hi with hi
      rw [e1, hi]
    · cases hi
set_option maxRecDepth 100000 in
set_option maxHeartbeats 6400000 in
theorem pairing_any (ao : Option Addr) (c m n : Nat) (xs : List Int) (b : Bool) (w : World) (h : IZ w ao xs) (hm : xs.length = m) (hmb : m ≤ 9223372036854775807) (hn : n ≤ 1000) (hb : pairB n xs = b) :
    Calls Try.prog 68 #[.slice ao m c, .int .i64 (n : Nat)] w (RetB w b) := by
  have hH := Lib.hid h
  have hmH := Lib.hid hm
  have hbH := Lib.hid hb
  clear h hm hb
  go_enter Try.func68, Try.ntmps68
  go_wp2_with (first
    | (at_make; go_loud (refine wpList_make_bools _ rfl (.tmp 8) rfl n (by rfl) (by omega) ?_); intro w2 hS2 hb2; have hS2H := Lib.hid hS2; have hb2H := Lib.hid hb2; clear hS2 hb2))
  go_loopw [12] (fun iv wr => ∃ k : Nat, iv = .int .i64 (k : Nat) ∧ k ≤ m ∧ (∀ x ∈ xs.take k, 0 ≤ x ∧ x < (n : Int)) ∧ (xs.take k).Nodup ∧ BBlk wr w.heap.size (seenL n (xs.take k)) ∧ Below w.heap.size w wr) (fun iv _ => m - (intOf iv).toNat)
  case atStart => exact ⟨0, rfl, by omega, by simp, by simp, by rw [List.take_zero, seen_nil]; exact hS2H.out, hb2H.out⟩
  case round =>
    obtain ⟨k, rfl, hk, hlt, hnd, hS, hbl⟩ := hrel
    have hltH := Lib.hid hlt
    have hndH := Lib.hid hnd
    have hSH := Lib.hid hS
    have hblH := Lib.hid hbl
    by_cases hkm : k < m
    · obtain ⟨b1, o1, rfl, e1⟩ := (hH.out.below hbl).at (i := k) (by rw [hmH.out]; exact hkm)
      obtain ⟨x, hx⟩ : ∃ x, at0 xs k = x := ⟨_, rfl⟩
      rw [hx] at e1
      have hxH := Lib.hid hx
      have ht := Lib.hid (take_at0 xs (k := k) (by rw [hmH.out]; exact hkm))
      have hbad := Lib.hid (fun h => pairB_bad (n := n) (xs := xs) (k := k) (by rw [hmH.out]; exact hkm) h)
      have hkI : (k : Int) < (m : Int) := by omega
      have hk0 : (0 : Int) ≤ (k : Int) := by omega
      clear hx hlt hnd hS hbl
      by_cases h1 : x < 0
      · have d1 : decide (x < 0) = true := decide_eq_true h1
        go_wp2_with (fail)
        go_ret
        exact ⟨ret_boolJ (by rw [← hbH.out]; exact (hbad.out (.inl (by rw [hxH.out]; exact h1))).symm), hblH.out⟩
      · by_cases h2 : (n : Int) ≤ x
        · have d1 : decide (x < 0) = false := decide_eq_false h1
          have d2 : decide ((n : Int) ≤ x) = true := decide_eq_true h2
          go_wp2_with (fail)
          go_ret
          exact ⟨ret_boolJ (by rw [← hbH.out]; exact (hbad.out (.inr (.inl (by rw [hxH.out]; exact h2)))).symm), hblH.out⟩
        · have d1 : decide (x < 0) = false := decide_eq_false h1
          have d2 : decide ((n : Int) ≤ x) = false := decide_eq_false h2
          obtain ⟨j, rfl⟩ : ∃ j : Nat, x = (j : Int) := ⟨x.toNat, by omega⟩
          have hjn : j < n := by omega
          have hj0 : (0 : Int) ≤ (j : Int) := by omega
          have hjI : (j : Int) < (n : Int) := by omega
          have e2 := hSH.out.at (seen_get (xs := xs.take k) hjn)
          have e3 := Blk.frozen hSH.out j
          rcases hin : decide ((j : Int) ∈ xs.take k)
          · have hinH := Lib.hid hin
            rw [hin] at e2
            clear hin
            go_wp2_with (fail)
            go_roundw
            case rel => exact ⟨k + 1, by go_num, by omega, by rw [ht.out, hxH.out]; intro y hy; rcases List.mem_append.1 hy with h | h; exact hltH.out y h; rw [List.mem_singleton.1 h]; exact ⟨hj0, hjI⟩, by rw [ht.out, hxH.out]; exact List.nodup_append.2 ⟨hndH.out, by simp, fun a ha b hb => by rw [List.mem_singleton.1 hb]; intro e; subst e; have := hinH.out; simp at this; exact this ha⟩, by rw [ht.out, hxH.out, ← seen_set hjn]; exact hSH.out.set j true, hblH.out.setCell (Nat.le_refl _) _⟩
            case measure => simp [intOf]; omega
          · have hinH := Lib.hid hin
            rw [hin] at e2
            clear hin
            go_wp2_with (fail)
            go_ret
            exact ⟨ret_boolJ (by rw [← hbH.out]; exact (hbad.out (.inr (.inr (by rw [hxH.out]; exact of_decide_eq_true hinH.out)))).symm), hblH.out⟩
    · have hke : k = m := by omega
      subst hke
      have hfull : xs.take k = xs := List.take_of_length_le (by rw [hmH.out]; exact Nat.le_refl _)
      rw [hfull] at hlt hnd
      have hltH := Lib.hid hlt
      have hndH := Lib.hid hnd
      clear hlt hnd hS hbl hfull
      have hkI : ¬ (k : Int) < (k : Int) := by omega
      by_cases hkn : k = n
      · subst hkn
        go_wp2_with (fail)
        go_ret
        exact ⟨ret_boolJ (by rw [← hbH.out]; unfold pairB; rw [decide_eq_true ⟨hmH.out, hltH.out, hndH.out⟩]; try simp), hblH.out⟩
      · have hknI : ((k : Int) == (n : Int)) = false := by rw [beq_eq_false_iff_ne]; omega
        go_wp2_with (fail)
        go_ret
        exact ⟨ret_boolJ (by rw [← hbH.out]; unfold pairB; rw [decide_eq_false (fun h => hkn (by rw [← hmH.out]; exact h.1))]; try simp [hkn]), hblH.out⟩
end Go.Proofs.Yteiipfajoikfpaa

/- Walk of Rank. -/
namespace Go.Proofs.Yteiipfajoikfpaa
open Go Go.RowKit Go.Proofs

theorem rank_bad (ao lo : Option Addr) (c n lm lc : Nat) (C : List (List Int)) (z : Int) (w : World) (h : IMx w ao C) (hn : C.length = n) (hm : n ≤ 9223372036854775807) (hb : costsB C = false) :
    Calls Try.prog 42 #[.slice ao n c, .int .i64 z, .slice lo lm lc] w (fun e w' => e = .returned (.tuple #[.int .i64 0, .int .i64 1]) ∧ Below w.heap.size w w') := by
  have hH := Lib.hid h
  have hnH := Lib.hid hn
  have hbH := Lib.hid hb
  clear h hn hb
  go_enter Try.func42, Try.ntmps42
  go_wp2_with (go_at_call 48; (with_reducible refine (valid_any ao c n C false _ hH.out hnH.out hm hbH.out).mono ?_); rintro e w1 ⟨rfl, rfl⟩)
  go_ret2
  exact ⟨rfl, Below.refl _ _⟩
theorem rank_form (ao lo : Option Addr) (c n lm lc : Nat) (C : List (List Int)) (z : Int) (xs : List Int) (w : World) (h : IMx w ao C) (hg : goodC C) (hn : C.length = n) (hx : IZ w lo xs) (hl : xs.length = lm) (hlb : lm ≤ 9223372036854775807) (hp : pairB n xs = false) :
    Calls Try.prog 42 #[.slice ao n c, .int .i64 z, .slice lo lm lc] w (fun e w' => e = .returned (.tuple #[.int .i64 0, .int .i64 2]) ∧ Below w.heap.size w w') := by
  have hn8 : n ≤ 8 := by rw [← hn]; exact hg.2.1
  have hb := Lib.hid (show costsB C = true from decide_eq_true hg)
  have hH := Lib.hid h
  have hnH := Lib.hid hn
  have hxH := Lib.hid hx
  have hlH := Lib.hid hl
  have hpH := Lib.hid hp
  clear h hn hg hx hl hp
  go_enter Try.func42, Try.ntmps42
  go_wp2_with (first
    | (go_at_call 48; (with_reducible refine (valid_any ao c n C true _ hH.out hnH.out (by omega) hb.out).mono ?_); rintro e w1 ⟨rfl, rfl⟩)
    | (go_at_call 68; go_loud (refine (pairing_any lo lc lm n xs false _ hxH.out hlH.out hlb (by omega) hpH.out).mono ?_); rintro e w2 ⟨rfl, hb2⟩; have hb2H := Lib.hid hb2; clear hb2))
  go_ret2
  exact ⟨rfl, hb2H.out⟩
def RankPost (A : Nat → Nat → Bool) (n : Nat) (p : List Nat) (w : World) (e : Ending) (w' : World) : Prop :=
  Below w.heap.size w w' ∧ ((Ok A p ∧ ∃ r : Nat, (alwN A n)[r]? = some p ∧ e = .returned (.tuple #[.int .i64 (r : Nat), .int .i64 0])) ∨ (¬ Ok A p ∧ e = .returned (.tuple #[.int .i64 0, .int .i64 5])))
set_option maxRecDepth 100000 in
set_option maxHeartbeats 12800000 in
theorem rank_good (ao lo : Option Addr) (c n lc : Nat) (C : List (List Int)) (z : Int) (p : List Nat) (w : World) (h : IMx w ao C) (hg : goodC C) (hn : C.length = n) (hx : IZ w lo (nz p)) (hp : Pr n p) :
    Calls Try.prog 42 #[.slice ao n c, .int .i64 z, .slice lo n lc] w (RankPost (upA C z) n p w) := by
  have hn8 : n ≤ 8 := by rw [← hn]; exact hg.2.1
  have hn1 : 1 ≤ n := by rw [← hn]; exact hg.1
  obtain ⟨N, hN⟩ : ∃ N, 2 ^ n = N := ⟨_, rfl⟩
  have hN1 : 2 ≤ N := by rw [← hN]; exact Nat.pow_le_pow_right (n := 2) (by omega) hn1
  have hN2 : N ≤ 256 := by rw [← hN]; exact Nat.pow_le_pow_right (n := 2) (by omega) hn8
  have hb := Lib.hid (show costsB C = true from decide_eq_true hg)
  have hlz : Hid ((nz p).length = n) := by show _ = _; rw [nz_length]; exact hp.len
  have hpb := Lib.hid (pr_pairB hp)
  have hH := Lib.hid h
  have hgH := Lib.hid hg
  have hnH := Lib.hid hn
  have hNH := Lib.hid hN
  have hxH := Lib.hid hx
  have hpH := Lib.hid hp
  have egH := Lib.hid eg_upTo
  clear h hg hn hN hx hp
  go_enter Try.func42, Try.ntmps42
  go_upto_region 6 with (first
    | (go_at_call 48; (with_reducible refine (valid_any ao c n C true _ hH.out hnH.out (by omega) hb.out).mono ?_); rintro e w1 ⟨rfl, rfl⟩)
    | (go_at_call 68; go_loud (refine (pairing_any lo lc n n (nz p) true _ hxH.out hlz.out (by omega) (by omega) hpb.out).mono ?_); rintro e w1 ⟨rfl, hb1⟩; have hb1H := Lib.hid hb1; have hM1 := Lib.hid (hH.out.below hb1); clear hb1)
    | (go_at_call 60; go_loud (refine (upTo_any ao c n z _).mono ?_); rintro e w2 ⟨rfl, hb2, c1, c2⟩; have hAl := Lib.hid (upTo_at ao c n w1.heap.size (w1.heap.size + 1) C z w2 (hM1.out.below hb2) hgH.out hnH.out c1 c2); have hb2H := Lib.hid hb2; clear hb2 c1 c2)
    | (go_at_call 59; go_loud (refine (counts_any (upA C z) n 83 #[ptr w1.heap.size, ptr (w1.heap.size + 1)] _ hn8 hn1 hAl.out egH.out).mono ?_); rintro e w3 ⟨g, rfl, hZ, hb3, hg1, hg2⟩; rw [hNH.out]; have hbA := Lib.hid (bseqJ hb1H.out (bseqJ hb2H.out hb3)); have hZH := Lib.hid hZ; have hM3 := Lib.hid (hM1.out.below (bseqJ hb2H.out hb3)); clear hZ hb3))
  obtain ⟨A, hA⟩ : ∃ A, upA C z = A := ⟨_, rfl⟩
  rw [hA] at hZH ⊢
  have hAH := Lib.hid hA
  have hx3 := Lib.hid (hxH.out.below hbA.out)
  clear hA hAl
  go_wp2_with (fail)
  go_loopg [9, 10, 32] n (fun gk rv uv iv wr => ∃ (i r u m : Nat) (f : List Nat), rv = .int .i64 (r : Nat) ∧ uv = .int .i64 (u : Nat) ∧ iv = .int .i64 (i : Nat) ∧ i + gk = n ∧ f = p.take i ∧ i + m = n ∧ r ≤ i * 16777216 ∧ Bits n u f ∧ (∀ a b, f[a]? = some b → A a b = true) ∧ (∀ a b, (alw A n m f)[a]? = some b → (alwN A n)[r + a]? = some b) ∧ wr = w3)
  case atStart => exact ⟨0, 0, 0, n, [], rfl, rfl, rfl, by omega, by simp, by omega, by omega, Bits.zero n, fun a b hab => by simp at hab, fun a b hab => by rw [Nat.zero_add]; exact hab, rfl⟩
  case round =>
    obtain ⟨i, r, u, m, f, rfl, rfl, rfl, hi, hf, hm, hr, hbits, hok, hrk, rfl⟩ := hrel
    have hfH := Lib.hid hf
    have hbitsH := Lib.hid hbits
    have hokH := Lib.hid hok
    have hrkH := Lib.hid hrk
    clear hf hbits hok hrk
    by_cases hin : i < n
    · obtain ⟨g1, rfl⟩ : ∃ g1, gk = g1 + 1 := ⟨gk - 1, by omega⟩
      obtain ⟨m, rfl⟩ : ∃ m', m = m' + 1 := ⟨m - 1, by omega⟩
      have hfl : Hid (f.length = i) := by show _ = _; rw [hfH.out, List.length_take, hpH.out.len]; omega
      obtain ⟨k, hk⟩ : ∃ k, p[i]? = some k := ⟨_, List.getElem?_eq_getElem (by rw [hpH.out.len]; exact hin)⟩
      have hkn : k < n := hpH.out.lt k (List.mem_of_getElem? hk)
      have hpk := Lib.hid hk
      have hts := Lib.hid (take_lastX hk)
      have hkf : Hid (k ∉ f) := by
        intro hin2
        rw [hfH.out] at hin2
        obtain ⟨a, ha⟩ := List.mem_iff_getElem?.1 hin2
        rw [List.getElem?_take] at ha
        split at ha
        · rename_i hai
          have h5 := List.pairwise_iff_getElem.1 hpH.out.nodup a i (by rw [hpH.out.len]; omega) (by rw [hpH.out.len]; exact hin) hai
          refine h5 ?_
          have e1 := hpk.out
          rw [List.getElem?_eq_getElem (by rw [hpH.out.len]; exact hin)] at e1
          rw [List.getElem?_eq_getElem (by rw [hpH.out.len]; omega)] at ha
          injection e1 with e1
          injection ha with ha
          rw [e1, ha]
        · cases ha
      have hflt : Hid (∀ x ∈ f, x < n) := fun x hx => by rw [hfH.out] at hx; exact hpH.out.lt x (List.mem_of_mem_take hx)
      have hfnd : Hid (f.Nodup) := by show List.Nodup f; rw [hfH.out]; exact hpH.out.nodup.sublist (List.take_sublist _ _)
      obtain ⟨b1, o1, rfl, e0⟩ := hx3.out i _ (nz_get hk)
      obtain ⟨b5, o3, b4, o4, c4, hao, e1, hc4, e2, p0, p1⟩ := (hM3.out).cost hgH.out hnH.out hin hkn
      subst hao
      obtain ⟨x, hx⟩ : ∃ x, cst C i k = x := ⟨_, rfl⟩
      rw [hx] at e2
      have hAx : Hid (A i k = decide (x ≤ z)) := by show _ = _; rw [← hAH.out, ← hx]; rfl
      have hiI : (i : Int) < (n : Int) := by omega
      have hi0 : (0 : Int) ≤ (i : Int) := by omega
      have hkI : (k : Int) < (n : Int) := by omega
      have hk0 : (0 : Int) ≤ (k : Int) := by omega
      clear hk hx p0 p1
      by_cases hxz : x ≤ z
      · have hxz2 : ¬ x > z := by omega
        have hA1 : Hid (A f.length k = true) := by show _ = _; rw [hfl.out, hAx.out]; exact decide_eq_true hxz
        go_wp2_with (fail)
        go_loopg [9, 47] k (fun gj rv jv wx => ∃ j q : Nat, rv = .int .i64 (q : Nat) ∧ jv = .int .i64 (j : Nat) ∧ j + gj = k ∧ q = r + (alwU A n m f j).length ∧ wx = wr)
        case atStart => exact ⟨0, r, rfl, rfl, by omega, by rw [alwU_zero]; rfl, rfl⟩
        case round =>
          obtain ⟨j, q, rfl, rfl, hj, hq, rfl⟩ := hrel
          have hle : (alwU A n m f j).length ≤ 16777216 := by rw [alwU_len A n m u f (by rw [hfl.out]; omega) hbitsH.out j (by omega)]; exact way_small hn8 (by omega) (by omega)
          have hqb : q ≤ 150994944 := by omega
          have hqc : q ≤ (i + 1) * 16777216 := by omega
          have hqH := Lib.hid hq
          clear hq
          by_cases hjk : j < k
          · obtain ⟨g2, rfl⟩ : ∃ g2, gk = g2 + 1 := ⟨gk - 1, by omega⟩
            have hjn : j < n := by omega
            have hjI : (j : Int) < (k : Int) := by omega
            have hjI2 : (j : Int) < (n : Int) := by omega
            have hj0 : (0 : Int) ≤ (j : Int) := by omega
            have hj64 : (j : Int) < 64 := by omega
            have hu : u < N := by rw [← hNH.out]; exact hbitsH.out.1
            have hbit := bit_at u j (by omega)
            by_cases hjf : j ∈ f
            · have hbit1 : bits .and .i64 ((u : Int) / 2 ^ j) 1 = 1 := by rw [hbit, (hbitsH.out.2 j hjn).2 hjf]; rfl
              have hjfH := Lib.hid hjf
              clear hbit hjf
              go_wp2_with (fail)
              go_roundg g2
              case measure => omega
              case rel => exact ⟨j + 1, q, rfl, by go_num, by omega, by rw [alwU_skip A n m f j (.inl hjfH.out)]; exact hqH.out, rfl⟩
            · have htb : u.testBit j = false := by rw [← Bool.not_eq_true, hbitsH.out.2 j hjn]; exact hjf
              have hbit1 : bits .and .i64 ((u : Int) / 2 ^ j) 1 = 0 := by rw [hbit, htb]; rfl
              have hjfH := Lib.hid hjf
              obtain ⟨b6, o6, b7, o7, c7, hao2, e3, hc7, e4, p2, p3⟩ := (hM3.out).cost hgH.out hnH.out hin hjn
              injection hao2 with hao2
              injection hao2 with hb56 ho36
              subst hb56 ho36
              rw [e1] at e3
              injection e3 with e3
              simp only [Value.slice.injEq, Option.some.injEq, Addr.mk.injEq] at e3
              obtain ⟨⟨rfl, rfl, _⟩, _, rfl⟩ := e3
              obtain ⟨y, hy⟩ : ∃ y, cst C i j = y := ⟨_, rfl⟩
              rw [hy] at e4
              have hAy : Hid (A i j = decide (y ≤ z)) := by show _ = _; rw [← hAH.out, ← hy]; rfl
              clear hbit hjf hy p2 p3
              by_cases hyz : y ≤ z
              · have hA2 : Hid (A f.length j = true) := by show _ = _; rw [hfl.out, hAy.out]; exact decide_eq_true hyz
                have hpw := pow_in j (by omega)
                have hor := or_bit u j (by omega) (by omega)
                have hol := or_lt (u := u) (j := j) (n := n) (by rw [hNH.out]; exact hu) hjn
                rw [hNH.out] at hol
                have c2 := (hZH.out : ZBlk wr g (tabW A n)).at (i := u ||| 2 ^ j) (by rw [tabW_len, hNH.out]; exact hol)
                rw [tabW_at (by rw [hNH.out]; exact hol), wayT_bits (m := m) (hbitsH.out.snoc hjn) (snoc_nodup hfnd.out hjfH.out) (snoc_lt hflt.out hjn) (by rw [List.length_append, hfl.out]; simp; omega)] at c2
                obtain ⟨o, ho⟩ : ∃ o, u ||| 2 ^ j = o := ⟨_, rfl⟩
                rw [ho] at hor hol c2
                obtain ⟨v, hv⟩ : ∃ v, (alw A n m (f ++ [j])).length = v := ⟨_, rfl⟩
                rw [hv] at c2
                have htk : Hid ((alwU A n m f (j + 1)).length = (alwU A n m f j).length + v) := by show _ = _; rw [alwU_take A n m f j hjfH.out hA2.out, List.length_append, hv]
                have hvb : v ≤ 16777216 := by rw [← hv, alw_len A n m (u ||| 2 ^ j) (f ++ [j]) (by rw [List.length_append, hfl.out]; simp; omega) (hbitsH.out.snoc hjn)]; exact wayM_small hn8 (by omega)
                have hlt2 : (o : Int) < (N : Int) := by omega
                have ho0 : 0 ≤ (o : Int) := by omega
                clear ho hv
                go_wp2_with (fail)
                go_roundg g2
                case measure => omega
                case rel => exact ⟨j + 1, q + v, by go_num, by go_num, by omega, by rw [htk.out, hqH.out]; omega, rfl⟩
              · have hA2 : Hid (A f.length j = false) := by show _ = _; rw [hfl.out, hAy.out]; exact decide_eq_false hyz
                go_wp2_with (fail)
                go_roundg g2
                case measure => omega
                case rel => exact ⟨j + 1, q, rfl, by go_num, by omega, by rw [alwU_skip A n m f j (.inr hA2.out)]; exact hqH.out, rfl⟩
          · have hje : j = k := by omega
            subst hje
            have hjI : ¬ (j : Int) < (j : Int) := by omega
            have hu : u < N := by rw [← hNH.out]; exact hbitsH.out.1
            have hj64 : (j : Int) < 64 := by omega
            have hpw := pow_in j (by omega)
            have hor := or_bit u j (by omega) (by omega)
            have hsn := Lib.hid (hbitsH.out.snoc hkn)
            have hstep := Lib.hid (rank_step hkn hkf.out hA1.out hrkH.out rfl)
            obtain ⟨o, ho⟩ : ∃ o, u ||| 2 ^ j = o := ⟨_, rfl⟩
            rw [ho] at hor
            have hoH := Lib.hid ho
            clear ho
            go_wp2_with (fail)
            go_roundg g1
            case measure => omega
            case rel => exact ⟨i + 1, q, o, m, f ++ [j], rfl, rfl, by go_num, by omega, by rw [hts.out, hfH.out], by omega, by omega, by rw [← hoH.out]; exact hsn.out, fun a b hab => by
              rcases Nat.lt_or_ge a f.length with h | h
              · rw [List.getElem?_append_left h] at hab; exact hokH.out a b hab
              · have ha : a = f.length := by have := (List.getElem?_eq_some_iff.1 hab).1; simp at this; omega
                subst ha
                rw [List.getElem?_append_right (Nat.le_refl _), Nat.sub_self] at hab
                simp at hab
                subst hab; exact hA1.out, by rw [hqH.out]; exact hstep.out, rfl⟩
      · have hxz2 : x > z := by omega
        go_wp2_with (fail)
        go_ret2
        refine ⟨hbA.out, .inr ⟨fun hok => ?_, rfl⟩⟩
        have h1 := hok i k hpk.out
        rw [hAH.out, hAx.out] at h1
        have h2 := of_decide_eq_true h1
        omega
    · have hie : i = n := by omega
      subst hie
      have hm0 : m = 0 := by omega
      subst hm0
      go_wp2_with (fail)
      go_ret2
      have hfp : f = p := by rw [hfH.out]; exact List.take_of_length_le (by rw [hpH.out.len]; exact Nat.le_refl _)
      show RankPost _ _ _ _ _ _
      rw [hAH.out]
      refine ⟨hbA.out, .inl ⟨fun a b hab => hokH.out a b (by rw [hfp]; exact hab), r, ?_, rfl⟩⟩
      have := hrkH.out 0 f (by simp [alw])
      rw [hfp] at this
      exact this
end Go.Proofs.Yteiipfajoikfpaa
