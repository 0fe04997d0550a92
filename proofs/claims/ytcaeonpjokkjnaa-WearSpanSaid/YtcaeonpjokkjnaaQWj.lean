/- Renew WearI Step -/
import Derived.Test.YtcaeonpjokkjnaaQWearH
import Derived.Deep.RegionLaw
set_option linter.unusedVariables false
/- Walk of wear.Renew. -/
namespace Go.Proofs.Ytcaeonpjokkjnaa
open Go Go.RowKit Go.Proofs

/-- The renewals u(0) to u(k). -/
def uL (ps : List Rat) : Nat → List Rat | 0 => [1] | k + 1 => uL ps k ++ [dotl ps (uL ps k).reverse]
theorem uL_length (ps : List Rat) : ∀ k, (uL ps k).length = k + 1
  | 0 => rfl
  | k + 1 => by rw [uL, List.length_append, uL_length ps k]; rfl
theorem uL_mem (ps : List Rat) (q : Rat) : ∀ (n k : Nat), k ≤ n → q ∈ uL ps k → q ∈ uL ps n
  | 0, k, h, hq => by have : k = 0 := by omega
                      subst this; exact hq
  | n + 1, k, h, hq => by
    by_cases e : k = n + 1
    · subst e; exact hq
    · rw [uL]; exact List.mem_append_left _ (uL_mem ps q n k (by omega) hq)

/-- One fraction in a slice of its own. -/
theorem QV.one (w : World) (base : Nat) (p : RP) (q : Rat) (hm : RMp w p q) (hb : base ≤ w.heap.size) :
    QV (w.alloc (Obj.cells #[.bool (ng (rn q)), .slice p.a (LI (rn q)) p.c, .bool (ng (rd q)), .slice p.a' (LI (rd q)) p.c'] 70)) base (.slice (some ⟨w.heap.size, 0, none⟩) 1 1) [q] := by
  refine ⟨[(q, p)], rfl, ?_, ?_, ?_⟩
  · have := World.ownsRow_lit (base := base) (size := 4) (e := 70) w #[.bool (ng (rn q)), .slice p.a (LI (rn q)) p.c, .bool (ng (rd q)), .slice p.a' (LI (rd q)) p.c'] 1 hb (by unfold maxLen; omega) rfl
    exact this
  · intro g hg
    simp [Value.ownBlock] at hg
    subst hg
    exact (Box.new w p q 70 hm).1.2.1
  · intro x hx
    rw [List.mem_singleton.1 hx]
    exact hm.up ((Below.refl _ _).alloc (Nat.le_refl _) _)

theorem SV.base {w : World} {base base' : Nat} {v : Value} {ss : List ByteArray} (h : SV w base v ss) (hb : base' ≤ base) : SV w base' v ss := by
  obtain ⟨ho, hn⟩ := h
  refine ⟨⟨ho.1, ?_⟩, hn⟩
  rcases ho.2 with h' | ⟨g', cap', cur, hv, h1, hg, h2⟩
  · exact .inl h'
  · exact .inr ⟨g', cap', cur, hv, Nat.le_trans hb h1, hg, h2⟩

theorem dot_n (a1 a1' : Option Addr) (c1 c1' : Nat) (ao bo : Option Addr) (c d n m : Nat) (xs ys : List Rat) (w : World) (hn : xs.length = n) (hm : ys.length = m) (h0 : RM w a1 c1 a1' c1' 0) (hA : QL w ao xs) (hB : QL w bo ys) (hn1 : n ≤ 1000000000) (hn2 : m ≤ 1000000000)
    (hz : ∀ k, Sz (pdot xs ys k)) (hz1 : ∀ q ∈ xs, Sz q) (hz2 : ∀ q ∈ ys, Sz q) (hz3 : ∀ p ∈ xs, ∀ q ∈ ys, Sz (p * q)) :
    Calls Try.prog 33 #[.agg #[.bool (ng (rn 0)), .slice a1 (LI (rn 0)) c1, .bool (ng (rd 0)), .slice a1' (LI (rd 0)) c1'], .slice ao n c, .slice bo m d] w (RetRat w (dotl xs ys)) := by
  subst hn hm
  exact dot_any a1 a1' c1 c1' ao bo c d xs ys w h0 hA hB hn1 hn2 hz hz1 hz2 hz3

theorem read_n (k : Int) (ao : Option Addr) (c : Nat) (ss : List ByteArray) (w : World) (h : Calls Try.prog 28 #[.slice ao ss.length c] w (RetErr w k)) :
    Calls Try.prog 28 #[.slice ao ss.length c] w (RetErr w k) := h

set_option maxRecDepth 100000 in
set_option maxHeartbeats 800000 in
theorem renew_bad (k n : Int) (hk : (k != 0) = true) (ao : Option Addr) (c : Nat) (ss : List ByteArray) (w : World) (h : Calls Try.prog 28 #[.slice ao ss.length c] w (RetErr w k)) :
    Calls Try.prog 10 #[.slice ao ss.length c, .int .i64 n] w (RetErr w k) := by
  have hH := Lib.hid h
  clear h
  go_enter Try.func10, Try.ntmps10
  go_wp2_with (first | (go_at_call 28; (with_reducible refine hH.out.mono ?_); rintro e w1 ⟨rfl, hb1⟩))
  go_ret2
  exact ⟨rfl, hb1⟩

set_option maxRecDepth 100000 in
set_option maxHeartbeats 800000 in
theorem renew_out (n : Int) (hn : n < 0 ∨ 40 < n) (ao : Option Addr) (c : Nat) (ss : List ByteArray) (ps : List Rat) (w : World) (h : Calls Try.prog 28 #[.slice ao ss.length c] w (RetLives w ps)) :
    Calls Try.prog 10 #[.slice ao ss.length c, .int .i64 n] w (RetErr w 1) := by
  have hH := Lib.hid h
  clear h
  by_cases h1 : n < 0
  · clear hn
    go_enter Try.func10, Try.ntmps10
    go_wp2_with (first | (go_at_call 28; (with_reducible refine hH.out.mono ?_); rintro e w1 ⟨a1, c1, rfl, hV, hb1⟩; have hVH := Lib.hid hV; clear hV))
    go_ret2
    exact ⟨rfl, hb1⟩
  · have h2 : 40 < n := by omega
    clear hn
    go_enter Try.func10, Try.ntmps10
    go_wp2_with (first | (go_at_call 28; (with_reducible refine hH.out.mono ?_); rintro e w1 ⟨a1, c1, rfl, hV, hb1⟩; have hVH := Lib.hid hV; clear hV))
    go_ret2
    exact ⟨rfl, hb1⟩

/-- The sizes that the walk of Renew asks for. -/
structure RenewSz (ps : List Rat) (n : Nat) : Prop where
  dots : ∀ k j, k < n → Sz (pdot ps (uL ps k).reverse j)
  own : ∀ q ∈ ps, Sz q
  us : ∀ q ∈ uL ps n, Sz q
  mul : ∀ p ∈ ps, ∀ q ∈ uL ps n, Sz (p * q)
  num : ∀ q ∈ uL ps n, numRes q = (nt q, 0)

set_option maxRecDepth 100000 in
set_option maxHeartbeats 1600000 in
theorem renew_good (n : Nat) (hn : n ≤ 40) (ao : Option Addr) (c : Nat) (ss : List ByteArray) (ps : List Rat) (w : World) (h : Calls Try.prog 28 #[.slice ao ss.length c] w (RetLives w ps)) (hpl : ps.length ≤ 12) (hz : RenewSz ps n) :
    Calls Try.prog 10 #[.slice ao ss.length c, .int .i64 n] w (RetNums w ((uL ps n).map nt)) := by
  have hH := Lib.hid h
  have hzH := Lib.hid hz
  obtain ⟨m, hm⟩ : ∃ m, ps.length = m := ⟨_, rfl⟩
  have hmH := Lib.hid hm
  rw [hm] at hpl
  have h1 : ¬ (n : Int) < 0 := by omega
  have h2 : ¬ (40 : Int) < n := by omega
  clear h hz hm
  go_enter Try.func10, Try.ntmps10
  go_wp2_with (first
    | (go_at_call 28; (with_reducible refine hH.out.mono ?_); rintro e w1 ⟨a1, c1, rfl, hV, hb1⟩; have hP := Lib.hid (show QL w1 a1 ps from QV.ql hV); have hb1H := Lib.hid hb1; clear hV hb1)
    | (go_at_call 32; (with_reducible refine (whole_one _).mono ?_); rintro e w2 ⟨a2, c2, a2', c2', rfl, hm2, hb2⟩))
  have hV0 := Lib.hid (QV.one w2 w1.heap.size ⟨a2, c2, a2', c2'⟩ 1 hm2 hb2.size)
  have hbV := Lib.hid (hb2.alloc hb2.size (Obj.cells #[.bool (ng (rn 1)), .slice a2 (LI (rn 1)) c2, .bool (ng (rd 1)), .slice a2' (LI (rd 1)) c2'] 70))
  clear hb2 hm2
  rw [hmH.out]
  obtain ⟨V, hVe⟩ : ∃ V, V = w2.alloc (Obj.cells #[.bool (ng (rn 1)), .slice a2 (LI (rn 1)) c2, .bool (ng (rd 1)), .slice a2' (LI (rd 1)) c2'] 70) := ⟨_, rfl⟩
  rw [← hVe]
  rw [← hVe] at hV0 hbV
  clear hVe
  go_loopw [8, 28] (fun b i wr => ∃ k, i = .int .i64 (k : Nat) ∧ k ≤ n ∧ QV wr w1.heap.size b (uL ps k) ∧ Below w1.heap.size w1 wr) (fun _ i _ => n - (intOf i).toNat)
  case atStart => exact ⟨0, rfl, by omega, hV0.out, hbV.out⟩
  case round =>
    obtain ⟨k, rfl, hk, hV, hbl⟩ := hrel
    obtain ⟨ab, cb, hbv⟩ := hV.shape
    subst hbv
    have htlH := Lib.hid (uL_length ps k)
    rw [htlH.out] at hV ⊢
    have hVH := Lib.hid hV
    have hblH := Lib.hid hbl
    have hbs := hbl.size
    clear hV hbl
    by_cases hkn : k < n
    · have hnx : Hid (uL ps k ++ [dotl ps (uL ps k).reverse] = uL ps (k + 1)) := rfl
      have hk1 : (k : Int) < n := by omega
      have hrl : Hid ((uL ps k).reverse.length = k + 1) := by show _ = _; rw [List.length_reverse]; exact htlH.out
      have z1 := Lib.hid (fun j => hzH.out.dots k j hkn)
      have z2 := Lib.hid (fun q (hq : q ∈ (uL ps k).reverse) => hzH.out.us q (uL_mem ps q n k hk (List.mem_reverse.1 hq)))
      have z3 := Lib.hid (fun p (hp : p ∈ ps) q (hq : q ∈ (uL ps k).reverse) => hzH.out.mul p hp q (uL_mem ps q n k hk (List.mem_reverse.1 hq)))
      clear hk
      go_wp2_with (first
        | (go_at_call 32; (with_reducible refine (whole_zero _).mono ?_); rintro e w3 ⟨a3, c3, a3', c3', rfl, hm3, hb3⟩; have hb3H := Lib.hid (bseq hblH.out hb3); have hV3 := Lib.hid (hVH.out.below hb3); have hZ3 := Lib.hid hm3; clear hm3 hb3)
        | (go_at_call 34; go_loud (with_reducible refine (turned_n ab cb (k + 1) (uL ps k) _ htlH.out hV3.out.ql (by omega)).mono ?_); rintro e w4 ⟨a4, c4, rfl, hV4, hb4⟩; have hR4 := Lib.hid (QV.ql hV4); have hb4H := Lib.hid (bseq hb3H.out hb4); have hVV4 := Lib.hid (hV3.out.below hb4); have hZ4 := Lib.hid (hZ3.out.up hb4); rw [hrl.out]; clear hV4 hb4)
        | (go_at_call 33; go_loud (with_reducible refine (dot_n a3 a3' c3 c3' a1 a4 c1 c4 m (k + 1) ps (uL ps k).reverse _ hmH.out hrl.out hZ4.out (hP.out.below hb4H.out) hR4.out (by omega) (by omega) z1.out hzH.out.own z2.out z3.out).mono ?_); rintro e w5 ⟨a5, c5, a5', c5', rfl, hm5, hb5⟩; have hb5H := Lib.hid (bseq hb4H.out hb5); have hV5 := Lib.hid (hVV4.out.below hb5); have hM5 := Lib.hid (show RMp w5 ⟨a5, c5, a5', c5'⟩ (dotl ps (uL ps k).reverse) from hm5); have hs5 := hb5H.out.size; clear hm5 hb5)
        | (at_builtin; go_loud (refine wpList_append_rat _ rfl (.tmp 30) (.tmp 36) _ rfl Try.underlying62 w1.heap.size (k + 1) (.slice ab (k + 1) cb) (uL ps k) (dotl ps (uL ps k).reverse) ⟨a5, c5, a5', c5'⟩ rfl (hV5.out.below ((Below.refl _ _).alloc (Nat.le_refl _) _)) htlH.out w5.heap.size rfl (by omega) (by simp; omega) (by simp [go_sem]) (by simp [go_sem]) (by simp [go_sem]) (by simp [go_sem]) (hM5.out.up ((Below.refl _ _).alloc (Nat.le_refl _) _)) ?_); intro v' w6 hv6 hg6; rw [hnx.out] at hv6; have hb6 := Lib.hid ((hb5H.out.alloc hs5 _).grown hg6 (by simp; omega) (fun g hg => (hVH.out.lt g hg).1)); clear hg6))
      go_roundw
      case rel => exact ⟨k + 1, by go_num, by omega, hv6, hb6.out⟩
      case measure => simp [intOf]; omega
    · have hke : k = n := by omega
      subst hke
      go_wp2_with (first
        | (go_at_call 35; go_loud (with_reducible refine (told_n ab cb (k + 1) (uL ps k) _ htlH.out hVH.out.ql (by omega) hzH.out.us hzH.out.num).mono ?_); rintro e w7 ⟨a7, c7, rfl, hS7, hb7⟩; have hS7H := Lib.hid hS7; clear hS7))
      go_ret2
      exact ⟨a7, c7, by rw [List.length_map]; rfl, hS7H.out.base (Nat.le_trans hb1H.out.size hblH.out.size), bseq (hb1H.out.trans (hblH.out.mono hb1H.out.size)) hb7⟩

end Go.Proofs.Ytcaeonpjokkjnaa

/- Walks of package wear: mean, Mean. -/
namespace Go.Proofs.Ytcaeonpjokkjnaa
open Go Go.RowKit Go.Proofs

theorem aboveL_mem {qs : List Rat} {q : Rat} (h : q ∈ aboveL qs) : ∃ k, q = left qs k := by
  unfold aboveL at h
  obtain ⟨k, _, rfl⟩ := List.mem_map.1 h
  exact ⟨k, rfl⟩
theorem aboveL_length (qs : List Rat) : (aboveL qs).length = qs.length := by simp [aboveL]

/-- The mean of lives: the sum of the chances that a wheel lasts longer. -/
def meanQ (qs : List Rat) : Rat := (aboveL qs).sum

set_option maxRecDepth 100000 in
set_option maxHeartbeats 800000 in
theorem mean_any (ao : Option Addr) (c n : Nat) (qs : List Rat) (w : World) (hnl : qs.length = n) (h : QL w ao qs) (hn : n ≤ 1000000000) (hz : ∀ k, Sz (left qs k)) (hz2 : ∀ q ∈ qs, Sz q) (hz3 : ∀ k, Sz (psum (aboveL qs) k)) :
    Calls Try.prog 30 #[.slice ao n c] w (RetRat w (meanQ qs)) := by
  have hH := Lib.hid h
  have hnH := Lib.hid hnl
  have hzH := Lib.hid hz
  have hz2H := Lib.hid hz2
  have hz3H := Lib.hid hz3
  have hal : Hid ((aboveL qs).length = n) := by show _ = _; rw [aboveL_length]; exact hnl
  have hR : Hid (Rg w.heap.size 4 (w.alloc (Obj.cells #[.bool false, .slice none 0 0, .bool false, .slice none 0 0] 70)) (w.alloc (Obj.cells #[.bool false, .slice none 0 0, .bool false, .slice none 0 0] 70))) := Rg.new4 _ _ _ rfl
  have hbl : Below w.heap.size w (w.alloc (Obj.cells #[.bool false, .slice none 0 0, .bool false, .slice none 0 0] 70)) := by go_grown
  have hblH := Lib.hid hbl
  clear hbl h hnl hz hz2 hz3
  go_enter Try.func30, Try.ntmps30
  go_wp2_with (first
    | (go_at_call 57; go_loud (with_reducible refine (above_n ao c n qs _ hnH.out (hH.out.below hblH.out) hn hzH.out hz2H.out).mono ?_); rintro e w1 ⟨a1, c1, rfl, hV1, hb1⟩; have k1 := Lib.hid (Rg.step hR.out (by omega) hb1); have hQ1 := Lib.hid (QV.ql hV1); rw [hal.out]; clear hV1)
    | (go_at_call 54; go_loud (with_reducible refine (sum_n a1 c1 n (aboveL qs) _ hal.out hQ1.out hn hz3H.out (fun q hq => by obtain ⟨k, hk⟩ := aboveL_mem hq; rw [hk]; exact hzH.out k)).mono ?_); rintro e w2 ⟨a2, c2, a2', c2', rfl, hm2, hb2⟩; have k2 := Rg.step k1.out (by omega) hb2; obtain ⟨g1, g2, g3, g5, g4⟩ := k2))
  refine bodyPost_ret (v := .agg #[.bool (ng (rn (aboveL qs).sum)), .slice a2 (LI (rn (aboveL qs).sum)) c2, .bool (ng (rd (aboveL qs).sum)), .slice a2' (LI (rd (aboveL qs).sum)) c2']) (by simp [results, Try.results30, go_sem, g2]) rfl ?_
  exact RetRat.fin (N := w.heap.size) rfl rfl (hm2.1.set4 g5 _ _ _ _ _ _ _ _) (hm2.2.set4 g5 _ _ _ _ _ _ _ _) hblH.out (below_set4 g4 (Nat.le_refl _) _ _ _ _) (by omega)

/-- The span of the first k lives. -/
def spanK (qs : List Rat) : Nat → Nat
  | 0 => 0
  | k + 1 => if sg (rn (qs[k]?.getD 0)) = 0 then spanK qs k else Nat.gcd (spanK qs k) (k + 1)
theorem spanK_le (qs : List Rat) : ∀ k, spanK qs k ≤ k
  | 0 => Nat.le_refl _
  | k + 1 => by
    have := spanK_le qs k
    unfold spanK
    split
    · omega
    · exact Nat.gcd_le_right _ (by omega)

def RetMean (w : World) (s : ByteArray) (n : Nat) (e : Ending) (w' : World) : Prop := e = .returned (.tuple #[.string s, .int .i64 (n : Nat), .int .i64 0]) ∧ Below w.heap.size w w'
def RetMeanErr (w : World) (k : Int) (e : Ending) (w' : World) : Prop := e = .returned (.tuple #[.string ⟨#[]⟩, .int .i64 0, .int .i64 k]) ∧ Below w.heap.size w w'

set_option maxRecDepth 100000 in
set_option maxHeartbeats 800000 in
theorem mean_bad (k : Int) (hk : (k != 0) = true) (ao : Option Addr) (c : Nat) (ss : List ByteArray) (w : World) (h : Calls Try.prog 28 #[.slice ao ss.length c] w (RetErr w k)) :
    Calls Try.prog 9 #[.slice ao ss.length c] w (RetMeanErr w k) := by
  have hH := Lib.hid h
  clear h
  go_enter Try.func9, Try.ntmps9
  go_wp2_with (first | (go_at_call 28; (with_reducible refine hH.out.mono ?_); rintro e w1 ⟨rfl, hb1⟩))
  refine bodyPost_ret (v := .tuple #[.string ⟨#[]⟩, .int .i64 0, .int .i64 k]) (by simp [results, Try.results9, go_sem]) rfl ?_
  exact ⟨rfl, hb1⟩

structure MeanSz (qs : List Rat) : Prop where
  left : ∀ k, Sz (left qs k)
  own : ∀ q ∈ qs, Sz q
  sums : ∀ k, Sz (psum (aboveL qs) k)
  mean : Sz (meanQ qs)
  num : numRes (meanQ qs) = (nt (meanQ qs), 0)

set_option maxRecDepth 100000 in
set_option maxHeartbeats 1600000 in
theorem mean_good (ao : Option Addr) (c : Nat) (ss : List ByteArray) (qs : List Rat) (w : World) (h : Calls Try.prog 28 #[.slice ao ss.length c] w (RetLives w qs)) (hpl : qs.length ≤ 12) (hz : MeanSz qs) :
    Calls Try.prog 9 #[.slice ao ss.length c] w (RetMean w (nt (meanQ qs)) (spanK qs qs.length)) := by
  have hH := Lib.hid h
  have hzH := Lib.hid hz
  obtain ⟨m, hm⟩ : ∃ m, qs.length = m := ⟨_, rfl⟩
  have hmH := Lib.hid hm
  rw [hm] at hpl ⊢
  clear h hz hm
  go_enter Try.func9, Try.ntmps9
  go_wp2_with (first | (go_at_call 28; (with_reducible refine hH.out.mono ?_); rintro e w1 ⟨a1, c1, rfl, hV, hb1⟩; have hP := Lib.hid (show QL w1 a1 qs from QV.ql hV); have hb1H := Lib.hid hb1; rw [hmH.out]; clear hV hb1))
  go_loopw [7, 22] (fun sp i wr => ∃ k, i = .int .i64 (k : Nat) ∧ k ≤ m ∧ sp = .int .i64 (spanK qs k : Nat) ∧ Below w1.heap.size w1 wr) (fun _ i _ => m - (intOf i).toNat)
  case atStart => exact ⟨0, rfl, by omega, rfl, Below.refl _ _⟩
  case round =>
    obtain ⟨k, rfl, hk, rfl, hbl⟩ := hrel
    have hblH := Lib.hid hbl
    have hsp := Lib.hid (spanK_le qs k)
    by_cases hkn : k < m
    · obtain ⟨q, hq⟩ : ∃ q, qs[k]? = some q := ⟨_, List.getElem?_eq_getElem (by rw [hmH.out]; omega)⟩
      obtain ⟨b, o, p2, rfl, hmq, e0, e1, e2, e3⟩ := (hP.out.below hbl) k q hq
      have hmqH := Lib.hid hmq
      have hqH : Hid (qs[k]?.getD 0 = q) := by show _ = _; rw [hq]; rfl
      clear hq hmq hbl
      by_cases hs0 : sg (rn q) = 0
      · have hnx : Hid (spanK qs (k + 1) = spanK qs k) := by show _ = _; rw [spanK, hqH.out, if_pos hs0]
        go_wp2_with (first
          | (go_at_call 29; go_loud (with_reducible refine (rsign_any p2.a p2.c p2.a' p2.c' q _).mono ?_); rintro e w6 ⟨rfl, hb6⟩; have hb6H := Lib.hid (bvia hblH.out hb6); clear hb6))
        go_roundw
        case rel => exact ⟨k + 1, by go_num, by omega, by rw [hnx.out], hb6H.out⟩
        case measure => simp [intOf]; omega
      · have hs1 : (sg (rn q) == 0) = false := by simp; exact hs0
        have hnx : Hid (spanK qs (k + 1) = Nat.gcd (spanK qs k) (k + 1)) := by show _ = _; rw [spanK, hqH.out, if_neg hs0]
        clear hs0
        have hsk := hsp.out
        generalize spanK qs k = s0 at *
        go_wp2_with (first
          | (go_at_call 29; go_loud (with_reducible refine (rsign_any p2.a p2.c p2.a' p2.c' q _).mono ?_); rintro e w6 ⟨rfl, hb6⟩; have hb6H := Lib.hid (bvia hblH.out hb6); clear hb6))
        clear hs1 e0 e1 e2 e3
        go_loopw [7, 10] (fun sp a wi => ∃ u v, sp = .int .i64 (u : Nat) ∧ a = .int .i64 (v : Nat) ∧ u ≤ 12 ∧ v ≤ 12 ∧ Nat.gcd u v = Nat.gcd s0 (k + 1) ∧ Below w1.heap.size w1 wi) (fun _ a _ => (intOf a).toNat)
        case atStart => exact ⟨s0, k + 1, rfl, by go_num, by omega, by omega, rfl, hb6H.out⟩
        case round =>
          obtain ⟨u, v, rfl, rfl, hu, hv, hg, hbi⟩ := hrel
          have hgH := Lib.hid hg
          have hbiH := Lib.hid hbi
          clear hg hbi
          by_cases hv0 : v = 0
          · have hvz : ((v : Int) != 0) = false := by simp; exact hv0
            have hu2 : Hid (u = Nat.gcd s0 (k + 1)) := by have := hgH.out; rw [hv0, Nat.gcd_zero_right] at this; exact this
            clear hv0
            go_wp2
            go_roundw
            case rel => exact ⟨k + 1, by go_num, by omega, by rw [hnx.out, ← hu2.out], hbiH.out⟩
            case measure => simp [intOf]; omega
          · have hvz : ((v : Int) != 0) = true := by simp; exact hv0
            have hvz2 : ((v : Int) == 0) = false := by simp; exact hv0
            have hv1 : v < 13 := by omega
            have hmod : Hid (u % v < v) := Nat.mod_lt u (by omega)
            go_wp2
            go_quiet (fail)
            go_wp2
            go_roundw
            case rel =>
              refine ⟨v, u % v, rfl, by go_num, by omega, by have := hmod.out; omega, ?_, bdn hbiH.out⟩
              rw [← hgH.out, Nat.gcd_comm u v, Nat.gcd_rec v u, Nat.gcd_comm]
            case measure => have := hmod.out; simp [intOf]; omega
    · have hke : k = m := by omega
      subst hke
      go_wp2_with (first
        | (go_at_call 30; go_loud (with_reducible refine (mean_any a1 c1 k qs _ hmH.out (hP.out.below hblH.out) (by omega) hzH.out.left hzH.out.own hzH.out.sums).mono ?_); rintro e w7 ⟨a7, c7, a7', c7', rfl, hm7, hb7⟩; have hb7H := Lib.hid (bseq hblH.out hb7); have hm7H := Lib.hid hm7; clear hb7 hm7)
        | (go_at_call 31; go_loud (with_reducible refine (rnum_ok a7 c7 a7' c7' (meanQ qs) _ hm7H.out hzH.out.mean hzH.out.num).mono ?_); rintro e w8 ⟨rfl, hb8⟩))
      refine bodyPost_ret (v := .tuple #[.string (nt (meanQ qs)), .int .i64 (spanK qs k : Nat), .int .i64 0]) (by simp [results, Try.results9, go_sem]) rfl ?_
      exact ⟨rfl, bseq (hb1H.out.trans (hb7H.out.mono hb1H.out.size)) hb8⟩

end Go.Proofs.Ytcaeonpjokkjnaa

/- Appending a fraction as one step of a region that draws its order. -/
namespace Go.Proofs.Ytcaeonpjokkjnaa
open Go Go.RowKit Go.Proofs

theorem step_append_noint {P : Program} {ops : Array Oper} {o : Oper} {a : Act} {w : World} {K : Act → World → Prop} {Q : Exit → Act → World → Prop} {E : Prop} (hgd : o.guard = none) (s x : Operand) (t : TypeId)
    (ho : o.op = .call { callee := .builtin .append, args := #[s, x], argTypes := #[t, t] })
    (base : Nat) (e : TypeId) (i : TypeInfo) (z : Value) (size bytes : Nat) (ht : P.underlying t = some (.slice e)) (hi : P.info? e = some i) (hz : i.zero = some z)
    (hsize : i.size = size) (hby : i.bytes = bytes) (hzs : z.cells.size = size) (hsz : 0 < size)
    (v : Value) (n : Nat) (xs : List Value) (hs : a.eval s = v) (hown : w.ownsRow base e size v n xs)
    (ad : Addr) (m c : Nat) (news : List Value) (hx : a.eval x = .slice (some ad) m c) (hl : news.length = m * size) (hnews : ∀ j u, news[j]? = some u → w.cell? (ad.add j) = some u) (h1 : ∀ u ∈ news, u.oneCell' = true)
    (h63 : n + m ≤ maxLen) (hbytes : (n + m) * bytes ≤ 140737488355328) (hbase : base ≤ w.heap.size) (hm : 0 < m)
    (hv : NoIntV w v) (hnew : ∀ u ∈ news, ∀ k z, u ≠ .int k z) (hzn : ∀ u ∈ z.cells.toList, ∀ k z, u ≠ .int k z)
    (h : ∀ v' w', w'.ownsRow base e size v' (n + m) (xs ++ news) → w.grownBy w' v.ownBlock → NoIntV w' v' → K (a.put o.dst v') w') :
    if Region.wanted o (yielded ops a.tmps) = true then Oper.wp P o a w K Q else E := by
  have hw : Region.wanted o (yielded ops a.tmps) = true := by simp [Region.wanted, hgd]
  rw [if_pos hw]
  obtain ⟨v', w', hr, h2, h3, _⟩ := run_append_own (P := P) w base t o.type e i z size bytes ht hi hz hsize hby hzs hsz v n xs hown ad m c news hl hnews h1 h63 hbytes hbase
  obtain ⟨v2, w2, hr2, h4⟩ := run_append_noint (P := P) w base t o.type e i z size bytes ht hi hz hsize hby hzs hsz v n xs hown ad m c news hl hnews h1 h63 hbytes hm hv hnew hzn
  rw [hr] at hr2
  injection hr2 with e1 e2
  subst e1 e2
  unfold Oper.wp execOp
  simp only [ho, resolve, invoke, builtin, Sem.run_bind, Sem.run_pure, Result.andThen_ok, List.map_toArray, List.map_cons, List.map_nil, hs, hx, hr]
  exact h v' w' h2 h3 h4

theorem step_append_rat {ops : Array Oper} {o : Oper} {a : Act} {w : World} {K : Act → World → Prop} {Q : Exit → Act → World → Prop} {E : Prop} (hg : o.guard = none) (s x : Operand) (t : TypeId)
    (ho : o.op = .call { callee := .builtin .append, args := #[s, x], argTypes := #[t, t] }) (ht : Try.prog.underlying t = some (.slice 70)) (base n : Nat) (v : Value) (qs : List Rat) (q : Rat) (p : RP) (hs : a.eval s = v) (hv : QV w base v qs)
    (hn : qs.length = n) (g0 : Nat) (hx : a.eval x = .slice (some ⟨g0, 0, none⟩) 1 1) (hb : n ≤ 1000000000000) (hbs : base ≤ w.heap.size)
    (c0 : w.cell? ⟨g0, 0, none⟩ = some (.bool (ng (rn q)))) (c1 : w.cell? ⟨g0, 1, none⟩ = some (.slice p.a (LI (rn q)) p.c)) (c2 : w.cell? ⟨g0, 2, none⟩ = some (.bool (ng (rd q)))) (c3 : w.cell? ⟨g0, 3, none⟩ = some (.slice p.a' (LI (rd q)) p.c'))
    (hm : RMp w p q)
    (hK : ∀ v' w', QV w' base v' (qs ++ [q]) → w.grownBy w' v.ownBlock → K (a.put o.dst v') w') :
    if Region.wanted o (yielded ops a.tmps) = true then Oper.wp Try.prog o a w K Q else E := by
  obtain ⟨l, hl, hown, hno, hms⟩ := hv
  obtain ⟨i, h2, h3, h4, h5⟩ := info_parts info_rat
  subst hn
  refine step_append_noint hg s x t ho base 70 i _ 4 64 ht h2 h3 h4 h5 rfl (by omega) v qs.length (allCells l) hs hown ⟨g0, 0, none⟩ 1 1 (ratCells q p) hx rfl ?_ ?_ (by unfold maxLen; omega) (by omega) hbs (by omega) hno ?_ ?_ ?_
  · intro j u hu
    rw [Addr.add_lit, Nat.zero_add]
    rcases j with _ | _ | _ | _ | j
    · rw [c0]; exact hu
    · rw [c1]; exact hu
    · rw [c2]; exact hu
    · rw [c3]; exact hu
    · simp [ratCells] at hu
  · intro u hu
    simp [ratCells] at hu
    rcases hu with rfl | rfl | rfl | rfl <;> rfl
  · intro u hu k z
    simp [ratCells] at hu
    rcases hu with rfl | rfl | rfl | rfl <;> simp
  · intro u hu k z
    simp [Value.cells] at hu
    rcases hu with rfl | rfl | rfl | rfl <;> simp
  · intro v' w' ho' hg' hn'
    refine hK v' w' ⟨l ++ [(q, p)], by simp [hl], ?_, hn', ?_⟩ hg'
    · rw [allCells_snoc, List.length_append]; exact ho'
    · intro y hy
      rcases List.mem_append.1 hy with hy | hy
      · exact (hms y hy).grown hg' hno
      · rw [List.mem_singleton.1 hy]; exact hm.grown hg' hno

theorem QL.take {w : World} {ao : Option Addr} {qs : List Rat} (h : QL w ao qs) (k : Nat) : QL w ao (qs.take k) := fun i q hq => by
  rw [List.getElem?_take] at hq
  split at hq
  · exact h i q hq
  · cases hq
theorem psum_take (qs : List Rat) (k j : Nat) : psum (qs.take k) j = psum qs (min j k) := by unfold psum; rw [List.take_take]
theorem psum_all (qs : List Rat) (k : Nat) : (qs.take k).sum = psum qs k := rfl

/-- The rate of planned replacements after k + 1 periods. -/
def costQ (ps : List Rat) (c0 c1 : Rat) (k : Nat) : Rat := c1 * psum ps (k + 1) + c0 * (1 - psum ps (k + 1))
def rateQ (ps : List Rat) (c0 c1 : Rat) (k : Nat) : Rat := costQ ps c0 c1 k / psum (aboveL ps) (k + 1)
def rateL (ps : List Rat) (c0 c1 : Rat) : List Rat := (List.range ps.length).map (rateQ ps c0 c1)
theorem rateL_length (ps : List Rat) (c0 c1 : Rat) : (rateL ps c0 c1).length = ps.length := by simp [rateL]
theorem rateL_next (ps : List Rat) (c0 c1 : Rat) (k : Nat) (h : k < ps.length) : (rateL ps c0 c1).take k ++ [rateQ ps c0 c1 k] = (rateL ps c0 c1).take (k + 1) := by
  rw [List.take_add_one]
  unfold rateL
  rw [List.getElem?_map, List.getElem?_range h]; rfl

end Go.Proofs.Ytcaeonpjokkjnaa
