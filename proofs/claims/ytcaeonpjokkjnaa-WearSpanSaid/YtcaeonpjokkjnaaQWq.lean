/- Yf Yg Yh -/
import Derived.Test.YtcaeonpjokkjnaaQYe
import Derived.Test.YtcaeonpjokkjnaaQWp
set_option linter.unusedVariables false
/- Walks of the reference: Valid, Of. -/
namespace Go.Proofs.Ytcaeonpjokkjnaa
open Go Go.RowKit Go.Proofs

def PGood (w : World) (q : Rat) (e : Ending) (w' : World) : Prop :=
  ∃ a c a' c', e = .returned (.tuple #[.agg #[.bool (ng (rn q)), .slice a (LZ (rn q)) c, .bool (ng (rd q)), .slice a' (LZ (rd q)) c'], .bool true]) ∧ QM w' a c a' c' (rn q) (rd q) ∧ Below w.heap.size w w'
def PBad (w : World) (e : Ending) (w' : World) : Prop := e = .returned (.tuple #[.agg #[.bool false, .slice none 0 0, .bool false, .slice none 0 0], .bool false]) ∧ Below w.heap.size w w'
theorem parser_good (s : ByteArray) (w : World) (hs : s.size ≤ 4611686018427387904) (h : parseOK s) :
    Calls Try.prog 36 #[.string s] w (PGood w (parseQ s)) := (parser_any s w hs).mono fun e w' h2 => by
  rcases h2 with ⟨_, ⟨a, c, a', c', h3, h4⟩, h5⟩ | ⟨h3, _⟩
  · exact ⟨a, c, a', c', h3, h4, h5⟩
  · exact absurd h h3
theorem parser_bad (s : ByteArray) (w : World) (hs : s.size ≤ 4611686018427387904) (h : ¬ parseOK s) :
    Calls Try.prog 36 #[.string s] w (PBad w) := (parser_any s w hs).mono fun e w' h2 => by
  rcases h2 with ⟨h3, _⟩ | ⟨_, h3⟩
  · exact absurd h3 h
  · exact h3

/-- Is the text a number's, as a Bool. -/
noncomputable def vok (s : ByteArray) : Bool := @decide (parseOK s) (Classical.propDecidable _)
theorem vok_true {s : ByteArray} (h : parseOK s) : vok s = true := by unfold vok; simp [h]
theorem vok_false {s : ByteArray} (h : ¬ parseOK s) : vok s = false := by unfold vok; simp [h]
theorem vok_iff {s : ByteArray} : vok s = true ↔ parseOK s := by unfold vok; simp

set_option maxRecDepth 100000 in
set_option maxHeartbeats 1600000 in
theorem valid_b (s : ByteArray) (b : Bool) (w : World) (hb : vok s = b) (hs : s.size ≤ 4611686018427387904) :
    Calls Try.prog 11 #[.string s] w (RetBool w b) := by
  have hbH := Lib.hid hb
  clear hb
  cases b with
  | true =>
    have hok := Lib.hid (vok_iff.1 hbH.out)
    go_enter Try.func11, Try.ntmps11
    go_wp2_with (first
      | (go_at_call 36; go_loud (with_reducible refine (parser_good s _ hs hok.out).mono ?_); rintro e w1 ⟨a, c, a', c', rfl, hm1, hb1⟩))
    go_ret
    exact ⟨rfl, hb1.alloc hb1.size _⟩
  | false =>
    have hok := Lib.hid (show ¬ parseOK s from fun h => by have := hbH.out; rw [vok_true h] at this; cases this)
    go_enter Try.func11, Try.ntmps11
    go_wp2_with (first
      | (go_at_call 36; go_loud (with_reducible refine (parser_bad s _ hs hok.out).mono ?_); rintro e w1 ⟨rfl, hb1⟩))
    go_ret
    exact ⟨rfl, hb1.alloc hb1.size _⟩

set_option maxRecDepth 100000 in
set_option maxHeartbeats 1600000 in
theorem of_any (s : ByteArray) (w : World) (h : parseOK s) (hs : s.size ≤ 4611686018427387904) :
    Calls Try.prog 14 #[.string s] w (RetQ w (rn (parseQ s)) (rd (parseQ s))) := by
  have hok := Lib.hid h
  obtain ⟨q, hq⟩ : ∃ q, q = parseQ s := ⟨_, rfl⟩
  have hqH := Lib.hid hq
  rw [← hq]
  clear h hq
  obtain ⟨W, hW⟩ : ∃ W, W = w.alloc (Obj.cells #[.bool false, .slice none 0 0, .bool false, .slice none 0 0] 37) := ⟨_, rfl⟩
  have HR : Hid (Rg w.heap.size 4 W W) := by rw [hW]; exact Rg.new4 _ _ _ rfl
  have hbW' : Below w.heap.size w W := by rw [hW]; go_grown
  have hbW := Lib.hid hbW'
  have hWH := Lib.hid hW
  clear hW hbW'
  go_enter Try.func14, Try.ntmps14
  go_wp2_with (first
    | (go_at_call 36; rw [← hWH.out]; go_loud (with_reducible refine (parser_good s _ hs hok.out).mono ?_); rintro e w1 ⟨a, c, a', c', rfl, hm1, hb1⟩; rw [← hqH.out] at hm1; rw [← hqH.out]; have hz : w.heap.size < w1.heap.size := (by have := HR.out.lt (by omega); have := hb1.size; omega); have r1 := Lib.hid (Rg.step HR.out (by omega) hb1).self; obtain ⟨_, t2, t3, t5, _⟩ := r1.out))
  refine bodyPost_ret (v := .agg #[.bool (ng (rn q)), .slice a (LZ (rn q)) c, .bool (ng (rd q)), .slice a' (LZ (rd q)) c']) (by simp [results, Try.results14, go_sem, t2, hz]) rfl ?_
  have hb := below_set4 (bseqZ hbW.out hb1) (Nat.le_refl w.heap.size) (.bool (ng (rn q))) (.slice a (LZ (rn q)) c) (.bool (ng (rd q))) (.slice a' (LZ (rd q)) c')
  exact ⟨a, c, a', c', rfl, QM.up ⟨hm1.1.set4 t5 _ _ _ _ _ _ _ _, hm1.2.set4 t5 _ _ _ _ _ _ _ _⟩ ((Below.refl _ _).alloc (Nat.le_refl _) _), hb.alloc hb.size _⟩

end Go.Proofs.Ytcaeonpjokkjnaa

/- Walks of the reference: Nums, Qs. -/
namespace Go.Proofs.Ytcaeonpjokkjnaa
open Go Go.RowKit Go.Proofs

set_option maxRecDepth 100000 in
set_option maxHeartbeats 1600000 in
theorem nums_any (k : Int) (ao : Option Addr) (c n : Nat) (ss : List ByteArray) (w : World) (hk : (allOK ss ∧ k = 0) ∨ (¬ allOK ss ∧ k = 2)) (hl : ss.length = n) (h : SL w ao ss) (hn : n ≤ 1000000000) (hs : ∀ s ∈ ss, s.size ≤ 4611686018427387904) :
    Calls Try.prog 48 #[.slice ao n c] w (RetNum w k) := by
  have hH := Lib.hid h
  have hlH := Lib.hid hl
  have hkH := Lib.hid hk
  have hsH := Lib.hid hs
  clear h hl hk hs
  go_enter Try.func48, Try.ntmps48
  go_wp2_with (fail)
  go_loopw [3] (fun i wr => ∃ j, i = .int .i64 (j : Nat) ∧ j ≤ n ∧ okTo ss j ∧ Below w.heap.size w wr) (fun i _ => n - (intOf i).toNat)
  case atStart => exact ⟨0, rfl, by omega, fun i s hi => absurd hi (by omega), Below.refl _ _⟩
  case round =>
    obtain ⟨j, rfl, hj, hO, hbl⟩ := hrel
    have hOH := Lib.hid hO
    have hblH := Lib.hid hbl
    clear hO
    by_cases hjn : j < n
    · obtain ⟨s, hs⟩ : ∃ s, ss[j]? = some s := ⟨_, List.getElem?_eq_getElem (by rw [hlH.out]; exact hjn)⟩
      obtain ⟨b, o, rfl, e1⟩ := (hH.out.below hbl) j s hs
      have hsm := List.mem_of_getElem? hs
      have hsz := Lib.hid (hsH.out s hsm)
      have hs2 := Lib.hid hs
      have hjj : (j : Int) < n := by omega
      clear hbl hs
      by_cases hok : parseOK s
      · have hv := Lib.hid (vok_true hok)
        have hnx := Lib.hid (hOH.out.next hs2.out hok)
        clear hok hsm
        go_wp2_with (first
          | (go_at_call 11; go_loud (with_reducible refine (valid_b s true _ hv.out hsz.out).mono ?_); rintro e w1 ⟨rfl, hb1⟩))
        go_roundw
        case rel => exact ⟨j + 1, by go_num, by omega, hnx.out, bseqZ hblH.out hb1⟩
        case measure => simp [intOf]; omega
      · have hv := Lib.hid (vok_false hok)
        have hk2 : Hid (k = 2) := by
          show _ = _
          rcases hkH.out with ⟨h1, _⟩ | ⟨_, h2⟩
          · exact absurd (h1 s hsm) hok
          · exact h2
        clear hok hsm
        go_wp2_with (first
          | (go_at_call 11; go_loud (with_reducible refine (valid_b s false _ hv.out hsz.out).mono ?_); rintro e w1 ⟨rfl, hb1⟩))
        go_ret
        exact ⟨by rw [hk2.out]; rfl, bseqZ hblH.out hb1⟩
    · have hjj : ¬ (j : Int) < n := by omega
      have hk0 : Hid (k = 0) := by
        show _ = _
        rcases hkH.out with ⟨_, h2⟩ | ⟨h1, _⟩
        · exact h2
        · exact absurd (okTo.all (by rw [hlH.out, show n = j by omega]; exact hOH.out)) h1
      go_wp2_with (fail)
      go_ret
      exact ⟨by rw [hk0.out]; rfl, hblH.out⟩

end Go.Proofs.Ytcaeonpjokkjnaa

/- Walk of the reference: Qs. -/
namespace Go.Proofs.Ytcaeonpjokkjnaa
open Go Go.RowKit Go.Proofs

def RetZL (w : World) (qs : List Rat) (e : Ending) (w' : World) : Prop :=
  ∃ ao c, e = .returned (.slice ao qs.length c) ∧ ZV w' w.heap.size (.slice ao qs.length c) qs ∧ Below w.heap.size w w'

set_option maxRecDepth 100000 in
set_option maxHeartbeats 1600000 in
theorem qs_any (ao : Option Addr) (c n : Nat) (ss : List ByteArray) (w : World) (hl : ss.length = n) (h : SL w ao ss) (hn : n ≤ 1000000000) (hs : ∀ s ∈ ss, s.size ≤ 4611686018427387904) (hok : allOK ss) :
    Calls Try.prog 49 #[.slice ao n c] w (RetZL w (ss.map parseQ)) := by
  have hH := Lib.hid h
  have hlH := Lib.hid hl
  have hsH := Lib.hid hs
  have hokH := Lib.hid hok
  have hV0 := Lib.hid (ZV.lit0 w w.heap.size (Nat.le_refl _))
  clear h hl hs hok
  go_enter Try.func49, Try.ntmps49
  go_wp2_with (fail)
  go_loopw [3, 4] (fun b i wr => ∃ k, i = .int .i64 (k : Nat) ∧ k ≤ n ∧ ZV wr w.heap.size b ((ss.map parseQ).take k) ∧ Below w.heap.size w wr) (fun _ i _ => n - (intOf i).toNat)
  case atStart => exact ⟨0, rfl, by omega, hV0.out, by go_grown⟩
  case round =>
    obtain ⟨k, rfl, hk, hV, hbl⟩ := hrel
    obtain ⟨ab, cb, hbv⟩ := hV.shape
    subst hbv
    have htl : ((ss.map parseQ).take k).length = k := by rw [List.length_take, List.length_map, hlH.out]; omega
    have htlH := Lib.hid htl
    rw [htl] at hV ⊢
    have hVH := Lib.hid hV
    have hblH := Lib.hid hbl
    clear hV htl
    by_cases hkn : k < n
    · obtain ⟨s, hs⟩ : ∃ s, ss[k]? = some s := ⟨_, List.getElem?_eq_getElem (by rw [hlH.out]; exact hkn)⟩
      obtain ⟨b, o, rfl, e1⟩ := (hH.out.below hbl) k s hs
      have hsm := List.mem_of_getElem? hs
      have hsz := Lib.hid (hsH.out s hsm)
      have hpo := Lib.hid (hokH.out s hsm)
      have hnx := Lib.hid (qs_next ss k s hs)
      have hkk : (k : Int) < n := by omega
      clear hbl hs hsm
      go_wp2_with (first
        | (go_at_call 14; go_loud (with_reducible refine (of_any s _ hpo.out hsz.out).mono ?_); rintro e w1 ⟨a1, c1, a1', c1', rfl, hm1, hb1⟩; have hV1 := Lib.hid (hVH.out.below hb1); have hb1H := Lib.hid (bseqZ hblH.out hb1); have hm1H := Lib.hid (show ZRp w1 ⟨a1, c1, a1', c1'⟩ (parseQ s) from hm1); have hs1 := hb1H.out.size; clear hm1 hb1)
        | (at_builtin; go_loud (refine wpList_append_q _ rfl (.tmp 12) (.tmp 18) _ rfl Try.underlying51 w.heap.size k (.slice ab k cb) ((ss.map parseQ).take k) (parseQ s) ⟨a1, c1, a1', c1'⟩ rfl (hV1.out.below ((Below.refl _ _).alloc (Nat.le_refl _) _)) htlH.out w1.heap.size rfl (by omega) (by simp; omega) (by simp [go_sem]) (by simp [go_sem]) (by simp [go_sem]) (by simp [go_sem]) (hm1H.out.up ((Below.refl _ _).alloc (Nat.le_refl _) _)) ?_); intro v' w6 hv6 hg6; rw [hnx.out] at hv6; have hb6 := Lib.hid ((hb1H.out.alloc hs1 _).grown hg6 (by simp; omega) (fun g hg => (hVH.out.lt g hg).1)); clear hg6))
      go_roundw
      case rel => exact ⟨k + 1, by go_num, by omega, hv6, hb6.out⟩
      case measure => simp [intOf]; omega
    · have hke : k = n := by omega
      subst hke
      have hkk : ¬ (k : Int) < k := by omega
      have hall : Hid ((ss.map parseQ).take k = ss.map parseQ) := by show _ = _; rw [List.take_of_length_le (by rw [List.length_map, hlH.out]; exact Nat.le_refl _)]
      go_wp2_with (fail)
      go_ret
      refine ⟨ab, cb, by rw [List.length_map, hlH.out]; rfl, ?_, hblH.out⟩
      rw [List.length_map, hlH.out]
      have := hVH.out
      rw [hall.out] at this
      exact this

end Go.Proofs.Ytcaeonpjokkjnaa
