/- Up -/
import Derived.Test.YteiipfajoikfpaaQPd
import Derived.Test.YteiipfajoikfpaaQPe
set_option linter.unusedVariables false
/- Walk of the laws' made. -/
namespace Go.Proofs.Yteiipfajoikfpaa
open Go Go.RowKit Go.Proofs

/-- What made returns: valid costs. -/
def MadePost (size : Nat) (most : Int) (w : World) (e : Ending) (w' : World) : Prop :=
  ∃ (C : List (List Int)) (a : Option Addr) (c k : Nat), e = .returned (.slice a k c) ∧ C.length = k ∧ goodC C ∧ k ≤ size ∧ (∀ r ∈ C, ∀ x ∈ r, x ≤ most) ∧ IMx w' a C ∧ k ≤ c ∧ Below w.heap.size w w'
def rowsOk (k : Nat) (mo : Int) (C : List (List Int)) : Prop := ∀ r ∈ C, r.length = k ∧ ∀ x ∈ r, 0 ≤ x ∧ x ≤ mo
set_option maxRecDepth 100000 in
set_option maxHeartbeats 12800000 in
theorem made_anyJ (n0 lx cx sz mo : Nat) (ax : Option Addr) (xs : List Nat) (w : World) (hx : Dg .u16 w ax xs) (hl : xs.length = lx) (hl2 : lx ≤ 9223372036854775807) (hb : ∀ x ∈ xs, x < 65536) (hn : n0 < 256) (hsz : sz ≤ 8) (hsz0 : 0 < sz) (hmo : mo ≤ 1000) :
    Calls Try.prog 29 #[.int .u8 (n0 : Nat), .slice ax lx cx, .int .i64 (sz : Nat), .int .i64 (mo : Nat)] w (MadePost sz mo w) := by
  obtain ⟨r0, hr0⟩ : ∃ r0, n0 % sz = r0 := ⟨_, rfl⟩
  have hr1 : r0 < sz := by rw [← hr0]; exact Nat.mod_lt _ hsz0
  have t1 : ((n0 : Int)).tmod (sz : Int) = (r0 : Int) := by rw [← hr0]; exact (Int.ofNat_tmod n0 sz).symm
  have t2 : ((n0 : Int)) % (sz : Int) = (r0 : Int) := by rw [← hr0]; omega
  have hs1 : ¬ (sz : Int) = 0 := by omega
  have hs2 : ((sz : Int) == 0) = false := by simp; omega
  have hxH := Lib.hid hx
  have hlH := Lib.hid hl
  have hbH := Lib.hid hb
  obtain ⟨k, hk⟩ : ∃ k, r0 + 1 = k := ⟨_, rfl⟩
  have hkI : (r0 : Int) + 1 = (k : Int) := by omega
  have hk8 : k ≤ 8 := by omega
  have hk1 : 1 ≤ k := by omega
  have hks : k ≤ sz := by omega
  clear hx hl hb hr0 hk hr1
  go_enter Try.func29, Try.ntmps29
  go_wp2_with (fail)
  go_loopg [10, 11] k (fun gk cv iv wr => ∃ (i : Nat) (v : Value) (C : List (List Int)), v = cv ∧ iv = .int .i64 (i : Nat) ∧ i + gk = k ∧ C.length = i ∧ rowsOk k mo C ∧ MI wr w.heap.size v C ∧ Below w.heap.size w wr)
  case atStart => exact ⟨0, _, [], rfl, rfl, by omega, rfl, fun r hr => (by cases hr), MI.lit0 _ _ (Nat.le_refl _), below_al (Below.refl _ _) _⟩
  case round =>
    obtain ⟨i, v, C, rfl, rfl, hi, hCl, hC, hM, hbl⟩ := hrel
    obtain ⟨ab, cb, hbv⟩ := hM.shape
    subst hbv
    rw [hCl] at hM ⊢
    have hClH := Lib.hid hCl
    have hCH := Lib.hid hC
    have hMH := Lib.hid hM
    have hblH := Lib.hid hbl
    clear hCl hC hM hbl
    by_cases hik : i < k
    · obtain ⟨g1, rfl⟩ : ∃ g1, gk = g1 + 1 := ⟨gk - 1, by omega⟩
      have hiI : (i : Int) < (k : Int) := by omega
      obtain ⟨q, hq⟩ : ∃ q, i * k = q := ⟨_, rfl⟩
      have hq64 : q ≤ 64 := by rw [← hq]; exact Nat.mul_le_mul (by omega : i ≤ 8) hk8
      have hqI : (i : Int) * (k : Int) = (q : Int) := by rw [← hq]; simp
      clear hq
      go_upto_region 6 with (fail)
      obtain ⟨W, hW⟩ : ∃ W, W = wr.alloc (Obj.cells #[] 3) := ⟨_, rfl⟩
      rw [← hW]
      have hbW := Lib.hid (show Below wr.heap.size wr W by rw [hW]; exact below_al (Below.refl _ _) _)
      have hsW : wr.heap.size ≤ W.heap.size := hbW.out.size
      clear hW
      go_wp2_with (fail)
      go_loopg [12, 13] k (fun gj rv jv wx => ∃ (j : Nat) (v : Value) (r : List Int), v = rv ∧ jv = .int .i64 (j : Nat) ∧ j + gj = k ∧ r.length = j ∧ (∀ x ∈ r, 0 ≤ x ∧ x ≤ (mo : Int)) ∧ ZE wx W.heap.size v r ∧ Below W.heap.size W wx)
      case atStart => exact ⟨0, _, [], rfl, rfl, by omega, rfl, fun x hx => (by cases hx), ZE.lit _ _ _, Below.refl _ _⟩
      case round =>
        obtain ⟨j, v, r, rfl, rfl, hj, hrl, hrb, hZ, hbx⟩ := hrel
        obtain ⟨ar, cr, hrv⟩ := hZ.shape
        subst hrv
        rw [hrl] at hZ ⊢
        have hrlH := Lib.hid hrl
        have hrbH := Lib.hid hrb
        have hZH := Lib.hid hZ
        have hbxH := Lib.hid hbx
        clear hrl hrb hZ hbx
        by_cases hjk : j < k
        · obtain ⟨g2, rfl⟩ : ∃ g2, gk = g2 + 1 := ⟨gk - 1, by omega⟩
          have hjI : (j : Int) < (k : Int) := by omega
          by_cases hat : q + j < lx
          · have hatI : (q : Int) + (j : Int) < (lx : Int) := by omega
            have hat0 : (0 : Int) ≤ (q : Int) + (j : Int) := by omega
            obtain ⟨b1, o1, s, hs, rfl, e1⟩ := (hxH.out.below (bseqJ hblH.out (bseqJ hbW.out hbxH.out))).at (i := q + j) (by rw [hlH.out]; exact hat)
            have hs6 := hbH.out s (List.mem_of_getElem? hs)
            obtain ⟨v, hv⟩ : ∃ v, s % (mo + 1) = v := ⟨_, rfl⟩
            have hv1 : v ≤ mo := by have := Nat.mod_lt s (show 0 < mo + 1 by omega); omega
            have m1 : ((s : Int)).tmod ((mo : Int) + 1) = (v : Int) := by rw [← hv]; exact (Int.ofNat_tmod s (mo + 1)).symm
            have m2 : ((s : Int)) % ((mo : Int) + 1) = (v : Int) := by rw [← hv]; exact (Int.natCast_emod s (mo + 1)).symm
            have m3 : ¬ (mo : Int) + 1 = 0 := by omega
            have m4 : ((mo : Int) + 1 == 0) = false := by simp; omega
            clear hs hv
            go_wp2_with (at_builtin; go_loud (refine wpList_append_ze _ rfl (.tmp 50) (.tmp 52) _ rfl Try.underlying24 W.heap.size j (.slice ar j cr) r (by rfl) (hZH.out.below (below_al (Below.refl _ _) _)) hrlH.out (some ⟨wr.heap.size, 0, none⟩) 1 1 [(v : Int)] (by rfl) (IZ.one (by simp)) rfl (by omega) (by omega) (by have := hbxH.out.size; simp; omega) ?_); intro v3 x3 hA3; have hA := Lib.hid hA3; have hbA := Lib.hid (Below.trans (below_al hbxH.out _) hA3.2.1); clear hA3)
            go_roundg g2
            case measure => omega
            case rel => exact ⟨j + 1, _, r ++ [(v : Int)], rfl, by go_num, by omega, by rw [List.length_append, hrlH.out]; rfl, fun x hx => by rcases List.mem_append.1 hx with h | h; exact hrbH.out x h; rw [List.mem_singleton.1 h]; omega, hA.out.1, hbA.out⟩
          · have hatI : ¬ (q : Int) + (j : Int) < (lx : Int) := by omega
            go_wp2_with (at_builtin; go_loud (refine wpList_append_ze _ rfl (.tmp 50) (.tmp 52) _ rfl Try.underlying24 W.heap.size j (.slice ar j cr) r (by rfl) (hZH.out.below (below_al (Below.refl _ _) _)) hrlH.out (some ⟨wr.heap.size, 0, none⟩) 1 1 [0] (by rfl) (IZ.one (by simp)) rfl (by omega) (by omega) (by have := hbxH.out.size; simp; omega) ?_); intro v3 x3 hA3; have hA := Lib.hid hA3; have hbA := Lib.hid (Below.trans (below_al hbxH.out _) hA3.2.1); clear hA3)
            go_roundg g2
            case measure => omega
            case rel => exact ⟨j + 1, _, r ++ [0], rfl, by go_num, by omega, by rw [List.length_append, hrlH.out]; rfl, fun x hx => by rcases List.mem_append.1 hx with h | h; exact hrbH.out x h; rw [List.mem_singleton.1 h]; omega, hA.out.1, hbA.out⟩
        · have hje : k = j := by omega
          subst hje
          have hjI : ¬ (k : Int) < (k : Int) := by omega
          have hZiz := Lib.hid hZH.out.iz
          go_wp2_with (at_builtin; go_loud (refine wpList_append_row _ rfl (.tmp 54) (.tmp 56) _ rfl Try.underlying22 w.heap.size i (.slice ab i cb) C r (by rfl) (hMH.out.below (below_al (bseqJ hbW.out hbxH.out) _)) hClH.out wr.heap.size (by rfl) ar k cr (by omega) (by have := hblH.out.size; have := hbW.out.size; have := hbxH.out.size; simp; omega) (by simp) hrlH.out hZiz.out.2 (hZiz.out.1.below (below_al (Below.refl _ _) _)) ?_); intro v4 w4 hM4 hg4; have hM4H := Lib.hid hM4; have hb4 := Lib.hid ((bseqJ hblH.out (below_al (bseqJ hbW.out hbxH.out) _)).grown hg4 (by have := hblH.out.size; have := hbW.out.size; have := hbxH.out.size; simp; omega) (fun g hg => (hMH.out.lt g hg).1)); clear hM4 hg4)
          go_roundg g1
          case measure => omega
          case rel => exact ⟨i + 1, _, C ++ [r], rfl, by go_num, by omega, by rw [List.length_append, hClH.out]; rfl, fun x hx => by rcases List.mem_append.1 hx with h | h; exact hCH.out x h; rw [List.mem_singleton.1 h]; exact ⟨hrlH.out, hrbH.out⟩, hM4H.out, hb4.out⟩
    · have hie : k = i := by omega
      subst hie
      have hiI : ¬ (k : Int) < (k : Int) := by omega
      go_wp2_with (fail)
      go_ret
      refine ⟨C, ab, cb, k, rfl, hClH.out, ⟨by rw [hClH.out]; exact hk1, by rw [hClH.out]; exact hk8, fun r hr => ⟨by rw [hClH.out]; exact (hCH.out r hr).1, fun x hx => by have := (hCH.out r hr).2 x hx; omega⟩⟩, hks, fun r hr x hx => ((hCH.out r hr).2 x hx).2, hMH.out.imx.1, hMH.out.imx.2, hblH.out⟩
end Go.Proofs.Yteiipfajoikfpaa
