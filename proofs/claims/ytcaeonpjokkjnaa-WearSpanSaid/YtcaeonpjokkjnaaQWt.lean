/- Np Half Lives -/
import Derived.Test.YtcaeonpjokkjnaaQWn
import Derived.Test.YtcaeonpjokkjnaaQWo
import Derived.Test.YtcaeonpjokkjnaaQWr
import Derived.Test.YtcaeonpjokkjnaaQWs
set_option linter.unusedVariables false
/- The text of a valid text's number is that text. Plain. -/
namespace Go.Proofs.Ytcaeonpjokkjnaa
open Go

theorem app_list (s t : ByteArray) : (s ++ t).data.toList = s.data.toList ++ t.data.toList := by
  rw [ByteArray.data_append, Array.toList_append]
theorem emp_app (s : ByteArray) : (⟨#[]⟩ : ByteArray) ++ s = s := by
  apply ba_ext; rw [app_list]; rfl
theorem app_emp (s : ByteArray) : s ++ (⟨#[]⟩ : ByteArray) = s := by
  apply ba_ext; rw [app_list]; exact List.append_nil _
theorem whole_text (s : ByteArray) : s = (if minus s then ⟨#[45]⟩ else ⟨#[]⟩) ++ bare s ++ (if stroke s then ⟨#[47]⟩ ++ under s else ⟨#[]⟩) := by
  obtain ⟨p, hp⟩ := fs_ex0 (tail s)
  obtain ⟨q1, q2, q3, q4⟩ := parts hp
  have hsz : ∀ t : ByteArray, t.data.toList.length = t.size := fun t => by rw [Array.length_toList]; rfl
  have h1 : s = (if minus s then ⟨#[45]⟩ else ⟨#[]⟩) ++ tail s := by
    apply ba_ext
    rw [app_list, q1]
    unfold tail
    by_cases hm : mns s = true
    · rw [if_pos hm, if_pos hm, sub_list]
      have := of_decide_eq_true hm
      cases hl : s.data.toList with
      | nil => rw [hl] at this; cases this
      | cons a l =>
        rw [hl] at this
        simp at this
        subst this
        rfl
    · rw [if_neg hm, if_neg hm]; rfl
  have h2 : tail s = bare s ++ (if stroke s then ⟨#[47]⟩ ++ under s else ⟨#[]⟩) := by
    apply ba_ext
    rw [app_list, q2, ext_list, q3]
    by_cases hst : p < (tail s).size
    · rw [if_pos (decide_eq_true hst), app_list, q4 hst, ext_list, List.take_of_length_le (l := (tail s).data.toList) (i := (tail s).size) (by rw [hsz]; exact Nat.le_refl _)]
      have hc := hp.2.2.2 hst
      have hlt : p < (tail s).data.toList.length := by rw [hsz]; exact hst
      have hg : (tail s).data.toList[p]'hlt = 47 := by
        rw [List.getElem?_eq_getElem hlt] at hc
        injection hc
      have h3 : (tail s).data.toList.drop p = 47 :: (tail s).data.toList.drop (p + 1) := by
        rw [List.drop_eq_getElem_cons hlt, hg]
      show _ = List.drop 0 (List.take p _) ++ ([47] ++ List.drop (p + 1) _)
      rw [List.drop_zero, List.singleton_append, ← h3, List.take_append_drop]
    · have : p = (tail s).size := by have := hp.2.1; omega
      rw [if_neg (by simpa using hst), List.drop_zero, List.take_of_length_le (by rw [hsz]; omega)]
      show _ = _ ++ []
      rw [List.append_nil]
  rw [ByteArray.append_assoc, ← h2]
  exact h1

/-- A valid text is its number's text. -/
theorem nt_parse {s : ByteArray} (h : parseOK s) : nt (parseQ s) = s := by
  have hw := whole_text s
  have e1 : sdec (rn (parseQ s)) = bare s := by
    rw [parse_rn h]
    unfold sdec
    rw [natAbs_pz]
    unfold pn
    exact dec_rv h.1
  have hng : ng (rn (parseQ s)) = minus s := by
    rw [parse_rn h]
    unfold pz
    by_cases hm : minus s = true
    · have hn : pn s ≠ 0 := fun e => h.2.2 ⟨hm, e⟩
      rw [hm]
      unfold sgn ng
      simp
      omega
    · have : minus s = false := by simpa using hm
      rw [this]
      unfold sgn ng
      simp
  unfold nt
  rw [e1, hng]
  by_cases hs : stroke s = true
  · have e2 : sdec (rd (parseQ s)) = under s := by
      rw [parse_rd h]
      unfold sdec pden
      rw [if_pos hs, Int.natAbs_natCast]
      unfold pd
      exact dec_rv (h.2.1 hs).1
    have hi : isInt (parseQ s) = false := by
      unfold isInt
      rw [parse_rd h]
      unfold pden
      rw [if_pos hs]
      have := (h.2.1 hs).2.1
      exact decide_eq_false (by omega)
    rw [hi, e2]
    rw [hs] at hw
    conv => rhs; rw [hw]
    by_cases hm : minus s = true
    · rw [hm]; simp [ByteArray.append_assoc]
    · have : minus s = false := by simpa using hm
      rw [this]; simp [ByteArray.append_assoc, emp_app]
  · have hs2 : stroke s = false := by simpa using hs
    have hi : isInt (parseQ s) = true := by
      unfold isInt
      rw [parse_rd h]
      unfold pden
      rw [hs2]
      rfl
    rw [hi]
    rw [hs2] at hw
    conv => rhs; rw [hw]
    by_cases hm : minus s = true
    · rw [hm]; simp [app_emp]
    · have : minus s = false := by simpa using hm
      rw [this]; simp [emp_app, app_emp]

end Go.Proofs.Ytcaeonpjokkjnaa

/- The numbers of the document's example. Plain. -/
namespace Go.Proofs.Ytcaeonpjokkjnaa
open Go

theorem read1 (d : UInt8) (h1 : 48 ≤ d.toNat) (h2 : d.toNat ≤ 57) : readOK ⟨#[d]⟩ := by
  refine ⟨fun i hi _ => ?_, (show (1 : Nat) ≠ 0 by decide), fun h => absurd h.2 (show ¬ (1 : Nat) < 1 by decide), (show (1 : Nat) ≤ 4000 by decide)⟩
  have : i = 0 := by
    have : i < 1 := hi
    omega
  subst this
  exact ⟨h1, h2⟩
theorem rv1 (a : UInt8) : rv ⟨#[a]⟩ (⟨#[a]⟩ : ByteArray).size = a.toNat - 48 := by
  show 10 * 0 + dg ⟨#[a]⟩ 0 = _
  unfold dg
  rw [dif_pos (show 0 < (⟨#[a]⟩ : ByteArray).size from (by decide : 0 < 1))]
  show 10 * 0 + (a.toNat - 48) = _
  omega
theorem ok_frac (a b : UInt8) (ha1 : 48 ≤ a.toNat) (ha2 : a.toNat ≤ 57) (hb1 : 50 ≤ b.toNat) (hb2 : b.toNat ≤ 57) (s : ByteArray) (hb : bare s = ⟨#[a]⟩) (hu : under s = ⟨#[b]⟩) (hm : minus s = false) (hg : Nat.gcd (a.toNat - 48) (b.toNat - 48) = 1) : parseOK s := by
  have e1 : pn s = a.toNat - 48 := by unfold pn; rw [hb]; exact rv1 a
  have e2 : pd s = b.toNat - 48 := by unfold pd; rw [hu]; exact rv1 b
  refine ⟨by rw [hb]; exact read1 a ha1 ha2, fun _ => ⟨by rw [hu]; exact read1 b (by omega) hb2, by omega, by rw [e1, e2]; exact hg⟩, fun h => ?_⟩
  rw [hm] at h
  exact absurd h.1 (by decide)
theorem ok_int (a : UInt8) (ha1 : 48 ≤ a.toNat) (ha2 : a.toNat ≤ 57) (s : ByteArray) (hb : bare s = ⟨#[a]⟩) (hs : stroke s = false) (hm : minus s = false) : parseOK s := by
  refine ⟨by rw [hb]; exact read1 a ha1 ha2, fun h => ?_, fun h => ?_⟩
  · rw [hs] at h; cases h
  · rw [hm] at h; exact absurd h.1 (by decide)

def hf : ByteArray := ⟨#[49, 47, 50]⟩
theorem hf_ok : parseOK hf := ok_frac 49 50 (by decide) (by decide) (by decide) (by decide) hf rfl rfl rfl rfl
theorem t1_ok : parseOK ⟨#[49]⟩ := ok_int 49 (by decide) (by decide) _ rfl rfl rfl
theorem t4_ok : parseOK ⟨#[52]⟩ := ok_int 52 (by decide) (by decide) _ rfl rfl rfl
theorem t34_ok : parseOK ⟨#[51, 47, 52]⟩ := ok_frac 51 52 (by decide) (by decide) (by decide) (by decide) _ rfl rfl rfl rfl
theorem t58_ok : parseOK ⟨#[53, 47, 56]⟩ := ok_frac 53 56 (by decide) (by decide) (by decide) (by decide) _ rfl rfl rfl rfl
theorem t32_ok : parseOK ⟨#[51, 47, 50]⟩ := ok_frac 51 50 (by decide) (by decide) (by decide) (by decide) _ rfl rfl rfl rfl
theorem t52_ok : parseOK ⟨#[53, 47, 50]⟩ := ok_frac 53 50 (by decide) (by decide) (by decide) (by decide) _ rfl rfl rfl rfl
theorem hf_q : parseQ hf = 1 / 2 := by
  have h1 : pz hf = 1 := rfl
  have h2 : pden hf = 2 := rfl
  unfold parseQ
  rw [h1, h2]
  have h3 : Rat.divInt 1 2 = (1 / 2 : Rat) := by kernel_rfl
  exact h3

theorem t1_q : parseQ ⟨#[49]⟩ = 1 := by
  have h1 : pz ⟨#[49]⟩ = 1 := rfl
  have h2 : pden ⟨#[49]⟩ = 1 := rfl
  unfold parseQ
  rw [h1, h2]
  have h3 : Rat.divInt 1 1 = (1 : Rat) := by kernel_rfl
  exact h3
theorem t4_q : parseQ ⟨#[52]⟩ = 4 := by
  have h1 : pz ⟨#[52]⟩ = 4 := rfl
  have h2 : pden ⟨#[52]⟩ = 1 := rfl
  unfold parseQ
  rw [h1, h2]
  have h3 : Rat.divInt 4 1 = (4 : Rat) := by kernel_rfl
  exact h3
theorem t34_q : parseQ ⟨#[51, 47, 52]⟩ = 3 / 4 := by
  have h1 : pz ⟨#[51, 47, 52]⟩ = 3 := rfl
  have h2 : pden ⟨#[51, 47, 52]⟩ = 4 := rfl
  unfold parseQ
  rw [h1, h2]
  have h3 : Rat.divInt 3 4 = (3 / 4 : Rat) := by kernel_rfl
  exact h3
theorem t58_q : parseQ ⟨#[53, 47, 56]⟩ = 5 / 8 := by
  have h1 : pz ⟨#[53, 47, 56]⟩ = 5 := rfl
  have h2 : pden ⟨#[53, 47, 56]⟩ = 8 := rfl
  unfold parseQ
  rw [h1, h2]
  have h3 : Rat.divInt 5 8 = (5 / 8 : Rat) := by kernel_rfl
  exact h3
theorem t32_q : parseQ ⟨#[51, 47, 50]⟩ = 3 / 2 := by
  have h1 : pz ⟨#[51, 47, 50]⟩ = 3 := rfl
  have h2 : pden ⟨#[51, 47, 50]⟩ = 2 := rfl
  unfold parseQ
  rw [h1, h2]
  have h3 : Rat.divInt 3 2 = (3 / 2 : Rat) := by kernel_rfl
  exact h3
theorem t52_q : parseQ ⟨#[53, 47, 50]⟩ = 5 / 2 := by
  have h1 : pz ⟨#[53, 47, 50]⟩ = 5 := rfl
  have h2 : pden ⟨#[53, 47, 50]⟩ = 2 := rfl
  unfold parseQ
  rw [h1, h2]
  have h3 : Rat.divInt 5 2 = (5 / 2 : Rat) := by kernel_rfl
  exact h3

/-- The example's lives. -/
def H2 : List Rat := [1 / 2, 1 / 2]
theorem H2_map : [hf, hf].map parseQ = H2 := by show [parseQ hf, parseQ hf] = _; rw [hf_q]; rfl
theorem hf_all : allOK [hf, hf] := fun s hs => by
  simp at hs
  subst hs
  exact hf_ok
theorem H2_good : livesGood ([hf, hf].map parseQ) := by
  have hfit : ∀ q ∈ [hf, hf].map parseQ, 0 ≤ sg (rn q) ∧ fits q 6 = true := fun q hq => by
    obtain ⟨s, h1, rfl⟩ := List.mem_map.1 hq
    simp at h1
    subst h1
    refine ⟨by rw [hf_q, show sg (rn (1 / 2)) = 1 by kernel_rfl]; decide, ?_⟩
    rw [← short_fits hf_ok (by omega)]
    rfl
  refine ⟨by decide, by decide, ?_, ?_, hfit⟩
  · rw [H2_map, show sg (rn (lastQ H2)) = 1 by kernel_rfl]; decide
  · rw [H2_map]; kernel_rfl
theorem H2_u : uL H2 3 = [1, 1 / 2, 3 / 4, 5 / 8] := by kernel_rfl
theorem H2_nt : (uL H2 3).map nt = [⟨#[49]⟩, hf, ⟨#[51, 47, 52]⟩, ⟨#[53, 47, 56]⟩] := by
  rw [H2_u]
  show [nt 1, nt (1 / 2), nt (3 / 4), nt (5 / 8)] = _
  rw [show nt 1 = ⟨#[49]⟩ by rw [← t1_q, nt_parse t1_ok], show nt (1 / 2) = hf by rw [← hf_q, nt_parse hf_ok], show nt (3 / 4) = ⟨#[51, 47, 52]⟩ by rw [← t34_q, nt_parse t34_ok], show nt (5 / 8) = ⟨#[53, 47, 56]⟩ by rw [← t58_q, nt_parse t58_ok]]
theorem H2_mean : meanQ H2 = 3 / 2 := by kernel_rfl
theorem H2_meant : nt (meanQ H2) = ⟨#[51, 47, 50]⟩ := by rw [H2_mean, ← t32_q, nt_parse t32_ok]
theorem H2_span : spanK H2 2 = 1 := by kernel_rfl
theorem H2_rate : rateL H2 1 4 = [5 / 2, 8 / 3] := by kernel_rfl
theorem H2_best : bestK [5 / 2, 8 / 3] 2 = 0 := by kernel_rfl
theorem H2_bestt : nt (nth [5 / 2, 8 / 3] 0) = ⟨#[53, 47, 50]⟩ := by
  show nt (5 / 2) = _
  rw [← t52_q, nt_parse t52_ok]

end Go.Proofs.Ytcaeonpjokkjnaa

/- Walk of the laws' lives: the document's example. -/
namespace Go.Proofs.Ytcaeonpjokkjnaa
open Go Go.RowKit Go.Proofs

theorem hf_small : ∀ s ∈ [hf, hf], s.size ≤ 40 := fun s hs => by
  simp at hs
  subst hs
  decide
theorem H2_lv : Lv H2 := by
  have := Lv.of H2_good
  rw [H2_map] at this
  exact this
theorem read_half (ao : Option Addr) (c : Nat) (w : World) (h : SL w ao [hf, hf]) :
    Calls Try.prog 28 #[.slice ao 2 c] w (RetLives w H2) := by
  have := read_0 ao c [hf, hf] w h hf_small hf_all H2_good
  rw [H2_map] at this
  exact this
theorem renew_half (ao : Option Addr) (c : Nat) (w : World) (h : SL w ao [hf, hf]) :
    Calls Try.prog 10 #[.slice ao 2 c, .int .i64 3] w (RetNums w [⟨#[49]⟩, hf, ⟨#[51, 47, 52]⟩, ⟨#[53, 47, 56]⟩]) := by
  have := renew_good 3 (by omega) ao c [hf, hf] H2 w (read_half ao c w h) (by decide) (H2_lv.renew (by omega))
  rw [H2_nt] at this
  exact this
theorem mean_half (ao : Option Addr) (c : Nat) (w : World) (h : SL w ao [hf, hf]) :
    Calls Try.prog 9 #[.slice ao 2 c] w (RetMean w ⟨#[51, 47, 50]⟩ 1) := by
  have := mean_good ao c [hf, hf] H2 w (read_half ao c w h) (by decide) H2_lv.mean
  rw [H2_meant, show spanK H2 H2.length = 1 from H2_span] at this
  exact this
theorem cost_1 : costOK 1 := ⟨by rw [show sg (rn 1) = 1 by kernel_rfl]; decide, by rw [← t1_q, ← short_fits t1_ok (by omega)]; rfl⟩
theorem cost_4 : costOK 4 := ⟨by rw [show sg (rn 4) = 1 by kernel_rfl]; decide, by rw [← t4_q, ← short_fits t4_ok (by omega)]; rfl⟩
theorem rates_half (ao : Option Addr) (c : Nat) (w : World) (h : SL w ao [hf, hf]) :
    Calls Try.prog 46 #[.slice ao 2 c, .string ⟨#[49]⟩, .string ⟨#[52]⟩] w (RetLives w [5 / 2, 8 / 3]) := by
  have := rates_good ao c [hf, hf] ⟨#[49]⟩ ⟨#[52]⟩ H2 w (read_half ao c w h) (by decide) t1_ok t4_ok (by decide) (by decide) (by rw [t1_q]; exact cost_1.1) (by rw [t4_q]; exact cost_4.1) (by rw [t1_q]; exact cost_1.2) (by rw [t4_q]; exact cost_4.2)
    (by rw [t1_q, t4_q]; exact H2_lv.rates (Cs.of cost_1) (Cs.of cost_4))
  rw [t1_q, t4_q, H2_rate] at this
  exact this
theorem replace_half (ao : Option Addr) (c : Nat) (w : World) (h : SL w ao [hf, hf]) :
    Calls Try.prog 21 #[.slice ao 2 c, .string ⟨#[49]⟩, .string ⟨#[52]⟩] w (RetBest w 1 ⟨#[53, 47, 50]⟩) := by
  have hr : ∀ r ∈ ([5 / 2, 8 / 3] : List Rat), Sz r ∧ numRes r = (nt r, 0) := by
    have := H2_lv.rateL (Cs.of cost_1) (Cs.of cost_4)
    rw [H2_rate] at this
    exact this
  have := replace_good [5 / 2, 8 / 3] ao c 2 ⟨#[49]⟩ ⟨#[52]⟩ w (rates_half ao c w h) (by decide) (by decide) hr
  rw [show ([5 / 2, 8 / 3] : List Rat).length = 2 from rfl, H2_best, H2_bestt] at this
  exact this

theorem sl_four (w : World) (a b c d : ByteArray) (T : TypeId) : SL (w.alloc (Obj.cells #[.string a, .string b, .string c, .string d] T)) (some ⟨w.heap.size, 0, none⟩) [a, b, c, d] := fun i s hs => by
  rcases i with _ | _ | _ | _ | i
  · simp at hs; subst hs; exact ⟨w.heap.size, 0, rfl, by simp [go_sem]⟩
  · simp at hs; subst hs; exact ⟨w.heap.size, 0, rfl, by simp [go_sem]⟩
  · simp at hs; subst hs; exact ⟨w.heap.size, 0, rfl, by simp [go_sem]⟩
  · simp at hs; subst hs; exact ⟨w.heap.size, 0, rfl, by simp [go_sem]⟩
  · simp at hs
theorem samerow_4 (ao bo : Option Addr) (c d : Nat) (xs : List ByteArray) (w : World) (hn : xs.length = 4) (hA : SL w ao xs) (hB : SL w bo xs) :
    Calls Try.prog 40 #[.slice ao 4 c, .slice bo 4 d] w (RetBool w true) := by
  have := samerow_any ao bo c d 4 4 xs xs w hn hn hA hB (by omega) (by omega)
  simpa using this

set_option maxRecDepth 100000 in
set_option maxHeartbeats 1600000 in
theorem lives_any (w : World) : Calls Try.prog 16 #[] w (RetBool w true) := by
  have h2 := Lib.hid (sl_two w hf hf 25)
  unfold hf at h2
  go_enter Try.func16, Try.ntmps16
  go_wp2_with (first
    | (go_at_call 10; go_loud (with_reducible refine (renew_half (some ⟨w.heap.size, 0, none⟩) 2 _ h2.out).mono ?_); rintro e w1 ⟨a1, c1, rfl, hV1, hb1⟩; have hb1H := Lib.hid hb1; have hA1 := Lib.hid (show SL w1 a1 [⟨#[49]⟩, ⟨#[49, 47, 50]⟩, ⟨#[51, 47, 52]⟩, ⟨#[53, 47, 56]⟩] from SV.sl hV1); clear hV1 hb1)
    | (go_at_call 9; go_loud (with_reducible refine (mean_half (some ⟨w.heap.size, 0, none⟩) 2 _ (h2.out.below hb1H.out)).mono ?_); rintro e w2 ⟨rfl, hb2⟩; have hb2H := Lib.hid hb2; clear hb2)
    | (go_at_call 21; go_loud (with_reducible refine (replace_half (some ⟨w.heap.size, 0, none⟩) 2 _ ((h2.out.below hb1H.out).below hb2H.out)).mono ?_); rintro e w3 ⟨rfl, hb3⟩; have hb3H := Lib.hid hb3; clear hb3)
    | (go_at_call 40; go_loud (with_reducible refine (samerow_4 a1 (some ⟨w3.heap.size, 0, none⟩) c1 4 [⟨#[49]⟩, ⟨#[49, 47, 50]⟩, ⟨#[51, 47, 52]⟩, ⟨#[53, 47, 56]⟩] _ rfl (((hA1.out.below hb2H.out).below hb3H.out).below ((Below.refl _ _).alloc (Nat.le_refl _) _)) (sl_four w3 ⟨#[49]⟩ ⟨#[49, 47, 50]⟩ ⟨#[51, 47, 52]⟩ ⟨#[53, 47, 56]⟩ _)).mono ?_); rintro e w4 ⟨rfl, hb4⟩))
  go_ret
  exact ⟨rfl, bseq (bseq (bseq (bvia (Below.refl _ _) hb1H.out) hb2H.out) hb3H.out |>.alloc (bseq (bseq (bvia (Below.refl _ _) hb1H.out) hb2H.out) hb3H.out).size _) hb4⟩

end Go.Proofs.Ytcaeonpjokkjnaa
