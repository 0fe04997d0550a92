/- Ra -/
import Derived.Test.YtcaeonpjokkjnaaKXf
import Derived.Test.YtcaeonpjokkjnaaKRm
set_option linter.unusedVariables false
/- Walk of the law WearAges. -/
namespace Go.Proofs.Ytcaeonpjokkjnaa
open Go Go.RowKit Go.Proofs

def RetLQ (w : World) (qs : List Rat) (e : Ending) (w' : World) : Prop :=
  ∃ ao c, e = .returned (.tuple #[.slice ao qs.length c, .bool true]) ∧ ZV w' w.heap.size (.slice ao qs.length c) qs ∧ Below w.heap.size w w'
theorem nt_len {q : Rat} (h : Short4 q) : (nt q).size ≤ 4611686018427387904 := by
  have := parse_len (parse_nt h).1
  omega
theorem lqs_any (ao : Option Addr) (c n : Nat) (qs : List Rat) (w : World) (hl : qs.length = n) (h : SL w ao (qs.map nt)) (hn : n ≤ 1000000000) (h4 : ∀ q ∈ qs, Short4 q) :
    Calls Try.prog 22 #[.slice ao n c] w (RetLQ w qs) := by
  have hH := Lib.hid h
  have hlH : Hid ((qs.map nt).length = n) := by show _ = _; rw [List.length_map]; exact hl
  have hok := Lib.hid (texts_ok h4)
  have hs : Hid (∀ s ∈ qs.map nt, s.size ≤ 4611686018427387904) := fun s hs => by
    obtain ⟨q, hq, rfl⟩ := List.mem_map.1 hs
    exact nt_len (h4 q hq)
  have hql := Lib.hid hl
  clear h hl h4
  go_enter Try.func22, Try.ntmps22
  go_wp2_with (first
    | (go_at_call 48; go_loud (with_reducible refine (nums_any 0 ao c n (qs.map nt) _ (Or.inl ⟨hok.out.1, rfl⟩) hlH.out hH.out hn hs.out).mono ?_); rintro e w1 ⟨rfl, hb1⟩; have hb1H := Lib.hid hb1; clear hb1)
    | (go_at_call 49; go_loud (with_reducible refine (qs_any ao c n (qs.map nt) _ hlH.out (hH.out.below hb1H.out) hn hs.out hok.out.1).mono ?_); rintro e w2 ⟨a2, c2, rfl, hV2, hb2⟩; rw [hok.out.2] at hV2; rw [hok.out.2, hql.out]; have hV2H := Lib.hid hV2; have hb2H := Lib.hid (bseq hb1H.out hb2); clear hV2 hb2))
  go_ret2
  have h9 := hV2H.out
  exact ⟨a2, c2, by rw [hql.out]; rfl, h9.base hb1H.out.size, hb2H.out⟩

end Go.Proofs.Ytcaeonpjokkjnaa
