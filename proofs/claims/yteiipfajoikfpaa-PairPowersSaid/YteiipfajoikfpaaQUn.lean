/- Un -/
import Derived.Test.YteiipfajoikfpaaQPj
import Derived.Test.YteiipfajoikfpaaQPc
import Derived.BigQuiet
set_option linter.unusedVariables false
/- Walk of the reference's Pairing. -/
namespace Go.Proofs.Yteiipfajoikfpaa
open Go Go.RowKit Go.Proofs

theorem quiet_sameJ {P : Program} {f : FuncId} {args : Array Value} {w : World} {n : Nat} {v : Value} (h : Calls P f args (w.drewN n) fun e w' => e = .returned v ∧ w.drewN n = w') : Calls P f args (w.drewN n) fun e w'' => e = .returned v ∧ ∃ m, w'' = w.drewN m := h.mono fun _ _ ⟨he, hm⟩ => ⟨he, n, hm.symm⟩
theorem IZ.dn {w : World} {ao : Option Addr} {xs : List Int} (h : IZ w ao xs) (q : Nat) : IZ (w.drewN q) ao xs := h
theorem hasB_take {xs : List Int} {k : Nat} {x : Int} : hasB (xs.take k) x = true ↔ x ∈ xs.take k := by unfold hasB; simp
set_option maxRecDepth 100000 in
set_option maxHeartbeats 6400000 in
theorem pairingR_any (ao : Option Addr) (c m n : Nat) (xs : List Int) (b : Bool) (w : World) (h : IZ w ao xs) (hm : xs.length = m) (hc : m ≤ c) (hmb : m ≤ 9223372036854775807) (hn : n ≤ 1000) (hb : pairB n xs = b) :
    Calls Try.prog 31 #[.slice ao m c, .int .i64 (n : Nat)] w (RetB w b) := by
  have hH := Lib.hid h
  have hmH := Lib.hid hm
  have hbH := Lib.hid hb
  have wn : IntKind.i64.wrap ((n : Int) - 1) = (n : Int) - 1 := by rw [IntKind.wrap_i64]; omega
  clear h hm hb
  go_enter Try.func31, Try.ntmps31
  go_wp2_with (fail)
  go_loopg [5] m (fun gk iv wr => ∃ k : Nat, iv = .int .i64 (k : Nat) ∧ k + gk = m ∧ (∀ x ∈ xs.take k, 0 ≤ x ∧ x < (n : Int)) ∧ (xs.take k).Nodup ∧ Below w.heap.size w wr)
  case atStart => exact ⟨0, rfl, by omega, by simp, by simp, Below.refl _ _⟩
  case round =>
    obtain ⟨k, rfl, hk, hlt, hnd, hbl⟩ := hrel
    have hltH := Lib.hid hlt
    have hndH := Lib.hid hnd
    have hblH := Lib.hid hbl
    by_cases hkm : k < m
    · obtain ⟨g1, rfl⟩ : ∃ g1, gk = g1 + 1 := ⟨gk - 1, by omega⟩
      have hIr := Lib.hid (hH.out.below hbl)
      obtain ⟨b1, o1, rfl, e1⟩ := hIr.out.at (i := k) (by rw [hmH.out]; exact hkm)
      obtain ⟨x, hx⟩ : ∃ x, at0 xs k = x := ⟨_, rfl⟩
      rw [hx] at e1
      have hxH := Lib.hid hx
      have ht := Lib.hid (take_at0 xs (k := k) (by rw [hmH.out]; exact hkm))
      have hbad := Lib.hid (fun h => pairB_bad (n := n) (xs := xs) (k := k) (by rw [hmH.out]; exact hkm) h)
      have hkI : (k : Int) < (m : Int) := by omega
      have hk0 : (0 : Int) ≤ (k : Int) := by omega
      have hkc : (k : Int) ≤ (c : Int) := by omega
      have hkc2 : k ≤ c := by omega
      have hlk : Hid ((xs.take k).length = k) := by show _ = _; rw [List.length_take, hmH.out]; omega
      clear hx hlt hnd hbl
      rcases hi : inB x 0 ((n : Int) - 1)
      · have hiH := Lib.hid hi
        have h2 := inB_false.1 hi
        have hno := Lib.hid (hbad.out (by rw [hxH.out]; omega))
        clear hi h2
        go_upto_region 4 with (fail)
        go_quiet (first
          | (go_at_call 52; exact quiet_sameJ (in_any x 0 ((n : Int) - 1) false _ hiH.out)))
        go_wp2_with (fail)
        go_ret
        exact ⟨ret_boolJ (by rw [← hbH.out, hno.out]), bdn hblH.out⟩
      · have hiH := Lib.hid hi
        have h2 := inB_true.1 hi
        clear hi
        rcases hh : hasB (xs.take k) x
        · have hhH := Lib.hid hh
          clear hh
          go_upto_region 4 with (fail)
          go_quiet (first
            | (go_at_call 52; exact quiet_sameJ (in_any x 0 ((n : Int) - 1) true _ hiH.out))
            | (go_at_call 62; exact quiet_sameJ (has_any (some ⟨b1, o1, none⟩) c k (xs.take k) x false _ ((hIr.out.take k).dn _) hlk.out (by omega) hhH.out)))
          go_wp2_with (fail)
          go_roundg g1
          case measure => omega
          case rel =>
            refine ⟨k + 1, by go_num, by omega, ?_, ?_, bdn hblH.out⟩
            · rw [ht.out, hxH.out]
              intro y hy
              rcases List.mem_append.1 hy with h | h
              · exact hltH.out y h
              · rw [List.mem_singleton.1 h]; omega
            · rw [ht.out, hxH.out]
              refine List.nodup_append.2 ⟨hndH.out, by simp, fun a ha d hd => ?_⟩
              rw [List.mem_singleton.1 hd]
              intro e
              subst e
              have := hasB_take.2 ha
              rw [hhH.out] at this; cases this
        · have hhH := Lib.hid hh
          have hno := Lib.hid (hbad.out (by rw [hxH.out]; exact .inr (.inr (hasB_take.1 hh))))
          clear hh
          go_upto_region 4 with (fail)
          go_quiet (first
            | (go_at_call 52; exact quiet_sameJ (in_any x 0 ((n : Int) - 1) true _ hiH.out))
            | (go_at_call 62; exact quiet_sameJ (has_any (some ⟨b1, o1, none⟩) c k (xs.take k) x true _ ((hIr.out.take k).dn _) hlk.out (by omega) hhH.out)))
          go_wp2_with (fail)
          go_ret
          exact ⟨ret_boolJ (by rw [← hbH.out, hno.out]), bdn hblH.out⟩
    · have hke : m = k := by omega
      subst hke
      have hfull : xs.take m = xs := List.take_of_length_le (by rw [hmH.out]; exact Nat.le_refl _)
      rw [hfull] at hlt hnd
      have hltH := Lib.hid hlt
      have hndH := Lib.hid hnd
      clear hlt hnd hbl hfull
      have hkI : ¬ (m : Int) < (m : Int) := by omega
      by_cases hkn : m = n
      · subst hkn
        go_wp2_with (fail)
        go_ret
        exact ⟨ret_boolJ (by rw [← hbH.out]; unfold pairB; rw [decide_eq_true ⟨hmH.out, hltH.out, hndH.out⟩]; try simp), hblH.out⟩
      · have hknI : ((m : Int) == (n : Int)) = false := by rw [beq_eq_false_iff_ne]; omega
        go_wp2_with (fail)
        go_ret
        exact ⟨ret_boolJ (by rw [← hbH.out]; unfold pairB; rw [decide_eq_false (fun h => hkn (by rw [← hmH.out]; exact h.1))]; try simp [hkn]), hblH.out⟩
end Go.Proofs.Yteiipfajoikfpaa
