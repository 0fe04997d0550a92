/- Un -/
import Derived.Test.YtkecdjdggkpdpaaQPj
import Derived.Test.YtkecdjdggkpdpaaQPc
import Derived.BigQuiet
set_option linter.unusedVariables false
/- Walk of the reference's Pairing. -/
namespace Go.Proofs.Ytkecdjdggkpdpaa
open Go Go.RowKit Go.Proofs

theorem quiet_sameJ {P : Program} {f : FuncId} {args : Array Value} {w : World} {n : Nat} {v : Value} (h : Calls P f args (w.drewN n) fun e w' => e = .returned v ∧ w.drewN n = w') : Calls P f args (w.drewN n) fun e w'' => e = .returned v ∧ ∃ m, w'' = w.drewN m := h.mono fun _ _ ⟨he, hm⟩ => ⟨he, n, hm.symm⟩
theorem IZ.dn {w : World} {ao : Option Addr} {xs : List Int} (h : IZ w ao xs) (q : Nat) : IZ (w.drewN q) ao xs := h
theorem hasB_take {xs : List Int} {k : Nat} {x : Int} : hasB (xs.take k) x = true ↔ x ∈ xs.take k := by unfold hasB; simp
end Go.Proofs.Ytkecdjdggkpdpaa
