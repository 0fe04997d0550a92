/- Rm -/
import Derived.Test.YtcaeonpjokkjnaaKXc
import Derived.Test.YtcaeonpjokkjnaaKXd
import Derived.Test.YtcaeonpjokkjnaaKXg
set_option linter.unusedVariables false
/- Walk of the law WearMeans. -/
namespace Go.Proofs.Ytcaeonpjokkjnaa
open Go Go.RowKit Go.Proofs

theorem read_k (k : Int) (ao : Option Addr) (c l : Nat) (ss : List ByteArray) (w : World) (hk0 : k = 1 ∨ k = 2) (hk : livesE ss k) (hl : ss.length = l) (h : SL w ao ss) (hn : l ≤ 1000) (hs : ∀ s ∈ ss, s.size ≤ 40) :
    Calls Try.prog 28 #[.slice ao l c] w (RetErr w k) := by
  subst hl
  rcases hk with ⟨h1, rfl⟩ | ⟨h1, h2, rfl⟩ | ⟨h1, h2, rfl⟩
  · exact read_2 ao c ss w h (by omega) hs h1
  · exact read_1 ao c ss w h (by omega) hs h1 h2
  · omega
theorem mean_bad_l (k : Int) (hk : (k != 0) = true) (ao : Option Addr) (c l : Nat) (ss : List ByteArray) (w : World) (hl : ss.length = l) (h : Calls Try.prog 28 #[.slice ao l c] w (RetErr w k)) :
    Calls Try.prog 9 #[.slice ao l c] w (RetMeanErr w k) := by subst hl; exact mean_bad k hk ao c ss w h

end Go.Proofs.Ytcaeonpjokkjnaa
