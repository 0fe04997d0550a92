/- Ya -/
import Derived.Test.YtbehfhmdilifkaaGreatQWn
import Derived.Test.YtbehfhmdilifkaaGreatQWl
set_option linter.unusedVariables false
/- Walk of the reference's digits. -/
namespace Go.Proofs.YtbehfhmdilifkaaGreat
open Go Go.RowKit Go.Proofs

def DigBad (w : World) (e : Ending) (w' : World) : Prop := e = .returned (.tuple #[.agg #[.bool false, .slice none 0 0], .bool false]) ∧ Below w.heap.size w w'
def DigGood (w : World) (n : Nat) (e : Ending) (w' : World) : Prop :=
  ∃ a c, e = .returned (.tuple #[.agg #[.bool false, .slice a (L B4 n) c], .bool true]) ∧ MagZ w' a c n ∧ Below w.heap.size w w'
def DigPost (w : World) (s : ByteArray) (e : Ending) (w' : World) : Prop := (readOK s ∧ DigGood w (rv s s.size) e w') ∨ (¬ readOK s ∧ DigBad w e w')

/-- Can the text be digits, by its head and its size? -/
def headOK (s : ByteArray) : Prop := 0 < s.size ∧ s.size ≤ 4000 ∧ ∀ h : 0 < s.size, (s[0]'h).toNat = 48 → ¬ 1 < s.size
theorem headOK.of {s : ByteArray} (h : readOK s) : headOK s := ⟨by have := h.2.1; omega, h.2.2.2, fun h0 h1 h2 => h.2.2.1 ⟨⟨h0, h1⟩, h2⟩⟩
theorem readOK.by {s : ByteArray} (h : headOK s) (hd : Digs s s.size) : readOK s := ⟨hd, by have := h.1; omega, fun hh => h.2.2 hh.1.1 hh.1.2 hh.2, h.2.1⟩

set_option maxRecDepth 100000 in
set_option maxHeartbeats 1600000 in
theorem digits_head (s : ByteArray) (w : World) (h : ¬ headOK s) (hsz : s.size ≤ 4611686018427387904) :
    Calls Tryz.prog 67 #[.string s] w (DigBad w) := by
  have hH := Lib.hid h
  go_enter Tryz.func67, Tryz.ntmps67
  by_cases h0 : s.size = 0
  · have h1 : (s.size : Int) < 1 := by omega
    clear h h0
    go_wp2_with (fail)
    refine bodyPost_ret (v := .tuple #[.agg #[.bool false, .slice none 0 0], .bool false]) (by simp [results, Tryz.results67, go_sem]) rfl ?_
    exact ⟨rfl, by go_grown⟩
  · have h1 : ¬ (s.size : Int) < 1 := by omega
    have hpos : 0 < s.size := by omega
    by_cases h2 : 4000 < s.size
    · have h3 : (4000 : Int) < s.size := by omega
      clear h
      go_wp2_with (fail)
      refine bodyPost_ret (v := .tuple #[.agg #[.bool false, .slice none 0 0], .bool false]) (by simp [results, Tryz.results67, go_sem]) rfl ?_
      exact ⟨rfl, by go_grown⟩
    · have h3 : ¬ (4000 : Int) < s.size := by omega
      by_cases h4 : (s[0]'hpos).toNat = 48
      · by_cases h5 : 1 < s.size
        · have h6 : (1 : Int) < s.size := by omega
          clear h
          go_wp2_with (fail)
          refine bodyPost_ret (v := .tuple #[.agg #[.bool false, .slice none 0 0], .bool false]) (by simp [results, Tryz.results67, go_sem]) rfl ?_
          exact ⟨rfl, by go_grown⟩
        · exact absurd ⟨hpos, by omega, fun _ _ => h5⟩ hH.out
      · exact absurd ⟨hpos, by omega, fun _ hh => absurd hh h4⟩ hH.out

/-- What is kept while digits are read, block by block. -/
def DgInv (w wr : World) (s : ByteArray) (k : Nat) (ab : Option Addr) (cb : Nat) : Prop :=
  ∃ os, BlkInv s s.size k os ∧ IV wr (w.heap.size + 1 + 1) (.slice ab k cb) os ∧ Rg (w.heap.size + 1) 2 wr wr ∧ Rg w.heap.size 2 wr wr ∧ Below w.heap.size w wr

set_option maxRecDepth 100000 in
set_option maxHeartbeats 3200000 in
theorem digits_main (s : ByteArray) (w : World) (h : headOK s) :
    Calls Tryz.prog 67 #[.string s] w (DigPost w s) := by
  have hH := Lib.hid h
  have hpos := h.1
  have hle := h.2.1
  have h1 : ¬ (s.size : Int) < 1 := by omega
  have h3 : ¬ (4000 : Int) < s.size := by omega
  obtain ⟨V, hV⟩ : ∃ V, V = (w.alloc (Obj.cells #[.bool false, .slice none 0 0] 34)).alloc (Obj.cells #[.bool false, .slice none 0 0] 34) := ⟨_, rfl⟩
  have e0 : Hid (V.cell? ⟨w.heap.size + 1, 0, none⟩ = some (.bool false)) := by show _ = _; rw [hV]; simp [go_sem]
  have e1 : Hid (V.cell? ⟨w.heap.size + 1, 1, none⟩ = some (.slice none 0 0)) := by show _ = _; rw [hV]; simp [go_sem]
  have hbl' : Below w.heap.size w V := by rw [hV]; go_grown
  have hbl := Lib.hid hbl'
  clear hbl'
  have R1 : Hid (Rg (w.heap.size + 1) 2 V V) := by rw [hV]; exact Rg.new2 _ _ _ (by simp)
  have R0 : Hid (Rg w.heap.size 2 V V) := by rw [hV]; exact Rg.old2 _ _ _ _ _ (by intro _ _ h; cases h) (by intro _ _ h; cases h)
  have hVH := Lib.hid hV
  have hpH := Lib.hid hpos
  have hleH := Lib.hid hle
  have hgd : (((s[0]'hpos).toNat : Int) == 48) = false ∨ ((((s[0]'hpos).toNat : Int) == 48) = true ∧ ¬ (1 : Int) < s.size) := by
    by_cases h4 : (s[0]'hpos).toNat = 48
    · exact Or.inr ⟨by simp; omega, by have := h.2.2 hpos h4; omega⟩
    · exact Or.inl (by simp; omega)
  clear hV h
  go_enter Tryz.func67, Tryz.ntmps67
  rcases hgd with hg | ⟨hg, hg1⟩
  all_goals go_wp2_with (fail)
  all_goals (
    rw [← hVH.out]
    clear h1 h3
    go_loopw [5] (fun v wr => ∃ (k : Nat) (ab : Option Addr) (cb : Nat), v = .int .i64 ((s.size : Int) - 4 * (k : Int)) ∧ k ≤ 1000 ∧ wr.cell? ⟨w.heap.size + 1, 0, none⟩ = some (.bool false) ∧ wr.cell? ⟨w.heap.size + 1, 1, none⟩ = some (.slice ab k cb) ∧ DgInv w wr s k ab cb) (fun v _ => (intOf v).toNat)
    case atStart => exact ⟨0, none, 0, by simp, by omega, e0.out, e1.out, [], BlkInv.start s s.size, World.ownsRow_nil _ _ _ _, R1.out, R0.out, hbl.out⟩
    case round =>
      obtain ⟨k, ab, cb, rfl, hk, f0, f1, os, hD, hV, hR1, hR0, hbl2⟩ := hrel
      have hDH := Lib.hid hD
      have hVH2 := Lib.hid hV
      have hR1H := Lib.hid hR1
      have hR0H := Lib.hid hR0
      have hblH := Lib.hid hbl2
      have hz1 : w.heap.size + 1 < wr.heap.size := World.block_lt_of_cell? wr ⟨w.heap.size + 1, 0, none⟩ f0
      clear hD hV hR1 hR0 hbl2
      by_cases hk4 : 4 * k < s.size
      · obtain ⟨hi, hhi⟩ : ∃ hi, hi = s.size - 4 * k := ⟨_, rfl⟩
        obtain ⟨lo, hlo⟩ : ∃ lo, lo = s.size - 4 * (k + 1) := ⟨_, rfl⟩
        have ehi : ((s.size : Int) - 4 * (k : Int)) = (hi : Int) := by omega
        rw [ehi]
        have hi0 : (0 : Int) < (hi : Int) := by omega
        have hi00 : 0 < hi := by omega
        have hi1 : hi ≤ 4000 := by omega
        have hi2 : hi ≤ s.size := by omega
        have hmx : max 0 ((hi : Int) - 4) = (lo : Int) := by omega
        have hlh : hi ≤ lo + 4 := by omega
        have hlh2 : lo ≤ hi := by omega
        have hlh3 := Lib.hid (show lo < hi by omega)
        have hk4H := Lib.hid hk4
        have hhiH := Lib.hid hhi
        have hloH := Lib.hid hlo
        clear hhi hlo hk4 ehi
        go_wp2_with (fail)
        clear hmx hi0 hi00
        go_loopw [6, 7] (fun d i wi => ∃ j : Nat, d = .int .i64 ((gv s lo j : Nat) : Int) ∧ i = .int .i64 ((lo + j : Nat) : Int) ∧ lo + j ≤ hi ∧ DigR s lo (lo + j) ∧ wi = wr) (fun _ i _ => hi - (intOf i).toNat)
        case atStart => exact ⟨0, by simp [gv], rfl, by omega, fun i h1 h2 h3 => by omega, rfl⟩
        case round =>
          obtain ⟨j, rfl, rfl, hj, hDR, rfl⟩ := hrel
          have hgb : gv s lo j < 10000 := by
            have h1 := gv_lt_r lo j hDR
            have h2 : p10 j ≤ p10 4 := p10_mono (by omega)
            have h3 : p10 4 = 10000 := by decide
            omega
          have hDRH := Lib.hid hDR
          clear hDR
          by_cases hjh : lo + j < hi
          · have hjs : lo + j < s.size := by omega
            have hji : ((lo + j : Nat) : Int) < (hi : Int) := by omega
            have hji2 : ((lo + j : Nat) : Int) < s.size := by omega
            by_cases q1 : 48 ≤ (s[lo + j]'hjs).toNat
            · by_cases q2 : (s[lo + j]'hjs).toNat ≤ 57
              · have hgd : gv s lo (j + 1) = 10 * gv s lo j + ((s[lo + j]'hjs).toNat - 48) := by simp only [gv, dg]; rw [dif_pos hjs]
                have hgdH := Lib.hid hgd
                have hnx := Lib.hid (hDRH.out.next hjs q1 q2)
                clear hgd
                go_wp2_with (fail)
                go_roundw
                case rel => exact ⟨j + 1, by rw [hgdH.out]; go_num, by go_num, by omega, hnx.out, by first | rfl | trivial⟩
                case measure => simp [intOf]; omega
              · have hbad := Lib.hid (show ¬ readOK s from fun hh => q2 (hh.1 _ hjs hjs).2)
                obtain ⟨g1, g2, g3, g5, g4⟩ := hR0H.out
                clear g1
                go_wp2_with (fail)
                refine bodyPost_ret (v := .tuple #[.agg #[.bool false, .slice none 0 0], .bool false]) (by simp [results, Tryz.results67, go_sem, g2]) rfl ?_
                exact Or.inr ⟨hbad.out, rfl, (hblH.out.setCell (Nat.le_refl _) _).setCell (Nat.le_refl _) _⟩
            · have hbad := Lib.hid (show ¬ readOK s from fun hh => q1 (hh.1 _ hjs hjs).1)
              obtain ⟨g1, g2, g3, g5, g4⟩ := hR0H.out
              clear g1
              go_wp2_with (fail)
              refine bodyPost_ret (v := .tuple #[.agg #[.bool false, .slice none 0 0], .bool false]) (by simp [results, Tryz.results67, go_sem, g2]) rfl ?_
              exact Or.inr ⟨hbad.out, rfl, (hblH.out.setCell (Nat.le_refl _) _).setCell (Nat.le_refl _) _⟩
          · have hji : ¬ ((lo + j : Nat) : Int) < (hi : Int) := by omega
            have hst := Lib.hid (show BlkInv s s.size (k + 1) (os ++ [gv s lo j]) by
              have h1 := hDH.out.step (lo := lo) hk4H.out hloH.out (by have h2 := hDRH.out; rw [show lo + j = s.size - 4 * k by have := hhiH.out; omega] at h2; exact h2)
              rw [show s.size - 4 * k - lo = j by have := hhiH.out; omega] at h1
              exact h1)
            have holH := Lib.hid (show os.length = k from hDH.out.1)
            go_wp2_with (first
              | (at_builtin; go_loud (refine wpList_append_int _ rfl (.tmp 62) (.tmp 64) _ rfl Tryz.underlying23 (w.heap.size + 1 + 1) k (.slice ab k cb) os (gv s lo j) ((gv s lo j : Nat) : Int) rfl (hVH2.out.below ((Below.refl _ _).alloc (Nat.le_refl _) _)) holH.out wr.heap.size rfl (by omega) (by simp; omega) (by simp [go_sem]) rfl ?_); intro v' w2 hv2 hg2; have hbG := Lib.hid (((Below.refl (w.heap.size + 1 + 1) wr).alloc (by omega) _).grown hg2 (by simp; omega) (fun g hg => (hVH2.out.lt g hg).1)); have hl : (os ++ [gv s lo j]).length = k + 1 := (by rw [List.length_append, holH.out]; rfl); obtain ⟨ab2, cb2, hvv⟩ := hv2.shape; rw [hl] at hvv; subst hvv; have f0' := cell_b hbG.out (by omega) f0; have f1' := cell_b hbG.out (by omega) f1; have r1 := Lib.hid (Rg.over hR1H.out hbG.out (by omega)).slf; have r0 := Lib.hid (Rg.over hR0H.out hbG.out (by omega)).slf; obtain ⟨_, _, t1, _, _⟩ := r1.out; have hv2H := Lib.hid hv2; have hlH := Lib.hid hl; clear hg2 hl hv2))
            go_roundw
            case rel =>
              refine ⟨k + 1, ab2, cb2, ?_, by have := hk4H.out; omega, by simp [f0', go_sem], by simp [f1', go_sem], os ++ [gv s lo j], hst.out, hv2H.out.set (by omega) _, Rg.slf (Rg.set r1.out _), r0.out.farS (by omega) _, (hblH.out.trans (hbG.out.mono (by omega))).setCell (by show w.heap.size ≤ w.heap.size + 1; omega) _⟩
              have := hhiH.out; have := hk4H.out; exact int_eq (by omega)
            case measure => have := hhiH.out; have := hk4H.out; simp [intOf]; omega
      · have hat : ¬ (0 : Int) < (s.size : Int) - 4 * (k : Int) := by omega
        have hrv := Lib.hid (hDH.out.done hk4)
        have hok := Lib.hid (readOK.by hH.out (by have h2 := hDH.out.2.2.2.1; rw [show s.size - 4 * k = 0 by omega] at h2; exact fun i hi h3 => h2 i hi (Nat.zero_le _) hi))
        have holH := Lib.hid (show os.length = k from hDH.out.1)
        have hdg := Lib.hid (hVH2.out.dg holH.out)
        have hlt := Lib.hid (show Lt B4 os from hDH.out.2.1)
        clear hk4
        go_wp2_with (first
          | (go_at_call 70; go_loud (with_reducible refine (lean_nat ab cb k (rv s s.size) os _ holH.out hdg.out.1 hlt.out hdg.out.2 (by omega) hrv.out).mono ?_); rintro e w4 ⟨a4, c4, rfl, hm4, hb4, hat4⟩; have r0 := Lib.hid (Rg.over hR0H.out (hb4.mono (Nat.le_refl _)) (by omega)).slf; obtain ⟨_, t2, t3, t5, _⟩ := r0.out))
        have m1 := hm4.setN t5 0 (.bool false)
        have n1 := t5.set ⟨w.heap.size, 0, none⟩ (.bool false) (by intro _ _ h; cases h)
        have m2 := m1.setN n1 1 (.slice a4 (L B4 (rv s s.size)) c4)
        refine bodyPost_ret (v := .tuple #[.agg #[.bool false, .slice a4 (L B4 (rv s s.size)) c4], .bool true]) (by simp [results, Tryz.results67, go_sem, t2]) rfl ?_
        exact Or.inl ⟨hok.out, a4, c4, rfl, m2, ((bseqZ hblH.out hb4).setCell (Nat.le_refl _) _).setCell (Nat.le_refl _) _⟩)

theorem digits_any (s : ByteArray) (w : World) (hs : s.size ≤ 4611686018427387904) :
    Calls Tryz.prog 67 #[.string s] w (DigPost w s) := by
  by_cases h : headOK s
  · exact digits_main s w h
  · exact (digits_head s w h hs).mono fun e w' h2 => Or.inr ⟨fun hh => h (headOK.of hh), h2⟩

end Go.Proofs.YtbehfhmdilifkaaGreat
