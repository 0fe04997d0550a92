/- It -/
import Derived.Test.YtbehfhmdilifkaaGreatQIs
import Derived.Test.YtbehfhmdilifkaaGreatQHf
set_option linter.unusedVariables false
/- Walk of Train. -/
namespace Go.Proofs.YtbehfhmdilifkaaGreat
open Go Go.RowKit Go.Proofs

def trOk (o u k : Int) (m : Nat) (xs : List Int) : Bool := inL 1000000 [o, u] && decide (m ≤ 10) && inL 1000 xs && inL 3 [k]
theorem inLitE (most : Int) (l : List Int) (n : Nat) (b : Bool) (W : World) (hn : l.length = n) (hs : n ≤ 1000) (hb : inL most l = b) :
    Calls Tryz.prog 39 #[.int .i64 most, .slice (some ⟨W.heap.size, 0, none⟩) n n] (W.alloc (Obj.cells (l.map fun x => Value.int .i64 x).toArray 3)) (fun e w' => e = .returned (.bool b) ∧ Below W.heap.size W w') :=
  (inP_any _ n n most l b _ (izlit W l) hn (by omega) hb).mono fun e w' ⟨he, hb⟩ => ⟨he, bseqT (below_al (Below.refl _ _) _) hb⟩
section
attribute [local go_sem] undef
set_option maxHeartbeats 3200000 in
theorem trainP_bad (o u k : Int) (aw : Option Addr) (m cw : Nat) (xs : List Int) (w : World) (h : IZ w aw xs) (hm : xs.length = m) (hm2 : m ≤ 1000000) (hb : trOk o u k m xs = false) :
    Calls Tryz.prog 17 #[.int .i64 o, .int .i64 u, .slice aw m cw, .int .i64 k] w (fun e w' => e = .returned (.tuple #[.slice none 0 0, .int .i64 1]) ∧ Below w.heap.size w w') := by
  obtain ⟨b1, hb1⟩ : ∃ b, inL 1000000 [o, u] = b := ⟨_, rfl⟩
  obtain ⟨b3, hb3⟩ : ∃ b, inL 1000 xs = b := ⟨_, rfl⟩
  obtain ⟨b4, hb4⟩ : ∃ b, inL 3 [k] = b := ⟨_, rfl⟩
  have h1 : Hid (∀ W, Calls Tryz.prog 39 #[.int .i64 1000000, .slice (some ⟨W.heap.size, 0, none⟩) 2 2] (W.alloc (Obj.cells #[.int .i64 o, .int .i64 u] 3)) (fun e w' => e = .returned (.bool b1) ∧ Below W.heap.size W w')) := fun W => inLitE 1000000 [o, u] 2 b1 W rfl (by omega) hb1
  have h3 : Hid (∀ W, Below w.heap.size w W → Calls Tryz.prog 39 #[.int .i64 1000, .slice aw m cw] W (fun e w' => e = .returned (.bool b3) ∧ Below W.heap.size W w')) := fun W hW => inP_any aw m cw 1000 xs b3 W (h.below hW) hm hm2 hb3
  have h4 : Hid (∀ W, Calls Tryz.prog 39 #[.int .i64 3, .slice (some ⟨W.heap.size, 0, none⟩) 1 1] (W.alloc (Obj.cells #[.int .i64 k] 3)) (fun e w' => e = .returned (.bool b4) ∧ Below W.heap.size W w')) := fun W => inLitE 3 [k] 1 b4 W rfl (by omega) hb4
  have hcs : b1 = false ∨ (b1 = true ∧ 10 < m) ∨ (b1 = true ∧ ¬ 10 < m ∧ b3 = false) ∨ (b1 = true ∧ ¬ 10 < m ∧ b3 = true ∧ b4 = false) := by
    unfold trOk at hb
    rw [hb1, hb3, hb4] at hb
    cases b1
    · exact .inl rfl
    · by_cases h9 : 10 < m
      · exact .inr (.inl ⟨rfl, h9⟩)
      · cases b3
        · exact .inr (.inr (.inl ⟨rfl, h9, rfl⟩))
        · cases b4
          · exact .inr (.inr (.inr ⟨rfl, h9, rfl, rfl⟩))
          · simp at hb; omega
  obtain ⟨V, hV⟩ : ∃ V, V = (w.alloc (Obj.cells #[.slice aw m cw] 23)).alloc (Obj.cells #[.int .i64 k] 3) := ⟨_, rfl⟩
  have hbV : Below w.heap.size w V := by rw [hV]; exact below_al (below_al (Below.refl _ _) _) _
  have hup : Hid (∀ W, Below V.heap.size V W → W.cell? ⟨w.heap.size, 0, none⟩ = some (.slice aw m cw) ∧ W.cell? ⟨w.heap.size + 1, 0, none⟩ = some (.int .i64 k)) := fun W hW =>
    ⟨Below.cellAt hW (Nat.le_refl _) (by rw [hV]; exact Below.cellAt (below_al (Below.refl _ _) _) (Nat.le_refl _) (by rw [al_newT rfl]; rfl)), Below.cellAt hW (Nat.le_refl _) (by rw [hV, al_newT (by simp)]; rfl)⟩
  have hbVH := Lib.hid hbV
  clear hb hb1 hb3 hb4 h hm hbV
  rcases hcs with rfl | ⟨rfl, h9⟩ | ⟨rfl, h9, rfl⟩ | ⟨rfl, h9, rfl, rfl⟩
  all_goals (
    go_enter Tryz.func17, Tryz.ntmps17
    go_upto_region 1 with (fail)
    rw [← hV]
    clear hV
    (try have h9I : ¬ (10 : Int) < (m : Int) := (by omega))
    (try have h9J : (10 : Int) < (m : Int) := (by omega))
    go_wp2_with (first
      | (go_at_call 39; (with_reducible refine (h1.out _).mono ?_); rintro e w1 ⟨rfl, hb⟩; have hq1 := Lib.hid hb; obtain ⟨c1, c2⟩ := hup.out _ hb; clear hb)
      | (go_at_call 39; (with_reducible refine (h3.out _ (bseqT hbVH.out hq1.out)).mono ?_); rintro e w2 ⟨rfl, hb⟩; have hq2 := Lib.hid (bseqT hq1.out hb); obtain ⟨d1, d2⟩ := hup.out _ hq2.out; clear hb)
      | (go_at_call 39; (with_reducible refine (h4.out _).mono ?_); rintro e w3 ⟨rfl, hb⟩; have hq3 := Lib.hid (bseqT hq2.out hb); clear hb))
    go_ret2
    exact ⟨rfl, by first | exact bseqT hbVH.out hq3.out | exact bseqT hbVH.out hq2.out | exact bseqT hbVH.out hq1.out⟩)
end
theorem bseqT' {bb bc : Nat} {w w1 w2 : World} (h : Below w.heap.size w w1) (hf : Fr bb bc w1 w2) (h1 : w.heap.size ≤ bb) (h2 : w.heap.size ≤ bc) : Below w.heap.size w w2 := h.trans (hf.below h1 h2 h.size)
def resT (s : Bt) : Tr :=
  match s with
  | none => []
  | some (t, _, _) => t
def TrPost (s : Bt) (w : World) (e : Ending) (w' : World) : Prop := ∃ (a : Option Addr) (c : Nat), e = .returned (.tuple #[.slice a (resT s).length c, .int .i64 0]) ∧ IMx w' a (rowsT (resT s)) ∧ (resT s).length ≤ c ∧ Below w.heap.size w w'
theorem trOk_parts {o u k : Int} {m : Nat} {xs : List Int} (h : trOk o u k m xs = true) : inL 1000000 [o, u] = true ∧ m ≤ 10 ∧ inL 1000 xs = true ∧ inL 3 [k] = true := by
  unfold trOk at h
  simp only [Bool.and_eq_true, decide_eq_true_eq] at h
  exact ⟨h.1.1.1, h.1.1.2, h.1.2, h.2⟩
theorem trOk_nat {o u k : Int} {m : Nat} {xs : List Int} (h : trOk o u k m xs = true) : 1 ≤ o ∧ o ≤ 1000000 ∧ 1 ≤ u ∧ u ≤ 1000000 ∧ 1 ≤ k ∧ k ≤ 3 ∧ m ≤ 10 ∧ ∀ x ∈ xs, 1 ≤ x ∧ x ≤ 1000 := by
  obtain ⟨h1, h2, h3, h4⟩ := trOk_parts h
  have a1 := inL_iff.1 h1 o (by simp)
  have a2 := inL_iff.1 h1 u (by simp)
  have a4 := inL_iff.1 h4 k (by simp)
  exact ⟨a1.1, a1.2, a2.1, a2.2, a4.1, a4.2, h2, inL_iff.1 h3⟩
section
attribute [local go_sem] undef
set_option maxHeartbeats 3200000 in
theorem trainP_none (o u L : Nat) (aw : Option Addr) (m cw : Nat) (xs : List Int) (w : World) (h : IZ w aw xs) (hm : xs.length = m) (hok : trOk o u L m xs = true) (hlt : m < 2 * L) :
    Calls Tryz.prog 17 #[.int .i64 (o : Nat), .int .i64 (u : Nat), .slice aw m cw, .int .i64 (L : Nat)] w (fun e w' => e = .returned (.tuple #[.slice none 0 0, .int .i64 5]) ∧ Below w.heap.size w w') := by
  obtain ⟨hb1, hm10, hb3, hb4⟩ := trOk_parts hok
  have hnat := trOk_nat hok
  have h1 : Hid (∀ W, Calls Tryz.prog 39 #[.int .i64 1000000, .slice (some ⟨W.heap.size, 0, none⟩) 2 2] (W.alloc (Obj.cells #[.int .i64 (o : Nat), .int .i64 (u : Nat)] 3)) (fun e w' => e = .returned (.bool true) ∧ Below W.heap.size W w')) := fun W => inLitE 1000000 [(o : Int), (u : Int)] 2 true W rfl (by omega) hb1
  have h3 : Hid (∀ W, Below w.heap.size w W → Calls Tryz.prog 39 #[.int .i64 1000, .slice aw m cw] W (fun e w' => e = .returned (.bool true) ∧ Below W.heap.size W w')) := fun W hW => inP_any aw m cw 1000 xs true W (h.below hW) hm (by omega) hb3
  have h4 : Hid (∀ W, Calls Tryz.prog 39 #[.int .i64 3, .slice (some ⟨W.heap.size, 0, none⟩) 1 1] (W.alloc (Obj.cells #[.int .i64 (L : Nat)] 3)) (fun e w' => e = .returned (.bool true) ∧ Below W.heap.size W w')) := fun W => inLitE 3 [(L : Int)] 1 true W rfl (by omega) hb4
  obtain ⟨V, hV⟩ : ∃ V, V = (w.alloc (Obj.cells #[.slice aw m cw] 23)).alloc (Obj.cells #[.int .i64 (L : Nat)] 3) := ⟨_, rfl⟩
  have hbV : Below w.heap.size w V := by rw [hV]; exact below_al (below_al (Below.refl _ _) _) _
  have hup : Hid (∀ W, Below V.heap.size V W → W.cell? ⟨w.heap.size, 0, none⟩ = some (.slice aw m cw) ∧ W.cell? ⟨w.heap.size + 1, 0, none⟩ = some (.int .i64 (L : Nat))) := fun W hW =>
    ⟨Below.cellAt hW (Nat.le_refl _) (by rw [hV]; exact Below.cellAt (below_al (Below.refl _ _) _) (Nat.le_refl _) (by rw [al_newT rfl]; rfl)), Below.cellAt hW (Nat.le_refl _) (by rw [hV, al_newT (by simp)]; rfl)⟩
  have hbVH := Lib.hid hbV
  obtain ⟨L2, hL2⟩ : ∃ L2, 2 * L = L2 := ⟨_, rfl⟩
  have hL2I : (2 : Int) * (L : Int) = (L2 : Int) := by omega
  have hmI : (m : Int) < (L2 : Int) := by omega
  have hL3 : L ≤ 3 := by omega
  have h9I : ¬ (10 : Int) < (m : Int) := by omega
  clear hok hb1 hb3 hb4 h hm hbV hnat hlt hL2
  go_enter Tryz.func17, Tryz.ntmps17
  go_upto_region 1 with (fail)
  rw [← hV]
  clear hV
  go_wp2_with (first
    | (go_at_call 39; (with_reducible refine (h1.out _).mono ?_); rintro e w1 ⟨rfl, hb⟩; have hq1 := Lib.hid hb; obtain ⟨c1, c2⟩ := hup.out _ hb; clear hb)
    | (go_at_call 39; (with_reducible refine (h3.out _ (bseqT hbVH.out hq1.out)).mono ?_); rintro e w2 ⟨rfl, hb⟩; have hq2 := Lib.hid (bseqT hq1.out hb); obtain ⟨d1, d2⟩ := hup.out _ hq2.out; clear hb)
    | (go_at_call 39; (with_reducible refine (h4.out _).mono ?_); rintro e w3 ⟨rfl, hb⟩; have hq3 := Lib.hid (bseqT hq2.out hb); obtain ⟨d3, d4⟩ := hup.out _ hq3.out; clear hb))
  go_ret2
  exact ⟨rfl, bseqT hbVH.out hq3.out⟩
end
set_option maxRecDepth 100000 in
set_option maxHeartbeats 12800000 in
theorem trainP_good (o u L : Nat) (aw : Option Addr) (m cw : Nat) (ws : List Nat) (w : World) (h : IZ w aw (nzT ws)) (hm : ws.length = m) (hok : trOk o u L m (nzT ws) = true) (hge : 2 * L ≤ m) (R : Bt) (hR : tryT o u m (wf ws) L [] 1 1 none = R) :
    Calls Tryz.prog 17 #[.int .i64 (o : Nat), .int .i64 (u : Nat), .slice aw m cw, .int .i64 (L : Nat)] w (TrPost R w) := by
  have hmf : ∀ (fn : Fn) (first cap : Array Value) (w : World), (Instr.makeFunc fn first cap).run Tryz.prog w = .ok (.func fn first cap) w := fun _ _ _ _ => rfl
  have eg : ∀ args w, (callFunc 42 args).run Tryz.prog w = .ok (.enter 42 args) w := enters_of Tryz.func42 (by kernel_rfl) rfl
  have hzl : (nzT ws).length = m := by rw [nzT_length]; exact hm
  obtain ⟨hb1, hm10, hb3, hb4⟩ := trOk_parts hok
  obtain ⟨ho1, ho2, hu1, hu2, hk1, hk2, _, hwr⟩ := trOk_nat hok
  have hwr2 : ∀ x ∈ ws, 1 ≤ x ∧ x ≤ 1000 := fun x hx => by
    have := hwr (x : Int) (by unfold nzT; exact List.mem_map_of_mem hx)
    omega
  have h1 : Hid (∀ W, Calls Tryz.prog 39 #[.int .i64 1000000, .slice (some ⟨W.heap.size, 0, none⟩) 2 2] (W.alloc (Obj.cells #[.int .i64 (o : Nat), .int .i64 (u : Nat)] 3)) (fun e w' => e = .returned (.bool true) ∧ Below W.heap.size W w')) := fun W => inLitE 1000000 [(o : Int), (u : Int)] 2 true W rfl (by omega) hb1
  have h3 : Hid (∀ W, Below w.heap.size w W → Calls Tryz.prog 39 #[.int .i64 1000, .slice aw m cw] W (fun e w' => e = .returned (.bool true) ∧ Below W.heap.size W w')) := fun W hW => inP_any aw m cw 1000 (nzT ws) true W (h.below hW) hzl (by omega) hb3
  have h4 : Hid (∀ W, Calls Tryz.prog 39 #[.int .i64 3, .slice (some ⟨W.heap.size, 0, none⟩) 1 1] (W.alloc (Obj.cells #[.int .i64 (L : Nat)] 3)) (fun e w' => e = .returned (.bool true) ∧ Below W.heap.size W w')) := fun W => inLitE 3 [(L : Int)] 1 true W rfl (by omega) hb4
  obtain ⟨V, hV⟩ : ∃ V, V = (w.alloc (Obj.cells #[.slice aw m cw] 23)).alloc (Obj.cells #[.int .i64 (L : Nat)] 3) := ⟨_, rfl⟩
  have hbV : Below w.heap.size w V := by rw [hV]; exact below_al (below_al (Below.refl _ _) _) _
  have hVs : V.heap.size = w.heap.size + 2 := by rw [hV]; simp
  have hup : Hid (∀ W, Below V.heap.size V W → W.cell? ⟨w.heap.size, 0, none⟩ = some (.slice aw m cw) ∧ W.cell? ⟨w.heap.size + 1, 0, none⟩ = some (.int .i64 (L : Nat))) := fun W hW =>
    ⟨Below.cellAt hW (Nat.le_refl _) (by rw [hV]; exact Below.cellAt (below_al (Below.refl _ _) _) (Nat.le_refl _) (by rw [al_newT rfl]; rfl)), Below.cellAt hW (Nat.le_refl _) (by rw [hV, al_newT (by simp)]; rfl)⟩
  have hbVH := Lib.hid hbV
  have hVsH := Lib.hid hVs
  obtain ⟨L2, hL2⟩ : ∃ L2, 2 * L = L2 := ⟨_, rfl⟩
  have hL2I : (2 : Int) * (L : Int) = (L2 : Int) := by omega
  have hmI : ¬ (m : Int) < (L2 : Int) := by omega
  have hL3 : L ≤ 3 := by omega
  have h9I : ¬ (10 : Int) < (m : Int) := by omega
  obtain ⟨P, hP⟩ : ∃ P, ((o : Nat) : Rat) = P := ⟨_, rfl⟩
  obtain ⟨G, hG⟩ : ∃ G, ((u : Nat) : Rat) = G := ⟨_, rfl⟩
  obtain ⟨Q, hQ⟩ : ∃ Q, P / G = Q := ⟨_, rfl⟩
  have szP := Lib.hid (show Sz P by rw [← hP]; exact natR_sz (by omega))
  have szG := Lib.hid (show Sz G by rw [← hG]; exact natR_sz (by omega))
  have hrG := Lib.hid (show 0 < rn G by rw [← hG]; exact natR_rn (by omega))
  have hwp := Lib.hid (fun W => wholeE o P W (by omega) hP)
  have hwg := Lib.hid (fun W => wholeE u G W (by omega) hG)
  have hQH := Lib.hid hQ
  have hQQ : Hid (((o : Nat) : Rat) / ((u : Nat) : Rat) = Q) := by show _ = _; rw [← hQ, ← hP, ← hG]
  have hmH := Lib.hid hm
  have hH := Lib.hid h
  have hRH := Lib.hid hR
  have hwrH := Lib.hid hwr2
  clear hok hb1 hb3 hb4 h hm hbV hge hL2 hVs hzl hwr hwr2 hP hG hQ hR
  go_enter Tryz.func17, Tryz.ntmps17
  go_upto_region 1 with (fail)
  rw [← hV]
  clear hV
  go_upto_region 10 with (first
    | (go_at_call 39; (with_reducible refine (h1.out _).mono ?_); rintro e w1 ⟨rfl, hb⟩; have hq1 := Lib.hid hb; obtain ⟨c1, c2⟩ := hup.out _ hb; clear hb)
    | (go_at_call 39; (with_reducible refine (h3.out _ (bseqT hbVH.out hq1.out)).mono ?_); rintro e w2 ⟨rfl, hb⟩; have hq2 := Lib.hid (bseqT hq1.out hb); obtain ⟨d1, d2⟩ := hup.out _ hq2.out; clear hb)
    | (go_at_call 39; (with_reducible refine (h4.out _).mono ?_); rintro e w3 ⟨rfl, hb⟩; have hq3 := Lib.hid (bseqT hq2.out hb); obtain ⟨d3, d4⟩ := hup.out _ hq3.out; clear hb)
    | (go_at_call 40; (with_reducible refine (hwp.out _).mono ?_); rintro e w4 ⟨a4, c4, e4, f4, rfl, hm4, hb⟩; have hm4H := Lib.hid hm4; have hq4 := Lib.hid (bseqT hq3.out hb); clear hb hm4)
    | (go_at_call 40; (with_reducible refine (hwg.out _).mono ?_); rintro e w5 ⟨a5, c5, e5, f5, rfl, hm5, hb⟩; have hm5H := Lib.hid hm5; have hm45 := Lib.hid (hm4H.out.up hb); have hq5 := Lib.hid (bseqT hq4.out hb); clear hb hm5)
    | (go_at_call 41; (with_reducible refine (rdivE a4 c4 e4 f4 a5 c5 e5 f5 P G Q _ hm45.out hm5H.out szP.out szG.out hrG.out hQH.out).mono ?_); rintro e w6 ⟨a6, c6, e6, f6, rfl, hm6, hb⟩; have hm6H := Lib.hid hm6; have hq6 := Lib.hid (bseqT hq5.out hb); clear hb hm6))
  obtain ⟨N, hNe⟩ : ∃ N, w.heap.size = N := ⟨_, rfl⟩
  obtain ⟨M, hMe⟩ : ∃ M, w6.heap.size = M := ⟨_, rfl⟩
  obtain ⟨U1, hU1⟩ : ∃ V, V = w6.alloc (Obj.cells #[.bool (ng (rn Q)), .slice a6 (LI (rn Q)) c6, .bool (ng (rd Q)), .slice e6 (LI (rd Q)) f6] 67) := ⟨_, rfl⟩
  obtain ⟨U2, hU2⟩ : ∃ V, V = U1.alloc (Obj.cells #[.slice none 0 0] 44) := ⟨_, rfl⟩
  obtain ⟨U3, hU3⟩ : ∃ V, V = U2.alloc (Obj.cells #[.bool false, .slice none 0 0, .bool false, .slice none 0 0] 67) := ⟨_, rfl⟩
  rw [hNe, hMe]
  obtain ⟨U, hU⟩ : ∃ V, V = U3.alloc (Obj.cells #[.func (.func 42) #[] #[ptr (N + 1), ptr M, ptr (M + 1), ptr (M + 1 + 1), ptr N, ptr (M + 1 + 1 + 1)]] 78) := ⟨_, rfl⟩
  have s1 : U1.heap.size = M + 1 := by rw [hU1, ← hMe]; simp
  have s2 : U2.heap.size = M + 1 + 1 := by rw [hU2]; simp [s1]
  have s3 : U3.heap.size = M + 1 + 1 + 1 := by rw [hU3]; simp [s2]
  have q1 : Below w6.heap.size w6 U1 := by rw [hU1]; exact below_al (Below.refl _ _) _
  have q2 : Below U1.heap.size U1 U2 := by rw [hU2]; exact below_al (Below.refl _ _) _
  have q3 : Below U2.heap.size U2 U3 := by rw [hU3]; exact below_al (Below.refl _ _) _
  have q4 : Below U3.heap.size U3 U := by rw [hU]; exact below_al (Below.refl _ _) _
  have r1 : RB U1 M Q a6 c6 e6 f6 := by rw [hU1, ← hMe]; exact RB.new hm6H.out
  have r2 : Blk U2 (M + 1) 44 [.slice none 0 0] := by rw [hU2, ← s1]; exact World.alloc_heap_new U1 _
  have r3 : Blk U3 (M + 1 + 1) 67 [.bool false, .slice none 0 0, .bool false, .slice none 0 0] := by rw [hU3, ← s2]; exact World.alloc_heap_new U2 _
  have r4 : U.cell? ⟨M + 1 + 1 + 1, 0, none⟩ = some (.func (.func 42) #[] #[ptr (N + 1), ptr M, ptr (M + 1), ptr (M + 1 + 1), ptr N, ptr (M + 1 + 1 + 1)]) := by rw [hU, al_newT s3.symm]; rfl
  have rT := ((r1.up q2).up q3).up q4
  have hb1' : Blk U (M + 1) 44 [.slice none 0 0] := (r2.later q3).later q4
  have hb2' : Blk U (M + 1 + 1) 67 [.bool false, .slice none 0 0, .bool false, .slice none 0 0] := r3.later q4
  have hq6U : Below V.heap.size V U := bseqT hq6.out (bseqT q1 (bseqT q2 (bseqT q3 q4)))
  obtain ⟨g1, g2⟩ := hup.out _ hq6U
  rw [hNe] at g1 g2
  have hVN : V.heap.size = N + 2 := by rw [hVsH.out, hNe]
  have hNM : N + 2 ≤ M := by rw [← hVN, ← hMe]; exact hq6.out.size
  have hbU := Lib.hid (bseqT hbVH.out hq6U)
  have hTR : Hid (TRd U m L ws Q aw cw a6 c6 e6 f6 (N + 1) M (M + 1) (M + 1 + 1) N (M + 1 + 1 + 1)) :=
    ⟨g2, g1, r4, by rw [rT.blk.cell]; rfl, by rw [rT.blk.cell]; rfl, by rw [rT.blk.cell]; rfl, by rw [rT.blk.cell]; rfl, rT.rm, hH.out.below hbU.out⟩
  have hNR : Hid (NRd (N + 1) M (M + 1) (M + 1 + 1) N (M + 1 + 1 + 1)) := by
    show NRd _ _ _ _ _ _
    constructor <;> omega
  have hBO : Hid (BOK o u none U (M + 1) (M + 1 + 1)) := ⟨hb1', hb2'⟩
  have hg : Calls Tryz.prog 42 #[.slice none ([] : Tr).length 0, .int .i64 ((0 : Nat) : Int), .int .i64 ((1 : Nat) : Int), .int .i64 ((1 : Nat) : Int), ptr (N + 1), ptr M, ptr (M + 1), ptr (M + 1 + 1), ptr N, ptr (M + 1 + 1 + 1)] U (GrowT o u (tryT o u m (wf ws) L [] 1 1 none) (M + 1) (M + 1 + 1) U) :=
    growT_any o u m L ws Q aw cw a6 c6 e6 f6 (N + 1) M (M + 1) (M + 1 + 1) N (M + 1 + 1 + 1) hNR.out (by omega) (by omega) (by omega) hQQ.out (by omega) (by omega) hmH.out hm10 hwrH.out L [] 0 1 1 0 none 0 none U rfl (by omega) hTR.out ⟨[], fun i v h => by simp at h, rfl, fun i v xs h => by simp at h⟩ (fun a h => by cases h) (fun _ => ⟨rfl, rfl⟩) (Bits.zero m) (by simp) Pw.one Pw.one (fun t p q h => by cases h) hBO.out
  rw [hRH.out] at hg
  have hgH : Hid (Calls Tryz.prog 42 #[.slice none 0 0, .int .i64 0, .int .i64 1, .int .i64 1, ptr (N + 1), ptr M, ptr (M + 1), ptr (M + 1 + 1), ptr N, ptr (M + 1 + 1 + 1)] U (GrowT o u R (M + 1) (M + 1 + 1) U)) := hg
  rw [← hU1, ← hU2, ← hU3, ← hU]
  have hlU : M + 1 + 1 < U.heap.size := hb2'.lt
  have hwN : w.heap.size = N := hNe
  have hwNH := Lib.hid hwN
  have hsz : N ≤ U.heap.size := by omega
  clear hU hU1 hU2 hU3 s1 s2 s3 q1 q2 q3 q4 r1 r2 r3 rT hb1' hb2' hq6U g1 g2 hVN hg hTR hNR hBO hMe hNe hwN hq6 hm6H hm45 hm5H hm4H hq1 hq2 hq3 hq4 hq5 h1 h3 h4 hwp hwg hup c1 c2 d1 d2 d3 d4
  go_upto_region 11 with (go_at_call 42; (with_reducible refine hgH.out.mono ?_); rintro e w9 ⟨rfl, hF, hB⟩; have hFH := Lib.hid hF; have hBH := Lib.hid hB; clear hF hB)
  have hbw9 : Below w.heap.size w w9 := bseqT' hbU.out hFH.out (by rw [hwNH.out]; omega) (by rw [hwNH.out]; omega)
  have hbwH := Lib.hid hbw9
  clear hbw9
  rcases R with _ | ⟨t, p, q⟩
  · have k0 : w9.cell? ⟨M + 1, 0, none⟩ = some (.slice none 0 0) := by rw [hBH.out.1.cell]; rfl
    go_wp2_with (fail)
    go_ret2
    exact ⟨none, 0, rfl, ⟨[], fun i v h => by simp at h, rfl, fun i v xs h => by simp [rowsT, resT] at h⟩, Nat.le_refl _, hbwH.out⟩
  · obtain ⟨g, c, b1, d1, b2, d2, hb, hc, hI, _, _, _⟩ := hBH.out
    have k0 : w9.cell? ⟨M + 1, 0, none⟩ = some (.slice (some ⟨g, 0, none⟩) t.length c) := by rw [hb.cell]; rfl
    have hIH := Lib.hid hI
    clear hb hI
    go_wp2_with (fail)
    go_ret2
    exact ⟨some ⟨g, 0, none⟩, c, rfl, hIH.out, hc, hbwH.out⟩
end Go.Proofs.YtbehfhmdilifkaaGreat
