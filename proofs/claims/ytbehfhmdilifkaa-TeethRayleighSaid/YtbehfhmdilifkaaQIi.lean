/- Ii -/
import Derived.Test.YtbehfhmdilifkaaQIh
set_option linter.unusedVariables false
/- Walk of the law TeethRayleigh. -/
namespace Go.Proofs.Ytbehfhmdilifkaa
open Go Go.RowKit Go.Proofs

theorem quiet_sameT {P : Program} {f : FuncId} {args : Array Value} {w : World} {n : Nat} {v : Value} (h : Calls P f args (w.drewN n) fun e w' => e = .returned v ∧ w.drewN n = w') : Calls P f args (w.drewN n) fun e w'' => e = .returned v ∧ ∃ m, w'' = w.drewN m := h.mono fun _ _ ⟨he, hm⟩ => ⟨he, n, hm.symm⟩
/-- The box of three small numbers. -/
structure B3 (W : World) (g : Nat) (a b c : Nat) : Prop where
  x0 : W.cell? ⟨g, 0, none⟩ = some (.int .u8 (a : Nat))
  x1 : W.cell? ⟨g, 1, none⟩ = some (.int .u8 (b : Nat))
  x2 : W.cell? ⟨g, 2, none⟩ = some (.int .u8 (c : Nat))
theorem B3.new (w : World) (a b c : Nat) : B3 (w.alloc (Obj.cells #[.int .u8 (a : Nat), .int .u8 (b : Nat), .int .u8 (c : Nat)] 65)) w.heap.size a b c :=
  ⟨by rw [al_newT rfl]; rfl, by rw [al_newT rfl]; rfl, by rw [al_newT rfl]; rfl⟩
theorem B3.up {W W' : World} {g a b c : Nat} (k : B3 W g a b c) (hb : Below W.heap.size W W') : B3 W' g a b c :=
  ⟨Below.cellAt hb (Nat.le_refl _) k.x0, Below.cellAt hb (Nat.le_refl _) k.x1, Below.cellAt hb (Nat.le_refl _) k.x2⟩
/-- A word of beats. -/
structure Wd (d : Nat) (S : ByteArray) : Prop where
  at_ : ∀ i (h : i < S.size), (S[i]'h).toNat = if isB d i = true then 98 else 97
  part : ∀ I m J, I + m = J → J ≤ S.size → (S.extract I J).size = m ∧ ∀ k (hk : k < (S.extract I J).size), ((S.extract I J)[k]'hk).toNat = if isB d (I + k) = true then 98 else 97
theorem Wd.is (d n : Nat) : Wd d (btS d n) := by
  refine ⟨fun i h => btS_at d n i h, fun I m J hJ hl => ?_⟩
  have hl' : J ≤ n := by rw [btS_size] at hl; exact hl
  exact ⟨part_size (btS_size d n) hJ hl', fun k hk => part_at hJ hl' k hk⟩
theorem Wd.bs {d : Nat} {S : ByteArray} (h : Wd d S) (W : World) {I m J : Nat} (hJ : I + m = J) (hl : J ≤ S.size) (hS : S.size < 256) :
    Calls Try.prog 42 #[.string (S.extract I J)] W (RetBs W (bsIn d I m)) := by
  obtain ⟨h1, h2⟩ := h.part I m J hJ hl
  refine bs_any (S.extract I J) (bsIn d I) W m h1 (by omega) (bsIn_zero d I) (fun k hk => ?_) (bsIn_le d I)
  have h3 := h2 k hk
  have h4 := bsIn_succ d I k
  by_cases hB : isB d (I + k) = true
  · rw [if_pos hB] at h3 h4
    exact Or.inl ⟨h3, h4⟩
  · rw [if_neg hB] at h3 h4
    exact Or.inr ⟨h3, by rw [h4]; rfl⟩
/-- A letter read: what the count is then. -/
theorem Wd.step {d : Nat} {S : ByteArray} (h : Wd d S) (hd : 0 < d) (hs : ¬ fl d * fl d = d) {i : Nat} (hi : i < S.size) :
    ((S[i]'hi).toNat = 98 ∧ (bst d (i + 1)).1 = (bst d i).1) ∨ ((S[i]'hi).toNat = 97 ∧ (bst d (i + 1)).1 = (bst d i).1 + 1 ∧ av d ((bst d i).1 + 1) = i + 1) := by
  have h1 := h.at_ i hi
  have hn := bst_next d i
  cases hB : isB d i with
  | true => rw [if_pos hB] at h1; exact Or.inl ⟨h1, by rw [hn.1 hB]⟩
  | false =>
    rw [if_neg (by rw [hB]; decide)] at h1
    exact Or.inr ⟨h1, by rw [hn.2 hB], (isB_false hd hs hB).1⟩
section
attribute [local go_sem] undef
set_option maxRecDepth 100000 in
set_option maxHeartbeats 6400000 in
theorem rayLaw_sq (x n a b c Z d : Nat) (w : World) (hx : x < 65536) (hn : n < 256) (hZ : x % 999 = Z) (hd : Z + 2 = d) (hq : sqB d = true) :
    Calls Try.prog 12 #[.int .u16 (x : Nat), .int .u8 (n : Nat), .agg #[.int .u8 (a : Nat), .int .u8 (b : Nat), .int .u8 (c : Nat)]] w (RetB w true) := by
  have tZ : (x : Int).tmod 999 = (Z : Int) := (tm hZ).1
  have tZ2 : (x : Int) % 999 = (Z : Int) := (tm hZ).2
  have lZ : Z < 999 := by rw [← hZ]; exact Nat.mod_lt _ (by omega)
  have hdI : (Z : Int) + 2 = (d : Int) := by omega
  have d2 : 2 ≤ d := by omega
  have d3 : d ≤ 1000 := by omega
  have hr := Lib.hid (fun W => beatsP_sq d n W d2 d3 (by omega) hq)
  have hs := Lib.hid (fun W => square_any d true W (by omega) hq)
  clear hZ hd hq
  go_enter Try.func12, Try.ntmps12
  go_upto_region 1 with (fail)
  obtain ⟨W0, hW0⟩ : ∃ W0, W0 = w.alloc (Obj.cells #[.int .u8 (a : Nat), .int .u8 (b : Nat), .int .u8 (c : Nat)] 65) := ⟨_, rfl⟩
  rw [← hW0]
  have hb0 : Hid (Below w.heap.size w W0) := by show Below _ _ _; rw [hW0]; exact below_al (Below.refl _ _) _
  clear hW0
  go_wp2_with (first
    | (go_at_call 35; (with_reducible refine (hr.out _).mono ?_); rintro e w1 ⟨rfl, hb⟩; have hb1 := Lib.hid hb; clear hb)
    | (go_at_call 29; (with_reducible refine (hs.out _).mono ?_); rintro e w3 ⟨rfl, hb⟩; have hb3 := Lib.hid hb; clear hb)
    | (go_at_call 23; (with_reducible refine (lives_any _).mono ?_); rintro e w2 ⟨rfl, hb⟩; have hb2 := Lib.hid hb; clear hb))
  have e13 := hb3.out
  subst e13
  go_ret
  exact ⟨rfl, bseqT hb0.out (bseqT hb1.out hb2.out)⟩
end
section
attribute [local go_sem] undef
set_option maxRecDepth 100000 in
set_option maxHeartbeats 12800000 in
theorem rayLaw_no (x a b c Z d : Nat) (S : ByteArray) (A sz M M1 I K J Q u v : Nat) (w : World) (hx : x < 65536) (hn : S.size < 256) (ha : a < 256) (hb : b < 256) (hc : c < 256) (hZ : x % 999 = Z) (hd : Z + 2 = d) (hq : sqB d = false)
    (hWd : Wd d S) (hbt : ∀ W, Calls Try.prog 35 #[.int .i64 (d : Nat), .int .i64 (S.size : Nat)] W (BeatsPost S 0 W))
    (hA : S.size ≠ 0 → a % S.size = A) (hsz : A + 1 = sz) (hM : S.size ≠ 0 → sz + M = S.size) (hM1 : M + 1 = M1) (hI : b % M1 = I) (hK : c % M1 = K) (hJ : I + sz = J) (hQ : K + sz = Q) (hu : bsIn d I sz = u) (hv : bsIn d K sz = v) :
    Calls Try.prog 12 #[.int .u16 (x : Nat), .int .u8 (S.size : Nat), .agg #[.int .u8 (a : Nat), .int .u8 (b : Nat), .int .u8 (c : Nat)]] w (RetB w true) := by
  have tZ : (x : Int).tmod 999 = (Z : Int) := (tm hZ).1
  have tZ2 : (x : Int) % 999 = (Z : Int) := (tm hZ).2
  have lZ : Z < 999 := by rw [← hZ]; exact Nat.mod_lt _ (by omega)
  have hdI : (Z : Int) + 2 = (d : Int) := by omega
  have d2 : 2 ≤ d := by omega
  have d3 : d ≤ 1000 := by omega
  have hnq : ¬ fl d * fl d = d := of_decide_eq_false hq
  have hs := Lib.hid (fun W => square_any d false W (by omega) hq)
  have hstep := Lib.hid (fun i hi => hWd.step (i := i) (by omega) hnq hi)
  have hbtH := Lib.hid hbt
  have tI : (b : Int).tmod (M1 : Int) = (I : Int) := (tm hI).1
  have tI2 : (b : Int) % (M1 : Int) = (I : Int) := (tm hI).2
  have tK : (c : Int).tmod (M1 : Int) = (K : Int) := (tm hK).1
  have tK2 : (c : Int) % (M1 : Int) = (K : Int) := (tm hK).2
  have hsI : (A : Int) + 1 = (sz : Int) := by omega
  have hMI : (M : Int) + 1 = (M1 : Int) := by omega
  have hJI : (I : Int) + (sz : Int) = (J : Int) := by omega
  have hQI : (K : Int) + (sz : Int) = (Q : Int) := by omega
  have lI : I < M1 := by rw [← hI]; exact Nat.mod_lt _ (by omega)
  have lK : K < M1 := by rw [← hK]; exact Nat.mod_lt _ (by omega)
  have hpos := Lib.hid (fun h0 : S.size ≠ 0 => (show (a : Int).tmod (S.size : Int) = (A : Int) ∧ (a : Int) % (S.size : Int) = (A : Int) ∧ (S.size : Int) - (sz : Int) = (M : Int) ∧ J ≤ S.size ∧ Q ≤ S.size ∧ A < S.size from
    ⟨(tm (hA h0)).1, (tm (hA h0)).2, by have := hM h0; omega, by have := hM h0; omega, by have := hM h0; omega, by rw [← hA h0]; exact Nat.mod_lt _ (by omega)⟩))
  have hc1 := Lib.hid (fun (h : J ≤ S.size) W => hu ▸ hWd.bs W hJ h hn)
  have hc2 := Lib.hid (fun (h : Q ≤ S.size) W => hv ▸ hWd.bs W hQ h hn)
  have hbal1 := balanced (d := d) (by omega) hnq I K sz
  have hbal2 := balanced (d := d) (by omega) hnq K I sz
  have hul := bsIn_le d I sz
  have hvl := bsIn_le d K sz
  rw [hu, hv] at hbal1
  rw [hu, hv] at hbal2
  rw [hu] at hul
  rw [hv] at hvl
  have g1 : (u : Int) - (v : Int) ≤ 1 := by omega
  have g2 : (v : Int) - (u : Int) ≤ 1 := by omega
  have hbstl := Lib.hid (fun i => show (bst d i).1 ≤ i by have := (bst_inv (d := d) (by omega) hnq i).sum; omega)
  have fM : ¬ (M1 : Int) = 0 := by omega
  have fM2 : ((M1 : Int) == 0) = false := by simp; omega
  have hnE : ((S.size : Int) != (S.size : Int)) = false := by simp
  clear hZ hd hq hnq hWd hbt hI hK hA hsz hM hM1 hJ hQ hu hv hbal1 hbal2
  go_enter Try.func12, Try.ntmps12
  go_upto_region 1 with (fail)
  obtain ⟨W0, hW0⟩ : ∃ W0, W0 = w.alloc (Obj.cells #[.int .u8 (a : Nat), .int .u8 (b : Nat), .int .u8 (c : Nat)] 65) := ⟨_, rfl⟩
  rw [← hW0]
  have hb0 : Hid (Below w.heap.size w W0) := by show Below _ _ _; rw [hW0]; exact below_al (Below.refl _ _) _
  have hC0 : Hid (B3 W0 w.heap.size a b c) := by show B3 _ _ _ _ _; rw [hW0]; exact B3.new w a b c
  clear hW0
  go_upto_region 5 with (first
    | (go_at_call 35; (with_reducible refine (hbtH.out _).mono ?_); rintro e w1 ⟨rfl, hb⟩; have hb1 := Lib.hid hb; clear hb)
    | (go_at_call 29; (with_reducible refine (hs.out _).mono ?_); rintro e w3 ⟨rfl, hb⟩; have hb3 := Lib.hid hb; clear hb))
  have e13 := hb3.out
  subst e13
  go_wp2_with (first
    | (go_at_call 23; (with_reducible refine (lives_any _).mono ?_); rintro e w2 ⟨rfl, hb⟩; have hb2 := Lib.hid hb; clear hb))
  have hbw := Lib.hid (bseqT hb0.out (bseqT hb1.out hb2.out))
  have hC2 := Lib.hid (hC0.out.up (bseqT hb1.out hb2.out))
  clear hb0 hb1 hb2 hb3 hC0
  go_loopg [10, 11] S.size (fun gk av iv wr => ∃ i : Nat, av = .int .i64 ((bst d i).1 : Nat) ∧ iv = .int .i64 (i : Nat) ∧ i + gk = S.size ∧ Below w2.heap.size w2 wr)
  case atStart => exact ⟨0, rfl, rfl, by omega, Below.refl _ _⟩
  case round =>
    obtain ⟨i, rfl, rfl, hig, hbl⟩ := hrel
    have hblH := Lib.hid hbl
    clear hbl
    obtain ⟨F, hF⟩ : ∃ F, (bst d i).1 = F := ⟨_, rfl⟩
    have hFl : F ≤ i := by rw [← hF]; exact hbstl.out i
    rw [hF]
    have hFH := Lib.hid hF
    clear hF
    by_cases hin : i < S.size
    · have hinI : (i : Int) < (S.size : Int) := by omega
      have hi0 : (0 : Int) ≤ (i : Int) := by omega
      rcases hstep.out i hin with ⟨hb, h2⟩ | ⟨hb, h2, h3⟩
      · rw [hFH.out] at h2
        have h2H := Lib.hid h2
        clear h2
        go_wp2_with (fail)
        go_roundg (gk - 1)
        case measure => omega
        case rel => exact ⟨i + 1, by rw [h2H.out], by go_num, by omega, hblH.out⟩
      · rw [hFH.out] at h2 h3
        have h2H := Lib.hid h2
        obtain ⟨G, hG⟩ : ∃ G, F + 1 = G := ⟨_, rfl⟩
        have hGI : (F : Int) + 1 = (G : Int) := by omega
        rw [hG] at h3
        unfold av at h3
        obtain ⟨R, hR⟩ : ∃ R, G * G = R := ⟨_, rfl⟩
        obtain ⟨P, hP⟩ : ∃ P, R * d = P := ⟨_, rfl⟩
        have hRI := mulN hR
        have hPI := mulN hP
        rw [hR, hP] at h3
        have hGl : G ≤ 256 := by omega
        have hRl : R ≤ 65536 := by rw [← hR]; exact Nat.mul_le_mul hGl hGl
        have hPl : P ≤ 65536000 := by rw [← hP]; exact Nat.mul_le_mul hRl d3
        obtain ⟨f, hf⟩ : ∃ f, fl P = f := ⟨_, rfl⟩
        have hfs := Lib.hid (hf ▸ fl_sq P : Sq f P)
        rw [hf] at h3
        have h3I : (G : Int) + (f : Int) = (i : Int) + 1 := by omega
        have hGH := Lib.hid hG
        have e3 : (((i : Int) + 1) != ((i : Int) + 1)) = false := by simp
        clear h2 h3 hR hP hf hG hFH
        go_wp2_with (first
          | (go_at_call 41; (with_reducible refine (floor_any P f _ (by omega) hfs.out).mono ?_); rintro e w4 ⟨rfl, rfl⟩))
        go_roundg (gk - 1)
        case measure => omega
        case rel => exact ⟨i + 1, by rw [h2H.out, hGH.out], by go_num, by omega, hblH.out⟩
    · have hinI : ¬ (i : Int) < (S.size : Int) := by omega
      by_cases h0 : S.size = 0
      · go_wp2_with (fail)
        go_ret
        exact ⟨rfl, bseqT hbw.out hblH.out⟩
      · obtain ⟨tA, tA2, hSM, hJS, hQS, hAS⟩ := hpos.out h0
        have f1 : ¬ (S.size : Int) = 0 := by omega
        have f2 : ((S.size : Int) == 0) = false := beq_eq_false_iff_ne.2 f1
        have f3 : (S.size == 0) = false := beq_eq_false_iff_ne.2 h0
        have q1 := Lib.hid (fun W => (show Calls Try.prog 42 #[.string (S.extract I J)] W (fun e w' => e = .returned (.int .i64 (u : Nat)) ∧ W = w') from hc1.out hJS W))
        have q2 := Lib.hid (fun W => (show Calls Try.prog 42 #[.string (S.extract K Q)] W (fun e w' => e = .returned (.int .i64 (v : Nat)) ∧ W = w') from hc2.out hQS W))
        have hJSI : (J : Int) ≤ (S.size : Int) := by omega
        have hQSI : (Q : Int) ≤ (S.size : Int) := by omega
        have hIJ : (I : Int) ≤ (J : Int) := by omega
        have hKQ : (K : Int) ≤ (Q : Int) := by omega
        have hI0 : (0 : Int) ≤ (I : Int) := by omega
        have hIJN : I ≤ J := by omega
        have hKQN : K ≤ Q := by omega
        have hJ0 : (0 : Int) ≤ (J : Int) := by omega
        have hK0 : (0 : Int) ≤ (K : Int) := by omega
        have hQ0 : (0 : Int) ≤ (Q : Int) := by omega
        obtain ⟨x0, x1, x2⟩ := hC2.out.up hblH.out
        clear hc1 hc2 hpos hstep hbtH
        go_upto_region 21 with (fail)
        go_quiet (fail)
        obtain ⟨V, hV⟩ : ∃ V, V = wr.drewN nq := ⟨_, rfl⟩
        rw [← hV]
        have hbV : Hid (Below w2.heap.size w2 V) := by show Below _ _ _; rw [hV]; exact bdn hblH.out
        clear hV hblH x0 x1 x2 tA tA2 tI tI2 tK tK2
        go_upto_region 22 with (fail)
        go_quiet (first
          | (go_at_call 42; with_reducible exact quiet_sameT (q1.out _))
          | (go_at_call 42; with_reducible exact quiet_sameT (q2.out _)))
        go_wp2_with (fail)
        go_ret
        exact ⟨rfl, bseqT hbw.out (bdn hbV.out)⟩
end
theorem rayLaw_any (x n a b c : Nat) (w : World) (hx : x < 65536) (hn : n < 256) (ha : a < 256) (hb : b < 256) (hc : c < 256) :
    Calls Try.prog 12 #[.int .u16 (x : Nat), .int .u8 (n : Nat), .agg #[.int .u8 (a : Nat), .int .u8 (b : Nat), .int .u8 (c : Nat)]] w (RetB w true) := by
  have lZ : x % 999 < 999 := Nat.mod_lt _ (by omega)
  cases hq : sqB (x % 999 + 2) with
  | true => exact rayLaw_sq x n a b c _ _ w hx hn rfl rfl hq
  | false =>
    have hsz := btS_size (x % 999 + 2) n
    have h := rayLaw_no x a b c (x % 999) (x % 999 + 2) (btS (x % 999 + 2) n) (a % n) _ (n - (a % n + 1)) _ _ _ _ _ _ _ w hx (by omega) ha hb hc rfl rfl hq (Wd.is _ _) (fun W => by rw [hsz]; exact beatsP_good _ n W (by omega) (by omega) (by omega) hq)
      (fun _ => by rw [hsz]) rfl (fun h0 => by rw [hsz] at h0 ⊢; have := Nat.mod_lt a (show 0 < n by omega); omega) rfl rfl rfl rfl rfl rfl rfl
    rw [hsz] at h
    exact h
end Go.Proofs.Ytbehfhmdilifkaa
