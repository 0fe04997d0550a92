/- Xd -/
import Derived.Test.YteiipfajoikfpaaQXc
set_option linter.unusedVariables false
/- Walk of search's recursion. -/
namespace Go.Proofs.Yteiipfajoikfpaa
open Go Go.RowKit Go.Proofs

theorem allU_sub (n m : Nat) (f : List Nat) {a b : Nat} (h : a ≤ b) : (allU n m f a).Sublist (allU n m f b) := by
  obtain ⟨d, rfl⟩ : ∃ d, b = a + d := ⟨b - a, by omega⟩
  clear h
  induction d with
  | zero => exact List.Sublist.refl _
  | succ d ih =>
    refine ih.trans ?_
    by_cases h : a + d ∈ f
    · rw [show a + (d + 1) = a + d + 1 by omega, allU_skip n m f _ h]; exact List.Sublist.refl _
    · rw [show a + (d + 1) = a + d + 1 by omega, allU_take n m f _ h]; exact List.sublist_append_left _ _
set_option maxRecDepth 100000 in
set_option maxHeartbeats 25600000 in
theorem growS_any (ao : Option Addr) (c n bn bs bb bk bc bg bf : Nat) (C : List (List Int)) (w : World) (hM : IMx w ao C) (hg : goodC C) (hn : C.length = n) (hN : SN bn bs bb bk bc bg bf) (hb1 : w.heap.size ≤ bb) (hb2 : w.heap.size ≤ bc) :
    ∀ (m u i : Nat) (f : List Nat) (av : Option Addr) (cv : Nat) (L : List (List Nat)) (W : World), f.length = i → Below w.heap.size w W → SR W ao n c bn bs bb bk bc bg bf → IZ W av (nz f) → i ≤ cv → i + m = n → Bits n u f → f.Nodup → (∀ x ∈ f, x < n) → BS C n L W bb bc → (L ++ allP n m f).Pairwise (· < ·) →
      Calls Try.prog 91 #[.slice av i cv, .int .i64 (u : Nat), ptr bn, ptr bs, ptr bb, ptr bk, ptr bc, ptr bg] W (GrowS C n (L ++ allP n m f) bb bc W) := by
  have hn8 : n ≤ 8 := by rw [← hn]; exact hg.2.1
  have hn1 : 0 < n := by rw [← hn]; exact hg.1
  have hMH := Lib.hid hM
  have hgH := Lib.hid hg
  have hnH := Lib.hid hn
  have hNH := Lib.hid hN
  have e2 := eg_smooth2
  have e3 := eg_search1
  have nl0 := eql_nil0
  have nl1 := eql_nil1
  clear hM hg hn hN
  intro m
  induction m with
  | zero =>
    intro u i f av cv L W hlf hb hS hZ hcv hl hB hnd hlt hBS hsrt
    obtain rfl : n = i := by omega
    have hpr : Pr n f := ⟨hlf, hnd, hlt⟩
    have hlz : Hid ((nz f).length = n) := by show _ = _; rw [nz_length]; exact hlf
    have hbH := Lib.hid hb
    have hSH := Lib.hid hS
    have hZH := Lib.hid hZ
    have hprH := Lib.hid hpr
    have hBSH := Lib.hid hBS
    have hsrtH := Lib.hid hsrt
    have k1 := hS.cn
    clear hb hS hZ hl hB hnd hlt hBS hsrt hpr hlf
    have hnn : ((n : Int) == (n : Int)) = true := by simp
    go_enter Try.func91, Try.ntmps91
    go_wp2_with (fail)
    go_loopw [10, 20] (fun cw iv wr => ∃ (k : Nat) (v : Value), v = cw ∧ iv = .int .i64 (k : Nat) ∧ k ≤ n ∧ ZE wr W.heap.size v ((pcs C f).take k) ∧ Below W.heap.size W wr) (fun _ iv _ => n - (intOf iv).toNat)
    case atStart => exact ⟨0, _, rfl, rfl, by omega, ZE.nil _ _, Below.refl _ _⟩
    case round =>
      obtain ⟨k, v, rfl, rfl, hk, hE, hbl⟩ := hrel
      have hEH := Lib.hid hE
      have hblH := Lib.hid hbl
      clear hE hbl k1
      by_cases hkn : k < n
      · have hkI : (k : Int) < (n : Int) := by omega
        have hk0 : (0 : Int) ≤ (k : Int) := by omega
        obtain ⟨j, hj, hjn⟩ := hprH.out.get (i := k) hkn
        obtain ⟨bz, oz, haz, cz⟩ := (hZH.out.below hblH.out).at (i := k) (by rw [hlz.out]; exact hkn)
        have hz0 : at0 (nz f) k = (j : Int) := at0_of (by unfold nz; rw [List.getElem?_map, hj]; rfl)
        rw [hz0] at cz
        subst haz
        obtain ⟨b5, o3, b4, o4, c4, hao, e5, hc4, e6, q0, q1⟩ := (hMH.out.below (bseqJ hbH.out hblH.out)).cost hgH.out hnH.out hkn hjn
        have k2 := (hSH.out.up hNH.out (Sf.of hblH.out)).cs
        subst hao
        have hjI : (j : Int) < (n : Int) := by omega
        have hj0 : (0 : Int) ≤ (j : Int) := by omega
        obtain ⟨x, hx⟩ : ∃ x, cst C k j = x := ⟨_, rfl⟩
        rw [hx] at e6
        have htk : Hid ((pcs C f).take (k + 1) = (pcs C f).take k ++ [x]) := by
          show _ = _
          exact take_lastX (by rw [pcs_get, hj, ← hx]; rfl)
        have hlt : Hid (((pcs C f).take k).length = k) := by show _ = _; rw [List.length_take, pcs_length, hprH.out.len]; omega
        have hbs3 : W.heap.size ≤ wr.heap.size := hblH.out.size
        clear hz0 hj hx q0 q1
        go_wp2_with (first
          | (at_builtin; go_loud (refine wpList_append_ze _ rfl (.tmp 25) (.tmp 33) _ rfl Try.underlying24 W.heap.size k v ((pcs C f).take k) (by rfl) (hEH.out.alJ _) hlt.out _ 1 1 [x] (by rfl) (IZ.one (by simp)) rfl (by omega) (by omega) (by simp; omega) ?_); intro v2 w4 hA4; have hA4H := Lib.hid hA4; clear hA4))
        go_roundw
        case rel => exact ⟨k + 1, v2, rfl, by go_num, by omega, by rw [htk.out]; exact hA4H.out.1, (below_al hblH.out _).trans hA4H.out.2.1⟩
        case measure => simp [intOf]; omega
      · have hke : n = k := by omega
        subst hke
        have hfull : (pcs C f).take n = pcs C f := List.take_of_length_le (by rw [pcs_length, hprH.out.len]; exact Nat.le_refl _)
        have hEf := hEH.out
        rw [hfull] at hEf
        have hpl : (pcs C f).length = n := by rw [pcs_length]; exact hprH.out.len
        obtain ⟨g6, c6, hv6⟩ := hEf.some (fun e => by rw [e] at hpl; simp at hpl; omega)
        rw [hpl] at hv6
        subst hv6
        have hI6 := hEf.iz
        have hbase6 := (hEf.zi (fun e => by rw [e] at hpl; simp at hpl; omega)).lt g6 rfl
        have hpH := Lib.hid hpl
        have hSr := hSH.out.up hNH.out (Sf.of hblH.out)
        have hBSr := hBSH.out.below hblH.out
        have hI6H := Lib.hid hI6.1
        have hc6 := hI6.2
        have k4 := hSr.ck
        have hkf := hSr.cf
        clear hEf hI6 hfull hpl hkn
        have hSrH := Lib.hid hSr
        clear hSr
        rcases hBSr with ⟨hL0, hbb, hbc⟩ | ⟨p, g, o, cp, g2, o2, c2, hbb, hbc, hcp, hc2, hI, hI2, hB, hp⟩
        · have hbbH := Lib.hid hbb
          have hbcH := Lib.hid hbc
          have hL0H := Lib.hid hL0
          have kb := Blk.cell hbb 0
          have hbr : Below wr.heap.size wr wr := Below.refl _ _
          simp only [List.getElem?_cons_zero] at kb
          clear hbb hbc hL0
          go_wp2_with (first
            | (go_at_call 72; go_loud (with_reducible refine (clone_any av n cv (nz f) _ (hZH.out.below (bseqJ hblH.out hbr)) hlz.out (by omega)).mono ?_); rintro e w8 ⟨a8, d8, rfl, hZ8, hb8⟩; obtain ⟨g8, q8, hg8⟩ := hZ8.someX (by rw [hlz.out]; exact hn1); injection hg8 with q1 q2 q3; subst q1; clear q2 q3; have hZ8i := hZ8.iz; have hZ8l := hZ8.lt g8 rfl; have hb8H := Lib.hid (bseqJ hbr hb8); have hsz8 := hb8.size; have hbb8 := Blk.later hbbH.out hb8H.out; have hbc8 := Blk.later hbcH.out hb8H.out; have kb8 := Blk.cell hbb8 0; have fb8 := Blk.frozen hbb8 0; have kc8 := Blk.cell (Blk.far hbc8 (p := ⟨bb, 0, none⟩) (fun e => hNH.out.bc e.symm) (.slice (some ⟨g8, 0, none⟩) n d8)) 0; have fc8 := Blk.frozen (Blk.far hbc8 (p := ⟨bb, 0, none⟩) (fun e => hNH.out.bc e.symm) (.slice (some ⟨g8, 0, none⟩) n d8)) 0; have hbb8H := Lib.hid hbb8; have hbc8H := Lib.hid hbc8; have hZ8H := Lib.hid hZ8i; have hZ8lH := Lib.hid hZ8l; simp only [List.getElem?_cons_zero] at kb8 kc8; clear hbb8 hbc8 hZ8i hZ8 hb8 hZ8l))
          refine bodyPost_ret (results_none rfl _ _ _) rfl ?_
          refine ⟨rfl, ((Sf.of (bseqJ hblH.out hb8H.out)).setb _).setc _, ?_⟩
          have hgw := hbbH.out.lt
          have hgw2 := hbcH.out.lt
          have hs8 := hb8H.out.size
          have h8 := hZ8lH.out.1
          have hbl2 := hblH.out.size
          exact BS.put hbb8H.out hbc8H.out hNH.out.bc hn1 (by omega) (by omega) ((hI6H.out.below hb8H.out).box (by rw [hpH.out]; exact hn1) hbb8H.out) ((hI6H.out.below hb8H.out).box (by rw [hpH.out]; exact hn1) hbc8H.out) hZ8H.out.2 hc6 hZ8H.out.1 (hI6H.out.below hb8H.out) (by rw [hL0H.out]; exact Best.one _ _ (byL_ir _)) hprH.out
        · have hbbH := Lib.hid hbb
          have hbcH := Lib.hid hbc
          have kb := Blk.cell hbb 0
          have kc := Blk.cell hbc 0
          simp only [List.getElem?_cons_zero] at kb kc
          have hIH := Lib.hid hI
          have hI2H := Lib.hid hI2
          have hBH := Lib.hid hB
          have hpp := Lib.hid hp
          have hpl2 : Hid ((pcs C p).length = n) := by show _ = _; rw [pcs_length]; exact hp.len
          clear hbb hbc hI hI2 hB hp
          by_cases hlt : fall (pcs C f) < fall (pcs C p)
          · have hltH := Lib.hid hlt
            clear hlt
            go_wp2_with (first
              | (go_at_call 75; go_loud (with_reducible refine (cmpF_lt (some ⟨g6, 0, none⟩) (some ⟨g2, o2, none⟩) n c6 c2 bf (pcs C f) (pcs C p) _ hI6H.out hI2H.out hpH.out hpl2.out hn1 (by omega) hkf hltH.out).mono ?_); rintro e w7 ⟨z, rfl, hz, hb7⟩; have hb7H := Lib.hid hb7; have hsz7 := hb7.size; clear hb7)
              | (go_at_call 72; go_loud (with_reducible refine (clone_any av n cv (nz f) _ (hZH.out.below (bseqJ hblH.out hb7H.out)) hlz.out (by omega)).mono ?_); rintro e w8 ⟨a8, d8, rfl, hZ8, hb8⟩; obtain ⟨g8, q8, hg8⟩ := hZ8.someX (by rw [hlz.out]; exact hn1); injection hg8 with q1 q2 q3; subst q1; clear q2 q3; have hZ8i := hZ8.iz; have hZ8l := hZ8.lt g8 rfl; have hb8H := Lib.hid (bseqJ hb7H.out hb8); have hsz8 := hb8.size; have hbb8 := Blk.later hbbH.out hb8H.out; have hbc8 := Blk.later hbcH.out hb8H.out; have kb8 := Blk.cell hbb8 0; have fb8 := Blk.frozen hbb8 0; have kc8 := Blk.cell (Blk.far hbc8 (p := ⟨bb, 0, none⟩) (fun e => hNH.out.bc e.symm) (.slice (some ⟨g8, 0, none⟩) n d8)) 0; have fc8 := Blk.frozen (Blk.far hbc8 (p := ⟨bb, 0, none⟩) (fun e => hNH.out.bc e.symm) (.slice (some ⟨g8, 0, none⟩) n d8)) 0; have hbb8H := Lib.hid hbb8; have hbc8H := Lib.hid hbc8; have hZ8H := Lib.hid hZ8i; have hZ8lH := Lib.hid hZ8l; simp only [List.getElem?_cons_zero] at kb8 kc8; clear hbb8 hbc8 hZ8i hZ8 hb8 hZ8l))
            refine bodyPost_ret (results_none rfl _ _ _) rfl ?_
            refine ⟨rfl, ((Sf.of (bseqJ hblH.out hb8H.out)).setb _).setc _, ?_⟩
            have hgw := hbbH.out.lt
            have hgw2 := hbcH.out.lt
            have hs8 := hb8H.out.size
            have h8 := hZ8lH.out.1
            have hbl2 := hblH.out.size
            exact BS.put hbb8H.out hbc8H.out hNH.out.bc hn1 (by omega) (by omega) ((hI6H.out.below hb8H.out).box (by rw [hpH.out]; exact hn1) hbb8H.out) ((hI6H.out.below hb8H.out).box (by rw [hpH.out]; exact hn1) hbc8H.out) hZ8H.out.2 hc6 hZ8H.out.1 (hI6H.out.below hb8H.out) (hBH.out.better hltH.out byL_tr byL_ir byL_ne) hprH.out
          · have hltH := Lib.hid hlt
            clear hlt
            go_wp2_with (first
              | (go_at_call 75; go_loud (with_reducible refine (cmpF_ge (some ⟨g6, 0, none⟩) (some ⟨g2, o2, none⟩) n c6 c2 bf (pcs C f) (pcs C p) _ hI6H.out hI2H.out hpH.out hpl2.out hn1 (by omega) hkf hltH.out).mono ?_); go_loud (rintro e w7 ⟨z, rfl, hz, hb7⟩); go_loud (have hz1 : ¬ z < 0 := by omega); go_loud (have hb7H := Lib.hid hb7); clear hb7))
            refine bodyPost_ret (results_none rfl _ _ _) rfl ?_
            exact ⟨rfl, Sf.of (bseqJ hblH.out hb7H.out), .inr ⟨p, g, o, cp, g2, o2, c2, Blk.later hbbH.out hb7H.out, Blk.later hbcH.out hb7H.out, hcp, hc2, hIH.out.below hb7H.out, hI2H.out.below hb7H.out, hBH.out.keep hltH.out hsrtH.out, hpp.out⟩⟩
  | succ m ih =>
    intro u i f av cv L W hi hb hS hZ hcv hl hB hnd hlt hBS hsrt
    have hin : i < n := by omega
    have hne : ((i : Int) == (n : Int)) = false := by rw [beq_eq_false_iff_ne]; omega
    have hlz : Hid ((nz f).length = i) := by show _ = _; rw [nz_length]; exact hi
    have hiH := Lib.hid hi
    have hbH := Lib.hid hb
    have hSH := Lib.hid hS
    have hZH := Lib.hid hZ
    have hBH := Lib.hid hB
    have hndH := Lib.hid hnd
    have hltH := Lib.hid hlt
    have hBSH := Lib.hid hBS
    have hsrtH := Lib.hid hsrt
    have ihH := Lib.hid ih
    have k1 := hS.cn
    clear hb hS hZ hi hB hnd hlt hBS hsrt ih
    obtain ⟨N, hN⟩ : ∃ N, 2 ^ n = N := ⟨_, rfl⟩
    have hN2 : N ≤ 256 := by rw [← hN]; exact Nat.pow_le_pow_right (n := 2) (by omega) hn8
    have hNpH := Lib.hid hN
    clear hN
    go_enter Try.func91, Try.ntmps91
    go_wp2_with (fail)
    go_loopw [49] (fun iv wr => ∃ j : Nat, iv = .int .i64 (j : Nat) ∧ j ≤ n ∧ BS C n (L ++ allU n m f j) wr bb bc ∧ Sf bb bc W wr) (fun iv _ => n - (intOf iv).toNat)
    case atStart => exact ⟨0, rfl, by omega, by rw [allU_zero, List.append_nil]; exact hBSH.out, Sf.refl _ _ _⟩
    case round =>
      obtain ⟨j, rfl, hj, hBS, hsf⟩ := hrel
      have hBSr := Lib.hid hBS
      have hsfH := Lib.hid hsf
      clear hBS hsf
      by_cases hjn : j < n
      · have hjI : (j : Int) < (n : Int) := by omega
        have hj0 : (0 : Int) ≤ (j : Int) := by omega
        have hj64 : (j : Int) < 64 := by omega
        have hu : u < N := by rw [← hNpH.out]; exact hBH.out.1
        have hbit := bit_at u j (by omega)
        by_cases hjf : j ∈ f
        · have hbit1 : bits .and .i64 ((u : Int) / 2 ^ j) 1 = 1 := by rw [hbit, (hBH.out.2 j hjn).2 hjf]; rfl
          have hjfH := Lib.hid hjf
          clear hbit hjf
          go_wp2_with (fail)
          go_roundw
          case rel => exact ⟨j + 1, by go_num, by omega, by rw [allU_skip n m f j hjfH.out]; exact hBSr.out, hsfH.out⟩
          case measure => simp [intOf]; omega
        · have htb : u.testBit j = false := by rw [← Bool.not_eq_true, hBH.out.2 j hjn]; exact hjf
          have hbit1 : bits .and .i64 ((u : Int) / 2 ^ j) 1 = 0 := by rw [hbit, htb]; rfl
          have hjfH := Lib.hid hjf
          have hpw := pow_in j (by omega)
          have hpw2 : IntKind.i64.wrap ((2 : Int) ^ j) = (2 : Int) ^ j := (IntWalk.i64_left _).trans hpw
          have hor := or_bit u j (by omega) (by omega)
          obtain ⟨o, ho⟩ : ∃ o, u ||| 2 ^ j = o := ⟨_, rfl⟩
          have hoH := Lib.hid ho
          rw [ho] at hor
          have k2 := (hSH.out.up hNH.out hsfH.out).cg
          have hIf : Hid (IZ wr av (nz f)) := by
            show IZ _ _ _
            exact hZH.out.sfB hBSH.out hsfH.out
          have hl1 : Hid ((f ++ [j]).length = i + 1) := by show _ = _; rw [List.length_append, hiH.out]; rfl
          have hlS : Hid ((nz (f ++ [j])).length = i + 1) := by show _ = _; rw [nz_length]; exact hl1.out
          have hBo : Hid (Bits n o (f ++ [j])) := by show Bits _ _ _; rw [← ho]; exact hBH.out.snoc hjn
          have hnd2 : Hid ((f ++ [j]).Nodup) := snoc_nodup hndH.out hjf
          have hlt2 : Hid (∀ x ∈ f ++ [j], x < n) := snoc_lt hltH.out hjn
          have hbW : Hid (∀ V, Below wr.heap.size wr V → Below w.heap.size w V) := fun V hV => hbH.out.trans ((hsfH.out.below (B := w.heap.size) hb1 hb2 hbH.out.size).trans (hV.mono (Nat.le_trans hbH.out.size hsfH.out.size)))
          have hSu : Hid (∀ V, Below wr.heap.size wr V → SR V ao n c bn bs bb bk bc bg bf) := fun V hV => hSH.out.up hNH.out (hsfH.out.trans (Sf.of hV))
          have hnx : Hid (L ++ allU n m f (j + 1) = L ++ allU n m f j ++ allP n m (f ++ [j])) := by show _ = _; rw [allU_take n m f j hjf, List.append_assoc]
          have hsr2 : Hid ((L ++ allU n m f j ++ allP n m (f ++ [j])).Pairwise (· < ·)) := by
            show List.Pairwise _ _
            rw [← hnx.out]
            refine hsrtH.out.sublist (List.Sublist.append (List.Sublist.refl _) ?_)
            rw [allP_succ]
            exact allU_sub n m f (by omega)
          clear hbit hjf ho
          go_wp2_with (fail)
          have hI0 : wr.cell? ⟨bg, 0, none⟩ = some (.func (.func 91) #[] #[ptr bn, ptr bs, ptr bb, ptr bk, ptr bc, ptr bg]) := k2
          have hB0 : Below wr.heap.size wr wr := Below.refl _ _
          go_region_held3 (fun w' => w'.cell? ⟨bg, 0, none⟩ = some (.func (.func 91) #[] #[ptr bn, ptr bs, ptr bb, ptr bk, ptr bc, ptr bg]))
            (repeat (first | assumption | (with_reducible refine cell_drJ ?_) | (with_reducible refine cell_alJ ?_ _)))
            (first
              | ((refine step_append_full rfl (.tmp 63) (.tmp 65) _ rfl Try.underlying24 i av (nz f) (by rfl) (hIf.out.below (by repeat (first | assumption | (with_reducible refine Below.drew ?_) | (with_reducible refine below_al ?_ _)))) hlz.out _ (j : Int) (by rfl) (by first | (simp; done)) (by omega) ?_); intro v2 x2 hZ2 hb2; have hq2 : Below wr.heap.size wr x2 := bseqJ (by repeat (first | assumption | (with_reducible refine Below.drew ?_) | (with_reducible refine below_al ?_ _))) hb2; have hk2 : x2.cell? ⟨bg, 0, none⟩ = some (.func (.func 91) #[] #[ptr bn, ptr bs, ptr bb, ptr bk, ptr bc, ptr bg]) := Below.cellAt hq2 (Nat.le_refl _) hI0; rw [nz_snoc] at hZ2; obtain ⟨g2, c2, hv2⟩ := hZ2.someX (by rw [nz_length, List.length_append]; simp); rw [hlS.out] at hv2; subst hv2; have hZ2H := Lib.hid hZ2.iz; clear hZ2 hb2)
              | (go_at_call 91; go_loud (with_reducible refine (ihH.out o (i + 1) (f ++ [j]) (some ⟨g2, 0, none⟩) c2 (L ++ allU n m f j) _ hl1.out (hbW.out _ (by repeat (first | assumption | (with_reducible refine Below.drew ?_) | (with_reducible refine below_al ?_ _)))) (hSu.out _ (by repeat (first | assumption | (with_reducible refine Below.drew ?_) | (with_reducible refine below_al ?_ _)))) (hZ2H.out.1.below (by repeat (first | exact Below.refl _ _ | (with_reducible refine Below.drew ?_) | (with_reducible refine below_al ?_ _)))) hZ2H.out.2 (by omega) hBo.out hnd2.out hlt2.out (hBSr.out.below (by repeat (first | assumption | (with_reducible refine Below.drew ?_) | (with_reducible refine below_al ?_ _)))) hsr2.out).mono ?_); rintro e w3 ⟨rfl, hs3, hBS3⟩; have hs3H := Lib.hid ((Sf.of (show Below wr.heap.size wr _ by repeat (first | assumption | (with_reducible refine Below.drew ?_) | (with_reducible refine below_al ?_ _)))).trans hs3); have hBS3H := Lib.hid hBS3; have hk3 : w3.cell? ⟨bg, 0, none⟩ = some (.func (.func 91) #[] #[ptr bn, ptr bs, ptr bb, ptr bk, ptr bc, ptr bg]) := hs3H.out.cell hI0 hNH.out.gb hNH.out.gc; clear hs3 hBS3))
          go_wp2_with (fail)
          go_roundw
          case rel => exact ⟨j + 1, by go_num, by omega, by rw [hnx.out]; exact hBS3H.out, hsfH.out.trans hs3H.out⟩
          case measure => simp [intOf]; omega
      · have hje : n = j := by omega
        subst hje
        go_wp2_with (fail)
        refine bodyPost_ret (results_none rfl _ _ _) rfl ?_
        exact ⟨rfl, hsfH.out, hBSr.out⟩
end Go.Proofs.Yteiipfajoikfpaa
