/- Rp -/
import Derived.Test.YtcaeonpjokkjnaaGreatKXh
set_option linter.unusedVariables false
/- Walk of the law WearPlanned. -/
namespace Go.Proofs.YtcaeonpjokkjnaaGreat
open Go Go.RowKit Go.Proofs

section
attribute [local go_sem] undef
set_option maxRecDepth 100000 in
set_option maxHeartbeats 20000000 in
theorem planned_any (ao : Option Addr) (c l y0 y1 : Nat) (xs : List Nat) (w : World) (hl : xs.length = l) (h : Dg .u8 w ao xs) (hl1 : l ≤ 9223372036854775807) (hx : ∀ x ∈ xs, x < 256) (hy0 : y0 < 256) (hy1 : y1 < 256) :
    Calls Tryz.prog 6 #[.slice ao l c, .agg #[.int .u8 y0, .int .u8 y1]] w (RetBool w true) := by
  have hlH := Lib.hid hl
  have hxH := Lib.hid hx
  obtain ⟨W0, hW⟩ : ∃ W0, W0 = w.alloc (Obj.cells #[.int .u8 y0, .int .u8 y1] 60) := ⟨_, rfl⟩
  have hbW' : Below w.heap.size w W0 := by rw [hW]; exact (Below.refl _ _).alloc (Nat.le_refl _) _
  have hbW := Lib.hid hbW'
  have hD0 := Lib.hid (h.below hbW')
  have z0 : W0.cell? ⟨w.heap.size, 0, none⟩ = some (.int .u8 y0) := by rw [hW]; simp [go_sem]
  have z1 : W0.cell? ⟨w.heap.size, 1, none⟩ = some (.int .u8 y1) := by rw [hW]; simp [go_sem]
  have hzz := Lib.hid (show W0.cell? ⟨w.heap.size, 0, none⟩ = some (.int .u8 y0) ∧ W0.cell? ⟨w.heap.size, 1, none⟩ = some (.int .u8 y1) from ⟨z0, z1⟩)
  have hz0 : w.heap.size < W0.heap.size := by rw [hW]; simp
  have hWH := Lib.hid hW
  clear hW hbW' h hl hx z0 z1
  go_enter Tryz.func6, Tryz.ntmps6
  go_upto_block 0 with (first
    | (go_at_call 29; rw [← hWH.out]; go_loud (with_reducible refine (whole1 _).mono ?_); rintro e w1 ⟨a1, d1, a1', d1', rfl, hm1, hb1⟩))
  obtain ⟨V, hV⟩ : ∃ V, V = w1.alloc (Obj.cells #[.bool (ng (rn 1)), .slice a1 (LZ (rn 1)) d1, .bool (ng (rd 1)), .slice a1' (LZ (rd 1)) d1'] 46) := ⟨_, rfl⟩
  have hs1 : W0.heap.size < w1.heap.size := by have := hb1.size; simp at this; omega
  have hbWV : Below W0.heap.size W0 w1 := by
    have h1 : Below W0.heap.size W0 (W0.alloc (Obj.cells #[] 46)) := (Below.refl _ _).alloc (Nat.le_refl _) _
    exact h1.trans (hb1.mono (by simp))
  have hBL0 : BL W0 V W0.heap.size w1.heap.size ⟨a1, d1, a1', d1'⟩ (aF l xs 0) (.slice (some ⟨w.heap.size + 1, 0, none⟩) 0 0) (fL l xs 0) := by
    have hsz : W0.heap.size = w.heap.size + 1 := by rw [hWH.out]; simp
    rw [← hsz]
    have hbV : Below w1.heap.size w1 V := by rw [hV]; exact (Below.refl _ _).alloc (Nat.le_refl _) _
    refine ⟨hm1.up hbV, ?_, ?_, ?_, ?_, hbWV.trans (hbV.mono (by omega)), by rw [hV]; simp, by omega⟩
    · rw [hV]
      refine ⟨?_, ?_, ?_, ?_⟩ <;> simp [go_sem] <;> rfl
    · rw [hV]; exact (ZBox.new w1 ⟨a1, d1, a1', d1'⟩ 1 46 hm1).2
    · exact (((ZV.lit0 W0 W0.heap.size (Nat.le_refl _)).below hb1).below hbV)
    · intro k hk
      simp [Value.ownBlock] at hk
      omega
  have hBLH := Lib.hid hBL0
  have hVH := Lib.hid hV
  rw [← hV]
  clear hV hBL0 hm1 hb1 hbWV
  go_cut [5, 7, 8] from 32 to 77 (fun s5 s7 s8 wc => ∃ (k : Nat) (p : RP), s7 = .int .i64 (hF l xs k : Nat) ∧ s8 = .int .i64 (k : Nat) ∧ k ≤ 7 ∧ k ≤ l ∧ (∀ j, j < k → j < l ∧ j < 7 ∧ hF l xs j < 20) ∧ ¬ (k < l ∧ k < 7 ∧ hF l xs k < 20) ∧ BL W0 wc W0.heap.size w1.heap.size p (aF l xs k) s5 (fL l xs k))
  case first =>
    go_wp2_with (fail)
    go_loopw [5, 7, 8] (fun s5 s7 s8 wr => ∃ (k : Nat) (p : RP), s7 = .int .i64 (hF l xs k : Nat) ∧ s8 = .int .i64 (k : Nat) ∧ k ≤ 7 ∧ k ≤ l ∧ (∀ j, j < k → j < l ∧ j < 7 ∧ hF l xs j < 20) ∧ BL W0 wr W0.heap.size w1.heap.size p (aF l xs k) s5 (fL l xs k)) (fun _ _ i _ => 8 - (intOf i).toNat)
    case atStart => exact ⟨0, _, rfl, rfl, by omega, by omega, fun j hj => by omega, hBLH.out⟩
    case round =>
      obtain ⟨k, p, rfl, rfl, hk7, hkl, hpre, hBL⟩ := hrel
      obtain ⟨ab, cb, hbv⟩ := hBL.2.2.2.1.shape
      subst hbv
      rw [fL_length] at hBL ⊢
      have hB := Lib.hid hBL
      have hpreH := Lib.hid hpre
      have h20 := hF_le l xs k
      clear hBL hpre
      by_cases hkl2 : k < l
      · by_cases hk72 : k < 7
        · by_cases hh : hF l xs k < 20
          · have e1 : (k : Int) < l := by omega
            have e2 : (k : Int) < 7 := by omega
            have e3 : (hF l xs k : Int) < 20 := by omega
            have e0 : (0 : Int) ≤ (k : Int) := by omega
            obtain ⟨bx, ox, x, hx, rfl, hxc⟩ := (hD0.out.below hB.out.2.2.2.2.2.1).at (i := k) (by rw [hlH.out]; exact hkl2)
            have hxb := hxH.out x (List.mem_of_getElem? hx)
            have hxxH := Lib.hid hx
            clear hx
            obtain ⟨H, hH⟩ : ∃ H, H = hF l xs (k + 1) := ⟨_, rfl⟩
            have hpreN : Hid (∀ j, j < k + 1 → j < l ∧ j < 7 ∧ hF l xs j < 20) := fun j hj => by
              rcases Nat.lt_or_ge j k with h | h
              · exact hpreH.out j h
              · have : j = k := by omega
                subst this
                exact ⟨hkl2, hk72, hh⟩
            have hH20 : H ≤ 20 := by rw [hH]; exact hF_le l xs (k + 1)
            have hHH := Lib.hid hH
            have hHv : H = if k + 1 = l ∨ k = 6 then 20 else min 20 (hF l xs k + x % 6) := by rw [hH, hF, hxxH.out]; rfl
            have hQ1 := Lib.hid (PQ.low (aF_short (n := l) (xs := xs) hk7))
            have hQ2 := Lib.hid (q20_parts hH20)
            have hQ3 := Lib.hid (q20_parts (n := 20 - H) (by omega))
            have z1 := Lib.hid (hQ1.out.szq (by omega))
            have z2 := Lib.hid (hQ2.out.szq (by omega))
            have z3 := Lib.hid (hQ3.out.szq (by omega))
            have hP1 := Lib.hid (hQ1.out.mul hQ2.out)
            have hP2 := Lib.hid (hQ1.out.mul hQ3.out)
            have B1 := Lib.hid (hP1.out.z1)
            have B2 := Lib.hid (hP1.out.z2)
            have B3 := Lib.hid (hP2.out.z1)
            have B4' := Lib.hid (hP2.out.z2)
            have hfF : Hid (aF l xs k * q20 H = fF l xs k) := by show _ = _; rw [hH]; rfl
            have haF : Hid (aF l xs k * q20 (20 - H) = aF l xs (k + 1)) := by show _ = _; rw [hH]; rfl
            have hQ1d := Lib.hid hP1.out.1
            have hQ2d := Lib.hid hP2.out.1
            have hA1 := Lib.hid (hP1.out.2.1.trans hfF.out)
            have hA2 := Lib.hid (hP2.out.2.1.trans haF.out)
            have hgw := hB.out.2.2.2.2.2.2.1
            have hc0 : Hid (C4 wr w1.heap.size 0 (.bool (ng (rn (aF l xs k)))) (.slice p.a (LZ (rn (aF l xs k))) p.c) (.bool (ng (rd (aF l xs k)))) (.slice p.a' (LZ (rd (aF l xs k))) p.c')) := hB.out.2.1
            clear hH
            have hcase : (((k : Int) == (l : Int) - 1) = true ∧ H = 20) ∨ (((k : Int) == (l : Int) - 1) = false ∧ ((k : Int) == 6) = true ∧ H = 20) ∨ (((k : Int) == (l : Int) - 1) = false ∧ ((k : Int) == 6) = false ∧ H = min 20 (hF l xs k + x % 6)) := by
              by_cases hcl : k + 1 = l
              · refine Or.inl ⟨by simp; omega, by rw [hHv, if_pos (Or.inl hcl)]⟩
              · by_cases hck : k = 6
                · refine Or.inr (Or.inl ⟨by simp; omega, by simp; omega, by rw [hHv, if_pos (Or.inr hck)]⟩)
                · refine Or.inr (Or.inr ⟨by simp; omega, by simp; omega, by rw [hHv, if_neg (by omega)]⟩)
            clear hHv
            rcases hcase with ⟨b1, hy⟩ | ⟨b1, b2, hy⟩ | ⟨b1, b2, hy⟩
            · have hy1H : Hid (((H : Nat) : Int) = 20) := by show _ = _; omega
              have hy2H : Hid (((20 - H : Nat) : Int) = 0) := by show _ = _; omega
              clear hy
              go_upto_region 8 with (fail)
              go_region_held3 (fun w' => Cells4 w' w1.heap.size (.bool (ng (rn (aF l xs k)))) (.slice p.a (LZ (rn (aF l xs k))) p.c) (.bool (ng (rd (aF l xs k)))) (.slice p.a' (LZ (rd (aF l xs k))) p.c'))
                (((show C4 _ _ 0 _ _ _ _); first | (with_reducible exact hc6.out) | (with_reducible exact hc5.out.al _) | (with_reducible exact hc5.out) | (with_reducible exact hc4.out) | (with_reducible exact hc2.out) | (with_reducible exact hc0.out.drew)))
                (first
                | (go_at_call 34; go_loud (with_reducible refine (make20 H _ _ hy1H.out hH20).mono ?_); rintro e w2 ⟨a2, d2, a2', d2', rfl, hm2, hb2⟩; have hb2H := Lib.hid (bseqZ (Below.refl _ _).drew hb2); have hB2 := Lib.hid (hB.out.step hb2H.out); have hc2 := Lib.hid hB2.out.2.1; have hM2 := Lib.hid hB2.out.qm)
                | (go_at_call 31; go_loud (with_reducible refine (mulq_any p.a p.c p.a' p.c' a2 d2 a2' d2' (rn (aF l xs k)) (rd (aF l xs k)) (rn (q20 H)) (rd (q20 H)) _ hM2.out hm2 z1.out z2.out).mono ?_); rintro e w4 ⟨a4, d4, a4', d4', rfl, hm4, hb4⟩; have hc4 := Lib.hid (hc2.out.up hb4); have hB4 := Lib.hid (hB2.out.step hb4))
                | (go_at_call 33; go_loud (with_reducible refine (lowest_q a4 d4 a4' d4' (rn (aF l xs k) * rn (q20 H)) (rd (aF l xs k) * rd (q20 H)) (fF l xs k) _ hm4 B1.out B2.out hQ1d.out hA1.out).mono ?_); rintro e w5 ⟨a5, d5, a5', d5', rfl, hm5, hb5⟩; have hB5 := Lib.hid (hB4.out.step hb5); have hc5 := Lib.hid hB5.out.2.1; have hV5 := Lib.hid hB5.out.zv; have hM5 := Lib.hid (show ZRp w5 ⟨a5, d5, a5', d5'⟩ (fF l xs k) from hm5); have hs5 := hB5.out.2.2.2.2.2.1.size; clear hm5 hb5 hm4 hb4 hm2 hb2)
                | ((refine step_append_qw rfl (.tmp 64) (.tmp 70) _ rfl Tryz.underlying31 W0.heap.size k (.slice ab k cb) (fL l xs k) (fF l xs k) ⟨a5, d5, a5', d5'⟩ rfl (hV5.out.below ((Below.refl _ _).alloc (Nat.le_refl _) _)) (fL_length l xs k) w5.heap.size rfl (by omega) (by simp; omega) (by simp [go_sem]) (by simp [go_sem]) (by simp [go_sem]) (by simp [go_sem]) (hM5.out.up ((Below.refl _ _).alloc (Nat.le_refl _) _)) ?_); intro v' w6 hv6 hg6 hw6; rw [fL_next] at hv6; have hB6 := Lib.hid ((hB5.out.step ((Below.refl _ _).alloc (Nat.le_refl _) _)).grown hg6 hv6 hw6); have hc6 := Lib.hid hB6.out.2.1; clear hv6 hg6 hw6))
              obtain ⟨q0, q1', q2', q3'⟩ := hB6.out.cells
              have hM6 := Lib.hid hB6.out.qm
              have hw0 : IntKind.i64.wrap 0 = 0 := by decide
              have hg6 := hB6.out.2.2.2.2.2.2.1
              go_wp2_with (fail)
              go_region_with (first
                | (go_at_call 34; go_loud (with_reducible refine (make20 (20 - H) _ _ hy2H.out (by omega)).mono ?_); rintro e w7 ⟨a7, d7, a7', d7', rfl, hm7, hb7⟩; have hb7H := Lib.hid (bseqZ (Below.refl _ _).drew hb7); have hB7 := Lib.hid (hB6.out.step hb7H.out); have hM7 := Lib.hid hB7.out.qm; obtain ⟨t0, t1, t2, t3⟩ := hB7.out.cells)
                | (go_at_call 31; go_loud (with_reducible refine (mulq_any p.a p.c p.a' p.c' a7 d7 a7' d7' (rn (aF l xs k)) (rd (aF l xs k)) (rn (q20 (20 - H))) (rd (q20 (20 - H))) _ hM7.out hm7 z1.out z3.out).mono ?_); rintro e w8 ⟨a8, d8, a8', d8', rfl, hm8, hb8⟩; have hB8 := Lib.hid (hB7.out.step hb8))
                | (go_at_call 33; go_loud (with_reducible refine (lowest_q a8 d8 a8' d8' (rn (aF l xs k) * rn (q20 (20 - H))) (rd (aF l xs k) * rd (q20 (20 - H))) (aF l xs (k + 1)) _ hm8 B3.out B4'.out hQ2d.out hA2.out).mono ?_); rintro e w9 ⟨a9, d9, a9', d9', rfl, hm9, hb9⟩; have hB9 := Lib.hid (hB8.out.step hb9); obtain ⟨_, t2, t3, t5, _⟩ := hB9.out.2.2.1))
              all_goals go_wp2_with (fail)
              all_goals go_roundw
              all_goals (first
                | (case rel => (repeat apply Exists.intro); exact ⟨⟨k + 1, ⟨a9, d9, a9', d9'⟩, by rw [← hHH.out]; (try (first | rfl | (rw [hy1H.out]))), by go_num, by omega, by omega, hpreN.out, hB9.out.store hm9⟩, rfl⟩)
                | (case rel => exact ⟨k + 1, ⟨a9, d9, a9', d9'⟩, by rw [← hHH.out]; (try (first | rfl | (rw [hy1H.out]))), by go_num, by omega, by omega, hpreN.out, hB9.out.store hm9⟩)
                | (case measure => simp [intOf]; omega))
            · have hy1H : Hid (((H : Nat) : Int) = 20) := by show _ = _; omega
              have hy2H : Hid (((20 - H : Nat) : Int) = 0) := by show _ = _; omega
              clear hy
              go_upto_region 8 with (fail)
              go_region_held3 (fun w' => Cells4 w' w1.heap.size (.bool (ng (rn (aF l xs k)))) (.slice p.a (LZ (rn (aF l xs k))) p.c) (.bool (ng (rd (aF l xs k)))) (.slice p.a' (LZ (rd (aF l xs k))) p.c'))
                (((show C4 _ _ 0 _ _ _ _); first | (with_reducible exact hc6.out) | (with_reducible exact hc5.out.al _) | (with_reducible exact hc5.out) | (with_reducible exact hc4.out) | (with_reducible exact hc2.out) | (with_reducible exact hc0.out.drew)))
                (first
                | (go_at_call 34; go_loud (with_reducible refine (make20 H _ _ hy1H.out hH20).mono ?_); rintro e w2 ⟨a2, d2, a2', d2', rfl, hm2, hb2⟩; have hb2H := Lib.hid (bseqZ (Below.refl _ _).drew hb2); have hB2 := Lib.hid (hB.out.step hb2H.out); have hc2 := Lib.hid hB2.out.2.1; have hM2 := Lib.hid hB2.out.qm)
                | (go_at_call 31; go_loud (with_reducible refine (mulq_any p.a p.c p.a' p.c' a2 d2 a2' d2' (rn (aF l xs k)) (rd (aF l xs k)) (rn (q20 H)) (rd (q20 H)) _ hM2.out hm2 z1.out z2.out).mono ?_); rintro e w4 ⟨a4, d4, a4', d4', rfl, hm4, hb4⟩; have hc4 := Lib.hid (hc2.out.up hb4); have hB4 := Lib.hid (hB2.out.step hb4))
                | (go_at_call 33; go_loud (with_reducible refine (lowest_q a4 d4 a4' d4' (rn (aF l xs k) * rn (q20 H)) (rd (aF l xs k) * rd (q20 H)) (fF l xs k) _ hm4 B1.out B2.out hQ1d.out hA1.out).mono ?_); rintro e w5 ⟨a5, d5, a5', d5', rfl, hm5, hb5⟩; have hB5 := Lib.hid (hB4.out.step hb5); have hc5 := Lib.hid hB5.out.2.1; have hV5 := Lib.hid hB5.out.zv; have hM5 := Lib.hid (show ZRp w5 ⟨a5, d5, a5', d5'⟩ (fF l xs k) from hm5); have hs5 := hB5.out.2.2.2.2.2.1.size; clear hm5 hb5 hm4 hb4 hm2 hb2)
                | ((refine step_append_qw rfl (.tmp 64) (.tmp 70) _ rfl Tryz.underlying31 W0.heap.size k (.slice ab k cb) (fL l xs k) (fF l xs k) ⟨a5, d5, a5', d5'⟩ rfl (hV5.out.below ((Below.refl _ _).alloc (Nat.le_refl _) _)) (fL_length l xs k) w5.heap.size rfl (by omega) (by simp; omega) (by simp [go_sem]) (by simp [go_sem]) (by simp [go_sem]) (by simp [go_sem]) (hM5.out.up ((Below.refl _ _).alloc (Nat.le_refl _) _)) ?_); intro v' w6 hv6 hg6 hw6; rw [fL_next] at hv6; have hB6 := Lib.hid ((hB5.out.step ((Below.refl _ _).alloc (Nat.le_refl _) _)).grown hg6 hv6 hw6); have hc6 := Lib.hid hB6.out.2.1; clear hv6 hg6 hw6))
              obtain ⟨q0, q1', q2', q3'⟩ := hB6.out.cells
              have hM6 := Lib.hid hB6.out.qm
              have hw0 : IntKind.i64.wrap 0 = 0 := by decide
              have hg6 := hB6.out.2.2.2.2.2.2.1
              go_wp2_with (fail)
              go_region_with (first
                | (go_at_call 34; go_loud (with_reducible refine (make20 (20 - H) _ _ hy2H.out (by omega)).mono ?_); rintro e w7 ⟨a7, d7, a7', d7', rfl, hm7, hb7⟩; have hb7H := Lib.hid (bseqZ (Below.refl _ _).drew hb7); have hB7 := Lib.hid (hB6.out.step hb7H.out); have hM7 := Lib.hid hB7.out.qm; obtain ⟨t0, t1, t2, t3⟩ := hB7.out.cells)
                | (go_at_call 31; go_loud (with_reducible refine (mulq_any p.a p.c p.a' p.c' a7 d7 a7' d7' (rn (aF l xs k)) (rd (aF l xs k)) (rn (q20 (20 - H))) (rd (q20 (20 - H))) _ hM7.out hm7 z1.out z3.out).mono ?_); rintro e w8 ⟨a8, d8, a8', d8', rfl, hm8, hb8⟩; have hB8 := Lib.hid (hB7.out.step hb8))
                | (go_at_call 33; go_loud (with_reducible refine (lowest_q a8 d8 a8' d8' (rn (aF l xs k) * rn (q20 (20 - H))) (rd (aF l xs k) * rd (q20 (20 - H))) (aF l xs (k + 1)) _ hm8 B3.out B4'.out hQ2d.out hA2.out).mono ?_); rintro e w9 ⟨a9, d9, a9', d9', rfl, hm9, hb9⟩; have hB9 := Lib.hid (hB8.out.step hb9); obtain ⟨_, t2, t3, t5, _⟩ := hB9.out.2.2.1))
              all_goals go_wp2_with (fail)
              all_goals go_roundw
              all_goals (first
                | (case rel => (repeat apply Exists.intro); exact ⟨⟨k + 1, ⟨a9, d9, a9', d9'⟩, by rw [← hHH.out]; (try (first | rfl | (rw [hy1H.out]))), by go_num, by omega, by omega, hpreN.out, hB9.out.store hm9⟩, rfl⟩)
                | (case rel => exact ⟨k + 1, ⟨a9, d9, a9', d9'⟩, by rw [← hHH.out]; (try (first | rfl | (rw [hy1H.out]))), by go_num, by omega, by omega, hpreN.out, hB9.out.store hm9⟩)
                | (case measure => simp [intOf]; omega))
            · have hym : min (20 : Int) ((hF l xs k : Int) + (x : Int) % 6) = (H : Int) := by omega
              have hy1H : Hid (((H : Nat) : Int) = (H : Int)) := rfl
              have hy2H : Hid (((20 - H : Nat) : Int) = 20 - (H : Int)) := by show _ = _; omega
              clear hy
              go_upto_region 8 with (fail)
              go_region_held3 (fun w' => Cells4 w' w1.heap.size (.bool (ng (rn (aF l xs k)))) (.slice p.a (LZ (rn (aF l xs k))) p.c) (.bool (ng (rd (aF l xs k)))) (.slice p.a' (LZ (rd (aF l xs k))) p.c'))
                (((show C4 _ _ 0 _ _ _ _); first | (with_reducible exact hc6.out) | (with_reducible exact hc5.out.al _) | (with_reducible exact hc5.out) | (with_reducible exact hc4.out) | (with_reducible exact hc2.out) | (with_reducible exact hc0.out.drew)))
                (first
                | (go_at_call 34; go_loud (with_reducible refine (make20 H _ _ hy1H.out hH20).mono ?_); rintro e w2 ⟨a2, d2, a2', d2', rfl, hm2, hb2⟩; have hb2H := Lib.hid (bseqZ (Below.refl _ _).drew hb2); have hB2 := Lib.hid (hB.out.step hb2H.out); have hc2 := Lib.hid hB2.out.2.1; have hM2 := Lib.hid hB2.out.qm)
                | (go_at_call 31; go_loud (with_reducible refine (mulq_any p.a p.c p.a' p.c' a2 d2 a2' d2' (rn (aF l xs k)) (rd (aF l xs k)) (rn (q20 H)) (rd (q20 H)) _ hM2.out hm2 z1.out z2.out).mono ?_); rintro e w4 ⟨a4, d4, a4', d4', rfl, hm4, hb4⟩; have hc4 := Lib.hid (hc2.out.up hb4); have hB4 := Lib.hid (hB2.out.step hb4))
                | (go_at_call 33; go_loud (with_reducible refine (lowest_q a4 d4 a4' d4' (rn (aF l xs k) * rn (q20 H)) (rd (aF l xs k) * rd (q20 H)) (fF l xs k) _ hm4 B1.out B2.out hQ1d.out hA1.out).mono ?_); rintro e w5 ⟨a5, d5, a5', d5', rfl, hm5, hb5⟩; have hB5 := Lib.hid (hB4.out.step hb5); have hc5 := Lib.hid hB5.out.2.1; have hV5 := Lib.hid hB5.out.zv; have hM5 := Lib.hid (show ZRp w5 ⟨a5, d5, a5', d5'⟩ (fF l xs k) from hm5); have hs5 := hB5.out.2.2.2.2.2.1.size; clear hm5 hb5 hm4 hb4 hm2 hb2)
                | ((refine step_append_qw rfl (.tmp 64) (.tmp 70) _ rfl Tryz.underlying31 W0.heap.size k (.slice ab k cb) (fL l xs k) (fF l xs k) ⟨a5, d5, a5', d5'⟩ rfl (hV5.out.below ((Below.refl _ _).alloc (Nat.le_refl _) _)) (fL_length l xs k) w5.heap.size rfl (by omega) (by simp; omega) (by simp [go_sem]) (by simp [go_sem]) (by simp [go_sem]) (by simp [go_sem]) (hM5.out.up ((Below.refl _ _).alloc (Nat.le_refl _) _)) ?_); intro v' w6 hv6 hg6 hw6; rw [fL_next] at hv6; have hB6 := Lib.hid ((hB5.out.step ((Below.refl _ _).alloc (Nat.le_refl _) _)).grown hg6 hv6 hw6); have hc6 := Lib.hid hB6.out.2.1; clear hv6 hg6 hw6))
              obtain ⟨q0, q1', q2', q3'⟩ := hB6.out.cells
              have hM6 := Lib.hid hB6.out.qm
              have hw0 : IntKind.i64.wrap (20 - (H : Int)) = 20 - (H : Int) := by rw [IntKind.wrap_i64]; omega
              have hg6 := hB6.out.2.2.2.2.2.2.1
              go_wp2_with (fail)
              go_region_with (first
                | (go_at_call 34; go_loud (with_reducible refine (make20 (20 - H) _ _ hy2H.out (by omega)).mono ?_); rintro e w7 ⟨a7, d7, a7', d7', rfl, hm7, hb7⟩; have hb7H := Lib.hid (bseqZ (Below.refl _ _).drew hb7); have hB7 := Lib.hid (hB6.out.step hb7H.out); have hM7 := Lib.hid hB7.out.qm; obtain ⟨t0, t1, t2, t3⟩ := hB7.out.cells)
                | (go_at_call 31; go_loud (with_reducible refine (mulq_any p.a p.c p.a' p.c' a7 d7 a7' d7' (rn (aF l xs k)) (rd (aF l xs k)) (rn (q20 (20 - H))) (rd (q20 (20 - H))) _ hM7.out hm7 z1.out z3.out).mono ?_); rintro e w8 ⟨a8, d8, a8', d8', rfl, hm8, hb8⟩; have hB8 := Lib.hid (hB7.out.step hb8))
                | (go_at_call 33; go_loud (with_reducible refine (lowest_q a8 d8 a8' d8' (rn (aF l xs k) * rn (q20 (20 - H))) (rd (aF l xs k) * rd (q20 (20 - H))) (aF l xs (k + 1)) _ hm8 B3.out B4'.out hQ2d.out hA2.out).mono ?_); rintro e w9 ⟨a9, d9, a9', d9', rfl, hm9, hb9⟩; have hB9 := Lib.hid (hB8.out.step hb9); obtain ⟨_, t2, t3, t5, _⟩ := hB9.out.2.2.1))
              all_goals go_wp2_with (fail)
              all_goals go_roundw
              all_goals (first
                | (case rel => (repeat apply Exists.intro); exact ⟨⟨k + 1, ⟨a9, d9, a9', d9'⟩, by rw [← hHH.out]; (try (first | rfl | (rw [hy1H.out]))), by go_num, by omega, by omega, hpreN.out, hB9.out.store hm9⟩, rfl⟩)
                | (case rel => exact ⟨k + 1, ⟨a9, d9, a9', d9'⟩, by rw [← hHH.out]; (try (first | rfl | (rw [hy1H.out]))), by go_num, by omega, by omega, hpreN.out, hB9.out.store hm9⟩)
                | (case measure => simp [intOf]; omega))
          · have e1 : (k : Int) < l := by omega
            have e2 : (k : Int) < 7 := by omega
            have e3 : ¬ (hF l xs k : Int) < 20 := by omega
            go_wp2_with (fail)
            go_meet
            case rel => exact ⟨k, p, rfl, rfl, hk7, hkl, hpreH.out, by omega, hB.out⟩
        · have e1 : (k : Int) < l := by omega
          have e2 : ¬ (k : Int) < 7 := by omega
          go_wp2_with (fail)
          go_meet
          case rel => exact ⟨k, p, rfl, rfl, hk7, hkl, hpreH.out, by omega, hB.out⟩
      · have e1 : ¬ (k : Int) < l := by omega
        go_wp2_with (fail)
        go_meet
        case rel => exact ⟨k, p, rfl, rfl, hk7, hkl, hpreH.out, by omega, hB.out⟩
  case rest =>
    obtain ⟨k, p, rfl, rfl, hk7, hkl, hpre, hstop, hB⟩ := hcut
    obtain ⟨ab, cb, hbv⟩ := hB.2.2.2.1.shape
    subst hbv
    rw [fL_length] at hB ⊢
    have hbc := Lib.hid hB.2.2.2.2.2.1
    have hLq' := ZV.ql hB.2.2.2.1
    have hpreH := Lib.hid hpre
    obtain ⟨ps, hps⟩ : ∃ ps, ps = fL l xs k := ⟨_, rfl⟩
    have hpsH := Lib.hid hps
    rw [← hps] at hLq'
    have hLq := Lib.hid hLq'
    have hpk : Hid (ps.length = k) := by show _ = _; rw [hps, fL_length]
    have hs4 : Hid (∀ q ∈ ps, Short4 q) := fun q hq => by
      rw [hps] at hq
      obtain ⟨j, hj, rfl⟩ := fL_mem hq
      exact fF_short (by omega)
    have hs40 : Hid (∀ s ∈ ps.map nt, s.size ≤ 40) := fun s hs => by
      obtain ⟨q, hq, rfl⟩ := List.mem_map.1 hs
      rw [hps] at hq
      obtain ⟨j, hj, rfl⟩ := fL_mem hq
      exact fF_nt (by omega)
    obtain ⟨ts, hts⟩ : ∃ ts, ts = ps.map nt := ⟨_, rfl⟩
    have htsH := Lib.hid hts
    have htk : Hid (ts.length = k) := by show _ = _; rw [hts, List.length_map]; exact hpk.out
    rw [← hts] at hs40
    have hok := Lib.hid (texts_ok hs4.out)
    rw [← hts] at hok
    have hcs := hB.2.2.2.2.2.1.size
    have n0 : y0 % 30 + 1 ≤ 100 := by omega
    have n1 : y1 % 90 + 1 ≤ 100 := by omega
    obtain ⟨m0, hm0⟩ : ∃ m0, m0 = y0 % 30 + 1 := ⟨_, rfl⟩
    obtain ⟨m1, hm1⟩ : ∃ m1, m1 = y1 % 90 + 1 := ⟨_, rfl⟩
    have hm0H : Hid (((m0 : Nat) : Int) = (y0 : Int) % 30 + 1) := by show _ = _; omega
    have hm1H : Hid (((m1 : Nat) : Int) = (y1 : Int) % 90 + 1) := by show _ = _; omega
    rw [← hm0] at n0
    rw [← hm1] at n1
    have i0 := Lib.hid (int_parts n0)
    have i1 := Lib.hid (int_parts n1)
    obtain ⟨c0, hc0⟩ : ∃ c0, c0 = (((m0 : Nat) : Int) : Rat) := ⟨_, rfl⟩
    obtain ⟨c1, hc1⟩ : ∃ c1, c1 = (((m1 : Nat) : Int) : Rat) := ⟨_, rfl⟩
    have hP0 := PQ.whole m0 (by omega)
    have hP1 := PQ.whole m1 (by omega)
    rw [← hc0] at i0 hP0
    rw [← hc1] at i1 hP1
    rw [hm0H.out] at hP0
    rw [hm1H.out] at hP1
    have e00 : Hid (Rat.divInt ((y0 : Int) % 30 + 1) 1 = c0) := hP0.2.1
    have e10 : Hid (Rat.divInt ((y1 : Int) % 90 + 1) 1 = c1) := hP1.2.1
    have e01 : Hid ((0 : Int) < 1) := by show (0 : Int) < 1; omega
    have hP0H := Lib.hid hP0
    have hP1H := Lib.hid hP1
    have i04 := Lib.hid i0.out.1
    have i14 := Lib.hid i1.out.1
    have y00 := Lib.hid (hP0H.out.z1)
    have y01 := Lib.hid (hP0H.out.z2)
    have y10 := Lib.hid (hP1H.out.z1)
    have y11 := Lib.hid (hP1H.out.z2)
    obtain ⟨pl, hpl⟩ : ∃ pl, pl = nt c0 := ⟨_, rfl⟩
    obtain ⟨fl, hfl⟩ : ∃ fl, fl = nt c1 := ⟨_, rfl⟩
    have hplH := Lib.hid hpl
    have hflH := Lib.hid hfl
    have p40 : pl.size ≤ 40 := by rw [hpl]; exact i0.out.2
    have f40 : fl.size ≤ 40 := by rw [hfl]; exact i1.out.2
    have q0 := Lib.hid (Below.cellAt hbc.out (Nat.le_refl _) hzz.out.1)
    have q1 := Lib.hid (Below.cellAt hbc.out (Nat.le_refl _) hzz.out.2)
    have hstopH := Lib.hid hstop
    clear hps hts hc0 hc1 hP0 hP1 hpl hfl hB hLq' hm0 hm1 hpre hstop
    go_wp2_with (fail)
    obtain ⟨V2, hV2e⟩ : ∃ V2, V2 = wc.alloc (Obj.cells #[] 34) := ⟨_, rfl⟩
    have hO0 : Hid (SV V2 wc.heap.size (.slice (some ⟨wc.heap.size, 0, none⟩) 0 0) []) := by rw [hV2e]; exact SV.lit0 _ _ (Nat.le_refl _)
    have hbO' : Below wc.heap.size wc V2 := by rw [hV2e]; go_grown
    have hbO := Lib.hid hbO'
    rw [← hV2e]
    clear hV2e hbO'
    go_loopw [9, 10] (fun b i wi => ∃ j : Nat, i = .int .i64 (j : Nat) ∧ j ≤ k ∧ SV wi wc.heap.size b (ts.take j) ∧ Below wc.heap.size wc wi) (fun _ i _ => k + 1 - (intOf i).toNat)
    case atStart => exact ⟨0, rfl, by omega, hO0.out, hbO.out⟩
    case round =>
      clear hO0 hbO
      obtain ⟨j, rfl, hj, hO, hbl⟩ := hrel
      obtain ⟨ao2, co2, hbv⟩ := hO.shape
      subst hbv
      have htl : (ts.take j).length = j := by rw [List.length_take, htk.out]; omega
      have htlj := Lib.hid htl
      rw [htl] at hO ⊢
      have hOH := Lib.hid hO
      have hblj := Lib.hid hbl
      have hbs := hbl.size
      clear hO htl
      by_cases hju : j < k
      · obtain ⟨q, hq⟩ : ∃ q, ps[j]? = some q := ⟨_, List.getElem?_eq_getElem (by rw [hpk.out]; omega)⟩
        obtain ⟨b1, o1, p1, rfl, hm1, x0, x1, x2, x3⟩ := (hLq.out.below hbl) j q hq
        have hM1 := Lib.hid (show QM wr p1.a p1.c p1.a' p1.c' (rn q) (rd q) from hm1)
        have hq4 := Lib.hid (hs4.out q (List.mem_of_getElem? hq))
        have hnx : Hid (ts.take j ++ [nt q] = ts.take (j + 1)) := by
          show _ = _
          rw [List.take_add_one, htsH.out, List.getElem?_map, hq]; rfl
        have hkk : (j : Int) < (k : Int) := by omega
        have hk0 : (0 : Int) ≤ (j : Int) := by omega
        have B1 := Lib.hid (show LZ (rn q) ≤ 1000000 by have := LZ_small hq4.out.1; omega)
        have B2 := Lib.hid (show LZ (rd q) ≤ 1000000 by have := LZ_small hq4.out.2; omega)
        clear hq hm1 hbl
        go_wp2_with (first
          | (go_at_call 35; go_loud (with_reducible refine (num_s p1.a p1.c p1.a' p1.c' (rn q) (rd q) q _ hM1.out B1.out B2.out (rd_pos q) (rat_eq q) hq4.out).mono ?_); rintro e w6 ⟨rfl, hb6⟩; have q6 := Lib.hid (bseq hblj.out hb6); have hO6 := Lib.hid (hOH.out.below hb6); have hs6 := q6.out.size; clear hb6)
          | (at_builtin; go_loud (refine wpList_append_num _ rfl (.tmp 93) (.tmp 95) _ rfl Tryz.underlying22 wc.heap.size j (.slice ao2 j co2) (ts.take j) (nt q) rfl (hO6.out.below ((Below.refl _ _).alloc (Nat.le_refl _) _)) htlj.out _ rfl (by omega) (by simp; omega) (by simp [go_sem]) ?_); intro v' w7 hv7 hg7; rw [hnx.out] at hv7; have hb7 := Lib.hid ((q6.out.alloc hs6 _).grown hg7 (by simp; omega) (fun g hg => (hOH.out.lt g hg).1)); clear hg7))
        go_roundw
        case rel => exact ⟨j + 1, by go_num, by omega, hv7, hb7.out⟩
        case measure => simp [intOf]; omega
      · have hkk : ¬ (j : Int) < (k : Int) := by omega
        have hje : j = k := by omega
        subst hje
        have hfull : Hid (ts.take j = ts) := by show _ = _; rw [List.take_of_length_le (by rw [htk.out]; exact Nat.le_refl _)]
        have h9 := hOH.out
        rw [hfull.out] at h9
        have hS := Lib.hid (SV.sl h9)
        have u0 := Below.cellAt hbl (Nat.le_refl _) q0.out
        have u1 := Below.cellAt hbl (Nat.le_refl _) q1.out
        have r0 := Lib.hid (bseq (bseq hbW.out (hbc.out.trans (hblj.out.mono hcs))) (Below.refl wr.heap.size wr))
        clear h9 hbl
        go_wp2_with (first
          | (go_at_call 29; go_loud (with_reducible refine (whole_z m0 ((y0 : Int) % 30 + 1) hm0H.out _ (by omega)).mono ?_); rintro e w2 ⟨a2, d2, a2', d2', rfl, hm2, hb2⟩; have hm2H := Lib.hid hm2; have r2 := Lib.hid (bseq r0.out hb2); have v2 := Below.cellAt hb2 (Nat.le_refl _) u1; have hS2 := Lib.hid (hS.out.below hb2); clear hm2 hb2)
          | (go_at_call 35; go_loud (with_reducible refine (num_s a2 d2 a2' d2' ((y0 : Int) % 30 + 1) 1 c0 _ hm2H.out y00.out y01.out e01.out e00.out i04.out).mono ?_); rintro e w3 ⟨rfl, hb3⟩; rw [← hplH.out]; have r3 := Lib.hid (bseq r2.out hb3); have v3 := Below.cellAt hb3 (Nat.le_refl _) v2; have hS3 := Lib.hid (hS2.out.below hb3); clear hb3)
          | (go_at_call 29; go_loud (with_reducible refine (whole_z m1 ((y1 : Int) % 90 + 1) hm1H.out _ (by omega)).mono ?_); rintro e w4 ⟨a4, d4, a4', d4', rfl, hm4, hb4⟩; have hm4H := Lib.hid hm4; have r4 := Lib.hid (bseq r3.out hb4); have hS4 := Lib.hid (hS3.out.below hb4); clear hm4 hb4)
          | (go_at_call 35; go_loud (with_reducible refine (num_s a4 d4 a4' d4' ((y1 : Int) % 90 + 1) 1 c1 _ hm4H.out y10.out y11.out e01.out e10.out i14.out).mono ?_); rintro e w5 ⟨rfl, hb5⟩; rw [← hflH.out]; have r5 := Lib.hid (bseq r4.out hb5); have hS5 := Lib.hid (hS4.out.below hb5); clear hb5))
        clear u0 u1 v2 v3
        obtain ⟨e, he⟩ := costE.ex ts pl fl
        have hlt := Lib.hid (show j ≤ 1000 by omega)
        by_cases he0 : e = 0
        · subst he0
          have heH := Lib.hid he
          have hg' : (allOK ts ∧ parseOK pl ∧ parseOK fl) ∧ (livesGood (ts.map parseQ) ∧ costOK (parseQ pl) ∧ costOK (parseQ fl)) := by
            rcases he with ⟨_, h9⟩ | ⟨_, _, h9⟩ | ⟨h1, h2, _⟩
            · exact absurd h9 (by decide)
            · exact absurd h9 (by decide)
            · exact ⟨h1, h2⟩
          obtain ⟨hok3, hg⟩ := hg'
          have hokH := Lib.hid hok3
          have hg0 := hg
          rw [hok.out.2] at hg
          have hlv := Lib.hid (Lv.of hg.1)
          have hj1 : 1 ≤ j := by have := hlv.out.pos; rw [hpk.out] at this; exact this
          have hst := Lib.hid (hlv.out.rateSt (Cs.of hg.2.1) (Cs.of hg.2.2))
          obtain ⟨rs, hrs⟩ : ∃ rs, rs = rateL ps (parseQ pl) (parseQ fl) := ⟨_, rfl⟩
          have hrl : Hid (rs.length = j) := by show _ = _; rw [hrs, rateL_length]; exact hpk.out
          have hrl2 : Hid ((rs.map nt).length = j) := by show _ = _; rw [List.length_map]; exact hrl.out
          have hrz : Hid (∀ r ∈ rs, Sz r ∧ numRes r = (nt r, 0)) := by rw [hrs]; exact hlv.out.rateL (Cs.of hg.2.1) (Cs.of hg.2.2)
          have hr4 : Hid (∀ r ∈ rs, Short4 r) := fun r hr => by
            rw [hrs] at hr
            obtain ⟨i, _, rfl⟩ := List.mem_map.1 hr
            exact hst.out.rate i
          have hr : Hid (∀ (v : World) (a : Option Addr) (c : Nat), SL v a ts → Calls Tryz.prog 55 #[.slice a j c, .string pl, .string fl] v (RetLives v rs)) := fun v a c hS => by
            rw [hrs]; exact rates_0 a c j ts pl fl ps v hok.out.2 htk.out hS hs40.out p40 f40 hokH.out hg
          have hrT : Hid (∀ (v : World) (a : Option Addr) (c : Nat), SL v a ts → Calls Tryz.prog 19 #[.slice a j c, .string pl, .string fl] v (RetNums v (rs.map nt))) := fun v a c hS => ratesT_good rs a c j pl fl v (hr.out v a c hS) (by rw [hrl.out]; omega) hrz.out
          obtain ⟨t, ht⟩ : ∃ t, t = bestK rs j := ⟨_, rfl⟩
          have htj : t < j := by rw [ht]; exact bestK_lt rs j hj1
          obtain ⟨r, hrt⟩ : ∃ r, rs[t]? = some r := ⟨_, List.getElem?_eq_getElem (by rw [hrl.out]; exact htj)⟩
          have hrB : Hid (∀ (v : World) (a : Option Addr) (c : Nat), SL v a ts → Calls Tryz.prog 20 #[.slice a j c, .string pl, .string fl] v (RetBest v (t + 1) (nt r))) := fun v a c hS => by
            have := replace_good rs a c j pl fl v (hr.out v a c hS) (by rw [hrl.out]; exact hj1) (by rw [hrl.out]; omega) hrz.out
            rw [hrl.out, ← ht, show nth rs t = r by unfold nth; rw [hrt]; rfl] at this
            exact this
          have hrd : Hid (∀ (v : World) (a : Option Addr) (c : Nat), SL v a ts → Calls Tryz.prog 49 #[.slice a j c] v (RetLives v ps)) := fun v a c hS => by
            have := read_0 a c ts v hS hs40.out hokH.out.1 hg0.1
            rw [htk.out, hok.out.2] at this
            exact this
          have hplan : Hid (planP rs (hazL ps) t j) := by
            rw [ht, hrs]
            exact plan_ok hpsH.out (fun i hi => (hpreH.out i hi).2.2) hlv.out (Cs.of hg.2.1) (Cs.of hg.2.2)
          obtain ⟨hs, hhs⟩ : ∃ hs, hs = hazL ps := ⟨_, rfl⟩
          rw [← hhs] at hplan
          have hzl : Hid (hs.length = j) := by show _ = _; rw [hhs, hazL_length]; exact hpk.out
          have hzl2 : Hid ((hs.map nt).length = j) := by show _ = _; rw [List.length_map]; exact hzl.out
          have hz4 : Hid (∀ q ∈ hs, Short4 q) := fun q hq => by rw [hhs] at hq; exact (hlv.out.hazOK q hq).2.2
          have hrH : Hid (∀ (v : World) (a : Option Addr) (c : Nat), SL v a ts → Calls Tryz.prog 36 #[.slice a j c] v (RetNums v (hs.map nt))) := fun v a c hS => by
            rw [hhs]; exact hazards_good a c j ps v (hrd.out v a c hS) (by rw [hpk.out]; exact hj1) (by rw [hpk.out]; omega) hlv.out.ageSz
          have hq1 : Hid (∀ (v : World) (a : Option Addr) (c : Nat), SL v a (rs.map nt) → Calls Tryz.prog 28 #[.slice a j c] v (RetLQ v rs)) := fun v a c hS => lqs_any a c j rs v hrl.out hS (by omega) hr4.out
          have hq2 : Hid (∀ (v : World) (a : Option Addr) (c : Nat), SL v a (hs.map nt) → Calls Tryz.prog 28 #[.slice a j c] v (RetLQ v hs)) := fun v a c hS => lqs_any a c j hs v hzl.out hS (by omega) hz4.out
          have hrtt : Hid ((rs.map nt)[t]? = some (nt r)) := by show _ = _; rw [List.getElem?_map, hrt]; rfl
          have hrtH := Lib.hid hrt
          have hrr4 := Lib.hid (hr4.out r (List.mem_of_getElem? hrt))
          have htjI : (t : Int) < (j : Int) := by omega
          have ht0I : (0 : Int) ≤ (t : Int) := by omega
          clear he hok3 hg hg0 hrs hr ht hrt hrd hhs
          go_wp2_with (first
            | (go_at_call 19; go_loud (with_reducible refine (hrT.out _ ao2 co2 hS5.out).mono ?_); rintro e w6 ⟨a6, c6, rfl, hV6, hb6⟩; have r6 := Lib.hid (bseq r5.out hb6); have hS6 := Lib.hid (hS5.out.below hb6); have hT6 := Lib.hid (SV.sl hV6); rw [hrl2.out]; clear hV6 hb6)
            | (go_at_call 20; go_loud (with_reducible refine (hrB.out _ ao2 co2 hS6.out).mono ?_); rintro e w7 ⟨rfl, hb7⟩; have r7 := Lib.hid (bseq r6.out hb7); have hS7 := Lib.hid (hS6.out.below hb7); have hT7 := Lib.hid (hT6.out.below hb7); clear hb7)
            | (go_at_call 21; go_loud (with_reducible refine (costsR_any _ ao2 co2 j ts pl fl _ heH.out htk.out hS7.out hlt.out hs40.out p40 f40).mono ?_); rintro e w8 ⟨rfl, hb8⟩; have r8 := Lib.hid (bseq r7.out hb8); have hS8 := Lib.hid (hS7.out.below hb8); have hT8 := Lib.hid (hT7.out.below hb8); clear hb8)
            | (go_at_call 36; go_loud (with_reducible refine (hrH.out _ ao2 co2 hS8.out).mono ?_); rintro e w9 ⟨a9, c9, rfl, hV9, hb9⟩; have r9 := Lib.hid (bseq r8.out hb9); have hT9 := Lib.hid (hT8.out.below hb9); have hZ9 := Lib.hid (SV.sl hV9); rw [hzl2.out]; clear hV9 hb9)
            | (go_at_call 28; go_loud (with_reducible refine (hq1.out _ a6 c6 hT9.out).mono ?_); rintro e w10 ⟨a10, c10, rfl, hV10, hb10⟩; have r10 := Lib.hid (bseq r9.out hb10); have hT10 := Lib.hid (hT9.out.below hb10); have hZ10 := Lib.hid (hZ9.out.below hb10); have hR10 := Lib.hid (ZV.ql hV10); rw [hrl.out]; clear hV10 hb10)
            | (go_at_call 28; go_loud (with_reducible refine (hq2.out _ a9 c9 hZ10.out).mono ?_); rintro e w11 ⟨a11, c11, rfl, hV11, hb11⟩; have r11 := Lib.hid (bseq r10.out hb11); obtain ⟨b6, o6, rfl, t0⟩ := (hT10.out.below hb11) t (nt r) hrtt.out; have hR11 := Lib.hid (hR10.out.below hb11); have hH11 := Lib.hid (ZV.ql hV11); rw [hzl.out]; clear hV11 hb11)
            | (go_at_call 14; go_loud (with_reducible refine (lives_any _).mono ?_); rintro e w12 ⟨rfl, hb12⟩; have r12 := Lib.hid (bseq r11.out hb12); have hR12 := Lib.hid (hR11.out.below hb12); have hH12 := Lib.hid (hH11.out.below hb12); clear hb12))
          have srr := Lib.hid ((PQ.low hrr4.out).szq (by omega))
          clear hl1 hy0 hy1 hlH hxH hbW hD0 hzz hz0 hWH hs1 hBLH hVH hbc hLq hs4 hs40 htsH hok hcs n0 n1 hm0H hm1H i0 i1 e00 e10 e01 hP0H hP1H i04 i14 y00 y01 y10 y11 hplH hflH p40 f40 q0 q1 htlj hOH hblj hbs hkl hpreH hpsH hpk htk hstopH hj hju hfull hS r0 hm2H r2 hS2 hkk r3 hS3 hm4H r4 hS4 r5 hS5 hlt heH hokH hlv hst hrl2 hrz hrT hrB hrH hq1 hq2 hzl2 hrtt htjI ht0I r6 r7 r8 r9 r10 r11 hS6 hS7 hS8 hZ9 hZ10 hR10 hR11 hT6 hT7 hT8 hT9 hT10 hH11 t0
          go_loopw [29] (fun i wx => ∃ i' : Nat, i = .int .i64 (i' : Nat) ∧ 1 ≤ i' ∧ i' ≤ j ∧ Below w12.heap.size w12 wx) (fun i _ => j - (intOf i).toNat)
          case atStart => exact ⟨1, rfl, by omega, by omega, Below.refl _ _⟩
          case round =>
            obtain ⟨i, rfl, hi1, hij, hbl⟩ := hrel
            have hblH := Lib.hid hbl
            by_cases hilt : i < j
            · obtain ⟨v, hv⟩ : ∃ v, v = i - 1 := ⟨_, rfl⟩
              obtain ⟨z, hz⟩ : ∃ z, z = i + 1 := ⟨_, rfl⟩
              obtain ⟨q1, hq1'⟩ : ∃ q, hs[i]? = some q := ⟨_, List.getElem?_eq_getElem (by rw [hzl.out]; omega)⟩
              obtain ⟨q2, hq2'⟩ : ∃ q, hs[v]? = some q := ⟨_, List.getElem?_eq_getElem (by rw [hzl.out]; omega)⟩
              obtain ⟨q3, hq3'⟩ : ∃ q, rs[i]? = some q := ⟨_, List.getElem?_eq_getElem (by rw [hrl.out]; omega)⟩
              obtain ⟨q4, hq4'⟩ : ∃ q, rs[v]? = some q := ⟨_, List.getElem?_eq_getElem (by rw [hrl.out]; omega)⟩
              obtain ⟨b1, o1, p1, ha1, hm1, e0, e1, e2, e3⟩ := (hH12.out.below hbl) i q1 hq1'
              obtain ⟨b2, o2, p2, ha2, hm2, f0, f1, f2, f3⟩ := (hH12.out.below hbl) v q2 hq2'
              rw [ha1] at ha2
              injection ha2 with ha2
              injection ha2 with g1 g2 g3
              subst g1 g2 ha1
              obtain ⟨b3, o3, p3, ha3, hm3, c0', c1', c2', c3'⟩ := (hR12.out.below hbl) i q3 hq3'
              obtain ⟨b4, o4, p4, ha4, hm4, t0', t1', t2', t3'⟩ := (hR12.out.below hbl) v q4 hq4'
              rw [ha3] at ha4
              injection ha4 with ha4
              injection ha4 with g1 g2 g3
              subst g1 g2 ha3
              have hp1 := Lib.hid (show QM wr p1.a p1.c p1.a' p1.c' (rn q1) (rd q1) from hm1)
              have hp2 := Lib.hid (show QM wr p2.a p2.c p2.a' p2.c' (rn q2) (rd q2) from hm2)
              have hp3 := Lib.hid (show QM wr p3.a p3.c p3.a' p3.c' (rn q3) (rd q3) from hm3)
              have hp4 := Lib.hid (show QM wr p4.a p4.c p4.a' p4.c' (rn q4) (rd q4) from hm4)
              have sp1 := Lib.hid ((PQ.low (hz4.out q1 (List.mem_of_getElem? hq1'))).szq (by omega))
              have sp2 := Lib.hid ((PQ.low (hz4.out q2 (List.mem_of_getElem? hq2'))).szq (by omega))
              have sp3 := Lib.hid ((PQ.low (hr4.out q3 (List.mem_of_getElem? hq3'))).szq (by omega))
              have sp4 := Lib.hid ((PQ.low (hr4.out q4 (List.mem_of_getElem? hq4'))).szq (by omega))
              have hpl3 := hplan.out i hi1 hilt
              rw [← hv, ← hz, nth_of hq1', nth_of hq2', nth_of hq3', nth_of hq4', nth_of hrtH.out] at hpl3
              obtain ⟨hpa, hpb, hpc⟩ := hpl3
              obtain ⟨zA, hzA'⟩ : ∃ x, rsg q1 q2 = x := ⟨_, rfl⟩
              obtain ⟨zB, hzB'⟩ : ∃ x, rsg q3 r = x := ⟨_, rfl⟩
              obtain ⟨zC, hzC'⟩ : ∃ x, rsg q3 q4 = x := ⟨_, rfl⟩
              rw [hzA'] at hpa
              rw [hzB'] at hpb
              rw [hzC'] at hpc
              have hA2 : decide (zA < 0) = false := by simp; omega
              have hB2 : decide (zB < 0) = false := by simp; omega
              have hzA := Lib.hid hzA'
              have hzB := Lib.hid hzB'
              have hzC := Lib.hid hzC'
              have hzb : b1 < wr.heap.size := World.block_lt_of_cell? wr _ e0
              have hzb3 : b3 < wr.heap.size := World.block_lt_of_cell? wr _ c0'
              have hik : (i : Int) < (j : Int) := by omega
              have hi0 : (0 : Int) ≤ (i : Int) := by omega
              have hvi : (i : Int) - 1 = (v : Int) := by omega
              have hvj : (v : Int) < (j : Int) := by omega
              have hv0 : (0 : Int) ≤ (v : Int) := by omega
              have hzi : (i : Int) + 1 = (z : Int) := by omega
              have hz0' : (0 : Int) ≤ (z : Int) := by omega
              have hzj' : (z : Int) ≤ (j : Int) := by omega
              have hwv : IntKind.i64.wrap (v : Int) = (v : Int) := by rw [IntKind.wrap_i64]; omega
              have hwz : IntKind.i64.wrap (z : Int) = (z : Int) := by rw [IntKind.wrap_i64]; omega
              have hvH := Lib.hid hv
              have hzH := Lib.hid hz
              have hpcH := Lib.hid hpc
              clear hzA' hzB' hzC' hm1 hm2 hm3 hm4 hq1' hq2' hq4' hbl hv hz hpc
              by_cases hzj : z < j
              · obtain ⟨q5, hq5'⟩ : ∃ q, rs[z]? = some q := ⟨_, List.getElem?_eq_getElem (by rw [hrl.out]; omega)⟩
                obtain ⟨b5, o5, p5, ha5, hm5, y0', y1', y2', y3'⟩ := (hR12.out.below hblH.out) z q5 hq5'
                injection ha5 with ha5
                injection ha5 with g1 g2 g3
                subst g1 g2
                have hp5 := Lib.hid (show QM wr p5.a p5.c p5.a' p5.c' (rn q5) (rd q5) from hm5)
                have sp5 := Lib.hid ((PQ.low (hr4.out q5 (List.mem_of_getElem? hq5'))).szq (by omega))
                have hpd := hpcH.out hzj
                rw [nth_of hq5'] at hpd
                obtain ⟨zD, hzD'⟩ : ∃ x, rsg q3 q5 = x := ⟨_, rfl⟩
                rw [hzD'] at hpd
                have hzD := Lib.hid hzD'
                have hzjI : (z : Int) < (j : Int) := by omega
                have hz2b : decide ((z : Int) < (j : Int)) = true := by simp; omega
                clear hm5 hq5' hzD'
                by_cases hC : 0 < zC
                · have hD : ¬ 0 < zD := fun h9 => hpd ⟨hC, h9⟩
                  have hC2 : decide (0 < zC) = true := by simp; omega
                  have hD2 : decide (0 < zD) = false := by simp; omega
                  clear hpd
                  go_upto_region 31 with (fail)
                  -- region 31, way 1
                  refine wp_region_held_drew (S := fun w' => Kq wr w') (by kernel_rfl) (Kq.drew _) (fun hHeld => ?_)
                  refine wpAnyH_take (i := 0) (oi := ?oi1w0) (v := ?v1w0) ?ho1w0 (by kernel_rfl) (by kernel_rfl) (by kernel_rfl) ?hq1w0 (Or.inl ⟨?hw1w0, ?hy1w0⟩) (by assumption) ?_
                  case ho1w0 => rfl
                  case hw1w0 => rfl
                  case hy1w0 => (intro w hSw; (try dsimp only at hSw); go_simp; (try (with_reducible rfl)))
                  case hq1w0 => exact fun _ _ _ h => h
                  simp only [Act.put, List.getElem_toArray, List.getElem_cons_zero, List.setIfInBounds_toArray, List.set_cons_zero, List.set_cons_succ]
                  refine wpAnyH_take (i := 1) (oi := ?oi1w1) (v := ?v1w1) ?ho1w1 (by kernel_rfl) (by kernel_rfl) (by kernel_rfl) ?hq1w1 (Or.inl ⟨?hw1w1, ?hy1w1⟩) (by assumption) ?_
                  case ho1w1 => rfl
                  case hw1w1 => rfl
                  case hy1w1 => (intro w hSw; (try dsimp only at hSw); go_simp; (try (with_reducible rfl)))
                  case hq1w1 => exact fun _ _ _ h => h
                  simp only [Act.put, List.getElem_toArray, List.getElem_cons_succ, List.getElem_cons_zero, List.setIfInBounds_toArray, List.set_cons_zero, List.set_cons_succ]
                  refine wpAnyH_take (i := 2) (oi := ?oi1w2) (v := ?v1w2) ?ho1w2 (by kernel_rfl) (by kernel_rfl) (by kernel_rfl) ?hq1w2 (Or.inl ⟨?hw1w2, ?hy1w2⟩) (by assumption) ?_
                  case ho1w2 => rfl
                  case hw1w2 => rfl
                  case hy1w2 => (intro w hSw; (try dsimp only at hSw); go_simp; (try (with_reducible rfl)))
                  case hq1w2 => exact fun _ _ _ h => h
                  simp only [Act.put, List.getElem_toArray, List.getElem_cons_succ, List.getElem_cons_zero, List.setIfInBounds_toArray, List.set_cons_zero, List.set_cons_succ]
                  refine wpAnyH_take (i := 3) (oi := ?oi1w3) (v := ?v1w3) ?ho1w3 (by kernel_rfl) (by kernel_rfl) (by kernel_rfl) ?hq1w3 (Or.inl ⟨?hw1w3, ?hy1w3⟩) (by assumption) ?_
                  case ho1w3 => rfl
                  case hw1w3 => rfl
                  case hy1w3 => (intro w hSw; (try dsimp only at hSw); go_simp; (try (with_reducible rfl)))
                  case hq1w3 => exact fun _ _ _ h => h
                  simp only [Act.put, List.getElem_toArray, List.getElem_cons_succ, List.getElem_cons_zero, List.setIfInBounds_toArray, List.set_cons_zero, List.set_cons_succ]
                  refine wpAnyH_take (i := 4) (oi := ?oi1w4) (v := ?v1w4) ?ho1w4 (by kernel_rfl) (by kernel_rfl) (by kernel_rfl) ?hq1w4 (Or.inl ⟨?hw1w4, ?hy1w4⟩) (by assumption) ?_
                  case ho1w4 => rfl
                  case hw1w4 => rfl
                  case hy1w4 => (intro w hSw; (try dsimp only at hSw); go_simp; (try (with_reducible rfl)))
                  case hq1w4 => exact fun _ _ _ h => h
                  simp only [Act.put, List.getElem_toArray, List.getElem_cons_succ, List.getElem_cons_zero, List.setIfInBounds_toArray, List.set_cons_zero, List.set_cons_succ]
                  refine wpAnyH_take (i := 5) (oi := ?oi1w5) (v := ?v1w5) ?ho1w5 (by kernel_rfl) (by kernel_rfl) (by kernel_rfl) ?hq1w5 (Or.inl ⟨?hw1w5, ?hy1w5⟩) (by assumption) ?_
                  case ho1w5 => rfl
                  case hw1w5 => rfl
                  case hy1w5 => (intro w hSw; (try dsimp only at hSw); go_simp; (try (with_reducible rfl)))
                  case hq1w5 => exact fun _ _ _ h => h
                  simp only [Act.put, List.getElem_toArray, List.getElem_cons_succ, List.getElem_cons_zero, List.setIfInBounds_toArray, List.set_cons_zero, List.set_cons_succ]
                  refine wpAnyH_take (i := 6) (oi := ?oi1w6) (v := ?v1w6) ?ho1w6 (by kernel_rfl) (by kernel_rfl) (by kernel_rfl) ?hq1w6 (Or.inl ⟨?hw1w6, ?hy1w6⟩) (by assumption) ?_
                  case ho1w6 => rfl
                  case hw1w6 => rfl
                  case hy1w6 => (intro w hSw; (try dsimp only at hSw); go_simp; (try (with_reducible rfl)))
                  case hq1w6 => exact fun _ _ _ h => h
                  simp only [Act.put, List.getElem_toArray, List.getElem_cons_succ, List.getElem_cons_zero, List.setIfInBounds_toArray, List.set_cons_zero, List.set_cons_succ]
                  refine wpAnyH_take (i := 7) (oi := ?oi1w7) (v := ?v1w7) ?ho1w7 (by kernel_rfl) (by kernel_rfl) (by kernel_rfl) ?hq1w7 (Or.inl ⟨?hw1w7, ?hy1w7⟩) (by assumption) ?_
                  case ho1w7 => rfl
                  case hw1w7 => rfl
                  case hy1w7 => (intro w hSw; (try dsimp only at hSw); go_simp; (try (with_reducible rfl)))
                  case hq1w7 => exact fun _ _ _ h => h
                  simp only [Act.put, List.getElem_toArray, List.getElem_cons_succ, List.getElem_cons_zero, List.setIfInBounds_toArray, List.set_cons_zero, List.set_cons_succ]
                  refine wpAnyH_take (i := 8) (oi := ?oi1w8) (v := ?v1w8) ?ho1w8 (by kernel_rfl) (by kernel_rfl) (by kernel_rfl) ?hq1w8 (Or.inl ⟨?hw1w8, ?hy1w8⟩) (by assumption) ?_
                  case ho1w8 => rfl
                  case hw1w8 => rfl
                  case hy1w8 => (intro w hSw; (try dsimp only at hSw); go_simp; (try (with_reducible rfl)))
                  case hq1w8 => exact fun _ _ _ h => h
                  simp only [Act.put, List.getElem_toArray, List.getElem_cons_succ, List.getElem_cons_zero, List.setIfInBounds_toArray, List.set_cons_zero, List.set_cons_succ]
                  refine wpAnyH_ready (rs := [9]) (by kernel_rfl) (by simp) ?_
                  refine AllReadyH.cons rfl (fun K hK => ?_) AllReadyH.nil
                  go_simp
                  (go_at_call 24; (with_reducible refine (cmp_z zA p1.a p1.c p1.a' p1.c' p2.a p2.c p2.a' p2.c' q1 q2 _ hzA.out (QM.kq hp1.out (by assumption)) (QM.kq hp2.out (by assumption)) sp1.out sp2.out).mono ?_); rintro e x1 ⟨rfl, hb1⟩; have k1 : Kq wr x1 := Kq.step (by assumption) hb1)
                  (try go_wp2_with (fail))
                  refine hK.out _ _ k1 (fun hHeld => ?_)
                  clear hK K
                  refine wpAnyH_take (i := 10) (oi := ?oi1w10) (v := ?v1w10) ?ho1w10 (by kernel_rfl) (by kernel_rfl) (by kernel_rfl) ?hq1w10 (Or.inl ⟨?hw1w10, ?hy1w10⟩) (by assumption) ?_
                  case ho1w10 => rfl
                  case hw1w10 => rfl
                  case hy1w10 => (intro w hSw; (try dsimp only at hSw); go_simp; (try (with_reducible rfl)))
                  case hq1w10 => exact fun _ _ _ h => h
                  simp only [Act.put, List.getElem_toArray, List.getElem_cons_succ, List.getElem_cons_zero, List.setIfInBounds_toArray, List.set_cons_zero, List.set_cons_succ]
                  refine wpAnyH_take (i := 11) (oi := ?oi1w11) (v := ?v1w11) ?ho1w11 (by kernel_rfl) (by kernel_rfl) (by kernel_rfl) ?hq1w11 (Or.inl ⟨?hw1w11, ?hy1w11⟩) (by assumption) ?_
                  case ho1w11 => rfl
                  case hw1w11 => rfl
                  case hy1w11 => (intro w hSw; (try dsimp only at hSw); go_simp; (try (with_reducible rfl)))
                  case hq1w11 => exact fun _ _ _ h => h
                  simp only [Act.put, List.getElem_toArray, List.getElem_cons_succ, List.getElem_cons_zero, List.setIfInBounds_toArray, List.set_cons_zero, List.set_cons_succ]
                  refine wpAnyH_take (i := 12) (oi := ?oi1w12) (v := ?v1w12) ?ho1w12 (by kernel_rfl) (by kernel_rfl) (by kernel_rfl) ?hq1w12 (Or.inl ⟨?hw1w12, ?hy1w12⟩) (by assumption) ?_
                  case ho1w12 => rfl
                  case hw1w12 => rfl
                  case hy1w12 => (intro w hSw; (try dsimp only at hSw); go_simp; (try (with_reducible rfl)))
                  case hq1w12 => exact fun _ _ _ h => h
                  simp only [Act.put, List.getElem_toArray, List.getElem_cons_succ, List.getElem_cons_zero, List.setIfInBounds_toArray, List.set_cons_zero, List.set_cons_succ]
                  refine wpAnyH_take (i := 13) (oi := ?oi1w13) (v := ?v1w13) ?ho1w13 (by kernel_rfl) (by kernel_rfl) (by kernel_rfl) ?hq1w13 (Or.inl ⟨?hw1w13, ?hy1w13⟩) (by assumption) ?_
                  case ho1w13 => rfl
                  case hw1w13 => rfl
                  case hy1w13 => (intro w hSw; (try dsimp only at hSw); go_simp; (try (with_reducible rfl)))
                  case hq1w13 => exact fun _ _ _ h => h
                  simp only [Act.put, List.getElem_toArray, List.getElem_cons_succ, List.getElem_cons_zero, List.setIfInBounds_toArray, List.set_cons_zero, List.set_cons_succ]
                  refine wpAnyH_take (i := 14) (oi := ?oi1w14) (v := ?v1w14) ?ho1w14 (by kernel_rfl) (by kernel_rfl) (by kernel_rfl) ?hq1w14 (Or.inl ⟨?hw1w14, ?hy1w14⟩) (by assumption) ?_
                  case ho1w14 => rfl
                  case hw1w14 => rfl
                  case hy1w14 => (intro w hSw; (try dsimp only at hSw); go_simp; (try (with_reducible rfl)))
                  case hq1w14 => exact fun _ _ _ h => h
                  simp only [Act.put, List.getElem_toArray, List.getElem_cons_succ, List.getElem_cons_zero, List.setIfInBounds_toArray, List.set_cons_zero, List.set_cons_succ]
                  refine wpAnyH_take (i := 15) (oi := ?oi1w15) (v := ?v1w15) ?ho1w15 (by kernel_rfl) (by kernel_rfl) (by kernel_rfl) ?hq1w15 (Or.inl ⟨?hw1w15, ?hy1w15⟩) (by assumption) ?_
                  case ho1w15 => rfl
                  case hw1w15 => rfl
                  case hy1w15 => (intro w hSw; (try dsimp only at hSw); go_simp; (try (with_reducible rfl)))
                  case hq1w15 => exact fun _ _ _ h => h
                  simp only [Act.put, List.getElem_toArray, List.getElem_cons_succ, List.getElem_cons_zero, List.setIfInBounds_toArray, List.set_cons_zero, List.set_cons_succ]
                  refine wpAnyH_take (i := 16) (oi := ?oi1w16) (v := ?v1w16) ?ho1w16 (by kernel_rfl) (by kernel_rfl) (by kernel_rfl) ?hq1w16 (Or.inl ⟨?hw1w16, ?hy1w16⟩) (by assumption) ?_
                  case ho1w16 => rfl
                  case hw1w16 => rfl
                  case hy1w16 => (intro w hSw; (try dsimp only at hSw); go_simp; (try (with_reducible rfl)))
                  case hq1w16 => exact fun _ _ _ h => h
                  simp only [Act.put, List.getElem_toArray, List.getElem_cons_succ, List.getElem_cons_zero, List.setIfInBounds_toArray, List.set_cons_zero, List.set_cons_succ]
                  refine wpAnyH_ready (rs := [17]) (by kernel_rfl) (by simp) ?_
                  refine AllReadyH.cons rfl (fun K hK => ?_) AllReadyH.nil
                  go_simp
                  (go_at_call 23; (with_reducible refine (of_t r _ hrr4.out).mono ?_); rintro e x2 ⟨a20, d20, a20', d20', rfl, hm20, hb2⟩; have hm20H := Lib.hid hm20; have k2 : Kq wr x2 := Kq.step (by assumption) hb2; clear hm20)
                  (try go_wp2_with (fail))
                  refine hK.out _ _ k2 (fun hHeld => ?_)
                  clear hK K
                  refine wpAnyH_ready (rs := [18]) (by kernel_rfl) (by simp) ?_
                  refine AllReadyH.cons rfl (fun K hK => ?_) AllReadyH.nil
                  go_simp
                  (go_at_call 24; (with_reducible refine (cmp_z zB p3.a p3.c p3.a' p3.c' a20 d20 a20' d20' q3 r _ hzB.out (QM.kq hp3.out (by assumption)) hm20H.out sp3.out srr.out).mono ?_); rintro e x3 ⟨rfl, hb3⟩; have k3 : Kq wr x3 := Kq.step (by assumption) hb3)
                  (try go_wp2_with (fail))
                  refine hK.out _ _ k3 (fun hHeld => ?_)
                  clear hK K
                  refine wpAnyH_take (i := 19) (oi := ?oi1w19) (v := ?v1w19) ?ho1w19 (by kernel_rfl) (by kernel_rfl) (by kernel_rfl) ?hq1w19 (Or.inl ⟨?hw1w19, ?hy1w19⟩) (by assumption) ?_
                  case ho1w19 => rfl
                  case hw1w19 => rfl
                  case hy1w19 => (intro w hSw; (try dsimp only at hSw); go_simp; (try (with_reducible rfl)))
                  case hq1w19 => exact fun _ _ _ h => h
                  simp only [Act.put, List.getElem_toArray, List.getElem_cons_succ, List.getElem_cons_zero, List.setIfInBounds_toArray, List.set_cons_zero, List.set_cons_succ]
                  refine wpAnyH_take (i := 20) (oi := ?oi1w20) (v := ?v1w20) ?ho1w20 (by kernel_rfl) (by kernel_rfl) (by kernel_rfl) ?hq1w20 (Or.inl ⟨?hw1w20, ?hy1w20⟩) (by assumption) ?_
                  case ho1w20 => rfl
                  case hw1w20 => rfl
                  case hy1w20 => (intro w hSw; (try dsimp only at hSw); go_simp; (try (with_reducible rfl)))
                  case hq1w20 => exact fun _ _ _ h => h
                  simp only [Act.put, List.getElem_toArray, List.getElem_cons_succ, List.getElem_cons_zero, List.setIfInBounds_toArray, List.set_cons_zero, List.set_cons_succ]
                  refine wpAnyH_take (i := 21) (oi := ?oi1w21) (v := ?v1w21) ?ho1w21 (by kernel_rfl) (by kernel_rfl) (by kernel_rfl) ?hq1w21 (Or.inl ⟨?hw1w21, ?hy1w21⟩) (by assumption) ?_
                  case ho1w21 => rfl
                  case hw1w21 => rfl
                  case hy1w21 => (intro w hSw; (try dsimp only at hSw); go_simp; (try (with_reducible rfl)))
                  case hq1w21 => exact fun _ _ _ h => h
                  simp only [Act.put, List.getElem_toArray, List.getElem_cons_succ, List.getElem_cons_zero, List.setIfInBounds_toArray, List.set_cons_zero, List.set_cons_succ]
                  refine wpAnyH_take (i := 22) (oi := ?oi1w22) (v := ?v1w22) ?ho1w22 (by kernel_rfl) (by kernel_rfl) (by kernel_rfl) ?hq1w22 (Or.inl ⟨?hw1w22, ?hy1w22⟩) (by assumption) ?_
                  case ho1w22 => rfl
                  case hw1w22 => rfl
                  case hy1w22 => (intro w hSw; (try dsimp only at hSw); go_simp; (try (with_reducible rfl)))
                  case hq1w22 => exact fun _ _ _ h => h
                  simp only [Act.put, List.getElem_toArray, List.getElem_cons_succ, List.getElem_cons_zero, List.setIfInBounds_toArray, List.set_cons_zero, List.set_cons_succ]
                  refine wpAnyH_take (i := 23) (oi := ?oi1w23) (v := ?v1w23) ?ho1w23 (by kernel_rfl) (by kernel_rfl) (by kernel_rfl) ?hq1w23 (Or.inl ⟨?hw1w23, ?hy1w23⟩) (by assumption) ?_
                  case ho1w23 => rfl
                  case hw1w23 => rfl
                  case hy1w23 => (intro w hSw; (try dsimp only at hSw); go_simp; (try (with_reducible rfl)))
                  case hq1w23 => exact fun _ _ _ h => h
                  simp only [Act.put, List.getElem_toArray, List.getElem_cons_succ, List.getElem_cons_zero, List.setIfInBounds_toArray, List.set_cons_zero, List.set_cons_succ]
                  refine wpAnyH_take (i := 24) (oi := ?oi1w24) (v := ?v1w24) ?ho1w24 (by kernel_rfl) (by kernel_rfl) (by kernel_rfl) ?hq1w24 (Or.inl ⟨?hw1w24, ?hy1w24⟩) (by assumption) ?_
                  case ho1w24 => rfl
                  case hw1w24 => rfl
                  case hy1w24 => (intro w hSw; (try dsimp only at hSw); go_simp; (try (with_reducible rfl)))
                  case hq1w24 => exact fun _ _ _ h => h
                  simp only [Act.put, List.getElem_toArray, List.getElem_cons_succ, List.getElem_cons_zero, List.setIfInBounds_toArray, List.set_cons_zero, List.set_cons_succ]
                  refine wpAnyH_take (i := 25) (oi := ?oi1w25) (v := ?v1w25) ?ho1w25 (by kernel_rfl) (by kernel_rfl) (by kernel_rfl) ?hq1w25 (Or.inl ⟨?hw1w25, ?hy1w25⟩) (by assumption) ?_
                  case ho1w25 => rfl
                  case hw1w25 => rfl
                  case hy1w25 => (intro w hSw; (try dsimp only at hSw); go_simp; (try (with_reducible rfl)))
                  case hq1w25 => exact fun _ _ _ h => h
                  simp only [Act.put, List.getElem_toArray, List.getElem_cons_succ, List.getElem_cons_zero, List.setIfInBounds_toArray, List.set_cons_zero, List.set_cons_succ]
                  refine wpAnyH_take (i := 26) (oi := ?oi1w26) (v := ?v1w26) ?ho1w26 (by kernel_rfl) (by kernel_rfl) (by kernel_rfl) ?hq1w26 (Or.inl ⟨?hw1w26, ?hy1w26⟩) (by assumption) ?_
                  case ho1w26 => rfl
                  case hw1w26 => rfl
                  case hy1w26 => (intro w hSw; (try dsimp only at hSw); go_simp; (try (with_reducible rfl)))
                  case hq1w26 => exact fun _ _ _ h => h
                  simp only [Act.put, List.getElem_toArray, List.getElem_cons_succ, List.getElem_cons_zero, List.setIfInBounds_toArray, List.set_cons_zero, List.set_cons_succ]
                  refine wpAnyH_take (i := 27) (oi := ?oi1w27) (v := ?v1w27) ?ho1w27 (by kernel_rfl) (by kernel_rfl) (by kernel_rfl) ?hq1w27 (Or.inl ⟨?hw1w27, ?hy1w27⟩) (by assumption) ?_
                  case ho1w27 => rfl
                  case hw1w27 => rfl
                  case hy1w27 => (intro w hSw; (try dsimp only at hSw); go_simp; (try (with_reducible rfl)))
                  case hq1w27 => exact fun _ _ _ h => h
                  simp only [Act.put, List.getElem_toArray, List.getElem_cons_succ, List.getElem_cons_zero, List.setIfInBounds_toArray, List.set_cons_zero, List.set_cons_succ]
                  refine wpAnyH_take (i := 28) (oi := ?oi1w28) (v := ?v1w28) ?ho1w28 (by kernel_rfl) (by kernel_rfl) (by kernel_rfl) ?hq1w28 (Or.inl ⟨?hw1w28, ?hy1w28⟩) (by assumption) ?_
                  case ho1w28 => rfl
                  case hw1w28 => rfl
                  case hy1w28 => (intro w hSw; (try dsimp only at hSw); go_simp; (try (with_reducible rfl)))
                  case hq1w28 => exact fun _ _ _ h => h
                  simp only [Act.put, List.getElem_toArray, List.getElem_cons_succ, List.getElem_cons_zero, List.setIfInBounds_toArray, List.set_cons_zero, List.set_cons_succ]
                  refine wpAnyH_take (i := 29) (oi := ?oi1w29) (v := ?v1w29) ?ho1w29 (by kernel_rfl) (by kernel_rfl) (by kernel_rfl) ?hq1w29 (Or.inl ⟨?hw1w29, ?hy1w29⟩) (by assumption) ?_
                  case ho1w29 => rfl
                  case hw1w29 => rfl
                  case hy1w29 => (intro w hSw; (try dsimp only at hSw); go_simp; (try (with_reducible rfl)))
                  case hq1w29 => exact fun _ _ _ h => h
                  simp only [Act.put, List.getElem_toArray, List.getElem_cons_succ, List.getElem_cons_zero, List.setIfInBounds_toArray, List.set_cons_zero, List.set_cons_succ]
                  refine wpAnyH_take (i := 30) (oi := ?oi1w30) (v := ?v1w30) ?ho1w30 (by kernel_rfl) (by kernel_rfl) (by kernel_rfl) ?hq1w30 (Or.inl ⟨?hw1w30, ?hy1w30⟩) (by assumption) ?_
                  case ho1w30 => rfl
                  case hw1w30 => rfl
                  case hy1w30 => (intro w hSw; (try dsimp only at hSw); go_simp; (try (with_reducible rfl)))
                  case hq1w30 => exact fun _ _ _ h => h
                  simp only [Act.put, List.getElem_toArray, List.getElem_cons_succ, List.getElem_cons_zero, List.setIfInBounds_toArray, List.set_cons_zero, List.set_cons_succ]
                  refine wpAnyH_take (i := 31) (oi := ?oi1w31) (v := ?v1w31) ?ho1w31 (by kernel_rfl) (by kernel_rfl) (by kernel_rfl) ?hq1w31 (Or.inl ⟨?hw1w31, ?hy1w31⟩) (by assumption) ?_
                  case ho1w31 => rfl
                  case hw1w31 => rfl
                  case hy1w31 => (intro w hSw; (try dsimp only at hSw); go_simp; (try (with_reducible rfl)))
                  case hq1w31 => exact fun _ _ _ h => h
                  simp only [Act.put, List.getElem_toArray, List.getElem_cons_succ, List.getElem_cons_zero, List.setIfInBounds_toArray, List.set_cons_zero, List.set_cons_succ]
                  refine wpAnyH_take (i := 32) (oi := ?oi1w32) (v := ?v1w32) ?ho1w32 (by kernel_rfl) (by kernel_rfl) (by kernel_rfl) ?hq1w32 (Or.inl ⟨?hw1w32, ?hy1w32⟩) (by assumption) ?_
                  case ho1w32 => rfl
                  case hw1w32 => rfl
                  case hy1w32 => (intro w hSw; (try dsimp only at hSw); go_simp; (try (with_reducible rfl)))
                  case hq1w32 => exact fun _ _ _ h => h
                  simp only [Act.put, List.getElem_toArray, List.getElem_cons_succ, List.getElem_cons_zero, List.setIfInBounds_toArray, List.set_cons_zero, List.set_cons_succ]
                  refine wpAnyH_take (i := 33) (oi := ?oi1w33) (v := ?v1w33) ?ho1w33 (by kernel_rfl) (by kernel_rfl) (by kernel_rfl) ?hq1w33 (Or.inl ⟨?hw1w33, ?hy1w33⟩) (by assumption) ?_
                  case ho1w33 => rfl
                  case hw1w33 => rfl
                  case hy1w33 => (intro w hSw; (try dsimp only at hSw); go_simp; (try (with_reducible rfl)))
                  case hq1w33 => exact fun _ _ _ h => h
                  simp only [Act.put, List.getElem_toArray, List.getElem_cons_succ, List.getElem_cons_zero, List.setIfInBounds_toArray, List.set_cons_zero, List.set_cons_succ]
                  refine wpAnyH_take (i := 34) (oi := ?oi1w34) (v := ?v1w34) ?ho1w34 (by kernel_rfl) (by kernel_rfl) (by kernel_rfl) ?hq1w34 (Or.inl ⟨?hw1w34, ?hy1w34⟩) (by assumption) ?_
                  case ho1w34 => rfl
                  case hw1w34 => rfl
                  case hy1w34 => (intro w hSw; (try dsimp only at hSw); go_simp; (try (with_reducible rfl)))
                  case hq1w34 => exact fun _ _ _ h => h
                  simp only [Act.put, List.getElem_toArray, List.getElem_cons_succ, List.getElem_cons_zero, List.setIfInBounds_toArray, List.set_cons_zero, List.set_cons_succ]
                  refine wpAnyH_take (i := 35) (oi := ?oi1w35) (v := ?v1w35) ?ho1w35 (by kernel_rfl) (by kernel_rfl) (by kernel_rfl) ?hq1w35 (Or.inl ⟨?hw1w35, ?hy1w35⟩) (by assumption) ?_
                  case ho1w35 => rfl
                  case hw1w35 => rfl
                  case hy1w35 => (intro w hSw; (try dsimp only at hSw); go_simp; (try (with_reducible rfl)))
                  case hq1w35 => exact fun _ _ _ h => h
                  simp only [Act.put, List.getElem_toArray, List.getElem_cons_succ, List.getElem_cons_zero, List.setIfInBounds_toArray, List.set_cons_zero, List.set_cons_succ]
                  refine wpAnyH_take (i := 36) (oi := ?oi1w36) (v := ?v1w36) ?ho1w36 (by kernel_rfl) (by kernel_rfl) (by kernel_rfl) ?hq1w36 (Or.inl ⟨?hw1w36, ?hy1w36⟩) (by assumption) ?_
                  case ho1w36 => rfl
                  case hw1w36 => rfl
                  case hy1w36 => (intro w hSw; (try dsimp only at hSw); go_simp; (try (with_reducible rfl)))
                  case hq1w36 => exact fun _ _ _ h => h
                  simp only [Act.put, List.getElem_toArray, List.getElem_cons_succ, List.getElem_cons_zero, List.setIfInBounds_toArray, List.set_cons_zero, List.set_cons_succ]
                  refine wpAnyH_ready (rs := [37]) (by kernel_rfl) (by simp) ?_
                  refine AllReadyH.cons rfl (fun K hK => ?_) AllReadyH.nil
                  go_simp
                  (go_at_call 24; (with_reducible refine (cmp_z zC p3.a p3.c p3.a' p3.c' p4.a p4.c p4.a' p4.c' q3 q4 _ hzC.out (QM.kq hp3.out (by assumption)) (QM.kq hp4.out (by assumption)) sp3.out sp4.out).mono ?_); rintro e x4 ⟨rfl, hb4⟩; have k4 : Kq wr x4 := Kq.step (by assumption) hb4)
                  (try go_wp2_with (fail))
                  refine hK.out _ _ k4 (fun hHeld => ?_)
                  clear hK K
                  refine wpAnyH_take (i := 38) (oi := ?oi1w38) (v := ?v1w38) ?ho1w38 (by kernel_rfl) (by kernel_rfl) (by kernel_rfl) ?hq1w38 (Or.inl ⟨?hw1w38, ?hy1w38⟩) (by assumption) ?_
                  case ho1w38 => rfl
                  case hw1w38 => rfl
                  case hy1w38 => (intro w hSw; (try dsimp only at hSw); go_simp; (try (with_reducible rfl)))
                  case hq1w38 => exact fun _ _ _ h => h
                  simp only [Act.put, List.getElem_toArray, List.getElem_cons_succ, List.getElem_cons_zero, List.setIfInBounds_toArray, List.set_cons_zero, List.set_cons_succ]
                  refine wpAnyH_take (i := 39) (oi := ?oi1w39) (v := ?v1w39) ?ho1w39 (by kernel_rfl) (by kernel_rfl) (by kernel_rfl) ?hq1w39 (Or.inl ⟨?hw1w39, ?hy1w39⟩) (by assumption) ?_
                  case ho1w39 => rfl
                  case hw1w39 => rfl
                  case hy1w39 => (intro w hSw; (try dsimp only at hSw); go_simp; (try (with_reducible rfl)))
                  case hq1w39 => exact fun _ _ _ h => h
                  simp only [Act.put, List.getElem_toArray, List.getElem_cons_succ, List.getElem_cons_zero, List.setIfInBounds_toArray, List.set_cons_zero, List.set_cons_succ]
                  refine wpAnyH_take (i := 40) (oi := ?oi1w40) (v := ?v1w40) ?ho1w40 (by kernel_rfl) (by kernel_rfl) (by kernel_rfl) ?hq1w40 (Or.inl ⟨?hw1w40, ?hy1w40⟩) (by assumption) ?_
                  case ho1w40 => rfl
                  case hw1w40 => rfl
                  case hy1w40 => (intro w hSw; (try dsimp only at hSw); go_simp; (try (with_reducible rfl)))
                  case hq1w40 => exact fun _ _ _ h => h
                  simp only [Act.put, List.getElem_toArray, List.getElem_cons_succ, List.getElem_cons_zero, List.setIfInBounds_toArray, List.set_cons_zero, List.set_cons_succ]
                  refine wpAnyH_take (i := 41) (oi := ?oi1w41) (v := ?v1w41) ?ho1w41 (by kernel_rfl) (by kernel_rfl) (by kernel_rfl) ?hq1w41 (Or.inl ⟨?hw1w41, ?hy1w41⟩) (by assumption) ?_
                  case ho1w41 => rfl
                  case hw1w41 => rfl
                  case hy1w41 => (intro w hSw; (try dsimp only at hSw); go_simp; (try (with_reducible rfl)))
                  case hq1w41 => exact fun _ _ _ h => h
                  simp only [Act.put, List.getElem_toArray, List.getElem_cons_succ, List.getElem_cons_zero, List.setIfInBounds_toArray, List.set_cons_zero, List.set_cons_succ]
                  refine wpAnyH_take (i := 42) (oi := ?oi1w42) (v := ?v1w42) ?ho1w42 (by kernel_rfl) (by kernel_rfl) (by kernel_rfl) ?hq1w42 (Or.inl ⟨?hw1w42, ?hy1w42⟩) (by assumption) ?_
                  case ho1w42 => rfl
                  case hw1w42 => rfl
                  case hy1w42 => (intro w hSw; (try dsimp only at hSw); go_simp; (try (with_reducible rfl)))
                  case hq1w42 => exact fun _ _ _ h => h
                  simp only [Act.put, List.getElem_toArray, List.getElem_cons_succ, List.getElem_cons_zero, List.setIfInBounds_toArray, List.set_cons_zero, List.set_cons_succ]
                  refine wpAnyH_take (i := 43) (oi := ?oi1w43) (v := ?v1w43) ?ho1w43 (by kernel_rfl) (by kernel_rfl) (by kernel_rfl) ?hq1w43 (Or.inl ⟨?hw1w43, ?hy1w43⟩) (by assumption) ?_
                  case ho1w43 => rfl
                  case hw1w43 => rfl
                  case hy1w43 => (intro w hSw; (try dsimp only at hSw); go_simp; (try (with_reducible rfl)))
                  case hq1w43 => exact fun _ _ _ h => h
                  simp only [Act.put, List.getElem_toArray, List.getElem_cons_succ, List.getElem_cons_zero, List.setIfInBounds_toArray, List.set_cons_zero, List.set_cons_succ]
                  refine wpAnyH_take (i := 44) (oi := ?oi1w44) (v := ?v1w44) ?ho1w44 (by kernel_rfl) (by kernel_rfl) (by kernel_rfl) ?hq1w44 (Or.inl ⟨?hw1w44, ?hy1w44⟩) (by assumption) ?_
                  case ho1w44 => rfl
                  case hw1w44 => rfl
                  case hy1w44 => (intro w hSw; (try dsimp only at hSw); go_simp; (try (with_reducible rfl)))
                  case hq1w44 => exact fun _ _ _ h => h
                  simp only [Act.put, List.getElem_toArray, List.getElem_cons_succ, List.getElem_cons_zero, List.setIfInBounds_toArray, List.set_cons_zero, List.set_cons_succ]
                  refine wpAnyH_take (i := 45) (oi := ?oi1w45) (v := ?v1w45) ?ho1w45 (by kernel_rfl) (by kernel_rfl) (by kernel_rfl) ?hq1w45 (Or.inl ⟨?hw1w45, ?hy1w45⟩) (by assumption) ?_
                  case ho1w45 => rfl
                  case hw1w45 => rfl
                  case hy1w45 => (intro w hSw; (try dsimp only at hSw); go_simp; (try (with_reducible rfl)))
                  case hq1w45 => exact fun _ _ _ h => h
                  simp only [Act.put, List.getElem_toArray, List.getElem_cons_succ, List.getElem_cons_zero, List.setIfInBounds_toArray, List.set_cons_zero, List.set_cons_succ]
                  refine wpAnyH_take (i := 46) (oi := ?oi1w46) (v := ?v1w46) ?ho1w46 (by kernel_rfl) (by kernel_rfl) (by kernel_rfl) ?hq1w46 (Or.inl ⟨?hw1w46, ?hy1w46⟩) (by assumption) ?_
                  case ho1w46 => rfl
                  case hw1w46 => rfl
                  case hy1w46 => (intro w hSw; (try dsimp only at hSw); go_simp; (try (with_reducible rfl)))
                  case hq1w46 => exact fun _ _ _ h => h
                  simp only [Act.put, List.getElem_toArray, List.getElem_cons_succ, List.getElem_cons_zero, List.setIfInBounds_toArray, List.set_cons_zero, List.set_cons_succ]
                  refine wpAnyH_take (i := 47) (oi := ?oi1w47) (v := ?v1w47) ?ho1w47 (by kernel_rfl) (by kernel_rfl) (by kernel_rfl) ?hq1w47 (Or.inl ⟨?hw1w47, ?hy1w47⟩) (by assumption) ?_
                  case ho1w47 => rfl
                  case hw1w47 => rfl
                  case hy1w47 => (intro w hSw; (try dsimp only at hSw); go_simp; (try (with_reducible rfl)))
                  case hq1w47 => exact fun _ _ _ h => h
                  simp only [Act.put, List.getElem_toArray, List.getElem_cons_succ, List.getElem_cons_zero, List.setIfInBounds_toArray, List.set_cons_zero, List.set_cons_succ]
                  refine wpAnyH_take (i := 48) (oi := ?oi1w48) (v := ?v1w48) ?ho1w48 (by kernel_rfl) (by kernel_rfl) (by kernel_rfl) ?hq1w48 (Or.inl ⟨?hw1w48, ?hy1w48⟩) (by assumption) ?_
                  case ho1w48 => rfl
                  case hw1w48 => rfl
                  case hy1w48 => (intro w hSw; (try dsimp only at hSw); go_simp; (try (with_reducible rfl)))
                  case hq1w48 => exact fun _ _ _ h => h
                  simp only [Act.put, List.getElem_toArray, List.getElem_cons_succ, List.getElem_cons_zero, List.setIfInBounds_toArray, List.set_cons_zero, List.set_cons_succ]
                  refine wpAnyH_take (i := 49) (oi := ?oi1w49) (v := ?v1w49) ?ho1w49 (by kernel_rfl) (by kernel_rfl) (by kernel_rfl) ?hq1w49 (Or.inl ⟨?hw1w49, ?hy1w49⟩) (by assumption) ?_
                  case ho1w49 => rfl
                  case hw1w49 => rfl
                  case hy1w49 => (intro w hSw; (try dsimp only at hSw); go_simp; (try (with_reducible rfl)))
                  case hq1w49 => exact fun _ _ _ h => h
                  simp only [Act.put, List.getElem_toArray, List.getElem_cons_succ, List.getElem_cons_zero, List.setIfInBounds_toArray, List.set_cons_zero, List.set_cons_succ]
                  refine wpAnyH_ready (rs := [50]) (by kernel_rfl) (by simp) ?_
                  refine AllReadyH.cons rfl (fun K hK => ?_) AllReadyH.nil
                  go_simp
                  (go_at_call 24; (with_reducible refine (cmp_z zD p3.a p3.c p3.a' p3.c' p5.a p5.c p5.a' p5.c' q3 q5 _ hzD.out (QM.kq hp3.out (by assumption)) (QM.kq hp5.out (by assumption)) sp3.out sp5.out).mono ?_); rintro e x5 ⟨rfl, hb5⟩; have k5 : Kq wr x5 := Kq.step (by assumption) hb5)
                  (try go_wp2_with (fail))
                  refine hK.out _ _ k5 (fun hHeld => ?_)
                  clear hK K
                  refine wpAnyH_take (i := 51) (oi := ?oi1w51) (v := ?v1w51) ?ho1w51 (by kernel_rfl) (by kernel_rfl) (by kernel_rfl) ?hq1w51 (Or.inl ⟨?hw1w51, ?hy1w51⟩) (by assumption) ?_
                  case ho1w51 => rfl
                  case hw1w51 => rfl
                  case hy1w51 => (intro w hSw; (try dsimp only at hSw); go_simp; (try (with_reducible rfl)))
                  case hq1w51 => exact fun _ _ _ h => h
                  simp only [Act.put, List.getElem_toArray, List.getElem_cons_succ, List.getElem_cons_zero, List.setIfInBounds_toArray, List.set_cons_zero, List.set_cons_succ]
                  refine wpAnyH_take (i := 52) (oi := ?oi1w52) (v := ?v1w52) ?ho1w52 (by kernel_rfl) (by kernel_rfl) (by kernel_rfl) ?hq1w52 (Or.inl ⟨?hw1w52, ?hy1w52⟩) (by assumption) ?_
                  case ho1w52 => rfl
                  case hw1w52 => rfl
                  case hy1w52 => (intro w hSw; (try dsimp only at hSw); go_simp; (try (with_reducible rfl)))
                  case hq1w52 => exact fun _ _ _ h => h
                  simp only [Act.put, List.getElem_toArray, List.getElem_cons_succ, List.getElem_cons_zero, List.setIfInBounds_toArray, List.set_cons_zero, List.set_cons_succ]
                  refine wpAnyH_take (i := 53) (oi := ?oi1w53) (v := ?v1w53) ?ho1w53 (by kernel_rfl) (by kernel_rfl) (by kernel_rfl) ?hq1w53 (Or.inl ⟨?hw1w53, ?hy1w53⟩) (by assumption) ?_
                  case ho1w53 => rfl
                  case hw1w53 => rfl
                  case hy1w53 => (intro w hSw; (try dsimp only at hSw); go_simp; (try (with_reducible rfl)))
                  case hq1w53 => exact fun _ _ _ h => h
                  simp only [Act.put, List.getElem_toArray, List.getElem_cons_succ, List.getElem_cons_zero, List.setIfInBounds_toArray, List.set_cons_zero, List.set_cons_succ]
                  refine wpAnyH_done (by kernel_rfl) ?_ _
                  -- region 31, end
                  go_wp2_with (fail)
                  go_roundw
                  case rel => exact ⟨i + 1, by go_num, by omega, by omega, bseqZ hblH.out k5.2⟩
                  case measure => simp [intOf]; omega
                · have hC2 : decide (0 < zC) = false := by simp; omega
                  clear hpd
                  go_upto_region 31 with (fail)
                  -- region 31, way 2
                  refine wp_region_held_drew (S := fun w' => Kq wr w') (by kernel_rfl) (Kq.drew _) (fun hHeld => ?_)
                  refine wpAnyH_take (i := 0) (oi := ?oi2w0) (v := ?v2w0) ?ho2w0 (by kernel_rfl) (by kernel_rfl) (by kernel_rfl) ?hq2w0 (Or.inl ⟨?hw2w0, ?hy2w0⟩) (by assumption) ?_
                  case ho2w0 => rfl
                  case hw2w0 => rfl
                  case hy2w0 => (intro w hSw; (try dsimp only at hSw); go_simp; (try (with_reducible rfl)))
                  case hq2w0 => exact fun _ _ _ h => h
                  simp only [Act.put, List.getElem_toArray, List.getElem_cons_zero, List.setIfInBounds_toArray, List.set_cons_zero, List.set_cons_succ]
                  refine wpAnyH_take (i := 1) (oi := ?oi2w1) (v := ?v2w1) ?ho2w1 (by kernel_rfl) (by kernel_rfl) (by kernel_rfl) ?hq2w1 (Or.inl ⟨?hw2w1, ?hy2w1⟩) (by assumption) ?_
                  case ho2w1 => rfl
                  case hw2w1 => rfl
                  case hy2w1 => (intro w hSw; (try dsimp only at hSw); go_simp; (try (with_reducible rfl)))
                  case hq2w1 => exact fun _ _ _ h => h
                  simp only [Act.put, List.getElem_toArray, List.getElem_cons_succ, List.getElem_cons_zero, List.setIfInBounds_toArray, List.set_cons_zero, List.set_cons_succ]
                  refine wpAnyH_take (i := 2) (oi := ?oi2w2) (v := ?v2w2) ?ho2w2 (by kernel_rfl) (by kernel_rfl) (by kernel_rfl) ?hq2w2 (Or.inl ⟨?hw2w2, ?hy2w2⟩) (by assumption) ?_
                  case ho2w2 => rfl
                  case hw2w2 => rfl
                  case hy2w2 => (intro w hSw; (try dsimp only at hSw); go_simp; (try (with_reducible rfl)))
                  case hq2w2 => exact fun _ _ _ h => h
                  simp only [Act.put, List.getElem_toArray, List.getElem_cons_succ, List.getElem_cons_zero, List.setIfInBounds_toArray, List.set_cons_zero, List.set_cons_succ]
                  refine wpAnyH_take (i := 3) (oi := ?oi2w3) (v := ?v2w3) ?ho2w3 (by kernel_rfl) (by kernel_rfl) (by kernel_rfl) ?hq2w3 (Or.inl ⟨?hw2w3, ?hy2w3⟩) (by assumption) ?_
                  case ho2w3 => rfl
                  case hw2w3 => rfl
                  case hy2w3 => (intro w hSw; (try dsimp only at hSw); go_simp; (try (with_reducible rfl)))
                  case hq2w3 => exact fun _ _ _ h => h
                  simp only [Act.put, List.getElem_toArray, List.getElem_cons_succ, List.getElem_cons_zero, List.setIfInBounds_toArray, List.set_cons_zero, List.set_cons_succ]
                  refine wpAnyH_take (i := 4) (oi := ?oi2w4) (v := ?v2w4) ?ho2w4 (by kernel_rfl) (by kernel_rfl) (by kernel_rfl) ?hq2w4 (Or.inl ⟨?hw2w4, ?hy2w4⟩) (by assumption) ?_
                  case ho2w4 => rfl
                  case hw2w4 => rfl
                  case hy2w4 => (intro w hSw; (try dsimp only at hSw); go_simp; (try (with_reducible rfl)))
                  case hq2w4 => exact fun _ _ _ h => h
                  simp only [Act.put, List.getElem_toArray, List.getElem_cons_succ, List.getElem_cons_zero, List.setIfInBounds_toArray, List.set_cons_zero, List.set_cons_succ]
                  refine wpAnyH_take (i := 5) (oi := ?oi2w5) (v := ?v2w5) ?ho2w5 (by kernel_rfl) (by kernel_rfl) (by kernel_rfl) ?hq2w5 (Or.inl ⟨?hw2w5, ?hy2w5⟩) (by assumption) ?_
                  case ho2w5 => rfl
                  case hw2w5 => rfl
                  case hy2w5 => (intro w hSw; (try dsimp only at hSw); go_simp; (try (with_reducible rfl)))
                  case hq2w5 => exact fun _ _ _ h => h
                  simp only [Act.put, List.getElem_toArray, List.getElem_cons_succ, List.getElem_cons_zero, List.setIfInBounds_toArray, List.set_cons_zero, List.set_cons_succ]
                  refine wpAnyH_take (i := 6) (oi := ?oi2w6) (v := ?v2w6) ?ho2w6 (by kernel_rfl) (by kernel_rfl) (by kernel_rfl) ?hq2w6 (Or.inl ⟨?hw2w6, ?hy2w6⟩) (by assumption) ?_
                  case ho2w6 => rfl
                  case hw2w6 => rfl
                  case hy2w6 => (intro w hSw; (try dsimp only at hSw); go_simp; (try (with_reducible rfl)))
                  case hq2w6 => exact fun _ _ _ h => h
                  simp only [Act.put, List.getElem_toArray, List.getElem_cons_succ, List.getElem_cons_zero, List.setIfInBounds_toArray, List.set_cons_zero, List.set_cons_succ]
                  refine wpAnyH_take (i := 7) (oi := ?oi2w7) (v := ?v2w7) ?ho2w7 (by kernel_rfl) (by kernel_rfl) (by kernel_rfl) ?hq2w7 (Or.inl ⟨?hw2w7, ?hy2w7⟩) (by assumption) ?_
                  case ho2w7 => rfl
                  case hw2w7 => rfl
                  case hy2w7 => (intro w hSw; (try dsimp only at hSw); go_simp; (try (with_reducible rfl)))
                  case hq2w7 => exact fun _ _ _ h => h
                  simp only [Act.put, List.getElem_toArray, List.getElem_cons_succ, List.getElem_cons_zero, List.setIfInBounds_toArray, List.set_cons_zero, List.set_cons_succ]
                  refine wpAnyH_take (i := 8) (oi := ?oi2w8) (v := ?v2w8) ?ho2w8 (by kernel_rfl) (by kernel_rfl) (by kernel_rfl) ?hq2w8 (Or.inl ⟨?hw2w8, ?hy2w8⟩) (by assumption) ?_
                  case ho2w8 => rfl
                  case hw2w8 => rfl
                  case hy2w8 => (intro w hSw; (try dsimp only at hSw); go_simp; (try (with_reducible rfl)))
                  case hq2w8 => exact fun _ _ _ h => h
                  simp only [Act.put, List.getElem_toArray, List.getElem_cons_succ, List.getElem_cons_zero, List.setIfInBounds_toArray, List.set_cons_zero, List.set_cons_succ]
                  refine wpAnyH_ready (rs := [9]) (by kernel_rfl) (by simp) ?_
                  refine AllReadyH.cons rfl (fun K hK => ?_) AllReadyH.nil
                  go_simp
                  (go_at_call 24; (with_reducible refine (cmp_z zA p1.a p1.c p1.a' p1.c' p2.a p2.c p2.a' p2.c' q1 q2 _ hzA.out (QM.kq hp1.out (by assumption)) (QM.kq hp2.out (by assumption)) sp1.out sp2.out).mono ?_); rintro e x1 ⟨rfl, hb1⟩; have k1 : Kq wr x1 := Kq.step (by assumption) hb1)
                  (try go_wp2_with (fail))
                  refine hK.out _ _ k1 (fun hHeld => ?_)
                  clear hK K
                  refine wpAnyH_take (i := 10) (oi := ?oi2w10) (v := ?v2w10) ?ho2w10 (by kernel_rfl) (by kernel_rfl) (by kernel_rfl) ?hq2w10 (Or.inl ⟨?hw2w10, ?hy2w10⟩) (by assumption) ?_
                  case ho2w10 => rfl
                  case hw2w10 => rfl
                  case hy2w10 => (intro w hSw; (try dsimp only at hSw); go_simp; (try (with_reducible rfl)))
                  case hq2w10 => exact fun _ _ _ h => h
                  simp only [Act.put, List.getElem_toArray, List.getElem_cons_succ, List.getElem_cons_zero, List.setIfInBounds_toArray, List.set_cons_zero, List.set_cons_succ]
                  refine wpAnyH_take (i := 11) (oi := ?oi2w11) (v := ?v2w11) ?ho2w11 (by kernel_rfl) (by kernel_rfl) (by kernel_rfl) ?hq2w11 (Or.inl ⟨?hw2w11, ?hy2w11⟩) (by assumption) ?_
                  case ho2w11 => rfl
                  case hw2w11 => rfl
                  case hy2w11 => (intro w hSw; (try dsimp only at hSw); go_simp; (try (with_reducible rfl)))
                  case hq2w11 => exact fun _ _ _ h => h
                  simp only [Act.put, List.getElem_toArray, List.getElem_cons_succ, List.getElem_cons_zero, List.setIfInBounds_toArray, List.set_cons_zero, List.set_cons_succ]
                  refine wpAnyH_take (i := 12) (oi := ?oi2w12) (v := ?v2w12) ?ho2w12 (by kernel_rfl) (by kernel_rfl) (by kernel_rfl) ?hq2w12 (Or.inl ⟨?hw2w12, ?hy2w12⟩) (by assumption) ?_
                  case ho2w12 => rfl
                  case hw2w12 => rfl
                  case hy2w12 => (intro w hSw; (try dsimp only at hSw); go_simp; (try (with_reducible rfl)))
                  case hq2w12 => exact fun _ _ _ h => h
                  simp only [Act.put, List.getElem_toArray, List.getElem_cons_succ, List.getElem_cons_zero, List.setIfInBounds_toArray, List.set_cons_zero, List.set_cons_succ]
                  refine wpAnyH_take (i := 13) (oi := ?oi2w13) (v := ?v2w13) ?ho2w13 (by kernel_rfl) (by kernel_rfl) (by kernel_rfl) ?hq2w13 (Or.inl ⟨?hw2w13, ?hy2w13⟩) (by assumption) ?_
                  case ho2w13 => rfl
                  case hw2w13 => rfl
                  case hy2w13 => (intro w hSw; (try dsimp only at hSw); go_simp; (try (with_reducible rfl)))
                  case hq2w13 => exact fun _ _ _ h => h
                  simp only [Act.put, List.getElem_toArray, List.getElem_cons_succ, List.getElem_cons_zero, List.setIfInBounds_toArray, List.set_cons_zero, List.set_cons_succ]
                  refine wpAnyH_take (i := 14) (oi := ?oi2w14) (v := ?v2w14) ?ho2w14 (by kernel_rfl) (by kernel_rfl) (by kernel_rfl) ?hq2w14 (Or.inl ⟨?hw2w14, ?hy2w14⟩) (by assumption) ?_
                  case ho2w14 => rfl
                  case hw2w14 => rfl
                  case hy2w14 => (intro w hSw; (try dsimp only at hSw); go_simp; (try (with_reducible rfl)))
                  case hq2w14 => exact fun _ _ _ h => h
                  simp only [Act.put, List.getElem_toArray, List.getElem_cons_succ, List.getElem_cons_zero, List.setIfInBounds_toArray, List.set_cons_zero, List.set_cons_succ]
                  refine wpAnyH_take (i := 15) (oi := ?oi2w15) (v := ?v2w15) ?ho2w15 (by kernel_rfl) (by kernel_rfl) (by kernel_rfl) ?hq2w15 (Or.inl ⟨?hw2w15, ?hy2w15⟩) (by assumption) ?_
                  case ho2w15 => rfl
                  case hw2w15 => rfl
                  case hy2w15 => (intro w hSw; (try dsimp only at hSw); go_simp; (try (with_reducible rfl)))
                  case hq2w15 => exact fun _ _ _ h => h
                  simp only [Act.put, List.getElem_toArray, List.getElem_cons_succ, List.getElem_cons_zero, List.setIfInBounds_toArray, List.set_cons_zero, List.set_cons_succ]
                  refine wpAnyH_take (i := 16) (oi := ?oi2w16) (v := ?v2w16) ?ho2w16 (by kernel_rfl) (by kernel_rfl) (by kernel_rfl) ?hq2w16 (Or.inl ⟨?hw2w16, ?hy2w16⟩) (by assumption) ?_
                  case ho2w16 => rfl
                  case hw2w16 => rfl
                  case hy2w16 => (intro w hSw; (try dsimp only at hSw); go_simp; (try (with_reducible rfl)))
                  case hq2w16 => exact fun _ _ _ h => h
                  simp only [Act.put, List.getElem_toArray, List.getElem_cons_succ, List.getElem_cons_zero, List.setIfInBounds_toArray, List.set_cons_zero, List.set_cons_succ]
                  refine wpAnyH_ready (rs := [17]) (by kernel_rfl) (by simp) ?_
                  refine AllReadyH.cons rfl (fun K hK => ?_) AllReadyH.nil
                  go_simp
                  (go_at_call 23; (with_reducible refine (of_t r _ hrr4.out).mono ?_); rintro e x2 ⟨a20, d20, a20', d20', rfl, hm20, hb2⟩; have hm20H := Lib.hid hm20; have k2 : Kq wr x2 := Kq.step (by assumption) hb2; clear hm20)
                  (try go_wp2_with (fail))
                  refine hK.out _ _ k2 (fun hHeld => ?_)
                  clear hK K
                  refine wpAnyH_ready (rs := [18]) (by kernel_rfl) (by simp) ?_
                  refine AllReadyH.cons rfl (fun K hK => ?_) AllReadyH.nil
                  go_simp
                  (go_at_call 24; (with_reducible refine (cmp_z zB p3.a p3.c p3.a' p3.c' a20 d20 a20' d20' q3 r _ hzB.out (QM.kq hp3.out (by assumption)) hm20H.out sp3.out srr.out).mono ?_); rintro e x3 ⟨rfl, hb3⟩; have k3 : Kq wr x3 := Kq.step (by assumption) hb3)
                  (try go_wp2_with (fail))
                  refine hK.out _ _ k3 (fun hHeld => ?_)
                  clear hK K
                  refine wpAnyH_take (i := 19) (oi := ?oi2w19) (v := ?v2w19) ?ho2w19 (by kernel_rfl) (by kernel_rfl) (by kernel_rfl) ?hq2w19 (Or.inl ⟨?hw2w19, ?hy2w19⟩) (by assumption) ?_
                  case ho2w19 => rfl
                  case hw2w19 => rfl
                  case hy2w19 => (intro w hSw; (try dsimp only at hSw); go_simp; (try (with_reducible rfl)))
                  case hq2w19 => exact fun _ _ _ h => h
                  simp only [Act.put, List.getElem_toArray, List.getElem_cons_succ, List.getElem_cons_zero, List.setIfInBounds_toArray, List.set_cons_zero, List.set_cons_succ]
                  refine wpAnyH_take (i := 20) (oi := ?oi2w20) (v := ?v2w20) ?ho2w20 (by kernel_rfl) (by kernel_rfl) (by kernel_rfl) ?hq2w20 (Or.inl ⟨?hw2w20, ?hy2w20⟩) (by assumption) ?_
                  case ho2w20 => rfl
                  case hw2w20 => rfl
                  case hy2w20 => (intro w hSw; (try dsimp only at hSw); go_simp; (try (with_reducible rfl)))
                  case hq2w20 => exact fun _ _ _ h => h
                  simp only [Act.put, List.getElem_toArray, List.getElem_cons_succ, List.getElem_cons_zero, List.setIfInBounds_toArray, List.set_cons_zero, List.set_cons_succ]
                  refine wpAnyH_take (i := 21) (oi := ?oi2w21) (v := ?v2w21) ?ho2w21 (by kernel_rfl) (by kernel_rfl) (by kernel_rfl) ?hq2w21 (Or.inl ⟨?hw2w21, ?hy2w21⟩) (by assumption) ?_
                  case ho2w21 => rfl
                  case hw2w21 => rfl
                  case hy2w21 => (intro w hSw; (try dsimp only at hSw); go_simp; (try (with_reducible rfl)))
                  case hq2w21 => exact fun _ _ _ h => h
                  simp only [Act.put, List.getElem_toArray, List.getElem_cons_succ, List.getElem_cons_zero, List.setIfInBounds_toArray, List.set_cons_zero, List.set_cons_succ]
                  refine wpAnyH_take (i := 22) (oi := ?oi2w22) (v := ?v2w22) ?ho2w22 (by kernel_rfl) (by kernel_rfl) (by kernel_rfl) ?hq2w22 (Or.inl ⟨?hw2w22, ?hy2w22⟩) (by assumption) ?_
                  case ho2w22 => rfl
                  case hw2w22 => rfl
                  case hy2w22 => (intro w hSw; (try dsimp only at hSw); go_simp; (try (with_reducible rfl)))
                  case hq2w22 => exact fun _ _ _ h => h
                  simp only [Act.put, List.getElem_toArray, List.getElem_cons_succ, List.getElem_cons_zero, List.setIfInBounds_toArray, List.set_cons_zero, List.set_cons_succ]
                  refine wpAnyH_take (i := 23) (oi := ?oi2w23) (v := ?v2w23) ?ho2w23 (by kernel_rfl) (by kernel_rfl) (by kernel_rfl) ?hq2w23 (Or.inl ⟨?hw2w23, ?hy2w23⟩) (by assumption) ?_
                  case ho2w23 => rfl
                  case hw2w23 => rfl
                  case hy2w23 => (intro w hSw; (try dsimp only at hSw); go_simp; (try (with_reducible rfl)))
                  case hq2w23 => exact fun _ _ _ h => h
                  simp only [Act.put, List.getElem_toArray, List.getElem_cons_succ, List.getElem_cons_zero, List.setIfInBounds_toArray, List.set_cons_zero, List.set_cons_succ]
                  refine wpAnyH_take (i := 24) (oi := ?oi2w24) (v := ?v2w24) ?ho2w24 (by kernel_rfl) (by kernel_rfl) (by kernel_rfl) ?hq2w24 (Or.inl ⟨?hw2w24, ?hy2w24⟩) (by assumption) ?_
                  case ho2w24 => rfl
                  case hw2w24 => rfl
                  case hy2w24 => (intro w hSw; (try dsimp only at hSw); go_simp; (try (with_reducible rfl)))
                  case hq2w24 => exact fun _ _ _ h => h
                  simp only [Act.put, List.getElem_toArray, List.getElem_cons_succ, List.getElem_cons_zero, List.setIfInBounds_toArray, List.set_cons_zero, List.set_cons_succ]
                  refine wpAnyH_take (i := 25) (oi := ?oi2w25) (v := ?v2w25) ?ho2w25 (by kernel_rfl) (by kernel_rfl) (by kernel_rfl) ?hq2w25 (Or.inl ⟨?hw2w25, ?hy2w25⟩) (by assumption) ?_
                  case ho2w25 => rfl
                  case hw2w25 => rfl
                  case hy2w25 => (intro w hSw; (try dsimp only at hSw); go_simp; (try (with_reducible rfl)))
                  case hq2w25 => exact fun _ _ _ h => h
                  simp only [Act.put, List.getElem_toArray, List.getElem_cons_succ, List.getElem_cons_zero, List.setIfInBounds_toArray, List.set_cons_zero, List.set_cons_succ]
                  refine wpAnyH_take (i := 26) (oi := ?oi2w26) (v := ?v2w26) ?ho2w26 (by kernel_rfl) (by kernel_rfl) (by kernel_rfl) ?hq2w26 (Or.inl ⟨?hw2w26, ?hy2w26⟩) (by assumption) ?_
                  case ho2w26 => rfl
                  case hw2w26 => rfl
                  case hy2w26 => (intro w hSw; (try dsimp only at hSw); go_simp; (try (with_reducible rfl)))
                  case hq2w26 => exact fun _ _ _ h => h
                  simp only [Act.put, List.getElem_toArray, List.getElem_cons_succ, List.getElem_cons_zero, List.setIfInBounds_toArray, List.set_cons_zero, List.set_cons_succ]
                  refine wpAnyH_take (i := 27) (oi := ?oi2w27) (v := ?v2w27) ?ho2w27 (by kernel_rfl) (by kernel_rfl) (by kernel_rfl) ?hq2w27 (Or.inl ⟨?hw2w27, ?hy2w27⟩) (by assumption) ?_
                  case ho2w27 => rfl
                  case hw2w27 => rfl
                  case hy2w27 => (intro w hSw; (try dsimp only at hSw); go_simp; (try (with_reducible rfl)))
                  case hq2w27 => exact fun _ _ _ h => h
                  simp only [Act.put, List.getElem_toArray, List.getElem_cons_succ, List.getElem_cons_zero, List.setIfInBounds_toArray, List.set_cons_zero, List.set_cons_succ]
                  refine wpAnyH_take (i := 28) (oi := ?oi2w28) (v := ?v2w28) ?ho2w28 (by kernel_rfl) (by kernel_rfl) (by kernel_rfl) ?hq2w28 (Or.inl ⟨?hw2w28, ?hy2w28⟩) (by assumption) ?_
                  case ho2w28 => rfl
                  case hw2w28 => rfl
                  case hy2w28 => (intro w hSw; (try dsimp only at hSw); go_simp; (try (with_reducible rfl)))
                  case hq2w28 => exact fun _ _ _ h => h
                  simp only [Act.put, List.getElem_toArray, List.getElem_cons_succ, List.getElem_cons_zero, List.setIfInBounds_toArray, List.set_cons_zero, List.set_cons_succ]
                  refine wpAnyH_take (i := 29) (oi := ?oi2w29) (v := ?v2w29) ?ho2w29 (by kernel_rfl) (by kernel_rfl) (by kernel_rfl) ?hq2w29 (Or.inl ⟨?hw2w29, ?hy2w29⟩) (by assumption) ?_
                  case ho2w29 => rfl
                  case hw2w29 => rfl
                  case hy2w29 => (intro w hSw; (try dsimp only at hSw); go_simp; (try (with_reducible rfl)))
                  case hq2w29 => exact fun _ _ _ h => h
                  simp only [Act.put, List.getElem_toArray, List.getElem_cons_succ, List.getElem_cons_zero, List.setIfInBounds_toArray, List.set_cons_zero, List.set_cons_succ]
                  refine wpAnyH_take (i := 30) (oi := ?oi2w30) (v := ?v2w30) ?ho2w30 (by kernel_rfl) (by kernel_rfl) (by kernel_rfl) ?hq2w30 (Or.inl ⟨?hw2w30, ?hy2w30⟩) (by assumption) ?_
                  case ho2w30 => rfl
                  case hw2w30 => rfl
                  case hy2w30 => (intro w hSw; (try dsimp only at hSw); go_simp; (try (with_reducible rfl)))
                  case hq2w30 => exact fun _ _ _ h => h
                  simp only [Act.put, List.getElem_toArray, List.getElem_cons_succ, List.getElem_cons_zero, List.setIfInBounds_toArray, List.set_cons_zero, List.set_cons_succ]
                  refine wpAnyH_take (i := 31) (oi := ?oi2w31) (v := ?v2w31) ?ho2w31 (by kernel_rfl) (by kernel_rfl) (by kernel_rfl) ?hq2w31 (Or.inl ⟨?hw2w31, ?hy2w31⟩) (by assumption) ?_
                  case ho2w31 => rfl
                  case hw2w31 => rfl
                  case hy2w31 => (intro w hSw; (try dsimp only at hSw); go_simp; (try (with_reducible rfl)))
                  case hq2w31 => exact fun _ _ _ h => h
                  simp only [Act.put, List.getElem_toArray, List.getElem_cons_succ, List.getElem_cons_zero, List.setIfInBounds_toArray, List.set_cons_zero, List.set_cons_succ]
                  refine wpAnyH_take (i := 32) (oi := ?oi2w32) (v := ?v2w32) ?ho2w32 (by kernel_rfl) (by kernel_rfl) (by kernel_rfl) ?hq2w32 (Or.inl ⟨?hw2w32, ?hy2w32⟩) (by assumption) ?_
                  case ho2w32 => rfl
                  case hw2w32 => rfl
                  case hy2w32 => (intro w hSw; (try dsimp only at hSw); go_simp; (try (with_reducible rfl)))
                  case hq2w32 => exact fun _ _ _ h => h
                  simp only [Act.put, List.getElem_toArray, List.getElem_cons_succ, List.getElem_cons_zero, List.setIfInBounds_toArray, List.set_cons_zero, List.set_cons_succ]
                  refine wpAnyH_take (i := 33) (oi := ?oi2w33) (v := ?v2w33) ?ho2w33 (by kernel_rfl) (by kernel_rfl) (by kernel_rfl) ?hq2w33 (Or.inl ⟨?hw2w33, ?hy2w33⟩) (by assumption) ?_
                  case ho2w33 => rfl
                  case hw2w33 => rfl
                  case hy2w33 => (intro w hSw; (try dsimp only at hSw); go_simp; (try (with_reducible rfl)))
                  case hq2w33 => exact fun _ _ _ h => h
                  simp only [Act.put, List.getElem_toArray, List.getElem_cons_succ, List.getElem_cons_zero, List.setIfInBounds_toArray, List.set_cons_zero, List.set_cons_succ]
                  refine wpAnyH_take (i := 34) (oi := ?oi2w34) (v := ?v2w34) ?ho2w34 (by kernel_rfl) (by kernel_rfl) (by kernel_rfl) ?hq2w34 (Or.inl ⟨?hw2w34, ?hy2w34⟩) (by assumption) ?_
                  case ho2w34 => rfl
                  case hw2w34 => rfl
                  case hy2w34 => (intro w hSw; (try dsimp only at hSw); go_simp; (try (with_reducible rfl)))
                  case hq2w34 => exact fun _ _ _ h => h
                  simp only [Act.put, List.getElem_toArray, List.getElem_cons_succ, List.getElem_cons_zero, List.setIfInBounds_toArray, List.set_cons_zero, List.set_cons_succ]
                  refine wpAnyH_take (i := 35) (oi := ?oi2w35) (v := ?v2w35) ?ho2w35 (by kernel_rfl) (by kernel_rfl) (by kernel_rfl) ?hq2w35 (Or.inl ⟨?hw2w35, ?hy2w35⟩) (by assumption) ?_
                  case ho2w35 => rfl
                  case hw2w35 => rfl
                  case hy2w35 => (intro w hSw; (try dsimp only at hSw); go_simp; (try (with_reducible rfl)))
                  case hq2w35 => exact fun _ _ _ h => h
                  simp only [Act.put, List.getElem_toArray, List.getElem_cons_succ, List.getElem_cons_zero, List.setIfInBounds_toArray, List.set_cons_zero, List.set_cons_succ]
                  refine wpAnyH_take (i := 36) (oi := ?oi2w36) (v := ?v2w36) ?ho2w36 (by kernel_rfl) (by kernel_rfl) (by kernel_rfl) ?hq2w36 (Or.inl ⟨?hw2w36, ?hy2w36⟩) (by assumption) ?_
                  case ho2w36 => rfl
                  case hw2w36 => rfl
                  case hy2w36 => (intro w hSw; (try dsimp only at hSw); go_simp; (try (with_reducible rfl)))
                  case hq2w36 => exact fun _ _ _ h => h
                  simp only [Act.put, List.getElem_toArray, List.getElem_cons_succ, List.getElem_cons_zero, List.setIfInBounds_toArray, List.set_cons_zero, List.set_cons_succ]
                  refine wpAnyH_ready (rs := [37]) (by kernel_rfl) (by simp) ?_
                  refine AllReadyH.cons rfl (fun K hK => ?_) AllReadyH.nil
                  go_simp
                  (go_at_call 24; (with_reducible refine (cmp_z zC p3.a p3.c p3.a' p3.c' p4.a p4.c p4.a' p4.c' q3 q4 _ hzC.out (QM.kq hp3.out (by assumption)) (QM.kq hp4.out (by assumption)) sp3.out sp4.out).mono ?_); rintro e x4 ⟨rfl, hb4⟩; have k4 : Kq wr x4 := Kq.step (by assumption) hb4)
                  (try go_wp2_with (fail))
                  refine hK.out _ _ k4 (fun hHeld => ?_)
                  clear hK K
                  refine wpAnyH_take (i := 38) (oi := ?oi2w38) (v := ?v2w38) ?ho2w38 (by kernel_rfl) (by kernel_rfl) (by kernel_rfl) ?hq2w38 (Or.inl ⟨?hw2w38, ?hy2w38⟩) (by assumption) ?_
                  case ho2w38 => rfl
                  case hw2w38 => rfl
                  case hy2w38 => (intro w hSw; (try dsimp only at hSw); go_simp; (try (with_reducible rfl)))
                  case hq2w38 => exact fun _ _ _ h => h
                  simp only [Act.put, List.getElem_toArray, List.getElem_cons_succ, List.getElem_cons_zero, List.setIfInBounds_toArray, List.set_cons_zero, List.set_cons_succ]
                  refine wpAnyH_take (i := 39) (oi := ?oi2w39) (v := ?v2w39) ?ho2w39 (by kernel_rfl) (by kernel_rfl) (by kernel_rfl) ?hq2w39 (Or.inl ⟨?hw2w39, ?hy2w39⟩) (by assumption) ?_
                  case ho2w39 => rfl
                  case hw2w39 => rfl
                  case hy2w39 => (intro w hSw; (try dsimp only at hSw); go_simp; (try (with_reducible rfl)))
                  case hq2w39 => exact fun _ _ _ h => h
                  simp only [Act.put, List.getElem_toArray, List.getElem_cons_succ, List.getElem_cons_zero, List.setIfInBounds_toArray, List.set_cons_zero, List.set_cons_succ]
                  refine wpAnyH_take (i := 40) (oi := ?oi2w40) (v := ?v2w40) ?ho2w40 (by kernel_rfl) (by kernel_rfl) (by kernel_rfl) ?hq2w40 (Or.inl ⟨?hw2w40, ?hy2w40⟩) (by assumption) ?_
                  case ho2w40 => rfl
                  case hw2w40 => rfl
                  case hy2w40 => (intro w hSw; (try dsimp only at hSw); go_simp; (try (with_reducible rfl)))
                  case hq2w40 => exact fun _ _ _ h => h
                  simp only [Act.put, List.getElem_toArray, List.getElem_cons_succ, List.getElem_cons_zero, List.setIfInBounds_toArray, List.set_cons_zero, List.set_cons_succ]
                  refine wpAnyH_take (i := 41) (oi := ?oi2w41) (v := undef) ?ho2w41 (by kernel_rfl) (by kernel_rfl) (by kernel_rfl) ?hq2w41 (Or.inr ⟨?hw2w41, rfl⟩) (by assumption) ?_
                  case ho2w41 => rfl
                  case hw2w41 => rfl
                  case hq2w41 => exact fun _ _ _ h => h
                  simp only [Act.put, List.getElem_toArray, List.getElem_cons_succ, List.getElem_cons_zero, List.setIfInBounds_toArray, List.set_cons_zero, List.set_cons_succ]
                  refine wpAnyH_take (i := 42) (oi := ?oi2w42) (v := undef) ?ho2w42 (by kernel_rfl) (by kernel_rfl) (by kernel_rfl) ?hq2w42 (Or.inr ⟨?hw2w42, rfl⟩) (by assumption) ?_
                  case ho2w42 => rfl
                  case hw2w42 => rfl
                  case hq2w42 => exact fun _ _ _ h => h
                  simp only [Act.put, List.getElem_toArray, List.getElem_cons_succ, List.getElem_cons_zero, List.setIfInBounds_toArray, List.set_cons_zero, List.set_cons_succ]
                  refine wpAnyH_take (i := 43) (oi := ?oi2w43) (v := undef) ?ho2w43 (by kernel_rfl) (by kernel_rfl) (by kernel_rfl) ?hq2w43 (Or.inr ⟨?hw2w43, rfl⟩) (by assumption) ?_
                  case ho2w43 => rfl
                  case hw2w43 => rfl
                  case hq2w43 => exact fun _ _ _ h => h
                  simp only [Act.put, List.getElem_toArray, List.getElem_cons_succ, List.getElem_cons_zero, List.setIfInBounds_toArray, List.set_cons_zero, List.set_cons_succ]
                  refine wpAnyH_take (i := 44) (oi := ?oi2w44) (v := undef) ?ho2w44 (by kernel_rfl) (by kernel_rfl) (by kernel_rfl) ?hq2w44 (Or.inr ⟨?hw2w44, rfl⟩) (by assumption) ?_
                  case ho2w44 => rfl
                  case hw2w44 => rfl
                  case hq2w44 => exact fun _ _ _ h => h
                  simp only [Act.put, List.getElem_toArray, List.getElem_cons_succ, List.getElem_cons_zero, List.setIfInBounds_toArray, List.set_cons_zero, List.set_cons_succ]
                  refine wpAnyH_take (i := 45) (oi := ?oi2w45) (v := undef) ?ho2w45 (by kernel_rfl) (by kernel_rfl) (by kernel_rfl) ?hq2w45 (Or.inr ⟨?hw2w45, rfl⟩) (by assumption) ?_
                  case ho2w45 => rfl
                  case hw2w45 => rfl
                  case hq2w45 => exact fun _ _ _ h => h
                  simp only [Act.put, List.getElem_toArray, List.getElem_cons_succ, List.getElem_cons_zero, List.setIfInBounds_toArray, List.set_cons_zero, List.set_cons_succ]
                  refine wpAnyH_take (i := 46) (oi := ?oi2w46) (v := undef) ?ho2w46 (by kernel_rfl) (by kernel_rfl) (by kernel_rfl) ?hq2w46 (Or.inr ⟨?hw2w46, rfl⟩) (by assumption) ?_
                  case ho2w46 => rfl
                  case hw2w46 => rfl
                  case hq2w46 => exact fun _ _ _ h => h
                  simp only [Act.put, List.getElem_toArray, List.getElem_cons_succ, List.getElem_cons_zero, List.setIfInBounds_toArray, List.set_cons_zero, List.set_cons_succ]
                  refine wpAnyH_take (i := 47) (oi := ?oi2w47) (v := undef) ?ho2w47 (by kernel_rfl) (by kernel_rfl) (by kernel_rfl) ?hq2w47 (Or.inr ⟨?hw2w47, rfl⟩) (by assumption) ?_
                  case ho2w47 => rfl
                  case hw2w47 => rfl
                  case hq2w47 => exact fun _ _ _ h => h
                  simp only [Act.put, List.getElem_toArray, List.getElem_cons_succ, List.getElem_cons_zero, List.setIfInBounds_toArray, List.set_cons_zero, List.set_cons_succ]
                  refine wpAnyH_take (i := 48) (oi := ?oi2w48) (v := undef) ?ho2w48 (by kernel_rfl) (by kernel_rfl) (by kernel_rfl) ?hq2w48 (Or.inr ⟨?hw2w48, rfl⟩) (by assumption) ?_
                  case ho2w48 => rfl
                  case hw2w48 => rfl
                  case hq2w48 => exact fun _ _ _ h => h
                  simp only [Act.put, List.getElem_toArray, List.getElem_cons_succ, List.getElem_cons_zero, List.setIfInBounds_toArray, List.set_cons_zero, List.set_cons_succ]
                  refine wpAnyH_take (i := 49) (oi := ?oi2w49) (v := undef) ?ho2w49 (by kernel_rfl) (by kernel_rfl) (by kernel_rfl) ?hq2w49 (Or.inr ⟨?hw2w49, rfl⟩) (by assumption) ?_
                  case ho2w49 => rfl
                  case hw2w49 => rfl
                  case hq2w49 => exact fun _ _ _ h => h
                  simp only [Act.put, List.getElem_toArray, List.getElem_cons_succ, List.getElem_cons_zero, List.setIfInBounds_toArray, List.set_cons_zero, List.set_cons_succ]
                  refine wpAnyH_take (i := 50) (oi := ?oi2w50) (v := undef) ?ho2w50 (by kernel_rfl) (by kernel_rfl) (by kernel_rfl) ?hq2w50 (Or.inr ⟨?hw2w50, rfl⟩) (by assumption) ?_
                  case ho2w50 => rfl
                  case hw2w50 => rfl
                  case hq2w50 => exact fun _ _ _ h => h
                  simp only [Act.put, List.getElem_toArray, List.getElem_cons_succ, List.getElem_cons_zero, List.setIfInBounds_toArray, List.set_cons_zero, List.set_cons_succ]
                  refine wpAnyH_take (i := 51) (oi := ?oi2w51) (v := undef) ?ho2w51 (by kernel_rfl) (by kernel_rfl) (by kernel_rfl) ?hq2w51 (Or.inr ⟨?hw2w51, rfl⟩) (by assumption) ?_
                  case ho2w51 => rfl
                  case hw2w51 => rfl
                  case hq2w51 => exact fun _ _ _ h => h
                  simp only [Act.put, List.getElem_toArray, List.getElem_cons_succ, List.getElem_cons_zero, List.setIfInBounds_toArray, List.set_cons_zero, List.set_cons_succ]
                  refine wpAnyH_take (i := 52) (oi := ?oi2w52) (v := ?v2w52) ?ho2w52 (by kernel_rfl) (by kernel_rfl) (by kernel_rfl) ?hq2w52 (Or.inl ⟨?hw2w52, ?hy2w52⟩) (by assumption) ?_
                  case ho2w52 => rfl
                  case hw2w52 => rfl
                  case hy2w52 => (intro w hSw; (try dsimp only at hSw); go_simp; (try (with_reducible rfl)))
                  case hq2w52 => exact fun _ _ _ h => h
                  simp only [Act.put, List.getElem_toArray, List.getElem_cons_succ, List.getElem_cons_zero, List.setIfInBounds_toArray, List.set_cons_zero, List.set_cons_succ]
                  refine wpAnyH_take (i := 53) (oi := ?oi2w53) (v := ?v2w53) ?ho2w53 (by kernel_rfl) (by kernel_rfl) (by kernel_rfl) ?hq2w53 (Or.inl ⟨?hw2w53, ?hy2w53⟩) (by assumption) ?_
                  case ho2w53 => rfl
                  case hw2w53 => rfl
                  case hy2w53 => (intro w hSw; (try dsimp only at hSw); go_simp; (try (with_reducible rfl)))
                  case hq2w53 => exact fun _ _ _ h => h
                  simp only [Act.put, List.getElem_toArray, List.getElem_cons_succ, List.getElem_cons_zero, List.setIfInBounds_toArray, List.set_cons_zero, List.set_cons_succ]
                  refine wpAnyH_done (by kernel_rfl) ?_ _
                  -- region 31, end
                  go_wp2_with (fail)
                  go_roundw
                  case rel => exact ⟨i + 1, by go_num, by omega, by omega, bseqZ hblH.out k4.2⟩
                  case measure => simp [intOf]; omega
              · obtain rfl : j = z := by omega
                clear hzj hz0' hzj'
                go_upto_region 31 with (fail)
                -- region 31, way 3
                refine wp_region_held_drew (S := fun w' => Kq wr w') (by kernel_rfl) (Kq.drew _) (fun hHeld => ?_)
                refine wpAnyH_take (i := 0) (oi := ?oi3w0) (v := ?v3w0) ?ho3w0 (by kernel_rfl) (by kernel_rfl) (by kernel_rfl) ?hq3w0 (Or.inl ⟨?hw3w0, ?hy3w0⟩) (by assumption) ?_
                case ho3w0 => rfl
                case hw3w0 => rfl
                case hy3w0 => (intro w hSw; (try dsimp only at hSw); go_simp; (try (with_reducible rfl)))
                case hq3w0 => exact fun _ _ _ h => h
                simp only [Act.put, List.getElem_toArray, List.getElem_cons_zero, List.setIfInBounds_toArray, List.set_cons_zero, List.set_cons_succ]
                refine wpAnyH_take (i := 1) (oi := ?oi3w1) (v := ?v3w1) ?ho3w1 (by kernel_rfl) (by kernel_rfl) (by kernel_rfl) ?hq3w1 (Or.inl ⟨?hw3w1, ?hy3w1⟩) (by assumption) ?_
                case ho3w1 => rfl
                case hw3w1 => rfl
                case hy3w1 => (intro w hSw; (try dsimp only at hSw); go_simp; (try (with_reducible rfl)))
                case hq3w1 => exact fun _ _ _ h => h
                simp only [Act.put, List.getElem_toArray, List.getElem_cons_succ, List.getElem_cons_zero, List.setIfInBounds_toArray, List.set_cons_zero, List.set_cons_succ]
                refine wpAnyH_take (i := 2) (oi := ?oi3w2) (v := ?v3w2) ?ho3w2 (by kernel_rfl) (by kernel_rfl) (by kernel_rfl) ?hq3w2 (Or.inl ⟨?hw3w2, ?hy3w2⟩) (by assumption) ?_
                case ho3w2 => rfl
                case hw3w2 => rfl
                case hy3w2 => (intro w hSw; (try dsimp only at hSw); go_simp; (try (with_reducible rfl)))
                case hq3w2 => exact fun _ _ _ h => h
                simp only [Act.put, List.getElem_toArray, List.getElem_cons_succ, List.getElem_cons_zero, List.setIfInBounds_toArray, List.set_cons_zero, List.set_cons_succ]
                refine wpAnyH_take (i := 3) (oi := ?oi3w3) (v := ?v3w3) ?ho3w3 (by kernel_rfl) (by kernel_rfl) (by kernel_rfl) ?hq3w3 (Or.inl ⟨?hw3w3, ?hy3w3⟩) (by assumption) ?_
                case ho3w3 => rfl
                case hw3w3 => rfl
                case hy3w3 => (intro w hSw; (try dsimp only at hSw); go_simp; (try (with_reducible rfl)))
                case hq3w3 => exact fun _ _ _ h => h
                simp only [Act.put, List.getElem_toArray, List.getElem_cons_succ, List.getElem_cons_zero, List.setIfInBounds_toArray, List.set_cons_zero, List.set_cons_succ]
                refine wpAnyH_take (i := 4) (oi := ?oi3w4) (v := ?v3w4) ?ho3w4 (by kernel_rfl) (by kernel_rfl) (by kernel_rfl) ?hq3w4 (Or.inl ⟨?hw3w4, ?hy3w4⟩) (by assumption) ?_
                case ho3w4 => rfl
                case hw3w4 => rfl
                case hy3w4 => (intro w hSw; (try dsimp only at hSw); go_simp; (try (with_reducible rfl)))
                case hq3w4 => exact fun _ _ _ h => h
                simp only [Act.put, List.getElem_toArray, List.getElem_cons_succ, List.getElem_cons_zero, List.setIfInBounds_toArray, List.set_cons_zero, List.set_cons_succ]
                refine wpAnyH_take (i := 5) (oi := ?oi3w5) (v := ?v3w5) ?ho3w5 (by kernel_rfl) (by kernel_rfl) (by kernel_rfl) ?hq3w5 (Or.inl ⟨?hw3w5, ?hy3w5⟩) (by assumption) ?_
                case ho3w5 => rfl
                case hw3w5 => rfl
                case hy3w5 => (intro w hSw; (try dsimp only at hSw); go_simp; (try (with_reducible rfl)))
                case hq3w5 => exact fun _ _ _ h => h
                simp only [Act.put, List.getElem_toArray, List.getElem_cons_succ, List.getElem_cons_zero, List.setIfInBounds_toArray, List.set_cons_zero, List.set_cons_succ]
                refine wpAnyH_take (i := 6) (oi := ?oi3w6) (v := ?v3w6) ?ho3w6 (by kernel_rfl) (by kernel_rfl) (by kernel_rfl) ?hq3w6 (Or.inl ⟨?hw3w6, ?hy3w6⟩) (by assumption) ?_
                case ho3w6 => rfl
                case hw3w6 => rfl
                case hy3w6 => (intro w hSw; (try dsimp only at hSw); go_simp; (try (with_reducible rfl)))
                case hq3w6 => exact fun _ _ _ h => h
                simp only [Act.put, List.getElem_toArray, List.getElem_cons_succ, List.getElem_cons_zero, List.setIfInBounds_toArray, List.set_cons_zero, List.set_cons_succ]
                refine wpAnyH_take (i := 7) (oi := ?oi3w7) (v := ?v3w7) ?ho3w7 (by kernel_rfl) (by kernel_rfl) (by kernel_rfl) ?hq3w7 (Or.inl ⟨?hw3w7, ?hy3w7⟩) (by assumption) ?_
                case ho3w7 => rfl
                case hw3w7 => rfl
                case hy3w7 => (intro w hSw; (try dsimp only at hSw); go_simp; (try (with_reducible rfl)))
                case hq3w7 => exact fun _ _ _ h => h
                simp only [Act.put, List.getElem_toArray, List.getElem_cons_succ, List.getElem_cons_zero, List.setIfInBounds_toArray, List.set_cons_zero, List.set_cons_succ]
                refine wpAnyH_take (i := 8) (oi := ?oi3w8) (v := ?v3w8) ?ho3w8 (by kernel_rfl) (by kernel_rfl) (by kernel_rfl) ?hq3w8 (Or.inl ⟨?hw3w8, ?hy3w8⟩) (by assumption) ?_
                case ho3w8 => rfl
                case hw3w8 => rfl
                case hy3w8 => (intro w hSw; (try dsimp only at hSw); go_simp; (try (with_reducible rfl)))
                case hq3w8 => exact fun _ _ _ h => h
                simp only [Act.put, List.getElem_toArray, List.getElem_cons_succ, List.getElem_cons_zero, List.setIfInBounds_toArray, List.set_cons_zero, List.set_cons_succ]
                refine wpAnyH_ready (rs := [9]) (by kernel_rfl) (by simp) ?_
                refine AllReadyH.cons rfl (fun K hK => ?_) AllReadyH.nil
                go_simp
                (go_at_call 24; (with_reducible refine (cmp_z zA p1.a p1.c p1.a' p1.c' p2.a p2.c p2.a' p2.c' q1 q2 _ hzA.out (QM.kq hp1.out (by assumption)) (QM.kq hp2.out (by assumption)) sp1.out sp2.out).mono ?_); rintro e x1 ⟨rfl, hb1⟩; have k1 : Kq wr x1 := Kq.step (by assumption) hb1)
                (try go_wp2_with (fail))
                refine hK.out _ _ k1 (fun hHeld => ?_)
                clear hK K
                refine wpAnyH_take (i := 10) (oi := ?oi3w10) (v := ?v3w10) ?ho3w10 (by kernel_rfl) (by kernel_rfl) (by kernel_rfl) ?hq3w10 (Or.inl ⟨?hw3w10, ?hy3w10⟩) (by assumption) ?_
                case ho3w10 => rfl
                case hw3w10 => rfl
                case hy3w10 => (intro w hSw; (try dsimp only at hSw); go_simp; (try (with_reducible rfl)))
                case hq3w10 => exact fun _ _ _ h => h
                simp only [Act.put, List.getElem_toArray, List.getElem_cons_succ, List.getElem_cons_zero, List.setIfInBounds_toArray, List.set_cons_zero, List.set_cons_succ]
                refine wpAnyH_take (i := 11) (oi := ?oi3w11) (v := ?v3w11) ?ho3w11 (by kernel_rfl) (by kernel_rfl) (by kernel_rfl) ?hq3w11 (Or.inl ⟨?hw3w11, ?hy3w11⟩) (by assumption) ?_
                case ho3w11 => rfl
                case hw3w11 => rfl
                case hy3w11 => (intro w hSw; (try dsimp only at hSw); go_simp; (try (with_reducible rfl)))
                case hq3w11 => exact fun _ _ _ h => h
                simp only [Act.put, List.getElem_toArray, List.getElem_cons_succ, List.getElem_cons_zero, List.setIfInBounds_toArray, List.set_cons_zero, List.set_cons_succ]
                refine wpAnyH_take (i := 12) (oi := ?oi3w12) (v := ?v3w12) ?ho3w12 (by kernel_rfl) (by kernel_rfl) (by kernel_rfl) ?hq3w12 (Or.inl ⟨?hw3w12, ?hy3w12⟩) (by assumption) ?_
                case ho3w12 => rfl
                case hw3w12 => rfl
                case hy3w12 => (intro w hSw; (try dsimp only at hSw); go_simp; (try (with_reducible rfl)))
                case hq3w12 => exact fun _ _ _ h => h
                simp only [Act.put, List.getElem_toArray, List.getElem_cons_succ, List.getElem_cons_zero, List.setIfInBounds_toArray, List.set_cons_zero, List.set_cons_succ]
                refine wpAnyH_take (i := 13) (oi := ?oi3w13) (v := ?v3w13) ?ho3w13 (by kernel_rfl) (by kernel_rfl) (by kernel_rfl) ?hq3w13 (Or.inl ⟨?hw3w13, ?hy3w13⟩) (by assumption) ?_
                case ho3w13 => rfl
                case hw3w13 => rfl
                case hy3w13 => (intro w hSw; (try dsimp only at hSw); go_simp; (try (with_reducible rfl)))
                case hq3w13 => exact fun _ _ _ h => h
                simp only [Act.put, List.getElem_toArray, List.getElem_cons_succ, List.getElem_cons_zero, List.setIfInBounds_toArray, List.set_cons_zero, List.set_cons_succ]
                refine wpAnyH_take (i := 14) (oi := ?oi3w14) (v := ?v3w14) ?ho3w14 (by kernel_rfl) (by kernel_rfl) (by kernel_rfl) ?hq3w14 (Or.inl ⟨?hw3w14, ?hy3w14⟩) (by assumption) ?_
                case ho3w14 => rfl
                case hw3w14 => rfl
                case hy3w14 => (intro w hSw; (try dsimp only at hSw); go_simp; (try (with_reducible rfl)))
                case hq3w14 => exact fun _ _ _ h => h
                simp only [Act.put, List.getElem_toArray, List.getElem_cons_succ, List.getElem_cons_zero, List.setIfInBounds_toArray, List.set_cons_zero, List.set_cons_succ]
                refine wpAnyH_take (i := 15) (oi := ?oi3w15) (v := ?v3w15) ?ho3w15 (by kernel_rfl) (by kernel_rfl) (by kernel_rfl) ?hq3w15 (Or.inl ⟨?hw3w15, ?hy3w15⟩) (by assumption) ?_
                case ho3w15 => rfl
                case hw3w15 => rfl
                case hy3w15 => (intro w hSw; (try dsimp only at hSw); go_simp; (try (with_reducible rfl)))
                case hq3w15 => exact fun _ _ _ h => h
                simp only [Act.put, List.getElem_toArray, List.getElem_cons_succ, List.getElem_cons_zero, List.setIfInBounds_toArray, List.set_cons_zero, List.set_cons_succ]
                refine wpAnyH_take (i := 16) (oi := ?oi3w16) (v := ?v3w16) ?ho3w16 (by kernel_rfl) (by kernel_rfl) (by kernel_rfl) ?hq3w16 (Or.inl ⟨?hw3w16, ?hy3w16⟩) (by assumption) ?_
                case ho3w16 => rfl
                case hw3w16 => rfl
                case hy3w16 => (intro w hSw; (try dsimp only at hSw); go_simp; (try (with_reducible rfl)))
                case hq3w16 => exact fun _ _ _ h => h
                simp only [Act.put, List.getElem_toArray, List.getElem_cons_succ, List.getElem_cons_zero, List.setIfInBounds_toArray, List.set_cons_zero, List.set_cons_succ]
                refine wpAnyH_ready (rs := [17]) (by kernel_rfl) (by simp) ?_
                refine AllReadyH.cons rfl (fun K hK => ?_) AllReadyH.nil
                go_simp
                (go_at_call 23; (with_reducible refine (of_t r _ hrr4.out).mono ?_); rintro e x2 ⟨a20, d20, a20', d20', rfl, hm20, hb2⟩; have hm20H := Lib.hid hm20; have k2 : Kq wr x2 := Kq.step (by assumption) hb2; clear hm20)
                (try go_wp2_with (fail))
                refine hK.out _ _ k2 (fun hHeld => ?_)
                clear hK K
                refine wpAnyH_ready (rs := [18]) (by kernel_rfl) (by simp) ?_
                refine AllReadyH.cons rfl (fun K hK => ?_) AllReadyH.nil
                go_simp
                (go_at_call 24; (with_reducible refine (cmp_z zB p3.a p3.c p3.a' p3.c' a20 d20 a20' d20' q3 r _ hzB.out (QM.kq hp3.out (by assumption)) hm20H.out sp3.out srr.out).mono ?_); rintro e x3 ⟨rfl, hb3⟩; have k3 : Kq wr x3 := Kq.step (by assumption) hb3)
                (try go_wp2_with (fail))
                refine hK.out _ _ k3 (fun hHeld => ?_)
                clear hK K
                refine wpAnyH_take (i := 19) (oi := ?oi3w19) (v := ?v3w19) ?ho3w19 (by kernel_rfl) (by kernel_rfl) (by kernel_rfl) ?hq3w19 (Or.inl ⟨?hw3w19, ?hy3w19⟩) (by assumption) ?_
                case ho3w19 => rfl
                case hw3w19 => rfl
                case hy3w19 => (intro w hSw; (try dsimp only at hSw); go_simp; (try (with_reducible rfl)))
                case hq3w19 => exact fun _ _ _ h => h
                simp only [Act.put, List.getElem_toArray, List.getElem_cons_succ, List.getElem_cons_zero, List.setIfInBounds_toArray, List.set_cons_zero, List.set_cons_succ]
                refine wpAnyH_take (i := 20) (oi := ?oi3w20) (v := ?v3w20) ?ho3w20 (by kernel_rfl) (by kernel_rfl) (by kernel_rfl) ?hq3w20 (Or.inl ⟨?hw3w20, ?hy3w20⟩) (by assumption) ?_
                case ho3w20 => rfl
                case hw3w20 => rfl
                case hy3w20 => (intro w hSw; (try dsimp only at hSw); go_simp; (try (with_reducible rfl)))
                case hq3w20 => exact fun _ _ _ h => h
                simp only [Act.put, List.getElem_toArray, List.getElem_cons_succ, List.getElem_cons_zero, List.setIfInBounds_toArray, List.set_cons_zero, List.set_cons_succ]
                refine wpAnyH_take (i := 21) (oi := ?oi3w21) (v := ?v3w21) ?ho3w21 (by kernel_rfl) (by kernel_rfl) (by kernel_rfl) ?hq3w21 (Or.inl ⟨?hw3w21, ?hy3w21⟩) (by assumption) ?_
                case ho3w21 => rfl
                case hw3w21 => rfl
                case hy3w21 => (intro w hSw; (try dsimp only at hSw); go_simp; (try (with_reducible rfl)))
                case hq3w21 => exact fun _ _ _ h => h
                simp only [Act.put, List.getElem_toArray, List.getElem_cons_succ, List.getElem_cons_zero, List.setIfInBounds_toArray, List.set_cons_zero, List.set_cons_succ]
                refine wpAnyH_take (i := 22) (oi := ?oi3w22) (v := ?v3w22) ?ho3w22 (by kernel_rfl) (by kernel_rfl) (by kernel_rfl) ?hq3w22 (Or.inl ⟨?hw3w22, ?hy3w22⟩) (by assumption) ?_
                case ho3w22 => rfl
                case hw3w22 => rfl
                case hy3w22 => (intro w hSw; (try dsimp only at hSw); go_simp; (try (with_reducible rfl)))
                case hq3w22 => exact fun _ _ _ h => h
                simp only [Act.put, List.getElem_toArray, List.getElem_cons_succ, List.getElem_cons_zero, List.setIfInBounds_toArray, List.set_cons_zero, List.set_cons_succ]
                refine wpAnyH_take (i := 23) (oi := ?oi3w23) (v := ?v3w23) ?ho3w23 (by kernel_rfl) (by kernel_rfl) (by kernel_rfl) ?hq3w23 (Or.inl ⟨?hw3w23, ?hy3w23⟩) (by assumption) ?_
                case ho3w23 => rfl
                case hw3w23 => rfl
                case hy3w23 => (intro w hSw; (try dsimp only at hSw); go_simp; (try (with_reducible rfl)))
                case hq3w23 => exact fun _ _ _ h => h
                simp only [Act.put, List.getElem_toArray, List.getElem_cons_succ, List.getElem_cons_zero, List.setIfInBounds_toArray, List.set_cons_zero, List.set_cons_succ]
                refine wpAnyH_take (i := 24) (oi := ?oi3w24) (v := ?v3w24) ?ho3w24 (by kernel_rfl) (by kernel_rfl) (by kernel_rfl) ?hq3w24 (Or.inl ⟨?hw3w24, ?hy3w24⟩) (by assumption) ?_
                case ho3w24 => rfl
                case hw3w24 => rfl
                case hy3w24 => (intro w hSw; (try dsimp only at hSw); go_simp; (try (with_reducible rfl)))
                case hq3w24 => exact fun _ _ _ h => h
                simp only [Act.put, List.getElem_toArray, List.getElem_cons_succ, List.getElem_cons_zero, List.setIfInBounds_toArray, List.set_cons_zero, List.set_cons_succ]
                refine wpAnyH_take (i := 25) (oi := ?oi3w25) (v := ?v3w25) ?ho3w25 (by kernel_rfl) (by kernel_rfl) (by kernel_rfl) ?hq3w25 (Or.inl ⟨?hw3w25, ?hy3w25⟩) (by assumption) ?_
                case ho3w25 => rfl
                case hw3w25 => rfl
                case hy3w25 => (intro w hSw; (try dsimp only at hSw); go_simp; (try (with_reducible rfl)))
                case hq3w25 => exact fun _ _ _ h => h
                simp only [Act.put, List.getElem_toArray, List.getElem_cons_succ, List.getElem_cons_zero, List.setIfInBounds_toArray, List.set_cons_zero, List.set_cons_succ]
                refine wpAnyH_take (i := 26) (oi := ?oi3w26) (v := ?v3w26) ?ho3w26 (by kernel_rfl) (by kernel_rfl) (by kernel_rfl) ?hq3w26 (Or.inl ⟨?hw3w26, ?hy3w26⟩) (by assumption) ?_
                case ho3w26 => rfl
                case hw3w26 => rfl
                case hy3w26 => (intro w hSw; (try dsimp only at hSw); go_simp; (try (with_reducible rfl)))
                case hq3w26 => exact fun _ _ _ h => h
                simp only [Act.put, List.getElem_toArray, List.getElem_cons_succ, List.getElem_cons_zero, List.setIfInBounds_toArray, List.set_cons_zero, List.set_cons_succ]
                refine wpAnyH_take (i := 27) (oi := ?oi3w27) (v := ?v3w27) ?ho3w27 (by kernel_rfl) (by kernel_rfl) (by kernel_rfl) ?hq3w27 (Or.inl ⟨?hw3w27, ?hy3w27⟩) (by assumption) ?_
                case ho3w27 => rfl
                case hw3w27 => rfl
                case hy3w27 => (intro w hSw; (try dsimp only at hSw); go_simp; (try (with_reducible rfl)))
                case hq3w27 => exact fun _ _ _ h => h
                simp only [Act.put, List.getElem_toArray, List.getElem_cons_succ, List.getElem_cons_zero, List.setIfInBounds_toArray, List.set_cons_zero, List.set_cons_succ]
                refine wpAnyH_take (i := 28) (oi := ?oi3w28) (v := undef) ?ho3w28 (by kernel_rfl) (by kernel_rfl) (by kernel_rfl) ?hq3w28 (Or.inr ⟨?hw3w28, rfl⟩) (by assumption) ?_
                case ho3w28 => rfl
                case hw3w28 => rfl
                case hq3w28 => exact fun _ _ _ h => h
                simp only [Act.put, List.getElem_toArray, List.getElem_cons_succ, List.getElem_cons_zero, List.setIfInBounds_toArray, List.set_cons_zero, List.set_cons_succ]
                refine wpAnyH_take (i := 29) (oi := ?oi3w29) (v := undef) ?ho3w29 (by kernel_rfl) (by kernel_rfl) (by kernel_rfl) ?hq3w29 (Or.inr ⟨?hw3w29, rfl⟩) (by assumption) ?_
                case ho3w29 => rfl
                case hw3w29 => rfl
                case hq3w29 => exact fun _ _ _ h => h
                simp only [Act.put, List.getElem_toArray, List.getElem_cons_succ, List.getElem_cons_zero, List.setIfInBounds_toArray, List.set_cons_zero, List.set_cons_succ]
                refine wpAnyH_take (i := 30) (oi := ?oi3w30) (v := undef) ?ho3w30 (by kernel_rfl) (by kernel_rfl) (by kernel_rfl) ?hq3w30 (Or.inr ⟨?hw3w30, rfl⟩) (by assumption) ?_
                case ho3w30 => rfl
                case hw3w30 => rfl
                case hq3w30 => exact fun _ _ _ h => h
                simp only [Act.put, List.getElem_toArray, List.getElem_cons_succ, List.getElem_cons_zero, List.setIfInBounds_toArray, List.set_cons_zero, List.set_cons_succ]
                refine wpAnyH_take (i := 31) (oi := ?oi3w31) (v := undef) ?ho3w31 (by kernel_rfl) (by kernel_rfl) (by kernel_rfl) ?hq3w31 (Or.inr ⟨?hw3w31, rfl⟩) (by assumption) ?_
                case ho3w31 => rfl
                case hw3w31 => rfl
                case hq3w31 => exact fun _ _ _ h => h
                simp only [Act.put, List.getElem_toArray, List.getElem_cons_succ, List.getElem_cons_zero, List.setIfInBounds_toArray, List.set_cons_zero, List.set_cons_succ]
                refine wpAnyH_take (i := 32) (oi := ?oi3w32) (v := undef) ?ho3w32 (by kernel_rfl) (by kernel_rfl) (by kernel_rfl) ?hq3w32 (Or.inr ⟨?hw3w32, rfl⟩) (by assumption) ?_
                case ho3w32 => rfl
                case hw3w32 => rfl
                case hq3w32 => exact fun _ _ _ h => h
                simp only [Act.put, List.getElem_toArray, List.getElem_cons_succ, List.getElem_cons_zero, List.setIfInBounds_toArray, List.set_cons_zero, List.set_cons_succ]
                refine wpAnyH_take (i := 33) (oi := ?oi3w33) (v := undef) ?ho3w33 (by kernel_rfl) (by kernel_rfl) (by kernel_rfl) ?hq3w33 (Or.inr ⟨?hw3w33, rfl⟩) (by assumption) ?_
                case ho3w33 => rfl
                case hw3w33 => rfl
                case hq3w33 => exact fun _ _ _ h => h
                simp only [Act.put, List.getElem_toArray, List.getElem_cons_succ, List.getElem_cons_zero, List.setIfInBounds_toArray, List.set_cons_zero, List.set_cons_succ]
                refine wpAnyH_take (i := 34) (oi := ?oi3w34) (v := undef) ?ho3w34 (by kernel_rfl) (by kernel_rfl) (by kernel_rfl) ?hq3w34 (Or.inr ⟨?hw3w34, rfl⟩) (by assumption) ?_
                case ho3w34 => rfl
                case hw3w34 => rfl
                case hq3w34 => exact fun _ _ _ h => h
                simp only [Act.put, List.getElem_toArray, List.getElem_cons_succ, List.getElem_cons_zero, List.setIfInBounds_toArray, List.set_cons_zero, List.set_cons_succ]
                refine wpAnyH_take (i := 35) (oi := ?oi3w35) (v := undef) ?ho3w35 (by kernel_rfl) (by kernel_rfl) (by kernel_rfl) ?hq3w35 (Or.inr ⟨?hw3w35, rfl⟩) (by assumption) ?_
                case ho3w35 => rfl
                case hw3w35 => rfl
                case hq3w35 => exact fun _ _ _ h => h
                simp only [Act.put, List.getElem_toArray, List.getElem_cons_succ, List.getElem_cons_zero, List.setIfInBounds_toArray, List.set_cons_zero, List.set_cons_succ]
                refine wpAnyH_take (i := 36) (oi := ?oi3w36) (v := undef) ?ho3w36 (by kernel_rfl) (by kernel_rfl) (by kernel_rfl) ?hq3w36 (Or.inr ⟨?hw3w36, rfl⟩) (by assumption) ?_
                case ho3w36 => rfl
                case hw3w36 => rfl
                case hq3w36 => exact fun _ _ _ h => h
                simp only [Act.put, List.getElem_toArray, List.getElem_cons_succ, List.getElem_cons_zero, List.setIfInBounds_toArray, List.set_cons_zero, List.set_cons_succ]
                refine wpAnyH_take (i := 37) (oi := ?oi3w37) (v := undef) ?ho3w37 (by kernel_rfl) (by kernel_rfl) (by kernel_rfl) ?hq3w37 (Or.inr ⟨?hw3w37, rfl⟩) (by assumption) ?_
                case ho3w37 => rfl
                case hw3w37 => rfl
                case hq3w37 => exact fun _ _ _ h => h
                simp only [Act.put, List.getElem_toArray, List.getElem_cons_succ, List.getElem_cons_zero, List.setIfInBounds_toArray, List.set_cons_zero, List.set_cons_succ]
                refine wpAnyH_take (i := 38) (oi := ?oi3w38) (v := undef) ?ho3w38 (by kernel_rfl) (by kernel_rfl) (by kernel_rfl) ?hq3w38 (Or.inr ⟨?hw3w38, rfl⟩) (by assumption) ?_
                case ho3w38 => rfl
                case hw3w38 => rfl
                case hq3w38 => exact fun _ _ _ h => h
                simp only [Act.put, List.getElem_toArray, List.getElem_cons_succ, List.getElem_cons_zero, List.setIfInBounds_toArray, List.set_cons_zero, List.set_cons_succ]
                refine wpAnyH_take (i := 39) (oi := ?oi3w39) (v := ?v3w39) ?ho3w39 (by kernel_rfl) (by kernel_rfl) (by kernel_rfl) ?hq3w39 (Or.inl ⟨?hw3w39, ?hy3w39⟩) (by assumption) ?_
                case ho3w39 => rfl
                case hw3w39 => rfl
                case hy3w39 => (intro w hSw; (try dsimp only at hSw); go_simp; (try (with_reducible rfl)))
                case hq3w39 => exact fun _ _ _ h => h
                simp only [Act.put, List.getElem_toArray, List.getElem_cons_succ, List.getElem_cons_zero, List.setIfInBounds_toArray, List.set_cons_zero, List.set_cons_succ]
                refine wpAnyH_take (i := 40) (oi := ?oi3w40) (v := ?v3w40) ?ho3w40 (by kernel_rfl) (by kernel_rfl) (by kernel_rfl) ?hq3w40 (Or.inl ⟨?hw3w40, ?hy3w40⟩) (by assumption) ?_
                case ho3w40 => rfl
                case hw3w40 => rfl
                case hy3w40 => (intro w hSw; (try dsimp only at hSw); go_simp; (try (with_reducible rfl)))
                case hq3w40 => exact fun _ _ _ h => h
                simp only [Act.put, List.getElem_toArray, List.getElem_cons_succ, List.getElem_cons_zero, List.setIfInBounds_toArray, List.set_cons_zero, List.set_cons_succ]
                refine wpAnyH_take (i := 41) (oi := ?oi3w41) (v := undef) ?ho3w41 (by kernel_rfl) (by kernel_rfl) (by kernel_rfl) ?hq3w41 (Or.inr ⟨?hw3w41, rfl⟩) (by assumption) ?_
                case ho3w41 => rfl
                case hw3w41 => rfl
                case hq3w41 => exact fun _ _ _ h => h
                simp only [Act.put, List.getElem_toArray, List.getElem_cons_succ, List.getElem_cons_zero, List.setIfInBounds_toArray, List.set_cons_zero, List.set_cons_succ]
                refine wpAnyH_take (i := 42) (oi := ?oi3w42) (v := undef) ?ho3w42 (by kernel_rfl) (by kernel_rfl) (by kernel_rfl) ?hq3w42 (Or.inr ⟨?hw3w42, rfl⟩) (by assumption) ?_
                case ho3w42 => rfl
                case hw3w42 => rfl
                case hq3w42 => exact fun _ _ _ h => h
                simp only [Act.put, List.getElem_toArray, List.getElem_cons_succ, List.getElem_cons_zero, List.setIfInBounds_toArray, List.set_cons_zero, List.set_cons_succ]
                refine wpAnyH_take (i := 43) (oi := ?oi3w43) (v := undef) ?ho3w43 (by kernel_rfl) (by kernel_rfl) (by kernel_rfl) ?hq3w43 (Or.inr ⟨?hw3w43, rfl⟩) (by assumption) ?_
                case ho3w43 => rfl
                case hw3w43 => rfl
                case hq3w43 => exact fun _ _ _ h => h
                simp only [Act.put, List.getElem_toArray, List.getElem_cons_succ, List.getElem_cons_zero, List.setIfInBounds_toArray, List.set_cons_zero, List.set_cons_succ]
                refine wpAnyH_take (i := 44) (oi := ?oi3w44) (v := undef) ?ho3w44 (by kernel_rfl) (by kernel_rfl) (by kernel_rfl) ?hq3w44 (Or.inr ⟨?hw3w44, rfl⟩) (by assumption) ?_
                case ho3w44 => rfl
                case hw3w44 => rfl
                case hq3w44 => exact fun _ _ _ h => h
                simp only [Act.put, List.getElem_toArray, List.getElem_cons_succ, List.getElem_cons_zero, List.setIfInBounds_toArray, List.set_cons_zero, List.set_cons_succ]
                refine wpAnyH_take (i := 45) (oi := ?oi3w45) (v := undef) ?ho3w45 (by kernel_rfl) (by kernel_rfl) (by kernel_rfl) ?hq3w45 (Or.inr ⟨?hw3w45, rfl⟩) (by assumption) ?_
                case ho3w45 => rfl
                case hw3w45 => rfl
                case hq3w45 => exact fun _ _ _ h => h
                simp only [Act.put, List.getElem_toArray, List.getElem_cons_succ, List.getElem_cons_zero, List.setIfInBounds_toArray, List.set_cons_zero, List.set_cons_succ]
                refine wpAnyH_take (i := 46) (oi := ?oi3w46) (v := undef) ?ho3w46 (by kernel_rfl) (by kernel_rfl) (by kernel_rfl) ?hq3w46 (Or.inr ⟨?hw3w46, rfl⟩) (by assumption) ?_
                case ho3w46 => rfl
                case hw3w46 => rfl
                case hq3w46 => exact fun _ _ _ h => h
                simp only [Act.put, List.getElem_toArray, List.getElem_cons_succ, List.getElem_cons_zero, List.setIfInBounds_toArray, List.set_cons_zero, List.set_cons_succ]
                refine wpAnyH_take (i := 47) (oi := ?oi3w47) (v := undef) ?ho3w47 (by kernel_rfl) (by kernel_rfl) (by kernel_rfl) ?hq3w47 (Or.inr ⟨?hw3w47, rfl⟩) (by assumption) ?_
                case ho3w47 => rfl
                case hw3w47 => rfl
                case hq3w47 => exact fun _ _ _ h => h
                simp only [Act.put, List.getElem_toArray, List.getElem_cons_succ, List.getElem_cons_zero, List.setIfInBounds_toArray, List.set_cons_zero, List.set_cons_succ]
                refine wpAnyH_take (i := 48) (oi := ?oi3w48) (v := undef) ?ho3w48 (by kernel_rfl) (by kernel_rfl) (by kernel_rfl) ?hq3w48 (Or.inr ⟨?hw3w48, rfl⟩) (by assumption) ?_
                case ho3w48 => rfl
                case hw3w48 => rfl
                case hq3w48 => exact fun _ _ _ h => h
                simp only [Act.put, List.getElem_toArray, List.getElem_cons_succ, List.getElem_cons_zero, List.setIfInBounds_toArray, List.set_cons_zero, List.set_cons_succ]
                refine wpAnyH_take (i := 49) (oi := ?oi3w49) (v := undef) ?ho3w49 (by kernel_rfl) (by kernel_rfl) (by kernel_rfl) ?hq3w49 (Or.inr ⟨?hw3w49, rfl⟩) (by assumption) ?_
                case ho3w49 => rfl
                case hw3w49 => rfl
                case hq3w49 => exact fun _ _ _ h => h
                simp only [Act.put, List.getElem_toArray, List.getElem_cons_succ, List.getElem_cons_zero, List.setIfInBounds_toArray, List.set_cons_zero, List.set_cons_succ]
                refine wpAnyH_take (i := 50) (oi := ?oi3w50) (v := undef) ?ho3w50 (by kernel_rfl) (by kernel_rfl) (by kernel_rfl) ?hq3w50 (Or.inr ⟨?hw3w50, rfl⟩) (by assumption) ?_
                case ho3w50 => rfl
                case hw3w50 => rfl
                case hq3w50 => exact fun _ _ _ h => h
                simp only [Act.put, List.getElem_toArray, List.getElem_cons_succ, List.getElem_cons_zero, List.setIfInBounds_toArray, List.set_cons_zero, List.set_cons_succ]
                refine wpAnyH_take (i := 51) (oi := ?oi3w51) (v := undef) ?ho3w51 (by kernel_rfl) (by kernel_rfl) (by kernel_rfl) ?hq3w51 (Or.inr ⟨?hw3w51, rfl⟩) (by assumption) ?_
                case ho3w51 => rfl
                case hw3w51 => rfl
                case hq3w51 => exact fun _ _ _ h => h
                simp only [Act.put, List.getElem_toArray, List.getElem_cons_succ, List.getElem_cons_zero, List.setIfInBounds_toArray, List.set_cons_zero, List.set_cons_succ]
                refine wpAnyH_take (i := 52) (oi := ?oi3w52) (v := ?v3w52) ?ho3w52 (by kernel_rfl) (by kernel_rfl) (by kernel_rfl) ?hq3w52 (Or.inl ⟨?hw3w52, ?hy3w52⟩) (by assumption) ?_
                case ho3w52 => rfl
                case hw3w52 => rfl
                case hy3w52 => (intro w hSw; (try dsimp only at hSw); go_simp; (try (with_reducible rfl)))
                case hq3w52 => exact fun _ _ _ h => h
                simp only [Act.put, List.getElem_toArray, List.getElem_cons_succ, List.getElem_cons_zero, List.setIfInBounds_toArray, List.set_cons_zero, List.set_cons_succ]
                refine wpAnyH_take (i := 53) (oi := ?oi3w53) (v := ?v3w53) ?ho3w53 (by kernel_rfl) (by kernel_rfl) (by kernel_rfl) ?hq3w53 (Or.inl ⟨?hw3w53, ?hy3w53⟩) (by assumption) ?_
                case ho3w53 => rfl
                case hw3w53 => rfl
                case hy3w53 => (intro w hSw; (try dsimp only at hSw); go_simp; (try (with_reducible rfl)))
                case hq3w53 => exact fun _ _ _ h => h
                simp only [Act.put, List.getElem_toArray, List.getElem_cons_succ, List.getElem_cons_zero, List.setIfInBounds_toArray, List.set_cons_zero, List.set_cons_succ]
                refine wpAnyH_done (by kernel_rfl) ?_ _
                -- region 31, end
                go_wp2_with (fail)
                go_roundw
                case rel => exact ⟨i + 1, by go_num, by omega, by omega, bseqZ hblH.out k3.2⟩
                case measure => simp [intOf]; omega
            · have hik : ¬ (i : Int) < (j : Int) := by omega
              go_wp2_with (fail)
              go_ret
              exact ⟨rfl, bseq r12.out hbl⟩
        · have hk0 : e = 1 ∨ e = 2 := by
            rcases he with ⟨_, rfl⟩ | ⟨_, _, rfl⟩ | ⟨_, _, rfl⟩
            · exact Or.inr rfl
            · exact Or.inl rfl
            · exact absurd rfl he0
          have heH := Lib.hid he
          have hr : Hid (∀ (v : World) (a : Option Addr) (c : Nat), SL v a ts → Calls Tryz.prog 55 #[.slice a j c, .string pl, .string fl] v (RetErr v e)) := fun v a c hS => rates_k e a c j ts pl fl v hk0 heH.out htk.out hS (by omega) hs40.out p40 f40
          have hkn : (e != 0) = true := by rcases hk0 with rfl | rfl <;> rfl
          have hrT : Hid (∀ (v : World) (a : Option Addr) (c : Nat), SL v a ts → Calls Tryz.prog 19 #[.slice a j c, .string pl, .string fl] v (RetErr v e)) := fun v a c hS => ratesT_bad e hkn a c j pl fl v (hr.out v a c hS)
          have hrB : Hid (∀ (v : World) (a : Option Addr) (c : Nat), SL v a ts → Calls Tryz.prog 20 #[.slice a j c, .string pl, .string fl] v (RetBestErr v e)) := fun v a c hS => replace_bad e hkn a c j pl fl v (hr.out v a c hS)
          clear hkn he he0
          rcases hk0 with rfl | rfl
          all_goals (
            go_wp2_with (first
              | (go_at_call 19; go_loud (with_reducible refine (hrT.out _ ao2 co2 hS5.out).mono ?_); rintro e w6 ⟨rfl, hb6⟩; have r6 := Lib.hid (bseq r5.out hb6); have hS6 := Lib.hid (hS5.out.below hb6); clear hb6)
              | (go_at_call 20; go_loud (with_reducible refine (hrB.out _ ao2 co2 hS6.out).mono ?_); rintro e w7 ⟨rfl, hb7⟩; have r7 := Lib.hid (bseq r6.out hb7); have hS7 := Lib.hid (hS6.out.below hb7); clear hb7)
              | (go_at_call 21; go_loud (with_reducible refine (costsR_any _ ao2 co2 j ts pl fl _ heH.out htk.out hS7.out hlt.out hs40.out p40 f40).mono ?_); rintro e w8 ⟨rfl, hb8⟩; have r8 := Lib.hid (bseq r7.out hb8); clear hb8)
              | (go_at_call 14; go_loud (with_reducible refine (lives_any _).mono ?_); rintro e w9 ⟨rfl, hb9⟩; have r9 := Lib.hid (bseq r8.out hb9); clear hb9))
            go_ret
            exact ⟨rfl, r9.out⟩)

end

end Go.Proofs.YtcaeonpjokkjnaaGreat
