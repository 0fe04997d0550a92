/- Lw -/
import Derived.Test.YtcaeonpjokkjnaaKEs
import Derived.Test.YtcaeonpjokkjnaaKBx
import Derived.Test.YtcaeonpjokkjnaaKXg
import Derived.BigQuiet
set_option linter.unusedVariables false
/- Walk of the law WearSpan. -/
namespace Go.Proofs.Ytcaeonpjokkjnaa
open Go Go.RowKit Go.Proofs

/-- The texts of the long lives: the first n. -/
def TL (k : Nat) (ps : List Rat) (n : Nat) : List ByteArray := (lgL k ps n).map nt
theorem TL_length (k : Nat) (ps : List Rat) (n : Nat) : (TL k ps n).length = n := by unfold TL; rw [List.length_map, lgL_length]
theorem TL_next (k : Nat) (ps : List Rat) (n : Nat) (t : ByteArray) (h : nt (lgf k ps n) = t) : TL k ps n ++ [t] = TL k ps (n + 1) := by
  unfold TL; rw [← lgL_next, List.map_append, ← h]; rfl
theorem nt_0 : nt 0 = ⟨#[48]⟩ := by decide
theorem nt_0s : (nt 0).size ≤ 40 := by rw [nt_0]; decide
theorem nt_half : nt (1 / 2) = hf := by rw [← hf_q, nt_parse hf_ok]
theorem H2_txt : H2.map nt = [hf, hf] := by show [nt (1 / 2), nt (1 / 2)] = _; rw [nt_half]
theorem H2_4 : ∀ q ∈ H2, Short4 q := fun q hq => by
  have e : q = 1 / 2 := by simp [H2] at hq; exact hq
  subst e
  have e1 : rn (1 / 2) = 1 := by kernel_rfl
  have e2 : rd (1 / 2) = 2 := by kernel_rfl
  exact ⟨by rw [e1]; exact lt_p10 (n := 1) (by omega) (by omega), by rw [e2]; exact lt_p10 (n := 2) (by omega) (by omega)⟩
theorem zero_4 : Short4 0 := ⟨lt_p10 (n := 0) (by omega) (by omega), lt_p10 (n := 1) (by omega) (by omega)⟩

/-- Lives, and their texts. -/
def GL (ps : List Rat) : Prop := livesGood ps ∧ (∀ q ∈ ps, Short4 q) ∧ (∀ s ∈ ps.map nt, s.size ≤ 40)
theorem GL.made (xs : List Nat) : GL (madeL xs) := ⟨made_good xs, made_short, made_texts xs⟩
theorem GL.half : GL H2 := ⟨by have := H2_good; rwa [H2_map] at this, H2_4, by rw [H2_txt]; exact hf_small⟩
theorem GL.long {k : Nat} (hk : 0 < k) {ps : List Rat} (h : GL ps) (hl : k * ps.length ≤ 12) : GL (lgL k ps (k * ps.length)) := by
  refine ⟨long_good hk h.1 hl, fun q hq => ?_, fun s hs => ?_⟩
  · rcases lg_mem hq with rfl | hq
    · exact zero_4
    · exact h.2.1 q hq
  · obtain ⟨q, hq, rfl⟩ := List.mem_map.1 hs
    rcases lg_mem hq with rfl | hq
    · exact nt_0s
    · exact h.2.2 _ (List.mem_map_of_mem hq)
theorem GL.read {ps : List Rat} (h : GL ps) (m : Nat) (hm : ps.length = m) (ts : List ByteArray) (ht : ps.map nt = ts) (a : Option Addr) (c : Nat) (v : World) (hS : SL v a ts) :
    Calls Try.prog 28 #[.slice a m c] v (RetLives v ps) := by
  subst ht
  obtain ⟨oa, ea⟩ := texts_ok h.2.1
  have := read_0 a c (ps.map nt) v hS h.2.2 oa (by rw [ea]; exact h.1)
  rw [ea, List.length_map, hm] at this
  exact this
theorem GL.mean {ps : List Rat} (h : GL ps) (m : Nat) (hm : ps.length = m) (ts : List ByteArray) (ht : ps.map nt = ts) (t : ByteArray) (s : Nat) (h1 : nt (meanQ ps) = t) (h2 : spanK ps m = s) (a : Option Addr) (c : Nat) (v : World) (hS : SL v a ts) :
    Calls Try.prog 9 #[.slice a m c] v (RetMean v t s) := by
  have hr := h.read m hm ts ht a c v hS
  have hv := Lv.of h.1
  have hl : ts.length = m := by rw [← ht, List.length_map]; exact hm
  rw [← hl] at hr
  have := mean_good a c ts ps v hr hv.len hv.mean
  rw [h1, hm, h2, hl] at this
  exact this
theorem GL.renew {ps : List Rat} (h : GL ps) (m : Nat) (hm : ps.length = m) (ts : List ByteArray) (ht : ps.map nt = ts) (n : Nat) (x : Int) (hx : ((n : Nat) : Int) = x) (hn : n ≤ 40) (us : List Rat) (hu : uL ps n = us) (a : Option Addr) (c : Nat) (v : World) (hS : SL v a ts) :
    Calls Try.prog 10 #[.slice a m c, .int .i64 x] v (RetNums v (us.map nt)) := by
  subst hx hu
  have hr := h.read m hm ts ht a c v hS
  have hv := Lv.of h.1
  have hl : ts.length = m := by rw [← ht, List.length_map]; exact hm
  rw [← hl] at hr
  have := renew_good n hn a c ts ps v hr hv.len (hv.renew hn)
  rw [hl] at this
  exact this

set_option maxRecDepth 100000 in
set_option maxHeartbeats 20000000 in
theorem spanLaw_any (ao : Option Addr) (c l n1 n2 : Nat) (xs : List Nat) (w : World) (hl : xs.length = l) (h : Dg .u8 w ao xs) (hl1 : l ≤ 9223372036854775807) (hx : ∀ x ∈ xs, x < 256) (hn1 : n1 < 256) (hn2 : n2 < 256) :
    Calls Try.prog 3 #[.slice ao l c, .int .u8 n1, .int .u8 n2] w (RetBool w true) := by
  have hH := Lib.hid h
  have hlH := Lib.hid hl
  have hxH := Lib.hid hx
  obtain ⟨k, hk⟩ : ∃ k : Nat, (n1 : Int) % 3 + 1 = (k : Int) := ⟨n1 % 3 + 1, by omega⟩
  obtain ⟨z, hz⟩ : ∃ z : Nat, (n2 : Int) % 13 = (z : Int) := ⟨n2 % 13, by omega⟩
  have hk1 : 1 ≤ k := by omega
  have hk3 : k ≤ 3 := by omega
  have hz12 : z ≤ 12 := by omega
  obtain ⟨p0, hps⟩ : ∃ ps, ps = madeL xs := ⟨_, rfl⟩
  have hpsH := Lib.hid hps
  obtain ⟨t0, hts⟩ : ∃ ts, ts = p0.map nt := ⟨_, rfl⟩
  have htsH := Lib.hid hts
  have hg0 := Lib.hid (show GL p0 by rw [hps]; exact GL.made xs)
  have hmad : Hid (∀ q ∈ madeL xs, Short4 q) := made_short
  obtain ⟨m0, hm⟩ : ∃ m, p0.length = m := ⟨_, rfl⟩
  have hmH := Lib.hid hm
  have htl : Hid (t0.length = m0) := by show _ = _; rw [hts, List.length_map]; exact hm
  have hm12 : m0 ≤ 12 := by have := (Lv.of hg0.out.1).len; rw [hm] at this; exact this
  obtain ⟨M, hM⟩ : ∃ M : Nat, k * m0 = M := ⟨_, rfl⟩
  have hMI : (m0 : Int) * (k : Int) = (M : Int) := by rw [← hM, Int.natCast_mul, Int.mul_comm]
  have hM36 : M ≤ 36 := by rw [← hM]; exact Nat.mul_le_mul hk3 hm12
  have hMw : IntKind.i64.wrap (M : Int) = (M : Int) := by rw [IntKind.wrap_i64]; omega
  have hMH := Lib.hid hM
  clear h hl hx hps hts hm hM
  obtain ⟨bb, hbb⟩ : ∃ bb : Bool, decide (12 < M) = bb := ⟨_, rfl⟩
  have hbbI : decide ((12 : Int) < (M : Int)) = bb := by rw [← hbb]; exact decide_eq_decide.2 (by omega)
  go_enter Try.func3, Try.ntmps3
  go_upto_region 3 with (first
    | (go_at_call 8; go_loud (with_reducible refine (madeW_any ao c l xs _ hlH.out hH.out hl1 hxH.out hmad.out).mono ?_); rintro e w1 ⟨a1, c1, rfl, hV1, hb1⟩; rw [← hpsH.out, ← htsH.out] at hV1; have hS1 := Lib.hid (SV.sl hV1); have hb1H := Lib.hid hb1; rw [← hpsH.out, ← htsH.out, htl.out]; clear hV1 hb1))
  go_cut [34] from 30 to 34 (fun s34 wx => s34 = .bool bb ∧ wx = w1)
  case first =>
    go_wp2_with (fail)
    go_meet
    exact ⟨rfl, rfl⟩
  case rest =>
  obtain ⟨rfl, rfl⟩ := hcut
  go_upto_if 34 with (fail)
  go_cut [7] from 35 to 35 (fun s7 wx => ∃ (a : Option Addr) (cc m : Nat) (ps : List Rat), s7 = .slice a m cc ∧ GL ps ∧ ps.length = m ∧ k * m ≤ 12 ∧ SL wx a (ps.map nt) ∧ Below wc.heap.size wc wx)
  case first =>
    cases bb with
    | true =>
      go_wp2_with (fail)
      go_meet
      exact ⟨some ⟨wc.heap.size, 0, none⟩, 2, 2, H2, rfl, GL.half, rfl, by omega, by rw [H2_txt]; exact sl_two wc hf hf _, (Below.refl _ _).alloc (Nat.le_refl _) _⟩
    | false =>
      have hc := of_decide_eq_false hbb
      go_wp2_with (fail)
      go_meet
      exact ⟨a1, c1, m0, p0, rfl, hg0.out, hmH.out, by rw [hMH.out]; omega, by rw [← htsH.out]; exact hS1.out, Below.refl _ _⟩
  case rest =>
    obtain ⟨aS, cS, m, ps, rfl, hG, hm, hkm, hSc, hbc⟩ := hcut
    have hGH := Lib.hid hG
    have hmH2 := Lib.hid hm
    have hv := Lv.of hG.1
    have hm1 : 1 ≤ m := by have := hv.pos; rw [hm] at this; exact this
    have hmm : m ≤ 12 := by have := hv.len; rw [hm] at this; exact this
    obtain ⟨ts, hts⟩ : ∃ ts, ps.map nt = ts := ⟨_, rfl⟩
    rw [hts] at hSc
    have htsH2 := Lib.hid hts
    have hScH := Lib.hid hSc
    have hbcH := Lib.hid (bseq hb1H.out hbc)
    clear hG hm hSc hbc hts hMI hMw hM36
    go_wp2_with (fail)
    obtain ⟨V2, hV2e⟩ : ∃ V2, V2 = wc.alloc (Obj.cells #[] 25) := ⟨_, rfl⟩
    have hO0 : Hid (SV V2 wc.heap.size (.slice (some ⟨wc.heap.size, 0, none⟩) 0 0) (TL k ps 0)) := by rw [hV2e]; exact SV.lit0 _ _ (Nat.le_refl _)
    have hbO' : Below wc.heap.size wc V2 := by rw [hV2e]; go_grown
    have hbO := Lib.hid hbO'
    rw [← hV2e]
    clear hV2e hbO'
    go_loopw [9, 10] (fun b i wi => ∃ i' N : Nat, i = .int .i64 (i' : Nat) ∧ i' ≤ m ∧ N = k * i' ∧ SV wi wc.heap.size b (TL k ps N) ∧ Below wc.heap.size wc wi) (fun _ i _ => m + 1 - (intOf i).toNat)
    case atStart => exact ⟨0, 0, rfl, by omega, rfl, hO0.out, hbO.out⟩
    case round =>
      clear hO0 hbO
      obtain ⟨i, N, rfl, him, hN, hO, hbl⟩ := hrel
      obtain ⟨ao2, co2, hbv⟩ := hO.shape
      subst hbv
      rw [TL_length] at hO ⊢
      have hOH := Lib.hid hO
      have hblH := Lib.hid hbl
      have hNH := Lib.hid hN
      clear hN hO hbl
      by_cases hi : i < m
      · have hiI : (i : Int) < (m : Int) := by omega
        have hi0 : (0 : Int) ≤ (i : Int) := by omega
        obtain ⟨q, hq⟩ : ∃ q, ps[i]? = some q := ⟨_, List.getElem?_eq_getElem (by rw [hmH2.out]; exact hi)⟩
        have hnq : nth ps i = q := by unfold nth; rw [hq]; rfl
        have hqt : ts[i]? = some (nt q) := by rw [← htsH2.out, List.getElem?_map, hq]; rfl
        have hqtH := Lib.hid hqt
        have hnqH := Lib.hid hnq
        clear hq hnq hqt
        go_wp2_with (fail)
        go_loopw [9, 11] (fun b jv wi => ∃ j N' : Nat, jv = .int .i64 (j : Nat) ∧ 1 ≤ j ∧ j ≤ k ∧ N' + 1 = k * i + j ∧ SV wi wc.heap.size b (TL k ps N') ∧ Below wc.heap.size wc wi) (fun _ j _ => k + 1 - (intOf j).toNat)
        case atStart => exact ⟨1, N, rfl, by omega, hk1, by rw [hNH.out], hOH.out, hblH.out⟩
        case round =>
          clear hOH hblH
          obtain ⟨j, N', rfl, hj1, hjk, hN', hO, hbl⟩ := hrel
          obtain ⟨ao3, co3, hbv⟩ := hO.shape
          subst hbv
          rw [TL_length] at hO ⊢
          have hOH := Lib.hid hO
          have hblH := Lib.hid hbl
          have hbs := hbl.size
          have hN12 : N' ≤ 12 := by
            have h1 : k * (i + 1) ≤ k * m := Nat.mul_le_mul_left k hi
            rw [Nat.mul_succ] at h1
            omega
          have hN'H := Lib.hid hN'
          by_cases hj : j < k
          · have hjI : (j : Int) < (k : Int) := by omega
            have hz0 : nt (lgf k ps N') = ⟨#[48]⟩ := by
              have h1 := lgf_no (ps := ps) (i := i) (j := j - 1) (k := k) (by omega)
              rw [show k * i + (j - 1) = N' by omega] at h1
              rw [h1, nt_0]
            have hnx := Lib.hid (TL_next k ps N' _ hz0)
            clear hN' hO hbl hz0
            go_wp2_with (first
              | (at_builtin; go_loud (refine wpList_append_num _ rfl (.tmp 48) (.tmp 49) _ rfl Try.underlying23 wc.heap.size N' (.slice ao3 N' co3) (TL k ps N') ⟨#[48]⟩ rfl (hOH.out.below ((Below.refl _ _).alloc (Nat.le_refl _) _)) (TL_length k ps N') _ rfl (by omega) (by simp; omega) (by simp [go_sem]) ?_); intro v' w7 hv7 hg7; rw [hnx.out] at hv7; have hb7 := Lib.hid ((hblH.out.alloc hbs _).grown hg7 (by simp; omega) (fun g hg => (hOH.out.lt g hg).1)); clear hg7))
            go_roundw
            case rel => exact ⟨j + 1, N' + 1, by go_num, by omega, by omega, by have := hN'H.out; omega, hv7, hb7.out⟩
            case measure => simp [intOf]; omega
          · have hjI : ¬ (j : Int) < (k : Int) := by omega
            have hjk2 : j = k := by omega
            obtain ⟨b1, o1, rfl, e0⟩ := (hScH.out.below hbl) i (nt q) hqtH.out
            have hz0 : nt (lgf k ps N') = nt q := by
              have h1 := lgf_at (k := k) (by omega) ps i
              rw [show k * i + (k - 1) = N' by omega] at h1
              rw [h1, hnqH.out]
            have hnx := Lib.hid (TL_next k ps N' _ hz0)
            have hlb : b1 < wr.heap.size := World.block_lt_of_cell? wr _ e0
            clear hN' hO hbl hz0
            go_wp2_with (first
              | (at_builtin; go_loud (refine wpList_append_num _ rfl (.tmp 51) (.tmp 56) _ rfl Try.underlying23 wc.heap.size N' (.slice ao3 N' co3) (TL k ps N') (nt q) rfl (hOH.out.below ((Below.refl _ _).alloc (Nat.le_refl _) _)) (TL_length k ps N') _ rfl (by omega) (by simp; omega) (by simp [go_sem]) ?_); intro v' w7 hv7 hg7; rw [hnx.out] at hv7; have hb7 := Lib.hid ((hblH.out.alloc hbs _).grown hg7 (by simp; omega) (fun g hg => (hOH.out.lt g hg).1)); clear hg7))
            go_roundw
            case rel => exact ⟨i + 1, N' + 1, by go_num, by omega, by have := hN'H.out; rw [Nat.mul_succ]; omega, hv7, hb7.out⟩
            case measure => simp [intOf]; omega
      · have hiI : ¬ (i : Int) < (m : Int) := by omega
        have him2 : i = m := by omega
        have hNk : N = k * ps.length := by rw [hNH.out, him2, hmH2.out]
        have hN12 : N ≤ 12 := by rw [hNk, hmH2.out]; exact hkm
        obtain ⟨ls, hls⟩ : ∃ ls, ls = lgL k ps N := ⟨_, rfl⟩
        have hGL := Lib.hid (show GL ls by rw [hls, hNk]; exact hGH.out.long (by omega) (by rw [hmH2.out]; exact hkm))
        have hllH : Hid (ls.length = N) := by show _ = _; rw [hls, lgL_length]
        obtain ⟨tl, htl2⟩ : ∃ tl, ls.map nt = tl := ⟨_, rfl⟩
        have hTLe : TL k ps N = tl := by rw [← htl2, hls]; rfl
        have hL0 := Lib.hid (SV.sl hOH.out)
        rw [hTLe] at hL0
        have hS0 := Lib.hid (hScH.out.below hblH.out)
        have hbwr := Lib.hid (bseq hbcH.out hblH.out)
        -- the numbers
        obtain ⟨s, hs⟩ : ∃ s, spanK ps m = s := ⟨_, rfl⟩
        obtain ⟨t, ht⟩ : ∃ t, spanK ls N = t := ⟨_, rfl⟩
        have hst : t = k * s := by rw [← ht, ← hs, hls, hNk, span_long (by omega) ps ps.length, hmH2.out]
        have hlast : lastQ ps ≠ 0 := fun h => hGH.out.1.2.2.1 (by rw [h]; exact sg_rn0)
        have hs1 : 1 ≤ s := by rw [← hs, ← hmH2.out]; exact span_pos (by rw [hmH2.out]; exact hm1) hlast
        have hs12 : s ≤ 12 := by
          have e1 : nth ps (m - 1) = lastQ ps := by unfold nth lastQ; rw [hmH2.out]
          have h1 := span_dvd ps m (m - 1) (by omega) (by rw [e1]; exact hlast)
          rw [hs, show m - 1 + 1 = m by omega] at h1
          exact Nat.le_trans (Nat.le_of_dvd (by omega) h1) hmm
        have hSTI : (s : Int) * (k : Int) = (t : Int) := by rw [hst, Int.natCast_mul, Int.mul_comm]
        have ht36 : t ≤ 36 := by rw [hst]; exact Nat.mul_le_mul hk3 hs12
        have ht1 : 1 ≤ t := by rw [hst]; exact Nat.mul_pos (by omega) (by omega)
        obtain ⟨Z, hZ⟩ : ∃ Z : Nat, z * k = Z := ⟨_, rfl⟩
        have hZI : (z : Int) * (k : Int) = (Z : Int) := by rw [← hZ, Int.natCast_mul]
        have hZ36 : Z ≤ 36 := by rw [← hZ]; exact Nat.mul_le_mul hz12 hk3
        have hSTw : IntKind.i64.wrap (t : Int) = (t : Int) := by rw [IntKind.wrap_i64]; omega
        have hZw : IntKind.i64.wrap (Z : Int) = (Z : Int) := by rw [IntKind.wrap_i64]; omega
        have hs1I : ¬ (s : Int) < 1 := by omega
        -- the texts
        obtain ⟨M, hMq⟩ : ∃ M, meanQ ps = M := ⟨_, rfl⟩
        obtain ⟨V, hVq⟩ : ∃ V, meanQ ls = V := ⟨_, rfl⟩
        have hM4 : Short4 M := by rw [← hMq]; exact (Lv.of hGH.out.1).mean4
        have hV4 : Short4 V := by rw [← hVq]; exact (Lv.of hGL.out.1).mean4
        have hMV : M * (((k : Nat) : Int) : Rat) = V := by rw [← hVq, hls, hNk, mean_long (by omega) (Lv.of hGH.out.1).one, hMq]
        obtain ⟨tm, htm⟩ : ∃ x, nt M = x := ⟨_, rfl⟩
        obtain ⟨tv, htv⟩ : ∃ x, nt V = x := ⟨_, rfl⟩
        have hvm := Lib.hid (show vok tm = true by rw [← htm]; exact vok_iff.2 (parse_nt hM4).1)
        have hvv := Lib.hid (show vok tv = true by rw [← htv]; exact vok_iff.2 (parse_nt hV4).1)
        have hlm : Hid (tm.size ≤ 4611686018427387904) := by show _ ≤ _; rw [← htm]; exact nt_len hM4
        have hlv : Hid (tv.size ≤ 4611686018427387904) := by show _ ≤ _; rw [← htv]; exact nt_len hV4
        have hom : Hid (∀ (v : World), Calls Try.prog 14 #[.string tm] v (RetQ v (rn M) (rd M))) := fun v => by rw [← htm]; exact of_t M v hM4
        have hov : Hid (∀ (v : World), Calls Try.prog 14 #[.string tv] v (RetQ v (rn V) (rd V))) := fun v => by rw [← htv]; exact of_t V v hV4
        have hmn1 : Hid (∀ (v : World) (a : Option Addr) (c : Nat), SL v a ts → Calls Try.prog 9 #[.slice a m c] v (RetMean v tm s)) := fun v a c h => hGH.out.mean m hmH2.out ts htsH2.out tm s (by rw [hMq, htm]) hs a c v h
        have hmn2 : Hid (∀ (v : World) (a : Option Addr) (c : Nat), SL v a tl → Calls Try.prog 9 #[.slice a N c] v (RetMean v tv t)) := fun v a c h => hGL.out.mean N hllH.out tl htl2 tv t (by rw [hVq, htv]) ht a c v h
        obtain ⟨ta, hta⟩ : ∃ ta, (uL ps z).map nt = ta := ⟨_, rfl⟩
        obtain ⟨tc, htc⟩ : ∃ tc, (uL ls Z).map nt = tc := ⟨_, rfl⟩
        have hra : Hid (∀ (v : World) (a : Option Addr) (c : Nat), SL v a ts → Calls Try.prog 10 #[.slice a m c, .int .i64 (z : Nat)] v (RetNums v ta)) := fun v a c h => by rw [← hta]; exact hGH.out.renew m hmH2.out ts htsH2.out z _ rfl (by omega) _ rfl a c v h
        have hrc : Hid (∀ (v : World) (a : Option Addr) (c : Nat), SL v a tl → Calls Try.prog 10 #[.slice a N c, .int .i64 (Z : Nat)] v (RetNums v tc)) := fun v a c h => by rw [← htc]; exact hGL.out.renew N hllH.out tl htl2 Z _ rfl (by omega) _ rfl a c v h
        have hla : Hid (ta.length = z + 1) := by show _ = _; rw [← hta, List.length_map, uL_length]
        have hlc : Hid (tc.length = Z + 1) := by show _ = _; rw [← htc, List.length_map, uL_length]
        have hga : Hid (∀ x, x ≤ z → ta[x]? = some (nt (uf ps x))) := fun x hx => by rw [← hta, List.getElem?_map, uL_at ps x z hx]; rfl
        have hgc : Hid (∀ x, x ≤ Z → tc[x]? = some (nt (uf ls x))) := fun x hx => by rw [← htc, List.getElem?_map, uL_at ls x Z hx]; rfl
        have hu1 : Hid (∀ x, uf ls x = if x % k = 0 then uf ps (x / k) else 0) := fun x => by rw [hls, hNk]; exact uf_long (by omega) ps x
        have hu2 : Hid (∀ x, ¬ t ∣ x → uf ls x = 0) := fun x hx => uf_off ls x (by rw [hllH.out, ht]; exact hx)
        have hZH := Lib.hid hZ
        have pM := PQ.low hM4
        have pV := PQ.low hV4
        have pK := PQ.whole k (by omega)
        have pm := pM.mul pK
        rw [hMV] at pm
        obtain ⟨o, ho⟩ : ∃ o : Int, (1 : Int) = o := ⟨_, rfl⟩
        rw [ho] at pm pK
        have hcz := Lib.hid (pq_same pm)
        have sM := Lib.hid (pM.szq (by omega))
        have sV := Lib.hid (pV.szq (by omega))
        have sK := Lib.hid (pK.szq (by omega))
        have sm := Lib.hid (pm.szq (by omega))
        have hoH := Lib.hid ho
        clear hs ht hst hlast hZ hMq hVq hM4 hV4 hMV htm htv hta htc hls htl2 hTLe hNk pM pV pK pm ho hkm him
        go_wp2_with (first
          | (go_at_call 9; go_loud (with_reducible refine (hmn1.out _ aS cS hS0.out).mono ?_); rintro e w5 ⟨rfl, hb5⟩; have r5 := Lib.hid hb5; have hS5 := Lib.hid (hS0.out.below hb5); have hL5 := Lib.hid (hL0.out.below hb5); clear hb5)
          | (go_at_call 9; go_loud (with_reducible refine (hmn2.out _ ao2 co2 hL5.out).mono ?_); rintro e w6 ⟨rfl, hb6⟩; have r6 := Lib.hid (bseq r5.out hb6); have hS6 := Lib.hid (hS5.out.below hb6); have hL6 := Lib.hid (hL5.out.below hb6); clear hb6)
          | (go_at_call 10; go_loud (with_reducible refine (hra.out _ aS cS hS6.out).mono ?_); rintro e w7 ⟨a7, c7, rfl, hV7, hb7⟩; rw [hla.out]; have r7 := Lib.hid (bseq r6.out hb7); have hA7 := Lib.hid (SV.sl hV7); have hL7 := Lib.hid (hL6.out.below hb7); clear hV7 hb7)
          | (go_at_call 10; go_loud (with_reducible refine (hrc.out _ ao2 co2 hL7.out).mono ?_); rintro e w8 ⟨a8, c8, rfl, hV8, hb8⟩; rw [hlc.out]; have r8 := Lib.hid (bseq r7.out hb8); have hC8 := Lib.hid (SV.sl hV8); have hA8 := Lib.hid (hA7.out.below hb8); have d8 := Lib.hid (Below.refl w8.heap.size w8); clear hV8 hb8)
          | (go_at_call 11; go_loud (with_reducible refine (valid_b tm true _ hvm.out hlm.out).mono ?_); rintro e w9 ⟨rfl, hb9⟩; have d9 := Lib.hid (bseqZ d8.out hb9); clear hb9)
          | (go_at_call 11; go_loud (with_reducible refine (valid_b tv true _ hvv.out hlv.out).mono ?_); rintro e w10 ⟨rfl, hb10⟩; have d10 := Lib.hid (bseqZ d9.out hb10); clear hb10)
          | (go_at_call 14; go_loud (with_reducible refine (hom.out _).mono ?_); rintro e w11 ⟨b11, e11, b11', e11', rfl, hm11, hb11⟩; have d11 := Lib.hid (bseqZ d10.out hb11); have hm11H := Lib.hid hm11; clear hb11 hm11)
          | (go_at_call 15; go_loud (with_reducible refine (whole_l k k k o rfl rfl hoH.out _ (by omega)).mono ?_); rintro e w12 ⟨b12, e12, b12', e12', rfl, hm12, hb12⟩; have d12 := Lib.hid (bseqZ d11.out hb12); have hm12H := Lib.hid hm12; have hm11K := Lib.hid (QM.up hm11H.out hb12); clear hb12 hm12)
          | (go_at_call 13; go_loud (with_reducible refine (mulq_any b11 e11 b11' e11' b12 e12 b12' e12' (rn M) (rd M) k o _ hm11K.out hm12H.out sM.out sK.out).mono ?_); rintro e w13 ⟨b13, e13, b13', e13', rfl, hm13, hb13⟩; have d13 := Lib.hid (bseqZ d12.out hb13); have hm13H := Lib.hid hm13; clear hb13 hm13)
          | (go_at_call 14; go_loud (with_reducible refine (hov.out _).mono ?_); rintro e w14 ⟨b14, e14, b14', e14', rfl, hm14, hb14⟩; have d14 := Lib.hid (bseqZ d13.out hb14); have hm14H := Lib.hid hm14; have hm13K := Lib.hid (QM.up hm13H.out hb14); clear hb14 hm14)
          | (go_at_call 12; go_loud (with_reducible refine (cmpq_z b13 e13 b13' e13' b14 e14 b14' e14' (rn M * k) (rd M * o) (rn V) (rd V) 0 _ hcz.out hm13K.out hm14H.out sm.out sV.out).mono ?_); rintro e w15 ⟨rfl, hb15⟩; have d15 := Lib.hid (bseqZ d14.out hb15); clear hb15)
          | (go_at_call 16; go_loud (with_reducible refine (lives_any _).mono ?_); rintro e w16 ⟨rfl, hb16⟩; have d16 := Lib.hid (bseqZ d15.out hb16); clear hb16))
        clear hS0 hL0 hS5 hL5 hS6 hL6 hL7 hA7 hm11H hm11K hm12H hm13H hm13K hm14H hcz sM sV sK sm hom hov hmn1 hmn2 hra hrc hvm hvv hlm hlv hOH hblH hScH hbcH hSTI hZI hSTw hZw
        go_loopw [23] (fun i wi => ∃ x : Nat, i = .int .i64 (x : Nat) ∧ x ≤ Z + 1 ∧ Below w16.heap.size w16 wi) (fun i _ => Z + 1 - (intOf i).toNat)
        case atStart => exact ⟨0, rfl, by omega, Below.refl _ _⟩
        case round =>
          obtain ⟨x, rfl, hxZ, hbl2⟩ := hrel
          have hbl2H := Lib.hid hbl2
          by_cases hx : x < Z + 1
          · have hxI : (x : Int) < (Z : Int) + 1 := by omega
            have hx0 : (0 : Int) ≤ (x : Int) := by omega
            have hd16 := bseqZ d16.out hbl2
            have hd : x / k ≤ z := Nat.div_le_of_le_mul (by rw [Nat.mul_comm]; have := hZH.out; omega)
            obtain ⟨S, hS⟩ : ∃ S, nt (uf ls x) = S := ⟨_, rfl⟩
            have ec0 := hgc.out x (by omega)
            have ea0 := hga.out (x / k) hd
            have u1 := hu1.out x
            have u2 := hu2.out x
            rw [hS] at ec0
            obtain ⟨bc, oc, rfl, ec⟩ := (hC8.out.below hd16) x _ ec0
            obtain ⟨ba, oa, rfl, ea⟩ := (hA8.out.below hd16) (x / k) _ ea0
            have kI : (0 : Int) < (k : Int) := by omega
            have tI : (0 : Int) < (t : Int) := by omega
            have k0 : ((k : Int) == 0) = false := by simp; omega
            have t0' : ((t : Int) == 0) = false := by simp; omega
            obtain ⟨d, hdd⟩ : ∃ d, x / k = d := ⟨_, rfl⟩
            rw [hdd] at ea hd u1
            have q1 : (x : Int) / (k : Int) = (d : Int) := by rw [← hdd]; exact (Int.natCast_ediv x k).symm
            have q2 : (x : Int).tdiv (k : Int) = (d : Int) := by rw [Int.tdiv_eq_ediv_of_nonneg (by omega)]; exact q1
            have hd0 : (0 : Int) ≤ (d : Int) := by omega
            have hdz : (d : Int) < (z : Int) + 1 := by omega
            have z21 : nt 0 = ⟨#[48]⟩ := nt_0
            have lbc : bc < wr.heap.size := World.block_lt_of_cell? wr _ ec
            have lba : ba < wr.heap.size := World.block_lt_of_cell? wr _ ea
            clear hbl2 hd16 ec0 ea0 hdd
            obtain ⟨r, hr⟩ : ∃ r, x % k = r := ⟨_, rfl⟩
            obtain ⟨r2, hr2⟩ : ∃ r, x % t = r := ⟨_, rfl⟩
            have p1 : (x : Int) % (k : Int) = (r : Int) := by rw [← hr]; exact (Int.natCast_emod x k).symm
            have p2 : (x : Int) % (t : Int) = (r2 : Int) := by rw [← hr2]; exact (Int.natCast_emod x t).symm
            have p1' : (x : Int).tmod (k : Int) = (r : Int) := by rw [Int.tmod_eq_emod_of_nonneg (by omega)]; exact p1
            have p2' : (x : Int).tmod (t : Int) = (r2 : Int) := by rw [Int.tmod_eq_emod_of_nonneg (by omega)]; exact p2
            rw [hr] at u1
            have hru : r2 ≠ 0 → S = ⟨#[48]⟩ := fun h => by rw [← hS, u2 (fun hdv => h (by rw [← hr2]; exact Nat.mod_eq_zero_of_dvd hdv)), z21]
            by_cases hr0 : r = 0
            · subst hr0
              rw [if_pos rfl] at u1
              rw [← u1, hS] at ea
              by_cases hr20 : r2 = 0
              · subst hr20
                clear u1 u2 hru hS hr hr2 hx z21
                go_wp2
                go_quiet (fail)
                go_wp2
                go_roundw
                case rel => exact ⟨x + 1, by go_num, by omega, bdn hbl2H.out⟩
                case measure => simp [intOf]; omega
              · have hS1 := hru hr20
                subst hS1
                have g1 : ((r2 : Int) == 0) = false := by simp; omega
                have g2 : ((r2 : Int) != 0) = true := by simp; omega
                have g3 : decide ((r2 : Int) = 0) = false := by simp; omega
                have g4 : decide (r2 = 0) = false := by simp; omega
                clear u1 u2 hru hS hr hr2 hx z21 hr20
                go_wp2
                go_quiet (fail)
                go_wp2
                go_roundw
                case rel => exact ⟨x + 1, by go_num, by omega, bdn hbl2H.out⟩
                case measure => simp [intOf]; omega
            · rw [if_neg hr0] at u1
              have hS1 : S = ⟨#[48]⟩ := by rw [← hS, u1, z21]
              subst hS1
              have h1 : ((r : Int) == 0) = false := by simp; omega
              have h2 : ((r : Int) != 0) = true := by simp; omega
              have h3 : decide ((r : Int) = 0) = false := by simp; omega
              have h4 : decide (r = 0) = false := by simp; omega
              by_cases hr20 : r2 = 0
              · subst hr20
                clear u1 u2 hru hS hr hr2 hx z21 hr0 ea
                go_wp2
                go_quiet (fail)
                go_wp2
                go_roundw
                case rel => exact ⟨x + 1, by go_num, by omega, bdn hbl2H.out⟩
                case measure => simp [intOf]; omega
              · have g1 : ((r2 : Int) == 0) = false := by simp; omega
                have g2 : ((r2 : Int) != 0) = true := by simp; omega
                have g3 : decide ((r2 : Int) = 0) = false := by simp; omega
                have g4 : decide (r2 = 0) = false := by simp; omega
                clear u1 u2 hru hS hr hr2 hx z21 hr0 hr20 ea
                go_wp2
                go_quiet (fail)
                go_wp2
                go_roundw
                case rel => exact ⟨x + 1, by go_num, by omega, bdn hbl2H.out⟩
                case measure => simp [intOf]; omega
          · have hxI : ¬ (x : Int) < (Z : Int) + 1 := by omega
            go_wp2
            go_ret
            exact ⟨rfl, bseq hbwr.out (bseq r8.out (bseqZ d16.out hbl2H.out))⟩

end Go.Proofs.Ytcaeonpjokkjnaa
