/- Ge Gf Gg Gh Gi -/
import Derived.Test.YteiipfajoikfpaaQPe
import Derived.Test.YteiipfajoikfpaaQPa
import Derived.Test.YteiipfajoikfpaaQPf
import Derived.Laws.EntriesVeiled
set_option linter.unusedVariables false
/- Walks of slices.IndexFunc, ContainsFunc, Clone; of Lacks' closures. -/
namespace Go.Proofs.Yteiipfajoikfpaa
open Go Go.RowKit Go.Proofs

theorem iz_cellsX {w : World} {b o : Nat} {xs : List Int} (h : IZ w (some ⟨b, o, none⟩) xs) : ∀ j, j < xs.length → w.cell? ⟨b, o + j, none⟩ = some (.int .i64 (xs.getD j 0)) := fun j hj => by
  obtain ⟨b', o', e, hc⟩ := h.at hj
  injection e with e
  injection e with e1 e2
  subst e1 e2
  rw [hc]
  unfold at0
  rw [List.getD_eq_getElem?_getD]
theorem take_lastX {α : Type} {L : List α} {k : Nat} {q : α} (h : L[k]? = some q) : L.take (k + 1) = L.take k ++ [q] := by
  have hk : k < L.length := (List.getElem?_eq_some_iff.1 h).1
  rw [List.take_succ_eq_append_getElem hk]
  rw [List.getElem?_eq_getElem hk] at h
  injection h with h
  rw [h]
theorem clone_any (ao : Option Addr) (n c : Nat) (xs : List Int) (w : World) (h : IZ w ao xs) (hn : xs.length = n) (hb : n ≤ 1000000) :
    Calls Try.prog 72 #[.slice ao n c] w (fun e w' => ∃ a' c', e = .returned (.slice a' n c') ∧ ZI w' w.heap.size (.slice a' n c') xs ∧ Below w.heap.size w w') := by
  subst hn
  rcases ao with _ | ad
  · have he : xs = [] := by
      rcases xs with _ | ⟨y, ys⟩
      · rfl
      · obtain ⟨b, o', ha, _⟩ := h 0 y rfl
        cases ha
    subst he
    exact (Try.slices_Clone_int_nil 0 c w).mono fun e w' ⟨h1, h2⟩ => by
      subst h2
      exact ⟨none, 0, h1, ZI.nil _ _, Below.refl _ _⟩
  · rcases Nat.eq_zero_or_pos xs.length with h0 | h0
    · have he := List.length_eq_zero_iff.1 h0
      subst he
      refine (Try.slices_Clone_int_zero ad c w).mono fun e w' ⟨v', h1, h2, _, h4⟩ => ?_
      obtain ⟨a', c', hv⟩ := (show ZI w' w.heap.size v' [] from h2).shape
      subst hv
      exact ⟨a', c', h1, h2, h4⟩
    · obtain ⟨b', o', e, _⟩ := h.at (i := 0) h0
      injection e with e
      subst e
      refine (Try.slices_Clone_int b' o' xs.length c xs w (Nat.le_refl _) (by omega) (iz_cellsX h)).mono fun e w' ⟨v', h1, h2, _, h4⟩ => ?_
      rw [List.take_length] at h2
      obtain ⟨a', c', hv⟩ := (show ZI w' w.heap.size v' xs from h2).shape
      subst hv
      exact ⟨a', c', h1, h2, h4⟩
/-- A function of one number that only reads. -/
def PredAtZ (g : Nat) (lb : Array Value) (P : Nat → Bool) (n : Nat) (w : World) : Prop :=
  ∀ (W : World) (i : Nat) (b : Bool), P i = b → Below w.heap.size w W → i < n → Calls Try.prog g (#[.int .i64 (i : Nat)] ++ lb) W (fun e w' => e = .returned (.bool b) ∧ ∃ q, w' = W.drewN q)
def IdxPost (P : Nat → Bool) (s : List Nat) (w : World) (e : Ending) (w' : World) : Prop := ∃ z : Int, e = .returned (.int .i64 z) ∧ decide (0 ≤ z) = s.any P ∧ Below w.heap.size w w'
set_option maxRecDepth 100000 in
set_option maxHeartbeats 3200000 in
theorem indexFunc_any (ao : Option Addr) (m c n g : Nat) (lb : Array Value) (P : Nat → Bool) (s : List Nat) (w : World) (h : IZ w ao (nz s)) (hm : s.length = m) (hlt : ∀ x ∈ s, x < n) (hm2 : m ≤ 1000000) (hP : PredAtZ g lb P n w) (eg : ∀ args w, (callFunc g args).run Try.prog w = .ok (.enter g args) w) :
    Calls Try.prog 82 #[.slice ao m c, .func (.func g) #[] lb] w (IdxPost P s w) := by
  have hH := Lib.hid h
  have hmH := Lib.hid hm
  have hltH := Lib.hid hlt
  have hPH := Lib.hid hP
  clear h hm hlt hP
  go_enter Try.func82, Try.ntmps82
  go_wp2_with (fail)
  go_loopw [8] (fun iv wr => ∃ k : Nat, iv = .int .i64 (k : Nat) ∧ k ≤ m ∧ (∀ x ∈ s.take k, P x = false) ∧ Below w.heap.size w wr) (fun iv _ => m - (intOf iv).toNat)
  case atStart => exact ⟨0, rfl, by omega, by simp, Below.refl _ _⟩
  case round =>
    obtain ⟨k, rfl, hk, hno, hbl⟩ := hrel
    have hnoH := Lib.hid hno
    have hblH := Lib.hid hbl
    clear hno
    by_cases hkm : k < m
    · obtain ⟨x, hx⟩ : ∃ x, s[k]? = some x := ⟨_, List.getElem?_eq_getElem (by rw [hmH.out]; exact hkm)⟩
      obtain ⟨b1, o1, rfl, e1⟩ := (hH.out.below hbl).col hx
      have hxn := Lib.hid (hltH.out x (List.mem_of_getElem? hx))
      have ht := Lib.hid (take_lastX hx)
      have hmem := Lib.hid (List.mem_of_getElem? hx)
      have hkI : (k : Int) < (m : Int) := by omega
      have hk0 : (0 : Int) ≤ (k : Int) := by omega
      clear hbl hx
      rcases hb : P x
      · have hbH := Lib.hid hb
        clear hb
        go_wp2_with (fail)
        have cS : Calls Try.prog g (#[.int .i64 (x : Nat)] ++ lb) wr _ := hPH.out wr x false hbH.out hblH.out hxn.out
        refine cS.mono ?_
        rintro e w1 ⟨rfl, q, rfl⟩
        clear cS
        go_wp2_with (fail)
        go_roundw
        case rel => exact ⟨k + 1, by go_num, by omega, by rw [ht.out]; intro y hy; rcases List.mem_append.1 hy with h | h; exact hnoH.out y h; rw [List.mem_singleton.1 h]; exact hbH.out, bdn hblH.out⟩
        case measure => simp [intOf]; omega
      · have hbH := Lib.hid hb
        clear hb
        go_wp2_with (fail)
        have cS : Calls Try.prog g (#[.int .i64 (x : Nat)] ++ lb) wr _ := hPH.out wr x true hbH.out hblH.out hxn.out
        refine cS.mono ?_
        rintro e w1 ⟨rfl, q, rfl⟩
        clear cS
        go_wp2_with (fail)
        go_ret
        refine ⟨_, rfl, ?_, bdn hblH.out⟩
        rw [List.any_eq_true.2 ⟨x, hmem.out, hbH.out⟩]
        simp
    · have hke : k = m := by omega
      subst hke
      go_wp2_with (fail)
      go_ret
      refine ⟨_, rfl, ?_, hblH.out⟩
      have h3 := hnoH.out
      rw [List.take_of_length_le (by rw [hmH.out]; exact Nat.le_refl _)] at h3
      rw [show s.any P = false by rw [List.any_eq_false]; intro x hx; rw [h3 x hx]; simp]
      simp
theorem containsFunc_any (ao : Option Addr) (m c n g : Nat) (lb : Array Value) (P : Nat → Bool) (s : List Nat) (b : Bool) (w : World) (h : IZ w ao (nz s)) (hm : s.length = m) (hlt : ∀ x ∈ s, x < n) (hm2 : m ≤ 1000000) (hP : PredAtZ g lb P n w) (eg : ∀ args w, (callFunc g args).run Try.prog w = .ok (.enter g args) w) (hb : s.any P = b) :
    Calls Try.prog 56 #[.slice ao m c, .func (.func g) #[] lb] w (RetB w b) := by
  have hH := Lib.hid h
  have hmH := Lib.hid hm
  have hltH := Lib.hid hlt
  have hPH := Lib.hid hP
  have egH := Lib.hid eg
  have hbH := Lib.hid hb
  clear h hm hlt hP eg hb
  go_enter Try.func56, Try.ntmps56
  go_wp2_with (first
    | (go_at_call 82; go_loud (refine (indexFunc_any ao m c n g lb P s _ hH.out hmH.out hltH.out hm2 hPH.out egH.out).mono ?_); rintro e w1 ⟨z, rfl, hz, hb1⟩; have hzH := Lib.hid hz; clear hz))
  go_ret
  exact ⟨ret_boolJ (by rw [hzH.out, hbH.out]), hb1⟩
/-- The innermost closure of Lacks: is the pair allowed? -/
theorem lacks11_at (ao : Option Addr) (c n b1 b2 b3 j : Nat) (C : List (List Int)) (z : Int) (w : World) (hM : IMx w ao C) (hg : goodC C) (hn : C.length = n) (hj : j < n) (c1 : w.cell? ⟨b1, 0, none⟩ = some (.slice ao n c)) (c2 : w.cell? ⟨b2, 0, none⟩ = some (.int .i64 (j : Nat))) (c3 : w.cell? ⟨b3, 0, none⟩ = some (.int .i64 z)) :
    PredAtZ 57 #[ptr b1, ptr b2, ptr b3] (fun i => upA C z i j) n w := by
  intro W i b hA hb hi
  have hn8 : n ≤ 8 := by rw [← hn]; exact hg.2.1
  obtain ⟨b5, o3, b4, o4, c4, rfl, e1, hc4, e2, q0, q1⟩ := (hM.below hb).cost hg hn hi hj
  have d1 : W.cell? ⟨b1, 0, none⟩ = some (.slice (some ⟨b5, o3, none⟩) n c) := Below.cellAt hb (Nat.le_refl _) c1
  have d2 : W.cell? ⟨b2, 0, none⟩ = some (.int .i64 (j : Nat)) := Below.cellAt hb (Nat.le_refl _) c2
  have d3 : W.cell? ⟨b3, 0, none⟩ = some (.int .i64 z) := Below.cellAt hb (Nat.le_refl _) c3
  obtain ⟨x, hx⟩ : ∃ x, cst C i j = x := ⟨_, rfl⟩
  rw [hx] at e2
  have hAH : Hid (decide (x ≤ z) = b) := by show _ = _; rw [← hA, ← hx]; rfl
  have hi0 : (0 : Int) ≤ (i : Int) := by omega
  have hiI : (i : Int) < (n : Int) := by omega
  have hj0 : (0 : Int) ≤ (j : Int) := by omega
  have hjI : (j : Int) < (n : Int) := by omega
  clear hM hg hn c1 c2 c3 hb hA hx q0 q1
  show Calls Try.prog _ #[.int .i64 (i : Nat), ptr b1, ptr b2, ptr b3] W _
  go_enter Try.func57, Try.ntmps57
  go_wp2
  go_quiet (fail)
  go_wp2
  go_ret
  exact ⟨ret_boolJ (by rw [← hAH.out]), _, rfl⟩
end Go.Proofs.Yteiipfajoikfpaa

/- Walk of Lacks' closure: does a set of blades lack handles? -/
namespace Go.Proofs.Yteiipfajoikfpaa
open Go Go.RowKit Go.Proofs

theorem eg_lacks11 : ∀ args w, (callFunc 57 args).run Try.prog w = .ok (.enter 57 args) w := enters_of Try.func57 (by kernel_rfl) rfl
def hndU (A : Nat → Nat → Bool) (s : List Nat) (j : Nat) : Nat := ((List.range j).filter fun j => s.any fun i => A i j).length
theorem hndU_succ (A : Nat → Nat → Bool) (s : List Nat) (j : Nat) : hndU A s (j + 1) = if (s.any fun i => A i j) = true then hndU A s j + 1 else hndU A s j := by
  unfold hndU
  rw [List.range_succ, List.filter_append, List.length_append]
  rcases h : s.any fun i => A i j <;> simp [h]
theorem hndU_le (A : Nat → Nat → Bool) (s : List Nat) (j : Nat) : hndU A s j ≤ j := by
  have h : ((List.range j).filter fun j => s.any fun i => A i j).length ≤ (List.range j).length := List.length_filter_le _ _
  rw [List.length_range] at h; exact h
/-- The frame of what has been found: all but one box. -/
def Found (bo base : Nat) (v : Value) (p : List Nat) (W w' : World) : Prop := ∃ Wx, Below W.heap.size W Wx ∧ w' = Wx.setCell ⟨bo, 0, none⟩ v ∧ Wx.cell? ⟨bo, 0, none⟩ = some (.slice none 0 0) ∧ ZI Wx base v (nz p)
def LackPost (A : Nat → Nat → Bool) (n bo : Nat) (v : Value) (s : List Nat) (base : Nat) (W : World) (e : Ending) (w' : World) : Prop :=
  (lackB A n s = false ∧ e = .returned (.bool true) ∧ Below W.heap.size W w') ∨ (lackB A n s = true ∧ e = .returned (.bool false) ∧ Found bo base v s W w')
set_option maxRecDepth 100000 in
set_option maxHeartbeats 6400000 in
theorem lacks1_at (ao : Option Addr) (c n bc bl bo base : Nat) (C : List (List Int)) (z : Int) (s : List Nat) (v : Value) (w W : World) (hM : IMx w ao C) (hg : goodC C) (hn : C.length = n) (c1 : w.cell? ⟨bc, 0, none⟩ = some (.slice ao n c)) (c2 : w.cell? ⟨bl, 0, none⟩ = some (.int .i64 z)) (hb : Below w.heap.size w W) (co : W.cell? ⟨bo, 0, none⟩ = some (.slice none 0 0)) (cf : W.frozen? ⟨bo, 0, none⟩ = false) (hs : ZI W base v (nz s)) (hlt : ∀ x ∈ s, x < n) (hne : s ≠ []) (hl : s.length ≤ 8) :
    Calls Try.prog 55 #[v, ptr bc, ptr bl, ptr bo] W (LackPost (upA C z) n bo v s base W) := by
  have hn8 : n ≤ 8 := by rw [← hn]; exact hg.2.1
  have hc1 := World.block_lt_of_cell? _ _ c1
  have hc2 := World.block_lt_of_cell? _ _ c2
  obtain ⟨m, hm⟩ : ∃ m, s.length = m := ⟨_, rfl⟩
  obtain ⟨a, cp, hv⟩ := hs.shape
  rw [nz_length, hm] at hv
  subst hv
  have hm1 : 1 ≤ m := by rw [← hm]; exact List.length_pos_iff.2 hne
  have hm8 : m ≤ 8 := by omega
  obtain ⟨b0, o0, rfl, _⟩ := hs.iz.1.at (i := 0) (by rw [nz_length]; omega)
  have hMW := Lib.hid (hM.below hb)
  have d1 : W.cell? ⟨bc, 0, none⟩ = some (.slice ao n c) := Below.cellAt hb (Nat.le_refl _) c1
  have d2 : W.cell? ⟨bl, 0, none⟩ = some (.int .i64 z) := Below.cellAt hb (Nat.le_refl _) c2
  have hsz : bo < W.heap.size := World.block_lt_of_cell? _ _ co
  have hbH := Lib.hid hb
  have hgH := Lib.hid hg
  have hnH := Lib.hid hn
  have d1H := Lib.hid d1
  have d2H := Lib.hid d2
  have coH := Lib.hid co
  have cfH := Lib.hid cf
  have hsH := Lib.hid hs
  have hltH := Lib.hid hlt
  have hmH := Lib.hid hm
  have egH := Lib.hid eg_lacks11
  have q0 := eql_nil0
  have q1 := eql_nil1
  have hmf : ∀ (fn : Fn) (first cap : Array Value) (w : World), (Instr.makeFunc fn first cap).run Try.prog w = .ok (.func fn first cap) w := fun _ _ _ _ => rfl
  clear hM hg hn c1 c2 hb co cf hs hlt hl hm hne d2 hc1 hc2
  go_enter Try.func55, Try.ntmps55
  go_wp2_with (fail)
  clear d1
  go_loopw [6, 10] (fun hv jv wr => ∃ j : Nat, hv = .int .i64 (hndU (upA C z) s j : Nat) ∧ jv = .int .i64 (j : Nat) ∧ j ≤ n ∧ Below W.heap.size W wr) (fun _ jv _ => n - (intOf jv).toNat)
  case atStart => exact ⟨0, rfl, rfl, by omega, Below.refl _ _⟩
  case round =>
    obtain ⟨j, rfl, rfl, hj, hbl⟩ := hrel
    obtain ⟨hd, hhd⟩ : ∃ hd, hndU (upA C z) s j = hd := ⟨_, rfl⟩
    rw [hhd]
    have hhdH := Lib.hid hhd
    have hhb : hd ≤ j := by rw [← hhd]; exact hndU_le _ _ _
    have hblH := Lib.hid hbl
    clear hhd
    by_cases hjn : j < n
    · have hjI : (j : Int) < (n : Int) := by omega
      have hj0 : (0 : Int) ≤ (j : Int) := by omega
      clear hbl
      go_upto_region 5 with (fail)
      obtain ⟨V, hV⟩ : ∃ V, V = wr.alloc (Obj.cells #[Value.int .i64 (j : Nat)] 3) := ⟨_, rfl⟩
      rw [← hV]
      have e0 : Below wr.heap.size wr V := by rw [hV]; exact (Below.refl _ _).alloc (Nat.le_refl _) _
      have e1 : V.cell? ⟨wr.heap.size, 0, none⟩ = some (.int .i64 (j : Nat)) := by rw [hV, al_new rfl]; rfl
      have e2 : Hid (Below W.heap.size W V) := bseqJ hblH.out e0
      have e3 : Hid (PredAtZ 57 #[ptr bc, .pointer (some ⟨wr.heap.size, 0, none⟩), ptr bl] (fun i => upA C z i j) n V) := lacks11_at ao c n bc wr.heap.size bl j C z V (hMW.out.below e2.out) hgH.out hnH.out hjn (Below.cellAt e2.out (Nat.le_refl _) d1H.out) e1 (Below.cellAt e2.out (Nat.le_refl _) d2H.out)
      have hB : Hid (IZ V (some ⟨b0, o0, none⟩) (nz s)) := (hsH.out.below e2.out).iz.1
      have hs1 := Lib.hid (hndU_succ (upA C z) s j)
      clear e0 e1 hV
      rcases hany : s.any fun i => upA C z i j
      · have hanyH := Lib.hid hany
        clear hany
        go_wp2_with (go_at_call 56; go_loud (refine (containsFunc_any (some ⟨b0, o0, none⟩) m cp n 57 #[ptr bc, .pointer (some ⟨wr.heap.size, 0, none⟩), ptr bl] (fun i => upA C z i j) s false V hB.out hmH.out hltH.out (by omega) e3.out egH.out hanyH.out).mono ?_); rintro e w3 ⟨rfl, hb3⟩; have hb3H := Lib.hid hb3; clear hb3)
        go_roundw
        case rel => exact ⟨j + 1, by rw [hs1.out, hanyH.out, hhdH.out]; rfl, by go_num, by omega, bseqJ e2.out hb3H.out⟩
        case measure => simp [intOf]; omega
      · have hanyH := Lib.hid hany
        clear hany
        go_wp2_with (go_at_call 56; go_loud (refine (containsFunc_any (some ⟨b0, o0, none⟩) m cp n 57 #[ptr bc, .pointer (some ⟨wr.heap.size, 0, none⟩), ptr bl] (fun i => upA C z i j) s true V hB.out hmH.out hltH.out (by omega) e3.out egH.out hanyH.out).mono ?_); rintro e w3 ⟨rfl, hb3⟩; have hb3H := Lib.hid hb3; clear hb3)
        go_roundw
        case rel => exact ⟨j + 1, by rw [hs1.out, hanyH.out, hhdH.out, if_pos rfl]; go_num, by go_num, by omega, bseqJ e2.out hb3H.out⟩
        case measure => simp [intOf]; omega
    · have hke : j = n := by omega
      subst hke
      have k1 : wr.cell? ⟨bo, 0, none⟩ = some (.slice none 0 0) := Below.cellAt hbl (Nat.le_refl _) coH.out
      have k2 : wr.frozen? ⟨bo, 0, none⟩ = false := by rw [hbl.frozen (p := ⟨bo, 0, none⟩) hsz]; exact cfH.out
      clear hbl
      by_cases hlk : hd < m
      · have hlkI : (hd : Int) < (m : Int) := by omega
        have k3 : (wr.setCell ⟨bo, 0, none⟩ (.slice (some ⟨b0, o0, none⟩) m cp)).cell? ⟨bo, 0, none⟩ = some (.slice (some ⟨b0, o0, none⟩) m cp) := World.cell?_setCell_same _ _ _ k1
        go_wp2_with (fail)
        go_ret
        refine .inr ⟨?_, rfl, wr, hblH.out, rfl, k1, hsH.out.below hblH.out⟩
        unfold lackB
        rw [hmH.out]
        exact decide_eq_true (by rw [show (hnd (upA C z) j s).length = hd from hhdH.out]; exact hlk)
      · have hlkI : ¬ (hd : Int) < (m : Int) := by omega
        go_wp2_with (fail)
        go_ret
        refine .inl ⟨?_, rfl, hblH.out⟩
        unfold lackB
        rw [hmH.out]
        exact decide_eq_false (by rw [show (hnd (upA C z) j s).length = hd from hhdH.out]; exact hlk)
section
variable (ao : Option Addr) (c n bc bl bo base : Nat) (C : List (List Int)) (z : Int) (s : List Nat) (v : Value) (w W : World) (hM : IMx w ao C) (hg : goodC C) (hn : C.length = n) (c1 : w.cell? ⟨bc, 0, none⟩ = some (.slice ao n c)) (c2 : w.cell? ⟨bl, 0, none⟩ = some (.int .i64 z)) (hb : Below w.heap.size w W) (co : W.cell? ⟨bo, 0, none⟩ = some (.slice none 0 0)) (cf : W.frozen? ⟨bo, 0, none⟩ = false) (hs : ZI W base v (nz s)) (hlt : ∀ x ∈ s, x < n) (hne : s ≠ []) (hl : s.length ≤ 8)
include hM hg hn c1 c2 hb co cf hs hlt hne hl
theorem lacks1_no (h : lackB (upA C z) n s = false) : Calls Try.prog 55 #[v, ptr bc, ptr bl, ptr bo] W (fun e w' => e = .returned (.bool true) ∧ Below W.heap.size W w') :=
  (lacks1_at ao c n bc bl bo base C z s v w W hM hg hn c1 c2 hb co cf hs hlt hne hl).mono fun e w' h' => h'.elim (fun h2 => h2.2) fun h2 => by rw [h] at h2; exact absurd h2.1 (by simp)
theorem lacks1_yes (h : lackB (upA C z) n s = true) : Calls Try.prog 55 #[v, ptr bc, ptr bl, ptr bo] W (fun e w' => e = .returned (.bool false) ∧ Found bo base v s W w') :=
  (lacks1_at ao c n bc bl bo base C z s v w W hM hg hn c1 c2 hb co cf hs hlt hne hl).mono fun e w' h' => h'.elim (fun h2 => by rw [h] at h2; exact absurd h2.1 (by simp)) fun h2 => h2.2
end
end Go.Proofs.Yteiipfajoikfpaa

/- Walk of sets: the sets by their sizes, until one lacks handles. -/
namespace Go.Proofs.Yteiipfajoikfpaa
open Go Go.RowKit Go.Proofs

theorem cell_alJ {w : World} {p : Addr} {v : Value} (h : w.cell? p = some v) (o : Obj) : (w.alloc o).cell? p = some v := by
  rw [World.cell?_of_block (w := w) (Below.block ((Below.refl w.heap.size w).alloc (Nat.le_refl _) o) _ (World.block_lt_of_cell? _ _ h))]
  exact h
theorem cell_drJ {w : World} {p : Addr} {v : Value} (h : w.cell? p = some v) : w.drew.cell? p = some v := h
theorem IZ.alJ {w : World} {ao : Option Addr} {xs : List Int} (h : IZ w ao xs) (o : Obj) : IZ (w.alloc o) ao xs := h.below ((Below.refl _ _).alloc (Nat.le_refl _) o)
theorem IZ.drJ {w : World} {ao : Option Addr} {xs : List Int} (h : IZ w ao xs) : IZ w.drew ao xs := h.below (Below.drew (Below.refl _ _))
theorem ZE.alJ {w : World} {base : Nat} {v : Value} {xs : List Int} (h : ZE w base v xs) (o : Obj) : ZE (w.alloc o) base v xs := h.below ((Below.refl _ _).alloc (Nat.le_refl _) o)
theorem ZE.drJ {w : World} {base : Nat} {v : Value} {xs : List Int} (h : ZE w base v xs) : ZE w.drew base v xs := h.below (Below.drew (Below.refl _ _))
theorem ZE.zi {w : World} {base : Nat} {v : Value} {xs : List Int} (h : ZE w base v xs) (hne : xs ≠ []) : ZI w base v xs := by
  rcases h with h | ⟨h, _⟩
  · exact h
  · exact absurd h hne
theorem Found.cell {bo base : Nat} {v : Value} {p : List Nat} {W w' : World} (h : Found bo base v p W w') {b o : Nat} {u : Value} (hc : W.cell? ⟨b, o, none⟩ = some u) (hb : b ≠ bo) : w'.cell? ⟨b, o, none⟩ = some u := by
  obtain ⟨Wx, h1, rfl, _, _⟩ := h
  rw [cell_far (by omega)]
  exact Below.cellAt h1 (Nat.le_refl _) hc
theorem Found.up {bo base : Nat} {v : Value} {p : List Nat} {W W1 w' : World} (h : Found bo base v p W1 w') (hb : Below W.heap.size W W1) : Found bo base v p W w' := by
  obtain ⟨Wx, h1, h2⟩ := h
  exact ⟨Wx, bseqJ hb h1, h2⟩
theorem combU_found {n l a : Nat} {s : List Nat} {i : Nat} (f : List Nat → Bool) {p : List Nat} (ha : a ≤ i) (h0 : (combU n l a s i).find? f = none) (hp : (comb n l (i + 1) (s ++ [i])).find? f = some p) : ∀ d, (combU n l a s (i + 1 + d)).find? f = some p := by
  intro d
  induction d with
  | zero => rw [Nat.add_zero, combU_succ _ _ _ _ _ ha, List.find?_append, h0, hp]; rfl
  | succ d ih => rw [show i + 1 + (d + 1) = i + 1 + d + 1 by omega, combU_succ _ _ _ _ _ (by omega), List.find?_append, ih]; rfl
/-- What sets' boxes hold. -/
structure SB (W : World) (n by_ bn bg bc bl bo : Nat) : Prop where
  cy : W.cell? ⟨by_, 0, none⟩ = some (.func (.func 55) #[] #[ptr bc, ptr bl, ptr bo])
  cn : W.cell? ⟨bn, 0, none⟩ = some (.int .i64 (n : Nat))
  cg : W.cell? ⟨bg, 0, none⟩ = some (.func (.func 81) #[] #[ptr by_, ptr bn, ptr bg])
  co : W.cell? ⟨bo, 0, none⟩ = some (.slice none 0 0)
  fo : W.frozen? ⟨bo, 0, none⟩ = false
theorem SB.up {W W' : World} {n by_ bn bg bc bl bo : Nat} (h : SB W n by_ bn bg bc bl bo) (hb : Below W.heap.size W W') : SB W' n by_ bn bg bc bl bo :=
  ⟨Below.cellAt hb (Nat.le_refl _) h.cy, Below.cellAt hb (Nat.le_refl _) h.cn, Below.cellAt hb (Nat.le_refl _) h.cg, Below.cellAt hb (Nat.le_refl _) h.co, by rw [hb.frozen (p := ⟨bo, 0, none⟩) (World.block_lt_of_cell? _ _ h.co)]; exact h.fo⟩
theorem eg_lacks1 : ∀ args w, (callFunc 55 args).run Try.prog w = .ok (.enter 55 args) w := enters_of Try.func55 (by kernel_rfl) rfl
theorem eg_sets1 : ∀ args w, (callFunc 81 args).run Try.prog w = .ok (.enter 81 args) w := enters_of Try.func81 (by kernel_rfl) rfl
def GrowPost (f : Option (List Nat)) (bo base : Nat) (W : World) (e : Ending) (w' : World) : Prop :=
  (f = none ∧ e = .returned (.bool true) ∧ Below W.heap.size W w') ∨ ∃ p v, f = some p ∧ e = .returned (.bool false) ∧ Found bo base v p W w'
theorem grow_no {f : Option (List Nat)} {bo base : Nat} {W : World} {e : Ending} {w' : World} (hf : f = none) (h : GrowPost f bo base W e w') : e = .returned (.bool true) ∧ Below W.heap.size W w' := by
  rcases h with ⟨_, h⟩ | ⟨p, v, h, _⟩
  · exact h
  · rw [hf] at h; cases h
theorem grow_yes {f : Option (List Nat)} {p : List Nat} {bo base : Nat} {W : World} {e : Ending} {w' : World} (hf : f = some p) (h : GrowPost f bo base W e w') : ∃ v, e = .returned (.bool false) ∧ Found bo base v p W w' := by
  rcases h with ⟨h, _⟩ | ⟨q, v, h, h2⟩
  · rw [hf] at h; cases h
  · rw [hf] at h; injection h with h; subst h; exact ⟨v, h2⟩
theorem cloneFacts {wr cur w1 : World} {v : Value} {xs : List Int} (h0 : Below wr.heap.size wr cur) (hb1 : Below cur.heap.size cur w1) (hZ1 : ZI w1 cur.heap.size v xs) : Below wr.heap.size wr w1 ∧ ZE w1 wr.heap.size v xs ∧ (∀ b o, b < cur.heap.size → w1.cell? ⟨b, o, none⟩ = cur.cell? ⟨b, o, none⟩) :=
  ⟨bseqJ h0 hb1, (ZE.mono (.inl hZ1) h0.size), fun b o h => World.cell?_of_block (a := ⟨b, o, none⟩) (hb1.block b h)⟩
set_option maxRecDepth 100000 in
set_option maxHeartbeats 12800000 in
theorem grow_any (ao : Option Addr) (c n bc bl bo base by_ bn bg : Nat) (C : List (List Int)) (z : Int) (w : World) (hM : IMx w ao C) (hg : goodC C) (hn : C.length = n) (c1 : w.cell? ⟨bc, 0, none⟩ = some (.slice ao n c)) (c2 : w.cell? ⟨bl, 0, none⟩ = some (.int .i64 z)) (hgo : bg ≠ bo) :
    ∀ (l a : Nat) (s : List Nat) (v : Value) (W : World), Below w.heap.size w W → base ≤ W.heap.size → SB W n by_ bn bg bc bl bo → ZE W base v (nz s) → (∀ x ∈ s, x < n) → (l = 0 → s ≠ []) → s.length + l ≤ n → a ≤ n →
      Calls Try.prog 81 #[v, .int .i64 (a : Nat), .int .i64 (l : Nat), ptr by_, ptr bn, ptr bg] W (GrowPost ((comb n l a s).find? (lackB (upA C z) n)) bo base W) := by
  have hn8 : n ≤ 8 := by rw [← hn]; exact hg.2.1
  have hMH := Lib.hid hM
  have hgH := Lib.hid hg
  have hnH := Lib.hid hn
  have c1H := Lib.hid c1
  have c2H := Lib.hid c2
  have e1 := eg_lacks1
  have e2 := eg_sets1
  clear hM hg hn c1 c2
  intro l
  induction l with
  | zero =>
    intro a s v W hb hbs hS hZ hlt hne hl ha
    have hk := hS.cy
    have hbH := Lib.hid hb
    have hSH := Lib.hid hS
    have hZH := Lib.hid (hZ.zi (by rw [ne_eq, ← List.length_eq_zero_iff, nz_length, List.length_eq_zero_iff]; exact hne rfl))
    have hltH := Lib.hid hlt
    have hneH := Lib.hid (hne rfl)
    clear hb hS hZ hlt hne
    go_enter Try.func81, Try.ntmps81
    rcases hlk : lackB (upA C z) n s
    · have hlkH := Lib.hid hlk
      clear hlk
      go_wp2_with (go_at_call 55; go_loud (refine (lacks1_no ao c n bc bl bo base C z s v w _ hMH.out hgH.out hnH.out c1H.out c2H.out hbH.out hSH.out.co hSH.out.fo hZH.out hltH.out hneH.out (by omega) hlkH.out).mono ?_); rintro e w3 ⟨rfl, hb3⟩; have hb3H := Lib.hid hb3; clear hb3)
      go_ret
      refine .inl ⟨?_, rfl, hb3H.out⟩
      simp [comb, hlkH.out]
    · have hlkH := Lib.hid hlk
      clear hlk
      go_wp2_with (go_at_call 55; go_loud (refine (lacks1_yes ao c n bc bl bo base C z s v w _ hMH.out hgH.out hnH.out c1H.out c2H.out hbH.out hSH.out.co hSH.out.fo hZH.out hltH.out hneH.out (by omega) hlkH.out).mono ?_); rintro e w3 ⟨rfl, hb3⟩; have hb3H := Lib.hid hb3; clear hb3)
      go_ret
      refine .inr ⟨s, v, ?_, rfl, hb3H.out⟩
      simp [comb, hlkH.out]
  | succ l ih =>
    intro a s v W hb hbs hS hZ hlt hne hl ha
    obtain ⟨m, hm⟩ : ∃ m, s.length = m := ⟨_, rfl⟩
    obtain ⟨av, cv, hv⟩ := hZ.shape
    rw [nz_length, hm] at hv
    subst hv
    have hmn : m + (l + 1) ≤ n := by omega
    have hbH := Lib.hid hb
    have hSH := Lib.hid hS
    have hZH := Lib.hid hZ
    have hltH := Lib.hid hlt
    have hmH := Lib.hid hm
    have ihH := Lib.hid ih
    clear hb hS hZ hlt hne ih hm hl
    obtain ⟨L, hL⟩ : ∃ L, L = l + 1 := ⟨_, rfl⟩
    rw [← hL]
    have hL0 : ((L : Int) == 0) = false := by rw [beq_eq_false_iff_ne]; omega
    have hL1 : (L : Int) - 1 = (l : Int) := by omega
    have hLH := Lib.hid hL
    clear hL
    go_enter Try.func81, Try.ntmps81
    go_wp2_with (fail)
    go_loopw [10] (fun iv wr => ∃ i : Nat, iv = .int .i64 (i : Nat) ∧ a ≤ i ∧ (i ≤ n - l ∨ i = a) ∧ (combU n l a s i).find? (lackB (upA C z) n) = none ∧ Below W.heap.size W wr) (fun iv _ => n + 1 - (intOf iv).toNat)
    case atStart => exact ⟨a, rfl, Nat.le_refl _, .inr rfl, by rw [combU_low _ _ _ _ _ (Nat.le_refl _)]; rfl, Below.refl _ _⟩
    case round =>
      obtain ⟨i, rfl, hai, hi, hno, hbl⟩ := hrel
      have hSr := hSH.out.up hbl
      have k1 := hSr.cn
      have hnoH := Lib.hid hno
      have hblH := Lib.hid hbl
      have hSrH := Lib.hid hSr
      clear hno hbl
      by_cases hin : i < n - l
      · have hi1 : (i : Int) ≤ (n : Int) - (L : Int) := by omega
        have k2 := hSr.cg
        have hIW : Hid (IZ wr av (nz s)) := (hZH.out.below hblH.out).iz.1
        have hlz : Hid ((nz s).length = m) := by show _ = _; rw [nz_length, hmH.out]
        have hbs2 : W.heap.size ≤ wr.heap.size := hblH.out.size
        have hne2 : Hid (nz (s ++ [i]) ≠ []) := by show _ ≠ _; simp [nz]
        have hlz2 : Hid ((nz (s ++ [i])).length = m + 1) := by show _ = _; rw [nz_length, List.length_append, hmH.out]; rfl
        have wi1 : IntKind.i64.wrap ((i : Int) + 1) = ((i + 1 : Nat) : Int) := by rw [IntKind.wrap_i64]; omega
        have wl1 : IntKind.i64.wrap (l : Int) = (l : Int) := by rw [IntKind.wrap_i64]; omega
        have hltS : Hid (∀ x ∈ s ++ [i], x < n) := fun x hx => by rcases List.mem_append.1 hx with h | h; exact hltH.out x h; rw [List.mem_singleton.1 h]; omega
        clear hSr
        rcases hf : (comb n l (i + 1) (s ++ [i])).find? (lackB (upA C z) n) with _ | p
        · have hfH := Lib.hid hf
          clear hf
          go_wp2_with (fail)
          have hI0 : wr.cell? ⟨bg, 0, none⟩ = some (.func (.func 81) #[] #[ptr by_, ptr bn, ptr bg]) := k2
          have hB0 : Below wr.heap.size wr wr := Below.refl _ _
          go_region_held3 (fun w' => w'.cell? ⟨bg, 0, none⟩ = some (.func (.func 81) #[] #[ptr by_, ptr bn, ptr bg]))
            (repeat (first | assumption | (with_reducible refine cell_drJ ?_) | (with_reducible refine cell_alJ ?_ _)))
            (first
              | (go_at_call 72; go_loud (refine (clone_any av m cv (nz s) _ (by repeat (first | exact hIW.out | (with_reducible refine IZ.drJ ?_) | (with_reducible refine IZ.alJ ?_ _))) hlz.out (by omega)).mono ?_); rintro e w1 ⟨a1, d1, rfl, hZ1, hb1⟩; obtain ⟨hq1, hZ1E, hcl⟩ := cloneFacts (show Below wr.heap.size wr _ by repeat (first | assumption | (with_reducible refine Below.drew ?_) | (with_reducible refine below_al ?_ _))) hb1 hZ1; have hZ1H := Lib.hid hZ1E; have hclH := Lib.hid hcl; clear hZ1E hcl; have hk1 : w1.cell? ⟨bg, 0, none⟩ = some (.func (.func 81) #[] #[ptr by_, ptr bn, ptr bg]) := Below.cellAt hq1 (Nat.le_refl _) hI0; clear hZ1 hb1)
              | ((refine step_append_ze rfl (.tmp 26) (.tmp 28) _ rfl Try.underlying24 wr.heap.size m (.slice a1 m d1) (nz s) (by rfl) (by repeat (first | exact hZ1H.out | (with_reducible refine ZE.drJ ?_) | (with_reducible refine ZE.alJ ?_ _))) hlz.out _ 1 1 [(i : Int)] (by rfl) (IZ.one (by first | (simp; done) | (rw [hclH.out _ _ (by simp)]; simp; done))) rfl (by omega) (by omega) (Below.size (by repeat (first | assumption | (with_reducible refine Below.drew ?_) | (with_reducible refine below_al ?_ _)))) ?_); intro v2 x2 hA2; have hq2 : Below wr.heap.size wr x2 := Below.trans (by repeat (first | assumption | (with_reducible refine Below.drew ?_) | (with_reducible refine below_al ?_ _))) hA2.2.1; have hk2 : x2.cell? ⟨bg, 0, none⟩ = some (.func (.func 81) #[] #[ptr by_, ptr bn, ptr bg]) := Below.cellAt hq2 (Nat.le_refl _) hI0; rw [nz_snoc] at hA2; have hZ2H := Lib.hid hA2.1; clear hA2)
              | (go_at_call 81; go_loud (refine (ihH.out (i + 1) (s ++ [i]) v2 _ (show Below w.heap.size w _ by exact bseqJ hbH.out (bseqJ hblH.out (by repeat (first | assumption | (with_reducible refine Below.drew ?_) | (with_reducible refine below_al ?_ _))))) (Nat.le_trans hbs (Nat.le_trans hbs2 (Below.size (w := wr) (by repeat (first | assumption | (with_reducible refine Below.drew ?_) | (with_reducible refine below_al ?_ _)))))) (hSrH.out.up (by repeat (first | assumption | (with_reducible refine Below.drew ?_) | (with_reducible refine below_al ?_ _)))) (hZ2H.out.mono (Nat.le_trans hbs hbs2)) hltS.out (fun _ => by simp) (by rw [List.length_append, hmH.out]; simp; omega) (by omega)).mono ?_); rintro e w3 hP; obtain ⟨rfl, hb3⟩ := grow_no hfH.out hP; have hq3 : Below wr.heap.size wr w3 := bseqJ (by repeat (first | assumption | (with_reducible refine Below.drew ?_) | (with_reducible refine below_al ?_ _))) hb3; have hk3 : w3.cell? ⟨bg, 0, none⟩ = some (.func (.func 81) #[] #[ptr by_, ptr bn, ptr bg]) := Below.cellAt hq3 (Nat.le_refl _) hI0; clear hP hb3))
          all_goals (
            go_wp2_with (fail)
            go_roundw
            case rel => exact ⟨i + 1, by go_num, by omega, by omega, by rw [combU_succ _ _ _ _ _ hai, List.find?_append, hnoH.out, hfH.out]; rfl, bseqJ hblH.out hq3⟩
            case measure => simp [intOf]; omega)
        · have hfH := Lib.hid hf
          clear hf
          go_wp2_with (fail)
          have hI0 : wr.cell? ⟨bg, 0, none⟩ = some (.func (.func 81) #[] #[ptr by_, ptr bn, ptr bg]) := k2
          have hB0 : Below wr.heap.size wr wr := Below.refl _ _
          go_region_held3 (fun w' => w'.cell? ⟨bg, 0, none⟩ = some (.func (.func 81) #[] #[ptr by_, ptr bn, ptr bg]))
            (repeat (first | assumption | (with_reducible refine cell_drJ ?_) | (with_reducible refine cell_alJ ?_ _)))
            (first
              | (go_at_call 72; go_loud (refine (clone_any av m cv (nz s) _ (by repeat (first | exact hIW.out | (with_reducible refine IZ.drJ ?_) | (with_reducible refine IZ.alJ ?_ _))) hlz.out (by omega)).mono ?_); rintro e w1 ⟨a1, d1, rfl, hZ1, hb1⟩; obtain ⟨hq1, hZ1E, hcl⟩ := cloneFacts (show Below wr.heap.size wr _ by repeat (first | assumption | (with_reducible refine Below.drew ?_) | (with_reducible refine below_al ?_ _))) hb1 hZ1; have hZ1H := Lib.hid hZ1E; have hclH := Lib.hid hcl; clear hZ1E hcl; have hk1 : w1.cell? ⟨bg, 0, none⟩ = some (.func (.func 81) #[] #[ptr by_, ptr bn, ptr bg]) := Below.cellAt hq1 (Nat.le_refl _) hI0; clear hZ1 hb1)
              | ((refine step_append_ze rfl (.tmp 26) (.tmp 28) _ rfl Try.underlying24 wr.heap.size m (.slice a1 m d1) (nz s) (by rfl) (by repeat (first | exact hZ1H.out | (with_reducible refine ZE.drJ ?_) | (with_reducible refine ZE.alJ ?_ _))) hlz.out _ 1 1 [(i : Int)] (by rfl) (IZ.one (by first | (simp; done) | (rw [hclH.out _ _ (by simp)]; simp; done))) rfl (by omega) (by omega) (Below.size (by repeat (first | assumption | (with_reducible refine Below.drew ?_) | (with_reducible refine below_al ?_ _)))) ?_); intro v2 x2 hA2; have hq2 : Below wr.heap.size wr x2 := Below.trans (by repeat (first | assumption | (with_reducible refine Below.drew ?_) | (with_reducible refine below_al ?_ _))) hA2.2.1; have hk2 : x2.cell? ⟨bg, 0, none⟩ = some (.func (.func 81) #[] #[ptr by_, ptr bn, ptr bg]) := Below.cellAt hq2 (Nat.le_refl _) hI0; rw [nz_snoc] at hA2; have hZ2H := Lib.hid hA2.1; clear hA2)
              | (go_at_call 81; go_loud (refine (ihH.out (i + 1) (s ++ [i]) v2 _ (show Below w.heap.size w _ by exact bseqJ hbH.out (bseqJ hblH.out (by repeat (first | assumption | (with_reducible refine Below.drew ?_) | (with_reducible refine below_al ?_ _))))) (Nat.le_trans hbs (Nat.le_trans hbs2 (Below.size (w := wr) (by repeat (first | assumption | (with_reducible refine Below.drew ?_) | (with_reducible refine below_al ?_ _)))))) (hSrH.out.up (by repeat (first | assumption | (with_reducible refine Below.drew ?_) | (with_reducible refine below_al ?_ _)))) (hZ2H.out.mono (Nat.le_trans hbs hbs2)) hltS.out (fun _ => by simp) (by rw [List.length_append, hmH.out]; simp; omega) (by omega)).mono ?_); rintro e w3 hP; obtain ⟨v3, rfl, hb3⟩ := grow_yes hfH.out hP; have hq3 : Found bo base v3 p wr w3 := hb3.up (by repeat (first | assumption | (with_reducible refine Below.drew ?_) | (with_reducible refine below_al ?_ _))); have hk3 : w3.cell? ⟨bg, 0, none⟩ = some (.func (.func 81) #[] #[ptr by_, ptr bn, ptr bg]) := hq3.cell hI0 hgo; clear hP hb3))
          all_goals (
            go_wp2_with (fail)
            go_ret
            refine .inr ⟨p, v3, ?_, rfl, hq3.up hblH.out⟩
            rw [hLH.out, comb_succ, show n - l = i + 1 + (n - l - (i + 1)) by omega]
            exact combU_found _ hai hnoH.out hfH.out _)
      · have hi1 : ¬ (i : Int) ≤ (n : Int) - (L : Int) := by omega
        clear hSr
        go_wp2_with (fail)
        go_ret
        refine .inl ⟨?_, rfl, hblH.out⟩
        rw [hLH.out, comb_succ]
        rcases hi with hi | hi
        · have h1 : i = n - l := by omega
          rw [← h1]; exact hnoH.out
        · rw [combU_low _ _ _ _ _ (by omega)]; rfl
end Go.Proofs.Yteiipfajoikfpaa

/- Walk of Lacks. -/
namespace Go.Proofs.Yteiipfajoikfpaa
open Go Go.RowKit Go.Proofs

/-- What sets leaves behind. -/
def SetsPost (A : Nat → Nat → Bool) (n bo base : Nat) (W : World) (e : Ending) (w' : World) : Prop :=
  e = (.returned (.tuple #[]) : Ending) ∧ (((∀ q, Asc n 0 q → lackB A n q = false) ∧ Below W.heap.size W w') ∨ ∃ p v, LeastL A n p ∧ Found bo base v p W w')
set_option maxRecDepth 100000 in
set_option maxHeartbeats 12800000 in
theorem sets_any (ao : Option Addr) (c n bc bl bo : Nat) (C : List (List Int)) (z : Int) (w W : World) (hM : IMx w ao C) (hg : goodC C) (hn : C.length = n) (c1 : w.cell? ⟨bc, 0, none⟩ = some (.slice ao n c)) (c2 : w.cell? ⟨bl, 0, none⟩ = some (.int .i64 z)) (hb : Below w.heap.size w W) (co : W.cell? ⟨bo, 0, none⟩ = some (.slice none 0 0)) (cf : W.frozen? ⟨bo, 0, none⟩ = false) :
    Calls Try.prog 54 #[.int .i64 (n : Nat), .func (.func 55) #[] #[ptr bc, ptr bl, ptr bo]] W (SetsPost (upA C z) n bo W.heap.size W) := by
  have hn8 : n ≤ 8 := by rw [← hn]; exact hg.2.1
  have hbo : bo < W.heap.size := World.block_lt_of_cell? _ _ co
  have hMH := Lib.hid hM
  have hgH := Lib.hid hg
  have hnH := Lib.hid hn
  have c1H := Lib.hid c1
  have c2H := Lib.hid c2
  have hbH := Lib.hid hb
  have coH := Lib.hid co
  have cfH := Lib.hid cf
  have e1 := eg_lacks1
  have e2 := eg_sets1
  have hmf : ∀ (fn : Fn) (first cap : Array Value) (w : World), (Instr.makeFunc fn first cap).run Try.prog w = .ok (.func fn first cap) w := fun _ _ _ _ => rfl
  clear hM hg hn c1 c2 hb co cf
  go_enter Try.func54, Try.ntmps54
  go_upto_region 3 with (fail)
  obtain ⟨V, hV⟩ : ∃ V, V = (((W.alloc (Obj.cells #[Value.int .i64 (n : Nat)] 3)).alloc (Obj.cells #[Value.func (.func 55) #[] #[ptr bc, ptr bl, ptr bo]] 81)).alloc (Obj.cells #[Value.func (.func 81) #[] #[.pointer (some ⟨W.heap.size + 1, 0, none⟩), .pointer (some ⟨W.heap.size, 0, none⟩), .pointer (some ⟨W.heap.size + 1 + 1, 0, none⟩)]] 91)) := ⟨_, rfl⟩
  rw [← hV]
  have hbV : Below W.heap.size W V := by rw [hV]; go_grown
  have hSB : SB V n (W.heap.size + 1) W.heap.size (W.heap.size + 1 + 1) bc bl bo := by
    refine ⟨?_, ?_, ?_, Below.cellAt hbV (Nat.le_refl _) coH.out, by rw [hbV.frozen (p := ⟨bo, 0, none⟩) hbo]; exact cfH.out⟩
    · rw [hV, al_old (by simp), al_new (by simp)]; rfl
    · rw [hV, al_old (by simp; omega), al_old (by simp), al_new rfl]; rfl
    · rw [hV, al_new (by simp)]; rfl
  have hbVH := Lib.hid hbV
  have hSBH := Lib.hid hSB
  have hVs : W.heap.size ≤ V.heap.size := hbV.size
  have hbgo : W.heap.size + 1 + 1 ≠ bo := by omega
  clear hV hbV hSB
  generalize W.heap.size + 1 + 1 = bg at *
  generalize W.heap.size + 1 = by_ at *
  go_wp2_with (fail)
  go_loopw [5] (fun sv wr => ∃ k : Nat, sv = .int .i64 (k : Nat) ∧ 1 ≤ k ∧ k ≤ n + 1 ∧ (∀ q, Asc n 0 q → q.length < k → lackB (upA C z) n q = false) ∧ Below V.heap.size V wr) (fun sv _ => n + 1 - (intOf sv).toNat)
  case atStart => exact ⟨1, rfl, by omega, by omega, fun q _ hl => by rw [List.length_eq_zero_iff.1 (by omega : q.length = 0)]; exact lackB_nil _ _, Below.refl _ _⟩
  case round =>
    obtain ⟨k, rfl, hk1, hk, hno, hbl⟩ := hrel
    have hSr := hSBH.out.up hbl
    have c3 := hSr.cn
    have c4 := hSr.cg
    have hnoH := Lib.hid hno
    have hblH := Lib.hid hbl
    have hSrH := Lib.hid hSr
    clear hno hbl hSr
    by_cases hkn : k ≤ n
    · have hkI : (k : Int) ≤ (n : Int) := by omega
      rcases hf : (comb n k 0 []).find? (lackB (upA C z) n) with _ | p
      · have hfH := Lib.hid hf
        clear hf
        go_wp2_with (go_at_call 81; go_loud (refine (grow_any ao c n bc bl bo W.heap.size by_ W.heap.size bg C z w hMH.out hgH.out hnH.out c1H.out c2H.out hbgo k 0 [] (.slice none 0 0) _ (bseqJ hbH.out (bseqJ hbVH.out hblH.out)) (Nat.le_trans hVs hblH.out.size) hSrH.out (ZE.nil _ _) (fun x hx => by cases hx) (fun h => by omega) (by simp; omega) (by omega)).mono ?_); rintro e w3 hP; obtain ⟨rfl, hb3⟩ := grow_no hfH.out hP; have hb3H := Lib.hid hb3; clear hP hb3)
        go_roundw
        case rel => exact ⟨k + 1, by go_num, by omega, by omega, fun q hq hl => by rcases Nat.lt_or_eq_of_le (Nat.le_of_lt_succ hl) with h | h; exact hnoH.out q hq h; exact size_none hfH.out q hq h, bseqJ hblH.out hb3H.out⟩
        case measure => simp [intOf]; omega
      · have hfH := Lib.hid hf
        clear hf
        go_wp2_with (go_at_call 81; go_loud (refine (grow_any ao c n bc bl bo W.heap.size by_ W.heap.size bg C z w hMH.out hgH.out hnH.out c1H.out c2H.out hbgo k 0 [] (.slice none 0 0) _ (bseqJ hbH.out (bseqJ hbVH.out hblH.out)) (Nat.le_trans hVs hblH.out.size) hSrH.out (ZE.nil _ _) (fun x hx => by cases hx) (fun h => by omega) (by simp; omega) (by omega)).mono ?_); rintro e w3 hP; obtain ⟨v3, rfl, hb3⟩ := grow_yes hfH.out hP; have hb3H := Lib.hid hb3; clear hP hb3)
        (try simp only [Exit.inBlock, Exit.then])
        refine bodyPost_ret (results_none rfl _ _ _) rfl ?_
        exact ⟨rfl, .inr ⟨p, v3, size_some (fun q hq hl => hnoH.out q hq hl) hfH.out, hb3H.out.up (bseqJ hbVH.out hblH.out)⟩⟩
    · have hkI : ¬ (k : Int) ≤ (n : Int) := by omega
      go_wp2_with (fail)
      (try simp only [Exit.inBlock, Exit.then])
      refine bodyPost_ret (results_none rfl _ _ _) rfl ?_
      refine ⟨rfl, .inl ⟨fun q hq => hnoH.out q hq ?_, bseqJ hbVH.out hblH.out⟩⟩
      rcases hq.len with h | h
      · omega
      · subst h; simp; omega
end Go.Proofs.Yteiipfajoikfpaa

/- Walk of Lacks. -/
namespace Go.Proofs.Yteiipfajoikfpaa
open Go Go.RowKit Go.Proofs

theorem lacks_bad (ao : Option Addr) (c n : Nat) (C : List (List Int)) (z : Int) (w : World) (h : IMx w ao C) (hn : C.length = n) (hm : n ≤ 9223372036854775807) (hb : costsB C = false) :
    Calls Try.prog 24 #[.slice ao n c, .int .i64 z] w (fun e w' => e = .returned (.tuple #[.slice none 0 0, .int .i64 1]) ∧ Below w.heap.size w w') := by
  have hH := Lib.hid h
  have hnH := Lib.hid hn
  have hbH := Lib.hid hb
  clear h hn hb
  go_enter Try.func24, Try.ntmps24
  go_upto_region 1 with (fail)
  obtain ⟨V, hV⟩ : ∃ V, V = ((w.alloc (Obj.cells #[.slice ao n c] 22)).alloc (Obj.cells #[Value.int .i64 z] 3)) := ⟨_, rfl⟩
  rw [← hV]
  have hbV : Below w.heap.size w V := by rw [hV]; go_grown
  have k1 : V.cell? ⟨w.heap.size, 0, none⟩ = some (.slice ao n c) := by rw [hV, al_old (by simp), al_new rfl]; rfl
  have hbVH := Lib.hid hbV
  clear hV hbV
  go_wp2_with (go_at_call 48; (with_reducible refine (valid_any ao c n C false _ (hH.out.below hbVH.out) hnH.out hm hbH.out).mono ?_); rintro e w1 ⟨rfl, rfl⟩)
  go_ret2
  exact ⟨rfl, hbVH.out⟩
theorem Found.same {bo base : Nat} {v : Value} {p : List Nat} {W w' : World} (h : Found bo base v p W w') : w'.cell? ⟨bo, 0, none⟩ = some v := by
  obtain ⟨Wx, h1, rfl, h2, _⟩ := h
  exact World.cell?_setCell_same _ _ _ h2
theorem LeastL.ne {A : Nat → Nat → Bool} {n : Nat} {p : List Nat} (h : LeastL A n p) : p ≠ [] := fun e => by
  have := h.lack
  rw [e, lackB_nil] at this
  cases this
theorem sets_none (ao : Option Addr) (c n bc bl bo : Nat) (C : List (List Int)) (z : Int) (w W : World) (hM : IMx w ao C) (hg : goodC C) (hn : C.length = n) (c1 : w.cell? ⟨bc, 0, none⟩ = some (.slice ao n c)) (c2 : w.cell? ⟨bl, 0, none⟩ = some (.int .i64 z)) (hb : Below w.heap.size w W) (co : W.cell? ⟨bo, 0, none⟩ = some (.slice none 0 0)) (cf : W.frozen? ⟨bo, 0, none⟩ = false) (h : ∀ q, Asc n 0 q → lackB (upA C z) n q = false) :
    Calls Try.prog 54 #[.int .i64 (n : Nat), .func (.func 55) #[] #[ptr bc, ptr bl, ptr bo]] W (fun e w' => e = (.returned (.tuple #[]) : Ending) ∧ Below W.heap.size W w') :=
  (sets_any ao c n bc bl bo C z w W hM hg hn c1 c2 hb co cf).mono fun e w' h' => ⟨h'.1, h'.2.elim (fun h2 => h2.2) fun ⟨p, v, hL, _⟩ => by have := h p hL.asc; rw [hL.lack] at this; cases this⟩
theorem sets_some (ao : Option Addr) (c n bc bl bo : Nat) (C : List (List Int)) (z : Int) (w W : World) (hM : IMx w ao C) (hg : goodC C) (hn : C.length = n) (c1 : w.cell? ⟨bc, 0, none⟩ = some (.slice ao n c)) (c2 : w.cell? ⟨bl, 0, none⟩ = some (.int .i64 z)) (hb : Below w.heap.size w W) (co : W.cell? ⟨bo, 0, none⟩ = some (.slice none 0 0)) (cf : W.frozen? ⟨bo, 0, none⟩ = false) (h : ¬ ∀ q, Asc n 0 q → lackB (upA C z) n q = false) :
    Calls Try.prog 54 #[.int .i64 (n : Nat), .func (.func 55) #[] #[ptr bc, ptr bl, ptr bo]] W (fun e w' => e = (.returned (.tuple #[]) : Ending) ∧ ∃ p v g cp, LeastL (upA C z) n p ∧ v = .slice (some ⟨g, 0, none⟩) p.length cp ∧ Found bo W.heap.size v p W w') :=
  (sets_any ao c n bc bl bo C z w W hM hg hn c1 c2 hb co cf).mono fun e w' h' => ⟨h'.1, h'.2.elim (fun h2 => absurd h2.1 h) fun ⟨p, v, hL, hF⟩ => by
    obtain ⟨Wx, h1, h2, h3, h4⟩ := id hF
    obtain ⟨g, c, hv⟩ := ZE.some (.inl h4) (by rw [ne_eq, ← List.length_eq_zero_iff, nz_length, List.length_eq_zero_iff]; exact hL.ne)
    rw [nz_length] at hv
    exact ⟨p, v, g, c, hL, hv, hF⟩⟩
def LacksPost (A : Nat → Nat → Bool) (n : Nat) (w : World) (e : Ending) (w' : World) : Prop :=
  ((∀ q, Asc n 0 q → lackB A n q = false) ∧ e = .returned (.tuple #[.slice none 0 0, .int .i64 5]) ∧ Below w.heap.size w w') ∨
  ∃ (p : List Nat) (m g o c : Nat), LeastL A n p ∧ p.length = m ∧ e = .returned (.tuple #[.slice (some ⟨g, o, none⟩) m c, .int .i64 0]) ∧ m ≤ c ∧ IZ w' (some ⟨g, o, none⟩) (nz p) ∧ Below w.heap.size w w'
set_option maxRecDepth 100000 in
set_option maxHeartbeats 6400000 in
theorem lacks_good (ao : Option Addr) (c n : Nat) (C : List (List Int)) (z : Int) (w : World) (h : IMx w ao C) (hg : goodC C) (hn : C.length = n) :
    Calls Try.prog 24 #[.slice ao n c, .int .i64 z] w (LacksPost (upA C z) n w) := by
  have hn8 : n ≤ 8 := by rw [← hn]; exact hg.2.1
  have hH := Lib.hid h
  have hnH := Lib.hid hn
  have hgH := Lib.hid hg
  have hb := Lib.hid (show costsB C = true from decide_eq_true hg)
  have q0 := eql_nil0
  have q1 := eql_nil1
  have hmf : ∀ (fn : Fn) (first cap : Array Value) (w : World), (Instr.makeFunc fn first cap).run Try.prog w = .ok (.func fn first cap) w := fun _ _ _ _ => rfl
  have hcase : (∀ q, Asc n 0 q → lackB (upA C z) n q = false) ∨ ¬ (∀ q, Asc n 0 q → lackB (upA C z) n q = false) := Classical.em _
  clear h hn hg
  go_enter Try.func24, Try.ntmps24
  go_upto_region 1 with (fail)
  obtain ⟨V, hV⟩ : ∃ V, V = ((w.alloc (Obj.cells #[.slice ao n c] 22)).alloc (Obj.cells #[Value.int .i64 z] 3)) := ⟨_, rfl⟩
  rw [← hV]
  have hbV : Below w.heap.size w V := by rw [hV]; go_grown
  have k1 : V.cell? ⟨w.heap.size, 0, none⟩ = some (.slice ao n c) := by rw [hV, al_old (by simp), al_new rfl]; rfl
  have k2 : V.cell? ⟨w.heap.size + 1, 0, none⟩ = some (.int .i64 z) := by rw [hV, al_new (by simp)]; rfl
  have hbVH := Lib.hid hbV
  have hMV := Lib.hid (hH.out.below hbV)
  clear hV hbV
  go_upto_region 4 with (go_at_call 48; (with_reducible refine (valid_any ao c n C true _ hMV.out hnH.out (by omega) hb.out).mono ?_); rintro e w1 ⟨rfl, rfl⟩)
  obtain ⟨W, hW⟩ : ∃ W, W = V.alloc (Obj.cells #[Value.slice none 0 0] 24) := ⟨_, rfl⟩
  rw [← hW]
  have hbW : Below V.heap.size V W := by rw [hW]; exact (Below.refl _ _).alloc (Nat.le_refl _) _
  have k3 : W.cell? ⟨w.heap.size, 0, none⟩ = some (.slice ao n c) := Below.cellAt hbW (Nat.le_refl _) k1
  have k4 : W.cell? ⟨V.heap.size, 0, none⟩ = some (.slice none 0 0) := by rw [hW, al_new rfl]; rfl
  have k5 : W.frozen? ⟨V.heap.size, 0, none⟩ = false := by
    have hB : Blk (V.alloc (Obj.cells #[Value.slice none 0 0] 24)) V.heap.size 24 [.slice none 0 0] := by
      have := heap_alloc_new V (Obj.cells #[Value.slice none 0 0] 24)
      unfold Blk
      simpa using this
    rw [hW]
    exact Blk.frozen hB 0
  have hbWH := Lib.hid hbW
  have k1H := Lib.hid k1
  have k2H := Lib.hid k2
  have k4H := Lib.hid k4
  have k5H := Lib.hid k5
  clear hW hbW k1 k2 k4 k5
  rcases hcase with hno | hyes
  · have hnoH := Lib.hid hno
    clear hno
    go_wp2_with (go_at_call 54; go_loud (refine (sets_none ao c n w.heap.size (w.heap.size + 1) V.heap.size C z V _ hMV.out hgH.out hnH.out k1H.out k2H.out hbWH.out k4H.out k5H.out hnoH.out).mono ?_); rintro e w3 ⟨rfl, hb3⟩; have hb3H := Lib.hid hb3; have k6 : w3.cell? ⟨V.heap.size, 0, none⟩ = some (.slice none 0 0) := Below.cellAt hb3 (Nat.le_refl _) k4H.out; clear hb3)
    go_ret2
    exact .inl ⟨hnoH.out, rfl, bseqJ hbVH.out (bseqJ hbWH.out hb3H.out)⟩
  · have hyesH := Lib.hid hyes
    clear hyes
    go_wp2_with (go_at_call 54; go_loud (refine (sets_some ao c n w.heap.size (w.heap.size + 1) V.heap.size C z V _ hMV.out hgH.out hnH.out k1H.out k2H.out hbWH.out k4H.out k5H.out hyesH.out).mono ?_); rintro e w3 ⟨rfl, p, v, g, cp, hL, rfl, hF⟩; have hLH := Lib.hid hL; have hFH := Lib.hid hF; have k6 : w3.cell? ⟨V.heap.size, 0, none⟩ = some (.slice (some ⟨g, 0, none⟩) p.length cp) := hF.same; clear hL hF)
    go_ret2
    obtain ⟨Wx, h1, rfl, h2, h3⟩ := hFH.out
    have hbx : V.heap.size < W.heap.size := World.block_lt_of_cell? _ _ k4H.out
    have h4 := (h3.far (b := V.heap.size) (o := 0) (u := .slice (some ⟨g, 0, none⟩) p.length cp) hbx).iz
    refine .inr ⟨p, p.length, g, 0, cp, hLH.out, rfl, rfl, h4.2, h4.1, bseqJ hbVH.out ?_⟩
    exact (bseqJ hbWH.out h1).setCell (Nat.le_refl _) _
end Go.Proofs.Yteiipfajoikfpaa
