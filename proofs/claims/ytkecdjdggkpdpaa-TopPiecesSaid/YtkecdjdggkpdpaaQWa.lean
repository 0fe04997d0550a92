/- Wt5 Wt6 Wt7 -/
import Derived.Test.YtkecdjdggkpdpaaQPe
import Derived.Test.YtkecdjdggkpdpaaQPd
import Derived.Test.YtkecdjdggkpdpaaQPa
set_option linter.unusedVariables false
/- Walks of water.within, with, possible. -/
namespace Go.Proofs.Ytkecdjdggkpdpaa
open Go Go.RowKit Go.Proofs

def ptrW (b : Nat) : Value := .pointer (some ⟨b, 0, none⟩)
theorem retBw {a b : Bool} (h : a = b) : Ending.returned (.bool a) = .returned (.bool b) := by rw [h]
def outW (most x : Int) : Bool := decide (x < 0) || decide (most < x)
theorem eg_within1 : ∀ args w, (callFunc 29 args).run Try.prog w = .ok (.enter 29 args) w := enters_of Try.func29 (by kernel_rfl) rfl
theorem within1_any (b : Nat) (most x : Int) (r : Bool) (w : World) (c : w.cell? ⟨b, 0, none⟩ = some (.int .i64 most)) (hr : outW most x = r) :
    Calls Try.prog 29 #[.int .i64 x, .pointer (some ⟨b, 0, none⟩)] w (fun e w' => e = .returned (.bool r) ∧ w = w') := by
  have hrH := Lib.hid hr
  clear hr
  by_cases h1 : x < 0
  · have d1 : decide (x < 0) = true := decide_eq_true h1
    have hr : Hid (true = r) := by show _ = _; rw [← hrH.out]; unfold outW; simp [h1]
    go_enter Try.func29, Try.ntmps29
    go_wp2_with (fail)
    go_ret
    exact ⟨retBw hr.out, rfl⟩
  · have d1 : decide (x < 0) = false := decide_eq_false h1
    by_cases h2 : most < x
    · have d2 : decide (most < x) = true := decide_eq_true h2
      have hr : Hid (true = r) := by show _ = _; rw [← hrH.out]; unfold outW; simp [h2]
      go_enter Try.func29, Try.ntmps29
      go_wp2_with (fail)
      go_ret
      exact ⟨retBw hr.out, rfl⟩
    · have d2 : decide (most < x) = false := decide_eq_false h2
      have hr : Hid (false = r) := by show _ = _; rw [← hrH.out]; unfold outW; simp [h1, h2]
      go_enter Try.func29, Try.ntmps29
      go_wp2_with (fail)
      go_ret
      exact ⟨retBw hr.out, rfl⟩
set_option maxHeartbeats 800000 in
theorem withinP_any (ao : Option Addr) (n c : Nat) (most : Int) (xs : List Int) (w : World) (h : IZ w ao xs) (hn : xs.length = n) (hs : n ≤ 1000000) (hb : ∀ x ∈ xs, 0 ≤ x ∧ x ≤ most) :
    Calls Try.prog 20 #[.slice ao n c, .int .i64 most] w (fun e w' => e = .returned (.bool true) ∧ Below w.heap.size w w') := by
  have hmf : ∀ (fn : Fn) (first cap : Array Value) (w : World), (Instr.makeFunc fn first cap).run Try.prog w = .ok (.func fn first cap) w := fun _ _ _ _ => rfl
  have hcf : Hid (∀ W, Below w.heap.size w W → W.cell? ⟨w.heap.size, 0, none⟩ = some (.int .i64 most) → Calls Try.prog 19 #[.slice ao n c, .func (.func 29) #[] #[.pointer (some ⟨w.heap.size, 0, none⟩)]] W (fun e w' => e = .returned (.bool false) ∧ Below W.heap.size W w')) := by
    intro W hW hc
    have hp : PredAt Try.prog 29 #[.pointer (some ⟨w.heap.size, 0, none⟩)] (Value.int .i64) (outW most) W := fun W2 x hW2 =>
      (within1_any w.heap.size most x _ W2 (Below.cellAt hW2 (Nat.le_refl _) hc) rfl).mono fun e w' ⟨h1, h2⟩ => ⟨h1, 0, h2.symm⟩
    have hbb : xs.any (outW most) = false := List.any_eq_false.2 fun x hx => by have := hb x hx; unfold outW; simp; omega
    rcases Nat.eq_zero_or_pos n with h0 | h0
    · subst h0
      have he := List.length_eq_zero_iff.1 hn
      subst he
      refine (Try.slices_ContainsFunc_empty (α := Int) ao c _ W).mono fun e w' ⟨h1, h2⟩ => ?_
      subst h2
      exact ⟨h1, Below.refl _ _⟩
    · have hI := h.below hW
      obtain ⟨g, o, rfl, _⟩ := hI.at (i := 0) (by omega)
      refine (Try.slices_ContainsFunc (Value.int .i64) (outW most) 29 #[.pointer (some ⟨w.heap.size, 0, none⟩)] eg_within1 g o n c xs W hp (by omega) (by omega) (fun j hj => ?_)).mono fun e w' ⟨h1, q, h2⟩ => ?_
      · obtain ⟨b2, o2, e, hc2⟩ := hI.at hj
        injection e with e
        injection e with e1 e2
        subst e1 e2
        rw [hc2]
        unfold at0
        rw [getElem!_def]
        rfl
      · subst h2
        refine ⟨?_, bdn (Below.refl _ _)⟩
        rw [h1, List.take_of_length_le (by omega), hbb]
  clear h hn hs hb
  go_enter Try.func20, Try.ntmps20
  go_wp2_with (go_at_call 19; go_loud (with_reducible refine (hcf.out _ (below_al (Below.refl _ _) _) (al_new rfl)).mono ?_); rintro e w1 ⟨rfl, hb1⟩; have hb1H := Lib.hid hb1; clear hb1)
  go_ret
  exact ⟨retBw (by simp), bseqJ (below_al (Below.refl _ _) _) hb1H.out⟩
/-- A list as a function. -/
def fnN (l : List Nat) (k : Nat) : Nat := l[k]?.getD 0
theorem fnN_get {l : List Nat} {k : Nat} (h : k < l.length) : l[k]? = some (fnN l k) := by unfold fnN; rw [List.getElem?_eq_getElem h]; rfl
theorem nz_fn {l : List Nat} {k : Nat} (h : k < l.length) : (nz l)[k]? = some ((fnN l k : Nat) : Int) := nz_get (fnN_get h)
theorem fnN_le {l : List Nat} {B : Nat} (h : ∀ x ∈ l, x ≤ B) (k : Nat) : fnN l k ≤ B := by
  unfold fnN
  rcases e : l[k]? with _ | x
  · exact Nat.zero_le _
  · exact h x (List.mem_of_getElem? e)
theorem pre_bound {f : Nat → Nat} {B : Nat} (h : ∀ k, f k ≤ B) : ∀ k, pre f k ≤ k * B
  | 0 => by simp [pre]
  | k + 1 => by
    have h1 := pre_bound h k
    have h2 := h k
    show pre f k + f k ≤ (k + 1) * B
    rw [Nat.succ_mul]; omega
/-- Is a use possible? -/
def possB (fl us : List Nat) : Bool := (List.range (us.length + 1)).all fun k => decide (pre (fnN us) k ≤ pre (fnN fl) k)
theorem possB_iff {fl us : List Nat} {m : Nat} (h : us.length = m) : possB fl us = true ↔ Poss m (fnN fl) (fnN us) := by
  unfold possB Poss
  simp only [List.all_eq_true, List.mem_range, decide_eq_true_eq]
  exact ⟨fun h1 k hk => h1 k (by omega), fun h1 k hk => h1 k (by omega)⟩
set_option maxHeartbeats 1600000 in
theorem possP_any (af au : Option Addr) (cf cu m : Nat) (fl us : List Nat) (b : Bool) (w : World) (hf : IZ w af (nz fl)) (hu : IZ w au (nz us)) (hfl : fl.length = m) (hul : us.length = m) (hm : m ≤ 8) (hfb : ∀ x ∈ fl, x ≤ 30) (hb : possB fl us = b) :
    Calls Try.prog 21 #[.slice af m cf, .slice au m cu] w (RetB w b) := by
  have hbH := Lib.hid hb
  have hfH := Lib.hid hf
  have huH := Lib.hid hu
  have hflH := Lib.hid hfl
  have hulH := Lib.hid hul
  have hfbH := Lib.hid hfb
  clear hb hf hu hfl hul hfb
  go_enter Try.func21, Try.ntmps21
  go_wp2_with (fail)
  go_loopw [5, 10] (fun lv iv wr => ∃ (k : Nat) (z : Int), iv = .int .i64 (k : Nat) ∧ lv = .int .i64 z ∧ k ≤ m ∧ z = (pre (fnN fl) k : Int) - (pre (fnN us) k : Int) ∧ (∀ j, j ≤ k → pre (fnN us) j ≤ pre (fnN fl) j) ∧ Below w.heap.size w wr) (fun _ i _ => m - (intOf i).toNat)
  case atStart => exact ⟨0, 0, rfl, rfl, by omega, by simp [pre], (fun j hj => by have e : j = 0 := Nat.le_zero.1 hj; subst e; exact Nat.le_refl _), Below.refl _ _⟩
  case round =>
    obtain ⟨k, z, rfl, rfl, hk, hz, hq, hbl⟩ := hrel
    have hzH := Lib.hid hz
    have hqH := Lib.hid hq
    have hblH := Lib.hid hbl
    clear hz hq
    by_cases hkm : k < m
    · obtain ⟨b1, o1, rfl, c1⟩ := (hfH.out.below hbl) k _ (nz_fn (by rw [hflH.out]; exact hkm))
      obtain ⟨b2, o2, rfl, c2⟩ := (huH.out.below hbl) k _ (nz_fn (by rw [hulH.out]; exact hkm))
      obtain ⟨f, hfe⟩ : ∃ f, fnN fl k = f := ⟨_, rfl⟩
      obtain ⟨x, hxe⟩ : ∃ x, fnN us k = x := ⟨_, rfl⟩
      rw [hfe] at c1
      rw [hxe] at c2
      have hf30 : f ≤ 30 := by rw [← hfe]; exact fnN_le hfbH.out k
      have hk0 : (0 : Int) ≤ (k : Int) := by omega
      have hkI : (k : Int) < (m : Int) := by omega
      have p1 := pre_bound (fnN_le hfbH.out) k
      have p2 := hqH.out k (Nat.le_refl _)
      have hz0 : 0 ≤ z ∧ z ≤ 240 := by rw [hzH.out]; omega
      have hw : IntKind.i64.wrap (z + (f : Int)) = z + (f : Int) := by rw [IntKind.wrap_i64]; omega
      have s1 : pre (fnN fl) (k + 1) = pre (fnN fl) k + f := by rw [← hfe]; rfl
      have s2 : pre (fnN us) (k + 1) = pre (fnN us) k + x := by rw [← hxe]; rfl
      have s1H := Lib.hid s1
      have s2H := Lib.hid s2
      clear s1 s2 p1 p2 hfe hxe hbl
      by_cases hx : z + (f : Int) < (x : Int)
      · have d1 : decide (z + (f : Int) < (x : Int)) = true := decide_eq_true hx
        have hr : Hid (false = b) := by
          show _ = _
          rw [← hbH.out]
          symm
          rw [Bool.eq_false_iff]
          intro hT
          have h1 := (possB_iff hulH.out).1 hT (k + 1) (by omega)
          rw [s1H.out, s2H.out] at h1
          have := hzH.out
          omega
        go_wp2_with (fail)
        go_ret
        exact ⟨retBw hr.out, hblH.out⟩
      · have d1 : decide (z + (f : Int) < (x : Int)) = false := decide_eq_false hx
        have hw2 : IntKind.i64.wrap (z + (f : Int) - (x : Int)) = z + (f : Int) - (x : Int) := by rw [IntKind.wrap_i64]; omega
        go_wp2_with (fail)
        clear hw hw2
        go_roundw
        case rel =>
          have h1 := s1H.out
          have h2 := s2H.out
          have h3 := hzH.out
          refine ⟨k + 1, z + (f : Int) - (x : Int), by go_num, rfl, by omega, by rw [h1, h2]; omega, fun j hj => ?_, hblH.out⟩
          by_cases hjk : j ≤ k
          · exact hqH.out j hjk
          · obtain rfl : j = k + 1 := by omega
            rw [h1, h2]; omega
        case measure => simp [intOf]; omega
    · obtain rfl : k = m := by omega
      have hr : Hid (true = b) := by
        show _ = _
        rw [← hbH.out]
        exact ((possB_iff hulH.out).2 hqH.out).symm
      go_wp2_with (fail)
      go_ret
      exact ⟨retBw hr.out, hblH.out⟩
end Go.Proofs.Ytkecdjdggkpdpaa

/- Walks of water.with, worth. -/
namespace Go.Proofs.Ytkecdjdggkpdpaa
open Go Go.RowKit Go.Proofs

/-- A use with one more piece at a place. -/
def addU (us : List Nat) (i : Nat) : List Nat := us.set i (fnN us i + 1)
theorem addU_len (us : List Nat) (i : Nat) : (addU us i).length = us.length := List.length_set
theorem addU_fn {us : List Nat} {i : Nat} (h : i < us.length) : fnN (addU us i) = oneM (fnN us) i := by
  funext j
  unfold oneM
  by_cases e : j = i
  · subst e
    rw [if_pos rfl]
    unfold addU
    show ((us.set j (fnN us j + 1))[j]?).getD 0 = _
    rw [List.getElem?_set_self h]; rfl
  · rw [if_neg e]
    unfold addU
    show ((us.set i (fnN us i + 1))[j]?).getD 0 = _
    rw [List.getElem?_set_ne (fun h => e h.symm)]; rfl
theorem addU_nz {us : List Nat} {i : Nat} : nz (addU us i) = (nz us).set i ((fnN us i : Int) + 1) := by
  unfold nz addU
  rw [List.map_set]; rfl
theorem splice_all {n : Nat} {xs : List Int} (h : xs.length = n) : splice ((List.replicate n (0 : Nat)).map fun x : Nat => Value.int .i64 x) 0 (xs.map fun x : Int => Value.int .i64 x) = xs.map fun x : Int => Value.int .i64 x := by
  unfold splice
  rw [List.take_zero, List.nil_append, List.drop_of_length_le (by simp [h]), List.append_nil]
def RetG (w : World) (g m : Nat) (xs : List Int) (e : Ending) (w' : World) : Prop := e = .returned (.slice (some ⟨g, 0, none⟩) m m) ∧ ZBlk w' g xs ∧ Below w.heap.size w w'
set_option maxHeartbeats 1600000 in
theorem withP_any (ao : Option Addr) (c m : Nat) (us : List Nat) (i : Nat) (w : World) (h : IZ w ao (nz us)) (hl : us.length = m) (hm : m ≤ 8) (hi : i < m) (hb : fnN us i ≤ 100000) :
    Calls Try.prog 22 #[.slice ao m c, .int .i64 (i : Nat)] w (RetG w w.heap.size m (nz (addU us i))) := by
  obtain ⟨g0, o0, rfl, _⟩ := h i _ (nz_fn (by omega))
  have hH := Lib.hid h
  have hlH := Lib.hid hl
  have hnl : Hid ((nz us).length = m) := by show _ = _; unfold nz; rw [List.length_map]; exact hl
  obtain ⟨x, hx⟩ : ∃ x, fnN us i = x := ⟨_, rfl⟩
  rw [hx] at hb
  have hsrc : Hid (∀ w2, Below w.heap.size w w2 → ∀ (j : Nat) (u : Value), ((nz us).map fun x : Int => Value.int .i64 x)[j]? = some u → w2.cell? ((⟨g0, o0, none⟩ : Addr).add j) = some u) := fun w2 hb2 j u hj => by
    rw [List.getElem?_map] at hj
    rcases e : (nz us)[j]? with _ | y
    · rw [e] at hj; cases hj
    · rw [e] at hj
      injection hj with hj
      subst hj
      obtain ⟨b, o, e1, e2⟩ := (hH.out.below hb2) j y e
      injection e1 with e1
      injection e1 with e1 e3
      subst e1 e3
      rw [Addr.add_lit]
      exact e2
  have hone : ∀ u ∈ ((nz us).map fun x : Int => Value.int .i64 x), u.oneCell' = true := fun u hu => by
    obtain ⟨y, _, rfl⟩ := List.mem_map.1 hu
    rfl
  have honeH := Lib.hid hone
  have hcell : Hid (∀ w2 : World, ZBlk w2 w.heap.size (nz us) → w2.cell? ⟨w.heap.size, i, none⟩ = some (.int .i64 (x : Nat))) := fun w2 hB => by
    rw [Blk.cell hB, List.getElem?_map, nz_fn (by rw [hlH.out]; exact hi), hx]; rfl
  have hset : Hid (∀ w2 : World, ZBlk w2 w.heap.size (nz us) → ZBlk (w2.setCell ⟨w.heap.size, i, none⟩ (.int .i64 ((x : Int) + 1))) w.heap.size (nz (addU us i))) := fun w2 hB => by
    have := ZBlk.set hB i ((x : Int) + 1)
    rwa [addU_nz, hx]
  have hw : IntKind.i64.wrap ((x : Int) + 1) = (x : Int) + 1 := by rw [IntKind.wrap_i64]; omega
  have hk0 : (0 : Int) ≤ (i : Int) := by omega
  have hkI : (i : Int) < (m : Int) := by omega
  have hi8 := Lib.hid hi
  clear h hl hone hx hi
  go_enter Try.func22, Try.ntmps22
  go_wp2_with (first
    | (at_make; go_loud (refine wpList_make_zero _ rfl (.tmp 7) _ rfl 3 .i64 8 Try.underlying24 info_intJ (by omega) .i64 (m : Nat) m (by rfl) rfl (by omega) ?_); intro w2 hN2 hb2; have hR2 := Lib.hid hN2; have hb2H := Lib.hid hb2; clear hN2 hb2)
    | ((refine wpList_copy_splice rfl (.tmp 9) (.tmp 10) 24 24 rfl 3 Try.underlying24 info_size (some ⟨w.heap.size, 0, none⟩) (some ⟨g0, o0, none⟩) m m m c (by rfl) (by rfl) w.heap.size 0 _ 3 hR2.out ((nz us).map fun x : Int => Value.int .i64 x) (by rw [List.length_map, hnl.out]; exact (Nat.min_self m).symm) (fun _ => ⟨rfl, _, rfl, hsrc.out _ hb2H.out⟩) (by rw [List.length_map, hnl.out]; simp) honeH.out w.heap.size w hb2H.out (Nat.le_refl _) ?_); intro w3 hR3 hb3; have hR3' := Lib.hid (show ZBlk w3 w.heap.size (nz us) by have := hR3.out; rwa [splice_all hnl.out] at this); have hb3H := Lib.hid hb3; have c3 := hcell.out _ hR3'.out; have f3 := Blk.frozen hR3'.out i; clear hR3 hb3 hR2 hb2H))
  go_ret
  exact ⟨rfl, hset.out _ hR3'.out, hb3H.out.setCell (Nat.le_refl _) _⟩
end Go.Proofs.Ytkecdjdggkpdpaa

/- Walk of water's worth. -/
namespace Go.Proofs.Ytkecdjdggkpdpaa
open Go Go.RowKit Go.Proofs

/-- A list of lists as a function. -/
def fnG (gs : List (List Nat)) (k : Nat) : List Nat := gs[k]?.getD []
theorem fnG_get {gs : List (List Nat)} {k : Nat} (h : k < gs.length) : gs[k]? = some (fnG gs k) := by unfold fnG; rw [List.getElem?_eq_getElem h]; rfl
/-- Gains that are allowed. -/
def okG (gs : List (List Nat)) : Prop := ∀ l ∈ gs, l.length ≤ 20 ∧ ∀ x ∈ l, x ≤ 1000
theorem okG.at {gs : List (List Nat)} (h : okG gs) (k : Nat) : (fnG gs k).length ≤ 20 ∧ ∀ x ∈ fnG gs k, x ≤ 1000 := by
  unfold fnG
  rcases e : gs[k]? with _ | l
  · exact ⟨by simp, fun x hx => by simp at hx⟩
  · exact h l (List.mem_of_getElem? e)
theorem sum_takeW {l : List Nat} (h : l.length ≤ 20 ∧ ∀ x ∈ l, x ≤ 1000) (v : Nat) : (l.take v).sum ≤ 20000 := by
  have key : ∀ (m : List Nat), (∀ x ∈ m, x ≤ 1000) → m.sum ≤ 1000 * m.length := fun m hm => by
    induction m with
    | nil => simp
    | cons a m ih =>
      have h1 := hm a (by simp)
      have h2 := ih fun x hx => hm x (by simp [hx])
      rw [List.sum_cons, List.length_cons]; omega
  have h1 := key (l.take v) fun x hx => h.2 x (List.mem_of_mem_take hx)
  have h2 : (l.take v).length ≤ 20 := by rw [List.length_take]; omega
  omega
theorem worth_bound {gs : List (List Nat)} (h : okG gs) (u : Nat → Nat) (k : Nat) : worthW k (fnG gs) u ≤ k * 20000 := pre_bound (fun i => sum_takeW (h.at i) (u i)) k
theorem IMx.rowN {w : World} {ag : Option Addr} {gs : List (List Nat)} (h : IMx w ag (gs.map nz)) {k : Nat} (hk : k < gs.length) : ∃ b o a c, ag = some ⟨b, o, none⟩ ∧ w.cell? ⟨b, o + k, none⟩ = some (.slice a (fnG gs k).length c) ∧ (fnG gs k).length ≤ c ∧ IZ w a (nz (fnG gs k)) := by
  obtain ⟨b, o, a, c, h1, h2, h3, h4⟩ := h.row (i := k) (xs := nz (fnG gs k)) (by rw [List.getElem?_map, fnG_get hk]; rfl)
  have e : (nz (fnG gs k)).length = (fnG gs k).length := by unfold nz; rw [List.length_map]
  rw [e] at h2 h3
  exact ⟨b, o, a, c, h1, h2, h3, h4⟩
set_option maxHeartbeats 3200000 in
theorem worthP_any (af ag au : Option Addr) (cf cg cu m : Nat) (gs : List (List Nat)) (us : List Nat) (w : World) (hg : IMx w ag (gs.map nz)) (hu : IZ w au (nz us)) (hgl : gs.length = m) (hul : us.length = m) (hm : m ≤ 8) (hok : okG gs) (z : Int) (hz : (worthW m (fnG gs) (fnN us) : Int) = z) :
    Calls Try.prog 11 #[.agg #[.slice af m cf, .slice ag m cg], .slice au m cu] w (RetI w z) := by
  have hzH := Lib.hid hz
  have hgH := Lib.hid hg
  have huH := Lib.hid hu
  have hglH := Lib.hid hgl
  have hulH := Lib.hid hul
  have hokH := Lib.hid hok
  clear hz hg hu hgl hul hok
  go_enter Try.func11, Try.ntmps11
  go_wp2_with (fail)
  go_loopg [5, 12] m (fun gk sv iv wr => ∃ k : Nat, iv = .int .i64 (k : Nat) ∧ sv = .int .i64 (worthW k (fnG gs) (fnN us) : Nat) ∧ k + gk = m ∧ Below w.heap.size w wr ∧ wr.cell? ⟨w.heap.size, 0, none⟩ = some (.slice af m cf) ∧ wr.cell? ⟨w.heap.size, 1, none⟩ = some (.slice ag m cg))
  case atStart => exact ⟨0, rfl, rfl, by omega, below_al (Below.refl _ _) _, al_new rfl, al_new rfl⟩
  case round =>
    obtain ⟨k, rfl, rfl, hk, hbl, c0, c1⟩ := hrel
    have hblH := Lib.hid hbl
    by_cases hkm : k < m
    · obtain ⟨g2, rfl⟩ : ∃ g2, gk = g2 + 1 := ⟨gk - 1, by omega⟩
      obtain ⟨b1, o1, ar, cr, rfl, c2, hrc, hrI⟩ := (hgH.out.below hbl).rowN (show k < gs.length by rw [hglH.out]; exact hkm)
      obtain ⟨b2, o2, rfl, c3⟩ := (huH.out.below hbl) k _ (nz_fn (by rw [hulH.out]; exact hkm))
      obtain ⟨x, hx⟩ : ∃ x, fnN us k = x := ⟨_, rfl⟩
      obtain ⟨L, hL⟩ : ∃ L, fnG gs k = L := ⟨_, rfl⟩
      obtain ⟨n, hn⟩ : ∃ n, L.length = n := ⟨_, rfl⟩
      rw [hL, hn] at c2 hrc
      rw [hL] at hrI
      rw [hx] at c3
      have hok := hokH.out.at k
      rw [hL] at hok
      have hsb : ∀ v, (L.take v).sum ≤ 20000 := sum_takeW hok
      have hn20 : n ≤ 20 := by rw [← hn]; exact hok.1
      have hwb := worth_bound hokH.out (fnN us) k
      have hk0 : (0 : Int) ≤ (k : Int) := by omega
      have hkI : (k : Int) < (m : Int) := by omega
      have hsuc : worthW (k + 1) (fnG gs) (fnN us) = worthW k (fnG gs) (fnN us) + (L.take x).sum := by rw [← hL, ← hx]; rfl
      have hsucH := Lib.hid hsuc
      obtain ⟨B, hB⟩ : ∃ B, worthW k (fnG gs) (fnN us) = B := ⟨_, rfl⟩
      rw [hB] at hwb ⊢
      have hBH := Lib.hid hB
      have hsbH := Lib.hid hsb
      have hnH := Lib.hid hn
      have hrIH := Lib.hid hrI
      have hLH := Lib.hid hL
      clear hsuc hB hsb hn hrI hL hx hok hbl
      have hB8 : B ≤ 160000 := by omega
      clear hwb
      obtain ⟨v, hv⟩ : ∃ v, min x n = v := ⟨_, rfl⟩
      have hv1 : v ≤ n := by omega
      have hvI : (v : Int) ≤ (n : Int) := by omega
      have hv0 : (0 : Int) ≤ (v : Int) := by omega
      have hmin : min (x : Int) (n : Int) = (v : Int) := by omega
      have htk : Hid (L.take x = L.take v) := by
        show _ = _
        rw [← hv]
        by_cases h : x ≤ n
        · rw [Nat.min_eq_left h]
        · rw [Nat.min_eq_right (by omega), List.take_of_length_le (by rw [hnH.out]; omega), List.take_of_length_le (by rw [hnH.out]; exact Nat.le_refl _)]
      clear hv
      go_wp2_with (fail)
      go_quiet (fail)
      obtain ⟨V, hV⟩ : ∃ V, wr.drewN nq = V := ⟨_, rfl⟩
      rw [hV]
      have hblV : Hid (Below w.heap.size w V) := by show _; rw [← hV]; exact bdn hblH.out
      have c0V : V.cell? ⟨w.heap.size, 0, none⟩ = some (.slice af m cf) := by rw [← hV]; exact c0
      have c1V : V.cell? ⟨w.heap.size, 1, none⟩ = some (.slice (some ⟨b1, o1, none⟩) m cg) := by rw [← hV]; exact c1
      have hrV : Hid (IZ V ar (nz L)) := by show _; rw [← hV]; exact hrIH.out.below (bdn (Below.refl _ _))
      have c0H := Lib.hid c0V
      have c1H := Lib.hid c1V
      clear c0 c1 c0V c1V hrIH hblH hV c2 c3
      go_wp2_with (fail)
      go_loopg [5, 32] v (fun gj sv jv wx => ∃ j : Nat, sv = .int .i64 (B + (L.take j).sum : Nat) ∧ jv = .int .i64 (j : Nat) ∧ j + gj = v ∧ wx = V)
      case atStart => exact ⟨0, by simp, rfl, by omega, rfl⟩
      case round =>
        obtain ⟨j, rfl, rfl, hj, rfl⟩ := hrel
        have hs1 := hsbH.out j
        by_cases hjv : j < v
        · obtain ⟨g3, rfl⟩ : ∃ g3, gk = g3 + 1 := ⟨gk - 1, by omega⟩
          obtain ⟨y, hy⟩ : ∃ y, L[j]? = some y := ⟨_, List.getElem?_eq_getElem (by rw [hnH.out]; omega)⟩
          obtain ⟨b3, o3, rfl, c4⟩ := hrV.out j _ (nz_get hy)
          have hst : Hid ((L.take (j + 1)).sum = (L.take j).sum + y) := by show _ = _; rw [List.take_add_one, hy, List.sum_append]; simp
          have hs2 := hsbH.out (j + 1)
          rw [hst.out] at hs2
          obtain ⟨S, hS⟩ : ∃ S, (L.take j).sum = S := ⟨_, rfl⟩
          have hSH := Lib.hid hS
          rw [hS] at hs1 hs2 ⊢
          have hj0 : (0 : Int) ≤ (j : Int) := by omega
          have hjI : (j : Int) < (v : Int) := by omega
          have hw : IntKind.i64.wrap (((B + S : Nat) : Int) + (y : Int)) = ((B + S + y : Nat) : Int) := by rw [IntKind.wrap_i64]; omega
          clear hS hy
          go_wp2_with (fail)
          clear hw
          go_roundg g3
          case measure => omega
          case rel => exact ⟨j + 1, by rw [hst.out, hSH.out]; congr 1; omega, by go_num, by omega, rfl⟩
        · obtain rfl : j = v := by omega
          have hjI : ¬ (j : Int) < (j : Int) := by omega
          go_wp2_with (fail)
          go_roundg g2
          case measure => omega
          case rel => exact ⟨k + 1, by go_num, by rw [hsucH.out, hBH.out, htk.out]; congr 1, by omega, hblV.out, c0H.out, c1H.out⟩
    · obtain rfl : k = m := by omega
      go_wp2_with (fail)
      go_ret
      exact ⟨ret_intJ hzH.out, hblH.out⟩
end Go.Proofs.Ytkecdjdggkpdpaa
