/- Ju Jv Jw Jx Jy Jz -/
import Derived.Test.YtkecdjdggkpdpaaQPc
import Derived.Test.YtkecdjdggkpdpaaQShelf
import Derived.Laws.CopyOwn
import Derived.StillTailTactics
import Derived.Laws.MakeOwn
import Derived.Laws.EntriesVeiled
import Derived.Laws.NewBlocks
import Derived.Test.YtkecdjdggkpdpaaQPd
import Derived.Shelf.Abstract
import Derived.Deep.LoopGhost
import Derived.WalkMore
set_option linter.unusedVariables false
/- Functions that say which pairs are allowed; the search from a row (match's closure). -/
namespace Go.Proofs.Ytkecdjdggkpdpaa
open Go Go.RowKit Go.Proofs

/-- The function value says which pairs are allowed, in every world behind this one. -/
def AllowAt (g : Nat) (lb : Array Value) (A : Nat → Nat → Bool) (n : Nat) (w : World) : Prop :=
  ∀ (W : World) (i j : Nat) (b : Bool), A i j = b → Below w.heap.size w W → i < n → j < n → Calls Try.prog g (#[.int .i64 (i : Nat), .int .i64 (j : Nat)] ++ lb) W (fun e w' => e = .returned (.bool b) ∧ ∃ q, w' = W.drewN q)
theorem AllowAt.later {g : Nat} {lb : Array Value} {A : Nat → Nat → Bool} {n : Nat} {w W : World} (h : AllowAt g lb A n w) (hb : Below w.heap.size w W) : AllowAt g lb A n W :=
  fun W' i j b hA hb' hi hj => h W' i j b hA (hb.trans (hb'.mono hb.size)) hi hj

abbrev ptr (b : Nat) : Value := .pointer (some ⟨b, 0, none⟩)
/-- What the search finds in memory: its variables, the columns' rows, the columns seen. -/
structure KM (w0 w : World) (n g : Nat) (lb : Array Value) (bn ba bs br bt gs gr : Nat) (r : List Int) (s : List Bool) : Prop where
  below : Below w0.heap.size w0 w
  cn : w.cell? ⟨bn, 0, none⟩ = some (.int .i64 (n : Nat))
  ca : w.cell? ⟨ba, 0, none⟩ = some (.func (.func g) #[] lb)
  cs : w.cell? ⟨bs, 0, none⟩ = some (.slice (some ⟨gs, 0, none⟩) n n)
  cr : w.cell? ⟨br, 0, none⟩ = some (.slice (some ⟨gr, 0, none⟩) n n)
  ct : w.cell? ⟨bt, 0, none⟩ = some (.func (.func 36) #[] #[ptr bn, ptr ba, ptr bs, ptr br, ptr bt])
  S : BBlk w gs s
  R : ZBlk w gr r
  ls : s.length = n
  lr : r.length = n
  nes : gs ≠ bn ∧ gs ≠ ba ∧ gs ≠ bs ∧ gs ≠ br ∧ gs ≠ bt ∧ gs ≠ gr
  ner : gr ≠ bn ∧ gr ≠ ba ∧ gr ≠ bs ∧ gr ≠ br ∧ gr ≠ bt
  gsb : w0.heap.size ≤ gs
  grb : w0.heap.size ≤ gr
  fs : w.frozen? ⟨bs, 0, none⟩ = false
theorem cell_far {w : World} {g j b o : Nat} {v : Value} (h : g ≠ b) : (w.setCell ⟨g, j, none⟩ v).cell? ⟨b, o, none⟩ = w.cell? ⟨b, o, none⟩ :=
  World.cell?_setCell_other _ _ _ _ (fun e => h (by injection e))
theorem KM.drew {w0 w : World} {n g : Nat} {lb : Array Value} {bn ba bs br bt gs gr : Nat} {r : List Int} {s : List Bool} (h : KM w0 w n g lb bn ba bs br bt gs gr r s) (q : Nat) : KM w0 (w.drewN q) n g lb bn ba bs br bt gs gr r s :=
  ⟨bdn h.below, h.cn, h.ca, h.cs, h.cr, h.ct, h.S, h.R, h.ls, h.lr, h.nes, h.ner, h.gsb, h.grb, h.fs⟩
theorem KM.drew1 {w0 w : World} {n g : Nat} {lb : Array Value} {bn ba bs br bt gs gr : Nat} {r : List Int} {s : List Bool} (h : KM w0 w n g lb bn ba bs br bt gs gr r s) : KM w0 w.drew n g lb bn ba bs br bt gs gr r s :=
  ⟨h.below.drew, h.cn, h.ca, h.cs, h.cr, h.ct, h.S, h.R, h.ls, h.lr, h.nes, h.ner, h.gsb, h.grb, by simpa using h.fs⟩
theorem KM.setS {w0 w : World} {n g : Nat} {lb : Array Value} {bn ba bs br bt gs gr : Nat} {r : List Int} {s : List Bool} (h : KM w0 w n g lb bn ba bs br bt gs gr r s) (j : Nat) (x : Bool) :
    KM w0 (w.setCell ⟨gs, j, none⟩ (.bool x)) n g lb bn ba bs br bt gs gr r (s.set j x) := by
  obtain ⟨n1, n2, n3, n4, n5, n6⟩ := h.nes
  exact ⟨h.below.setCell h.gsb _, by rw [cell_far n1]; exact h.cn, by rw [cell_far n2]; exact h.ca, by rw [cell_far n3]; exact h.cs, by rw [cell_far n4]; exact h.cr, by rw [cell_far n5]; exact h.ct, h.S.set j x, Blk.far h.R (Ne.symm n6) _, by rw [List.length_set]; exact h.ls, h.lr, h.nes, h.ner, h.gsb, h.grb, by rw [World.frozen?_setCell]; exact h.fs⟩
theorem KM.setR {w0 w : World} {n g : Nat} {lb : Array Value} {bn ba bs br bt gs gr : Nat} {r : List Int} {s : List Bool} (h : KM w0 w n g lb bn ba bs br bt gs gr r s) (j : Nat) (x : Int) :
    KM w0 (w.setCell ⟨gr, j, none⟩ (.int .i64 x)) n g lb bn ba bs br bt gs gr (r.set j x) s := by
  obtain ⟨n1, n2, n3, n4, n5⟩ := h.ner
  exact ⟨h.below.setCell h.grb _, by rw [cell_far n1]; exact h.cn, by rw [cell_far n2]; exact h.ca, by rw [cell_far n3]; exact h.cs, by rw [cell_far n4]; exact h.cr, by rw [cell_far n5]; exact h.ct, Blk.far h.S h.nes.2.2.2.2.2 _, h.R.set j x, h.ls, by rw [List.length_set]; exact h.lr, h.nes, h.ner, h.gsb, h.grb, by rw [World.frozen?_setCell]; exact h.fs⟩

theorem Try.cntF {A : Nat → Nat → Bool} {n j i : Nat} {r : List Int} {s : List Bool} {b : Bool} {r' : List Int} {s' : List Bool} (h : Try A n j i r s b r' s') : s'.count false ≤ s.count false := by
  have hset : ∀ {s : List Bool} {j : Nat}, s[j]? = some false → (s.set j true).count false ≤ s.count false := fun {s j} hj => by
    have hjl := (List.getElem?_eq_some_iff.1 hj).1
    rw [List.count_set hjl]
    simp
  induction h with
  | stop => exact Nat.le_refl _
  | skip _ _ _ ih => exact ih
  | free _ _ hs _ => exact hset hs
  | yes _ _ hs _ _ ih => exact Nat.le_trans ih (hset hs)
  | no _ _ hs _ _ _ ih ih2 => exact Nat.le_trans ih2 (Nat.le_trans ih (hset hs))
/-- The rows of the columns are rows. -/
def RowsOk (n : Nat) (r : List Int) : Prop := ∀ v ∈ r, v < 0 ∨ ∃ k : Nat, v = (k : Int) ∧ k < n
def TryPost (A : Nat → Nat → Bool) (w0 : World) (n g : Nat) (lb : Array Value) (bn ba bs br bt gs gr i : Nat) (r : List Int) (s : List Bool) (e : Ending) (w' : World) : Prop :=
  ∃ b r' s', e = .returned (.bool b) ∧ Try A n 0 i r s b r' s' ∧ KM w0 w' n g lb bn ba bs br bt gs gr r' s'
/-- What is left to be searched. -/
def TryI (A : Nat → Nat → Bool) (n i j : Nat) (r : List Int) (s : List Bool) (rj : List Int) (sj : List Bool) : Prop := ∀ b r' s', Try A n j i rj sj b r' s' → Try A n 0 i r s b r' s'
set_option maxRecDepth 100000 in
set_option maxHeartbeats 6400000 in
theorem try_any (w0 : World) (A : Nat → Nat → Bool) (n g : Nat) (lb : Array Value) (bn ba bs br bt gs gr : Nat) (hn : n ≤ 1000000) (hA : AllowAt g lb A n w0) (eg : ∀ args w, (callFunc g args).run Try.prog w = .ok (.enter g args) w) :
    ∀ (c i : Nat) (r : List Int) (s : List Bool) (w : World), i < n → s.count false ≤ c → RowsOk n r → KM w0 w n g lb bn ba bs br bt gs gr r s →
      Calls Try.prog 36 #[.int .i64 (i : Nat), ptr bn, ptr ba, ptr bs, ptr br, ptr bt] w (TryPost A w0 n g lb bn ba bs br bt gs gr i r s) := by
  intro c
  induction c using Nat.strongRecOn with
  | _ c ih =>
    intro i r s w hi hc hrok hK
    have hAH := Lib.hid hA
    have hKH := Lib.hid hK
    have ihH := Lib.hid ih
    have hrH := Lib.hid hrok
    have kn := hK.cn
    clear hA hK ih hrok
    go_enter Try.func36, Try.ntmps36
    go_wp2_with (fail)
    go_loopw [10] (fun jv wr => ∃ (j : Nat) (rj : List Int) (sj : List Bool), jv = .int .i64 (j : Nat) ∧ j ≤ n ∧ TryI A n i j r s rj sj ∧ sj.count false ≤ c ∧ RowsOk n rj ∧ KM w0 wr n g lb bn ba bs br bt gs gr rj sj) (fun jv _ => n - (intOf jv).toNat)
    case atStart => exact ⟨0, r, s, rfl, by omega, fun _ _ _ h => h, hc, hrH.out, hKH.out⟩
    case round =>
      clear kn
      obtain ⟨j, rj, sj, rfl, hj, hT, hcj, hrj, hKj⟩ := hrel
      have hTH := Lib.hid hT
      have hKjH := Lib.hid hKj
      have hrjH := Lib.hid hrj
      clear hT hrj
      by_cases hjn : j < n
      · have k1 := hKj.cn
        have k2 := hKj.ca
        have k3 := hKj.cs
        have hjI : (j : Int) < (n : Int) := by omega
        have hj0 : (0 : Int) ≤ (j : Int) := by omega
        have hblH := Lib.hid hKj.below
        have hjs : j < sj.length := by rw [hKj.ls]; exact hjn
        rcases hAij : A i j
        · have hAijH := Lib.hid hAij
          clear hKj hAij
          have cS : Calls Try.prog g (#[.int .i64 (i : Nat), .int .i64 (j : Nat)] ++ lb) wr _ := hAH.out wr i j false hAijH.out hblH.out hi hjn
          go_wp2_with (fail)
          refine cS.mono ?_
          rintro e w1 ⟨rfl, q, rfl⟩
          clear cS
          go_wp2_with (fail)
          go_roundw
          case rel => exact ⟨j + 1, rj, sj, by go_num, by omega, fun b r' s' h => hTH.out b r' s' (.skip hjn (.inl hAijH.out) h), hcj, hrjH.out, hKjH.out.drew _⟩
          case measure => simp [intOf]; omega
        · have hAijH := Lib.hid hAij
          rcases bool_or hjs with hsj | hsj
          · have k4 := hKj.S.at hsj
            have hsjH := Lib.hid hsj
            clear hKj hAij hsj
            have cS : Calls Try.prog g (#[.int .i64 (i : Nat), .int .i64 (j : Nat)] ++ lb) wr _ := hAH.out wr i j true hAijH.out hblH.out hi hjn
            go_wp2_with (fail)
            refine cS.mono ?_
            rintro e w1 ⟨rfl, q, rfl⟩
            clear cS
            go_wp2_with (fail)
            go_roundw
            case rel => exact ⟨j + 1, rj, sj, by go_num, by omega, fun b r' s' h => hTH.out b r' s' (.skip hjn (.inr hsjH.out) h), hcj, hrjH.out, hKjH.out.drew _⟩
            case measure => simp [intOf]; omega
          · have k4 := hKj.S.at hsj
            have k5 := Blk.frozen hKj.S j
            have hsjH := Lib.hid hsj
            have hcs : (sj.set j true).count false + 1 ≤ c := by
              have hg : sj[j] = false := by rw [List.getElem?_eq_getElem hjs] at hsj; injection hsj
              have := List.count_pos_iff.2 (List.mem_of_getElem? hsj)
              rw [List.count_set hjs, hg]; simp; omega
            clear hKj hAij hsj
            have cS : Calls Try.prog g (#[.int .i64 (i : Nat), .int .i64 (j : Nat)] ++ lb) wr _ := hAH.out wr i j true hAijH.out hblH.out hi hjn
            go_wp2_with (fail)
            refine cS.mono ?_
            rintro e w1 ⟨rfl, q, rfl⟩
            clear cS
            go_upto_region 5 with (fail)
            go_cut [] from 24 to 26 (fun wx => KM w0 wx n g lb bn ba bs br bt gs gr rj (sj.set j true))
            case first =>
              go_wp2_with (fail)
              go_meet
              first | exact (hKjH.out.setS j true).drew _ | exact (hKjH.out.drew _).setS j true
            case rest =>
            have hKc := Lib.hid hcut
            have c1 := hcut.cr
            have c2 := hcut.R.at (i := j) (by rw [hcut.lr]; exact hjn)
            have c3 := hcut.ct
            have c4 := Blk.frozen hcut.R j
            have hlr := hcut.lr
            have hjr : j < rj.length := by rw [hlr]; exact hjn
            have hlrH := Lib.hid hlr
            obtain ⟨x, hx⟩ : ∃ x, at0 rj j = x := ⟨_, rfl⟩
            rw [hx] at c2
            have hxH := Lib.hid hx
            have hxr := hrjH.out x (by rw [← hx]; exact List.mem_of_getElem? (at0_get hjr))
            clear hcut k1 k2 k3 k4 k5 hlr hx
            rcases hxr with hneg | ⟨k, rfl, hkn⟩
            · have hd : decide (x < 0) = true := by simpa using hneg
              go_wp2_with (fail)
              go_quiet (fail)
              go_wp2_with (fail)
              go_ret
              refine ⟨true, _, _, rfl, hTH.out _ _ _ (.free hjn hAijH.out hsjH.out (by rw [hxH.out]; exact hneg)), ?_⟩
              first | exact (hKc.out.drew _).setR j _ | exact (hKc.out.setR j _).drew _
            · have hd : decide ((k : Int) < 0) = false := by simp
              go_wp2_with (fail)
              go_region_held3 (fun w' => w'.cell? ⟨br, 0, none⟩ = some (.slice (some ⟨gr, 0, none⟩) n n) ∧ w'.cell? ⟨gr, j, none⟩ = some (.int .i64 (k : Nat)) ∧ w'.cell? ⟨bt, 0, none⟩ = some (.func (.func 36) #[] #[ptr bn, ptr ba, ptr bs, ptr br, ptr bt]))
                (first | (exact ⟨c1, c2, c3⟩) | (exact ⟨d1, d2, d3⟩))
                ((go_at_call 36; go_loud (refine (ihH.out (c - 1) (by omega) k rj (sj.set j true) _ hkn (by omega) hrjH.out hKc.out.drew1).mono ?_); rintro e w2 ⟨b, r2, s2, rfl, hTry, hK2⟩; have d1 := hK2.cr; have d3 := hK2.ct; have hgood := hTry.good hlrH.out (by rw [List.length_set]; exact hKjH.out.ls); have d2 := hK2.R.at (i := j) (by rw [hK2.lr]; exact hjn); rw [show at0 r2 j = (k : Int) by rw [← hxH.out]; unfold at0; rw [hgood.far j (set_self hsjH.out)]] at d2; have d4 := Blk.frozen hK2.R j; have hK2H := Lib.hid hK2; have hgoodH := Lib.hid hgood; have hTryH := Lib.hid hTry; clear hK2 hgood hTry))
              clear c1 c2 c3 c4
              cases b with
              | true =>
                go_wp2_with (fail)
                go_ret
                refine ⟨true, _, _, rfl, hTH.out _ _ _ (.yes hjn hAijH.out hsjH.out hxH.out hTryH.out), ?_⟩
                first | exact hK2H.out.setR j _ | exact (hK2H.out.setR j _).drew _
              | false =>
                have hr2 := hgoodH.out.same rfl
                subst hr2
                have hc2 := hTryH.out.cntF
                go_wp2_with (fail)
                go_roundw
                case rel => exact ⟨j + 1, r2, s2, by go_num, by omega, fun b r' s' h => hTH.out b r' s' (.no hjn hAijH.out hsjH.out hxH.out hTryH.out h), by omega, hrjH.out, hK2H.out⟩
                case measure => simp [intOf]; omega
      · have hje : j = n := by omega
        subst hje
        have k1 := hKj.cn
        clear hKj
        go_wp2_with (fail)
        go_ret
        exact ⟨false, _, _, rfl, hTH.out _ _ _ .stop, hKjH.out⟩
end Go.Proofs.Ytkecdjdggkpdpaa

/- Walks of slices.Repeat, match, whole. -/
namespace Go.Proofs.Ytkecdjdggkpdpaa
open Go Go.RowKit Go.Proofs

theorem mul_one (n : Nat) (w : World) (hn : n ≤ 1000) : Calls Try.prog 30 #[.int .u64 1, .int .u64 (n : Nat)] w (fun e w' => e = .returned (.tuple #[.int .u64 0, .int .u64 (n : Nat)]) ∧ w = w') := by
  have h := Try.bits_Mul 1 n (by omega) (by omega) w
  have e1 : 1 * n / 18446744073709551616 = 0 := by omega
  have e2 : 1 * n % 18446744073709551616 = n := by omega
  rw [e1, e2] at h
  exact h.mono fun e w' ⟨h1, h2⟩ => ⟨h1, h2.symm⟩
def RetRep (w : World) (v : Int) (n : Nat) (e : Ending) (w' : World) : Prop := ∃ g, e = .returned (.slice (some ⟨g, 0, none⟩) n n) ∧ ZBlk w' g (List.replicate n v) ∧ Below w.heap.size w w' ∧ w.heap.size ≤ g ∧ g < w'.heap.size
theorem rep_splice (v : Int) {n m d : Nat} (h : m + d ≤ n) : splice ((List.replicate m v ++ List.replicate (n - m) 0).map fun x : Int => Value.int .i64 x) m ((List.replicate d v).map fun x : Int => Value.int .i64 x) = (List.replicate (m + d) v ++ List.replicate (n - (m + d)) 0).map fun x : Int => Value.int .i64 x := by
  unfold splice
  simp only [List.map_append, List.map_replicate, List.length_replicate]
  rw [List.take_append_of_le_length (by simp), List.take_of_length_le (by simp), List.drop_append, List.drop_of_length_le (by simp), List.nil_append, List.length_replicate, List.drop_replicate, ← List.append_assoc, List.replicate_append_replicate]
  congr 2
  omega
/-- The block while it is filled. -/
def RepB (w : World) (g : Nat) (v : Int) (n m : Nat) : Prop := w.heap[g]? = some (.cells ((List.replicate m v ++ List.replicate (n - m) 0).map fun x : Int => Value.int .i64 x).toArray 3 (0, 0))
theorem rep_len (v : Int) {n m : Nat} (h : m ≤ n) : ((List.replicate m v ++ List.replicate (n - m) 0).map fun x : Int => Value.int .i64 x).length = n := by simp; omega
theorem repb_zero (v : Int) {w : World} {g n : Nat} (h : Nblk .i64 w g 3 (List.replicate n 0)) : RepB w g v n 0 := by
  unfold RepB
  unfold Nblk Blk at h
  rw [h]
  simp
theorem rep_splice1 (v : Int) {n : Nat} (h : 1 ≤ n) : splice ((List.replicate 0 v ++ List.replicate (n - 0) 0).map fun x : Int => Value.int .i64 x) 0 [Value.int .i64 v] = (List.replicate 1 v ++ List.replicate (n - 1) 0).map fun x : Int => Value.int .i64 x := by
  have := rep_splice v (n := n) (m := 0) (d := 1) (by omega)
  rw [Nat.zero_add] at this
  exact this
theorem one_min {n : Nat} (h : 1 ≤ n) {v : Value} : [v].length = Nat.min 1 n := by
  show 1 = min 1 n; omega
theorem one_cell {v : Int} : ∀ u ∈ [Value.int .i64 v], u.oneCell' = true := fun u hu => by
  rw [List.mem_singleton] at hu; subst hu; rfl
theorem rep_one {v : Int} {d : Nat} : ∀ u ∈ ((List.replicate d v).map fun x : Int => Value.int .i64 x), u.oneCell' = true := fun u hu => by
  obtain ⟨y, _, rfl⟩ := List.mem_map.1 hu
  rfl
theorem info_size : (Try.prog.info? 3).map (·.size) = some 1 := by kernel_rfl
theorem repb_cell {w : World} {g : Nat} {v : Int} {n m : Nat} (h : RepB w g v n m) {j : Nat} (hj : j < m) : w.cell? ⟨g, j, none⟩ = some (.int .i64 v) := by
  rw [cell_of_row w g j _ 3 (0, 0) h]
  simp
  rw [List.getElem?_append_left (by simpa using hj), List.getElem?_replicate, if_pos hj]
set_option maxRecDepth 100000 in
set_option maxHeartbeats 3200000 in
theorem repeat_any (v : Int) (n g0 : Nat) (w : World) (hn : n ≤ 1000) (hn1 : 1 ≤ n) (hc : w.cell? ⟨g0, 0, none⟩ = some (.int .i64 v)) :
    Calls Try.prog 25 #[.slice (some ⟨g0, 0, none⟩) 1 1, .int .i64 (n : Nat)] w (RetRep w v n) := by
  have hcH := Lib.hid hc
  have h0 : decide ((n : Int) < 0) = false := by simp
  clear hc
  go_enter Try.func25, Try.ntmps25
  have hsrc : Hid (∀ w2, Below w.heap.size w w2 → ∀ (j : Nat) (u : Value), [Value.int .i64 v][j]? = some u → w2.cell? ((⟨g0, 0, none⟩ : Addr).add j) = some u) := fun w2 hb j u hj => by
    rcases j with _ | j
    · simp at hj; subst hj
      rw [Addr.add_lit]
      exact Below.cellAt hb (Nat.le_refl _) hcH.out
    · simp at hj
  go_wp2_with (first
    | (go_at_call 30; (with_reducible refine (mul_one n _ hn).mono ?_); rintro e w1 ⟨rfl, rfl⟩)
    | (at_make; go_loud (refine wpList_make_zero _ rfl (.tmp 29) _ rfl 3 .i64 8 Try.underlying24 info_intJ (by omega) .i64 (n : Nat) n (by rfl) rfl (by omega) ?_); intro w2 hN2 hb2; have hR2 := Lib.hid (repb_zero v hN2); have hb2H := Lib.hid hb2; clear hN2 hb2)
    | ((refine wpList_copy_splice rfl (.tmp 31) (.tmp 32) 24 24 rfl 3 Try.underlying24 info_size (some ⟨w.heap.size, 0, none⟩) (some ⟨g0, 0, none⟩) n n 1 1 (by rfl) (by rfl) w.heap.size 0 _ 3 hR2.out [.int .i64 v] (one_min hn1) (fun _ => ⟨rfl, _, rfl, hsrc.out _ hb2H.out⟩) (by rw [rep_len _ (by omega)]; simp; omega) one_cell w.heap.size w hb2H.out (Nat.le_refl _) ?_); intro w3 hR3 hb3; have hR3' := Lib.hid (show RepB w3 w.heap.size v n 1 by have := hR3.out; rwa [rep_splice1 v hn1] at this); have hb3H := Lib.hid hb3; clear hR3 hb3 hR2 hb2H))
  go_loopw [8] (fun m wr => ∃ k : Nat, m = .int .i64 (k : Nat) ∧ 1 ≤ k ∧ k ≤ n ∧ RepB wr w.heap.size v n k ∧ Below w.heap.size w wr) (fun m _ => n - (intOf m).toNat)
  case atStart => exact ⟨1, rfl, by omega, hn1, hR3'.out, hb3H.out⟩
  case round =>
    obtain ⟨k, rfl, hk1, hk, hR, hbl⟩ := hrel
    have hRH := Lib.hid hR
    have hblH := Lib.hid hbl
    clear hR3' hb3H
    by_cases hkn : k < n
    · obtain ⟨d, hd⟩ : ∃ d, min k (n - k) = d := ⟨_, rfl⟩
      have hd1 : k + d ≤ n := by omega
      have hd2 : 1 ≤ d := by omega
      have hdk : d ≤ k := by omega
      have hkI : (k : Int) < (n : Int) := by omega
      have hk0 : (0 : Int) ≤ (k : Int) := by omega
      have hkle : (k : Int) ≤ (n : Int) := by omega
      have hnk : ¬ n = k := by omega
      have hdH := Lib.hid hd
      have hw : IntKind.i64.wrap ((k : Int) + (d : Int)) = (k : Int) + (d : Int) := by rw [IntKind.wrap_i64]; omega
      have hsrc2 : Hid (∀ w2 : World, RepB w2 w.heap.size v n k → ∀ (j : Nat) (u : Value), ((List.replicate d v).map fun x : Int => Value.int .i64 x)[j]? = some u → w2.cell? ((⟨w.heap.size, 0, none⟩ : Addr).add j) = some u) := fun w2 hb j u hj => by
        rw [List.map_replicate, List.getElem?_replicate] at hj
        split at hj
        · injection hj with hj
          subst hj
          rw [Addr.add_lit, Nat.zero_add]
          exact repb_cell hb (by omega)
        · cases hj
      have hlenH : Hid (((List.replicate d v).map fun x : Int => Value.int .i64 x).length = d) := by show _ = _; simp
      clear hR hbl hd
      go_wp2_with (fail)
      go_region_held3 (fun w' => Below w.heap.size w w')
        (first | exact hblH.out.drew | exact hb4H.out)
        (((refine step_copy_splice rfl (.tmp 41) (.tmp 44) 24 24 rfl 3 Try.underlying24 info_size (some ⟨w.heap.size, k, none⟩) (some ⟨w.heap.size, 0, none⟩) (n - k) (n - k) k n (by rfl) (by rfl) w.heap.size k _ 3 hRH.out ((List.replicate d v).map fun x : Int => Value.int .i64 x) (by rw [hlenH.out, ← hdH.out]) (fun _ => ⟨rfl, _, rfl, hsrc2.out _ hRH.out⟩) (by rw [rep_len _ hk, hlenH.out]; omega) rep_one w.heap.size w hblH.out.drew (Nat.le_refl _) ?_); intro w4 hR4 hb4; have hR4' := Lib.hid (show RepB w4 w.heap.size v n (k + d) by have := hR4.out; rwa [rep_splice v hd1] at this); have hb4H := Lib.hid hb4; rw [hlenH.out]; clear hR4 hb4))
      clear hw
      go_wp2_with (fail)
      go_roundw
      case rel => exact ⟨k + d, by go_num, by omega, by omega, hR4'.out, hb4H.out⟩
      case measure => simp [intOf]; omega
    · have hke : k = n := by omega
      subst hke
      go_wp2_with (fail)
      go_ret
      refine ⟨w.heap.size, rfl, ?_, hblH.out, Nat.le_refl _, ?_⟩
      · have := hRH.out
        unfold RepB at this
        rw [Nat.sub_self, List.replicate_zero, List.append_nil] at this
        exact this
      · exact World.block_lt_of_cell? _ _ (repb_cell hRH.out (j := 0) (by omega))
end Go.Proofs.Ytkecdjdggkpdpaa

/- Walks of match, whole. -/
namespace Go.Proofs.Ytkecdjdggkpdpaa
open Go Go.RowKit Go.Proofs

theorem info_boolJ : (Try.prog.info? 4).map (fun i => (i.zero, i.size, i.bytes)) = some (some (.bool false), 1, 1) := by kernel_rfl
/-- 'make' of n Booleans, as a block that is known whole. -/
theorem wpList_make_bools (w : World) {ops : Array Oper} {rest : List Oper} {o : Oper} {a : Act} {Q : Exit → Act → World → Prop}
    (hg : o.guard = none) (l : Operand) (hop : o.op = Op.makeSlice 59 l l) (n : Nat) (hl : a.eval l = .int .i64 (n : Nat)) (hn : n ≤ 10000000000)
    (hK : ∀ w', BBlk w' w.heap.size (List.replicate n false) → Below w.heap.size w w' → wpList Try.prog ops Q rest (a.put o.dst (.slice (some ⟨w.heap.size, 0, none⟩) n n)) w') :
    wpList Try.prog ops Q (o :: rest) a w := by
  obtain ⟨i, h2, h3, h4, h5⟩ := info_parts info_boolJ
  refine wpList_make_full w hg l l _ hop w.heap.size 4 i (.bool false) 1 Try.underlying59 h2 h3 h4 .i64 .i64 (n : Nat) (n : Nat) n hl hl rfl rfl ?_ ?_ (Nat.le_refl _) ?_
  · rw [h5]; omega
  · unfold maxLen; omega
  · intro w' hown hgr
    refine hK w' ?_ ((Below.refl _ _).grown hgr (Nat.le_refl _) (fun k hk => by cases hk))
    have := blk_of_own hown
    have e : (madeCells (Value.bool false).cells (n * 1)).toList = (List.replicate n false).map (fun b : Bool => Value.bool b) := by
      rw [Nat.mul_one]
      show (madeCells #[Value.bool false] n).toList = _
      rw [toList_madeCells_one]
      simp
    rw [e] at this
    exact this
/-- What match has in memory between two rows. -/
structure KL (w0 w : World) (n g : Nat) (lb : Array Value) (bn ba bs br bt gr : Nat) (r : List Int) : Prop where
  below : Below w0.heap.size w0 w
  cn : w.cell? ⟨bn, 0, none⟩ = some (.int .i64 (n : Nat))
  ca : w.cell? ⟨ba, 0, none⟩ = some (.func (.func g) #[] lb)
  cs : ∃ v, w.cell? ⟨bs, 0, none⟩ = some v
  cr : w.cell? ⟨br, 0, none⟩ = some (.slice (some ⟨gr, 0, none⟩) n n)
  ct : w.cell? ⟨bt, 0, none⟩ = some (.func (.func 36) #[] #[ptr bn, ptr ba, ptr bs, ptr br, ptr bt])
  R : ZBlk w gr r
  lr : r.length = n
  nes : bs ≠ bn ∧ bs ≠ ba ∧ bs ≠ br ∧ bs ≠ bt
  ner : gr ≠ bn ∧ gr ≠ ba ∧ gr ≠ bs ∧ gr ≠ br ∧ gr ≠ bt
  bsb : w0.heap.size ≤ bs
  grb : w0.heap.size ≤ gr
  fs : w.frozen? ⟨bs, 0, none⟩ = false
theorem KM.kl {w0 w : World} {n g : Nat} {lb : Array Value} {bn ba bs br bt gs gr : Nat} {r : List Int} {s : List Bool} (h : KM w0 w n g lb bn ba bs br bt gs gr r s) (hne : bs ≠ bn ∧ bs ≠ ba ∧ bs ≠ br ∧ bs ≠ bt) (hb : w0.heap.size ≤ bs) : KL w0 w n g lb bn ba bs br bt gr r :=
  ⟨h.below, h.cn, h.ca, ⟨_, h.cs⟩, h.cr, h.ct, h.R, h.lr, hne, h.ner, hb, h.grb, h.fs⟩
/-- A fresh list of columns that were seen. -/
theorem KL.fresh {w0 w w2 : World} {n g : Nat} {lb : Array Value} {bn ba bs br bt gr : Nat} {r : List Int} (h : KL w0 w n g lb bn ba bs br bt gr r) (hb : Below w.heap.size w w2) (hS : BBlk w2 w.heap.size (List.replicate n false)) :
    KM w0 (w2.setCell ⟨bs, 0, none⟩ (.slice (some ⟨w.heap.size, 0, none⟩) n n)) n g lb bn ba bs br bt w.heap.size gr r (List.replicate n false) := by
  obtain ⟨v, hv⟩ := h.cs
  obtain ⟨n1, n2, n3, n4⟩ := h.nes
  have hlt : ∀ {b : Nat} {v : Value}, w.cell? ⟨b, 0, none⟩ = some v → b < w.heap.size := fun hc => World.block_lt_of_cell? w _ hc
  have k1 := hlt h.cn
  have k2 := hlt h.ca
  have k3 := hlt hv
  have k4 := hlt h.cr
  have k5 := hlt h.ct
  have k6 : gr < w.heap.size := Blk.lt h.R
  have up : ∀ {b : Nat} {v : Value}, w.cell? ⟨b, 0, none⟩ = some v → w2.cell? ⟨b, 0, none⟩ = some v := fun hc => Below.cellAt hb (Nat.le_refl _) hc
  refine ⟨(h.below.trans (hb.mono h.below.size)).setCell h.bsb _, ?_, ?_, ?_, ?_, ?_, ?_, ?_, by simp, h.lr, ⟨by omega, by omega, by omega, by omega, by omega, by omega⟩, h.ner, h.below.size, h.grb, ?_⟩
  · rw [cell_far n1]; exact up h.cn
  · rw [cell_far n2]; exact up h.ca
  · rw [World.cell?_setCell_same w2 ⟨bs, 0, none⟩ _ (up hv)]
  · rw [cell_far n3]; exact up h.cr
  · rw [cell_far n4]; exact up h.ct
  · exact Blk.far hS (show w.heap.size ≠ bs by omega) _
  · exact Blk.far (Blk.later h.R hb) (show gr ≠ bs by have := h.ner; omega) _
  · rw [World.frozen?_setCell, hb.frozen (p := ⟨bs, 0, none⟩) k3]; exact h.fs

def MatPost (A : Nat → Nat → Bool) (n : Nat) (w : World) (e : Ending) (w' : World) : Prop := ∃ g r, e = .returned (.slice (some ⟨g, 0, none⟩) n n) ∧ Rows A n n r ∧ r.length = n ∧ ZBlk w' g r ∧ Below w.heap.size w w' ∧ w.heap.size ≤ g
theorem RowsP.okR {A : Nat → Nat → Bool} {n i : Nat} {r : List Int} (h : RowsP A n i r) (hi : i ≤ n) : RowsOk n r := fun v hv => by
  rcases h.neg v hv with h1 | ⟨k, h1, h2⟩
  · left; omega
  · exact .inr ⟨k, h1, by omega⟩
theorem al_old {w : World} {o : Obj} {b i : Nat} (h : b < w.heap.size) : (w.alloc o).cell? ⟨b, i, none⟩ = w.cell? ⟨b, i, none⟩ := World.cell?_alloc_lt w (a := ⟨b, i, none⟩) (o := o) h
theorem al_new {w : World} {c : Array Value} {t : TypeId} {b i : Nat} (h : b = w.heap.size) : (w.alloc (.cells c t)).cell? ⟨b, i, none⟩ = c[i]? := World.cell?_alloc_at c t b i h
/-- The world in which match calls Repeat. -/
def mW (w : World) (n g : Nat) (lb : Array Value) : World := ((w.alloc (Obj.cells #[Value.int .i64 (n : Nat)] 3)).alloc (Obj.cells #[Value.func (.func g) #[] lb] 53)).alloc (Obj.cells #[Value.int .i64 (-1)] 3)
theorem kl_start {w w1 : World} {n g gr : Nat} {lb : Array Value} {r : List Int} (hR : ZBlk w1 gr r) (hr : r.length = n) (hb1 : Below (mW w n g lb).heap.size (mW w n g lb) w1) (hg1 : (mW w n g lb).heap.size ≤ gr) :
    KL w (((w1.alloc (Obj.cells #[Value.slice (some ⟨gr, 0, none⟩) n n] 24)).alloc (Obj.cells #[Value.slice none 0 0] 59)).alloc (Obj.cells #[Value.func (.func 36) #[] #[ptr w.heap.size, ptr (w.heap.size + 1), ptr (w1.heap.size + 1), ptr w1.heap.size, ptr (w1.heap.size + 1 + 1)]] 54))
      n g lb w.heap.size (w.heap.size + 1) (w1.heap.size + 1) w1.heap.size (w1.heap.size + 1 + 1) gr r := by
  have e0 : (mW w n g lb).heap.size = w.heap.size + 3 := by unfold mW; simp
  have hs := hb1.size
  rw [e0] at hs hg1
  have hgr := Blk.lt hR
  have b0 : Below w.heap.size w (mW w n g lb) := by unfold mW; go_grown
  have b1 : Below w.heap.size w w1 := b0.trans (hb1.mono (by rw [e0]; omega))
  have c1 : w1.cell? ⟨w.heap.size, 0, none⟩ = some (.int .i64 (n : Nat)) := Below.cellAt hb1 (Nat.le_refl _) (by
    unfold mW
    rw [al_old (by simp; omega), al_old (by simp), al_new rfl]; rfl)
  have c2 : w1.cell? ⟨w.heap.size + 1, 0, none⟩ = some (.func (.func g) #[] lb) := Below.cellAt hb1 (Nat.le_refl _) (by
    unfold mW
    rw [al_old (by simp), al_new (by simp)]; rfl)
  refine ⟨?_, ?_, ?_, ⟨.slice none 0 0, ?_⟩, ?_, ?_, ?_, hr, by omega, by omega, by omega, by omega, ?_⟩
  · exact ((b1.alloc b1.size _).alloc (by simp; omega) _).alloc (by simp; omega) _
  · rw [al_old (by simp; omega), al_old (by simp; omega), al_old (by omega)]; exact c1
  · rw [al_old (by simp; omega), al_old (by simp; omega), al_old (by omega)]; exact c2
  · rw [al_old (by simp), al_new (by simp)]; rfl
  · rw [al_old (by simp; omega), al_old (by simp), al_new rfl]; rfl
  · rw [al_new (by simp)]; rfl
  · have b3 : Below w1.heap.size w1 (((w1.alloc (Obj.cells #[Value.slice (some ⟨gr, 0, none⟩) n n] 24)).alloc (Obj.cells #[Value.slice none 0 0] 59)).alloc (Obj.cells #[Value.func (.func 36) #[] #[ptr w.heap.size, ptr (w.heap.size + 1), ptr (w1.heap.size + 1), ptr w1.heap.size, ptr (w1.heap.size + 1 + 1)]] 54)) := by go_grown
    exact Blk.later hR b3
  · have hB : Blk ((w1.alloc (Obj.cells #[Value.slice (some ⟨gr, 0, none⟩) n n] 24)).alloc (Obj.cells #[Value.slice none 0 0] 59)) (w1.heap.size + 1) 59 [.slice none 0 0] := by
      have := heap_alloc_new (w1.alloc (Obj.cells #[Value.slice (some ⟨gr, 0, none⟩) n n] 24)) (Obj.cells #[Value.slice none 0 0] 59)
      unfold Blk
      simpa using this
    exact Blk.frozen (Blk.later hB ((Below.refl _ _).alloc (Nat.le_refl _) _)) 0
set_option maxRecDepth 100000 in
set_option maxHeartbeats 6400000 in
theorem match_any (A : Nat → Nat → Bool) (n g : Nat) (lb : Array Value) (w : World) (hn : n ≤ 1000) (hn1 : 1 ≤ n) (hA : AllowAt g lb A n w) (eg : ∀ args w, (callFunc g args).run Try.prog w = .ok (.enter g args) w) :
    Calls Try.prog 32 #[.int .i64 (n : Nat), .func (.func g) #[] lb] w (MatPost A n w) := by
  have hAH := Lib.hid hA
  have egH := Lib.hid eg
  have hc0 : Hid ((mW w n g lb).cell? ⟨w.heap.size + 1 + 1, 0, none⟩ = some (.int .i64 (-1))) := by
    show _ = _
    unfold mW
    rw [al_new (by simp)]; rfl
  have hmf : ∀ (fn : Fn) (first cap : Array Value) (w : World), (Instr.makeFunc fn first cap).run Try.prog w = .ok (.func fn first cap) w := fun _ _ _ _ => rfl
  clear hA eg
  go_enter Try.func32, Try.ntmps32
  go_upto_region 4 with (first
    | (go_at_call 25; go_loud (refine (repeat_any (-1) n _ _ hn hn1 hc0.out).mono ?_); rintro e w1 ⟨gr, rfl, hR, hb1, hg1, hg2⟩; have hRH := Lib.hid hR; have hb1H := Lib.hid hb1; have hg1H := Lib.hid hg1; clear hR hb1 hg1))
  go_cut [] from 12 to 12 (fun wx => KL w wx n g lb w.heap.size (w.heap.size + 1) (w1.heap.size + 1) w1.heap.size (w1.heap.size + 1 + 1) gr (List.replicate n (-1)))
  case first =>
    go_wp2_with (fail)
    go_meet
    exact kl_start hRH.out (by simp) hb1H.out hg1H.out
  case rest =>
  have kn := hcut.cn
  have hKH := Lib.hid hcut
  clear hcut hRH hb1H hg1H hc0
  go_wp2_with (fail)
  generalize w1.heap.size = h at *
  go_loopw [14] (fun iv wr => ∃ (i : Nat) (r : List Int), iv = .int .i64 (i : Nat) ∧ i ≤ n ∧ Rows A n i r ∧ KL w wr n g lb w.heap.size (w.heap.size + 1) (h + 1) h (h + 1 + 1) gr r) (fun iv _ => n - (intOf iv).toNat)
  case atStart => exact ⟨0, _, rfl, by omega, .zero, hKH.out⟩
  case round =>
    clear kn
    obtain ⟨i, r, rfl, hi, hRows, hK⟩ := hrel
    have hRowsH := Lib.hid hRows
    have hKrH := Lib.hid hK
    clear hRows
    by_cases hin : i < n
    · have k1 := hK.cn
      obtain ⟨v, k2⟩ := hK.cs
      have k3 := hK.fs
      clear hK
      go_upto_region 9 with (first
        | (at_make; go_loud (refine wpList_make_bools _ rfl (.tmp 17) rfl n (by rfl) (by omega) ?_); intro w2 hS2 hb2; have hF := Lib.hid (hKrH.out.fresh hb2 hS2); have k4 : w2.cell? ⟨h + 1, 0, none⟩ = some v := Below.cellAt hb2 (Nat.le_refl _) k2; have k5 : w2.frozen? ⟨h + 1, 0, none⟩ = false := by rw [hb2.frozen (p := ⟨h + 1, 0, none⟩) (World.block_lt_of_cell? _ _ k2)]; exact k3))
      clear hS2 hb2 k1 k2 k3 k4 k5
      obtain ⟨W3, hW3⟩ : ∃ W3, W3 = w2.setCell ⟨h + 1, 0, none⟩ (.slice (some ⟨wr.heap.size, 0, none⟩) n n) := ⟨_, rfl⟩
      rw [← hW3] at hF ⊢
      clear hW3
      generalize wr.heap.size = gs at *
      have c1 := hF.out.ct
      have hcnt : (List.replicate n false).count false ≤ n := by rw [List.count_replicate]; simp
      go_wp2_with (first
        | (go_at_call 36; go_loud (refine (try_any w A n g lb w.heap.size (w.heap.size + 1) (h + 1) h (h + 1 + 1) gs gr (by omega) hAH.out egH.out n i r (List.replicate n false) _ hin hcnt (hRowsH.out.good.okR hi) hF.out).mono ?_); rintro e w4 ⟨b, r4, s4, rfl, hTry, hK4⟩; have hTryH := Lib.hid hTry; have hK4H := Lib.hid hK4; clear hTry hK4 c1))
      go_roundw
      case rel => exact ⟨i + 1, r4, by go_num, by omega, .step hRowsH.out hin hTryH.out, hK4H.out.kl hKrH.out.nes hKrH.out.bsb⟩
      case measure => simp [intOf]; omega
    · have hie : i = n := by omega
      subst hie
      have k1 := hK.cr
      clear hK
      go_wp2_with (fail)
      go_ret
      exact ⟨gr, r, rfl, hRowsH.out, hKrH.out.lr, hKrH.out.R, hKrH.out.below, hKrH.out.grb⟩
end Go.Proofs.Ytkecdjdggkpdpaa

/- Walks of whole, upTo, and of the functions that say which pairs are allowed. -/
namespace Go.Proofs.Ytkecdjdggkpdpaa
open Go Go.RowKit Go.Proofs

/-- Can all rows be paired? -/
noncomputable def wholeB (A : Nat → Nat → Bool) (n : Nat) : Bool := @decide (∃ p, Pr n p ∧ Ok A p) (Classical.propDecidable _)
theorem wholeB_iff {A : Nat → Nat → Bool} {n : Nat} : wholeB A n = true ↔ ∃ p, Pr n p ∧ Ok A p := by unfold wholeB; simp
theorem contains_any (g n c : Nat) (zs : List Int) (x : Int) (b : Bool) (w : World) (h : ZBlk w g zs) (hn : zs.length = n) (hm : n ≤ 9223372036854775807) (hb : decide (x ∈ zs) = b) :
    Calls Try.prog 31 #[.slice (some ⟨g, 0, none⟩) n c, .int .i64 x] w (fun e w' => e = .returned (.bool b) ∧ w = w') := by
  have := Try.slices_Contains_int g 0 n c zs x w (by omega) hm (fun j hj => by
    rw [Nat.zero_add, h.at hj]
    unfold at0
    rw [List.getD_eq_getElem?_getD])
  refine this.mono fun e w' ⟨h1, h2⟩ => ⟨?_, h2.symm⟩
  rw [h1, ← hb, List.take_of_length_le (by omega)]
  congr 2
  rw [Bool.eq_iff_iff]; simp
theorem eg_of {g : Nat} (h : ∃ fn c, Try.prog.funcs[g]? = some fn ∧ (fn.name == "runtime.NumGoroutine") = false ∧ fn.body = some c) : ∀ args w, (callFunc g args).run Try.prog w = .ok (.enter g args) w := by
  obtain ⟨fn, c, h1, h2, h3⟩ := h
  exact enters_of h1 h2 h3
set_option maxHeartbeats 1600000 in
theorem whole_anyJ (A : Nat → Nat → Bool) (n g : Nat) (lb : Array Value) (b : Bool) (w : World) (hn : n ≤ 1000) (hn1 : 1 ≤ n) (hA : AllowAt g lb A n w) (eg : ∀ args w, (callFunc g args).run Try.prog w = .ok (.enter g args) w) (hb : wholeB A n = b) :
    Calls Try.prog 27 #[.int .i64 (n : Nat), .func (.func g) #[] lb] w (RetB w b) := by
  have hAH := Lib.hid hA
  have egH := Lib.hid eg
  have hbH := Lib.hid hb
  clear hA eg hb
  go_enter Try.func27, Try.ntmps27
  go_wp2_with (first
    | (go_at_call 32; go_loud (refine (match_any A n g lb _ hn hn1 hAH.out egH.out).mono ?_); rintro e w1 ⟨gr, r, rfl, hR, hl, hZ, hb1, hg⟩; have hRH := Lib.hid hR; have hlH := Lib.hid hl; have hZH := Lib.hid hZ; have hb1H := Lib.hid hb1; have hc : Hid (decide ((-1 : Int) ∈ r) = !b) := (by show _ = _; rw [← hbH.out]; rcases hw : wholeB A n; (simp; exact Classical.byContradiction fun hno => by rw [wholeB_iff.2 (hR.whole.1 hno)] at hw; cases hw); (simp; exact hR.whole.2 (wholeB_iff.1 hw))); clear hR hl hZ hb1)
    | (go_at_call 31; go_loud (refine (contains_any gr n n r (-1) (!b) _ hZH.out hlH.out (by omega) hc.out).mono ?_); rintro e w2 ⟨rfl, rfl⟩))
  go_ret
  exact ⟨ret_boolJ (by simp), hb1H.out⟩

end Go.Proofs.Ytkecdjdggkpdpaa

/- Walk of first. -/
namespace Go.Proofs.Ytkecdjdggkpdpaa
open Go Go.RowKit Go.Proofs

set_option maxRecDepth 100000 in
set_option maxHeartbeats 3200000 in
/-- first's closure: the rows up to here have their columns. -/
theorem okA_at (A : Nat → Nat → Bool) (n g : Nat) (lb : Array Value) (b6 bo ba i c : Nat) (ao : Option Addr) (o : List Nat) (w : World) (hn : n ≤ 1000) (hol : o.length = i + 1) (hA : AllowAt g lb A n w) (eg : ∀ args w, (callFunc g args).run Try.prog w = .ok (.enter g args) w)
    (c1 : w.cell? ⟨b6, 0, none⟩ = some (.int .i64 (i : Nat))) (c2 : w.cell? ⟨bo, 0, none⟩ = some (.slice ao (i + 1) c)) (hI : IZ w ao (nz o)) (c3 : w.cell? ⟨ba, 0, none⟩ = some (.func (.func g) #[] lb)) :
    AllowAt 26 #[ptr b6, ptr bo, ptr ba] (okA A o) n w := by
  intro W r cc b hAb hb hr hcc
  have d1 : W.cell? ⟨b6, 0, none⟩ = some (.int .i64 (i : Nat)) := Below.cellAt hb (Nat.le_refl _) c1
  have d2 : W.cell? ⟨bo, 0, none⟩ = some (.slice ao (i + 1) c) := Below.cellAt hb (Nat.le_refl _) c2
  have d3 : W.cell? ⟨ba, 0, none⟩ = some (.func (.func g) #[] lb) := Below.cellAt hb (Nat.le_refl _) c3
  have hAW := Lib.hid (hA.later hb)
  have hIW := hI.below hb
  have hr0 : (0 : Int) ≤ (r : Int) := by omega
  show Calls Try.prog _ #[.int .i64 (r : Nat), .int .i64 (cc : Nat), ptr b6, ptr bo, ptr ba] W _
  by_cases hri : r ≤ i
  · have hrI : decide ((r : Int) ≤ (i : Int)) = true := by simp; omega
    have hrl : r < o.length := by omega
    obtain ⟨x, hx⟩ : ∃ x, o[r]? = some x := ⟨_, List.getElem?_eq_getElem hrl⟩
    obtain ⟨b1, o1, rfl, e1⟩ := hIW.col hx
    have hrI2 : (r : Int) < ((i + 1 : Nat) : Int) := by omega
    have hrI3 : (r : Int) < (i : Int) + 1 := by omega
    have hov : okA A o r cc = (decide (x = cc) && A r cc) := by
      unfold okA
      rw [if_pos hrl, hx]
      congr 1
    have hovH := Lib.hid hov
    have hAbH := Lib.hid hAb
    by_cases hxc : x = cc
    · have hAr : Hid (A r cc = b) := by show _ = _; rw [← hAbH.out, hovH.out, hxc]; simp
      have e2 : ((x : Int) == (cc : Int)) = true := by simp; omega
      have e3 : (x == cc) = true := by simp; omega
      have e4 : decide ((x : Int) = (cc : Int)) = true := by simp; omega
      clear hA hb hI hIW c1 c2 c3 hov hx hAb
      subst hxc
      go_enter Try.func26, Try.ntmps26
      go_wp2_with (fail)
      have cS : Calls Try.prog g (#[.int .i64 (r : Nat), .int .i64 (x : Nat)] ++ lb) W _ := hAW.out W r x b hAr.out (Below.refl _ _) hr hcc
      refine cS.mono ?_
      rintro e w1 ⟨rfl, q, rfl⟩
      clear cS
      go_wp2_with (fail)
      go_ret
      exact ⟨rfl, _, rfl⟩
    · have e2 : ((x : Int) == (cc : Int)) = false := by simp; omega
      have e3 : (x == cc) = false := by simp; omega
      have e4 : decide ((x : Int) = (cc : Int)) = false := by simp; omega
      have hbf : Hid (b = false) := by show _ = _; rw [← hAbH.out, hovH.out]; simp [hxc]
      clear hA hb hI hIW c1 c2 c3 hov hx hAb
      go_enter Try.func26, Try.ntmps26
      go_wp2_with (fail)
      go_ret
      exact ⟨ret_boolJ hbf.out.symm, 0, rfl⟩
  · have hrI : decide ((r : Int) ≤ (i : Int)) = false := by simp; omega
    have hAr : Hid (A r cc = b) := by show _ = _; rw [← hAb]; unfold okA; rw [if_neg (by omega)]
    clear hA hb hI hIW c1 c2 c3 hAb
    go_enter Try.func26, Try.ntmps26
    go_wp2_with (fail)
    have cS : Calls Try.prog g (#[.int .i64 (r : Nat), .int .i64 (cc : Nat)] ++ lb) W _ := hAW.out W r cc b hAr.out (Below.refl _ _) hr hcc
    refine cS.mono ?_
    rintro e w1 ⟨rfl, q, rfl⟩
    clear cS
    go_wp2_with (fail)
    go_ret
    exact ⟨rfl, _, rfl⟩
end Go.Proofs.Ytkecdjdggkpdpaa

/- Walk of first. -/
namespace Go.Proofs.Ytkecdjdggkpdpaa
open Go Go.RowKit Go.Proofs

theorem ZI.trunc {w : World} {base n c : Nat} {ao : Option Addr} {xs : List Int} (h : ZI w base (.slice ao n c) xs) {k : Nat} (hk : k ≤ n) : ZI w base (.slice ao k c) (xs.take k) := by
  have hn : n = xs.length := by obtain ⟨a, c', e⟩ := h.shape; injection e
  subst hn
  unfold ZI
  rw [List.length_take, Nat.min_eq_left hk]
  refine ⟨by simp; omega, ?_⟩
  rcases h.2 with ⟨h1, h2⟩ | ⟨g', cap', cur, hv, h1, hg, h3, h4, h5, h6⟩
  · have hk0 : k = 0 := by omega
    subst hk0
    injection h1 with e1 e2 e3
    subst e1 e3
    exact .inl ⟨rfl, rfl⟩
  · injection hv with e1 e2 e3
    subst e1 e3
    refine .inr ⟨g', c, cur, rfl, h1, hg, by omega, h4, h5, ?_⟩
    rw [List.map_take, ← h6, List.take_take]
    congr 1
    omega
/-- What first has in memory: its variables, the list so far. -/
structure FS (w wr : World) (g : Nat) (lb : Array Value) (v : Value) (xs : List Int) : Prop where
  below : Below w.heap.size w wr
  ca : wr.cell? ⟨w.heap.size, 0, none⟩ = some (.func (.func g) #[] lb)
  co : wr.cell? ⟨w.heap.size + 1, 0, none⟩ = some v
  fo : wr.frozen? ⟨w.heap.size + 1, 0, none⟩ = false
  own : ZI wr (w.heap.size + 2) v xs
theorem FS.up {w wr w' : World} {g : Nat} {lb : Array Value} {v : Value} {xs : List Int} (h : FS w wr g lb v xs) (hb : Below wr.heap.size wr w') : FS w w' g lb v xs :=
  ⟨bseqJ h.below hb, Below.cellAt hb (Nat.le_refl _) h.ca, Below.cellAt hb (Nat.le_refl _) h.co, by rw [hb.frozen (p := ⟨w.heap.size + 1, 0, none⟩) (World.block_lt_of_cell? _ _ h.co)]; exact h.fo, h.own.below hb⟩
theorem ZI.far {w : World} {base : Nat} {v : Value} {xs : List Int} (h : ZI w base v xs) {b o : Nat} {u : Value} (hb : b < base) : ZI (w.setCell ⟨b, o, none⟩ u) base v xs := by
  refine ⟨h.1, ?_⟩
  rcases h.2 with h' | ⟨g', cap', cur, hv, h1, hg, h2⟩
  · exact .inl h'
  · refine .inr ⟨g', cap', cur, hv, h1, ?_, h2⟩
    rw [Below.heap_setCell w ⟨b, o, none⟩ u g' (show g' ≠ b by omega)]; exact hg
/-- The list is appended to, and stored. -/
theorem FS.put {w wr w1 w2 : World} {g : Nat} {lb : Array Value} {v v' : Value} {xs ys : List Int} (h : FS w wr g lb v xs) (hb : Below wr.heap.size wr w1) (hg : w1.grownBy w2 v.ownBlock) (ho : ZI w2 (w.heap.size + 2) v' ys) :
    FS w (w2.setCell ⟨w.heap.size + 1, 0, none⟩ v') g lb v' ys := by
  have h1 := h.up hb
  have hlt' : w.heap.size + 1 < w1.heap.size := World.block_lt_of_cell? _ _ h1.co
  have hlt0 : w.heap.size < w1.heap.size := World.block_lt_of_cell? _ _ h1.ca
  have hne : ∀ b, b < w.heap.size + 2 → some b ≠ v.ownBlock := fun b hb' e => by have := (h1.own.lt b e.symm).1; omega
  have c2 : ∀ b, b < w.heap.size + 2 → b < w1.heap.size → w2.heap[b]? = w1.heap[b]? := fun b hb' hs => hg.block b hs (hne b hb')
  have hco : w2.cell? ⟨w.heap.size + 1, 0, none⟩ = some v := by
    rw [World.cell?_of_block (w := w1) (a := ⟨w.heap.size + 1, 0, none⟩) (c2 _ (show w.heap.size + 1 < w.heap.size + 2 by omega) hlt')]; exact h1.co
  refine ⟨(h1.below.grown hg h1.below.size (fun k hk => by have := (h1.own.lt k hk).1; omega)).setCell (show w.heap.size ≤ w.heap.size + 1 by omega) _, ?_, ?_, ?_, ho.far (by omega)⟩
  · rw [cell_far (by omega), World.cell?_of_block (w := w1) (a := ⟨w.heap.size, 0, none⟩) (c2 _ (show w.heap.size < w.heap.size + 2 by omega) hlt0)]; exact h1.ca
  · rw [World.cell?_setCell_same _ _ _ hco]
  · rw [World.frozen?_setCell, World.frozen?_of_block (w := w1) (a := ⟨w.heap.size + 1, 0, none⟩) (c2 _ (show w.heap.size + 1 < w.heap.size + 2 by omega) hlt')]; exact h1.fo
theorem FS.still {w w1 w2 : World} {g : Nat} {lb : Array Value} {v : Value} {xs : List Int} (h : FS w w1 g lb v xs) (hg : w1.grownBy w2 v.ownBlock) :
    w2.cell? ⟨w.heap.size + 1, 0, none⟩ = some v ∧ w2.frozen? ⟨w.heap.size + 1, 0, none⟩ = false := by
  have hlt' : w.heap.size + 1 < w1.heap.size := World.block_lt_of_cell? _ _ h.co
  have hb := hg.block (w.heap.size + 1) hlt' (fun e => by have := (h.own.lt _ e.symm).1; omega)
  exact ⟨by rw [World.cell?_of_block (w := w1) (a := ⟨w.heap.size + 1, 0, none⟩) hb]; exact h.co, by rw [World.frozen?_of_block (w := w1) (a := ⟨w.heap.size + 1, 0, none⟩) hb]; exact h.fo⟩
theorem FS.cut {w wr : World} {g n c k : Nat} {lb : Array Value} {ao : Option Addr} {xs : List Int} (h : FS w wr g lb (.slice ao n c) xs) (hk : k ≤ n) : FS w (wr.setCell ⟨w.heap.size + 1, 0, none⟩ (.slice ao k c)) g lb (.slice ao k c) (xs.take k) := by
  refine ⟨h.below.setCell (show w.heap.size ≤ w.heap.size + 1 by omega) _, ?_, ?_, ?_, (h.own.trunc hk).far (by omega)⟩
  · rw [cell_far (by omega)]; exact h.ca
  · rw [World.cell?_setCell_same _ _ _ h.co]
  · rw [World.frozen?_setCell]; exact h.fo
theorem nz_takeL {o : List Nat} {j i : Nat} (h : o.length = i) : (nz (o ++ [j])).take i = nz o := by
  unfold nz
  rw [List.map_append, List.take_append_of_le_length (by simp; omega), List.take_of_length_le (by simp; omega)]
def FirstPost (A : Nat → Nat → Bool) (n : Nat) (w : World) (e : Ending) (w' : World) : Prop :=
  ((¬ ∃ p, Pr n p ∧ Ok A p) ∧ e = .returned (.slice none 0 0) ∧ Below w.heap.size w w') ∨
  ∃ (l : List Nat) (g o c : Nat), First A n l ∧ e = .returned (.slice (some ⟨g, o, none⟩) n c) ∧ n ≤ c ∧ IZ w' (some ⟨g, o, none⟩) (nz l) ∧ Below w.heap.size w w'
theorem ext_lt {A : Nat → Nat → Bool} {n : Nat} {o : List Nat} (h : o = [] ∨ Ext A n o) (x : Nat) (hx : x ∈ o) : x < n := by
  rcases h with rfl | ⟨q, hq, _, ho⟩
  · cases hx
  · exact hq.lt x (ho.subset hx)
set_option maxRecDepth 100000 in
set_option maxHeartbeats 12800000 in
theorem first_anyJ (A : Nat → Nat → Bool) (n g : Nat) (lb : Array Value) (w : World) (hn : n ≤ 1000) (hn1 : 1 ≤ n) (hA : AllowAt g lb A n w) (eg : ∀ args w, (callFunc g args).run Try.prog w = .ok (.enter g args) w) :
    Calls Try.prog 16 #[.int .i64 (n : Nat), .func (.func g) #[] lb] w (FirstPost A n w) := by
  have hAH := Lib.hid hA
  have egH := Lib.hid eg
  have hmf : ∀ (fn : Fn) (first cap : Array Value) (w : World), (Instr.makeFunc fn first cap).run Try.prog w = .ok (.func fn first cap) w := fun _ _ _ _ => rfl
  have eg1 : Hid (∀ args w, (callFunc 26 args).run Try.prog w = .ok (.enter 26 args) w) := enters_of Try.func26 (by kernel_rfl) rfl
  clear hA eg
  go_enter Try.func16, Try.ntmps16
  go_wp2_with (fail)
  go_step3
  go_wp2_with (fail)
  go_step3
  obtain ⟨V, hV⟩ : ∃ V, V = ((w.alloc (Obj.cells #[Value.func (.func g) #[] lb] 53)).alloc (Obj.cells #[Value.slice none 0 0] 24)) := ⟨_, rfl⟩
  rw [← hV]
  have hF0 : FS w V g lb (.slice none 0 0) (nz []) := by
    rw [hV]
    refine ⟨by go_grown, ?_, ?_, ?_, ZI.nil _ _⟩
    · rw [al_old (by simp), al_new rfl]; rfl
    · rw [al_new (by simp)]; rfl
    · have hB : Blk ((w.alloc (Obj.cells #[Value.func (.func g) #[] lb] 53)).alloc (Obj.cells #[Value.slice none 0 0] 24)) (w.heap.size + 1) 24 [.slice none 0 0] := by
        have := heap_alloc_new (w.alloc (Obj.cells #[Value.func (.func g) #[] lb] 53)) (Obj.cells #[Value.slice none 0 0] 24)
        unfold Blk
        simpa using this
      exact Blk.frozen hB 0
  have hF0H := Lib.hid hF0
  clear hV hF0
  go_wp2_with (fail)
  go_loopg [10] n (fun gk iv wr => ∃ (i : Nat) (o : List Nat) (v : Value), iv = .int .i64 (i : Nat) ∧ i + gk = n ∧ o.length = i ∧ Fst A n o ∧ FS w wr g lb v (nz o))
  case atStart => exact ⟨0, [], _, rfl, by omega, rfl, Fst.nil A n, hF0H.out⟩
  case round =>
    clear hF0H
    obtain ⟨i, o, v, rfl, hi, hol, hFst, hF⟩ := hrel
    have holH := Lib.hid hol
    have hFstH := Lib.hid hFst
    have hFH := Lib.hid hF
    clear hol hFst
    by_cases hin : i < n
    · obtain ⟨g1, rfl⟩ : ∃ g1, gk = g1 + 1 := ⟨gk - 1, by omega⟩
      clear hF
      go_upto_region 5 with (fail)
      obtain ⟨V6, hV6⟩ : ∃ V6, V6 = wr.alloc (Obj.cells #[Value.int .i64 (i : Nat)] 3) := ⟨_, rfl⟩
      rw [← hV6]
      have hF6 : FS w V6 g lb v (nz o) := by rw [hV6]; exact hFH.out.up ((Below.refl _ _).alloc (Nat.le_refl _) _)
      have c6 : V6.cell? ⟨wr.heap.size, 0, none⟩ = some (.int .i64 (i : Nat)) := by rw [hV6, al_new rfl]; rfl
      have hne6 : v.ownBlock ≠ some wr.heap.size := fun e => by have := (hFH.out.own.lt _ e).2; omega
      have hs6 : w.heap.size + 2 ≤ wr.heap.size := World.block_lt_of_cell? _ _ hFH.out.co
      have hF6H := Lib.hid hF6
      have c6H := Lib.hid c6
      have hne6H := Lib.hid hne6
      clear hV6 hF6 c6 hne6 hFH
      generalize wr.heap.size = b6 at *
      go_wp2_with (fail)
      go_loopg [14] n (fun gk jv wx => ∃ (j : Nat) (v : Value), jv = .int .i64 (j : Nat) ∧ j + gk = n ∧ (∀ k, k < j → ¬ Ext A n (o ++ [k])) ∧ FS w wx g lb v (nz o) ∧ wx.cell? ⟨b6, 0, none⟩ = some (.int .i64 (i : Nat)) ∧ v.ownBlock ≠ some b6)
      case atStart => exact ⟨0, v, rfl, by omega, fun k hk => by omega, hF6H.out, c6H.out, hne6H.out⟩
      case round =>
        clear hF6H c6H hne6H
        obtain ⟨j, v, rfl, hj, hno, hF, c6, hne⟩ := hrel
        have hnoH := Lib.hid hno
        have hFH := Lib.hid hF
        have c6H := Lib.hid c6
        have hneH := Lib.hid hne
        clear hno c6 hne
        by_cases hjn : j < n
        · obtain ⟨g2, rfl⟩ : ∃ g2, gk = g2 + 1 := ⟨gk - 1, by omega⟩
          have k1 := hF.co
          have k2 := hF.fo
          obtain ⟨av, cv, hv⟩ := hF.own.shape
          rw [nz_length, holH.out] at hv
          subst hv
          have hlz : Hid ((nz o).length = i) := by show _ = _; rw [nz_length]; exact holH.out
          have hlz2 : Hid ((nz (o ++ [j])).length = i + 1) := by show _ = _; rw [nz_length, List.length_append, holH.out]; rfl
          have hsz : w.heap.size + 2 ≤ wr.heap.size := World.block_lt_of_cell? _ _ k1
          have hltb6 : b6 < wr.heap.size := World.block_lt_of_cell? _ _ c6H.out
          clear hF
          go_upto_region 9 with (first
            | (at_builtin; go_loud (refine wpList_append_z _ rfl (.tmp 17) (.tmp 19) _ rfl Try.underlying24 (w.heap.size + 2) i (.slice av i cv) (nz o) (j : Nat) (by rfl) (hFH.out.own.below ((Below.refl _ _).alloc (Nat.le_refl _) _)) hlz.out wr.heap.size (by rfl) (by omega) (by simp; omega) (by simp) ?_); intro v2 w2 hZ2 hg2 hob2; rw [nz_snoc] at hZ2; obtain ⟨a2, d2, hv2⟩ := hZ2.shape; rw [hlz2.out] at hv2; subst hv2; have hFP := Lib.hid (hFH.out.put ((Below.refl _ _).alloc (Nat.le_refl _) _) hg2 hZ2); obtain ⟨k3, k4⟩ := (hFH.out.up ((Below.refl _ _).alloc (Nat.le_refl _) (Obj.cells #[Value.int .i64 (j : Nat)] 3))).still hg2; have k6 := Lib.hid (show w2.cell? ⟨b6, 0, none⟩ = some (.int .i64 (i : Nat)) by rw [World.cell?_of_block (w := wr.alloc (Obj.cells #[Value.int .i64 (j : Nat)] 3)) (a := ⟨b6, 0, none⟩) (hg2.block b6 (by simp; omega) (fun e => hneH.out e.symm)), al_old hltb6]; exact c6H.out); have hne2 := Lib.hid (show (Value.slice a2 (i + 1) d2).ownBlock ≠ some b6 by rcases hob2 with h | h; (rw [h]; exact hneH.out); (rw [h]; intro e; injection e with e; simp at e; omega)); clear hZ2 hg2 hob2))
          obtain ⟨W3, hW3⟩ : ∃ W3, W3 = w2.setCell ⟨w.heap.size + 1, 0, none⟩ (.slice a2 (i + 1) d2) := ⟨_, rfl⟩
          rw [← hW3] at hFP ⊢
          have c63 := Lib.hid (show W3.cell? ⟨b6, 0, none⟩ = some (.int .i64 (i : Nat)) by rw [hW3, cell_far (show w.heap.size + 1 ≠ b6 by omega)]; exact k6.out)
          clear hW3 k1 k2 k3 k4 k6 hneH c6H hFH hltb6 hsz
          have hAl := Lib.hid (okA_at A n g lb b6 (w.heap.size + 1) w.heap.size i d2 a2 (o ++ [j]) W3 hn (by rw [List.length_append, holH.out]; rfl) (hAH.out.later hFP.out.below) egH.out c63.out hFP.out.co hFP.out.own.iz.1 hFP.out.ca)
          have hext := Lib.hid (okA_ext (A := A) (n := n) (o := o ++ [j]) (by rw [List.length_append, holH.out]; simp; omega))
          rcases hb : wholeB (okA A (o ++ [j])) n
          · have hbH := Lib.hid hb
            have hnx := Lib.hid (show ¬ Ext A n (o ++ [j]) from fun he => by have := wholeB_iff.2 (hext.out.2 he); rw [hbH.out] at this; cases this)
            clear hb
            go_upto_region 11 with (first
              | (go_at_call 27; go_loud (refine (whole_anyJ (okA A (o ++ [j])) n 26 #[ptr b6, ptr (w.heap.size + 1), ptr w.heap.size] false _ hn hn1 hAl.out eg1.out hbH.out).mono ?_); rintro e w4 ⟨rfl, hb4⟩; have hb4H := Lib.hid hb4; clear hb4))
            have hF4 := hFP.out.up hb4H.out
            have hF4H := Lib.hid hF4
            have q1 := hF4.co
            have q2 := hF4.fo
            have q3 : w4.cell? ⟨b6, 0, none⟩ = some (.int .i64 (i : Nat)) := Below.cellAt hb4H.out (Nat.le_refl _) c63.out
            have q3H := Lib.hid q3
            have hidd : i ≤ d2 := by have := hF4.own.iz.2; omega
            have hI1 : (i : Int) ≤ (d2 : Int) := by omega
            have hI0 : (0 : Int) ≤ (i : Int) := by omega
            clear hF4
            go_wp2_with (fail)
            go_roundg g2
            case measure => omega
            case rel => exact ⟨j + 1, .slice a2 i d2, by go_num, by omega, fun k hk => by rcases Nat.lt_or_eq_of_le (Nat.le_of_lt_succ hk) with h | h; exact hnoH.out k h; subst h; exact hnx.out, by have := hF4H.out.cut (k := i) (by omega); rwa [nz_takeL holH.out] at this, by rw [cell_far (show w.heap.size + 1 ≠ b6 by omega)]; exact q3H.out, by have h9 := hne2.out; cases a2 <;> exact h9⟩
          · have hbH := Lib.hid hb
            have hnx := Lib.hid (hext.out.1 (wholeB_iff.1 hb))
            clear hb
            go_wp2_with (first
              | (go_at_call 27; go_loud (refine (whole_anyJ (okA A (o ++ [j])) n 26 #[ptr b6, ptr (w.heap.size + 1), ptr w.heap.size] true _ hn hn1 hAl.out eg1.out hbH.out).mono ?_); rintro e w4 ⟨rfl, hb4⟩; have hb4H := Lib.hid hb4; clear hb4))
            go_roundg g1
            case measure => omega
            case rel => exact ⟨i + 1, o ++ [j], _, by go_num, by omega, by rw [List.length_append, holH.out]; rfl, hFstH.out.step (by rw [holH.out]; exact hin) hnoH.out hnx.out, hFP.out.up hb4H.out⟩
        · have hje : j = n := by omega
          subst hje
          clear hF
          go_wp2_with (fail)
          rw [Exit.noGoto_ret]
          go_ret
          exact .inl ⟨hFstH.out.none (by rw [holH.out]; exact hin) hnoH.out, rfl, hFH.out.below⟩
    · have hie : i = n := by omega
      subst hie
      have k1 := hF.co
      obtain ⟨g9, c9, hv⟩ : ∃ g c, v = .slice (some ⟨g, 0, none⟩) (nz o).length c := by
        have hne : nz o ≠ [] := fun e => by have := congrArg List.length e; rw [nz_length, holH.out] at this; simp at this; omega
        exact ZE.some (.inl hF.own) hne
      rw [nz_length, holH.out] at hv
      subst hv
      clear hF
      go_wp2_with (fail)
      rw [Exit.noGoto_ret]
      go_ret
      exact .inr ⟨o, g9, 0, c9, hFstH.out.done holH.out (by omega), rfl, hFH.out.own.iz.2, hFH.out.own.iz.1, hFH.out.below⟩
end Go.Proofs.Ytkecdjdggkpdpaa
