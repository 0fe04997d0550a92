/- Rev Dec Text NumS Read Read2 Size Cut Nt OwnQ List WearA WearB Parse Parse1 -/
import Derived.Test.YtkecdjdggkpdpabQRat4
import Derived.Laws.OwnMore
import Derived.Laws.BytesString
import Derived.Laws.IdiomStrings
import Derived.Test.YtkecdjdggkpdpabQShelf
import Derived.Lib.Bytealg
import Derived.Test.YtkecdjdggkpdpabQJo
set_option linter.unusedVariables false
/- Walk of slices.Reverse at bytes. -/
namespace Go.Proofs.Ytkecdjdggkpdpab
open Go Go.RowKit Go.Proofs

/-- A list of bytes in a block that the call owns. -/
def Bown (w : World) (base g n cap : Nat) (xs : List Nat) : Prop := w.ownsRow base 5 1 (.slice (some ⟨g, 0, none⟩) n cap) n (xs.map fun x : Nat => Value.int .u8 x)

theorem Bown.len {w : World} {base g n cap : Nat} {xs : List Nat} (h : Bown w base g n cap xs) : xs.length = n := by
  have := h.1
  simpa using this
theorem Bown.at {w : World} {base g n cap i x : Nat} {xs : List Nat} (h : Bown w base g n cap xs) (hx : xs[i]? = some x) : w.cell? ⟨g, i, none⟩ = some (.int .u8 x) := by
  have hi : i < xs.length := (List.getElem?_eq_some_iff.1 hx).1
  have := h.cellAt i (by have := h.len; omega)
  rw [this, List.getElem?_map, hx]; rfl
theorem Bown.frozen {w : World} {base g n cap : Nat} {xs : List Nat} (h : Bown w base g n cap xs) (i : Nat) : w.frozen? ⟨g, i, none⟩ = false := h.frozenAt i
theorem Bown.set {w : World} {base g n cap : Nat} {xs : List Nat} (h : Bown w base g n cap xs) (i x : Nat) : Bown (w.setCell ⟨g, i, none⟩ (.int .u8 x)) base g n cap (xs.set i x) := by
  have := (h.stored i (.int .u8 x)).1
  unfold Bown
  rw [List.map_set]
  exact this
theorem Bown.drew {w : World} {base g n cap : Nat} {xs : List Nat} (h : Bown w base g n cap xs) : Bown w.drew base g n cap xs := h
theorem Bown.lt {w : World} {base g n cap : Nat} {xs : List Nat} (h : Bown w base g n cap xs) : base ≤ g ∧ g < w.heap.size := World.ownsRow.lt h g rfl

/-- The first i and the last i bytes are exchanged. -/
def Rev (xs ys : List Nat) (i : Nat) : Prop := ys.length = xs.length ∧ ∀ k, k < xs.length → ys[k]? = if k < i ∨ xs.length ≤ k + i then xs.reverse[k]? else xs[k]?

theorem Rev.start (xs : List Nat) : Rev xs xs 0 := ⟨rfl, fun k hk => by rw [if_neg (by omega)]⟩

theorem Rev.left {xs ys : List Nat} {i : Nat} (h : Rev xs ys i) (hi : 2 * i < xs.length) : ys[i]? = xs[i]? := by
  rw [h.2 i (by omega), if_neg (by omega)]
theorem Rev.right {xs ys : List Nat} {i j : Nat} (h : Rev xs ys i) (hj : j + i + 1 = xs.length) (hi : i < j) : ys[j]? = xs[j]? := by
  rw [h.2 j (by omega), if_neg (by omega)]

theorem Rev.step {xs ys : List Nat} {i j a b : Nat} (h : Rev xs ys i) (hj : j + i + 1 = xs.length) (hi : i < j) (ha : xs[i]? = some a) (hb : xs[j]? = some b) : Rev xs ((ys.set i b).set j a) (i + 1) := by
  refine ⟨by simpa using h.1, fun k hk => ?_⟩
  have hl := h.1
  by_cases hkj : k = j
  · subst hkj
    rw [if_pos (by omega), List.getElem?_set, if_pos rfl, if_pos (by simp; omega), List.getElem?_reverse (by omega), show xs.length - 1 - k = i by omega, ha]
  · rw [List.getElem?_set, if_neg (by omega)]
    by_cases hki : k = i
    · subst hki
      rw [if_pos (by omega), List.getElem?_set, if_pos rfl, if_pos (by omega), List.getElem?_reverse (by omega), show xs.length - 1 - k = j by omega, hb]
    · rw [List.getElem?_set, if_neg (by omega), h.2 k hk]
      by_cases hc : k < i ∨ xs.length ≤ k + i
      · rw [if_pos hc, if_pos (by omega)]
      · rw [if_neg hc, if_neg (by omega)]

theorem Rev.done {xs ys : List Nat} {i : Nat} (h : Rev xs ys i) (hi : xs.length ≤ 2 * i + 1) : ys = xs.reverse := by
  refine List.ext_getElem? fun k => ?_
  by_cases hk : k < xs.length
  · rw [h.2 k hk]
    by_cases hc : k < i ∨ xs.length ≤ k + i
    · rw [if_pos hc]
    · rw [if_neg hc, List.getElem?_reverse hk, show xs.length - 1 - k = k by omega]
  · rw [List.getElem?_eq_none (by have := h.1; omega), List.getElem?_eq_none (by simp; omega)]

def RevPost (w : World) (base g n cap : Nat) (xs : List Nat) (e : Ending) (w' : World) : Prop :=
  e = .returned (.tuple #[]) ∧ Bown w' base g n cap xs.reverse ∧ Below base w w'

set_option maxHeartbeats 1600000 in
theorem reverse_any (base g n cap : Nat) (xs : List Nat) (w : World) (h : Bown w base g n cap xs) (hn : n ≤ 4611686018427387904) :
    Calls Try.prog 64 #[.slice (some ⟨g, 0, none⟩) n cap] w (RevPost w base g n cap xs) := by
  have hxl := Lib.hid h.len
  have hB := Lib.hid h
  have hlt := h.lt
  clear h
  go_enter Try.func64, Try.ntmps64
  go_wp2_with (fail)
  go_loopw [2, 3] (fun i j wr => ∃ k jz ys, i = .int .i64 (k : Nat) ∧ j = .int .i64 jz ∧ jz + k + 1 = n ∧ k ≤ n ∧ Rev xs ys k ∧ Bown wr base g n cap ys ∧ Below base w wr) (fun i _ _ => n - (intOf i).toNat)
  case atStart => exact ⟨0, (n : Int) - 1, xs, rfl, rfl, by omega, by omega, Rev.start xs, hB.out, Below.refl _ _⟩
  case round =>
    obtain ⟨k, jz, ys, rfl, rfl, hj, hk, hR, hN, hbl⟩ := hrel
    have hRH := Lib.hid hR
    have hNH := Lib.hid hN
    have hgl := hN.lt.2
    have hg0 := hN.lt.1
    clear hR hN hB
    by_cases hlt2 : (k : Int) < jz
    · obtain ⟨jn, rfl⟩ : ∃ jn : Nat, jz = jn := ⟨jz.toNat, by omega⟩
      obtain ⟨a, ha⟩ : ∃ a, xs[k]? = some a := ⟨_, List.getElem?_eq_getElem (by have := hxl.out; omega)⟩
      obtain ⟨b, hb⟩ : ∃ b, xs[jn]? = some b := ⟨_, List.getElem?_eq_getElem (by have := hxl.out; omega)⟩
      have c1 := hNH.out.at ((hRH.out.left (by have := hxl.out; omega)).trans ha)
      have c2 := hNH.out.at ((hRH.out.right (by have := hxl.out; omega) (by omega)).trans hb)
      have f1 := hNH.out.frozen k
      have f2 := hNH.out.frozen jn
      have hS := Lib.hid (hRH.out.step (by have := hxl.out; omega) (by omega) ha hb)
      clear ha hb
      have i1 : (k : Int) < n := by omega
      have i2 : (jn : Int) < n := by omega
      go_wp2
      go_region
      go_wp2
      go_roundw
      case rel =>
        exact ⟨k + 1, _, _, by go_num, rfl, by omega, by omega, hS.out, (((hNH.out.set k b).set jn a)).drew, (((hbl.setCell (by exact hg0) _).setCell (by exact hg0) _)).drew⟩
      case measure => simp [intOf]; omega
    · have hd := Lib.hid (hRH.out.done (by have := hxl.out; omega))
      go_wp2
      go_end0
      exact ⟨rfl, by rw [← hd.out]; exact hNH.out, hbl⟩

end Go.Proofs.Ytkecdjdggkpdpab

/- Decimal digits of a number, in groups of nine. Plain. -/
namespace Go.Proofs.Ytkecdjdggkpdpab

theorem two_le_10 : 2 ≤ 10 := by decide

theorem digs_get {B : Nat} (hB : 2 ≤ B) : ∀ (i n : Nat), i < L B n → (digs B n)[i]? = some (n / B ^ i % B) := by
  intro i
  induction i with
  | zero =>
    intro n h
    have hn : n ≠ 0 := by rintro rfl; simp [L_zero] at h
    rw [digs_pos hB hn]; simp
  | succ i ih =>
    intro n h
    have hn : n ≠ 0 := by rintro rfl; simp [L_zero] at h
    have hl : i < L B (n / B) := by
      unfold L at h ⊢
      rw [digs_pos hB hn] at h
      simpa using h
    rw [digs_pos hB hn, List.getElem?_cons_succ, ih _ hl, Nat.div_div_eq_div_mul, Nat.pow_succ, Nat.mul_comm B]

theorem lt_L_iff {B : Nat} (hB : 2 ≤ B) (m n : Nat) : m < L B n ↔ 0 < n / B ^ m := by
  have hp : 0 < B ^ m := Nat.pow_pos (by omega)
  constructor
  · intro h; exact Nat.div_pos (pow_le_of_L hB h) hp
  · intro h
    refine Nat.lt_of_not_le fun hle => ?_
    rw [Nat.div_eq_of_lt (lt_of_L_le hB hle)] at h
    omega

/-- What is left above m digits; the rest of its group of nine above j digits. -/
def qt (N m : Nat) : Nat := N / 10 ^ m
def rs (N m j : Nat) : Nat := N / 10 ^ m % 1000000000 / 10 ^ j

theorem qt_start (N : Nat) : qt N 0 = N := by simp [qt]
theorem qt_next (N m : Nat) : qt N m / 1000000000 = qt N (m + 9) := by
  unfold qt
  rw [Nat.div_div_eq_div_mul, Nat.pow_add]
theorem qt_mod (N m : Nat) : qt N m % 1000000000 = rs N m 0 := by simp [qt, rs]
theorem rs_next (N m j : Nat) : rs N m j / 10 = rs N m (j + 1) := by
  unfold rs
  rw [Nat.div_div_eq_div_mul, Nat.pow_succ]
theorem rs_lt (N m j : Nat) : rs N m j < 1000000000 := by
  unfold rs
  have h1 : N / 10 ^ m % 1000000000 < 1000000000 := Nat.mod_lt _ (by decide)
  have h2 := Nat.div_le_self (N / 10 ^ m % 1000000000) (10 ^ j)
  omega
theorem qt_zero (N m : Nat) : qt N m = 0 ↔ L 10 N ≤ m := by
  have := lt_L_iff two_le_10 m N
  unfold qt
  generalize N / 10 ^ m = M at *
  omega
theorem L_qt (N m : Nat) : qt N m ≤ N := Nat.div_le_self _ _

theorem rs_digit (N m j : Nat) (hj : j < 9) (h : m + j < L 10 N) : (digs 10 N)[m + j]? = some (rs N m j % 10) := by
  rw [digs_get two_le_10 _ _ h]
  congr 1
  unfold rs
  rw [Nat.pow_add, ← Nat.div_div_eq_div_mul]
  generalize N / 10 ^ m = M
  rcases (show j = 0 ∨ j = 1 ∨ j = 2 ∨ j = 3 ∨ j = 4 ∨ j = 5 ∨ j = 6 ∨ j = 7 ∨ j = 8 by omega) with rfl | rfl | rfl | rfl | rfl | rfl | rfl | rfl | rfl <;> simp <;> omega

theorem rs_more (N m j : Nat) (hj : j < 9) : (0 < qt N (m + 9) ∨ 0 < rs N m j) ↔ m + j < L 10 N := by
  rw [lt_L_iff two_le_10, ← qt_next]
  unfold rs qt
  rw [Nat.pow_add, ← Nat.div_div_eq_div_mul]
  generalize N / 10 ^ m = M
  rcases (show j = 0 ∨ j = 1 ∨ j = 2 ∨ j = 3 ∨ j = 4 ∨ j = 5 ∨ j = 6 ∨ j = 7 ∨ j = 8 by omega) with rfl | rfl | rfl | rfl | rfl | rfl | rfl | rfl | rfl <;> simp <;> omega

theorem L10_le (N : Nat) : L 10 N ≤ 10 * L B32 N := by
  refine L_le_of_lt two_le_10 _ _ (Nat.lt_of_lt_of_le (lt_pow_L two_le_B32 N) ?_)
  rw [Nat.pow_mul]
  exact Nat.pow_le_pow_left (by unfold B32; decide) _

/-- The bytes of a number's digits, the last digit first. -/
def bl (N : Nat) : List Nat := (digs 10 N).map (48 + ·)
theorem bl_length (N : Nat) : (bl N).length = L 10 N := by simp [bl, L]
theorem bl_next (N m j : Nat) (hj : j < 9) (h : m + j < L 10 N) : (bl N).take (m + j) ++ [48 + rs N m j % 10] = (bl N).take (m + j + 1) := by
  rw [List.take_add_one, bl, List.getElem?_map, rs_digit N m j hj h]; rfl
theorem bl_lt (N : Nat) : ∀ x ∈ bl N, x < 58 := by
  intro x hx
  obtain ⟨y, hy, rfl⟩ := List.mem_map.1 hx
  have := digs_lt two_le_10 N y hy
  omega

/-- A number's decimal digits. -/
def dec (N : Nat) : ByteArray := if N = 0 then ⟨#[48]⟩ else ⟨((bl N).reverse.map UInt8.ofNat).toArray⟩

end Go.Proofs.Ytkecdjdggkpdpab

/- Walk of the program's text. -/
namespace Go.Proofs.Ytkecdjdggkpdpab
open Go Go.RowKit Go.Proofs

theorem info_u8 : (Try.prog.info? 5).map (fun i => (i.zero, i.size, i.bytes)) = some (some (.int .u8 0), 1, 1) := by kernel_rfl

/-- A list of bytes that the call owns, nil or not. -/
def Brow (w : World) (base : Nat) (v : Value) (n : Nat) (xs : List Nat) : Prop := w.ownsRow base 5 1 v n (xs.map fun x : Nat => Value.int .u8 x)

theorem Brow.far {w : World} {base n g : Nat} {v : Value} {xs os : List Nat} (h : Brow w base v n xs) (hq : Nblk .u32 w g 100 os) : v.ownBlock ≠ some g := by
  rcases h.2 with ⟨rfl, _⟩ | ⟨g', cap', cur, rfl, _, hg, _⟩
  · simp [Value.ownBlock]
  · intro he
    simp [Value.ownBlock] at he
    subst he
    have hq' : w.heap[g']? = _ := hq
    rw [hg] at hq'
    injection hq' with hq'
    injection hq' with _ h2
    exact absurd h2 (by decide)

theorem Mag.kept {w w' : World} {g c n : Nat} (h : Mag w (some ⟨g, 0, none⟩) c n) (hg : w'.heap[g]? = w.heap[g]?) : Mag w' (some ⟨g, 0, none⟩) c n := by
  refine ⟨h.1, fun i x hx => ?_⟩
  obtain ⟨b, o, he, hc⟩ := h.2 i x hx
  injection he with he
  injection he with e1 e2 e3
  subst e1 e2
  exact ⟨g, 0, rfl, by rw [← hc]; exact World.cell?_of_block (w := w) (a := ⟨g, 0 + i, none⟩) hg⟩

theorem Nblk.kept {K : IntKind} {w w' : World} {g T : Nat} {xs : List Nat} (h : Nblk K w g T xs) (hg : w'.heap[g]? = w.heap[g]?) : Nblk K w' g T xs := by
  show w'.heap[g]? = _
  rw [hg]; exact h

theorem Brow.below {w w' : World} {base n : Nat} {v : Value} {xs : List Nat} (h : Brow w base v n xs) (hb : Below w.heap.size w w') : Brow w' base v n xs := by
  refine ⟨h.1, ?_⟩
  rcases h.2 with h' | ⟨g', cap', cur, hv, h1, hg, h2⟩
  · exact .inl h'
  · exact .inr ⟨g', cap', cur, hv, h1, by rw [hb.block g' (Array.getElem?_eq_some_iff.1 hg).1]; exact hg, h2⟩

theorem Brow.shape {w : World} {base n : Nat} {v : Value} {xs : List Nat} (h : Brow w base v n xs) : ∃ ao cap, v = .slice ao n cap := own_shape h
theorem Brow.own {w : World} {base n cap : Nat} {ao : Option Addr} {xs : List Nat} (h : Brow w base (.slice ao n cap) n xs) (hn : 0 < n) : ∃ g, ao = some ⟨g, 0, none⟩ ∧ Bown w base g n cap xs := by
  rcases h.2 with ⟨h', _⟩ | ⟨g', cap', cur, hv, h1, hg, h2⟩
  · injection h' with _ h3; omega
  · injection hv with e1 e2 e3
    subst e1 e3
    exact ⟨g', rfl, h⟩

/-- What one more byte leaves. -/
theorem Brow.grown {w0 w1 w2 : World} {base n g c q : Nat} {v : Value} {xs os : List Nat} (hq : Nblk .u32 w0 g 100 os) (hm : Mag w0 (some ⟨g, 0, none⟩) c q) (hv : Brow w0 base v n xs) (h01 : Below w0.heap.size w0 w1) (hg : w1.grownBy w2 v.ownBlock) (hbs : base ≤ w0.heap.size) :
    Nblk .u32 w2 g 100 os ∧ Mag w2 (some ⟨g, 0, none⟩) c q ∧ Below base w0 w2 := by
  have hlt : g < w0.heap.size := hq.lt
  have e1 : w1.heap[g]? = w0.heap[g]? := h01.block g hlt
  have e2 : w2.heap[g]? = w1.heap[g]? := hg.block g (by have := h01.size; omega) (fun e => hv.far hq e.symm)
  have e3 := e2.trans e1
  exact ⟨hq.kept e3, hm.kept e3, (h01.mono hbs).grown hg (Nat.le_trans hbs h01.size) (fun k hk => (World.ownsRow.lt hv k hk).1)⟩

/-- 'append(b, x)', b a list of bytes of the call's own. -/
theorem wpList_append_byte (w : World) {ops : Array Oper} {rest : List Oper} {o : Oper} {a : Act} {Q : Exit → Act → World → Prop} (hg : o.guard = none) (s x : Operand)
    (ho : o.op = .call { callee := .builtin .append, args := #[s, x], argTypes := #[24, 24] }) (base n y : Nat) (v : Value) (xs : List Nat) (hs : a.eval s = v) (hv : Brow w base v n xs)
    (ad : Addr) (hx : a.eval x = .slice (some ad) 1 1) (hb : n ≤ 4000000000) (hbs : base ≤ w.heap.size) (z : Int) (hz : z = (y : Nat)) (hc : w.cell? ad = some (.int .u8 z))
    (hK : ∀ v' w', Brow w' base v' (n + 1) (xs ++ [y]) → w.grownBy w' v.ownBlock → wpList Try.prog ops Q rest (a.put o.dst v') w') : wpList Try.prog ops Q (o :: rest) a w := by
  subst hz
  obtain ⟨i, h2, h3, h4, h5⟩ := info_parts info_u8
  refine wpList_append_own w hg s x _ ho base 5 i (.int .u8 0) 1 1 Try.underlying24 h2 h3 h4 h5 rfl (by omega) v n _ hs hv ad 1 1 [.int .u8 y] hx rfl ?_ ?_ (by unfold maxLen; omega) (by omega) hbs ?_
  · intro j u hu
    rcases j with _ | j
    · rw [show ad.add 0 = ad by obtain ⟨b, o, s⟩ := ad; cases s <;> simp [Addr.add], hc]; simpa using hu
    · simp at hu
  · intro u hu
    rw [List.mem_singleton.1 hu]; rfl
  · intro v' w' ho' hg' _
    exact hK v' w' (by unfold Brow; rw [List.map_append]; exact ho') hg'

/-- A string is returned. -/
def RetStr (w : World) (s : ByteArray) (e : Ending) (w' : World) : Prop := e = .returned (.string s) ∧ Below w.heap.size w w'

theorem bytes_text {w : World} {base g n cap : Nat} {xs : List Nat} (h : Bown w base g n cap xs) (hx : ∀ x ∈ xs, x < 256) :
    (convert 24 9 (.slice (some ⟨g, 0, none⟩) n cap)).run Try.prog w = .ok (.string ⟨(xs.map UInt8.ofNat).toArray⟩) w := by
  have hl := h.len
  have := run_convert_bytes_back (P := Try.prog) w 24 9 5 ⟨g, 0, none⟩ cap (xs.map UInt8.ofNat) Try.underlying24 Try.underlying5 Try.underlying9 (fun j hj => by
    simp at hj
    rw [Addr.add_lit, Nat.zero_add, h.at (List.getElem?_eq_getElem hj)]
    have := hx _ (List.getElem_mem hj)
    simp
    omega)
  rw [List.length_map, hl] at this
  exact this

/-- What byWord leaves of a number's digits above m. -/
def WordQ (w : World) (N m : Nat) (e : Ending) (w' : World) : Prop :=
  ∃ cap os, e = .returned (.tuple #[.slice (some ⟨w.heap.size, 0, none⟩) (L B32 (qt N (m + 9))) cap, .int .u32 ((rs N m 0 : Nat) : Int)]) ∧ Mag w' (some ⟨w.heap.size, 0, none⟩) cap (qt N (m + 9)) ∧ Nblk .u32 w' w.heap.size 100 os ∧ Below w.heap.size w w'

theorem word_group (ax : Option Addr) (cx N m : Nat) (w : World) (hM : Mag w ax cx (qt N m)) (hmq : L B32 (qt N m) ≤ 1000000000) :
    Calls Try.prog 63 #[.slice ax (L B32 (qt N m)) cx, .int .u32 1000000000] w (WordQ w N m) := by
  have hbw := byWord_at ax cx (qt N m) 1000000000 w hM hmq (by omega) (by omega)
  refine hbw.mono ?_
  rintro e w' ⟨cap, os, he, hm, hn, hb⟩
  rw [qt_next] at he hm
  rw [qt_mod] at he
  exact ⟨cap, os, he, hm, hn, hb⟩

theorem text_zero (a1 : Option Addr) (c1 : Nat) (w : World) :
    Calls Try.prog 45 #[.slice a1 0 c1] w (RetStr w (dec 0)) := by
  go_enter Try.func45, Try.ntmps45
  go_wp2_with (fail)
  go_ret
  exact ⟨rfl, Below.refl _ _⟩

set_option maxRecDepth 100000 in
set_option maxHeartbeats 1600000 in
theorem text_pos (a1 : Option Addr) (c1 N : Nat) (w : World) (h1 : Mag w a1 c1 N) (hb1 : L B32 N ≤ 100000000) (hN0 : 0 < N) :
    Calls Try.prog 45 #[.slice a1 (L B32 N) c1] w (RetStr w (dec N)) := by
  have hL10 : L 10 N ≤ 1000000000 := by have := L10_le N; omega
  have hlp := L_pos two_le_B32 (show N ≠ 0 by omega)
  have hl0 : ((L B32 N : Int) == 0) = false := by simp; omega
  go_enter Try.func45, Try.ntmps45
  go_wp2_with (fail)
  clear hl0 hlp
  go_loopw [0, 3] (fun x b wr => ∃ m ax cx, x = .slice ax (L B32 (qt N m)) cx ∧ m ≤ L 10 N ∧ Brow wr w.heap.size b m ((bl N).take m) ∧ Mag wr ax cx (qt N m) ∧ Below w.heap.size w wr) (fun _ b _ => L 10 N - lenOf b)
  case atStart =>
    refine ⟨0, a1, c1, by rw [qt_start], by omega, World.ownsRow_nil _ _ _ _, by rw [qt_start]; exact h1, Below.refl _ _⟩
  case round =>
    obtain ⟨m, ax, cx, rfl, hm, hB, hM, hbl⟩ := hrel
    obtain ⟨ab0, cb0, hbv0⟩ := hB.shape
    subst hbv0
    have hBH := Lib.hid hB
    have hmq : L B32 (qt N m) ≤ 1000000000 := Nat.le_trans (L_mono two_le_B32 (L_qt N m)) (by omega)
    have hbs := hbl.size
    by_cases hmL : m < L 10 N
    · have hq0 : 0 < L B32 (qt N m) := L_pos two_le_B32 (by have := qt_zero N m; omega)
      have hbw := word_group ax cx N m wr hM hmq
      have hbwH := Lib.hid hbw
      have hblH := Lib.hid hbl
      clear hbw hM hbl hB
      obtain ⟨wo, rfl⟩ : ∃ wo : World, wo = wr := ⟨_, rfl⟩
      go_wp2_with (first | (go_at_call 63; (with_reducible refine hbwH.out.mono ?_); rintro e w1 ⟨cq, os, rfl, hm1, hn1, hb1'⟩))
      have hB1 := hBH.out.below hb1'
      have hbl1 := hblH.out.trans (hb1'.mono hbs)
      go_loopw [3, 5, 6] (fun b r i wr => ∃ j, i = .int .i64 (j : Nat) ∧ r = .int .u32 (rs N m j : Nat) ∧ j ≤ 9 ∧ m + j ≤ L 10 N ∧ Brow wr w.heap.size b (m + j) ((bl N).take (m + j)) ∧ Nblk .u32 wr wo.heap.size 100 os ∧ Mag wr (some ⟨wo.heap.size, 0, none⟩) cq (qt N (m + 9)) ∧ Below w.heap.size w wr) (fun _ _ i _ => 9 - (intOf i).toNat)
      case atStart => exact ⟨0, rfl, rfl, by omega, by omega, hB1, hn1, hm1, hbl1⟩
      case round =>
        obtain ⟨j, rfl, rfl, hj9, hmj, hB2, hn2, hm2, hbl2⟩ := hrel
        obtain ⟨ab, cb, hbv⟩ := hB2.shape
        subst hbv
        have hB2H := Lib.hid hB2
        have hn2H := Lib.hid hn2
        have hm2H := Lib.hid hm2
        have hbl2H := Lib.hid hbl2
        have hbs2 := hbl2.size
        clear hB2 hn2 hm2 hbl2 hB1 hbl1 hn1 hm1
        obtain ⟨wi, rfl⟩ : ∃ wi : World, wi = wr := ⟨_, rfl⟩
        by_cases hc : j < 9 ∧ m + j < L 10 N
        · obtain ⟨hj, hmj2⟩ := hc
          have hmore := (rs_more N m j hj).2 hmj2
          have hd := Lib.hid (bl_next N m j hj hmj2)
          have hrl := rs_lt N m j
          have hnx := Lib.hid (rs_next N m j)
          have hj' : (j : Int) < 9 := by omega
          by_cases hq1 : 0 < L B32 (qt N (m + 9))
          · go_wp2_with (first | (at_builtin; go_loud (refine wpList_append_byte _ rfl (.tmp 31) (.tmp 36) rfl w.heap.size (m + j) (48 + rs N m j % 10) (.slice ab (m + j) cb) ((bl N).take (m + j)) rfl (hB2H.out.below ((Below.refl _ _).alloc (Nat.le_refl _) _)) ⟨wi.heap.size, 0, none⟩ rfl (by omega) (by simp; omega) (48 + (rs N m j : Int) % 10) (by simp) (by simp [go_sem]) ?_); intro v' w2 hv2 hg2))
            go_roundw
            case rel =>
              rw [hd.out] at hv2
              obtain ⟨r1, r2, r3⟩ := Brow.grown hn2H.out hm2H.out hB2H.out ((Below.refl _ _).alloc (Nat.le_refl _) _) hg2 hbs2
              refine ⟨j + 1, by go_num, ?_, by omega, by omega, hv2, r1, r2, hbl2H.out.trans r3⟩
              have := hnx.out
              refine int_eq ?_
              omega
            case measure => simp [intOf]; omega
          · have hr1 : 0 < rs N m j := by
              rcases hmore with h | h
              · exact absurd (L_pos two_le_B32 (by omega)) hq1
              · exact h
            go_wp2_with (first | (at_builtin; go_loud (refine wpList_append_byte _ rfl (.tmp 31) (.tmp 36) rfl w.heap.size (m + j) (48 + rs N m j % 10) (.slice ab (m + j) cb) ((bl N).take (m + j)) rfl (hB2H.out.below ((Below.refl _ _).alloc (Nat.le_refl _) _)) ⟨wi.heap.size, 0, none⟩ rfl (by omega) (by simp; omega) (48 + (rs N m j : Int) % 10) (by simp) (by simp [go_sem]) ?_); intro v' w2 hv2 hg2))
            go_roundw
            case rel =>
              rw [hd.out] at hv2
              obtain ⟨r1, r2, r3⟩ := Brow.grown hn2H.out hm2H.out hB2H.out ((Below.refl _ _).alloc (Nat.le_refl _) _) hg2 hbs2
              refine ⟨j + 1, by go_num, ?_, by omega, by omega, hv2, r1, r2, hbl2H.out.trans r3⟩
              have := hnx.out
              refine int_eq ?_
              omega
            case measure => simp [intOf]; omega
        · by_cases hj : j < 9
          · have hmj3 : m + j = L 10 N := by omega
            have hno := rs_more N m j hj
            have hq2 : qt N (m + 9) = 0 := by omega
            have hr2 : ¬ 0 < rs N m j := by omega
            have hq3 : ¬ 0 < L B32 (qt N (m + 9)) := by rw [hq2, L_zero]; omega
            have hq4 : qt N (m + j) = 0 := (qt_zero N _).2 (by omega)
            have hq5 : Hid (qt N (m + 9) = qt N (m + j)) := by show _ = _; rw [hq2, hq4]
            have hm3 := hm2H.out
            rw [hq5.out] at hm3
            have hm3H := Lib.hid hm3
            have hj0 : 0 < j := by omega
            clear hno hq2 hq4 hm3 hmj3 hc
            go_wp2
            go_roundw
            case rel => exact ⟨m + j, _, _, by rw [← hq5.out], hmj, hB2H.out, hm3H.out, hbl2H.out⟩
            case measure => simp [lenOf]; omega
          · have hj9' : j = 9 := by omega
            subst hj9'
            clear hc
            go_wp2
            go_roundw
            case rel => exact ⟨m + 9, _, _, rfl, hmj, hB2H.out, hm2H.out, hbl2H.out⟩
            case measure => simp [lenOf]; omega
    · have hm3 : m = L 10 N := by omega
      have hq0 : L B32 (qt N m) = 0 := by rw [(qt_zero N m).2 (by omega), L_zero]
      have hpos : 0 < m := by rw [hm3]; exact L_pos two_le_10 (by omega)
      obtain ⟨g, hab, hO⟩ := hB.own hpos
      subst hab
      have hO2 : Bown wr w.heap.size g m cb0 (bl N) := by
        have e : (bl N).take m = bl N := List.take_of_length_le (by rw [bl_length]; omega)
        rw [← e]; exact hO
      have hO2H := Lib.hid hO2
      have hblH := Lib.hid hbl
      have hm9 : m ≤ 1000000000 := by omega
      clear hO hB hBH hO2 hM hm3 hmL
      go_wp2_with (first | (go_at_call 64; (with_reducible refine (reverse_any w.heap.size g m cb0 (bl N) _ hO2H.out (by omega)).mono ?_); rintro e w3 ⟨rfl, hb3, hbl3⟩; have kc := bytes_text hb3 (fun x hx => Nat.lt_trans (bl_lt N x (List.mem_reverse.1 hx)) (by omega))))
      go_ret
      refine ⟨?_, hblH.out.trans hbl3⟩
      unfold dec
      rw [if_neg (by omega), List.map_reverse]
      rfl

theorem text_any (a1 : Option Addr) (c1 N : Nat) (w : World) (h1 : Mag w a1 c1 N) (hb1 : L B32 N ≤ 100000000) :
    Calls Try.prog 45 #[.slice a1 (L B32 N) c1] w (RetStr w (dec N)) := by
  rcases Nat.eq_zero_or_pos N with rfl | h
  · exact text_zero a1 c1 w
  · exact text_pos a1 c1 N w h1 hb1 h

end Go.Proofs.Ytkecdjdggkpdpab

/- Walks of the program's fractions in words: Num, Fits. -/
namespace Go.Proofs.Ytkecdjdggkpdpab
open Go Go.RowKit Go.Proofs

/-- The digits of a size. -/
def sdec (z : Int) : ByteArray := dec z.natAbs

/-- What Num answers. -/
def numRes (q : Rat) : ByteArray × Int :=
  if 4000 < (sdec (rn q)).size then (⟨#[]⟩, 4)
  else if isInt q then ((if ng (rn q) then ⟨#[45]⟩ ++ sdec (rn q) else sdec (rn q)), 0)
  else if 4000 < (sdec (rd q)).size then (⟨#[]⟩, 4)
  else ((if ng (rn q) then ⟨#[45]⟩ ++ sdec (rn q) else sdec (rn q)) ++ ⟨#[47]⟩ ++ sdec (rd q), 0)

def RetNumS (w : World) (r : ByteArray × Int) (e : Ending) (w' : World) : Prop := e = .returned (.tuple #[.string r.1, .int .i64 r.2]) ∧ Below w.heap.size w w'

theorem text_int (a1 : Option Addr) (c1 : Nat) (z : Int) (w : World) (h1 : IM w a1 c1 z) (hb1 : LI z ≤ 100000000) :
    Calls Try.prog 45 #[.slice a1 (LI z) c1] w (RetStr w (sdec z)) := text_any a1 c1 z.natAbs w h1 hb1

def RetBool (w : World) (b : Bool) (e : Ending) (w' : World) : Prop := e = .returned (.bool b) ∧ Below w.heap.size w w'

/-- Do both parts have at most so many digits? -/
def fits (q : Rat) (k : Nat) : Bool := decide ((sdec (rn q)).size ≤ k) && decide ((sdec (rd q)).size ≤ k)

set_option maxHeartbeats 3200000 in
theorem rnum_any (a : Option Addr) (c : Nat) (a' : Option Addr) (c' : Nat) (q : Rat) (w : World) (h1 : RM w a c a' c' q) (hp : Sz q) :
    Calls Try.prog 24 #[.agg #[.bool (ng (rn q)), .slice a (LI (rn q)) c, .bool (ng (rd q)), .slice a' (LI (rd q)) c']] w (RetNumS w (numRes q)) := by
  have h1n : IM w a c (rn q) := h1.1
  have h1d : IM w a' c' (rd q) := h1.2
  obtain ⟨s1, s2⟩ := hp
  obtain ⟨W, hW⟩ : ∃ W, W = w.alloc (Obj.cells #[Value.bool (ng (rn q)), Value.slice a (LI (rn q)) c, Value.bool (ng (rd q)), Value.slice a' (LI (rd q)) c'] 51) := ⟨_, rfl⟩
  have e0 : W.cell? ⟨w.heap.size, 0, none⟩ = some (.bool (ng (rn q))) := by rw [hW]; simp [go_sem]
  have e1 : W.cell? ⟨w.heap.size, 1, none⟩ = some (.slice a (LI (rn q)) c) := by rw [hW]; simp [go_sem]
  have e2 : W.cell? ⟨w.heap.size, 2, none⟩ = some (.bool (ng (rd q))) := by rw [hW]; simp [go_sem]
  have e3 : W.cell? ⟨w.heap.size, 3, none⟩ = some (.slice a' (LI (rd q)) c') := by rw [hW]; simp [go_sem]
  have hbl : Below w.heap.size w W := by rw [hW]; go_grown
  have hWH := Lib.hid hW
  have hblH := Lib.hid hbl
  clear hW
  by_cases hs1 : 4000 < (sdec (rn q)).size
  · have hf : Hid (numRes q = (⟨#[]⟩, 4)) := by show _ = _; simp [numRes, hs1]
    go_enter Try.func24, Try.ntmps24
    go_wp2_with (first | (go_at_call 45; rw [← hWH.out]; (with_reducible refine (text_int a c (rn q) _ (h1n.up hbl) (by omega)).mono ?_); rintro e w1 ⟨rfl, hb1⟩; have g0 := Below.cellAt hb1 (Nat.le_refl _) e0; have g1 := Below.cellAt hb1 (Nat.le_refl _) e1; have g2 := Below.cellAt hb1 (Nat.le_refl _) e2; have g3 := Below.cellAt hb1 (Nat.le_refl _) e3; have hbl1 := hbl.trans (hb1.mono hbl.size)))
    go_ret2
    exact ⟨by rw [hf.out]; rfl, hbl1⟩
  · have hadd := fun w : World => run_string_add_sum (P := Try.prog) (w := w) ⟨#[45]⟩ (sdec (rn q)) (by show 1 + _ ≤ _; omega)
    have hz45 : (ByteArray.mk #[45]).size = 1 := rfl
    have hz47 : (ByteArray.mk #[47]).size = 1 := rfl
    have hsz : (⟨#[45]⟩ ++ sdec (rn q) : ByteArray).size ≤ 4001 := by rw [ByteArray.size_append, hz45]; omega
    by_cases hng0 : ng (rn q) = true
    · have hng : ng (rn q) = true := hng0
      have hngH := Lib.hid hng
      rw [hng] at e0
      have hadd2 := fun w : World => run_string_add_sum (P := Try.prog) (w := w) (⟨#[45]⟩ ++ sdec (rn q) : ByteArray) ⟨#[47]⟩ (by rw [hz47]; omega)
      by_cases hi0 : isInt q = true
      · have hi : isInt q = true := hi0
        have hf : Hid (numRes q = ((⟨#[45]⟩ ++ sdec (rn q) : ByteArray), 0)) := by show _ = _; simp [numRes, hs1, hi, hng]
        clear hng hng0 hadd2 hz45 hz47 hsz
        go_enter Try.func24, Try.ntmps24
        go_wp2_with (first
          | (go_at_call 45; rw [← hWH.out]; (with_reducible refine (text_int a c (rn q) _ (h1n.up hbl) (by omega)).mono ?_); rintro e w1 ⟨rfl, hb1⟩; have g0 := Below.cellAt hb1 (Nat.le_refl _) e0; have g1 := Below.cellAt hb1 (Nat.le_refl _) e1; have g2 := Below.cellAt hb1 (Nat.le_refl _) e2; have g3 := Below.cellAt hb1 (Nat.le_refl _) e3; have hbl1 := hbl.trans (hb1.mono hbl.size))
          | (go_at_call 46; have ti := integer_any a c a' c' q w1 (h1.up hbl1); rw [hngH.out] at ti; (with_reducible refine ti.mono ?_); rintro e w2 ⟨rfl, hb2⟩; have k3 := Below.cellAt hb2 (Nat.le_refl _) g3; have hbl2 := hbl1.trans (hb2.mono hbl1.size)))
        go_ret2
        exact ⟨by rw [hf.out]; rfl, hbl2⟩
      · have hi : isInt q = false := by simpa using hi0
        by_cases hs2 : 4000 < (sdec (rd q)).size
        · have hf : Hid (numRes q = (⟨#[]⟩, 4)) := by show _ = _; simp [numRes, hs1, hi, hs2]
          clear hng hng0 hadd2 hz45 hz47 hsz
          go_enter Try.func24, Try.ntmps24
          go_wp2_with (first
            | (go_at_call 45; rw [← hWH.out]; (with_reducible refine (text_int a c (rn q) _ (h1n.up hbl) (by omega)).mono ?_); rintro e w1 ⟨rfl, hb1⟩; have g0 := Below.cellAt hb1 (Nat.le_refl _) e0; have g1 := Below.cellAt hb1 (Nat.le_refl _) e1; have g2 := Below.cellAt hb1 (Nat.le_refl _) e2; have g3 := Below.cellAt hb1 (Nat.le_refl _) e3; have hbl1 := hbl.trans (hb1.mono hbl.size))
            | (go_at_call 46; have ti := integer_any a c a' c' q w1 (h1.up hbl1); rw [hngH.out] at ti; (with_reducible refine ti.mono ?_); rintro e w2 ⟨rfl, hb2⟩; have k3 := Below.cellAt hb2 (Nat.le_refl _) g3; have hbl2 := hbl1.trans (hb2.mono hbl1.size))
            | (go_at_call 45; (with_reducible refine (text_int a' c' (rd q) _ (h1d.up hbl2) (by omega)).mono ?_); rintro e w3 ⟨rfl, hb3⟩; have hbl3 := hbl2.trans (hb3.mono hbl2.size)))
          go_ret2
          exact ⟨by rw [hf.out]; rfl, hbl3⟩
        · have hf : Hid (numRes q = ((⟨#[45]⟩ ++ sdec (rn q) : ByteArray) ++ ⟨#[47]⟩ ++ sdec (rd q), 0)) := by show _ = _; simp [numRes, hs1, hi, hng, hs2]
          have hadd3 := fun w : World => run_string_add_sum (P := Try.prog) (w := w) ((⟨#[45]⟩ ++ sdec (rn q) : ByteArray) ++ ⟨#[47]⟩) (sdec (rd q)) (by rw [ByteArray.size_append, hz47]; omega)
          clear hng hng0 hz45 hz47 hsz
          go_enter Try.func24, Try.ntmps24
          go_wp2_with (first
            | (go_at_call 45; rw [← hWH.out]; (with_reducible refine (text_int a c (rn q) _ (h1n.up hbl) (by omega)).mono ?_); rintro e w1 ⟨rfl, hb1⟩; have g0 := Below.cellAt hb1 (Nat.le_refl _) e0; have g1 := Below.cellAt hb1 (Nat.le_refl _) e1; have g2 := Below.cellAt hb1 (Nat.le_refl _) e2; have g3 := Below.cellAt hb1 (Nat.le_refl _) e3; have hbl1 := hbl.trans (hb1.mono hbl.size))
            | (go_at_call 46; have ti := integer_any a c a' c' q w1 (h1.up hbl1); rw [hngH.out] at ti; (with_reducible refine ti.mono ?_); rintro e w2 ⟨rfl, hb2⟩; have k3 := Below.cellAt hb2 (Nat.le_refl _) g3; have hbl2 := hbl1.trans (hb2.mono hbl1.size))
            | (go_at_call 45; (with_reducible refine (text_int a' c' (rd q) _ (h1d.up hbl2) (by omega)).mono ?_); rintro e w3 ⟨rfl, hb3⟩; have hbl3 := hbl2.trans (hb3.mono hbl2.size)))
          go_ret2
          exact ⟨by rw [hf.out]; rfl, hbl3⟩
    · have hng : ng (rn q) = false := by simpa using hng0
      have hngH := Lib.hid hng
      rw [hng] at e0
      have hadd2 := fun w : World => run_string_add_sum (P := Try.prog) (w := w) (sdec (rn q)) ⟨#[47]⟩ (by rw [hz47]; omega)
      by_cases hi0 : isInt q = true
      · have hi : isInt q = true := hi0
        have hf : Hid (numRes q = ((sdec (rn q)), 0)) := by show _ = _; simp [numRes, hs1, hi, hng]
        clear hng hng0 hadd2 hz45 hz47 hsz
        go_enter Try.func24, Try.ntmps24
        go_wp2_with (first
          | (go_at_call 45; rw [← hWH.out]; (with_reducible refine (text_int a c (rn q) _ (h1n.up hbl) (by omega)).mono ?_); rintro e w1 ⟨rfl, hb1⟩; have g0 := Below.cellAt hb1 (Nat.le_refl _) e0; have g1 := Below.cellAt hb1 (Nat.le_refl _) e1; have g2 := Below.cellAt hb1 (Nat.le_refl _) e2; have g3 := Below.cellAt hb1 (Nat.le_refl _) e3; have hbl1 := hbl.trans (hb1.mono hbl.size))
          | (go_at_call 46; have ti := integer_any a c a' c' q w1 (h1.up hbl1); rw [hngH.out] at ti; (with_reducible refine ti.mono ?_); rintro e w2 ⟨rfl, hb2⟩; have k3 := Below.cellAt hb2 (Nat.le_refl _) g3; have hbl2 := hbl1.trans (hb2.mono hbl1.size)))
        go_ret2
        exact ⟨by rw [hf.out]; rfl, hbl2⟩
      · have hi : isInt q = false := by simpa using hi0
        by_cases hs2 : 4000 < (sdec (rd q)).size
        · have hf : Hid (numRes q = (⟨#[]⟩, 4)) := by show _ = _; simp [numRes, hs1, hi, hs2]
          clear hng hng0 hadd2 hz45 hz47 hsz
          go_enter Try.func24, Try.ntmps24
          go_wp2_with (first
            | (go_at_call 45; rw [← hWH.out]; (with_reducible refine (text_int a c (rn q) _ (h1n.up hbl) (by omega)).mono ?_); rintro e w1 ⟨rfl, hb1⟩; have g0 := Below.cellAt hb1 (Nat.le_refl _) e0; have g1 := Below.cellAt hb1 (Nat.le_refl _) e1; have g2 := Below.cellAt hb1 (Nat.le_refl _) e2; have g3 := Below.cellAt hb1 (Nat.le_refl _) e3; have hbl1 := hbl.trans (hb1.mono hbl.size))
            | (go_at_call 46; have ti := integer_any a c a' c' q w1 (h1.up hbl1); rw [hngH.out] at ti; (with_reducible refine ti.mono ?_); rintro e w2 ⟨rfl, hb2⟩; have k3 := Below.cellAt hb2 (Nat.le_refl _) g3; have hbl2 := hbl1.trans (hb2.mono hbl1.size))
            | (go_at_call 45; (with_reducible refine (text_int a' c' (rd q) _ (h1d.up hbl2) (by omega)).mono ?_); rintro e w3 ⟨rfl, hb3⟩; have hbl3 := hbl2.trans (hb3.mono hbl2.size)))
          go_ret2
          exact ⟨by rw [hf.out]; rfl, hbl3⟩
        · have hf : Hid (numRes q = ((sdec (rn q)) ++ ⟨#[47]⟩ ++ sdec (rd q), 0)) := by show _ = _; simp [numRes, hs1, hi, hng, hs2]
          have hadd3 := fun w : World => run_string_add_sum (P := Try.prog) (w := w) ((sdec (rn q)) ++ ⟨#[47]⟩) (sdec (rd q)) (by rw [ByteArray.size_append, hz47]; omega)
          clear hng hng0 hz45 hz47 hsz
          go_enter Try.func24, Try.ntmps24
          go_wp2_with (first
            | (go_at_call 45; rw [← hWH.out]; (with_reducible refine (text_int a c (rn q) _ (h1n.up hbl) (by omega)).mono ?_); rintro e w1 ⟨rfl, hb1⟩; have g0 := Below.cellAt hb1 (Nat.le_refl _) e0; have g1 := Below.cellAt hb1 (Nat.le_refl _) e1; have g2 := Below.cellAt hb1 (Nat.le_refl _) e2; have g3 := Below.cellAt hb1 (Nat.le_refl _) e3; have hbl1 := hbl.trans (hb1.mono hbl.size))
            | (go_at_call 46; have ti := integer_any a c a' c' q w1 (h1.up hbl1); rw [hngH.out] at ti; (with_reducible refine ti.mono ?_); rintro e w2 ⟨rfl, hb2⟩; have k3 := Below.cellAt hb2 (Nat.le_refl _) g3; have hbl2 := hbl1.trans (hb2.mono hbl1.size))
            | (go_at_call 45; (with_reducible refine (text_int a' c' (rd q) _ (h1d.up hbl2) (by omega)).mono ?_); rintro e w3 ⟨rfl, hb3⟩; have hbl3 := hbl2.trans (hb3.mono hbl2.size)))
          go_ret2
          exact ⟨by rw [hf.out]; rfl, hbl3⟩

end Go.Proofs.Ytkecdjdggkpdpab

/- Walk of the program's read: decimal digits of a size. -/
namespace Go.Proofs.Ytkecdjdggkpdpab
open Go Go.RowKit Go.Proofs

/-- Is it a decimal digit? -/
def isDig (b : UInt8) : Bool := decide (48 ≤ b.toNat) && decide (b.toNat ≤ 57)

/-- Are the first k bytes digits? -/
def Digs (s : ByteArray) (k : Nat) : Prop := ∀ (i : Nat) (h : i < s.size), i < k → 48 ≤ (s[i]'h).toNat ∧ (s[i]'h).toNat ≤ 57

theorem Digs.next {s : ByteArray} {k : Nat} (h : Digs s k) (hk : k < s.size) (h1 : 48 ≤ (s[k]'hk).toNat) (h2 : (s[k]'hk).toNat ≤ 57) : Digs s (k + 1) := fun i hi hik => by
  by_cases e : i = k
  · subst e; exact ⟨h1, h2⟩
  · exact h i hi (by omega)

theorem toList_ne {s : ByteArray} (h : 0 < s.size) : s.toList.isEmpty = false := by
  have : s.toList.length = s.size := by rw [ByteArray.toList_eq]; exact Array.length_toList
  cases hl : s.toList with
  | nil => rw [hl] at this; simp at this; omega
  | cons a l => rfl

/-- Are the bytes a number's digits, as read wants them? -/
def readOK (s : ByteArray) : Prop := Digs s s.size ∧ s.size ≠ 0 ∧ ¬ ((∃ h : 0 < s.size, (s[0]'h).toNat = 48) ∧ 1 < s.size) ∧ s.size ≤ 4000

def ReadBad (w : World) (e : Ending) (w' : World) : Prop := e = .returned (.tuple #[.slice none 0 0, .bool false]) ∧ Below w.heap.size w w'

end Go.Proofs.Ytkecdjdggkpdpab

/- Walk of the program's read: digits that are valid. -/
namespace Go.Proofs.Ytkecdjdggkpdpab
open Go Go.RowKit Go.Proofs

/-- A byte's digit. -/
def dg (s : ByteArray) (k : Nat) : Nat := if h : k < s.size then (s[k]'h).toNat - 48 else 0

/-- The number of the first k digits; of j digits from k on; powers of ten; the rest of a text. -/
def rv (s : ByteArray) : Nat → Nat | 0 => 0 | k + 1 => 10 * rv s k + dg s k
def gv (s : ByteArray) (k : Nat) : Nat → Nat | 0 => 0 | j + 1 => 10 * gv s k j + dg s (k + j)
def p10 (j : Nat) : Nat := 10 ^ j
def sub (s : ByteArray) (k : Nat) : ByteArray := s.extract k s.size

theorem p10_next (j : Nat) : 10 * p10 j = p10 (j + 1) := by unfold p10; rw [Nat.pow_succ, Nat.mul_comm]
theorem p10_le {j : Nat} (h : j ≤ 9) : 0 < p10 j ∧ p10 j ≤ 1000000000 :=
  ⟨Nat.pow_pos (by omega), Nat.le_trans (Nat.pow_le_pow_right (by omega) h) (by decide)⟩
theorem dg_le {s : ByteArray} (h : Digs s s.size) (k : Nat) : dg s k ≤ 9 := by
  unfold dg
  split
  · rename_i hk; have := h k hk hk; omega
  · omega
theorem gv_lt {s : ByteArray} (h : Digs s s.size) (k : Nat) : ∀ j, gv s k j < p10 j
  | 0 => by simp [gv, p10]
  | j + 1 => by
    have h1 := gv_lt h k j
    have h2 := dg_le h (k + j)
    rw [← p10_next]; simp only [gv]; omega
theorem rv_gv (s : ByteArray) (k : Nat) : ∀ j, rv s k * p10 j + gv s k j = rv s (k + j)
  | 0 => by simp [gv, p10]
  | j + 1 => by
    have h1 := rv_gv s k j
    rw [← p10_next, ← Nat.add_assoc, rv, gv, ← h1, Nat.mul_add, ← Nat.mul_assoc, Nat.mul_comm (rv s k) 10, Nat.mul_assoc]
    omega
theorem sub_size (s : ByteArray) {k : Nat} (hk : k ≤ s.size) : (sub s k).size = s.size - k := by unfold sub; rw [ByteArray.size_extract]; omega
theorem sub_zero (s : ByteArray) : sub s 0 = s := by unfold sub; rw [ByteArray.extract_zero_size]
theorem sub_get {s : ByteArray} (hD : Digs s s.size) {k j : Nat} (hk : k ≤ s.size) (h : j < (sub s k).size) : ((sub s k)[j]'h).toNat = 48 + dg s (k + j) := by
  have hs := sub_size s hk
  have hlt : k + j < s.size := by omega
  have e : (sub s k)[j]'h = s[k + j]'hlt := by
    have h' : j < (s.extract k s.size).size := h
    show (s.extract k s.size)[j]'h' = _
    rw [ByteArray.getElem_extract]
  rw [e, dg, dif_pos hlt]
  have := hD (k + j) hlt hlt
  omega
theorem sub_sub (s : ByteArray) {k n : Nat} (h : k + n ≤ s.size) : (sub s k).extract n (sub s k).size = sub s (k + n) := by
  rw [sub_size s (by omega)]
  unfold sub
  rw [ByteArray.extract_extract]
  congr 1
  omega

theorem L_small {x : Nat} (h0 : 0 < x) (h1 : x < B32) : L B32 x = 1 ∧ digs B32 x = [x] := by
  have e : digs B32 x = [x] := by rw [digs_pos two_le_B32 (by omega), Nat.div_eq_of_lt h1, Nat.mod_eq_of_lt h1, digs_zero]
  exact ⟨by unfold L; rw [e]; rfl, e⟩

theorem dg_one {w : World} {g x : Nat} (hc : w.cell? ⟨g, 0, none⟩ = some (.int .u32 x)) : Dg .u32 w (some ⟨g, 0, none⟩) [x] := by
  intro i y hy
  rcases i with _ | i
  · simp at hy; subst hy; exact ⟨g, 0, rfl, hc⟩
  · simp at hy

theorem mag_one {w : World} {g x : Nat} (h0 : 0 < x) (h1 : x < B32) (hc : w.cell? ⟨g, 0, none⟩ = some (.int .u32 x)) : Mag w (some ⟨g, 0, none⟩) 1 x := by
  obtain ⟨e1, e2⟩ := L_small h0 h1
  exact ⟨by omega, by rw [e2]; exact dg_one hc⟩

theorem times_one (a1 : Option Addr) (c1 x g y : Nat) (w : World) (h1 : Mag w a1 c1 x) (hb1 : L B32 x ≤ 1000000000) (h0 : 0 < y) (hy : y < B32) (hc : w.cell? ⟨g, 0, none⟩ = some (.int .u32 y)) :
    Calls Try.prog 57 #[.slice a1 (L B32 x) c1, .slice (some ⟨g, 0, none⟩) 1 1] w (RetMag w (x * y)) := by
  have e := (L_small h0 hy).1
  have := times_any a1 (some ⟨g, 0, none⟩) c1 1 x y w h1 (mag_one h0 hy hc) hb1 (by omega)
  rw [e] at this
  exact this

theorem trim_one (g y : Nat) (w : World) (hy : y < B32) (hc : w.cell? ⟨g, 0, none⟩ = some (.int .u32 y)) :
    Calls Try.prog 54 #[.slice (some ⟨g, 0, none⟩) 1 1] w (TrimPost w (some ⟨g, 0, none⟩) 1 y) := by
  have := trim_any (some ⟨g, 0, none⟩) 1 [y] w (dg_one hc) (fun x hx => by rw [List.mem_singleton.1 hx]; exact hy) (by simp) (by simp)
  simpa [val] using this

def strLen : Value → Nat | .string s => s.size | _ => 0

/-- What read leaves of digits. -/
def ReadGood (w : World) (n : Nat) (e : Ending) (w' : World) : Prop :=
  ∃ ao cap, e = .returned (.tuple #[.slice ao (L B32 n) cap, .bool true]) ∧ Mag w' ao cap n ∧ Below w.heap.size w w'

theorem rv_L {s : ByteArray} (h : Digs s s.size) : ∀ k, rv s k < p10 k
  | 0 => by simp [rv, p10]
  | k + 1 => by
    have h1 := rv_L h k
    have h2 := dg_le h k
    rw [← p10_next]; simp only [rv]; omega

theorem L_rv {s : ByteArray} (h : Digs s s.size) (k : Nat) : L B32 (rv s k) ≤ k := by
  refine L_le_of_lt two_le_B32 _ _ (Nat.lt_of_lt_of_le (rv_L h k) ?_)
  exact Nat.pow_le_pow_left (by unfold B32; omega) _

/-- How many digits the first group has. -/
def nn (m : Nat) : Nat := m % 9 + 1
theorem nn_le (m : Nat) : nn m ≤ 9 ∧ nn m ≤ m + 1 ∧ 0 < nn m := by unfold nn; omega
theorem wrap64_small {z : Int} (h0 : -9223372036854775808 ≤ z) (h1 : z < 9223372036854775808) : wrap64 z = z := by unfold wrap64; omega
theorem nn_eq {m : Nat} (h : m < 4000) : wrap64 ((m : Int).tmod 9 + 1) = ((nn m : Nat) : Int) := by
  have e : (m : Int).tmod 9 = ((m % 9 : Nat) : Int) := by rw [Int.tmod_eq_emod_of_nonneg (by omega)]; omega
  rw [e, wrap64_small (by omega) (by omega)]
  unfold nn; omega

end Go.Proofs.Ytkecdjdggkpdpab

/- Sizes of fractions by a common denominator. Plain. -/
namespace Go.Proofs.Ytkecdjdggkpdpab

/-- The fraction times d is an integer of at most m. -/
def Bd (d m : Nat) (q : Rat) : Prop := ∃ z : Int, q * ((d : Int) : Rat) = (z : Rat) ∧ z.natAbs ≤ m

theorem Bd.mono {d m m' : Nat} {q : Rat} (h : Bd d m q) (hm : m ≤ m') : Bd d m' q := by
  obtain ⟨z, h1, h2⟩ := h
  exact ⟨z, h1, by omega⟩
theorem Bd.add {d m m' : Nat} {p q : Rat} (hp : Bd d m p) (hq : Bd d m' q) : Bd d (m + m') (p + q) := by
  obtain ⟨z, h1, h2⟩ := hp
  obtain ⟨y, h3, h4⟩ := hq
  refine ⟨z + y, ?_, by omega⟩
  rw [Rat.intCast_add, ← h1, ← h3]; grind
theorem Bd.neg {d m : Nat} {q : Rat} (h : Bd d m q) : Bd d m (-q) := by
  obtain ⟨z, h1, h2⟩ := h
  refine ⟨-z, ?_, by omega⟩
  rw [Rat.intCast_neg, ← h1]; grind
theorem Bd.sub {d m m' : Nat} {p q : Rat} (hp : Bd d m p) (hq : Bd d m' q) : Bd d (m + m') (p - q) := by
  rw [Rat.sub_eq_add_neg]; exact hp.add hq.neg
theorem Bd.mul {d e m m' : Nat} {p q : Rat} (hp : Bd d m p) (hq : Bd e m' q) : Bd (d * e) (m * m') (p * q) := by
  obtain ⟨z, h1, h2⟩ := hp
  obtain ⟨y, h3, h4⟩ := hq
  refine ⟨z * y, ?_, by rw [Int.natAbs_mul]; exact Nat.mul_le_mul h2 h4⟩
  rw [Rat.intCast_mul, ← h1, ← h3, Int.natCast_mul, Rat.intCast_mul]; grind
theorem Bd.up {d m : Nat} {q : Rat} (h : Bd d m q) (k : Nat) : Bd (d * k) (m * k) q := by
  obtain ⟨z, h1, h2⟩ := h
  refine ⟨z * k, ?_, by rw [Int.natAbs_mul]; exact Nat.mul_le_mul h2 (Nat.le_refl _)⟩
  rw [Rat.intCast_mul, ← h1, Int.natCast_mul, Rat.intCast_mul]; grind
theorem Bd.zero (d : Nat) : Bd d 0 0 := ⟨0, by grind, by simp⟩
theorem Bd.whole (n d : Nat) : Bd d (n * d) ((n : Int) : Rat) := ⟨n * d, by rw [Rat.intCast_mul], by rw [Int.natAbs_mul]; exact Nat.le_refl _⟩
theorem Bd.self (q : Rat) : Bd (rd q).natAbs (rn q).natAbs q := by
  refine ⟨rn q, ?_, Nat.le_refl _⟩
  have h1 := rd_pos q
  have h2 : ((rd q).natAbs : Int) = rd q := by omega
  rw [h2]
  have h3 := rat_eq q
  rw [Rat.divInt_eq_div] at h3
  have h4 : ((rd q : Int) : Rat) ≠ 0 := by
    intro h
    have : rd q = 0 := by exact_mod_cast h
    omega
  have h5 := Rat.div_mul_cancel (a := ((rn q : Int) : Rat)) h4
  rw [h3] at h5
  exact h5

theorem Bd.eq {d m : Nat} {q : Rat} (h : Bd d m q) (hd : 0 < d) : ∃ z : Int, z.natAbs ≤ m ∧ q = Rat.divInt z d := by
  obtain ⟨z, h1, h2⟩ := h
  refine ⟨z, h2, ?_⟩
  rw [Rat.divInt_eq_div, ← h1]
  have h4 : ((d : Int) : Rat) ≠ 0 := by
    intro h
    have : (d : Int) = 0 := by exact_mod_cast h
    omega
  rw [Rat.mul_div_cancel h4]

theorem Bd.parts {d m : Nat} {q : Rat} (h : Bd d m q) (hd : 0 < d) : (rn q).natAbs ≤ m ∧ (rd q).natAbs ≤ d := by
  obtain ⟨z, hz, rfl⟩ := h.eq hd
  have hd' : (0 : Int) < (d : Int) := by omega
  have hg : 0 < Nat.gcd z.natAbs (d : Int).natAbs := Nat.gcd_pos_of_pos_right _ (by omega)
  rw [rn_divInt hd', rd_divInt hd']
  generalize Nat.gcd z.natAbs (d : Int).natAbs = g at hg
  constructor
  · exact Nat.le_trans (Int.natAbs_ediv_le_natAbs _ _) hz
  · have : ((d : Int) / (g : Int)) = ((d / g : Nat) : Int) := rfl
    rw [this, Int.natAbs_natCast]; exact Nat.div_le_self _ _

theorem LI_le {z : Int} {k : Nat} (h : z.natAbs < B32 ^ k) : LI z ≤ k := L_le_of_lt two_le_B32 k _ h

theorem p10_B32 (k : Nat) : p10 k ≤ B32 ^ k := Nat.pow_le_pow_left (by unfold B32; decide) _

theorem Bd.sz {d m : Nat} {q : Rat} (h : Bd d m q) (hd : 0 < d) (h1 : m < p10 10000) (h2 : d < p10 10000) : Sz q := by
  obtain ⟨a, b⟩ := h.parts hd
  have hp := p10_B32 10000
  have e1 : LI (rn q) ≤ 10000 := LI_le (Nat.lt_of_lt_of_le (Nat.lt_of_le_of_lt a h1) hp)
  have e2 : LI (rd q) ≤ 10000 := LI_le (Nat.lt_of_lt_of_le (Nat.lt_of_le_of_lt b h2) hp)
  exact ⟨by omega, by omega⟩

theorem dec_size (N : Nat) : (dec N).size = if N = 0 then 1 else L 10 N := by
  unfold dec
  split
  · rfl
  · show ((bl N).reverse.map UInt8.ofNat).toArray.size = _
    simp [bl_length]

theorem dec_le {N k : Nat} (h : N < p10 k) (hk : 0 < k) : (dec N).size ≤ k := by
  rw [dec_size]
  split
  · omega
  · exact L_le_of_lt two_le_10 k N h

/-- The text of a fraction. -/
def nt (q : Rat) : ByteArray :=
  if isInt q then (if ng (rn q) then ⟨#[45]⟩ ++ sdec (rn q) else sdec (rn q))
  else (if ng (rn q) then ⟨#[45]⟩ ++ sdec (rn q) else sdec (rn q)) ++ ⟨#[47]⟩ ++ sdec (rd q)

theorem numRes_ok {q : Rat} (h1 : (rn q).natAbs < p10 4000) (h2 : (rd q).natAbs < p10 4000) : numRes q = (nt q, 0) := by
  have e1 : (sdec (rn q)).size ≤ 4000 := dec_le h1 (by omega)
  have e2 : (sdec (rd q)).size ≤ 4000 := dec_le h2 (by omega)
  unfold numRes nt
  rw [if_neg (show ¬ 4000 < (sdec (rn q)).size by omega), if_neg (show ¬ 4000 < (sdec (rd q)).size by omega)]
  by_cases hi : isInt q = true
  · rw [if_pos hi, if_pos hi]
  · rw [if_neg hi, if_neg hi]

end Go.Proofs.Ytkecdjdggkpdpab

/- Walk of strings.Cut at "/". -/
namespace Go.Proofs.Ytkecdjdggkpdpab
open Go Go.RowKit Go.Proofs

/-- Where the stroke stands; is there one; what stands before it and behind it. -/
def cutAt (s : ByteArray) : Int := Lib.indexByte s.data.toList 47
def stroke (s : ByteArray) : Bool := decide (0 ≤ cutAt s)
def over (s : ByteArray) : ByteArray := if 0 ≤ cutAt s then s.extract 0 (cutAt s).toNat else s
def under (s : ByteArray) : ByteArray := if 0 ≤ cutAt s then s.extract ((cutAt s).toNat + 1) s.size else ⟨#[]⟩

def CutPost (w : World) (s : ByteArray) (e : Ending) (w' : World) : Prop :=
  e = .returned (.tuple #[.string (over s), .string (under s), .bool (stroke s)]) ∧ Below w.heap.size w w'

theorem cutAt_lt (s : ByteArray) : cutAt s < s.size := by
  have : ∀ l : List UInt8, Lib.indexByte l 47 < l.length := by
    intro l
    induction l with
    | nil => simp [Lib.indexByte]
    | cons a l ih => unfold Lib.indexByte; simp only [List.length_cons]; split <;> (try split) <;> omega
  have h := this s.data.toList
  rw [← Lib.size_eq] at h
  exact h

end Go.Proofs.Ytkecdjdggkpdpab

/- The text of a valid text's number is the text. Plain. -/
namespace Go.Proofs.Ytkecdjdggkpdpab

theorem digs_rv {s : ByteArray} (hD : Digs s s.size) (h0 : dg s 0 ≠ 0) : ∀ k, digs 10 (rv s (k + 1)) = ((List.range (k + 1)).map (dg s)).reverse ∧ 0 < rv s (k + 1)
  | 0 => by
    have h9 := dg_le hD 0
    have e : rv s 1 = dg s 0 := by simp [rv]
    rw [e, digs_pos two_le_10 h0, Nat.div_eq_of_lt (by omega), Nat.mod_eq_of_lt (by omega), digs_zero]
    exact ⟨rfl, by omega⟩
  | k + 1 => by
    obtain ⟨ih, hp⟩ := digs_rv hD h0 k
    have h9 := dg_le hD (k + 1)
    have e : rv s (k + 1 + 1) = 10 * rv s (k + 1) + dg s (k + 1) := rfl
    have hd : rv s (k + 1 + 1) / 10 = rv s (k + 1) := by omega
    have hm : rv s (k + 1 + 1) % 10 = dg s (k + 1) := by omega
    refine ⟨?_, by omega⟩
    rw [digs_pos two_le_10 (by omega), hd, hm, ih, List.range_succ (n := k + 1), List.map_append, List.reverse_append]
    rfl

theorem dg_byte {s : ByteArray} (hD : Digs s s.size) {i : Nat} (h : i < s.size) : UInt8.ofNat (48 + dg s i) = s[i]'h := by
  have := hD i h h
  have e : 48 + dg s i = (s[i]'h).toNat := by rw [dg, dif_pos h]; omega
  rw [e]; exact UInt8.ofNat_toNat

/-- Digits that are read are written so. -/
theorem dec_rv {s : ByteArray} (h : readOK s) : dec (rv s s.size) = s := by
  obtain ⟨hD, h0, h1, h2⟩ := h
  have hpos : 0 < s.size := by omega
  by_cases hz : dg s 0 = 0
  · have hs1 : s.size = 1 := by
      have hb := hD 0 hpos hpos
      rw [dg, dif_pos hpos] at hz
      by_cases h' : 1 < s.size
      · exact absurd ⟨⟨hpos, by omega⟩, h'⟩ h1
      · omega
    have e : rv s s.size = 0 := by rw [hs1]; simp [rv, hz]
    rw [e]
    show (⟨#[48]⟩ : ByteArray) = s
    apply ByteArray.ext
    apply Array.ext
    · exact hs1.symm
    · intro i hi1 hi2
      have hi0 : i = 0 := by simp at hi1; exact hi1
      subst hi0
      have := dg_byte hD hpos
      rw [hz] at this
      exact this
  · obtain ⟨k, hk⟩ : ∃ k, s.size = k + 1 := ⟨s.size - 1, by omega⟩
    obtain ⟨e, hp⟩ := digs_rv hD hz k
    rw [← hk] at e hp
    unfold dec
    rw [if_neg (by omega)]
    unfold bl
    rw [e, ← List.map_reverse, List.reverse_reverse, List.map_map, List.map_map]
    apply ByteArray.ext
    apply Array.ext
    · show (List.map _ (List.range s.size)).length = s.data.size
      rw [List.length_map, List.length_range]; rfl
    · intro i hi1 hi2
      have hi : i < s.size := hi2
      show (List.map _ (List.range s.size))[i]'_ = _
      rw [List.getElem_map, List.getElem_range]
      exact dg_byte hD hi

end Go.Proofs.Ytkecdjdggkpdpab

/- Appending onto a list of the call's own whose block holds no numbers (so no digit slice lies in it). No function of the program. -/
namespace Go.Proofs.Ytkecdjdggkpdpab
open Go Go.RowKit Go.Proofs

end Go.Proofs.Ytkecdjdggkpdpab

/- Lists of fractions that the call owns. -/
namespace Go.Proofs.Ytkecdjdggkpdpab
open Go Go.RowKit Go.Proofs

/-- Where one fraction's digits lie. -/
structure RP where
  a : Option Addr
  c : Nat
  a' : Option Addr
  c' : Nat

def RMp (w : World) (p : RP) (q : Rat) : Prop := RM w p.a p.c p.a' p.c' q
def ratCells (q : Rat) (p : RP) : List Value := [.bool (ng (rn q)), .slice p.a (LI (rn q)) p.c, .bool (ng (rd q)), .slice p.a' (LI (rd q)) p.c']
def allCells (l : List (Rat × RP)) : List Value := (l.map fun x => ratCells x.1 x.2).flatten

theorem allCells_length (l : List (Rat × RP)) : (allCells l).length = 4 * l.length := by
  induction l with
  | nil => rfl
  | cons x l ih => simp only [allCells, List.map_cons, List.flatten_cons, List.length_append] at ih ⊢; rw [ih]; simp [ratCells]; omega
theorem allCells_snoc (l : List (Rat × RP)) (x : Rat × RP) : allCells (l ++ [x]) = allCells l ++ ratCells x.1 x.2 := by simp [allCells]
theorem allCells_at (l : List (Rat × RP)) (i j : Nat) (x : Rat × RP) (h : l[i]? = some x) (hj : j < 4) : (allCells l)[4 * i + j]? = (ratCells x.1 x.2)[j]? := by
  induction l generalizing i with
  | nil => simp at h
  | cons y l ih =>
    simp only [allCells, List.map_cons, List.flatten_cons]
    rcases i with _ | i
    · simp at h; subst h
      rw [List.getElem?_append_left (by simp [ratCells]; omega)]
      simp
    · rw [List.getElem?_append_right (by simp [ratCells]; omega)]
      have := ih i (by simpa using h)
      rw [← this]
      congr 1
      simp [ratCells]; omega

/-- The slice holds fractions. -/
def QL (w : World) (ao : Option Addr) (qs : List Rat) : Prop :=
  ∀ i q, qs[i]? = some q → ∃ b o p, ao = some ⟨b, o, none⟩ ∧ RMp w p q ∧ w.cell? ⟨b, o + i * 4, none⟩ = some (.bool (ng (rn q))) ∧ w.cell? ⟨b, o + i * 4 + 1, none⟩ = some (.slice p.a (LI (rn q)) p.c) ∧
    w.cell? ⟨b, o + i * 4 + 2, none⟩ = some (.bool (ng (rd q))) ∧ w.cell? ⟨b, o + i * 4 + 3, none⟩ = some (.slice p.a' (LI (rd q)) p.c')

/-- An own list of fractions. -/
def QV (w : World) (base : Nat) (v : Value) (qs : List Rat) : Prop :=
  ∃ l : List (Rat × RP), l.map (·.1) = qs ∧ w.ownsRow base 51 4 v qs.length (allCells l) ∧ NoIntV w v ∧ ∀ x ∈ l, RMp w x.2 x.1

theorem Dg.grown {K : IntKind} {w w' : World} {ao : Option Addr} {xs : List Nat} {v : Value} (h : Dg K w ao xs) (hg : w.grownBy w' v.ownBlock) (hv : NoIntV w v) : Dg K w' ao xs := fun i x hx => by
  obtain ⟨b, o, ha, hc⟩ := h i x hx
  refine ⟨b, o, ha, ?_⟩
  rw [World.cell?_of_block (w := w) (a := ⟨b, o + i, none⟩) (hg.block b (World.block_lt_of_cell? w ⟨b, o + i, none⟩ hc) (fun e => hv b e.symm _ _ _ hc))]
  exact hc
theorem RMp.grown {w w' : World} {p : RP} {q : Rat} {v : Value} (h : RMp w p q) (hg : w.grownBy w' v.ownBlock) (hv : NoIntV w v) : RMp w' p q :=
  ⟨⟨h.1.1, Dg.grown h.1.2 hg hv⟩, ⟨h.2.1, Dg.grown h.2.2 hg hv⟩⟩
theorem RMp.up {w w' : World} {p : RP} {q : Rat} (h : RMp w p q) (hb : Below w.heap.size w w') : RMp w' p q := RM.up h hb

theorem QV.nil (w : World) (base : Nat) : QV w base (.slice none 0 0) [] :=
  ⟨[], rfl, World.ownsRow_nil _ _ _ _, fun g hg => by simp [Value.ownBlock] at hg, fun x hx => by cases hx⟩

theorem QV.ql {w : World} {base n c : Nat} {ao : Option Addr} {qs : List Rat} (h : QV w base (.slice ao n c) qs) : QL w ao qs := by
  obtain ⟨l, rfl, ho, _, hm⟩ := h
  intro i q hq
  rw [List.getElem?_map] at hq
  obtain ⟨x, hx, rfl⟩ := Option.map_eq_some_iff.1 hq
  have hi : i < l.length := (List.getElem?_eq_some_iff.1 hx).1
  rcases ho.2 with ⟨h1, h2⟩ | ⟨g', cap', cur, hv, _⟩
  · rw [List.length_map] at h2; omega
  · injection hv with e1 e2 e3
    subst e1 e3
    refine ⟨g', 0, x.2, rfl, hm x (List.mem_of_getElem? hx), ?_⟩
    have hc : ∀ j, j < 4 → w.cell? ⟨g', 0 + i * 4 + j, none⟩ = (ratCells x.1 x.2)[j]? := by
      intro j hj
      rw [← allCells_at l i j x hx hj, Nat.zero_add, Nat.mul_comm i 4]
      rw [e2] at ho
      exact ho.cellAt (4 * i + j) (by simp; omega)
    exact ⟨hc 0 (by omega), hc 1 (by omega), hc 2 (by omega), hc 3 (by omega)⟩

theorem QL.below {w w' : World} {ao : Option Addr} {qs : List Rat} (h : QL w ao qs) (hb : Below w.heap.size w w') : QL w' ao qs := by
  intro i q hq
  obtain ⟨b, o, p, ha, hm, c0, c1, c2, c3⟩ := h i q hq
  exact ⟨b, o, p, ha, hm.up hb, Below.cellAt hb (Nat.le_refl _) c0, Below.cellAt hb (Nat.le_refl _) c1, Below.cellAt hb (Nat.le_refl _) c2, Below.cellAt hb (Nat.le_refl _) c3⟩

theorem QV.below {w w' : World} {base : Nat} {v : Value} {qs : List Rat} (h : QV w base v qs) (hb : Below w.heap.size w w') : QV w' base v qs := by
  obtain ⟨l, hl, ho, hn, hm⟩ := h
  refine ⟨l, hl, ⟨ho.1, ?_⟩, fun g hg o k z hc => ?_, fun x hx => (hm x hx).up hb⟩
  · rcases ho.2 with h' | ⟨g', cap', cur, hv, h1, hg, h2⟩
    · exact .inl h'
    · exact .inr ⟨g', cap', cur, hv, h1, by rw [hb.block g' (Array.getElem?_eq_some_iff.1 hg).1]; exact hg, h2⟩
  · have hlt := (World.ownsRow.lt ho g hg).2
    rw [World.cell?_of_block (w := w) (a := ⟨g, o, none⟩) (hb.block g hlt)] at hc
    exact hn g hg o k z hc

theorem info_rat : (Try.prog.info? 51).map (fun i => (i.zero, i.size, i.bytes)) = some (some (.agg #[.bool false, .slice none 0 0, .bool false, .slice none 0 0]), 4, 64) := by kernel_rfl

/-- 'append(l, q)', l a list of fractions of the call's own. -/
theorem wpList_append_rat (w : World) {ops : Array Oper} {rest : List Oper} {o : Oper} {a : Act} {Q : Exit → Act → World → Prop} (hg : o.guard = none) (s x : Operand) (t : TypeId)
    (ho : o.op = .call { callee := .builtin .append, args := #[s, x], argTypes := #[t, t] }) (ht : Try.prog.underlying t = some (.slice 51)) (base n : Nat) (v : Value) (qs : List Rat) (q : Rat) (p : RP) (hs : a.eval s = v) (hv : QV w base v qs)
    (hn : qs.length = n) (g0 : Nat) (hx : a.eval x = .slice (some ⟨g0, 0, none⟩) 1 1) (hb : n ≤ 1000000000000) (hbs : base ≤ w.heap.size)
    (c0 : w.cell? ⟨g0, 0, none⟩ = some (.bool (ng (rn q)))) (c1 : w.cell? ⟨g0, 1, none⟩ = some (.slice p.a (LI (rn q)) p.c)) (c2 : w.cell? ⟨g0, 2, none⟩ = some (.bool (ng (rd q)))) (c3 : w.cell? ⟨g0, 3, none⟩ = some (.slice p.a' (LI (rd q)) p.c'))
    (hm : RMp w p q)
    (hK : ∀ v' w', QV w' base v' (qs ++ [q]) → w.grownBy w' v.ownBlock → wpList Try.prog ops Q rest (a.put o.dst v') w') : wpList Try.prog ops Q (o :: rest) a w := by
  obtain ⟨l, hl, hown, hno, hms⟩ := hv
  obtain ⟨i, h2, h3, h4, h5⟩ := info_parts info_rat
  subst hn
  refine wpList_append_noint w hg s x t ho base 51 i _ 4 64 ht h2 h3 h4 h5 rfl (by omega) v qs.length (allCells l) hs hown ⟨g0, 0, none⟩ 1 1 (ratCells q p) hx rfl ?_ ?_ (by unfold maxLen; omega) (by omega) hbs (by omega) hno ?_ ?_ ?_
  · intro j u hu
    rw [Addr.add_lit, Nat.zero_add]
    rcases j with _ | _ | _ | _ | j
    · rw [c0]; exact hu
    · rw [c1]; exact hu
    · rw [c2]; exact hu
    · rw [c3]; exact hu
    · simp [ratCells] at hu
  · intro u hu
    simp [ratCells] at hu
    rcases hu with rfl | rfl | rfl | rfl <;> rfl
  · intro u hu k z
    simp [ratCells] at hu
    rcases hu with rfl | rfl | rfl | rfl <;> simp
  · intro u hu k z
    simp [Value.cells] at hu
    rcases hu with rfl | rfl | rfl | rfl <;> simp
  · intro v' w' ho' hg' hn'
    refine hK v' w' ⟨l ++ [(q, p)], by simp [hl], ?_, hn', ?_⟩ hg'
    · rw [allCells_snoc, List.length_append]; exact ho'
    · intro y hy
      rcases List.mem_append.1 hy with hy | hy
      · exact (hms y hy).grown hg' hno
      · rw [List.mem_singleton.1 hy]; exact hm.grown hg' hno

end Go.Proofs.Ytkecdjdggkpdpab

/- Walks of package wear: turned. -/
namespace Go.Proofs.Ytkecdjdggkpdpab
open Go Go.RowKit Go.Proofs

def RetList (w : World) (qs : List Rat) (e : Ending) (w' : World) : Prop :=
  ∃ ao c, e = .returned (.slice ao qs.length c) ∧ QV w' w.heap.size (.slice ao qs.length c) qs ∧ Below w.heap.size w w'

theorem QV.shape {w : World} {base : Nat} {v : Value} {qs : List Rat} (h : QV w base v qs) : ∃ ao c, v = .slice ao qs.length c := by
  obtain ⟨l, _, ho, _⟩ := h
  rcases ho.2 with ⟨h1, h2⟩ | ⟨g', cap', cur, hv, _⟩
  · exact ⟨none, 0, by rw [h1, h2]⟩
  · exact ⟨_, _, hv⟩

theorem QV.lt {w : World} {base : Nat} {v : Value} {qs : List Rat} (h : QV w base v qs) : ∀ k, v.ownBlock = some k → base ≤ k ∧ k < w.heap.size := by
  obtain ⟨l, _, ho, _⟩ := h
  exact World.ownsRow.lt ho

theorem rev_take (qs : List Rat) (k : Nat) (q : Rat) (hk : k < qs.length) (hq : qs[qs.length - 1 - k]? = some q) : qs.reverse.take k ++ [q] = qs.reverse.take (k + 1) := by
  rw [List.take_add_one, List.getElem?_reverse hk, hq]; rfl

end Go.Proofs.Ytkecdjdggkpdpab

/- Walks of package wear: sum. -/
namespace Go.Proofs.Ytkecdjdggkpdpab
open Go Go.RowKit Go.Proofs

/-- A box of four cells that holds a fraction. -/
def Box (w : World) (g : Nat) (p : RP) (q : Rat) : Prop :=
  RMp w p q ∧ NoInt w g ∧ w.cell? ⟨g, 0, none⟩ = some (.bool (ng (rn q))) ∧ w.cell? ⟨g, 1, none⟩ = some (.slice p.a (LI (rn q)) p.c) ∧ w.cell? ⟨g, 2, none⟩ = some (.bool (ng (rd q))) ∧ w.cell? ⟨g, 3, none⟩ = some (.slice p.a' (LI (rd q)) p.c')

/-- The four cells written. -/
def set4 (w : World) (g : Nat) (p : RP) (q : Rat) : World :=
  (((w.setCell ⟨g, 0, none⟩ (.bool (ng (rn q)))).setCell ⟨g, 1, none⟩ (.slice p.a (LI (rn q)) p.c)).setCell ⟨g, 2, none⟩ (.bool (ng (rd q)))).setCell ⟨g, 3, none⟩ (.slice p.a' (LI (rd q)) p.c')

theorem Rg.set4 {g : Nat} {V w : World} (h : Rg g 4 V w) (p : RP) (q : Rat) : Rg g 4 V (set4 w g p q) := by
  unfold Proofs.Ytkecdjdggkpdpab.set4
  exact Rg.set (Rg.set (Rg.set (Rg.set h _) _) _) _

theorem Box.store {g : Nat} {V w : World} {p : RP} {q : Rat} (h : Rg g 4 V w) (hm : RMp w p q) : Box (set4 w g p q) g p q := by
  obtain ⟨g1, g2, g3, g5, g4⟩ := h
  refine ⟨⟨hm.1.set4 g5 _ _ _ _ _ _ _ _, hm.2.set4 g5 _ _ _ _ _ _ _ _⟩, (Rg.set4 ⟨g1, g2, g3, g5, g4⟩ p q).noInt, ?_, ?_, ?_, ?_⟩
  all_goals simp [Proofs.Ytkecdjdggkpdpab.set4, go_sem, g2]

theorem Box.up {g : Nat} {w w' : World} {p : RP} {q : Rat} (h : Box w g p q) (hb : Below w.heap.size w w') : Box w' g p q := by
  obtain ⟨h1, h2, h3, h4, h5, h6⟩ := h
  refine ⟨h1.up hb, fun o k z hc => ?_, Below.cellAt hb (Nat.le_refl _) h3, Below.cellAt hb (Nat.le_refl _) h4, Below.cellAt hb (Nat.le_refl _) h5, Below.cellAt hb (Nat.le_refl _) h6⟩
  have hg : g < w.heap.size := World.block_lt_of_cell? w ⟨g, 0, none⟩ h3
  rw [World.cell?_of_block (w := w) (a := ⟨g, o, none⟩) (hb.block g hg)] at hc
  exact h2 o k z hc

theorem Box.new (w : World) (p : RP) (q : Rat) (T : TypeId) (hm : RMp w p q) :
    Box (w.alloc (Obj.cells #[.bool (ng (rn q)), .slice p.a (LI (rn q)) p.c, .bool (ng (rd q)), .slice p.a' (LI (rd q)) p.c'] T)) w.heap.size p q ∧
    Rg w.heap.size 4 (w.alloc (Obj.cells #[.bool (ng (rn q)), .slice p.a (LI (rn q)) p.c, .bool (ng (rd q)), .slice p.a' (LI (rd q)) p.c'] T)) (w.alloc (Obj.cells #[.bool (ng (rn q)), .slice p.a (LI (rn q)) p.c, .bool (ng (rd q)), .slice p.a' (LI (rd q)) p.c'] T)) := by
  have hN : NoInt (w.alloc (Obj.cells #[.bool (ng (rn q)), .slice p.a (LI (rn q)) p.c, .bool (ng (rd q)), .slice p.a' (LI (rd q)) p.c'] T)) w.heap.size := by
    refine noInt_cells (heap_alloc_new w _) fun u hu k z => ?_
    simp at hu
    rcases hu with rfl | rfl | rfl | rfl <;> simp
  refine ⟨⟨RM.up hm ((Below.refl _ _).alloc (Nat.le_refl _) _), hN, ?_, ?_, ?_, ?_⟩, Rg.mk (Below.refl _ _) (fun o ho => ?_) (fun o => ?_) hN⟩
  · simp [go_sem]
  · simp [go_sem]
  · simp [go_sem]
  · simp [go_sem]
  · rcases o with _ | _ | _ | _ | o
    · simp [go_sem]
    · simp [go_sem]
    · simp [go_sem]
    · simp [go_sem]
    · omega
  · simp [go_sem]

/-- The four stores of a fraction into the box. -/
theorem Rg.box {g : Nat} {V w : World} {a a' : Option Addr} {c c' : Nat} {r r' : Rat} (h : Rg g 4 V w) (hm : RM w a c a' c' r) (hr : r = r') :
    Box ((((w.setCell ⟨g, 0, none⟩ (.bool (ng (rn r)))).setCell ⟨g, 1, none⟩ (.slice a (LI (rn r)) c)).setCell ⟨g, 2, none⟩ (.bool (ng (rd r)))).setCell ⟨g, 3, none⟩ (.slice a' (LI (rd r)) c')) g ⟨a, c, a', c'⟩ r' ∧
    Rg g 4 V ((((w.setCell ⟨g, 0, none⟩ (.bool (ng (rn r)))).setCell ⟨g, 1, none⟩ (.slice a (LI (rn r)) c)).setCell ⟨g, 2, none⟩ (.bool (ng (rd r)))).setCell ⟨g, 3, none⟩ (.slice a' (LI (rd r)) c')) := by
  subst hr
  have h1 := Box.store (p := ⟨a, c, a', c'⟩) h hm
  have h2 := Rg.set4 h ⟨a, c, a', c'⟩ r
  unfold Proofs.Ytkecdjdggkpdpab.set4 at h1 h2
  exact ⟨h1, h2⟩

theorem Rg.over {N n K : Nat} {W V w : World} (h : Rg N n W V) (hb : Below K V w) (hK : N < K) : Rg N n W w := by
  refine Rg.mk (h.kept.trans (hb.mono (by omega))) (fun o ho => ?_) (fun o => ?_) (fun o k z hc => ?_)
  · rw [hb.cell (p := ⟨N, o, none⟩) hK, h.2.1 o ho, Option.isSome_some]
  · rw [hb.frozen (p := ⟨N, o, none⟩) hK]; exact h.2.2.1 o
  · rw [hb.cell (p := ⟨N, o, none⟩) hK] at hc; exact h.noInt o k z hc

def psum (qs : List Rat) (k : Nat) : Rat := (qs.take k).sum

theorem psum_next (qs : List Rat) (k : Nat) (q : Rat) (h : qs[k]? = some q) : psum qs k + q = psum qs (k + 1) := by
  unfold psum
  rw [List.take_add_one, h]
  simp [List.sum_append, Rat.add_zero]

theorem whole_zero (w : World) : Calls Try.prog 11 #[.int .i64 0] w (RetRat w 0) := whole_any 0 w (by omega)
theorem whole_one (w : World) : Calls Try.prog 11 #[.int .i64 1] w (RetRat w 1) := whole_any 1 w (by omega)

end Go.Proofs.Ytkecdjdggkpdpab

/- What num.Parse takes, and which number it gives. -/
namespace Go.Proofs.Ytkecdjdggkpdpab
open Go Go.RowKit Go.Proofs

/-- Does a sign stand before the digits; the digits behind it. -/
def minus (s : ByteArray) : Bool := Lib.hasPrefix (over s).data.toList [45]
def bare (s : ByteArray) : ByteArray := ⟨(Lib.trimPrefix (over s).data.toList [45]).toArray⟩
/-- The numbers that are read. -/
def pn (s : ByteArray) : Nat := rv (bare s) (bare s).size
def pd (s : ByteArray) : Nat := rv (under s) (under s).size
def pz (s : ByteArray) : Int := sgn (minus s) (pn s)

/-- Is the text a number's? -/
def parseOK (s : ByteArray) : Prop :=
  readOK (bare s) ∧ (stroke s = true → readOK (under s) ∧ 1 < pd s ∧ Nat.gcd (pn s) (pd s) = 1) ∧ ¬ (minus s = true ∧ pn s = 0)
/-- The number. -/
def pden (s : ByteArray) : Int := if stroke s then (pd s : Int) else 1
def parseQ (s : ByteArray) : Rat := Rat.divInt (pz s) (pden s)

theorem natAbs_pz (s : ByteArray) : (pz s).natAbs = pn s := natAbs_sgn _ _
theorem pden_pos {s : ByteArray} (h : parseOK s) : 0 < pden s := by
  unfold pden
  split
  · rename_i hs; have := (h.2.1 hs).2.1; omega
  · omega
theorem pgcd {s : ByteArray} (h : parseOK s) : Nat.gcd (pz s).natAbs (pden s).natAbs = 1 := by
  rw [natAbs_pz]
  unfold pden
  split
  · rename_i hs; rw [Int.natAbs_natCast]; exact (h.2.1 hs).2.2
  · simp
theorem parse_rn {s : ByteArray} (h : parseOK s) : rn (parseQ s) = pz s := by
  unfold parseQ
  rw [rn_divInt (pden_pos h), pgcd h]; simp
theorem parse_rd {s : ByteArray} (h : parseOK s) : rd (parseQ s) = pden s := by
  unfold parseQ
  rw [rd_divInt (pden_pos h), pgcd h]; simp

def CutPre (w : World) (s : ByteArray) (e : Ending) (w' : World) : Prop := e = .returned (.tuple #[.string (bare s), .bool (minus s)]) ∧ w' = w
theorem mag_1 {w : World} {g : Nat} (hc : w.cell? ⟨g, 0, none⟩ = some (.int .u32 1)) : Mag w (some ⟨g, 0, none⟩) 1 1 := mag_one (x := 1) (by omega) (by unfold B32; omega) hc
theorem L_1 : L B32 1 = 1 := (L_small (x := 1) (by omega) (by unfold B32; omega)).1
theorem LI_1 : LI 1 = 1 := L_1
theorem LI_0 : LI 0 = 0 := LI_zero.2 rfl

theorem compare_one (a1 : Option Addr) (c1 x g : Nat) (w : World) (h1 : Mag w a1 c1 x) (hb1 : L B32 x ≤ 1000000000) (hc : w.cell? ⟨g, 0, none⟩ = some (.int .u32 1)) :
    Calls Try.prog 72 #[.slice a1 (L B32 x) c1, .slice (some ⟨g, 0, none⟩) 1 1] w (CmpPost w x 1) := by
  have := compare_any a1 (some ⟨g, 0, none⟩) c1 1 x 1 w h1 (mag_1 hc) hb1 (by rw [L_1]; omega)
  rw [L_1] at this
  exact this

theorem made_one (g : Nat) (w : World) (hc : w.cell? ⟨g, 0, none⟩ = some (.int .u32 1)) :
    Calls Try.prog 53 #[.bool false, .slice (some ⟨g, 0, none⟩) 1 1] w (RetInt w 1) := by
  have := made_any false (some ⟨g, 0, none⟩) 1 1 w (mag_1 hc) (by rw [L_1]; omega)
  rw [L_1] at this
  exact this

def ParsePost (w : World) (s : ByteArray) (e : Ending) (w' : World) : Prop :=
  (parseOK s ∧ (∃ a c a' c', e = .returned (.tuple #[.agg #[.bool (ng (rn (parseQ s))), .slice a (LI (rn (parseQ s))) c, .bool (ng (rd (parseQ s))), .slice a' (LI (rd (parseQ s))) c'], .bool true]) ∧ RM w' a c a' c' (parseQ s)) ∧ Below w.heap.size w w') ∨
  (¬ parseOK s ∧ (∃ b0 b1 x0 x1 n0 n1 k0 k1, e = .returned (.tuple #[.agg #[.bool b0, .slice x0 n0 k0, .bool b1, .slice x1 n1 k1], .bool false])) ∧ Below w.heap.size w w')

/-- The numbers that lie in memory are as they were. -/
def KM (W w' : World) : Prop := ∀ a c n, Mag W a c n → Mag w' a c n
theorem KM.refl (W : World) : KM W W := fun _ _ _ h => h
theorem KM.drew (W : World) : KM W W.drew := fun _ _ _ h => h.up (Below.refl _ _).drew
theorem KM.step {W w1 w2 : World} (h : KM W w1) (hb : Below w1.heap.size w1 w2) : KM W w2 := fun _ _ _ hm => (h _ _ _ hm).up hb
theorem KM.setN {W w1 : World} {N : Nat} (h : KM W w1) (hN : NoInt w1 N) (k : Nat) (v : Value) : KM W (w1.setCell ⟨N, k, none⟩ v) := fun _ _ _ hm => (h _ _ _ hm).setN hN k v

/-- Four cells. -/
abbrev Cells4 (w : World) (B : Nat) (v0 v1 v2 v3 : Value) : Prop :=
  w.cell? ⟨B, 0, none⟩ = some v0 ∧ w.cell? ⟨B, 1, none⟩ = some v1 ∧ w.cell? ⟨B, 2, none⟩ = some v2 ∧ w.cell? ⟨B, 3, none⟩ = some v3
theorem Cells4.up {w w' : World} {B : Nat} {v0 v1 v2 v3 : Value} (h : Cells4 w B v0 v1 v2 v3) (hb : Below w.heap.size w w') : Cells4 w' B v0 v1 v2 v3 :=
  ⟨Below.cellAt hb (Nat.le_refl _) h.1, Below.cellAt hb (Nat.le_refl _) h.2.1, Below.cellAt hb (Nat.le_refl _) h.2.2.1, Below.cellAt hb (Nat.le_refl _) h.2.2.2⟩
theorem Cells4.far {w : World} {B N k : Nat} {v0 v1 v2 v3 : Value} (h : Cells4 w B v0 v1 v2 v3) (hN : N ≠ B) (v : Value) : Cells4 (w.setCell ⟨N, k, none⟩ v) B v0 v1 v2 v3 :=
  ⟨by rw [World.cell?_setCell_far _ _ _ _ hN]; exact h.1, by rw [World.cell?_setCell_far _ _ _ _ hN]; exact h.2.1, by rw [World.cell?_setCell_far _ _ _ _ hN]; exact h.2.2.1, by rw [World.cell?_setCell_far _ _ _ _ hN]; exact h.2.2.2⟩

/-- What the last region keeps: the box that is read, the numbers, the result's block. -/
abbrev Rx (N B : Nat) (v0 v1 v2 v3 : Value) (W w' : World) : Prop := Cells4 w' B v0 v1 v2 v3 ∧ KM W w' ∧ Rg N 4 W w'
theorem Rx.drew {N B : Nat} {v0 v1 v2 v3 : Value} {W : World} (h : Cells4 W B v0 v1 v2 v3) (hR : Rg N 4 W W) : Rx N B v0 v1 v2 v3 W W.drew := ⟨h.up (Below.refl _ _).drew, KM.drew W, hR.drew⟩
theorem Rx.step {N B : Nat} {v0 v1 v2 v3 : Value} {W w1 w2 : World} (h : Rx N B v0 v1 v2 v3 W w1) (hb : Below w1.heap.size w1 w2) : Rx N B v0 v1 v2 v3 W w2 := ⟨h.1.up hb, h.2.1.step hb, Rg.step h.2.2 (by omega) hb⟩
theorem Rx.set4 {N B : Nat} {v0 v1 v2 v3 : Value} {W w1 : World} (h : Rx N B v0 v1 v2 v3 W w1) (hN : N ≠ B) (b0 b1 : Bool) (x0 x1 : Option Addr) (n0 n1 k0 k1 : Nat) :
    Rx N B v0 v1 v2 v3 W ((((w1.setCell ⟨N, 0, none⟩ (.bool b0)).setCell ⟨N, 1, none⟩ (.slice x0 n0 k0)).setCell ⟨N, 2, none⟩ (.bool b1)).setCell ⟨N, 3, none⟩ (.slice x1 n1 k1)) := by
  have r1 := Rg.set (k := 0) h.2.2 (.bool b0)
  have r2 := Rg.set (k := 1) r1 (.slice x0 n0 k0)
  have r3 := Rg.set (k := 2) r2 (.bool b1)
  have r4 := Rg.set (k := 3) r3 (.slice x1 n1 k1)
  refine ⟨(((h.1.far hN _).far hN _).far hN _).far hN _, ?_, r4⟩
  exact (((h.2.1.setN h.2.2.noInt 0 _).setN r1.noInt 1 _).setN r2.noInt 2 _).setN r3.noInt 3 _

/-- The four cells of the result, once they are stored. -/
theorem Cells4.set {N : Nat} {W w1 : World} (h : Rg N 4 W w1) (v0 v1 v2 v3 : Value) :
    Cells4 ((((w1.setCell ⟨N, 0, none⟩ v0).setCell ⟨N, 1, none⟩ v1).setCell ⟨N, 2, none⟩ v2).setCell ⟨N, 3, none⟩ v3) N v0 v1 v2 v3 := by
  obtain ⟨g1, g2, g3, g5, g4⟩ := h
  refine ⟨?_, ?_, ?_, ?_⟩ <;> simp [go_sem, g2]

end Go.Proofs.Ytkecdjdggkpdpab

/- Walk of num.Parse. (Printed by wip/tools/gen_parse.py.) -/
namespace Go.Proofs.Ytkecdjdggkpdpab
open Go Go.RowKit Go.Proofs

theorem bvia {w w1 w2 : World} {o : Obj} (h : Below w.heap.size w w1) (hb : Below (w1.alloc o).heap.size (w1.alloc o) w2) : Below w.heap.size w w2 := by
  have q := h.alloc h.size o
  exact q.trans (hb.mono q.size)
theorem bseq {w w1 w2 : World} (h : Below w.heap.size w w1) (hb : Below w1.heap.size w1 w2) : Below w.heap.size w w2 := h.trans (hb.mono h.size)
theorem Rg.via {N n : Nat} {W w1 w2 : World} {o : Obj} (h : Rg N n W w1) (hn : 0 < n) (hb : Below (w1.alloc o).heap.size (w1.alloc o) w2) : Rg N n W w2 := Rg.step (Rg.alloc h hn o) hn hb
theorem Rg.re {N n : Nat} {V w : World} (h : Rg N n V w) : Rg N n w w := Rg.mk (Below.refl _ _) (fun o ho => by rw [h.2.1 o ho]; rfl) h.2.2.1 h.2.2.2.1

theorem over_size (s : ByteArray) : (over s).size ≤ s.size := by
  unfold over
  split
  · rw [ByteArray.size_extract]; omega
  · exact Nat.le_refl _
theorem under_size (s : ByteArray) : (under s).size ≤ s.size := by
  unfold under
  split
  · rw [ByteArray.size_extract]; omega
  · exact Nat.zero_le _
theorem bare_size (s : ByteArray) : (bare s).size ≤ s.size := by
  refine Nat.le_trans ?_ (over_size s)
  unfold bare
  show (Lib.trimPrefix (over s).data.toList [45]).toArray.size ≤ _
  rw [List.size_toArray]
  unfold Lib.trimPrefix
  split
  · rw [List.length_drop, Array.length_toList]; exact Nat.sub_le _ _
  · rw [Array.length_toList]; exact Nat.le_refl _

def CutB (w : World) (s : ByteArray) (b : Bool) (e : Ending) (w' : World) : Prop :=
  e = .returned (.tuple #[.string (over s), .string (under s), .bool b]) ∧ Below w.heap.size w w'
def PreB (w : World) (s : ByteArray) (b : Bool) (e : Ending) (w' : World) : Prop := e = .returned (.tuple #[.string (bare s), .bool b]) ∧ w' = w
theorem L_pn {s : ByteArray} (h : readOK (bare s)) : L B32 (pn s) ≤ 4000 := Nat.le_trans (L_rv h.1 _) h.2.2.2
theorem L_pd {s : ByteArray} (h : readOK (under s)) : L B32 (pd s) ≤ 4000 := Nat.le_trans (L_rv h.1 _) h.2.2.2
theorem LI_pz {s : ByteArray} (h : readOK (bare s)) : LI (pz s) ≤ 4000 := by unfold LI; rw [natAbs_pz]; exact L_pn h

theorem made_pz (s : ByteArray) (b : Bool) (hb : minus s = b) (a : Option Addr) (c : Nat) (w : World) (h : Mag w a c (pn s)) (hn : L B32 (pn s) ≤ 4000) :
    Calls Try.prog 53 #[.bool b, .slice a (L B32 (pn s)) c] w (RetInt w (pz s)) := by
  subst hb
  exact made_any (minus s) a c (pn s) w h (by omega)
theorem made_pd (s : ByteArray) (a : Option Addr) (c : Nat) (w : World) (h : Mag w a c (pd s)) (hn : L B32 (pd s) ≤ 4000) :
    Calls Try.prog 53 #[.bool false, .slice a (L B32 (pd s)) c] w (RetInt w ((pd s : Nat) : Int)) := made_any false a c (pd s) w h (by omega)

/-- The common divisor, and its comparison with 1. -/
def gq (s : ByteArray) : Int := (Nat.gcd (pn s) (pd s) : Nat)
def sq (s : ByteArray) : Int := sg (gq s - 1)
theorem sq_eq (s : ByteArray) : sq s = 0 ↔ Nat.gcd (pn s) (pd s) = 1 := by unfold sq sg gq; split <;> (try split) <;> omega
theorem LI_gq {s : ByteArray} (h : readOK (under s)) (h1 : 1 < pd s) : LI (gq s) ≤ 4000 := by
  refine Nat.le_trans (L_mono two_le_B32 ?_) (L_pd h)
  unfold gq; rw [Int.natAbs_natCast]; exact Nat.gcd_le_right _ (by omega)

theorem gcd_parse (s : ByteArray) {N B : Nat} {v0 v1 v2 v3 : Value} {W : World} (a a' : Option Addr) (c c' : Nat) (w : World) (hX : Rx N B v0 v1 v2 v3 W w) (h1 : IM W a c (pz s)) (h2 : IM W a' c' ((pd s : Nat) : Int)) (hn : LI (pz s) ≤ 4000) (hd : L B32 (pd s) ≤ 4000) :
    Calls Try.prog 55 #[.agg #[.bool (ng (pz s)), .slice a (LI (pz s)) c], .agg #[.bool (ng ((pd s : Nat) : Int)), .slice a' (LI ((pd s : Nat) : Int)) c']] w (RetInt w (gq s)) := by
  have := gcd_any a a' c c' (pz s) ((pd s : Nat) : Int) w (hX.2.1 _ _ _ h1) (hX.2.1 _ _ _ h2) (by omega) (by unfold LI; rw [Int.natAbs_natCast]; omega)
  rw [natAbs_pz, Int.natAbs_natCast] at this
  exact this
theorem cmp_parse (s : ByteArray) (a a' : Option Addr) (c c' : Nat) (w : World) (h1 : IM w a c (gq s)) (h2 : IM w a' c' 1) (hg : LI (gq s) ≤ 4000) :
    Calls Try.prog 40 #[.agg #[.bool (ng (gq s)), .slice a (LI (gq s)) c], .agg #[.bool (ng 1), .slice a' (LI 1) c']] w (RetNum w (sq s)) := cmp_any a a' c c' (gq s) 1 w h1 h2 (by omega) (by rw [LI_1]; omega)

theorem IM.upb {w w' : World} {a : Option Addr} {c : Nat} {z : Int} (h : IM w a c z) (hb : Below w.heap.size w w') : IM w' a c z := h.up hb

theorem ParsePost.bad {w w' : World} {s : ByteArray} {b0 b1 : Bool} {x0 x1 : Option Addr} {n0 n1 k0 k1 : Nat} (h : ¬ parseOK s) (hb : Below w.heap.size w w') : ParsePost w s (.returned (.tuple #[.agg #[.bool b0, .slice x0 n0 k0, .bool b1, .slice x1 n1 k1], .bool false])) w' := Or.inr ⟨h, ⟨_, _, _, _, _, _, _, _, rfl⟩, hb⟩
theorem ParsePost.good {w w' : World} {s : ByteArray} {a a' : Option Addr} {c c' : Nat} {d : Int} (h : parseOK s) (hd : pden s = d) (h1 : IM w' a c (pz s)) (h2 : IM w' a' c' d) (hb : Below w.heap.size w w') :
    ParsePost w s (.returned (.tuple #[.agg #[.bool (ng (pz s)), .slice a (LI (pz s)) c, .bool (ng d), .slice a' (LI d) c'], .bool true])) w' := by
  subst hd
  refine Or.inl ⟨h, ⟨a, c, a', c', ?_, ?_⟩, hb⟩
  · rw [parse_rn h, parse_rd h]
  · unfold RM; rw [parse_rn h, parse_rd h]; exact ⟨h1, h2⟩

end Go.Proofs.Ytkecdjdggkpdpab
