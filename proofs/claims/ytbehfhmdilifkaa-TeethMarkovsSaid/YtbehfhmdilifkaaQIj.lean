/- Ij -/
import Derived.Test.YtbehfhmdilifkaaQHl
set_option linter.unusedVariables false
/- The reference's Markov: plain laws of its queue; append onto a slice of triples. -/
namespace Go.Proofs.Ytbehfhmdilifkaa
open Go Go.RowKit Go.Proofs

structure Tri where
  f : Nat
  x : Nat
  y : Nat
  z : Nat
def qV (m : Nat) : List Tri → List Nat
  | [] => []
  | t :: ts => rkV t.f m t.x t.y t.z ++ qV m ts
def qN (m : Nat) : List Tri → Nat
  | [] => 0
  | t :: ts => rkN t.f m t.x t.y t.z + qN m ts
theorem qV_app (m : Nat) : ∀ (ts us : List Tri), qV m (ts ++ us) = qV m ts ++ qV m us
  | [], _ => rfl
  | t :: ts, us => by simp only [List.cons_append, qV]; rw [qV_app m ts us, List.append_assoc]
theorem qN_app (m : Nat) : ∀ (ts us : List Tri), qN m (ts ++ us) = qN m ts + qN m us
  | [], _ => by simp [qN]
  | t :: ts, us => by simp only [List.cons_append, qN]; rw [qN_app m ts us]; omega
theorem rkN_pos (f m x y z : Nat) : 1 ≤ rkN f m x y z := by
  cases f with
  | zero => exact Nat.le_refl _
  | succ f => simp only [rkN]; split <;> omega
theorem rkN_le : ∀ (f m x y z : Nat), rkN f m x y z + 1 ≤ 2 ^ (f + 1)
  | 0, _, _, _, _ => by simp [rkN]
  | f + 1, m, x, y, z => by
    have h1 := rkN_le f m x z (3 * x * z - y)
    have h2 := rkN_le f m y z (3 * y * z - x)
    have h3 : 2 ^ (f + 1 + 1) = 2 ^ (f + 1) * 2 := Nat.pow_succ ..
    have h4 : 2 ≤ 2 ^ (f + 1) := by rw [Nat.pow_succ]; have := Nat.one_le_two_pow (n := f); omega
    simp only [rkN]
    split
    · omega
    · split <;> omega
theorem qN_len (m : Nat) : ∀ ts, ts.length ≤ qN m ts
  | [] => Nat.le_refl _
  | t :: ts => by simp only [List.length_cons, qN]; have := qN_len m ts; have := rkN_pos t.f m t.x t.y t.z; omega
/-- What the reference has: the numbers found, the triples to do. -/
structure QI (m : Nat) (out : List Nat) (ts : List Tri) : Prop where
  ok : ∀ t ∈ ts, TOk t.f m t.x t.y t.z
  mem : ∀ v, v ∈ mkL m ↔ v ∈ out ∨ v ∈ qV m ts
  rise : out.Pairwise (· < ·)
theorem QI.done {m : Nat} {out : List Nat} (h : QI m out []) : out = mkL m :=
  rise_ext h.rise mkL_rise (fun v => by rw [h.mem v]; simp [qV])
theorem QI.start {m : Nat} (h1 : 1 ≤ m) (h2 : m ≤ 1000000000) : QI m [] [⟨40, 1, 1, 1⟩, ⟨40, 1, 1, 2⟩, ⟨40, 1, 2, 5⟩] := by
  have e : (2 : Nat) ^ 40 = 1099511627776 := rfl
  refine ⟨fun t ht => ?_, fun v => ?_, List.Pairwise.nil⟩
  · simp at ht
    rcases ht with rfl | rfl | rfl
    · exact ⟨by decide, by decide, by decide, by show m < 1 * 2 ^ 40; omega⟩
    · exact ⟨by decide, by decide, by decide, by show m < 2 * 2 ^ 40; omega⟩
    · exact ⟨by decide, by decide, by decide, by show m < 5 * 2 ^ 40; omega⟩
  · rw [← mkL_ref h1 h2]
    simp [qV]
theorem QI.startN (m : Nat) : qN m [⟨40, 1, 1, 1⟩, ⟨40, 1, 1, 2⟩, ⟨40, 1, 2, 5⟩] ≤ 2199023255560 := by
  have h1 : rkN 40 m 1 1 1 ≤ 1 := by
    show rkN (39 + 1) m 1 1 1 ≤ 1
    rw [rkN]; split
    · omega
    · rw [if_neg (by omega)]; omega
  have h2 : rkN 40 m 1 1 2 ≤ 1 := by
    show rkN (39 + 1) m 1 1 2 ≤ 1
    rw [rkN]; split
    · omega
    · rw [if_neg (by omega)]; omega
  have h3 := rkN_le 40 m 1 2 5
  have e : (2 : Nat) ^ (40 + 1) = 2199023255552 := rfl
  simp only [qN]
  omega
theorem QI.skip {m : Nat} {out : List Nat} {t : Tri} {ts : List Tri} (h : QI m out (t :: ts)) (hz : m < t.z) : QI m out ts ∧ qN m (t :: ts) = 1 + qN m ts := by
  have h1 : rkV t.f m t.x t.y t.z = [] := by
    cases t.f with
    | zero => rfl
    | succ f => rw [rkV, if_pos hz]
  have h2 : rkN t.f m t.x t.y t.z = 1 := by
    cases t.f with
    | zero => rfl
    | succ f => rw [rkN, if_pos hz]
  refine ⟨⟨fun u hu => h.ok u (List.mem_cons_of_mem _ hu), fun v => ?_, h.rise⟩, by simp only [qN, h2]⟩
  rw [h.mem v, qV, h1, List.nil_append]
theorem QI.more {m f x y z : Nat} {out : List Nat} {ts : List Tri} (h : QI m out (⟨f + 1, x, y, z⟩ :: ts)) (hz : z ≤ m) (hc : 1 < y ∧ x < y) :
    QI m (insS z out) (ts ++ [⟨f, x, z, 3 * x * z - y⟩, ⟨f, y, z, 3 * y * z - x⟩]) ∧ qN m (⟨f + 1, x, y, z⟩ :: ts) = 1 + qN m (ts ++ [⟨f, x, z, 3 * x * z - y⟩, ⟨f, y, z, 3 * y * z - x⟩]) := by
  have ht := h.ok ⟨f + 1, x, y, z⟩ (List.mem_cons_self ..)
  simp only at ht
  refine ⟨⟨fun u hu => ?_, fun v => ?_, insS_rise h.rise⟩, ?_⟩
  · rcases List.mem_append.1 hu with hu | hu
    · exact h.ok u (List.mem_cons_of_mem _ hu)
    · simp at hu
      rcases hu with rfl | rfl
      · exact ht.l
      · exact ht.r
  · rw [h.mem v, qV, qV_app, insS_mem]
    simp only [rkV, qV, if_neg (Nat.not_lt.2 hz), if_pos hc, List.mem_append, List.mem_cons, List.append_nil]
    constructor
    · rintro (h1 | (h1 | h1 | h1) | h1)
      · exact .inl (.inr h1)
      · exact .inl (.inl h1)
      · exact .inr (.inr (.inl h1))
      · exact .inr (.inr (.inr h1))
      · exact .inr (.inl h1)
    · rintro ((h1 | h1) | h1 | h1 | h1)
      · exact .inr (.inl (.inl h1))
      · exact .inl h1
      · exact .inr (.inr h1)
      · exact .inr (.inl (.inr (.inl h1)))
      · exact .inr (.inl (.inr (.inr h1)))
  · rw [qN_app]
    simp only [qN, rkN, if_neg (Nat.not_lt.2 hz), if_pos hc]
    omega
theorem QI.last {m f x y z : Nat} {out : List Nat} {ts : List Tri} (h : QI m out (⟨f + 1, x, y, z⟩ :: ts)) (hz : z ≤ m) (hc : ¬ (1 < y ∧ x < y)) :
    QI m (insS z out) ts ∧ qN m (⟨f + 1, x, y, z⟩ :: ts) = 1 + qN m ts := by
  refine ⟨⟨fun u hu => h.ok u (List.mem_cons_of_mem _ hu), fun v => ?_, insS_rise h.rise⟩, ?_⟩
  · rw [h.mem v, qV, insS_mem]
    simp only [rkV, if_neg (Nat.not_lt.2 hz), if_neg hc, List.mem_append, List.mem_cons, List.not_mem_nil, or_false]
    constructor
    · rintro (h1 | h1 | h1)
      · exact .inl (.inr h1)
      · exact .inl (.inl h1)
      · exact .inr h1
    · rintro ((h1 | h1) | h1)
      · exact .inr (.inl h1)
      · exact .inl h1
      · exact .inr (.inr h1)
  · simp only [qN, rkN, if_neg (Nat.not_lt.2 hz), if_neg hc]
theorem rise_len {m : Nat} : ∀ (l : List Nat) (lo : Nat), l.Pairwise (· < ·) → (∀ v ∈ l, lo ≤ v) → (∀ v ∈ l, v ≤ m) → lo ≤ m + 1 → l.length + lo ≤ m + 1
  | [], lo, _, _, _, h => by simpa using h
  | a :: l, lo, h1, h2, h3, h => by
    have h1' := List.pairwise_cons.1 h1
    have ha := h3 a (by simp)
    have hl := h2 a (by simp)
    have ih := rise_len l (a + 1) h1'.2 (fun v hv => h1'.1 v hv) (fun v hv => h3 v (by simp [hv])) (by omega)
    simp only [List.length_cons]; omega
theorem QI.len {m : Nat} {out : List Nat} {ts : List Tri} (h : QI m out ts) (h1 : 1 ≤ m) : out.length ≤ m + 1 := by
  have := rise_len (m := m) out 0 h.rise (fun v _ => Nat.zero_le _) (fun v hv => by
    have h2 := (h.mem v).2 (.inl hv)
    rcases mkL_mem.1 h2 with rfl | h2
    · exact h1
    · exact mkV_le _ _ _ _ _ _ h2) (by omega)
  omega
/-- The cells of triples. -/
def tcells : List Tri → List Value
  | [] => []
  | t :: ts => .int .i64 (t.x : Nat) :: .int .i64 (t.y : Nat) :: .int .i64 (t.z : Nat) :: tcells ts
theorem tcells_app : ∀ (ts us : List Tri), tcells (ts ++ us) = tcells ts ++ tcells us
  | [], _ => rfl
  | t :: ts, us => by simp only [List.cons_append, tcells]; rw [tcells_app ts us]
theorem tcells_length : ∀ ts : List Tri, (tcells ts).length = ts.length * 3
  | [] => rfl
  | t :: ts => by simp only [tcells, List.length_cons]; rw [tcells_length ts]; omega
theorem tcells_one : ∀ (ts : List Tri), ∀ u ∈ tcells ts, u.oneCell' = true
  | [], u, h => by simp [tcells] at h
  | t :: ts, u, h => by
    simp only [tcells, List.mem_cons] at h
    rcases h with rfl | rfl | rfl | h
    · rfl
    · rfl
    · rfl
    · exact tcells_one ts u h
/-- A slice of triples that is own: n of them, from cell off of block g on. -/
structure TD (w : World) (g off n cap : Nat) (L : List Value) : Prop where
  len : L.length = n * 3
  le : n ≤ cap
  capl : cap ≤ maxLen
  at_ : ∀ (j : Nat) (u : Value), L[j]? = some u → w.cell? ⟨g, off + j, none⟩ = some u
  there : ∀ j, j < cap * 3 → (w.cell? ⟨g, off + j, none⟩).isSome = true
  soft : ∀ j, w.frozen? ⟨g, off + j, none⟩ = false
  lt : g < w.heap.size
theorem TD.of_heap {w w' : World} {g off n cap : Nat} {L : List Value} (h : TD w g off n cap L) (he : w'.heap[g]? = w.heap[g]?) (hs : w.heap.size ≤ w'.heap.size) : TD w' g off n cap L := by
  have hc : ∀ o, w'.cell? ⟨g, o, none⟩ = w.cell? ⟨g, o, none⟩ := fun o => by unfold World.cell?; simp only [he]
  have hf : ∀ o, w'.frozen? ⟨g, o, none⟩ = w.frozen? ⟨g, o, none⟩ := fun o => by unfold World.frozen?; simp only [he]
  exact ⟨h.len, h.le, h.capl, fun j u hu => by rw [hc]; exact h.at_ j u hu, fun j hj => by rw [hc]; exact h.there j hj, fun j => by rw [hf]; exact h.soft j, Nat.lt_of_lt_of_le h.lt hs⟩
theorem TD.below {w w' : World} {g off n cap : Nat} {L : List Value} (h : TD w g off n cap L) (hb : Below w.heap.size w w') : TD w' g off n cap L := h.of_heap (hb.block g h.lt) hb.size
/-- The first one taken off. -/
theorem TD.tail {w : World} {g off n cap : Nat} {a b c : Value} {L : List Value} (h : TD w g off (n + 1) cap (a :: b :: c :: L)) (h1 : cap ≠ 1) : TD w g (off + 3) n (cap - 1) L := by
  have hle := h.le
  have hl := h.len
  refine ⟨by simp at hl; omega, by omega, by have := h.capl; omega, fun j u hu => ?_, fun j hj => ?_, fun j => ?_, h.lt⟩
  · have := h.at_ (j + 3) u (by simpa using hu)
    rw [show off + (j + 3) = off + 3 + j by omega] at this; exact this
  · have := h.there (j + 3) (by omega)
    rw [show off + (j + 3) = off + 3 + j by omega] at this; exact this
  · have := h.soft (j + 3)
    rw [show off + (j + 3) = off + 3 + j by omega] at this; exact this
theorem TD.tail1 {w : World} {g off n : Nat} {a b c : Value} {L : List Value} (h : TD w g off (n + 1) 1 (a :: b :: c :: L)) : n = 0 ∧ TD w g off 0 0 [] ∧ L = [] := by
  have hle := h.le
  have hl := h.len
  have hn : n = 0 := by omega
  subst hn
  have hL : L = [] := List.length_eq_zero_iff.1 (by simp only [List.length_cons] at hl; omega)
  exact ⟨rfl, ⟨rfl, Nat.le_refl _, by unfold maxLen; omega, fun j u hu => by simp at hu, fun j hj => by omega, h.soft, h.lt⟩, hL⟩
theorem TD.three {w : World} {g off n cap : Nat} {a b c : Value} {L : List Value} (h : TD w g off n cap (a :: b :: c :: L)) : w.cell? ⟨g, off, none⟩ = some a ∧ w.cell? ⟨g, off + 1, none⟩ = some b ∧ w.cell? ⟨g, off + 2, none⟩ = some c :=
  ⟨h.at_ 0 a rfl, h.at_ 1 b rfl, h.at_ 2 c rfl⟩
theorem info_triT : (Try.prog.info? 115).map (fun i => (i.zero, i.size, i.bytes)) = some (some (.agg #[.int .i64 0, .int .i64 0, .int .i64 0]), 3, 24) := by kernel_rfl
theorem scT (b : Nat) : ∀ (vs : List Value) (o : Nat) (w : World), (w.setCells b o vs).os = w.os ∧ (w.setCells b o vs).tape = w.tape ∧ (w.setCells b o vs).output = w.output ∧ (w.setCells b o vs).heap.size = w.heap.size ∧ ∀ k, k ≠ b → (w.setCells b o vs).heap[k]? = w.heap[k]?
  | [], _, _ => ⟨rfl, rfl, rfl, rfl, fun _ _ => rfl⟩
  | v :: r, o, w => by
    obtain ⟨h1, h2, h3, h4, h5⟩ := scT b r (o + 1) (w.setCell ⟨b, o, none⟩ v)
    refine ⟨h1, h2, h3, ?_, fun k hk => ?_⟩
    · show ((w.setCell ⟨b, o, none⟩ v).setCells b (o + 1) r).heap.size = _
      rw [h4]; simp [World.setCell]
    · show ((w.setCell ⟨b, o, none⟩ v).setCells b (o + 1) r).heap[k]? = _
      rw [h5 k hk]
      exact Below.heap_setCell _ _ _ _ hk
theorem run_append_td (w : World) (t ty : TypeId) (ht : Try.prog.underlying t = some (.slice 115)) {g off n cap : Nat} {L : List Value} (h : TD w g off n cap L) (ad : Addr) (m c : Nat) (news : List Value) (hl : news.length = m * 3)
    (hnews : ∀ (j : Nat) (u : Value), news[j]? = some u → w.cell? (ad.add j) = some u) (h1 : ∀ u ∈ news, u.oneCell' = true) (hb : n + m ≤ 5000000000000) :
    ∃ g' off' cap' w', (Builtin.append_ #[t, t] ty #[.slice (some ⟨g, off, none⟩) n cap, .slice (some ad) m c]).run Try.prog w = .ok (.slice (some ⟨g', off', none⟩) (n + m) cap') w' ∧ TD w' g' off' (n + m) cap' (L ++ news) ∧ (g' = g ∨ w.heap.size ≤ g') ∧ w.grownBy w' (some g) := by
  obtain ⟨i, h2, h3, h4, h5⟩ := info_parts info_triT
  by_cases hr : n + m ≤ cap
  · have hrun := run_append_room_cells (P := Try.prog) w t ty 115 i ht h2 g off n cap ad m c news (by rw [h4]; exact hl) hnews h1 hr
      (fun j hj => by rw [h4, Nat.add_assoc]; exact h.there _ (by omega)) (fun j hj => by rw [h4, Nat.add_assoc]; exact h.soft _)
    rw [h4] at hrun
    obtain ⟨q1, q2, q3, hsz, q5⟩ := scT g news (off + n * 3) w
    refine ⟨g, off, cap, _, hrun, ⟨by rw [List.length_append, h.len, hl, Nat.add_mul], hr, h.capl, fun j u hu => ?_, fun j hj => World.isSome_setCells _ _ _ _ _ (h.there j hj), fun j => ?_, by rw [hsz]; exact h.lt⟩, .inl rfl, ⟨q1, q2, q3, by rw [hsz]; exact Nat.le_refl _, fun k hk hne => q5 k (fun e => hne (by rw [e]))⟩⟩
    · by_cases hj : j < n * 3
      · rw [World.cell?_setCells_out g news _ w _ (fun _ _ => by simp only; omega)]
        rw [List.getElem?_append_left (by rw [h.len]; exact hj)] at hu
        exact h.at_ j u hu
      · rw [List.getElem?_append_right (by rw [h.len]; omega), h.len] at hu
        have hjl : j - n * 3 < news.length := (List.getElem?_eq_some_iff.1 hu).1
        have := World.cell?_setCells_in g news (off + n * 3) w (fun k hk => by rw [Nat.add_assoc]; exact h.there _ (by omega)) (j - n * 3) hjl
        rw [show off + n * 3 + (j - n * 3) = off + j by omega] at this
        rw [this, ← hu]
        exact (List.getElem?_eq_getElem hjl).symm
    · rw [World.frozen?_setCells]; exact h.soft j
  · obtain ⟨v', w', hrun, hown, hgr⟩ := run_append_arg_grows (P := Try.prog) w t ty 115 i _ 3 24 ht h2 h3 h4 h5 rfl (by omega) ⟨g, off, none⟩ n cap L h.len (fun j u hu => by rw [Addr.add_lit]; exact h.at_ j u hu) ad m c news hl hnews (by omega) (by unfold maxLen; omega) (by omega)
    have hgr2 : w.grownBy w' (some g) := ⟨hgr.os, hgr.tape, hgr.output, hgr.size, fun k hk _ => hgr.block k hk (by simp)⟩
    rcases hown.2 with ⟨_, h0⟩ | ⟨g', cap', cur, rfl, hg1, hg2, hg3, hg4, hg5, hg6⟩
    · omega
    · have hc : ∀ o, w'.cell? ⟨g', o, none⟩ = cur[o]? := fun o => by rw [World.cell?]; simp only [hg2]; simp
      have hf : ∀ o, w'.frozen? ⟨g', o, none⟩ = false := fun o => by rw [World.frozen?]; simp only [hg2]; simp
      refine ⟨g', 0, cap', w', hrun, ⟨hown.1, hg3, hg4, fun j u hu => ?_, fun j hj => ?_, fun j => hf _, ?_⟩, .inr hg1, hgr2⟩
      · rw [hc, Nat.zero_add]
        have hjl : j < (n + m) * 3 := by rw [← hown.1]; exact (List.getElem?_eq_some_iff.1 hu).1
        rw [← hg6, List.getElem?_take, if_pos hjl] at hu
        rw [← Array.getElem?_toList]; exact hu
      · rw [hc, Nat.zero_add, Array.getElem?_eq_getElem (by omega)]; rfl
      · exact (Array.getElem?_eq_some_iff.1 hg2).1
theorem wpList_append_td (w : World) {ops : Array Oper} {rest : List Oper} {o : Oper} {a : Act} {Q : Exit → Act → World → Prop} (hgd : o.guard = none) (s x : Operand) (t : TypeId)
    (ho : o.op = .call { callee := .builtin .append, args := #[s, x], argTypes := #[t, t] }) (ht : Try.prog.underlying t = some (.slice 115)) (g off n cap : Nat) (L : List Value) (hs : a.eval s = .slice (some ⟨g, off, none⟩) n cap) (h : TD w g off n cap L)
    (ad : Addr) (m c : Nat) (news : List Value) (hx : a.eval x = .slice (some ad) m c) (hl : news.length = m * 3)
    (hnews : ∀ (j : Nat) (u : Value), news[j]? = some u → w.cell? (ad.add j) = some u) (h1 : ∀ u ∈ news, u.oneCell' = true) (hb : n + m ≤ 5000000000000)
    (hK : ∀ g' off' cap' w', TD w' g' off' (n + m) cap' (L ++ news) → (g' = g ∨ w.heap.size ≤ g') → w.grownBy w' (some g) → wpList Try.prog ops Q rest (a.put o.dst (.slice (some ⟨g', off', none⟩) (n + m) cap')) w') : wpList Try.prog ops Q (o :: rest) a w := by
  refine wpList_plain hgd fun K hK' => ?_
  obtain ⟨g', off', cap', w', hr, q1, q2, q3⟩ := run_append_td w t o.type ht h ad m c news hl hnews h1 hb
  unfold Oper.wp execOp
  simp only [ho, resolve, invoke, builtin, Sem.run_bind, Sem.run_pure, Result.andThen_ok, List.map_toArray, List.map_cons, List.map_nil, hs, hx, hr]
  exact hK' _ _ (hK g' off' cap' w' q1 q2 q3)
theorem IZ.grownT {w w' : World} {ho g : Nat} {xs : List Int} (h : IZ w (some ⟨ho, 0, none⟩) xs) (hg : w.grownBy w' (some g)) (hne : ho ≠ g) : IZ w' (some ⟨ho, 0, none⟩) xs := fun i x hx => by
  obtain ⟨b, o, hb, hc⟩ := h i x hx
  injection hb with hb
  injection hb with h1 h2
  subst h1 h2
  have hlt : ho < w.heap.size := World.block_lt_of_cell? w ⟨ho, 0 + i, none⟩ hc
  exact ⟨ho, 0, rfl, by rw [← hc]; exact World.cell?_of_block (w := w) (a := ⟨ho, 0 + i, none⟩) (hg.block ho hlt (fun e => hne (by injection e)))⟩
theorem IZ.ltT {w : World} {ho : Nat} {xs : List Int} (h : IZ w (some ⟨ho, 0, none⟩) xs) (hne : xs ≠ []) : ho < w.heap.size := by
  rcases xs with _ | ⟨x, xs⟩
  · exact absurd rfl hne
  · obtain ⟨b, o, hb, hc⟩ := h 0 x rfl
    injection hb with hb
    injection hb with h1 h2
    subst h1 h2
    exact World.block_lt_of_cell? w ⟨ho, 0 + 0, none⟩ hc
theorem ze_geM {w : World} {base g n c : Nat} {xs : List Int} (h : ZE w base (.slice (some ⟨g, 0, none⟩) n c) xs) (hne : xs ≠ []) : base ≤ g := by
  rcases h with h | ⟨h, _⟩
  · rcases h.2 with ⟨h1, _⟩ | ⟨g', cap', cur, hv, h1, _⟩
    · cases h1
    · injection hv with e1 e2 e3
      injection e1 with e1
      injection e1 with e1
      rw [e1]; exact h1
  · exact absurd h hne
theorem cell_alM {w : World} {p : Addr} {v : Value} (h : w.cell? p = some v) (o : Obj) : (w.alloc o).cell? p = some v := by
  have hlt := World.block_lt_of_cell? w p h
  rw [World.cell?_alloc_lt w (a := p) (o := o) hlt]; exact h
theorem cell_drM {w : World} {p : Addr} {v : Value} (h : w.cell? p = some v) : w.drew.cell? p = some v := h
theorem ZE.alM {w : World} {base : Nat} {v : Value} {xs : List Int} (h : ZE w base v xs) (o : Obj) : ZE (w.alloc o) base v xs := h.below ((Below.refl _ _).alloc (Nat.le_refl _) o)
theorem ZE.drM {w : World} {base : Nat} {v : Value} {xs : List Int} (h : ZE w base v xs) : ZE w.drew base v xs := h.below (Below.drew (Below.refl _ _))
theorem litT (V : World) (L : List Value) (t : TypeId) : ∀ (j : Nat) (u : Value), L[j]? = some u → (V.alloc (Obj.cells L.toArray t)).cell? ((⟨V.heap.size, 0, none⟩ : Addr).add j) = some u := fun j u hu => by
  rw [Addr.add_lit, al_newT rfl, Nat.zero_add]; simpa using hu
theorem oneT6 (a b c d e f : Int) : ∀ u ∈ [Value.int .i64 a, .int .i64 b, .int .i64 c, .int .i64 d, .int .i64 e, .int .i64 f], u.oneCell' = true := fun u hu => by
  simp at hu
  rcases hu with rfl | rfl | rfl | rfl | rfl | rfl <;> rfl
/-- The box of a triple. -/
structure B3T (W : World) (B : Nat) (x y z : Nat) : Prop where
  z0 : W.cell? ⟨B, 0, none⟩ = some (.int .i64 (x : Nat))
  z1 : W.cell? ⟨B, 1, none⟩ = some (.int .i64 (y : Nat))
  z2 : W.cell? ⟨B, 2, none⟩ = some (.int .i64 (z : Nat))
theorem B3T.new (w : World) (x y z : Nat) : B3T (w.alloc (Obj.cells #[.int .i64 (x : Nat), .int .i64 (y : Nat), .int .i64 (z : Nat)] 115)) w.heap.size x y z :=
  ⟨by rw [al_newT rfl]; rfl, by rw [al_newT rfl]; rfl, by rw [al_newT rfl]; rfl⟩
theorem B3T.up {W W' : World} {B x y z : Nat} (k : B3T W B x y z) (hb : Below W.heap.size W W') : B3T W' B x y z :=
  ⟨Below.cellAt hb (Nat.le_refl _) k.z0, Below.cellAt hb (Nat.le_refl _) k.z1, Below.cellAt hb (Nat.le_refl _) k.z2⟩
theorem nzT_ins {z P : Nat} {out : List Nat} (hP : posS z out = P) (h : P = out.length ∨ out.getD P 0 ≠ z) : nzT (insS z out) = (nzT out).take P ++ [(z : Int)] ++ (nzT out).drop P := by
  rw [insS_new (by rw [hP]; exact h), hP]
  unfold nzT
  simp [List.map_take, List.map_drop]
/-- The triples of a literal. -/
theorem TD.lit (w : World) (ts : List Tri) (hl : ts.length ≤ 5000000000000) : TD (w.alloc (Obj.cells (tcells ts).toArray 115)) w.heap.size 0 ts.length ts.length (tcells ts) := by
  refine ⟨tcells_length ts, Nat.le_refl _, by unfold maxLen; omega, fun j u hu => ?_, fun j hj => ?_, fun j => ?_, by simp⟩
  · rw [al_newT rfl, Nat.zero_add]; simpa using hu
  · rw [al_newT rfl, Nat.zero_add]
    have : j < (tcells ts).toArray.size := by simp [tcells_length]; omega
    rw [Array.getElem?_eq_getElem this]; rfl
  · rw [World.frozen?]
    have : (w.alloc (Obj.cells (tcells ts).toArray 115)).heap[w.heap.size]? = some (.cells (tcells ts).toArray 115 (0, 0)) := heap_alloc_new w _
    simp only [this]; simp
end Go.Proofs.Ytbehfhmdilifkaa
