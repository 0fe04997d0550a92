/- Yb Yc -/
import Derived.Test.YtbehfhmdilifkaaGreatQWn
import Derived.Test.YtbehfhmdilifkaaGreatQWm
set_option linter.unusedVariables false
/- Walk of the reference's figures. -/
namespace Go.Proofs.YtbehfhmdilifkaaGreat
open Go Go.RowKit Go.Proofs

theorem four_conv (w : World) (x : Nat) (hx : x < 10000) (v0 v1 v2 v3 : Int) (h0 : v0 = 48 + x / 1000) (h1 : v1 = 48 + x / 100 % 10) (h2 : v2 = 48 + x / 10 % 10) (h3 : v3 = 48 + x % 10) :
    (convert 95 9 (.slice (some ⟨w.heap.size, 0, none⟩) 4 4)).run Tryz.prog (w.alloc (Obj.cells #[.int .u8 v0, .int .u8 v1, .int .u8 v2, .int .u8 v3] 5)) =
      .ok (.string (four x)) (w.alloc (Obj.cells #[.int .u8 v0, .int .u8 v1, .int .u8 v2, .int .u8 v3] 5)) := by
  subst h0 h1 h2 h3
  have := run_convert_bytes_back (P := Tryz.prog) (w.alloc (Obj.cells #[.int .u8 (48 + x / 1000), .int .u8 (48 + x / 100 % 10), .int .u8 (48 + x / 10 % 10), .int .u8 (48 + x % 10)] 5)) 95 9 5 ⟨w.heap.size, 0, none⟩ 4 [UInt8.ofNat (48 + x / 1000), UInt8.ofNat (48 + x / 100 % 10), UInt8.ofNat (48 + x / 10 % 10), UInt8.ofNat (48 + x % 10)] Tryz.underlying95 Tryz.underlying5 Tryz.underlying9 (fun j hj => by
    rcases j with _ | _ | _ | _ | j
    · simp only [List.getElem_cons_zero]; rw [ofNat_dg (by omega)]; simp [go_sem, Addr.add]
    · simp only [List.getElem_cons_succ, List.getElem_cons_zero]; rw [ofNat_dg (by omega)]; simp [go_sem, Addr.add]
    · simp only [List.getElem_cons_succ, List.getElem_cons_zero]; rw [ofNat_dg (by omega)]; simp [go_sem, Addr.add]
    · simp only [List.getElem_cons_succ, List.getElem_cons_zero]; rw [ofNat_dg (by omega)]; simp [go_sem, Addr.add]
    · exact absurd hj (by simp only [List.length_cons, List.length_nil]; omega))
  exact this

end Go.Proofs.YtbehfhmdilifkaaGreat

/- Walks of the reference's words: Num, Is. -/
namespace Go.Proofs.YtbehfhmdilifkaaGreat
open Go Go.RowKit Go.Proofs

theorem L_p10 (k n : Nat) (h : n < p10 (4 * k)) : L B4 n ≤ k := L_le_of_lt two_le_B4 k n (by rw [← p10_four]; exact h)
theorem LZ_small {z : Int} (h : z.natAbs < p10 4000) : LZ z ≤ 1000 := by
  exact L_p10 1000 z.natAbs h
theorem dec_one : dec 1 = ⟨#[49]⟩ := by
  unfold dec bl
  rw [digs_pos two_le_10 (by omega), Nat.div_eq_of_lt (by omega), digs_zero]
  rfl
theorem dec_ne_one {n : Nat} (h : n ≠ 1) (h0 : n ≠ 0) : dec n ≠ ⟨#[49]⟩ := by
  intro e
  have h1 : (dec n).size = 1 := by rw [e]; rfl
  rw [dec_size, if_neg h0] at h1
  have h2 := lt_pow_L two_le_10 n
  rw [h1, Nat.pow_one] at h2
  unfold dec bl at e
  rw [if_neg h0, digs_pos two_le_10 h0, Nat.div_eq_of_lt h2, digs_zero, Nat.mod_eq_of_lt h2] at e
  injection e with e
  have e2 : [UInt8.ofNat (48 + n)] = [49] := by
    have := congrArg Array.toList e
    simpa using this
  injection e2 with e3
  have e4 := congrArg UInt8.toNat e3
  rw [UInt8.toNat_ofNat'] at e4
  have : (49 : UInt8).toNat = 49 := rfl
  omega

theorem nt_eq (q : Rat) (b c : Bool) (hb : ng (rn q) = b) (hc : (!(dec (rd q).natAbs).toList == [49]) = c) :
    nt q = (if c then (if b then ⟨#[45]⟩ ++ dec (rn q).natAbs else dec (rn q).natAbs) ++ (⟨#[47]⟩ ++ dec (rd q).natAbs) else (if b then ⟨#[45]⟩ ++ dec (rn q).natAbs else dec (rn q).natAbs)) := by
  subst hb hc
  unfold nt sdec
  by_cases hi : isInt q = true
  · have h1 : rd q = 1 := of_decide_eq_true hi
    have h2 : (dec (rd q).natAbs).toList = [49] := by rw [h1]; show (dec 1).toList = _; rw [dec_one, ByteArray.toList_eq]
    rw [if_pos hi, h2]
    simp
  · have h1 : rd q ≠ 1 := fun h => hi (decide_eq_true h)
    have h0 := rd_pos q
    have h2 : ((dec (rd q).natAbs).toList == [49]) = false := by
      rw [beq_eq_false_iff_ne]
      intro e
      refine dec_ne_one (n := (rd q).natAbs) (by omega) (by omega) ?_
      rw [ByteArray.toList_eq] at e
      apply ByteArray.ext
      exact Array.toList_inj.1 e
    rw [if_neg hi, h2]
    simp [ByteArray.append_assoc]

/-- A box of four cells, filled. -/
theorem Rg.fill4 (w : World) (b0 b1 : Bool) (x0 x1 : Option Addr) (n0 n1 k0 k1 : Nat) (T : TypeId) :
    Rg w.heap.size 4 (w.alloc (Obj.cells #[.bool b0, .slice x0 n0 k0, .bool b1, .slice x1 n1 k1] T)) (w.alloc (Obj.cells #[.bool b0, .slice x0 n0 k0, .bool b1, .slice x1 n1 k1] T)) := by
  refine Rg.mk (Below.refl _ _) (fun o ho => ?_) (fun o => ?_) (noInt_cells (heap_alloc_new w _) fun u hu k z => ?_)
  · rcases o with _ | _ | _ | _ | o
    · simp [go_sem]
    · simp [go_sem]
    · simp [go_sem]
    · simp [go_sem]
    · omega
  · simp [go_sem]
  · simp at hu
    rcases hu with rfl | rfl | rfl | rfl <;> simp

/-- A text, and that it is one. -/
def RetNumQ (w : World) (s : ByteArray) (e : Ending) (w' : World) : Prop := e = .returned (.tuple #[.string s, .bool true]) ∧ Below w.heap.size w w'

end Go.Proofs.YtbehfhmdilifkaaGreat
