/- Binary and unary operators. -/
import Derived.Test.YtllcebmbaejlhaaDoorAbOps
namespace Go.Proofs.YtllcebmbaejlhaaDoor.Ab
open Go

theorem wrap_wrap (k : IntKind) (n : Int) : k.wrap (k.wrap n) = k.wrap n := by
  cases k <;> simp only [IntKind.wrap, IntKind.bits, IntKind.signed] <;> simp <;> (try split) <;> (try split) <;> omega

/-- The numbers of a kind. -/
theorem wrap_range {k : IntKind} {n : Int} (h : k.wrap n = n) : (k.signed = true ∧ -(2 ^ (k.bits - 1) : Int) ≤ n ∧ n < 2 ^ (k.bits - 1)) ∨ (k.signed = false ∧ 0 ≤ n ∧ n < (2 ^ k.bits : Int)) := by
  cases k <;> simp only [IntKind.wrap, IntKind.bits, IntKind.signed] at h ⊢ <;> simp at h ⊢ <;> (try split at h) <;> omega

theorem range_wrap {k : IntKind} {n : Int} (h : (k.signed = true ∧ -(2 ^ (k.bits - 1) : Int) ≤ n ∧ n < 2 ^ (k.bits - 1)) ∨ (k.signed = false ∧ 0 ≤ n ∧ n < (2 ^ k.bits : Int))) : k.wrap n = n := by
  cases k <;> simp only [IntKind.wrap, IntKind.bits, IntKind.signed] at h ⊢ <;> simp at h ⊢ <;> (try split) <;> omega

theorem tmod_wrap {k : IntKind} {a b : Int} (h : k.wrap a = a) : k.wrap (a.tmod b) = a.tmod b := by
  apply range_wrap
  have h1 : (a.tmod b).natAbs ≤ a.natAbs := by
    rw [Int.natAbs_tmod]; exact Nat.mod_le _ _
  have h2 : 0 ≤ a → 0 ≤ a.tmod b := fun h => Int.tmod_nonneg _ h
  have h3 : a ≤ 0 → a.tmod b ≤ 0 := fun h => by
    have := Int.tmod_nonneg b (a := -a) (by omega)
    rw [Int.neg_tmod] at this
    omega
  rcases wrap_range h with ⟨hs, hl, hu⟩ | ⟨hs, hl, hu⟩
  · left; refine ⟨hs, ?_, ?_⟩ <;> omega
  · right; refine ⟨hs, h2 hl, ?_⟩; omega

theorem fdiv_wrap {k : IntKind} {a : Int} {n : Nat} (h : k.wrap a = a) : k.wrap (a.fdiv (2 ^ n)) = a.fdiv (2 ^ n) := by
  have hp : (1 : Int) ≤ 2 ^ n := by
    have : 0 < (2 : Int) ^ n := Int.pow_pos (by decide)
    omega
  have he : a.fdiv (2 ^ n) = a / 2 ^ n := Int.fdiv_eq_ediv_of_nonneg _ (by omega)
  apply range_wrap
  rw [he]
  have h1 : 0 ≤ a → 0 ≤ a / 2 ^ n ∧ a / 2 ^ n ≤ a := fun h => ⟨Int.ediv_nonneg h (by omega), Int.ediv_le_self _ h⟩
  have h2 : a < 0 → a ≤ a / 2 ^ n ∧ a / 2 ^ n < 0 := fun h => ⟨by
    have := Int.le_ediv_of_mul_le (a := a) (b := a) (c := 2 ^ n) (by omega) (by
      have : a * 2 ^ n ≤ a * 1 := Int.mul_le_mul_of_nonpos_left (by omega) hp
      omega)
    exact this, Int.ediv_neg_of_neg_of_pos h (by omega)⟩
  rcases wrap_range h with ⟨hs, hl, hu⟩ | ⟨hs, hl, hu⟩
  · left
    rcases Int.lt_or_le a 0 with h0 | h0
    · have := h2 h0; exact ⟨hs, by omega, by omega⟩
    · have := h1 h0; exact ⟨hs, by omega, by omega⟩
  · right; have := h1 hl; exact ⟨hs, by omega, by omega⟩

section
variable {P : Program} {T : Types} {W : Nat → Prop} {w : World} {m : Mem} {σ : St} {S : Specs} {j : Nat} {l : List Ent}

theorem val_inv {t : Ty} {x : t.den} {h : Nat → Reg} {v : Value} (hv : VR w m h (.val t x) v) : ∃ cs, v = toV t cs ∧ Rep w m.F t x cs := hv

theorem yields_val {t : Ty} {x : t.den} {K : AV → St → List Ent → Prop} {s : Sem Value} {cs : List Value} (inv : Inv W w m σ.h []) (hrun : s.run P w = .ok (toV t cs) w) (hr : Rep w m.F t x cs)
    (h : (Pr.ret (.val t x) : PrA).run S j σ l K) : Yields P W w m σ K s := ⟨_, _, hrun, ret_ok inv (Up.refl _ _ _ _) rfl hr h⟩

theorem beq_dec (x y : Int) : (x == y) = decide (x = y) := by by_cases h : x = y <;> simp [h]

theorem arith_ok {op : BinOp} {k : IntKind} {x y : Int} {K : AV → St → List Ent → Prop} {s : Sem Value} (inv : Inv W w m σ.h []) (hx : k.wrap x = x) (_hy : k.wrap y = y)
    (hs : s.run P w = (match op with
      | .add | .sub | .mul => Op.intArith op k x y
      | .quo | .rem => Op.intDiv op k x y
      | .and | .or | .xor | .andNot => Op.intBits op k x y
      | _ => Op.intCmp op x y).run P w) (h : (arith std op k x y).run S j σ l K) : Yields P W w m σ K s := by
  have hbv : ∀ n : Int, Rep w m.F (.int k) (k.wrap n) [.int k (k.wrap n)] := fun n => ⟨rfl, wrap_wrap k n⟩
  have hbb : ∀ b : Bool, Rep w m.F .bool b [.bool b] := fun b => rfl
  cases op with
  | add => exact yields_val (cs := [.int k (k.wrap (x + y))]) inv (hs.trans rfl) (hbv _) h
  | sub => exact yields_val (cs := [.int k (k.wrap (x - y))]) inv (hs.trans rfl) (hbv _) h
  | mul => exact yields_val (cs := [.int k (k.wrap (x * y))]) inv (hs.trans rfl) (hbv _) h
  | quo =>
    obtain ⟨h0, h⟩ := h
    have h0' : ¬ y = 0 := by simpa [std] using h0
    refine yields_val (cs := [.int k (k.wrap (x.tdiv y))]) inv (hs.trans ?_) (hbv _) h
    simp [Op.intDiv, h0', toV, Ty.isAgg]
  | rem =>
    obtain ⟨h0, h⟩ := h
    have h0' : ¬ y = 0 := by simpa [std] using h0
    refine yields_val (t := .int k) (x := x.tmod y) (cs := [.int k (x.tmod y)]) inv (hs.trans ?_) ⟨rfl, tmod_wrap hx⟩ h
    simp [Op.intDiv, h0', toV, Ty.isAgg]
  | and => exact yields_val (cs := [.int k (k.wrap (BitVec.ofInt k.bits x &&& BitVec.ofInt k.bits y).toNat)]) inv (hs.trans rfl) (hbv _) h
  | or => exact yields_val (cs := [.int k (k.wrap (BitVec.ofInt k.bits x ||| BitVec.ofInt k.bits y).toNat)]) inv (hs.trans rfl) (hbv _) h
  | xor => exact yields_val (cs := [.int k (k.wrap (BitVec.ofInt k.bits x ^^^ BitVec.ofInt k.bits y).toNat)]) inv (hs.trans rfl) (hbv _) h
  | eql =>
    refine yields_val (cs := [.bool (decide (x = y))]) inv (hs.trans ?_) (hbb _) h
    simp [Op.intCmp, toV, Ty.isAgg, beq_dec]
  | neq =>
    refine yields_val (cs := [.bool (!decide (x = y))]) inv (hs.trans ?_) (hbb _) h
    simp [Op.intCmp, toV, Ty.isAgg, bne, beq_dec]
  | lss => exact yields_val (cs := [.bool (decide (x < y))]) inv (hs.trans rfl) (hbb _) h
  | leq => exact yields_val (cs := [.bool (decide (x ≤ y))]) inv (hs.trans rfl) (hbb _) h
  | gtr => exact yields_val (cs := [.bool (decide (y < x))]) inv (hs.trans rfl) (hbb _) h
  | geq => exact yields_val (cs := [.bool (decide (y ≤ x))]) inv (hs.trans rfl) (hbb _) h
  | _ => exact h.elim
end

end Go.Proofs.YtllcebmbaejlhaaDoor.Ab
