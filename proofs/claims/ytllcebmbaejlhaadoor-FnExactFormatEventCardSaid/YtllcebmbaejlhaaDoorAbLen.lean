/- Lengths, unary operators, new slices. -/
import Derived.Test.YtllcebmbaejlhaaDoorAbIdx
namespace Go.Proofs.YtllcebmbaejlhaaDoor.Ab
open Go

section
variable {P : Program} {T : Types} {W : Nat → Prop} {w : World} {m : Mem} {σ : St} {S : Specs} {j : Nat} {l : List Ent} {a : Act}

theorem hasTyp_run {v : AV} {t : Ty} {k : PrA} {K : AV → St → List Ent → Prop} (h : (Pr.hasTyp v t k).run S j σ l K) :
    (∃ x, v = .val t x ∧ k.run S j σ l K) ∨ (∃ p ver, v = .bor p ver ∧ (σ.h p.r).typ p = some t ∧ k.run S j σ (⟨j, p.r, false⟩ :: l) K) ∨ (v = .emp ∧ (∃ u, t = .list u) ∧ k.run S j σ l K) := by
  cases v with
  | val u x =>
    obtain ⟨hu, h2⟩ := bif_run h
    have hu := of_decide_eq_true hu
    subst hu
    exact .inl ⟨x, rfl, h2⟩
  | bor p ver =>
    simp only [Pr.hasTyp, Pr.run] at h
    obtain ⟨hu, h⟩ := bif_run h
    exact .inr (.inl ⟨p, ver, rfl, of_decide_eq_true hu, h⟩)
  | emp =>
    cases t with
    | list u => exact .inr (.inr ⟨rfl, ⟨u, rfl⟩, h⟩)
    | _ => exact h.elim
  | _ => exact h.elim

theorem unop_ok {op : UnOp} {v : AV} {val : Value} {K : AV → St → List Ent → Prop} (inv : Inv W w m σ.h []) (hv : VR w m σ.h v val)
    (h : (unop std op v).run S j σ l K) : Yields P W w m σ K (Op.unary op val) := by
  cases op with
  | not =>
    cases v with
    | val t x =>
      cases t with
      | bool =>
        obtain ⟨cs, rfl, hr⟩ := val_inv hv
        cases (show cs = [.bool x] from hr)
        exact yields_val (t := .bool) (x := !x) (cs := [.bool !x]) inv rfl rfl h
      | _ => exact h.elim
    | _ => exact h.elim
  | neg =>
    cases v with
    | val t x =>
      cases t with
      | int k =>
        obtain ⟨cs, rfl, hr⟩ := val_inv hv
        obtain ⟨rfl, hx⟩ := hr
        exact yields_val (t := .int k) (x := k.wrap ((0 : Int) - (show Int from x))) (cs := [.int k (k.wrap ((0 : Int) - (show Int from x)))]) inv rfl ⟨rfl, wrap_wrap k _⟩ h
      | _ => exact h.elim
    | _ => exact h.elim
  | _ => exact h.elim

/-- How many elements. -/
theorem len_ok {v : AV} {val : Value} {k : Nat → PrA} {K : AV → St → List Ent → Prop} (inv : Inv W w m σ.h []) (hv : VR w m σ.h v val) (h : (Pr.len std v k).run S j σ l K) :
    ∃ n l', (Builtin.lenOf val).run P w = .ok n w ∧ n ≤ big ∧ (k n).run S j σ l' K := by
  cases v with
  | val t x =>
    cases t with
    | str =>
      obtain ⟨cs, rfl, hr⟩ := val_inv hv
      obtain ⟨rfl, hb⟩ := hr
      refine ⟨List.length (α := UInt8) x, l, ?_, hb, h⟩
      have hs : (⟨List.toArray x⟩ : ByteArray).size = List.length (α := UInt8) x := List.size_toArray (α := UInt8)
      simp [Builtin.lenOf, toV, Ty.isAgg, hs]
    | list u =>
      obtain ⟨cs, rfl, hr⟩ := val_inv hv
      obtain ⟨A, cap, rfl, hb, _⟩ := hr
      exact ⟨_, l, rfl, hb.1, h⟩
    | _ => exact h.elim
  | emp =>
    obtain ⟨A, rfl⟩ := hv
    exact ⟨0, l, rfl, Nat.zero_le _, h⟩
  | bor p ver =>
    simp only [Pr.len] at h
    obtain ⟨box, t, y, fl, log, hg, hst, h⟩ := resB_run h
    have hb : BorR w m (σ.h p.r) p ver val := hv
    have hreg := inv.reg p.r
    rw [hg] at hb hreg
    obtain ⟨⟨⟨t', xs⟩, fd⟩, hat, h⟩ := opt_run h
    obtain ⟨cs, S', rfl, ho, _⟩ := bor_at hreg hb hst hat
    cases t' with
    | list u =>
      cases fd with
      | sh => obtain ⟨⟨A, cap, e, hbg, _⟩, _⟩ := Own.sh_iff.1 ho; subst e; exact ⟨_, _, rfl, hbg.1, h⟩
      | ow c => obtain ⟨A, cap, e, hbg, _⟩ := ho; subst e; exact ⟨_, _, rfl, hbg, h⟩
      | owx i c d => obtain ⟨A, cap, e, hbg, _⟩ := ho; subst e; exact ⟨_, _, rfl, hbg, h⟩
      | pr _ _ => exact h.elim
      | ho => exact h.elim
    | _ => exact h.elim
  | _ => exact h.elim

end
end Go.Proofs.YtllcebmbaejlhaaDoor.Ab
