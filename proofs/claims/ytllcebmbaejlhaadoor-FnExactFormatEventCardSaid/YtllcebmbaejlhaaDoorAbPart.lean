/- Conversions, parts of slices, lengths, builtins. -/
import Derived.Test.YtllcebmbaejlhaaDoorAbBops
import Derived.Laws.BytesString
import Derived.Laws.Cells
namespace Go.Proofs.YtllcebmbaejlhaaDoor.Ab
open Go

theorem foldl_bytes : ∀ (xs : List Int) (s : ByteArray), xs.foldl (fun r n => r.push (UInt8.ofNat n.toNat)) s = ⟨s.data ++ (xs.map fun n => UInt8.ofNat n.toNat).toArray⟩
  | [], s => by simp
  | x :: xs, s => by
    rw [List.foldl_cons, foldl_bytes xs]
    apply ByteArray.ext
    apply Array.ext'
    simp [ByteArray.push]

section
variable {P : Program} {T : Types} {W : Nat → Prop} {w : World} {m : Mem} {σ : St} {S : Specs} {j : Nat} {l : List Ent} {a : Act}

theorem rep_ints {F : Nat → Prop} {k : IntKind} : ∀ {xs : List Int} {cs : List Value}, RepL (Rep w F (.int k)) xs cs → cs = xs.map (Value.int k) ∧ cs.length = xs.length
  | [], cs, h => by cases (show cs = [] from h); exact ⟨rfl, rfl⟩
  | x :: xs, cs, h => by
    obtain ⟨c, d, rfl, ⟨rfl, _⟩, hd⟩ := h
    obtain ⟨rfl, hl⟩ := rep_ints hd
    exact ⟨rfl, by simp⟩

theorem convert_ok {s t : TypeId} {x : Operand} {K : AV → St → List Ent → Prop} (hTie : ∀ τ u, T τ = some u → Tie P u τ) (inv : Inv W w m σ.h []) (ht : Tmps w m σ a)
    (h : (Pr.op x fun x => Pr.convert std T s t x : PrA).run S j σ l K) : Yields P W w m σ K (convert s t (a.eval x)) := by
  obtain ⟨v, hv, l₁, h⟩ := op_ok ht h
  simp only [Pr.convert] at h
  cases hs : T s with
  | none => rw [hs] at h; exact h.elim
  | some us =>
    rw [hs] at h
    have hus := hTie _ _ hs
    obtain ⟨kd, hkd⟩ : ∃ kd, P.underlying s = some kd := by
      cases us with
      | int k => exact ⟨_, hus.int⟩
      | bool => exact ⟨_, hus.bool⟩
      | str => exact ⟨_, hus.str⟩
      | list u => obtain ⟨e, he, _⟩ := hus.list; exact ⟨_, he⟩
      | arr n u => obtain ⟨e, he, _⟩ := hus.arr; exact ⟨_, he⟩
      | prod a b => exact absurd rfl (hus.noprod a b)
      | agg u => obtain ⟨e, he, _⟩ := hus.agg; exact ⟨_, he⟩
    cases hd : T t with
    | none => rw [hd] at h; exact h.elim
    | some ud =>
      rw [hd] at h
      have hud := hTie _ _ hd
      cases ud with
      | int k =>
        cases v with
        | val tv n =>
          cases tv with
          | int k' =>
            obtain ⟨e, hw⟩ := val_int hv
            rw [e]
            refine yields_val (t := .int k) (x := k.wrap n) (cs := [.int k (k.wrap n)]) inv ?_ ⟨rfl, wrap_wrap k _⟩ h
            simp only [convert, Sem.run_bind, run_underlying hkd, run_underlying hud.int, Result.andThen_ok]
            rfl
          | _ => cases us <;> exact h.elim
        | _ => cases us <;> exact h.elim
      | str =>
        cases us with
        | str =>
          cases v with
          | val tv z =>
            cases tv with
            | str =>
              obtain ⟨cs, e, hr⟩ := val_inv hv
              obtain ⟨rfl, hb⟩ := hr
              rw [e]
              refine yields_val (t := .str) (x := z) (cs := [.string ⟨List.toArray z⟩]) inv ?_ ⟨rfl, hb⟩ h
              simp only [convert, Sem.run_bind, run_underlying hus.str, run_underlying hud.str, Result.andThen_ok]
              rfl
            | _ => exact h.elim
          | _ => exact h.elim
        | list u =>
          cases u with
          | int k =>
            cases k with
            | u8 =>
              obtain ⟨xs, A, cap, l', e, hb, hx, h⟩ := elts_ok inv hv h
              obtain ⟨hok, h⟩ := h
              obtain ⟨el, hel, hte⟩ := hus.list
              obtain ⟨xs, rfl⟩ : ∃ z : List Int, z = xs := ⟨xs, rfl⟩
              have hok' : xs.length ≤ lim := of_decide_eq_true hok
              rw [e]
              refine yields_val (t := .str) (x := std.byts xs) (cs := [.string ⟨List.toArray (α := UInt8) (std.byts xs)⟩]) inv ?_ ⟨rfl, by
                simp only [std, List.length_map]; simp only [lim, big] at *; omega⟩ h
              have hc : (convert s t (.slice A xs.length cap)).run P w = (Conv.bytesToString (.slice A xs.length cap)).run P w := by
                simp only [convert, Sem.run_bind, run_underlying hel, run_underlying hud.str, Result.andThen_ok, run_underlying hte.int]
              refine hc.trans ?_
              rcases hx with rfl | ⟨b, off, row, e', fz, rfl, hh, hr⟩
              · cases A with
                | none => rfl
                | some ad =>
                  refine (run_bytesToString (P := P) w ad 0 cap [] (run_loadCells_list (P := P) (w := w) ad [] (by intro j v hv; simp at hv))).trans ?_
                  rfl
              · obtain ⟨hcs, hlen⟩ := rep_ints hr
                refine (run_bytesToString (P := P) w ⟨b, off, none⟩ xs.length cap xs ?_).trans ?_
                · rw [← hcs]
                  have := run_loadCells_list (P := P) (w := w) ⟨b, off, none⟩ (seg row off (xs.length * (Ty.int .u8).sz)) (fun j v hv => by rw [add_lit]; exact range_of hh j v hv)
                  exact (congrArg (fun n => (loadCells ⟨b, off, none⟩ n).run P w) hlen).symm.trans this
                · rw [foldl_bytes]
                  simp [std, toV, Ty.isAgg]
            | _ => exact h.elim
          | _ => exact h.elim
        | _ => cases v <;> exact h.elim
      | _ => cases us <;> exact h.elim

end
end Go.Proofs.YtllcebmbaejlhaaDoor.Ab
