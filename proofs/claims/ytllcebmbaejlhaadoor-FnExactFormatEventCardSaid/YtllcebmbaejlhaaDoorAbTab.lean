/- What a row's condition on listed tables gives: the tables lie. -/
import Derived.Test.YtllcebmbaejlhaaDoorAbLaw
import Derived.Test.YtllcebmbaejlhaaDoorAbBase
import Derived.LaidMore
import Derived.LaidLaws
import Derived.LaidHandle
import Derived.Lib.LaidTab
import Derived.Lib.ItoaNum
namespace Go.Proofs.YtllcebmbaejlhaaDoor.Ab
open Go

theorem laid_mem {P : Program} {w : World} : ∀ {l : List (String × DataW Unit)} {ps : List MemPlace} {n : String} {d : DataW Unit}, DataW.LaidVars P w l ps → (n, d) ∈ l →
    ∃ g t cs fuel p, P.globalNamed n = some g ∧ (P.globals[g]?).map (·.type) = some t ∧ w.var? P n = some cs ∧ DataW.trod (fun _ => ()) P w 0 (fun _ => true) false fuel t cs.toList = some (d, p)
  | [], _, _, _, _, h => by cases h
  | (m, e) :: r, ps, n, d, ⟨g, t, cs, fuel, p, q, h1, h2, h3, h4, h5, _⟩, h => by
    rcases List.mem_cons.1 h with e' | h
    · cases e'
      exact ⟨g, t, cs, fuel, p, h1, h2, h3, h4⟩
    · exact laid_mem h5 h

/-- A listed table, as a block that lies. -/
theorem tab_lies {P : Program} {w : World} {l : List (String × DataW Unit)} {n : String} {k : IntKind} {zs : List Int} {g : Nat} {t e : TypeId} {m : Nat} (hl : laidMet P l w) (hin : (n, Lib.tabData k zs) ∈ l)
    (hg : P.globalNamed n = some g) (hty : (P.globals[g]?).map (·.type) = some t) (ht : P.underlying t = some (.array m e)) (he : P.underlying e = some (.int k)) (hce : P.cellsOf e = 1) (hct : P.cellsOf t = m) :
    ∃ el fz, w.heap[g]? = some (.cells (zs.map fun z => Value.int k z).toArray el fz) ∧ g < w.heap.size := by
  obtain ⟨ps, h, _⟩ := hl
  obtain ⟨g', t', cs, fuel, p, h1, h2, h3, h4⟩ := laid_mem h hin
  obtain rfl := Option.some.inj (hg.symm.trans h1)
  obtain rfl := Option.some.inj (hty.symm.trans h2)
  have e1 := Lib.cells_of_tab ht he hce hct h4
  have h5 : cs = (zs.map fun z => Value.int k z).toArray := by rw [← e1]
  subst h5
  simp only [World.var?, hg, Option.bind_some] at h3
  split at h3
  · rename_i cs el fz hh
    cases h3
    exact ⟨el, fz, hh, (Array.getElem?_eq_some_iff.1 hh).1⟩
  · cases h3

end Go.Proofs.YtllcebmbaejlhaaDoor.Ab
