/- The law FnExactFormatEvent, as a contract. -/
import Derived.Test.YtllcebmbaejlhaaDoorFevFns
namespace Go.Proofs.YtllcebmbaejlhaaDoor.Ab
open Go

set_option maxRecDepth 100000 in
theorem law_s (e : tEvent.den) : SP 3 [.ro ⟨tEvent, e⟩] ([.v ⟨.bool, true⟩], []) := sp md0 [] Tryd.func3 rfl fun A S Q hA hS hQ => by
  have c1 := spec_formatEvent_s
  have c2 := toEvent_s
  have c3 := formatEvent_s
  obtain ⟨v, hv⟩ : ∃ f, f = fev := ⟨_, rfl⟩
  rw [← hS] at c1 c2 c3
  rw [← hv] at c1 c3
  unfold Runs
  cbv
  repeat' (first
    | (refine ⟨_, c1 _, ?_⟩; cbv)
    | (refine ⟨_, c2 _, ?_⟩; cbv)
    | (refine ⟨_, c3 _, ?_⟩; cbv)
    | (refine way_true (by assumption) ?_; cbv)
    | (refine way_false (by assumption) ?_; cbv)
    | (refine way_split (fun h => ?_) (fun h => ?_) <;> cbv))
  · exfalso
    subst hA
    simp [std] at h
  · exact hQ _ rfl

end Go.Proofs.YtllcebmbaejlhaaDoor.Ab
