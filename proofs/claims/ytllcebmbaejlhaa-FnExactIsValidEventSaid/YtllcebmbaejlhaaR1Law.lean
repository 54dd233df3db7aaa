/- The law FnExactIsValidEvent, as a contract. -/
import Derived.Test.YtllcebmbaejlhaaEvFns
namespace Go.Proofs.Ytllcebmbaejlhaa.Ab
open Go

set_option maxRecDepth 100000 in
theorem law_s (e : tEvent.den) : SP 3 [.ro ⟨tEvent, e⟩] ([.v ⟨.bool, true⟩], []) := sp md0 [] Try.func3 rfl fun A S Q hA hS hQ => by
  have c4 := vevS_s
  have c5 := toEvent_s
  have c6 := vevI_s
  rw [show vevI = vevS from funext vev_eq] at c6
  obtain ⟨v, hv⟩ : ∃ f, f = vevS := ⟨_, rfl⟩
  rw [← hS] at c4 c5 c6
  rw [← hv] at c4 c6
  unfold Runs
  cbv
  repeat' (first
    | (refine ⟨_, c4 _, ?_⟩; cbv)
    | (refine ⟨_, c5 _, ?_⟩; cbv)
    | (refine ⟨_, c6 _, ?_⟩; cbv)
    | (refine way_true (by assumption) ?_; cbv)
    | (refine way_false (by assumption) ?_; cbv)
    | (refine way_split (fun h => ?_) (fun h => ?_) <;> cbv))
  · exfalso
    subst hA
    simp [std] at h
  · exact hQ _ rfl

end Go.Proofs.Ytllcebmbaejlhaa.Ab
