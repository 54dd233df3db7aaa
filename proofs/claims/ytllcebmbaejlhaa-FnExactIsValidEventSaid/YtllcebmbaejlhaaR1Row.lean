/- FnExactIsValidEvent: for every event, the program's IsValidEvent returns what the reference's returns; the argument reads behind the call as it read before. No condition. -/
import Derived.Test.YtllcebmbaejlhaaRows
import Derived.Test.YtllcebmbaejlhaaR1Law
import Derived.Test.YtllcebmbaejlhaaAbLaw
import Derived.SizedLaws
namespace Go.Proofs.Ytllcebmbaejlhaa
open Go.ChangeShapes Go.WideShapes Go.ChangeAt Go.RowKit

theorem Try.own : ownKnob Try.prog.godebug = none := by kernel_rfl
theorem Try.laidOut : laidOutB Try.prog = true := by kernel_rfl

theorem isValidEvent_ties (j : Nat) (u : Ab.Ty) (t : TypeId) (hu : [Ab.tEvent][j]? = some u) (ht : Try.f3.params.toList[j]? = some t) : Ab.Tie Try.prog u t := by
  match j with
  | 0 =>
    cases hu; cases ht
    show (Ab.tieB Try.prog Ab.tEvent).1 _ = true
    kernel_rfl
  | j + 1 => simp at hu

set_option maxRecDepth 100000 in
theorem fnExactIsValidEvent_lifted (os : Os) (started : os.Started) (H : Type) (enc : TypeId × Value → H) :
    ReturnsInHanded {} Try.checked os 3 .any (Rows.fnExactIsValidEventSpec.pre6 enc Try.prog Try.f3 Rows.fnExactIsValidEventRow.domain false) (Rows.fnExactIsValidEventSpec.post enc Try.prog Try.f3 false true false false) := by
  refine returnsInHanded_of_change_sized (C := Try.checked) Try.own started (by kernel_rfl) Try.func3
    (ChangeSpec.witness6 (enc := enc) (C := Try.checked) false ⟨#[], #[.agg #[.int .i64 0, .int .i64 0, .int .i64 0, .int .i64 0, .int .i64 0, .int .i64 0, .int .i64 0, .int .i64 0, .int .i64 0, .int .i64 0]], []⟩ 8 (by kernel_rfl) (by kernel_rfl) (by kernel_rfl) (by kernel_rfl)) ?_
  intro W base args ds gs before hval hW _ hz _
  refine Ab.row_of (us := [Ab.tEvent]) (L := []) Try.laidOut (by kernel_rfl) rfl (by kernel_rfl) rfl ?_ Try.func3 rfl rfl isValidEvent_ties W args ds gs before hval hW hz (fun x hx => by cases hx) ?_
  · intro ds hd
    match ds, hd with
    | [d], _ => rfl
  · intro ys hy
    match ys, hy with
    | [⟨t, e⟩], hy =>
      simp only [List.map_cons, List.map_nil, List.cons.injEq, and_true] at hy
      subst hy
      exact Ab.law_s e [] trivial

theorem fnExactIsValidEvent_holds : Rows.FnExactIsValidEventSaid :=
  OpenClaim.holds_of_wide 3 Try.f3 rfl rfl rfl rfl rfl rfl rfl ⟨rfl, rfl, rfl, rfl, rfl⟩ rfl rfl rfl rfl rfl (by kernel_rfl) Try.func3 (by kernel_rfl)
    (of_decide_eq_true (by kernel_rfl)) (by unfold Func.isWrapper; first | (rw [if_pos (by decide +kernel)]; kernel_rfl) | (rw [if_neg (by decide +kernel)]; exact ⟨rfl, rfl⟩))
    (fun os started H enc _ => fnExactIsValidEvent_lifted os started H enc)

end Go.Proofs.Ytllcebmbaejlhaa
