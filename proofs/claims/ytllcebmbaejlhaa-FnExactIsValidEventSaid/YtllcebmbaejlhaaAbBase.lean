/- The program of this seat as the interpreter takes it. -/
import Derived.Test.YtllcebmbaejlhaaAbWf
import Derived.Test.YtllcebmbaejlhaaChecked
import Derived.Lib.LaidTab
import Derived.Lib.ItoaNum
namespace Go.Proofs.Ytllcebmbaejlhaa.Ab
open Go

abbrev I : Ty := .int .i64
def tOp : Ty := (.agg (.prod I (.prod I (.prod I (.prod I (.prod I I))))))
def tEvent : Ty := (.agg (.prod I (.prod I (.prod I (.prod I tOp)))))
def tyl : List (Nat × Option Ty) := [(2, some I), (3, some I), (4, some .bool), (5, some (.int .u8)), (6, some (.int .u8)), (9, some .str), (10, some .str), (11, some .str), (12, some (.int .u64)), (21, some (.int .i32)), (22, some tOp), (23, some tOp), (24, some tEvent), (25, some tEvent), (27, some tOp), (28, some tEvent), (29, some tEvent), (40, some (.arr 16 .str)), (44, some (.int .u64)), (45, some (.int .u32)), (55, some (.int .u8)), (56, some (.int .u8)), (59, some (.int .i32)), (60, some (.int .i32))]
def tys : Types := fun t => look none tyl t


theorem tys_tie : ∀ τ u, tys τ = some u → Tie Try.prog u τ := by
  have h : (tyl.all fun x => match x.2 with | some u => (tieB Try.prog u).1 x.1 | none => true) = true := by kernel_rfl
  intro τ u hu
  have : ∀ {l : List (Nat × Option Ty)}, (l.all fun x => match x.2 with | some u => (tieB Try.prog u).1 x.1 | none => true) = true → look none l τ = some u → Tie Try.prog u τ := by
    intro l
    induction l with
    | nil => intro _ h; cases h
    | cons x l ih =>
      obtain ⟨k, v⟩ := x
      intro ha hl
      simp only [List.all_cons, Bool.and_eq_true] at ha
      rw [look_cons] at hl
      split at hl
      · rename_i hk
        subst hk hl
        exact ha.1
      · exact ih ha.2 hl
  exact this h hu

theorem tys_cmp : CmpOK Try.prog tys := by
  have h : (tyl.all fun x => match x.2 with | some (.agg u) => !u.cmp || cmpT Try.prog u x.1 | _ => true) = true := by kernel_rfl
  intro τ u hu hc
  have : ∀ {l : List (Nat × Option Ty)}, (l.all fun x => match x.2 with | some (.agg u) => !u.cmp || cmpT Try.prog u x.1 | _ => true) = true → look none l τ = some (.agg u) → cmpT Try.prog u τ = true := by
    intro l
    induction l with
    | nil => intro _ h; cases h
    | cons x l ih =>
      obtain ⟨k, v⟩ := x
      intro ha hl
      simp only [List.all_cons, Bool.and_eq_true] at ha
      rw [look_cons] at hl
      split at hl
      · rename_i hk
        subst hk hl
        have := ha.1
        simp only [hc, Bool.not_true, Bool.false_or] at this
        exact this
      · exact ih ha.2 hl
  exact this h hu

/-- What is known of the blocks that lie all the time: those of package-level variables that are read. -/
def lying (L : List (Nat × Obj)) : Prop := True

theorem mixed : Try.prog.follows .mixedOrders = true := by kernel_rfl

/-- What is proved of functions. -/
def SP : Specs := fun f args out => ∀ L, lying L → Contract Try.prog L f args out
theorem sp_ok {L : List (Nat × Obj)} (hL : lying L) : SpecsOK Try.prog L SP := fun _ _ _ h => h L hL

theorem sp (md : Modes) (hint : List (Nat × Nat)) {f : Nat} {fn : Func} {args : List Arg} {out : Out} (hf : Try.prog.funcs[f]? = some fn) (hn : (fn.name == "runtime.NumGoroutine") = false)
    (h : ∀ (A : Atoms) (S : Specs) (Q : Out → Prop), A = std → S = SP → (∀ o, o = out → Q o) → Runs A tys md S hint fn args Q) : SP f args out := fun _ hL =>
  contract_of_runs mixed tys_tie tys_cmp (sp_ok hL) hf hn (h std SP (fun o => o = out) rfl rfl (fun _ h => h))

/-- The same, with what every argument meets in hand. -/
theorem spw (md : Modes) (hint : List (Nat × Nat)) {f : Nat} {fn : Func} {args : List Arg} {out : Out} (hf : Try.prog.funcs[f]? = some fn) (hn : (fn.name == "runtime.NumGoroutine") = false)
    (h : WfArgs args → ∀ (A : Atoms) (S : Specs) (Q : Out → Prop), A = std → S = SP → (∀ o, o = out → Q o) → Runs A tys md S hint fn args Q) : SP f args out := fun _ hL =>
  contract_wf fun hw => contract_of_runs mixed tys_tie tys_cmp (sp_ok hL) hf hn (h hw std SP (fun o => o = out) rfl rfl (fun _ h => h))

theorem way_split {b : Bool} {p q : Prop} (h : b = true → p) (k : b = false → q) : (match (generalizing := false) b with | true => p | false => q) := by
  cases b
  · exact k rfl
  · exact h rfl
theorem way_true {b : Bool} {p q : Prop} (e : b = true) (h : p) : (match (generalizing := false) b with | true => p | false => q) := by
  subst e; exact h
theorem way_false {b : Bool} {p q : Prop} (e : b = false) (h : q) : (match (generalizing := false) b with | true => p | false => q) := by
  subst e; exact h

def md0 : Modes := fun _ _ => 0
end Go.Proofs.Ytllcebmbaejlhaa.Ab
