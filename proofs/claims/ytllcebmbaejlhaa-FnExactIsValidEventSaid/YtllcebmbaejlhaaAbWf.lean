/- What every argument meets: its integers are of their kinds, its lengths are no greater than 'big'. -/
import Derived.Test.YtllcebmbaejlhaaAbExt
namespace Go.Proofs.Ytllcebmbaejlhaa.Ab
open Go

def Wf : (t : Ty) → t.den → Prop
  | .int k, n => k.wrap n = n
  | .bool, _ => True
  | .str, s => List.length s ≤ big
  | .list t, xs => List.length xs ≤ big ∧ ∀ x, @Membership.mem t.den (List t.den) List.instMembership xs x → Wf t x
  | .arr n t, xs => List.length xs = n ∧ ∀ x, @Membership.mem t.den (List t.den) List.instMembership xs x → Wf t x
  | .prod a b, x => Wf a x.1 ∧ Wf b x.2
  | .agg t, x => Wf t x

theorem RepL.all {α : Type} {R : α → List Value → Prop} {p : α → Prop} (h : ∀ x c, R x c → p x) : ∀ {xs : List α} {cs : List Value}, RepL R xs cs → ∀ x ∈ xs, p x
  | [], _, _, x, hx => by cases hx
  | y :: ys, _, ⟨c, d, _, h1, h2⟩, x, hx => by
    rcases List.mem_cons.1 hx with rfl | hx
    · exact h _ _ h1
    · exact RepL.all h h2 x hx

theorem Rep.wf {w : World} {F : Nat → Prop} : ∀ {t : Ty} {x : t.den} {cs : List Value}, Rep w F t x cs → Wf t x
  | .int _, _, _, h => h.2
  | .bool, _, _, _ => trivial
  | .str, _, _, h => h.2
  | .list t, xs, cs, h => by
    obtain ⟨A, cap, _, hl, hx⟩ := h
    refine ⟨hl.1, ?_⟩
    rcases hx with rfl | ⟨b, off, row, e, fz, _, _, _, hr⟩
    · intro x hx; cases hx
    · exact RepL.all (fun x c hc => Rep.wf hc) hr
  | .arr n t, xs, cs, h => ⟨h.1, RepL.all (fun x c hc => Rep.wf hc) h.2⟩
  | .prod a b, x, cs, h => by
    obtain ⟨c, d, _, h1, h2⟩ := h
    exact ⟨Rep.wf h1, Rep.wf h2⟩
  | .agg t, x, cs, h => Rep.wf (t := t) h

theorem own_noho : ∀ t : Ty, t.own.noho = true
  | .int _ => rfl
  | .bool => rfl
  | .str => rfl
  | .list t => by simp [Ty.own, Fl.noho, own_noho t]
  | .arr _ _ => rfl
  | .prod a b => by simp [Ty.own, Fl.noho, own_noho a, own_noho b]
  | .agg t => own_noho t

theorem Own.wf {w : World} {F : Nat → Prop} {t : Ty} {x : t.den} {cs : List Value} {S : List Nat} (h : Own w F t t.own x cs S) : Wf t x :=
  Rep.wf (Own.rep (F' := fun _ => True) (fun _ _ => trivial) (own_noho t) (fun _ _ => trivial) h)

def Arg.Wf : Arg → Prop
  | .ro d => Ab.Wf d.t d.x
  | .mu d => Ab.Wf d.t d.x
  | .gi d => Ab.Wf d.t d.x
  | .mp d => Ab.Wf d.t d.x
  | .rp d => Ab.Wf d.t d.x
  | .fc _ _ => True

def WfArgs : List Arg → Prop
  | [] => True
  | a :: as => a.Wf ∧ WfArgs as

theorem ArgsR.wf {w : World} {F : Nat → Prop} : ∀ {as : List Arg} {vs : List Value} {G : List Nat}, ArgsR w F as vs G → WfArgs as
  | [], _, _, _ => trivial
  | a :: as, [], _, h => h.elim
  | a :: as, v :: vs, _, ⟨S, G', _, h1, h2⟩ => by
    refine ⟨?_, ArgsR.wf h2⟩
    cases a with
    | ro d => obtain ⟨_, cs, _, h⟩ := h1; exact h.wf
    | mu d => obtain ⟨cs, _, h⟩ := h1; exact h.wf
    | gi d => obtain ⟨cs, _, h⟩ := h1; exact h.wf
    | mp d => obtain ⟨b, cs, e, S', _, _, h, _⟩ := h1; exact h.wf
    | rp d => obtain ⟨_, b, off, row, e, fz, _, _, _, h⟩ := h1; exact h.wf
    | fc f ds => trivial

theorem contract_wf {P : Program} {L : List (Nat × Obj)} {f : Nat} {as : List Arg} {out : Out} (h : WfArgs as → Contract P L f as out) : Contract P L f as out :=
  fun w F vals G hL ha hnd hG hF => h (ArgsR.wf ha) w F vals G hL ha hnd hG hF

end Go.Proofs.Ytllcebmbaejlhaa.Ab
