/- Functions of Go's library without a text. -/
import Derived.Test.YtllcebmbaejlhaaDoorAbFn
namespace Go.Proofs.YtllcebmbaejlhaaDoor.Ab
open Go

section
variable {P : Program}

theorem ext_run {f : Nat} {fn : Func} {e : Array Value → Sem Value} {args : Array Value} {w w' : World} {v : Value} (hf : P.funcs[f]? = some fn) (hn : (fn.name == "runtime.NumGoroutine") = false) (hb : fn.body.isNone = true) (hx : Extern.findNext fn = none) (he : Extern.find fn = some e)
    (h : (e args).run P w = .ok v w') : (callFunc f args).run P w = .ok (.value v) w' := by
  have hb' : fn.body.isNone = true := hb
  simp only [callFunc, Sem.run_bind, run_program, Result.andThen_ok, hf, hn, hb', hx, he]
  simp [h]

/-- Nothing is done but to return something that is read alone. -/
theorem did_pure {w : World} {F : Nat → Prop} {as : List Arg} {vals : List Value} {G : List Nat} {t : Ty} {x : t.den} {v : Value} {cs : List Value} (hv : v = toV t cs) (ho : Own w F t t.own x cs []) (hF : ∀ b, F b → b < w.heap.size) (hm : MutsR w F as vals [] []) :
    Did w F as vals G ([.v ⟨t, x⟩], []) (.returned v) w :=
  ⟨[v], F, [], [], rfl, Grow.refl _ _, fun _ h => h, fun b hb => ⟨hF b hb, .inl hb⟩, List.nodup_nil, fun b hb => by simp at hb, ⟨[], [], rfl, ⟨cs, hv, ho⟩, rfl⟩, hm⟩

def idxB (s : List UInt8) (c : Int) : Int :=
  match (List.range s.length).find? fun i => s.getD i 0 == UInt8.ofNat c.toNat with
  | some i => i
  | none => -1

theorem indexByte_c {L : List (Nat × Obj)} {f : Nat} {fn : Func} (hf : P.funcs[f]? = some fn) (hn : (fn.name == "runtime.NumGoroutine") = false) (hb : fn.body.isNone = true) (hx : Extern.findNext fn = none) (he : Extern.find fn = some Extern.BytealgIndexByte.indexByte) (s : List UInt8) (c : Int) :
    Contract P L f [.ro ⟨.str, s⟩, .ro ⟨.int .u8, c⟩] ([.v ⟨.int .i64, idxB s c⟩], []) := by
  intro w F vals G hL ha hnd hG hF
  obtain ⟨v1, v2, rfl⟩ : ∃ v1 v2, vals = [v1, v2] := by
    have := ArgsR.length ha
    match vals, this with
    | [v1, v2], _ => exact ⟨v1, v2, rfl⟩
  obtain ⟨S1, G', _, ⟨_, cs, h1, hr⟩, S2, G'', _, ⟨_, ds, h2, hr2⟩, _⟩ := ha
  obtain ⟨rfl, hl⟩ := hr
  obtain ⟨rfl, hw⟩ := hr2
  refine .inr ⟨.int .i64 (idxB s c), w, ext_run hf hn hb hx he ?_, did_pure (t := .int .i64) (cs := [.int .i64 (idxB s c)]) rfl ⟨⟨rfl, ?_⟩, rfl⟩ hF ⟨rfl, rfl⟩⟩
  · rw [h1, h2]
    have e1 : (⟨List.toArray (α := UInt8) s⟩ : ByteArray).size = s.length := List.size_toArray
    have e2 : ∀ i, (⟨List.toArray (α := UInt8) s⟩ : ByteArray)[i]! = s.getD i 0 := fun i => by
      by_cases h : i < s.length
      · have h' : i < (⟨List.toArray (α := UInt8) s⟩ : ByteArray).size := by rw [e1]; exact h
        rw [getElem!_pos (⟨List.toArray (α := UInt8) s⟩ : ByteArray) i h']
        simp only [List.getD, List.getElem?_eq_getElem h]
        rfl
      · have h' : ¬ i < (⟨List.toArray (α := UInt8) s⟩ : ByteArray).size := by rw [e1]; exact h
        rw [getElem!_neg (⟨List.toArray (α := UInt8) s⟩ : ByteArray) i h']
        simp only [List.getD, List.getElem?_eq_none (Nat.le_of_not_lt h)]
        rfl
    show ((match (List.range (⟨List.toArray (α := UInt8) s⟩ : ByteArray).size).find? fun i => (⟨List.toArray (α := UInt8) s⟩ : ByteArray)[i]! == UInt8.ofNat c.toNat with
      | some i => pure (goInt i)
      | none => pure (goInt (-1)) : Sem Value)).run P w = _
    rw [e1]
    simp only [e2, idxB]
    cases (List.range s.length).find? fun i => s.getD i 0 == UInt8.ofNat c.toNat <;> rfl
  · have hl' : s.length ≤ big := hl
    unfold idxB
    cases h : (List.range s.length).find? fun i => s.getD i 0 == UInt8.ofNat c.toNat with
    | none => rfl
    | some i =>
      have := List.mem_of_find?_eq_some h
      rw [List.mem_range] at this
      simp only [big] at hl'
      simp only [IntKind.wrap, IntKind.bits, IntKind.signed]
      simp
      omega

end
end Go.Proofs.YtllcebmbaejlhaaDoor.Ab
