/- What a function is known to do: contracts; what a caller makes of one. -/
import Derived.Test.YtllcebmbaejlhaaAbLit
namespace Go.Proofs.Ytllcebmbaejlhaa.Ab
open Go

def memF (F : Nat → Prop) : Mem := ⟨F, fun _ => [], fun _ => 0, fun _ => []⟩

/-- A value in memory of a variable of its own. -/
def BoxR (w : World) (F : Nat → Prop) (t : Ty) (x : t.den) (v : Value) (S : List Nat) : Prop :=
  ∃ b cs e S', v = .pointer (some ⟨b, 0, none⟩) ∧ w.heap[b]? = some (.cells (List.toArray cs) e (0, 0)) ∧ Own w F t t.own x cs S' ∧ S = b :: S'

def OwnR (w : World) (F : Nat → Prop) (t : Ty) (x : t.den) (v : Value) (S : List Nat) : Prop := ∃ cs, v = toV t cs ∧ Own w F t t.own x cs S

/-- An argument as it lies in memory; the blocks 'S' are the callee's. -/
def ArgR (w : World) (F : Nat → Prop) (a : Arg) (v : Value) (S : List Nat) : Prop :=
  match a with
  | .ro d => S = [] ∧ ∃ cs, v = toV d.t cs ∧ Rep w F d.t d.x cs
  | .mu d => OwnR w F d.t d.x v S
  | .gi d => OwnR w F d.t d.x v S
  | .mp d => BoxR w F d.t d.x v S
  | .rp d => S = [] ∧ RAddr w (memF F) d.t d.x v
  | .fc f ds => S = [] ∧ ∃ vs, v = .func (.func f) #[] (List.toArray vs) ∧ All2 (fun d v => RAddr w (memF F) (DV.t d) d.x v) ds vs

def ArgsR (w : World) (F : Nat → Prop) : List Arg → List Value → List Nat → Prop
  | [], [], G => G = []
  | a :: as, v :: vs, G => ∃ S G', G = S ++ G' ∧ ArgR w F a v S ∧ ArgsR w F as vs G'
  | _, _, _ => False

def MutsR (w : World) (F : Nat → Prop) : List Arg → List Value → List DV → List Nat → Prop
  | [], [], ms, G => ms = [] ∧ G = []
  | a :: as, v :: vs, ms, G =>
    match a with
    | .mu d => ∃ (x : d.t.den) (ms' : List DV) (S G' : List Nat), ms = ⟨d.t, x⟩ :: ms' ∧ G = S ++ G' ∧ OwnR w F d.t x v S ∧ MutsR w F as vs ms' G'
    | .mp d => ∃ (x : d.t.den) (ms' : List DV) (S G' : List Nat), ms = ⟨d.t, x⟩ :: ms' ∧ G = S ++ G' ∧ BoxR w F d.t x v S ∧ MutsR w F as vs ms' G'
    | _ => MutsR w F as vs ms G
  | _, _, _, _ => False

def RVR (w : World) (F : Nat → Prop) (r : RV) (v : Value) (S : List Nat) : Prop :=
  match r with
  | .v d => OwnR w F d.t d.x v S
  | .s d => S = [] ∧ ∃ cs, v = toV d.t cs ∧ Rep w F d.t d.x cs
  | .p d => BoxR w F d.t d.x v S

def ResL (w : World) (F : Nat → Prop) : List RV → List Value → List Nat → Prop
  | [], [], G => G = []
  | r :: rs, v :: vs, G => ∃ S G', G = S ++ G' ∧ RVR w F r v S ∧ ResL w F rs vs G'
  | _, _, _ => False

def retV : List Value → Value
  | [v] => v
  | vs => .tuple vs.toArray

def Enters (P : Program) (f : Nat) : Prop := ∃ fn, P.funcs[f]? = some fn ∧ fn.body.isNone = false ∧ (fn.name == "runtime.NumGoroutine") = false

/-- A call of a function, with a text or without one. -/
def Does (P : Program) (f : Nat) (args : Array Value) (w : World) (R : Ending → World → Prop) : Prop :=
  (Enters P f ∧ Calls P f args w R) ∨ ∃ v w', (callFunc f args).run P w = .ok (.value v) w' ∧ R (.returned v) w'

theorem Does.mono {P : Program} {f : Nat} {args : Array Value} {w : World} {R R' : Ending → World → Prop} (h : Does P f args w R) (hr : ∀ e w', R e w' → R' e w') : Does P f args w R' :=
  h.imp (fun h => ⟨h.1, Calls.mono h.2 hr⟩) (fun ⟨v, w', h1, h2⟩ => ⟨v, w', h1, hr _ _ h2⟩)

/-- What lies in memory all the time: blocks of package-level variables that nobody writes. -/
def Lies (L : List (Nat × Obj)) (w : World) (F : Nat → Prop) : Prop := ∀ x ∈ L, F x.1 ∧ w.heap[x.1]? = some x.2

theorem Lies.stay {L : List (Nat × Obj)} {w w' : World} {F F' : Nat → Prop} (h : Lies L w F) (hs : Stays w w' F F') : Lies L w' F' := fun x hx => ⟨(hs _ (h x hx).1).1, by rw [(hs _ (h x hx).1).2]; exact (h x hx).2⟩

/-- What a function has done, whatever it returns. -/
def Did (w : World) (F : Nat → Prop) (as : List Arg) (vals : List Value) (G : List Nat) (out : Out) (e : Ending) (w' : World) : Prop :=
  ∃ vs F' G₁ G₂, e = .returned (retV vs) ∧ Grow w w' G ∧ (∀ b, F b → F' b) ∧ (∀ b, F' b → b < w'.heap.size ∧ (F b ∨ b ∈ G ∨ w.heap.size ≤ b)) ∧
    (G₁ ++ G₂).Nodup ∧ (∀ b ∈ G₁ ++ G₂, (b ∈ G ∨ w.heap.size ≤ b) ∧ b < w'.heap.size ∧ ¬ F' b) ∧ ResL w' F' out.1 vs G₁ ∧ MutsR w' F' as vals out.2 G₂

/-- Called with such arguments, the function returns such results, and writes nothing old but what it was given. -/
def Contract (P : Program) (L : List (Nat × Obj)) (f : Nat) (as : List Arg) (out : Out) : Prop :=
  ∀ (w : World) (F : Nat → Prop) (vals : List Value) (G : List Nat), Lies L w F → ArgsR w F as vals G → G.Nodup → (∀ b ∈ G, b < w.heap.size ∧ ¬ F b) → (∀ b, F b → b < w.heap.size) →
    Does P f vals.toArray w (Did w F as vals G out)

def SpecsOK (P : Program) (L : List (Nat × Obj)) (S : Specs) : Prop := ∀ f as out, S f as out → Contract P L f as out

/-! ### What does not depend on the blocks that nobody writes -/
theorem own_any : ∀ {t : Ty}, t.tame = true → ∀ {w : World} {F F' : Nat → Prop} {x : t.den} {cs : List Value} {S : List Nat}, Own w F t t.own x cs S → Own w F' t t.own x cs S
  | .int _, _, _, _, _, _, _, _, h => h
  | .bool, _, _, _, _, _, _, _, h => h
  | .str, _, _, _, _, _, _, _, h => h
  | .arr n u, ht, w, F, F', x, cs, S, h => ⟨⟨h.1.1, RepL.mono (fun x c hc => flat_rep (by simpa [Ty.tame] using ht) hc) h.1.2⟩, h.2⟩
  | .list u, ht, w, F, F', xs, cs, S, h => by
    obtain ⟨A, cap, e, hb, hx⟩ := h
    refine ⟨A, cap, e, hb, hx.imp id ?_⟩
    rintro ⟨b, off, row, e, S', h1, h2, h3, h4, h5, h6⟩
    exact ⟨b, off, row, e, S', h1, h2, h3, h4, h5, OwnL.mono (fun x c S _ hx => own_any (by simpa [Ty.tame] using ht) hx) h6⟩
  | .prod a b, ht, w, F, F', x, cs, S, h => by
    simp only [Ty.tame, Bool.and_eq_true] at ht
    obtain ⟨c, d, S1, S2, e1, e2, h1, h2⟩ := h
    exact ⟨c, d, S1, S2, e1, e2, own_any ht.1 h1, own_any ht.2 h2⟩
  | .agg u, ht, w, F, F', x, cs, S, h => own_any (t := u) ht h

theorem flat_own' : ∀ {t : Ty}, t.flat = true → ∀ {w : World} {F F' : Nat → Prop} {x : t.den} {cs : List Value} {S : List Nat}, Own w F t t.own x cs S → Rep w F' t x cs ∧ S = []
  | .int _, _, _, _, _, _, _, _, h => h
  | .bool, _, _, _, _, _, _, _, h => h
  | .str, _, _, _, _, _, _, _, h => h
  | .arr n u, ht, w, F, F', x, cs, S, h => ⟨flat_rep (t := .arr n u) ht h.1, h.2⟩
  | .list u, ht, _, _, _, _, _, _, _ => by simp [Ty.flat] at ht
  | .prod a b, ht, w, F, F', x, cs, S, h => by
    simp only [Ty.flat, Bool.and_eq_true] at ht
    obtain ⟨c, d, S1, S2, e1, e2, h1, h2⟩ := h
    obtain ⟨k1, rfl⟩ := flat_own' ht.1 (F' := F') h1
    obtain ⟨k2, rfl⟩ := flat_own' ht.2 (F' := F') h2
    exact ⟨⟨c, d, e1, k1, k2⟩, by simpa using e2⟩
  | .agg u, ht, w, F, F', x, cs, S, h => flat_own' (t := u) ht h
  where
  flat_rep {t : Ty} (hf : t.flat = true) {w : World} {F F' : Nat → Prop} {x : t.den} {cs : List Value} (h : Rep w F t x cs) : Rep w F' t x cs := Ab.flat_rep hf h

/-! ### Results -/
section
variable {W : Nat → Prop} {w : World} {S : Specs} {j : Nat}

/-- A variable that stands in hand. -/
theorem newptr_ok {m : Mem} {h : Nat → Reg} {G : List Nat} {b : Nat} {Sx : List Nat} (inv : Inv W w m h (b :: Sx ++ G)) {r : Nat} (hr : h r = .free) {t : Ty} {x : t.den} {fl : Fl} {cs : List Value} {e : TypeId} (hh : w.heap[b]? = some (.cells cs.toArray e (0, 0))) (hown : Own w m.F t fl x cs Sx) :
    ∃ m', Inv W w m' (upd h r (.own true t x fl [])) G ∧ Up W w m h w m' (upd h r (.own true t x fl [])) ∧ VR1 w m' (upd h r (.own true t x fl [])) (.addr ⟨r, [], none⟩ 0) (.pointer (some ⟨b, 0, none⟩)) := by
  have hc : Change W w m h (b :: Sx ++ G) r w m.F cs b Sx (.own true t x fl []) G := by
    refine ⟨Grow.refl _ _, fun _ h => h, fun b hb => ⟨inv.flt b hb, .inl hb⟩, ?_, fun b hb => ?_, ?_⟩
    · rw [own1_eq, mem_put.2.2.1, mem_put.2.1]; exact inv.gdup
    · rw [own1_eq, mem_put.2.2.1, mem_put.2.1] at hb
      exact ⟨.inr (.inl hb), inv.glt b hb⟩
    · refine ⟨?_, fun _ => ⟨e, ?_⟩⟩
      · rw [mem_put.1, mem_put.2.2.1, mem_put.2.2.2]; exact hown
      · rw [mem_put.1, mem_put.2.1]; exact hh
  refine ⟨_, hc.inv inv, hc.up inv ?_, ?_⟩
  · rw [hr]; exact ⟨fun p ver v _ h => h.elim, fun p ver v _ h => h.elim, fun v h => h.elim⟩
  · have key : AddrR (m.put m.F r cs b Sx) (.own true t x fl []) ⟨r, [], none⟩ 0 (.pointer (some ⟨b, 0, none⟩)) := ⟨Nat.le_refl _, rfl, t, rfl, by simp only [mem_put.2.1]; rfl⟩
    simp only [VR1, upd_same]
    exact key

theorem rv_ok {lent : Bool} {r : Nat} {x : RV} {k : AV → PrA} {K : AV → St → List Ent → Prop} {m : Mem} {σ : St} {l : List Ent} {F : Nat → Prop} {v : Value} {Sx G : List Nat} (inv : Inv W w m σ.h (Sx ++ G)) (hF : lent = false → ∀ b, F b → m.F b) (hx : RVR w F x v Sx)
    (h : (Pr.rv lent r x k).run S j σ l K) : ∃ av m' h' l', VR1 w m' h' av v ∧ Inv W w m' h' G ∧ Up W w m σ.h w m' h' ∧ (k av).run S j { σ with h := h' } l' K := by
  cases x with
  | v d =>
    obtain ⟨t, x⟩ := d
    obtain ⟨cs, rfl, ho⟩ := hx
    simp only [Pr.rv] at h
    cases hf : t.flat with
    | true =>
      rw [hf] at h
      obtain ⟨hr, rfl⟩ := flat_own' hf (F' := m.F) ho
      exact ⟨.val t x, m, σ.h, l, ⟨cs, rfl, hr⟩, by simpa using inv, Up.refl _ _ _ _, h⟩
    | false =>
      rw [hf] at h
      obtain ⟨ht, h2⟩ := bif_run (show (bif t.tame then _ else Pr.fail : PrA).run S j σ l K from h)
      obtain ⟨hr, h3⟩ := new_run h2
      obtain ⟨m', inv', hup, hv⟩ := new_ok inv hr (own_any ht (F' := m.F) ho)
      exact ⟨_, m', _, _, hv, inv', hup, h3⟩
  | s d =>
    obtain ⟨t, x⟩ := d
    obtain ⟨rfl, cs, rfl, hr⟩ := hx
    obtain ⟨hb, h2⟩ := bif_run h
    refine ⟨.val t x, m, σ.h, l, ⟨cs, rfl, ?_⟩, by simpa using inv, Up.refl _ _ _ _, h2⟩
    cases hf : t.flat with
    | true => exact flat_rep hf hr
    | false =>
      rw [hf] at hb
      have : lent = false := by simpa using hb
      exact Rep.mono (fun b hb => ⟨hF this b hb, rfl⟩) hr
  | p d =>
    obtain ⟨t, x⟩ := d
    obtain ⟨b, cs, e, S', rfl, hh, ho, rfl⟩ := hx
    obtain ⟨ht, h2⟩ := bif_run h
    obtain ⟨hr, h3⟩ := new_run h2
    obtain ⟨m', inv', hup, hv⟩ := newptr_ok inv hr hh (own_any ht (F' := m.F) ho)
    exact ⟨_, m', _, _, hv, inv', hup, h3⟩

theorem Own.same {F F' : Nat → Prop} {t : Ty} {f : Fl} {x : t.den} {cs : List Value} {Sx : List Nat} (h : Own w F t f x cs Sx) (hF : ∀ b, F b → F' b) : Own w F' t f x cs Sx := Own.mono (fun b hb => ⟨hF b hb, rfl⟩) (fun _ _ => rfl) h

theorem rvs_ok {lent : Bool} {K : AV → St → List Ent → Prop} {F : Nat → Prop} : ∀ {rs : List RV} {r : Nat} {vals : List Value} {G : List Nat} {m : Mem} {σ : St} {l : List Ent} {k : List AV → PrA}, Inv W w m σ.h (G ++ []) → (lent = false → ∀ b, F b → m.F b) → ResL w F rs vals G →
    (Pr.rvs lent r rs k).run S j σ l K → ∃ vs m' h' l', All2 (VR1 w m' h') vs vals ∧ Inv W w m' h' [] ∧ Up W w m σ.h w m' h' ∧ (k vs).run S j { σ with h := h' } l' K
  | [], r, [], G, m, σ, l, k, inv, hF, hx, h => by
    cases (show G = [] from hx)
    exact ⟨[], m, σ.h, l, trivial, inv, Up.refl _ _ _ _, h⟩
  | x :: xs, r, v :: vs, G, m, σ, l, k, inv, hF, ⟨S1, S2, hG, hx, hxs⟩, h => by
    subst hG
    rw [List.append_assoc] at inv
    obtain ⟨av, m₁, h₁, l₁, hv, inv₁, hup₁, h2⟩ := rv_ok inv hF hx h
    obtain ⟨avs, m', h', l', hvs, inv', hup', h3⟩ := rvs_ok (σ := { σ with h := h₁ }) inv₁ (fun e b hb => (hup₁.st b (hF e b hb)).1) hxs h2
    exact ⟨av :: avs, m', h', l', ⟨hup'.le _ _ hv, hvs⟩, inv', hup₁.trans hup', h3⟩
  | [], _, _ :: _, _, _, _, _, _, _, _, h, _ => h.elim
  | _ :: _, _, [], _, _, _, _, _, _, _, h, _ => h.elim

theorem VR1.up {m : Mem} {h : Nat → Reg} {v : AV} {val : Value} (hv : VR1 w m h v val) : VR w m h v val := by
  cases v with
  | tup vs => exact hv.elim
  | _ => exact hv

theorem ofList_ok {m : Mem} {h : Nat → Reg} : ∀ {vs : List AV} {vals : List Value}, All2 (VR1 w m h) vs vals → VR w m h (AV.ofList vs) (retV vals)
  | [], [], _ => ⟨[], rfl, trivial⟩
  | [v], [x], ⟨hv, _⟩ => VR1.up hv
  | v :: v' :: vs, x :: x' :: xs, h => ⟨_, rfl, h⟩
  | [], _ :: _, h => h.elim
  | _ :: _, [], h => h.elim
  | [_], _ :: _ :: _, h => h.2.elim
  | _ :: _ :: _, [_], h => h.2.elim

end
end Go.Proofs.Ytllcebmbaejlhaa.Ab
