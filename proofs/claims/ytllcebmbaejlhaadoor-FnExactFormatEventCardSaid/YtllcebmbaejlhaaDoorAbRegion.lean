/- Regions: in the order of the text, and in any order. -/
import Derived.Test.YtllcebmbaejlhaaDoorAbStep
import Derived.Orders
namespace Go.Proofs.YtllcebmbaejlhaaDoor.Ab
open Go

/-- The interpreter's state fits the machine's. -/
structure Sim (W : Nat → Prop) (w₀ : World) (F₀ : Nat → Prop) (n : Nat) (H : List (AV × Value)) (w : World) (m : Mem) (σ : St) (a : Act) : Prop where
  inv : Inv W w m σ.h []
  tmps : Tmps w m σ a
  fr : Fr W w₀ w
  st : Stays w₀ w F₀ m.F
  fdn : ∀ b, m.F b → F₀ b ∨ W b
  dfr : a.defers = []
  sz : a.tmps.size = n
  heads : ∀ x ∈ H, VR1 w m σ.h x.1 x.2

theorem nth_eq {α : Type} : ∀ {l : List α} {i : Nat}, nth l i = l[i]?
  | [], i => by simp [nth]
  | x :: l, i => by
    by_cases hi : i = 0
    · subst hi; rfl
    · obtain ⟨k, rfl⟩ : ∃ k, i = k + 1 := ⟨i - 1, by omega⟩
      simp [nth, nth_eq]

section
variable {P : Program} {T : Types} {W : Nat → Prop} {w₀ : World} {F₀ : Nat → Prop} {n : Nat} {H : List (AV × Value)} {L : List (Nat × Obj)} {S : Specs}

theorem eval_put {a : Act} {dst : Option Nat} {val : Value} {t : Nat} (hd : ∀ t, dst = some t → t < a.tmps.size) : (a.put dst val).eval (.tmp t) = if dst = some t then val else a.eval (.tmp t) := by
  cases dst with
  | none => simp [Act.put]
  | some d =>
    have := hd d rfl
    simp only [Act.put, Act.eval, Array.getD_eq_getD_getElem?, Array.getElem?_setIfInBounds, Option.some.injEq]
    by_cases h : d = t
    · subst h; simp [this]
    · simp [h]

theorem Sim.next {w w' : World} {m m' : Mem} {σ : St} {a : Act} {h' : Nat → Reg} {v : AV} {val : Value} {dst : Option Nat} (s : Sim W w₀ F₀ n H w m σ a) (inv' : Inv W w' m' h' []) (hup : Up W w m σ.h w' m' h') (hv : VR w' m' h' v val) (hd : ∀ t, dst = some t → t < n) :
    Sim W w₀ F₀ n H w' m' (({ σ with h := h' } : St).put dst v) (a.put dst val) := by
  have hh : (({ σ with h := h' } : St).put dst v).h = h' := by cases dst <;> rfl
  refine ⟨by rw [hh]; exact inv', fun t => ?_, s.fr.trans hup.fr, fun b hb => ⟨(hup.st b (s.st b hb).1).1, ((hup.st b (s.st b hb).1).2).trans (s.st b hb).2⟩, fun b hb => (hup.fdn b hb).elim (s.fdn b) .inr, ?_, ?_, fun x hx => by rw [hh]; exact hup.le _ _ (s.heads x hx)⟩
  · rw [hh, eval_put (by rw [s.sz]; exact hd)]
    cases dst with
    | none => exact hup.le.all (s.tmps t)
    | some d =>
      simp only [St.put, Option.some.injEq]
      by_cases h : d = t
      · subst h; simpa using hv
      · have : (t == d) = false := by simpa using Ne.symm h
        rw [this, if_neg h]
        exact hup.le.all (s.tmps t)
  · cases dst <;> exact s.dfr
  · cases dst with
    | none => exact s.sz
    | some d => simp only [Act.put, Array.size_setIfInBounds]; exact s.sz

/-- The same memory but for what has been drawn. -/
theorem Sim.draw {w : World} {m : Mem} {σ : St} {a : Act} (s : Sim W w₀ F₀ n H w m σ a) : Sim W w₀ F₀ n H { w with drawn := w.drawn + 1 } m σ a := by
  obtain ⟨inv', hup⟩ := hand_change (w' := { w with drawn := w.drawn + 1 }) (G' := []) (F' := m.F) s.inv ⟨fun b _ _ => rfl, Nat.le_refl _, rfl, rfl⟩ (fun b hb => hb) (fun b hb => ⟨s.inv.flt b hb, .inl hb⟩) List.nodup_nil (fun b hb => by simp at hb)
  have := s.next (dst := none) (v := .un) (val := undef) inv' hup trivial (fun t h => by cases h)
  exact this

theorem put_self {σ : St} {t : Nat} {v : AV} (h : σ.ρ t = v) : σ.put (some t) v = σ := by
  obtain ⟨ρ, hh⟩ := σ
  simp only [St.put]
  congr 1
  funext k
  by_cases hk : k = t
  · subst hk; simpa using h.symm
  · have : (k == t) = false := by simpa using hk
    simp [this]

theorem bool_tmp {w : World} {m : Mem} {σ : St} {a : Act} {t : Nat} {b : Bool} (ht : Tmps w m σ a) (h : σ.ρ t = .val .bool b) : a.tmps[t]? = some (.bool b) := by
  have := ht t
  rw [h] at this
  have hv := val_bool this
  simp only [Act.eval, Array.getD_eq_getD_getElem?] at hv
  cases hx : a.tmps[t]? with
  | none => rw [hx] at hv; simp [undef] at hv
  | some v => rw [hx] at hv; simpa using hv

theorem und_tmp {w : World} {m : Mem} {σ : St} {a : Act} {t : Nat} (ht : Tmps w m σ a) (h : σ.ρ t = .und) : ∀ b, a.tmps[t]? ≠ some (.bool b) := by
  intro b hx
  have := ht t
  rw [h] at this
  have hv : a.eval (.tmp t) = undef := this
  simp only [Act.eval, Array.getD_eq_getD_getElem?, hx] at hv
  simp [undef] at hv

/-- One operation with its guard. -/
theorem op1_ok {md : Modes} {hint : List (Nat × Nat)} {all : List Oper} {o : Oper} {i : Nat} {K : St → List Ent → Prop} {σ : St} {l : List Ent} {w : World} {m : Mem} {a : Act} (hTie : ∀ τ u, T τ = some u → Tie P u τ) (hC : CmpOK P T) (hS : SpecsOK P L S) (hL : Lies L w₀ F₀)
    (s : Sim W w₀ F₀ n H w m σ a) (hd : ∀ t, o.dst = some t → t < n) (h : op1 std T md S hint all o i K σ l) {N : Act → World → Prop} (hN : ∀ σ' l' a' w' m', K σ' l' → Sim W w₀ F₀ n H w' m' σ' a' → N a' w') {Q : Exit → Act → World → Prop} :
    if Region.wanted o (yielded all.toArray a.tmps) then o.wp P a w N Q else N (a.put o.dst undef) w := by
  have hfin : ∀ {v : AV} {σ : St} {l : List Ent} {m m' : Mem} {w w' : World} {val : Value} {h' : Nat → Reg} {a : Act}, Sim W w₀ F₀ n H w m σ a → Inv W w' m' h' [] → Up W w m σ.h w' m' h' → VR w' m' h' v val → fin o i K v { σ with h := h' } l → N (a.put o.dst val) w' := by
    intro v σ l m m' w w' val h' a s inv' hup hv hf
    have hs := s.next (dst := o.dst) inv' hup hv hd
    simp only [fin] at hf
    cases hdst : o.dst with
    | none => rw [hdst] at hf hs; exact hN _ _ _ _ _ hf hs
    | some t => rw [hdst] at hf hs; exact hN _ _ _ _ _ hf hs
  have hrun : ∀ {σ : St} {l : List Ent}, Sim W w₀ F₀ n H w m σ a → (step std T md hint (home o) o).run S i σ l (fin o i K) → o.wp P a w N Q := by
    intro σ l s h
    refine step_ok hTie hC hS (hL.stay s.st) s.inv s.tmps h N Q fun val w' hres => ?_
    obtain ⟨m', h', l', v, inv', hup, hv, hK⟩ := hres
    exact hfin s inv' hup hv hK
  have hskip : ∀ {σ : St} {l : List Ent}, Sim W w₀ F₀ n H w m σ a → fin o i K .und σ l → N (a.put o.dst undef) w := by
    intro σ l s h
    exact hfin (v := .und) s s.inv (Up.refl _ _ _ _) rfl h
  unfold op1 at h
  cases hg : o.guard with
  | none =>
    rw [hg] at h
    simp only [Region.wanted, hg, if_true]
    exact hrun s h
  | some jw =>
    obtain ⟨j, want⟩ := jw
    rw [hg] at h
    simp only [] at h
    cases ht : (nth all j).bind (·.dst) with
    | none => rw [ht] at h; exact h.elim
    | some t =>
      rw [ht] at h
      have hy : yielded all.toArray a.tmps j = match a.tmps[t]? with | some (.bool b) => some b | _ => none := by
        simp only [yielded, List.getElem?_toArray]
        rw [← nth_eq, ht]
        rfl
      simp only [Region.wanted, hg, hy]
      simp only at h
      cases hv : σ.ρ t with
      | val u g =>
        cases u with
        | bool =>
          rw [hv] at h
          obtain ⟨g, rfl⟩ : ∃ b : Bool, b = g := ⟨g, rfl⟩
          have hb := bool_tmp s.tmps hv
          rw [hb]
          cases g with
          | true =>
            cases want with
            | true =>
              simp only at h
              rw [put_self hv] at h
              simpa using hrun s h
            | false =>
              simp only at h
              rw [put_self hv] at h
              simpa using hskip s h
          | false =>
            cases want with
            | true =>
              simp only at h
              rw [put_self hv] at h
              simpa using hskip s h
            | false =>
              simp only at h
              rw [put_self hv] at h
              simpa using hrun s h
        | _ => rw [hv] at h; exact h.elim
      | und =>
        rw [hv] at h
        have hu := und_tmp s.tmps hv
        have : (match a.tmps[t]? with | some (.bool b) => some b | _ => none : Option Bool) = none := by
          split
          · rename_i b hb; exact absurd hb (hu b)
          · rfl
        rw [this]
        simpa using hskip s h
      | _ => rw [hv] at h; exact h.elim

theorem ops_ok {md : Modes} {hint : List (Nat × Nat)} {all : List Oper} {K : St → List Ent → Prop} {Q : Exit → Act → World → Prop} (hTie : ∀ τ u, T τ = some u → Tie P u τ) (hC : CmpOK P T) (hS : SpecsOK P L S) (hL : Lies L w₀ F₀)
    (hQ : ∀ σ l a w m, K σ l → Sim W w₀ F₀ n H w m σ a → Q .normal a w) : ∀ {os : List Oper} {i : Nat} {σ : St} {l : List Ent} {w : World} {m : Mem} {a : Act}, (∀ o ∈ os, ∀ t, o.dst = some t → t < n) → Sim W w₀ F₀ n H w m σ a → ops std T md S hint all K os i σ l → wpList P all.toArray Q os a w
  | [], i, σ, l, w, m, a, _, s, h => wpList_nil (hQ _ _ _ _ _ h s)
  | o :: os, i, σ, l, w, m, a, hd, s, h => by
    have := op1_ok (Q := Q) (N := wpList P all.toArray Q os) hTie hC hS hL s (hd o (by simp)) h (fun σ' l' a' w' m' hK hs => ops_ok hTie hC hS hL hQ (fun o ho => hd o (List.mem_cons_of_mem _ ho)) hs hK)
    unfold wpList
    by_cases hw : Region.wanted o (yielded all.toArray a.tmps) = true
    · rw [if_pos hw] at this ⊢; exact .inl this
    · rw [if_neg hw] at this ⊢; exact this

end
end Go.Proofs.YtllcebmbaejlhaaDoor.Ab
