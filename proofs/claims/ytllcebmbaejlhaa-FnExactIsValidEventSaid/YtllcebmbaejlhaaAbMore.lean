/- The small operations. -/
import Derived.Test.YtllcebmbaejlhaaAbAppend
import Derived.Laws.StructEq
namespace Go.Proofs.Ytllcebmbaejlhaa.Ab
open Go

/-- Whatever an operation leaves, the rest goes on from it. -/
def Good (P : Program) (o : Oper) (a : Act) (w : World) (R : Value → World → Prop) : Prop :=
  ∀ (next : Act → World → Prop) (Q : Exit → Act → World → Prop), (∀ val w', R val w' → next (a.put o.dst val) w') → o.wp P a w next Q

theorem Good.value {P : Program} {o : Oper} {a : Act} {w w' : World} {R : Value → World → Prop} {val : Value} (h : (execOp a.eval o).run P w = .ok (.value val) w') (hr : R val w') : Good P o a w R := by
  intro next Q hn
  unfold Oper.wp
  rw [h]
  exact hn val w' hr

theorem Good.skip {P : Program} {o : Oper} {a : Act} {w w' : World} {R : Value → World → Prop} (h : (execOp a.eval o).run P w = .ok .skip w') (hr : R undef w') : Good P o a w R := by
  intro next Q hn
  unfold Oper.wp
  rw [h]
  exact hn undef w' hr

section
variable {P : Program} {T : Types} {W : Nat → Prop} {w : World} {m : Mem} {σ : St} {S : Specs} {j : Nat} {l : List Ent} {a : Act}

theorem Good.yields {o : Oper} {K : AV → St → List Ent → Prop} {s : Sem Value} (h : Yields P W w m σ K s) (he : execOp a.eval o = (do pure (.value (← s)))) : Good P o a w (Res W w m σ K) := by
  obtain ⟨val, w', hr, hres⟩ := h
  refine Good.value (val := val) (w' := w') ?_ hres
  rw [he]
  simp [hr]

theorem val_bool {b : Bool} {v : Value} {h : Nat → Reg} (hv : VR w m h (.val .bool b) v) : v = .bool b := by
  obtain ⟨cs, rfl, hr⟩ := val_inv hv
  cases (show cs = [.bool b] from hr)
  rfl

theorem val_int {k : IntKind} {n : Int} {v : Value} {h : Nat → Reg} (hv : VR w m h (.val (.int k) n) v) : v = .int k n ∧ k.wrap n = n := by
  obtain ⟨cs, rfl, hr⟩ := val_inv hv
  obtain ⟨rfl, hx⟩ := hr
  exact ⟨rfl, hx⟩

/-- A value that stands already. -/
theorem pure_ok {v : AV} {val : Value} {K : AV → St → List Ent → Prop} (inv : Inv W w m σ.h []) (hv : VR w m σ.h v val) (h : (Pr.ret v : PrA).run S j σ l K) : Yields P W w m σ K (pure val) :=
  ⟨val, w, rfl, Res.of (v := v) inv (Up.refl _ _ _ _) hv rfl h⟩

theorem frozen_ok {v : AV} {val : Value} {K : AV → St → List Ent → Prop} (inv : Inv W w m σ.h []) (hv : VR w m σ.h v val) (h : (Pr.freeze std v fun d => .ret (.val d.t d.x) : PrA).run S j σ l K) : Yields P W w m σ K (pure val) := by
  obtain ⟨⟨t, x⟩, cs, m', h', l', rfl, hr, inv', hup, h⟩ := freezeV_ok inv hv h
  exact ⟨_, w, rfl, Res.of (v := .val t x) inv' hup ⟨cs, rfl, hr⟩ rfl h⟩

theorem move_ok {hint : Bool} {x : Operand} {K : AV → St → List Ent → Prop} (inv : Inv W w m σ.h []) (ht : Tmps w m σ a)
    (h : (bif hint then Pr.op x fun v => Pr.freeze std v fun ⟨t, x⟩ => .ret (.val t x) else Pr.op x .ret : PrA).run S j σ l K) : Yields P W w m σ K (pure (a.eval x)) := by
  cases hint with
  | true =>
    simp only [cond_true] at h
    obtain ⟨v, hv, _, h⟩ := op_ok ht h
    exact frozen_ok inv hv h
  | false =>
    simp only [cond_false] at h
    obtain ⟨v, hv, _, h⟩ := op_ok ht h
    exact pure_ok inv hv h

theorem pick_ok {c x y : Operand} {K : AV → St → List Ent → Prop} (inv : Inv W w m σ.h []) (ht : Tmps w m σ a)
    (h : (Pr.op c fun | .val .bool g => .split g (Pr.op x .ret) (Pr.op y .ret) | _ => .fail : PrA).run S j σ l K) : Yields P W w m σ K (do pure (if ← asBool (a.eval c) then a.eval x else a.eval y)) := by
  obtain ⟨v, hv, l', h⟩ := op_ok ht h
  cases v with
  | val t g =>
    cases t with
    | bool =>
      have hg := val_bool hv
      have hrun : ∀ u v : Value, (do pure (if ← asBool (a.eval c) then u else v) : Sem Value).run P w = .ok (bif (show Bool from g) then u else v) w := by
        intro u v; rw [hg]; cases (show Bool from g) <;> rfl
      change (Pr.split (show Bool from g) (Pr.op x .ret) (Pr.op y .ret) : PrA).run S j σ l' K at h
      generalize (show Bool from g) = b at h hrun
      cases b with
      | true =>
        obtain ⟨v, hv, _, h⟩ := op_ok ht h
        obtain ⟨val, w', hr, hres⟩ := pure_ok (P := P) inv hv h
        cases hr
        exact ⟨_, _, hrun _ _, hres⟩
      | false =>
        obtain ⟨v, hv, _, h⟩ := op_ok ht h
        obtain ⟨val, w', hr, hres⟩ := pure_ok (P := P) inv hv h
        cases hr
        exact ⟨_, _, hrun _ _, hres⟩
    | _ => exact h.elim
  | _ => exact h.elim

theorem nilCheck_ok {x : Operand} {K : AV → St → List Ent → Prop} {o : Oper} (ho : o.op = .nilCheck x) (inv : Inv W w m σ.h []) (ht : Tmps w m σ a)
    (h : (Pr.op x fun
    | .addr p v => Pr.resA p v fun _ => .ret (.addr p v)
    | .raddr u x => .ret (.raddr u x)
    | .rclo f c => .ret (.rclo f c)
    | .clo f c => .ret (.clo f c)
    | _ => .fail : PrA).run S j σ l K) : Good P o a w (Res W w m σ K) := by
  obtain ⟨v, hv, l₁, h⟩ := op_ok ht h
  have fin : ∀ val l', a.eval x = val → (∀ b, val = .pointer b → b ≠ none) → ((∃ b, val = .pointer b) ∨ ∃ f vs, val = .func (.func f) #[] vs) → (Pr.ret v : PrA).run S j σ l' K → Good P o a w (Res W w m σ K) := by
    intro val l' hval hne hp h
    obtain ⟨val', w', hr, hres⟩ := pure_ok (P := P) inv hv h
    cases hr
    refine Good.value (val := a.eval x) (w' := w) ?_ hres
    simp only [execOp, ho, hval]
    rcases hp with ⟨b, rfl⟩ | ⟨f, vs, rfl⟩
    · cases b with
      | none => exact absurd rfl (hne none rfl)
      | some b => rfl
    · rfl
  cases v with
  | addr p ver =>
    have hv' : AddrR m (σ.h p.r) p ver (a.eval x) := hv
    obtain ⟨box, t, y, fl, log, hg, hst, h⟩ := resA_run h
    rw [hg] at hv'
    obtain ⟨r, f, ix⟩ := p
    cases ix with
    | none =>
      obtain ⟨_, _, u', _, hv'⟩ := hv'
      exact fin _ _ hv' (by rintro b hb; cases hb; simp) (.inl ⟨_, rfl⟩) h
    | some iq =>
      obtain ⟨_, _, b, off, _, _, _, _, _, _, hv'⟩ := hv'.2 hst
      exact fin _ _ hv' (by rintro b hb; cases hb; simp) (.inl ⟨_, rfl⟩) h
  | raddr u y =>
    have hv' : RAddr w m u y (a.eval x) := hv
    obtain ⟨b, off, row, e, fz, hv', _⟩ := hv'
    exact fin _ _ hv' (by rintro b hb; cases hb; simp) (.inl ⟨_, rfl⟩) h
  | rclo f c =>
    obtain ⟨vs, hv', _⟩ := (show VR1 w m σ.h (.rclo f c) (a.eval x) from hv)
    exact fin _ _ hv' (by rintro b hb; cases hb) (.inr ⟨_, _, rfl⟩) h
  | clo f c =>
    obtain ⟨vs, hv', _⟩ := (show VR1 w m σ.h (.clo f c) (a.eval x) from hv)
    exact fin _ _ hv' (by rintro b hb; cases hb) (.inr ⟨_, _, rfl⟩) h
  | _ => exact h.elim

theorem addrs_run {α : Type} {K : α → St → List Ent → Prop} : ∀ {vs : List AV} {vals : List Value} {l : List Ent} {k : List (Pl × Nat) → Pr α}, All2 (VR w m σ.h) vs vals → (Pr.addrs vs k).run S j σ l K →
    ∃ caps, All2 (fun c v => AddrR m (σ.h (Pl.r c.1)) c.1 c.2 v) caps vals ∧ (k caps).run S j σ l K
  | [], [], _, _, _, h => ⟨[], trivial, h⟩
  | v :: vs, val :: vals, l, k, ⟨hv, hvs⟩, h => by
    cases v with
    | addr p ver =>
      obtain ⟨caps, hc, h⟩ := addrs_run (k := fun ps => k ((p, ver) :: ps)) hvs h
      exact ⟨(p, ver) :: caps, ⟨hv, hc⟩, h⟩
    | _ => exact h.elim
  | [], _ :: _, _, _, h, _ => h.elim
  | _ :: _, [], _, _, h, _ => h.elim

theorem opl_ok {α : Type} {K : α → St → List Ent → Prop} (ht : Tmps w m σ a) : ∀ {xs : List Operand} {l : List Ent} {k : List AV → Pr α}, (Pr.opl xs k).run S j σ l K → ∃ vs l', All2 (VR w m σ.h) vs (xs.map a.eval) ∧ (k vs).run S j σ l' K
  | [], l, k, h => ⟨[], l, trivial, h⟩
  | x :: xs, l, k, h => by
    obtain ⟨v, hv, l₁, h⟩ := op_ok ht h
    obtain ⟨vs, l', hvs, h⟩ := opl_ok ht h
    exact ⟨v :: vs, l', ⟨hv, hvs⟩, h⟩

theorem makeFunc_ok {f : FuncId} {first caps : Array Operand} {K : AV → St → List Ent → Prop} (inv : Inv W w m σ.h []) (ht : Tmps w m σ a)
    (h : (bif first.isEmpty then Pr.opl caps.toList fun vs => Pr.addrs vs fun l => .ret (.clo f l) else .fail : PrA).run S j σ l K) : Yields P W w m σ K (Instr.makeFunc (.func f) (first.map a.eval) (caps.map a.eval)) := by
  obtain ⟨he, h⟩ := bif_run h
  obtain ⟨vs, l', hvs, h⟩ := opl_ok ht h
  obtain ⟨cs, hc, h⟩ := addrs_run (k := fun l => (.ret (.clo f l) : PrA)) hvs h
  have hf : first.map a.eval = #[] := by
    have : first = #[] := by simpa using he
    simp [this]
  refine ⟨_, w, rfl, Res.of (v := .clo f cs) inv (Up.refl _ _ _ _) ?_ rfl h⟩
  rw [hf]
  exact ⟨caps.toList.map a.eval, by rw [← Array.toList_map], hc⟩

theorem extract_ok {x : Operand} {i : Nat} {K : AV → St → List Ent → Prop} (inv : Inv W w m σ.h []) (ht : Tmps w m σ a)
    (h : (Pr.op x fun | .tup vs => Pr.opt (nth vs i) .ret | _ => .fail : PrA).run S j σ l K) : Yields P W w m σ K (Instr.extract (a.eval x) i) := by
  obtain ⟨v, hv, l₁, h⟩ := op_ok ht h
  cases v with
  | tup vs =>
    obtain ⟨vals, e, hl⟩ := hv
    obtain ⟨v, hn, h⟩ := opt_run h
    obtain ⟨val, hval, hvr⟩ := nth2 hl hn
    refine ⟨val, w, ?_, Res.of (v := v) inv (Up.refl _ _ _ _) (vr1 hvr) rfl h⟩
    rw [e]
    simp [Instr.extract, hval]
  | _ => exact h.elim
  where
  nth2 : ∀ {vs : List AV} {vals : List Value} {i : Nat} {v : AV}, All2 (VR1 w m σ.h) vs vals → nth vs i = some v → ∃ val, vals[i]? = some val ∧ VR1 w m σ.h v val
    | [], _, i, v, _, h => by simp [nth] at h
    | v₀ :: vs, val :: vals, i, v, ⟨h1, h2⟩, h => by
      by_cases hi : i = 0
      · subst hi
        simp only [nth, beq_self_eq_true, cond_true, Option.some.injEq] at h
        subst h
        exact ⟨val, rfl, h1⟩
      · simp only [nth, kz hi, cond_false] at h
        obtain ⟨val', h3, h4⟩ := nth2 h2 h
        refine ⟨val', ?_, h4⟩
        obtain ⟨k, rfl⟩ : ∃ k, i = k + 1 := ⟨i - 1, by omega⟩
        simpa using h3
    | _ :: _, [], _, _, h, _ => h.elim
  vr1 {v : AV} {val : Value} (h : VR1 w m σ.h v val) : VR w m σ.h v val := by
    cases v with
    | tup vs => exact h.elim
    | _ => exact h

end
end Go.Proofs.Ytllcebmbaejlhaa.Ab
