/- Regions that draw their order: what is apart may be carried out in any order. -/
import Derived.Test.YtllcebmbaejlhaaDoorAbRegion
namespace Go.Proofs.YtllcebmbaejlhaaDoor.Ab
open Go

section
variable {P : Program} {T : Types} {W : Nat → Prop} {w₀ : World} {F₀ : Nat → Prop} {n : Nat} {S : Specs}

/-- What a small program does, with what it has looked at and written. -/
def Pr.ev {α : Type} (S : Specs) (i : Nat) : Pr α → St → α → (Nat → Reg) → List Ent → Prop
  | .ret a, σ, x, h', e => x = a ∧ h' = σ.h ∧ e = []
  | .fail, _, _, _, _ => False
  | .get t k, σ, x, h', e => ∃ e', Pr.ev S i (k (σ.ρ t)) σ x h' e' ∧ e = ⟨i, tc t, false⟩ :: e'
  | .reg r k, σ, x, h', e => ∃ e', Pr.ev S i (k (σ.h r)) σ x h' e' ∧ e = ⟨i, r, false⟩ :: e'
  | .set r g k, σ, x, h', e => ∃ e', Pr.ev S i k (σ.setR r g) x h' e' ∧ e = ⟨i, r, true⟩ :: e'
  | .need b k, σ, x, h', e => b = true ∧ Pr.ev S i k σ x h' e
  | .split b p q, σ, x, h', e =>
    match b with
    | true => Pr.ev S i p σ x h' e
    | false => Pr.ev S i q σ x h' e
  | .call f as k, σ, x, h', e => ∃ out, S f as out ∧ Pr.ev S i (k out) σ x h' e

/-- The same marks. -/
def Marks (l' e l : List Ent) : Prop := ∀ x, x ∈ l' ↔ x ∈ e ∨ x ∈ l

theorem Marks.cons {l' e l : List Ent} {y : Ent} (h : Marks l' e (y :: l)) : Marks l' (y :: e) l := fun x => by
  rw [h x]; simp only [List.mem_cons]
  constructor
  · rintro (h | h | h)
    · exact .inl (.inr h)
    · exact .inl (.inl h)
    · exact .inr h
  · rintro ((h | h) | h)
    · exact .inr (.inl h)
    · exact .inl h
    · exact .inr (.inr h)

theorem run_ev {α : Type} {i : Nat} {K : α → St → List Ent → Prop} : ∀ {p : Pr α} {σ : St} {l : List Ent}, p.run S i σ l K → ∃ x h' e l', Pr.ev S i p σ x h' e ∧ Marks l' e l ∧ K x { σ with h := h' } l'
  | .ret a, σ, l, h => ⟨a, σ.h, [], l, ⟨rfl, rfl, rfl⟩, fun x => by simp, h⟩
  | .fail, _, _, h => h.elim
  | .get t k, σ, l, h => by
    obtain ⟨x, h', e, l', h1, h2, h3⟩ := run_ev (p := k (σ.ρ t)) h
    exact ⟨x, h', _, l', ⟨e, h1, rfl⟩, h2.cons, h3⟩
  | .reg r k, σ, l, h => by
    obtain ⟨x, h', e, l', h1, h2, h3⟩ := run_ev (p := k (σ.h r)) h
    exact ⟨x, h', _, l', ⟨e, h1, rfl⟩, h2.cons, h3⟩
  | .set r g k, σ, l, h => by
    obtain ⟨x, h', e, l', h1, h2, h3⟩ := run_ev (p := k) h
    exact ⟨x, h', _, l', ⟨e, h1, rfl⟩, h2.cons, h3⟩
  | .need b k, σ, l, h => by
    obtain ⟨x, h', e, l', h1, h2, h3⟩ := run_ev (p := k) h.2
    exact ⟨x, h', _, l', ⟨h.1, h1⟩, h2, h3⟩
  | .split true p q, σ, l, h => run_ev (p := p) h
  | .split false p q, σ, l, h => run_ev (p := q) h
  | .call f as k, σ, l, h => by
    obtain ⟨out, ho, h⟩ := h
    obtain ⟨x, h', e, l', h1, h2, h3⟩ := run_ev (p := k out) h
    exact ⟨x, h', _, l', ⟨out, ho, h1⟩, h2, h3⟩

theorem ev_run {α : Type} {i : Nat} {K : α → St → List Ent → Prop} : ∀ {p : Pr α} {σ : St} {l : List Ent} {x : α} {h' : Nat → Reg} {e : List Ent}, Pr.ev S i p σ x h' e → (∀ l', Marks l' e l → K x { σ with h := h' } l') → p.run S i σ l K
  | .ret a, σ, l, x, h', e, h, hk => by
    obtain ⟨rfl, rfl, rfl⟩ := h
    exact hk l (fun x => by simp)
  | .fail, _, _, _, _, _, h, _ => h.elim
  | .get t k, σ, l, x, h', e, h, hk => by
    obtain ⟨e', h1, rfl⟩ := h
    exact ev_run (p := k (σ.ρ t)) h1 (fun l' hl => hk l' hl.cons)
  | .reg r k, σ, l, x, h', e, h, hk => by
    obtain ⟨e', h1, rfl⟩ := h
    exact ev_run (p := k (σ.h r)) h1 (fun l' hl => hk l' hl.cons)
  | .set r g k, σ, l, x, h', e, h, hk => by
    obtain ⟨e', h1, rfl⟩ := h
    exact ev_run (p := k) h1 (fun l' hl => hk l' hl.cons)
  | .need b k, σ, l, x, h', e, h, hk => ⟨h.1, ev_run (p := k) h.2 hk⟩
  | .split true p q, σ, l, x, h', e, h, hk => ev_run (p := p) h hk
  | .split false p q, σ, l, x, h', e, h, hk => ev_run (p := q) h hk
  | .call f as k, σ, l, x, h', e, h, hk => by
    obtain ⟨out, ho, h⟩ := h
    exact ⟨out, ho, ev_run (p := k out) h hk⟩

theorem ev_i {α : Type} {i : Nat} : ∀ {p : Pr α} {σ : St} {x : α} {h' : Nat → Reg} {e : List Ent}, Pr.ev S i p σ x h' e → ∀ y ∈ e, y.i = i
  | .ret a, _, _, _, _, h => by obtain ⟨_, _, rfl⟩ := h; simp
  | .fail, _, _, _, _, h => h.elim
  | .get t k, σ, _, _, _, h => by obtain ⟨e', h1, rfl⟩ := h; intro y hy; rcases List.mem_cons.1 hy with rfl | hy; rfl; exact ev_i (p := k (σ.ρ t)) h1 y hy
  | .reg r k, σ, _, _, _, h => by obtain ⟨e', h1, rfl⟩ := h; intro y hy; rcases List.mem_cons.1 hy with rfl | hy; rfl; exact ev_i (p := k (σ.h r)) h1 y hy
  | .set r g k, _, _, _, _, h => by obtain ⟨e', h1, rfl⟩ := h; intro y hy; rcases List.mem_cons.1 hy with rfl | hy; rfl; exact ev_i (p := k) h1 y hy
  | .need b k, _, _, _, _, h => ev_i (p := k) h.2
  | .split true p q, _, _, _, _, h => ev_i (p := p) h
  | .split false p q, _, _, _, _, h => ev_i (p := q) h
  | .call f as k, _, _, _, _, h => by obtain ⟨out, _, h⟩ := h; exact ev_i (p := k out) h

/-- Written. -/
def wr (e : List Ent) (r : Nat) : Bool := e.any fun y => y.w && y.r == r

theorem wr_cons {y : Ent} {e : List Ent} {r : Nat} : wr (y :: e) r = ((y.w && y.r == r) || wr e r) := rfl
theorem wr_append {e e' : List Ent} {r : Nat} : wr (e ++ e') r = (wr e r || wr e' r) := List.any_append
theorem wr_iff {e : List Ent} {r : Nat} : wr e r = true ↔ ∃ y ∈ e, y.w = true ∧ y.r = r := by
  simp [wr, List.any_eq_true]

/-- Two states alike where something was looked at or written. -/
def Alike (e : List Ent) (τ σ : St) : Prop := ∀ y ∈ e, τ.h y.r = σ.h y.r ∧ ∀ t, y.r = tc t → τ.ρ t = σ.ρ t

theorem ev_frame {α : Type} {i : Nat} : ∀ {p : Pr α} {σ : St} {x : α} {h' : Nat → Reg} {e : List Ent}, Pr.ev S i p σ x h' e → (∀ r, wr e r = false → h' r = σ.h r) ∧
    ∀ τ, Alike e τ σ → Pr.ev S i p τ x (fun r => if wr e r then h' r else τ.h r) e
  | .ret a, σ, x, h', e, h => by
    obtain ⟨rfl, rfl, rfl⟩ := h
    exact ⟨fun _ _ => rfl, fun τ _ => ⟨rfl, by funext r; simp [wr], rfl⟩⟩
  | .fail, _, _, _, _, h => h.elim
  | .get t k, σ, x, h', e, h => by
    obtain ⟨e', h1, rfl⟩ := h
    obtain ⟨k1, k2⟩ := ev_frame (p := k (σ.ρ t)) h1
    refine ⟨fun r hr => k1 r (by simpa [wr_cons] using hr), fun τ ha => ⟨e', ?_, rfl⟩⟩
    have h2 := k2 τ (fun y hy => ha y (List.mem_cons_of_mem _ hy))
    rw [(ha ⟨i, tc t, false⟩ (by simp)).2 t rfl]
    simpa [wr_cons] using h2
  | .reg r k, σ, x, h', e, h => by
    obtain ⟨e', h1, rfl⟩ := h
    obtain ⟨k1, k2⟩ := ev_frame (p := k (σ.h r)) h1
    refine ⟨fun r hr => k1 r (by simpa [wr_cons] using hr), fun τ ha => ⟨e', ?_, rfl⟩⟩
    have h2 := k2 τ (fun y hy => ha y (List.mem_cons_of_mem _ hy))
    rw [(ha ⟨i, r, false⟩ (by simp)).1]
    simpa [wr_cons] using h2
  | .set r g k, σ, x, h', e, h => by
    obtain ⟨e', h1, rfl⟩ := h
    obtain ⟨k1, k2⟩ := ev_frame (p := k) h1
    have hout : ∀ r', wr (⟨i, r, true⟩ :: e') r' = false → r' ≠ r ∧ wr e' r' = false := fun r' hr => by
      simp only [wr_cons, Bool.true_and, Bool.or_eq_false_iff, beq_eq_false_iff_ne] at hr
      exact ⟨fun e => hr.1 e.symm, hr.2⟩
    refine ⟨fun r' hr => ?_, fun τ ha => ⟨e', ?_, rfl⟩⟩
    · obtain ⟨h2, h3⟩ := hout r' hr
      rw [k1 r' h3, setR_h, upd_other _ _ h2]
    · have h2 := k2 (τ.setR r g) (fun y hy => by
        refine ⟨?_, (ha y (List.mem_cons_of_mem _ hy)).2⟩
        rw [setR_h, setR_h]
        by_cases hyr : y.r = r
        · rw [hyr, upd_same, upd_same]
        · rw [upd_other _ _ hyr, upd_other _ _ hyr]; exact (ha y (List.mem_cons_of_mem _ hy)).1)
      have : (fun r' => if wr (⟨i, r, true⟩ :: e') r' then h' r' else τ.h r') = fun r' => if wr e' r' then h' r' else (τ.setR r g).h r' := by
        funext r'
        by_cases hw : wr (⟨i, r, true⟩ :: e') r' = true
        · rw [if_pos hw]
          by_cases hw' : wr e' r' = true
          · rw [if_pos hw']
          · rw [if_neg hw']
            have hr' : r' = r := by
              simp only [wr_cons, Bool.true_and, Bool.or_eq_true, beq_iff_eq] at hw
              rcases hw with h | h
              · exact h.symm
              · exact absurd h hw'
            rw [k1 r' (by simpa using hw'), hr', setR_h, setR_h, upd_same, upd_same]
        · rw [if_neg hw]
          obtain ⟨h3, h4⟩ := hout r' (by simpa using hw)
          rw [h4, if_neg (by simp), setR_h, upd_other _ _ h3]
      rw [this]
      exact h2
  | .need b k, σ, x, h', e, h => ⟨(ev_frame (p := k) h.2).1, fun τ ha => ⟨h.1, (ev_frame (p := k) h.2).2 τ ha⟩⟩
  | .split true p q, σ, x, h', e, h => ev_frame (p := p) h
  | .split false p q, σ, x, h', e, h => ev_frame (p := q) h
  | .call f as k, σ, x, h', e, h => by
    obtain ⟨out, ho, h⟩ := h
    exact ⟨(ev_frame (p := k out) h).1, fun τ ha => ⟨out, ho, (ev_frame (p := k out) h).2 τ ha⟩⟩

/-! ### Operations -/
/-- What goes to the temporary. -/
def finE (o : Oper) (i : Nat) (v : AV) (σ : St) (h' : Nat → Reg) (e : List Ent) (σ' : St) (e' : List Ent) : Prop :=
  σ' = (({ σ with h := h' } : St).put o.dst v) ∧ e' = e ++ (match o.dst with | some t => [⟨i, tc t, true⟩] | none => [])

def opE (T : Types) (md : Modes) (S : Specs) (hint : List (Nat × Nat)) (all : List Oper) (o : Oper) (i : Nat) (σ σ' : St) (e : List Ent) : Prop :=
  match o.guard with
  | none => ∃ v h' e', Pr.ev S i (step std T md hint (home o) o) σ v h' e' ∧ finE o i v σ h' e' σ' e
  | some (j, want) =>
    match (nth all j).bind (·.dst) with
    | some t =>
      (∃ g : Bool, σ.ρ t = .val .bool g ∧ g = want ∧ ∃ v h' e', Pr.ev S i (step std T md hint (home o) o) σ v h' e' ∧ finE o i v σ h' (⟨i, tc t, false⟩ :: e') σ' e) ∨
      (((∃ g : Bool, σ.ρ t = .val .bool g ∧ g ≠ want) ∨ σ.ρ t = .und) ∧ finE o i .und σ σ.h [⟨i, tc t, false⟩] σ' e)
    | none => False

theorem Marks.snoc {l' e l : List Ent} {y : Ent} (h : Marks l' e l) : Marks (y :: l') (e ++ [y]) l := fun x => by
  simp only [List.mem_cons, List.mem_append, List.not_mem_nil, or_false, h x]
  constructor
  · rintro (h | h | h)
    · exact .inl (.inr h)
    · exact .inl (.inl h)
    · exact .inr h
  · rintro ((h | h) | h)
    · exact .inr (.inl h)
    · exact .inl h
    · exact .inr (.inr h)

theorem fin_E {o : Oper} {i : Nat} {K : St → List Ent → Prop} {v : AV} {σ : St} {h' : Nat → Reg} {l' e l : List Ent} (hm : Marks l' e l) (h : fin o i K v { σ with h := h' } l') :
    ∃ σ' e' l'', finE o i v σ h' e σ' e' ∧ Marks l'' e' l ∧ K σ' l'' := by
  simp only [fin] at h
  cases hd : o.dst with
  | none => rw [hd] at h; exact ⟨_, _, l', ⟨rfl, rfl⟩, by rw [hd]; simpa using hm, by rw [hd]; exact h⟩
  | some t => rw [hd] at h; exact ⟨_, _, _, ⟨rfl, rfl⟩, by rw [hd]; exact hm.snoc, by rw [hd]; exact h⟩

theorem E_fin {o : Oper} {i : Nat} {K : St → List Ent → Prop} {v : AV} {σ σ' : St} {h' : Nat → Reg} {l' e e' l : List Ent} (hm : Marks l' e l) (hf : finE o i v σ h' e σ' e') (hk : ∀ l'', Marks l'' e' l → K σ' l'') :
    fin o i K v { σ with h := h' } l' := by
  obtain ⟨rfl, rfl⟩ := hf
  simp only [fin]
  cases hd : o.dst with
  | none => rw [hd] at hk; exact hk l' (by simpa using hm)
  | some t => rw [hd] at hk; exact hk _ hm.snoc

theorem op1_E {md : Modes} {hint : List (Nat × Nat)} {all : List Oper} {o : Oper} {i : Nat} {K : St → List Ent → Prop} {σ : St} {l : List Ent} (h : op1 std T md S hint all o i K σ l) : ∃ σ' e l', opE T md S hint all o i σ σ' e ∧ Marks l' e l ∧ K σ' l' := by
  unfold op1 at h
  unfold opE
  cases hg : o.guard with
  | none =>
    rw [hg] at h
    obtain ⟨v, h', e, l', h1, h2, h3⟩ := run_ev h
    obtain ⟨σ', e', l'', h4, h5, h6⟩ := fin_E h2 h3
    exact ⟨σ', e', l'', ⟨v, h', e, h1, h4⟩, h5, h6⟩
  | some jw =>
    obtain ⟨j, want⟩ := jw
    rw [hg] at h
    simp only [] at h ⊢
    cases ht : (nth all j).bind (·.dst) with
    | none => rw [ht] at h; exact h.elim
    | some t =>
      rw [ht] at h
      simp only at h ⊢
      have go : ∀ g : Bool, σ.ρ t = .val .bool g → g = want → (step std T md hint (home o) o).run S i σ (⟨i, tc t, false⟩ :: l) (fin o i K) →
          ∃ σ' e l', ((∃ g : Bool, σ.ρ t = .val .bool g ∧ g = want ∧ ∃ v h' e', Pr.ev S i (step std T md hint (home o) o) σ v h' e' ∧ finE o i v σ h' (⟨i, tc t, false⟩ :: e') σ' e) ∨
            (((∃ g : Bool, σ.ρ t = .val .bool g ∧ g ≠ want) ∨ σ.ρ t = .und) ∧ finE o i .und σ σ.h [⟨i, tc t, false⟩] σ' e)) ∧ Marks l' e l ∧ K σ' l' := by
        intro g hv hgw h
        obtain ⟨v, h', e, l', h1, h2, h3⟩ := run_ev h
        obtain ⟨σ', e', l'', h4, h5, h6⟩ := fin_E h2.cons h3
        exact ⟨σ', e', l'', .inl ⟨g, hv, hgw, v, h', e, h1, h4⟩, h5, h6⟩
      have no : ((∃ g : Bool, σ.ρ t = .val .bool g ∧ g ≠ want) ∨ σ.ρ t = .und) → fin o i K .und σ (⟨i, tc t, false⟩ :: l) →
          ∃ σ' e l', ((∃ g : Bool, σ.ρ t = .val .bool g ∧ g = want ∧ ∃ v h' e', Pr.ev S i (step std T md hint (home o) o) σ v h' e' ∧ finE o i v σ h' (⟨i, tc t, false⟩ :: e') σ' e) ∨
            (((∃ g : Bool, σ.ρ t = .val .bool g ∧ g ≠ want) ∨ σ.ρ t = .und) ∧ finE o i .und σ σ.h [⟨i, tc t, false⟩] σ' e)) ∧ Marks l' e l ∧ K σ' l' := by
        intro hn h
        obtain ⟨σ', e', l'', h4, h5, h6⟩ := fin_E (σ := σ) (h' := σ.h) (e := [⟨i, tc t, false⟩]) (l := l) (fun x => by simp) h
        exact ⟨σ', e', l'', .inr ⟨hn, h4⟩, h5, h6⟩
      cases hv : σ.ρ t with
      | val u g =>
        cases u with
        | bool =>
          rw [hv] at h
          obtain ⟨g, rfl⟩ : ∃ b : Bool, b = g := ⟨g, rfl⟩
          cases g <;> cases want <;> simp only at h <;> rw [put_self hv] at h
          · rw [← hv]; exact go false hv rfl h
          · rw [← hv]; exact no (.inl ⟨false, hv, by simp⟩) h
          · rw [← hv]; exact no (.inl ⟨true, hv, by simp⟩) h
          · rw [← hv]; exact go true hv rfl h
        | _ => rw [hv] at h; exact h.elim
      | und =>
        rw [hv] at h
        have h9 := no (.inr hv) h
        rw [hv] at h9
        exact h9
      | _ => rw [hv] at h; exact h.elim

theorem E_op1 {md : Modes} {hint : List (Nat × Nat)} {all : List Oper} {o : Oper} {i : Nat} {K : St → List Ent → Prop} {σ σ' : St} {e : List Ent} (h : opE T md S hint all o i σ σ' e) (hk : ∀ l', K σ' l') : op1 std T md S hint all o i K σ [] := by
  unfold opE at h
  unfold op1
  cases hg : o.guard with
  | none =>
    rw [hg] at h
    obtain ⟨v, h', e', h1, h2⟩ := h
    exact ev_run h1 (fun l' hl => E_fin hl h2 (fun l'' _ => hk l''))
  | some jw =>
    obtain ⟨j, want⟩ := jw
    rw [hg] at h
    simp only [] at h ⊢
    cases ht : (nth all j).bind (·.dst) with
    | none => rw [ht] at h; exact h.elim
    | some t =>
      rw [ht] at h
      simp only at h ⊢
      rcases h with ⟨g, hv, rfl, v, h', e', h1, h2⟩ | ⟨hn, h2⟩
      · have hrun : (step std T md hint (home o) o).run S i σ [⟨i, tc t, false⟩] (fin o i K) := ev_run h1 (fun l' hl => E_fin (e := ⟨i, tc t, false⟩ :: e') (l := []) hl.cons h2 (fun l'' _ => hk l''))
        rw [hv]
        cases g <;> simp only <;> rw [put_self hv] <;> exact hrun
      · have hf : fin o i K .und σ [⟨i, tc t, false⟩] := E_fin (σ := σ) (h' := σ.h) (e := [⟨i, tc t, false⟩]) (l := []) (fun x => by simp) h2 (fun l'' _ => hk l'')
        rcases hn with ⟨g, hv, hne⟩ | hv
        · rw [hv]
          cases g <;> cases want <;> simp only <;> first | (exact absurd rfl hne) | (rw [put_self hv]; exact hf)
        · rw [hv]; exact hf

theorem finE_i {o : Oper} {i : Nat} {v : AV} {σ σ' : St} {h' : Nat → Reg} {e e' : List Ent} (hf : finE o i v σ h' e σ' e') (he : ∀ y ∈ e, y.i = i) : ∀ y ∈ e', y.i = i := by
  obtain ⟨_, rfl⟩ := hf
  intro y hy
  rcases List.mem_append.1 hy with hy | hy
  · exact he y hy
  · cases hd : o.dst with
    | none => rw [hd] at hy; simp at hy
    | some t => rw [hd] at hy; simp at hy; rw [hy]

theorem opE_i {md : Modes} {hint : List (Nat × Nat)} {all : List Oper} {o : Oper} {i : Nat} {σ σ' : St} {e : List Ent} (h : opE T md S hint all o i σ σ' e) : ∀ y ∈ e, y.i = i := by
  unfold opE at h
  cases hg : o.guard with
  | none => rw [hg] at h; obtain ⟨v, h', e', h1, h2⟩ := h; exact finE_i h2 (ev_i h1)
  | some jw =>
    obtain ⟨j, want⟩ := jw
    rw [hg] at h
    simp only [] at h
    cases ht : (nth all j).bind (·.dst) with
    | none => rw [ht] at h; exact h.elim
    | some t =>
      rw [ht] at h
      rcases h with ⟨g, _, _, v, h', e', h1, h2⟩ | ⟨_, h2⟩
      · exact finE_i h2 (fun y hy => by
          rcases List.mem_cons.1 hy with rfl | hy
          · rfl
          · exact ev_i h1 y hy)
      · exact finE_i h2 (fun y hy => by simp at hy; rw [hy])

/-- One state where something was written, another elsewhere. -/
def mix (e : List Ent) (σ' τ : St) : St := ⟨fun t => if wr e (tc t) then σ'.ρ t else τ.ρ t, fun r => if wr e r then σ'.h r else τ.h r⟩

theorem tc_inj {t t' : Nat} (h : tc t = tc t') : t = t' := by simp only [tc] at h; omega

theorem finE_frame {o : Oper} {i : Nat} {v : AV} {σ σ' τ : St} {h' : Nat → Reg} {e e' : List Ent} (hf : finE o i v σ h' e σ' e') (hw : ∀ r, wr e r = false → h' r = σ.h r) :
    ((∀ r, wr e' r = false → σ'.h r = σ.h r) ∧ ∀ t, wr e' (tc t) = false → σ'.ρ t = σ.ρ t) ∧ (Alike e' τ σ → finE o i v τ (fun r => if wr e r then h' r else τ.h r) e (mix e' σ' τ) e') := by
  obtain ⟨rfl, rfl⟩ := hf
  cases hd : o.dst with
  | none =>
    simp only [List.append_nil]
    refine ⟨⟨hw, fun _ _ => rfl⟩, fun ha => ⟨?_, by simp [hd]⟩⟩
    simp only [mix, hd, St.put]
    congr 1
    funext t
    split
    · rename_i hwt
      obtain ⟨y, hy, _, hyr⟩ := wr_iff.1 hwt
      exact ((ha y hy).2 t hyr).symm
    · rfl
  | some d =>
    have hwd : ∀ r, wr (e ++ [⟨i, tc d, true⟩]) r = (wr e r || (tc d == r)) := fun r => by rw [wr_append]; simp [wr]
    refine ⟨⟨fun r hr => ?_, fun t ht => ?_⟩, fun ha => ⟨?_, by simp [hd]⟩⟩
    · rw [hwd] at hr
      simp only [Bool.or_eq_false_iff] at hr
      exact hw r hr.1
    · rw [hwd] at ht
      simp only [Bool.or_eq_false_iff, beq_eq_false_iff_ne] at ht
      have : (t == d) = false := by simp only [beq_eq_false_iff_ne]; rintro rfl; exact ht.2 rfl
      simp [St.put, this]
    · simp only [mix, hd, St.put]
      congr 1
      · funext t
        rw [hwd]
        by_cases h : t = d
        · subst h; simp
        · have h1 : (t == d) = false := by simpa using h
          have h2 : (tc d == tc t) = false := by simp only [beq_eq_false_iff_ne]; intro e; exact h (tc_inj e).symm
          simp only [h1, h2, Bool.or_false, cond_false]
          split
          · rename_i hwt
            obtain ⟨y, hy, _, hyr⟩ := wr_iff.1 hwt
            exact ((ha y (List.mem_append_left _ hy)).2 t hyr).symm
          · rfl
      · funext r
        rw [hwd]
        by_cases h : wr e r = true
        · simp [h]
        · have h1 : wr e r = false := by simpa using h
          simp only [h1, Bool.false_or, Bool.false_eq_true, if_false]
          split
          · rename_i hwt
            rw [hw r h1]
            have := (ha ⟨i, tc d, true⟩ (by simp)).1
            have hr : tc d = r := by simpa using hwt
            rw [← hr]
            exact this.symm
          · rfl

theorem opE_frame {md : Modes} {hint : List (Nat × Nat)} {all : List Oper} {o : Oper} {i : Nat} {σ σ' : St} {e : List Ent} (h : opE T md S hint all o i σ σ' e) :
    ((∀ r, wr e r = false → σ'.h r = σ.h r) ∧ ∀ t, wr e (tc t) = false → σ'.ρ t = σ.ρ t) ∧ ∀ τ, Alike e τ σ → opE T md S hint all o i τ (mix e σ' τ) e := by
  unfold opE at h ⊢
  have hsub : ∀ {v : AV} {h' : Nat → Reg} {e' : List Ent}, finE o i v σ h' e' σ' e → ∀ y ∈ e', y ∈ e := fun hf y hy => by
    obtain ⟨_, rfl⟩ := hf
    exact List.mem_append_left _ hy
  cases hg : o.guard with
  | none =>
    rw [hg] at h
    obtain ⟨v, h', e', h1, h2⟩ := h
    have hfr := ev_frame h1
    exact ⟨(finE_frame (τ := σ) h2 hfr.1).1, fun τ ha => ⟨v, _, e', hfr.2 τ (fun y hy => ha y (hsub h2 y hy)), (finE_frame h2 hfr.1).2 ha⟩⟩
  | some jw =>
    obtain ⟨j, want⟩ := jw
    rw [hg] at h
    simp only [] at h ⊢
    cases ht : (nth all j).bind (·.dst) with
    | none => rw [ht] at h; exact h.elim
    | some t =>
      rw [ht] at h
      simp only at h ⊢
      rcases h with ⟨g, hv, hgw, v, h', e', h1, h2⟩ | ⟨hn, h2⟩
      · have hfr := ev_frame h1
        have hw : ∀ r, wr (⟨i, tc t, false⟩ :: e') r = wr e' r := fun r => by simp [wr_cons]
        have hff := fun τ => finE_frame (τ := τ) h2 (fun r hr => hfr.1 r (by rw [← hw]; exact hr))
        refine ⟨(hff σ).1, fun τ ha => .inl ⟨g, ?_, hgw, v, _, e', hfr.2 τ (fun y hy => ha y (hsub h2 y (List.mem_cons_of_mem _ hy))), ?_⟩⟩
        · rw [(ha _ (hsub h2 ⟨i, tc t, false⟩ (by simp))).2 t rfl]; exact hv
        · have := (hff τ).2 ha
          simpa only [hw] using this
      · have hff := fun τ => finE_frame (τ := τ) h2 (fun r _ => rfl)
        refine ⟨(hff σ).1, fun τ ha => .inr ⟨?_, ?_⟩⟩
        · rw [(ha _ (hsub h2 ⟨i, tc t, false⟩ (by simp))).2 t rfl]; exact hn
        · have := (hff τ).2 ha
          have he : (fun r => if wr [(⟨i, tc t, false⟩ : Ent)] r then σ.h r else τ.h r) = τ.h := by funext r; simp [wr]
          rw [he] at this
          exact this

/-- What one writes the other has not met, and the other way round. -/
def NoConf (e e' : List Ent) : Prop := ∀ y ∈ e, ∀ z ∈ e', y.r = z.r → y.w = false ∧ z.w = false

theorem NoConf.wr_left {e e' : List Ent} (h : NoConf e e') {z : Ent} (hz : z ∈ e') : wr e z.r = false := by
  cases hw : wr e z.r with
  | false => rfl
  | true =>
    obtain ⟨y, hy, hyw, hyr⟩ := wr_iff.1 hw
    rw [(h y hy z hz hyr).1] at hyw; cases hyw

theorem NoConf.wr_right {e e' : List Ent} (h : NoConf e e') {y : Ent} (hy : y ∈ e) : wr e' y.r = false := by
  cases hw : wr e' y.r with
  | false => rfl
  | true =>
    obtain ⟨z, hz, hzw, hzr⟩ := wr_iff.1 hw
    rw [(h y hy z hz hzr.symm).2] at hzw; cases hzw

theorem wr_mem {e : List Ent} {r : Nat} (h : wr e r = true) : ∃ y ∈ e, y.r = r := by
  obtain ⟨y, hy, _, hyr⟩ := wr_iff.1 h
  exact ⟨y, hy, hyr⟩

theorem swap {md : Modes} {hint : List (Nat × Nat)} {all : List Oper} {o₁ o₂ : Oper} {i₁ i₂ : Nat} {σ σ₁ σ₂ : St} {e₁ e₂ : List Ent} (h₁ : opE T md S hint all o₁ i₁ σ σ₁ e₁) (h₂ : opE T md S hint all o₂ i₂ σ₁ σ₂ e₂) (hn : NoConf e₁ e₂) :
    ∃ τ, opE T md S hint all o₂ i₂ σ τ e₂ ∧ opE T md S hint all o₁ i₁ τ σ₂ e₁ := by
  obtain ⟨⟨a1, a2⟩, a3⟩ := opE_frame h₁
  obtain ⟨⟨b1, b2⟩, b3⟩ := opE_frame h₂
  refine ⟨mix e₂ σ₂ σ, b3 σ (fun z hz => ?_), ?_⟩
  · have hw := hn.wr_left hz
    exact ⟨(a1 _ hw).symm, fun t ht => (a2 t (by rw [← ht]; exact hw)).symm⟩
  · have h3 := a3 (mix e₂ σ₂ σ) (fun y hy => by
      have hw := hn.wr_right hy
      refine ⟨by simp [mix, hw], fun t ht => ?_⟩
      rw [ht] at hw
      simp [mix, hw])
    have : mix e₁ σ₁ (mix e₂ σ₂ σ) = σ₂ := by
      obtain ⟨ρ₂, hh₂⟩ := σ₂
      simp only [mix]
      congr 1
      · funext t
        by_cases hw : wr e₁ (tc t) = true
        · rw [if_pos hw]
          obtain ⟨y, hy, hyr⟩ := wr_mem hw
          have := hn.wr_right hy
          rw [hyr] at this
          exact (b2 t this).symm
        · rw [if_neg hw]
          by_cases hw2 : wr e₂ (tc t) = true
          · rw [if_pos hw2]
          · rw [if_neg hw2]
            rw [← a2 t (by simpa using hw)]
            exact (b2 t (by simpa using hw2)).symm
      · funext r
        by_cases hw : wr e₁ r = true
        · rw [if_pos hw]
          obtain ⟨y, hy, hyr⟩ := wr_mem hw
          have := hn.wr_right hy
          rw [hyr] at this
          exact (b1 r this).symm
        · rw [if_neg hw]
          by_cases hw2 : wr e₂ r = true
          · rw [if_pos hw2]
          · rw [if_neg hw2]
            rw [← a1 r (by simpa using hw)]
            exact (b1 r (by simpa using hw2)).symm
    rw [this] at h3
    exact h3

end
end Go.Proofs.YtllcebmbaejlhaaDoor.Ab
