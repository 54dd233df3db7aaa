/- Code. -/
import Derived.Test.YtllcebmbaejlhaaDoorAbTrim
namespace Go.Proofs.YtllcebmbaejlhaaDoor.Ab
open Go

/-- How a piece of code ends. -/
def AEx.exit' : AEx → Exit
  | .normal => .normal
  | .exit id => .exit id
  | .ret => .ret

section
variable {P : Program} {T : Types} {W : Nat → Prop} {w₀ : World} {F₀ : Nat → Prop} {n : Nat} {H : List (AV × Value)} {L : List (Nat × Obj)} {S : Specs} {md : Modes} {hint : List (Nat × Nat)} {np : List (Nat × Nat)}

theorem run_mono {α : Type} {i : Nat} {K K' : α → St → List Ent → Prop} (hk : ∀ x σ l, K x σ l → K' x σ l) : ∀ {p : Pr α} {σ : St} {l : List Ent}, p.run S i σ l K → p.run S i σ l K'
  | .ret a, σ, l, h => hk _ _ _ h
  | .fail, _, _, h => h.elim
  | .get t k, σ, l, h => run_mono hk (p := k (σ.ρ t)) h
  | .reg r k, σ, l, h => run_mono hk (p := k (σ.h r)) h
  | .set r g k, σ, l, h => run_mono hk (p := k) h
  | .need b k, σ, l, h => ⟨h.1, run_mono hk (p := k) h.2⟩
  | .split true p q, σ, l, h => run_mono hk (p := p) h
  | .split false p q, σ, l, h => run_mono hk (p := q) h
  | .call f as k, σ, l, h => by
    obtain ⟨out, ho, h⟩ := h
    exact ⟨out, ho, run_mono hk (p := k out) h⟩

theorem fin_mono {o : Oper} {i : Nat} {K K' : St → List Ent → Prop} (hk : ∀ σ l, K σ l → K' σ l) {v : AV} {σ : St} {l : List Ent} (h : fin o i K v σ l) : fin o i K' v σ l := by
  unfold fin at h ⊢
  cases hd : o.dst with
  | none => rw [hd] at h; exact hk _ _ h
  | some t => rw [hd] at h; exact hk _ _ h

theorem op1_mono {os : List Oper} {o : Oper} {i : Nat} {σ : St} {l : List Ent} {K K' : St → List Ent → Prop} (hk : ∀ σ l, K σ l → K' σ l) (h : op1 std T md S hint os o i K σ l) : op1 std T md S hint os o i K' σ l := by
  have hr : ∀ {p : PrA} {σ : St} {l : List Ent}, p.run S i σ l (fin o i K) → p.run S i σ l (fin o i K') := fun h => run_mono (fun x σ l h => fin_mono hk h) h
  unfold op1 at h ⊢
  cases hg : o.guard with
  | none => rw [hg] at h; exact hr h
  | some jw =>
    obtain ⟨j, want⟩ := jw
    rw [hg] at h
    simp only [] at h ⊢
    cases ht : (nth os j).bind (·.dst) with
    | none => rw [ht] at h; exact h.elim
    | some t =>
      rw [ht] at h
      simp only at h ⊢
      cases hv : σ.ρ t with
      | val u g =>
        cases u with
        | bool =>
          rw [hv] at h
          obtain ⟨g, rfl⟩ : ∃ b : Bool, b = g := ⟨g, rfl⟩
          cases g <;> cases want <;> first | exact hr h | exact fin_mono hk h
        | _ => rw [hv] at h; exact h.elim
      | und => rw [hv] at h; exact fin_mono hk h
      | _ => rw [hv] at h; exact h.elim

theorem exec_ok (hm : P.follows .mixedOrders = true) (hTie : ∀ τ u, T τ = some u → Tie P u τ) (hC : CmpOK P T) (hS : SpecsOK P L S) (hL : Lies L w₀ F₀) (hH : HOK np H) : ∀ {c : Code} {K : AEx → St → Prop} {Q : Exit → Act → World → Prop} {w : World} {m : Mem} {σ : St} {a : Act}, dstB n c = true → Sim W w₀ F₀ n H w m σ a → exec std T md S hint np c K σ →
    (∀ e σ a w m, K e σ → Sim W w₀ F₀ n H w m σ a → Q e.exit' a w) → c.wp P Q a w
  | .skip, K, Q, w, m, σ, a, _, s, h, hQ => wp_skip (hQ .normal σ a w m h s)
  | .region id os draw, K, Q, w, m, σ, a, hd, s, h, hQ => by
    have hd' : ∀ o ∈ os.toList, ∀ t, o.dst = some t → t < n := fun o ho t ht => by
      have := List.all_eq_true.1 hd o ho
      rw [ht] at this
      exact of_decide_eq_true this
    cases draw with
    | false =>
      refine wp_region_list ?_
      exact ops_ok (K := fun σ _ => K .normal σ) hTie hC hS hL (fun σ l a w m hK hs => hQ .normal σ a w m hK hs) hd' s h
    | true =>
      refine drawn_ok (K := K .normal) hm hTie hC hS hL hd' (fun σ a w m hK hs => hQ .normal σ a w m hK hs) s (md := md) (hint := hint) ?_
      have : ∀ {os' : List Oper} {i : Nat} {σ : St} {l : List Ent} {K K' : St → List Ent → Prop}, (∀ σ l, K σ l → K' σ l) → ops std T md S hint os.toList K os' i σ l → ops std T md S hint os.toList K' os' i σ l := by
        intro os'
        induction os' with
        | nil => intro i σ l K K' hk h; exact hk _ _ h
        | cons o os' ih => intro i σ l K K' hk h; exact op1_mono (fun σ l h => ih hk h) h
      refine this (fun σ l hk => ?_) h
      simp only at hk
      cases hap : apart os.toList l with
      | true => rw [hap] at hk; exact ⟨rfl, hk⟩
      | false => rw [hap] at hk; exact hk.elim
  | .seq c d, K, Q, w, m, σ, a, hd, s, h, hQ => by
    simp only [dstB, Bool.and_eq_true] at hd
    refine wp_seq ?_
    refine exec_ok hm hTie hC hS hL hH hd.1 s h fun e σ a w m hK hs => ?_
    cases e with
    | normal => exact exec_ok hm hTie hC hS hL hH hd.2 hs hK hQ
    | exit id => exact hQ (.exit id) σ a w m hK hs
    | ret => exact hQ .ret σ a w m hK hs
  | .cond x c d, K, Q, w, m, σ, a, hd, s, h, hQ => by
    simp only [dstB, Bool.and_eq_true] at hd
    simp only [exec] at h
    unfold truth at h
    cases x with
    | tmp t =>
      simp only at h
      cases hv : σ.ρ t with
      | val u g =>
        cases u with
        | bool =>
          rw [hv] at h
          obtain ⟨g, rfl⟩ : ∃ b : Bool, b = g := ⟨g, rfl⟩
          have ht := s.tmps t
          rw [hv] at ht
          have hb := val_bool ht
          cases g with
          | true => simp only at h; rw [put_self hv] at h; exact wp_cond_true hb (exec_ok hm hTie hC hS hL hH hd.1 s h hQ)
          | false => simp only at h; rw [put_self hv] at h; exact wp_cond_false hb (exec_ok hm hTie hC hS hL hH hd.2 s h hQ)
        | _ => rw [hv] at h; exact h.elim
      | _ => rw [hv] at h; exact h.elim
    | const v =>
      cases v with
      | bool b =>
        cases b with
        | true => exact wp_cond_true rfl (exec_ok hm hTie hC hS hL hH hd.1 s h hQ)
        | false => exact wp_cond_false rfl (exec_ok hm hTie hC hS hL hH hd.2 s h hQ)
      | _ => exact h.elim
    | func f => exact h.elim
    | global g => exact h.elim
  | .block id c, K, Q, w, m, σ, a, hd, s, h, hQ => by
    refine wp_block ?_
    refine exec_ok hm hTie hC hS hL hH (c := c) hd s h fun e σ a w m hK hs => ?_
    cases e with
    | normal => exact hQ .normal σ a w m hK hs
    | exit j =>
      simp only at hK
      by_cases hj : j = id
      · subst hj
        have : (j == j) = true := by simp
        rw [this] at hK
        have := hQ .normal σ a w m hK hs
        simpa [AEx.exit', Exit.inBlock] using this
      · have : (j == id) = false := by simpa using hj
        rw [this] at hK
        have := hQ (.exit j) σ a w m hK hs
        simpa [AEx.exit', Exit.inBlock, hj] using this
    | ret => exact hQ .ret σ a w m hK hs
  | .loop c, K, Q, w, m, σ, a, hd, s, h, hQ => by
    obtain ⟨ts, ι, hd0, μ, i₀, htr, hround⟩ := h
    obtain ⟨m₀, s₀⟩ := trim_ok hH s htr
    have key : ∀ (N : Nat) (i : ι) (a : Act) (w : World) (m : Mem), μ i = N → Sim W w₀ F₀ n H w m (hd0 i).st a → ∀ (b : Frame) (k : List Item) (cs : List Frame),
        ∃ e a' w', Q e a' w' ∧ Arrives P (lone (b.at a (.code c :: .inLoop c :: k)) cs w) b k cs e a' w' := by
      intro N
      induction N using Nat.strongRecOn with
      | _ N ih =>
        intro i a w m hi hs b k cs
        have hwp : c.wp P (fun e a' w' => match e with
          | .normal => ∃ j m', Sim W w₀ F₀ n H w' m' (hd0 j).st a' ∧ μ j < N
          | e => Q e a' w') a w := by
          refine exec_ok hm hTie hC hS hL hH (c := c) hd hs (hround i) fun e σ a w m hK hs => ?_
          cases e with
          | normal =>
            obtain ⟨j, htj, hlt⟩ := hK
            obtain ⟨m', hs'⟩ := trim_ok hH hs htj
            exact ⟨j, m', hs', by omega⟩
          | exit id => exact hQ (.exit id) σ a w m hK hs
          | ret => exact hQ .ret σ a w m hK hs
        obtain ⟨e, a₁, w₁, hq, harr⟩ := hwp b (.inLoop c :: k) cs
        cases e with
        | normal =>
          obtain ⟨j, m', hs', hlt⟩ := hq
          obtain ⟨e₂, a₂, w₂, hq₂, harr₂⟩ := ih (μ j) hlt j a₁ w₁ m' rfl hs' b k cs
          exact ⟨e₂, a₂, w₂, hq₂, .of_steps (Steps.trans harr (.one step_inLoop)) harr₂⟩
        | exit id => exact ⟨_, a₁, w₁, hq, .pass (x := .inLoop c) rfl (fun _ _ => .inl (by simp)) harr⟩
        | goto l => exact ⟨_, a₁, w₁, hq, .pass (x := .inLoop c) rfl (fun _ _ => .inl (by simp)) harr⟩
        | ret => exact ⟨_, a₁, w₁, hq, .pass (x := .inLoop c) rfl (fun _ _ => .inl (by simp)) harr⟩
        | panic ch => exact ⟨_, a₁, w₁, hq, .pass (x := .inLoop c) rfl (fun _ _ => .inl (by simp)) harr⟩
        | outgrown => exact ⟨_, a₁, w₁, hq, .pass (x := .inLoop c) rfl (fun _ _ => .inl (by simp)) harr⟩
    intro b k cs
    obtain ⟨e, a', w', hq, harr⟩ := key _ i₀ a w m₀ rfl s₀ b k cs
    exact ⟨e, a', w', hq, .of_steps (.one step_loop) harr⟩
  | .exit id, K, Q, w, m, σ, a, _, s, h, hQ => wp_exit (hQ (.exit id) σ a w m h s)
  | .ret, K, Q, w, m, σ, a, _, s, h, hQ => wp_ret (hQ .ret σ a w m h s)
  | .label _, _, _, _, _, _, _, _, _, h, _ => h.elim
  | .goto _, _, _, _, _, _, _, _, _, h, _ => h.elim

end
end Go.Proofs.YtllcebmbaejlhaaDoor.Ab
