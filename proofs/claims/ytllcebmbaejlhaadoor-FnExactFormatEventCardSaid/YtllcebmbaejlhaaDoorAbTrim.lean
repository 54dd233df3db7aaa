/- A state cut down to what a loop keeps. -/
import Derived.Test.YtllcebmbaejlhaaDoorAbAny
namespace Go.Proofs.YtllcebmbaejlhaaDoor.Ab
open Go

/-- A region, its log empty. -/
def strip : Reg → Reg
  | .own b t x fl _ => .own b t x fl []
  | .iter s pos => .iter s pos
  | .dead => .dead
  | .free => .free

theorem look_cons {α : Type} {d : α} {l : List (Nat × α)} {n k : Nat} {g : α} : look d ((n, g) :: l) k = if k = n then g else look d l k := by
  by_cases h : k = n
  · subst h; simp [look]
  · have : (n == k) = false := by simpa using Ne.symm h
    simp [look, this, h]

theorem look_append {α : Type} {d : α} : ∀ {l : List (Nat × α)} {n : Nat} {g : α} {k : Nat}, (∀ x ∈ l, x.1 ≠ n) → look d (l ++ [(n, g)]) k = if k = n then g else look d l k
  | [], n, g, k, _ => by rw [List.nil_append, look_cons]
  | (m, v) :: l, n, g, k, hn => by
    have h1 : m ≠ n := hn (m, v) (by simp)
    have ih := look_append (d := d) (g := g) (k := k) (fun x hx => hn x (List.mem_cons_of_mem _ hx) : ∀ x ∈ l, x.1 ≠ n)
    rw [List.cons_append, look_cons, look_cons, ih]
    by_cases h : k = m
    · subst h; simp [h1]
    · simp [h]

theorem look_snoc {α : Type} {d : α} : ∀ {l : List (Nat × α)} {n : Nat} {g : α} {k : Nat}, look d (l ++ [(n, g)]) k = look d l k ∨ (k = n ∧ look d (l ++ [(n, g)]) k = g)
  | [], n, g, k => by
    by_cases h : k = n
    · subst h; right; simp [look]
    · left; rw [List.nil_append, look_cons, if_neg h]
  | (m, v) :: l, n, g, k => by
    rw [List.cons_append, look_cons, look_cons]
    by_cases h : k = m
    · left; simp [h]
    · simp only [h, if_false]
      exact look_snoc

section
variable {P : Program} {T : Types} {W : Nat → Prop} {w₀ : World} {F₀ : Nat → Prop} {n : Nat} {S : Specs} {w : World} {m : Mem} {σ : St} {a : Act}

/-- What is kept, and where it was. -/
structure KI (np : List (Nat × Nat)) (σ : St) (w : World) (m : Mem) (a : Act) (ren : List (Nat × Nat)) (τ : Kept) (m' : Mem) (src : Nat → Option Nat) : Prop where
  F : m'.F = m.F
  s1 : ∀ k, src k = none → look .free τ.h k = .free
  s2 : ∀ k r, src k = some r → look .free τ.h k = strip (σ.h r) ∧ m'.C k = m.C r ∧ m'.B k = m.B r ∧ m'.S k = m.S r
  s3 : ∀ k k' r, src k = some r → src k' = some r → k = k'
  s4 : ∀ k r, src k = some r → (k < 100 ∧ r = k) ∨ (100 ≤ k ∧ k < τ.n ∧ 100 ≤ r ∧ look 0 ren r = k)
  s5 : ∀ r, look 0 ren r ≠ 0 → src (look 0 ren r) = some r
  s6 : (∀ x ∈ τ.h, x.1 < τ.n) ∧ 100 ≤ τ.n
  s7 : ∀ i k, (i, k) ∈ np → (∃ b t x fl log, σ.h i = .own b t x fl log) → src i = some i
  vals : ∀ t, VR w m' (look .free τ.h) (look .un τ.ρ t) (a.eval (.tmp t))

theorem le_new {h : Nat → Reg} {k : Nat} (hk : h k = .free) {C : List Value} {B : Nat} {Sx : List Nat} {g : Reg} : Le w m h w (m.put m.F k C B Sx) (upd h k g) := by
  have hA : ∀ p ver v, AddrR m (h (Pl.r p)) p ver v → AddrR (m.put m.F k C B Sx) (upd h k g p.r) p ver v := by
    intro p ver v hv
    by_cases hp : p.r = k
    · rw [hp, hk] at hv; exact hv.elim
    · rw [upd_other _ _ hp]; exact AddrR.stay (by simp [Mem.put, upd_other _ _ hp]) (by simp [Mem.put, upd_other _ _ hp]) hv
  intro av v hv
  cases av with
  | un => trivial
  | und => exact hv
  | val t x => exact hv
  | emp => exact hv
  | bor p ver =>
    have hv' : BorR w m (h p.r) p ver v := hv
    by_cases hp : p.r = k
    · rw [hp, hk] at hv'; exact hv'.elim
    · show BorR _ _ (upd h k g p.r) _ _ _
      rw [upd_other _ _ hp]; exact BorR.stay (by simp [Mem.put, upd_other _ _ hp]) (by simp [Mem.put, upd_other _ _ hp]) (fun _ _ => rfl) hv'
  | addr p ver => exact hA p ver v hv
  | raddr t x => exact hv
  | clo f caps => obtain ⟨vs, e, hl⟩ := hv; exact ⟨vs, e, All2.mono (fun a b hab => hA a.1 a.2 b hab) hl⟩
  | rclo f ds => exact hv
  | itr r =>
    have hv' : ItrR m (h r) r v := hv
    by_cases hp : r = k
    · rw [hp, hk] at hv'; exact hv'.elim
    · show ItrR _ (upd h k g r) _ _
      rw [upd_other _ _ hp]; exact ItrR.stay (by simp [Mem.put, upd_other _ _ hp]) hv'
  | tup vs => exact hv.elim

/-- One more region. -/
theorem KI.grow {np : List (Nat × Nat)} {ren : List (Nat × Nat)} {τ : Kept} {m' : Mem} {src : Nat → Option Nat} (K : KI np σ w m a ren τ m' src) {r : Nat} (hr : 100 ≤ r) (hren : look 0 ren r = 0) :
    KI np σ w m a ((r, τ.n) :: ren) { τ with h := τ.h ++ [(τ.n, strip (σ.h r))], n := τ.n + 1 } (m'.put m.F τ.n (m.C r) (m.B r) (m.S r)) (upd src τ.n (some r)) := by
  have hn0 : look .free τ.h τ.n = .free := by
    have : ∀ {l : List (Nat × Reg)}, (∀ x ∈ l, x.1 < τ.n) → look .free l τ.n = .free := by
      intro l hl
      induction l with
      | nil => rfl
      | cons x l ih =>
        obtain ⟨k, g⟩ := x
        rw [look_cons, if_neg (by have := hl (k, g) (by simp); simp only at this; omega)]
        exact ih (fun x hx => hl x (List.mem_cons_of_mem _ hx))
    exact this K.s6.1
  have hlook : ∀ k, look .free (τ.h ++ [(τ.n, strip (σ.h r))]) k = upd (look .free τ.h) τ.n (strip (σ.h r)) k := by
    intro k
    rw [look_append (fun x hx => by have := K.s6.1 x hx; omega)]
    by_cases h : k = τ.n
    · subst h; simp
    · rw [if_neg h, upd_other _ _ h]
  have hne : ∀ r', r' ≠ r → look 0 ((r, τ.n) :: ren) r' = look 0 ren r' := fun r' h => by rw [look_cons, if_neg h]
  have hsrc : ∀ k r', src k = some r' → k ≠ τ.n := by
    intro k r' hk he
    rcases K.s4 _ _ hk with ⟨h, _⟩ | ⟨_, h, _⟩
    · have := K.s6.2; omega
    · omega
  refine ⟨rfl, fun k hk => ?_, fun k r' hk => ?_, fun k k' r' hk hk' => ?_, fun k r' hk => ?_, fun r' hr' => ?_, ⟨fun x hx => ?_, ?_⟩, fun i k hi ho => ?_, fun t => ?_⟩
  · rw [hlook]
    by_cases h : k = τ.n
    · subst h; rw [upd_same] at hk; cases hk
    · rw [upd_other _ _ h] at hk ⊢; exact K.s1 k hk
  · rw [hlook]
    by_cases h : k = τ.n
    · subst h; rw [upd_same] at hk ⊢; cases hk; simp [Mem.put]
    · rw [upd_other _ _ h] at hk ⊢
      have := K.s2 k r' hk
      simp only [Mem.put, upd_other _ _ h]
      exact this
  · by_cases h : k = τ.n <;> by_cases h' : k' = τ.n
    · rw [h, h']
    · subst h
      rw [upd_same] at hk
      cases hk
      rw [upd_other _ _ h'] at hk'
      rcases K.s4 _ _ hk' with ⟨h1, h2⟩ | ⟨h1, h4, h2, h3⟩
      · omega
      · omega
    · subst h'
      rw [upd_same] at hk'
      cases hk'
      rw [upd_other _ _ h] at hk
      rcases K.s4 _ _ hk with ⟨h1, h2⟩ | ⟨h1, h4, h2, h3⟩
      · omega
      · omega
    · rw [upd_other _ _ h] at hk
      rw [upd_other _ _ h'] at hk'
      exact K.s3 k k' r' hk hk'
  · by_cases h : k = τ.n
    · subst h
      rw [upd_same] at hk
      cases hk
      exact .inr ⟨K.s6.2, by simp, hr, by rw [look_cons, if_pos rfl]⟩
    · rw [upd_other _ _ h] at hk
      rcases K.s4 k r' hk with h1 | ⟨h1, h4, h2, h3⟩
      · exact .inl h1
      · refine .inr ⟨h1, by simp only; omega, h2, ?_⟩
        rw [hne]
        · exact h3
        · rintro rfl; omega
  · by_cases h : r' = r
    · subst h
      rw [look_cons, if_pos rfl, upd_same]
    · rw [hne r' h] at hr' ⊢
      have := K.s5 r' hr'
      rw [upd_other _ _ (hsrc _ _ this)]
      exact this
  · simp only [List.mem_append, List.mem_singleton] at hx
    rcases hx with hx | rfl
    · have := K.s6.1 x hx; simp only; omega
    · simp
  · have := K.s6.2; simp only; omega
  · have h1 := K.s7 i k hi ho
    rw [upd_other _ _ (hsrc _ _ h1)]
    exact h1
  · have hle := le_new (w := w) (m := m') (h := look .free τ.h) hn0 (C := m.C r) (B := m.B r) (Sx := m.S r) (g := strip (σ.h r))
    have : look .free (τ.h ++ [(τ.n, strip (σ.h r))]) = upd (look .free τ.h) τ.n (strip (σ.h r)) := funext hlook
    simp only [this]
    rw [K.F] at hle
    exact hle.all (K.vals t)

theorem spot_ok {np : List (Nat × Nat)} {ren ren' : List (Nat × Nat)} {τ τ' : Kept} {m' : Mem} {src : Nat → Option Nat} (K : KI np σ w m a ren τ m' src) {r k : Nat} (h : spot σ ren τ r = some (k, ren', τ')) :
    ∃ m'' src', KI np σ w m a ren' τ' m'' src' ∧ src' k = some r := by
  unfold spot at h
  by_cases hr : r < 100
  · rw [decide_eq_true hr, cond_true] at h
    cases hg : look .free τ.h r with
    | own b t x fl log =>
      rw [hg] at h
      cases h
      refine ⟨m', src, K, ?_⟩
      cases hs : src r with
      | none => have := K.s1 r hs; rw [hg] at this; cases this
      | some r' =>
        rcases K.s4 r r' hs with ⟨_, h2⟩ | ⟨h1, _⟩
        · rw [h2]
        · omega
    | _ => rw [hg] at h; cases h
  · rw [decide_eq_false hr, cond_false] at h
    by_cases hn : look 0 ren r = 0
    · have : (look 0 ren r == 0) = true := by simpa using hn
      rw [this, cond_true] at h
      cases hg : σ.h r with
      | own b t x fl log =>
        rw [hg] at h
        cases h
        have := K.grow (r := r) (by omega) hn
        rw [hg] at this
        exact ⟨_, _, this, upd_same _ _ _⟩
      | iter s pos =>
        rw [hg] at h
        cases h
        have := K.grow (r := r) (by omega) hn
        rw [hg] at this
        exact ⟨_, _, this, upd_same _ _ _⟩
      | _ => rw [hg] at h; cases h
    · have : (look 0 ren r == 0) = false := by simpa using hn
      rw [this, cond_false] at h
      cases h
      exact ⟨m', src, K, K.s5 r hn⟩

theorem KI.add {np : List (Nat × Nat)} {ren : List (Nat × Nat)} {τ : Kept} {m' : Mem} {src : Nat → Option Nat} (K : KI np σ w m a ren τ m' src) {t : Nat} {v : AV} (hv : VR w m' (look .free τ.h) v (a.eval (.tmp t))) : KI np σ w m a ren (τ.add t v) m' src := by
  refine ⟨K.F, K.s1, K.s2, K.s3, K.s4, K.s5, K.s6, K.s7, fun t' => ?_⟩
  rcases look_snoc (d := AV.un) (l := τ.ρ) (n := t) (g := v) (k := t') with h | ⟨rfl, h⟩
  · show VR _ _ _ (look .un (τ.ρ ++ [(t, v)]) t') _
    rw [h]; exact K.vals t'
  · show VR _ _ _ (look .un (τ.ρ ++ [(t', v)]) t') _
    rw [h]; exact hv

theorem keep_ok {np : List (Nat × Nat)} (ht : Tmps w m σ a) : ∀ {ts : List Nat} {ren : List (Nat × Nat)} {τ τf : Kept} {m' : Mem} {src : Nat → Option Nat}, KI np σ w m a ren τ m' src → keep σ ts ren τ = some τf → ∃ ren' m'' src', KI np σ w m a ren' τf m'' src'
  | [], ren, τ, τf, m', src, K, h => by cases h; exact ⟨ren, m', src, K⟩
  | t :: ts, ren, τ, τf, m', src, K, h => by
    have hv := ht t
    unfold keep at h
    cases hρ : σ.ρ t with
    | val u x =>
      rw [hρ] at h hv
      obtain ⟨cs, e, hr⟩ := val_inv hv
      exact keep_ok ht (K.add (v := .val u x) ⟨cs, e, by rw [K.F]; exact hr⟩) h
    | raddr u x =>
      rw [hρ] at h hv
      have hv' : RAddr w m u x _ := hv
      exact keep_ok ht (K.add (v := .raddr u x) (hv'.same (fun b hb => by rw [K.F]; exact hb))) h
    | rclo f c =>
      rw [hρ] at h hv
      obtain ⟨vs, e, hl⟩ := (show VR1 w m σ.h (.rclo f c) _ from hv)
      exact keep_ok ht (K.add (v := .rclo f c) ⟨vs, e, All2.mono (fun d v hd => RAddr.same hd (fun b hb => by rw [K.F]; exact hb)) hl⟩) h
    | emp =>
      rw [hρ] at h hv
      exact keep_ok ht (K.add (v := .emp) hv) h
    | bor p ver =>
      rw [hρ] at h hv
      simp only at h
      obtain ⟨p', hp', h2⟩ := Option.bind_eq_some_iff.1 h
      obtain ⟨⟨k, ren', τ'⟩, hsp, h3⟩ := Option.bind_eq_some_iff.1 h2
      unfold stood at hp'
      have hb : BorR w m (σ.h p.r) p ver (a.eval (.tmp t)) := hv
      cases hg : σ.h p.r with
      | own b u x fl log =>
        rw [hg] at hp' hb
        simp only at hp'
        cases hst : stands p log ver with
        | false => rw [hst] at hp'; cases hp'
        | true =>
          rw [hst] at hp'
          cases hp'
          obtain ⟨m'', src', K', hk⟩ := spot_ok K hsp
          obtain ⟨k1, k2, _, k3⟩ := K'.s2 k p.r hk
          refine keep_ok ht (K'.add (v := .bor { p with r := k } 0) ?_) h3
          show BorR w m'' (look .free τ'.h k) _ 0 _
          rw [k1, hg]
          refine ⟨Nat.le_refl _, ?_⟩
          obtain ⟨r, f, ix⟩ := p
          cases ix with
          | none =>
            simp only at hb k2 ⊢
            intro _
            rw [k2]
            exact hb.2 hst
          | some iq =>
            obtain ⟨i, q⟩ := iq
            simp only at hb k2 k3 ⊢
            intro _
            rw [k2, k3]
            exact hb.2 (by simpa [stands] using hst)
      | _ => rw [hg] at hp'; cases hp'
    | addr p ver =>
      rw [hρ] at h hv
      simp only at h
      obtain ⟨r, f, ix⟩ := p
      cases ix with
      | some _ => simp only at h; cases h
      | none =>
        simp only at h
        obtain ⟨⟨k, ren', τ'⟩, hsp, h3⟩ := Option.bind_eq_some_iff.1 h
        obtain ⟨m'', src', K', hk⟩ := spot_ok K hsp
        obtain ⟨k1, k2, k4, k3⟩ := K'.s2 k r hk
        have hb : AddrR m (σ.h r) ⟨r, f, none⟩ ver (a.eval (.tmp t)) := hv
        have key : AddrR m'' (look .free τ'.h k) ⟨k, f, none⟩ 0 (a.eval (.tmp t)) := by
          rw [k1]
          cases hg : σ.h r with
          | own b u x fl log =>
            rw [hg] at hb
            refine ⟨Nat.le_refl _, ?_⟩
            simp only at hb ⊢
            rw [k4]
            exact hb.2
          | iter _ _ => trivial
          | dead => trivial
          | free => rw [hg] at hb; exact hb.elim
        exact keep_ok ht (K'.add (v := .addr ⟨k, f, none⟩ 0) key) h3
    | itr r =>
      rw [hρ] at h hv
      simp only at h
      obtain ⟨⟨k, ren', τ'⟩, hsp, h3⟩ := Option.bind_eq_some_iff.1 h
      obtain ⟨m'', src', K', hk⟩ := spot_ok K hsp
      obtain ⟨k1, k2, k4, k3⟩ := K'.s2 k r hk
      have hb : ItrR m (σ.h r) r (a.eval (.tmp t)) := hv
      refine keep_ok ht (K'.add (v := .itr k) ?_) h3
      show ItrR m'' (look .free τ'.h k) k _
      rw [k1]
      cases hg : σ.h r with
      | own b u x fl log => trivial
      | iter s pos =>
        rw [hg] at hb
        simp only [strip, ItrR] at hb ⊢
        rw [k4]
        exact hb
      | dead => trivial
      | free => rw [hg] at hb; exact hb.elim
    | un => rw [hρ] at h; cases h
    | und => rw [hρ] at h; cases h
    | clo _ _ => rw [hρ] at h; cases h
    | tup _ => rw [hρ] at h; cases h

theorem base_in {k : Nat} {b : Bool} {t : Ty} {x : t.den} {fl : Fl} {log : Log} (hg : σ.h k = .own b t x fl log) : ∀ {np : List (Nat × Nat)}, (∃ j, (k, j) ∈ np) → look .free (base σ np) k = .own b t x fl []
  | [], ⟨j, hj⟩ => by simp at hj
  | (i, j) :: np, ⟨j', hj⟩ => by
    by_cases h : k = i
    · subst h
      simp only [base, hg]
      rw [look_cons, if_pos rfl]
    · have hj' : (k, j') ∈ np := by
        rcases List.mem_cons.1 hj with hj | hj
        · cases hj; exact absurd rfl h
        · exact hj
      simp only [base]
      cases hg' : σ.h i with
      | own b t x fl log => simp only; rw [look_cons, if_neg h]; exact base_in hg ⟨j', hj'⟩
      | _ => exact base_in hg ⟨j', hj'⟩

theorem base_out {k : Nat} : ∀ {np : List (Nat × Nat)}, ¬ ((∃ j, (k, j) ∈ np) ∧ ∃ b t x fl log, σ.h k = .own b t x fl log) → look .free (base σ np) k = .free
  | [], _ => rfl
  | (i, j) :: np, h => by
    have hr : ¬ ((∃ j, (k, j) ∈ np) ∧ ∃ b t x fl log, σ.h k = .own b t x fl log) := fun ⟨⟨j', hj⟩, ho⟩ => h ⟨⟨j', List.mem_cons_of_mem _ hj⟩, ho⟩
    simp only [base]
    cases hg' : σ.h i with
    | own b t x fl log =>
      simp only
      rw [look_cons, if_neg ?_]
      · exact base_out hr
      · rintro rfl
        exact h ⟨⟨j, by simp⟩, b, t, x, fl, log, hg'⟩
    | _ => exact base_out hr

theorem KI.start {np : List (Nat × Nat)} (hnp : ∀ x ∈ np, x.1 < 100) : ∃ src, KI np σ w m a [] ⟨[], base σ np, 100⟩ m src := by
  classical
  refine ⟨fun k => if (∃ j, (k, j) ∈ np) ∧ ∃ b t x fl log, σ.h k = .own b t x fl log then some k else none, rfl, fun k hk => ?_, fun k r hk => ?_, fun k k' r hk hk' => ?_, fun k r hk => ?_, fun r hr => ?_, ⟨fun x hx => ?_, Nat.le_refl _⟩, fun i k hi ho => ?_, fun t => trivial⟩
  · show look .free (base σ np) k = _
    split at hk
    · cases hk
    · rename_i h; exact base_out h
  · split at hk
    · rename_i h
      cases hk
      refine ⟨?_, rfl, rfl, rfl⟩
      show look .free (base σ np) k = _
      obtain ⟨hj, b, t, x, fl, log, hg⟩ := h
      rw [base_in hg hj, hg]
      rfl
    · cases hk
  · split at hk
    · split at hk'
      · cases hk; cases hk'; rfl
      · cases hk'
    · cases hk
  · split at hk
    · rename_i h
      cases hk
      obtain ⟨⟨j, hj⟩, _⟩ := h
      exact .inl ⟨hnp _ hj, rfl⟩
    · cases hk
  · simp [look] at hr
  · have : ∀ {l : List (Nat × Nat)}, (∀ x ∈ l, x.1 < 100) → ∀ x ∈ base σ l, x.1 < 100 := by
      intro l
      induction l with
      | nil => intro _ x hx; simp [base] at hx
      | cons y l ih =>
        obtain ⟨i, j⟩ := y
        intro hl x hx
        have ihl := ih (fun x hx => hl x (List.mem_cons_of_mem _ hx))
        simp only [base] at hx
        cases hg : σ.h i with
        | own b t y fl log =>
          rw [hg] at hx
          rcases List.mem_cons.1 hx with rfl | hx
          · exact hl (i, j) (by simp)
          · exact ihl x hx
        | _ => rw [hg] at hx; exact ihl x hx
    exact this hnp x hx
  · rw [if_pos ⟨⟨k, hi⟩, ho⟩]

/-- The heads that are looked after. -/
def HOK (np : List (Nat × Nat)) (H : List (AV × Value)) : Prop := ∀ x ∈ H, ∃ i, ((i, 1) ∈ np ∧ x.1 = .bor ⟨i, [], none⟩ 0) ∨ ((i, 2) ∈ np ∧ x.1 = .addr ⟨i, [], none⟩ 0)

theorem trim_ok {np : List (Nat × Nat)} {ts : List Nat} {τ : Kept} {H : List (AV × Value)} (hH : HOK np H) (s : Sim W w₀ F₀ n H w m σ a) (h : trim σ np ts = some τ) : ∃ m', Sim W w₀ F₀ n H w m' τ.st a := by
  unfold trim at h
  cases hall : np.all fun i => decide (i.1 < 100) && headOK i.2 (σ.h i.1) with
  | false => rw [hall] at h; cases h
  | true =>
    rw [hall, cond_true] at h
    have hnp := List.all_eq_true.1 hall
    simp only [Bool.and_eq_true, decide_eq_true_eq] at hnp
    obtain ⟨src₀, K₀⟩ := KI.start (σ := σ) (w := w) (m := m) (a := a) (fun x hx => (hnp x hx).1)
    obtain ⟨ren, m', src, K⟩ := keep_ok s.tmps K₀ h
    have hown : ∀ k r, src k = some r → own1 m' k (look .free τ.h k) = own1 m r (σ.h r) := by
      intro k r hk
      obtain ⟨k1, k2, k3, k4⟩ := K.s2 k r hk
      rw [k1]
      cases σ.h r with
      | own b t x fl log => cases b <;> simp [strip, own1, k3, k4]
      | iter s pos => simp [strip, own1, k3]
      | dead => rfl
      | free => rfl
    have hnone : ∀ k, src k = none → own1 m' k (look .free τ.h k) = [] := fun k hk => by rw [K.s1 k hk]; rfl
    have hin : ∀ k b, b ∈ own1 m' k (look .free τ.h k) → ∃ r, src k = some r ∧ b ∈ own1 m r (σ.h r) := by
      intro k b hb
      cases hs : src k with
      | none => rw [hnone k hs] at hb; simp at hb
      | some r => exact ⟨r, rfl, by rw [← hown k r hs]; exact hb⟩
    refine ⟨m', ⟨fun k => ?_, fun k => ?_, fun k k' hkk b hb hb' => ?_, List.nodup_nil, fun k b _ hb => by simp at hb, fun k b hb => ?_, fun b hb => by simp at hb, fun b hb => ?_, s.inv.new⟩, K.vals, s.fr, ?_, ?_, s.dfr, s.sz, fun x hx => ?_⟩
    · show RegOK w m' k (look .free τ.h k)
      cases hs : src k with
      | none => rw [K.s1 k hs]; trivial
      | some r =>
        obtain ⟨k1, k2, k3, k4⟩ := K.s2 k r hs
        rw [k1]
        have hr := s.inv.reg r
        cases hg : σ.h r with
        | own b t x fl log =>
          rw [hg] at hr
          refine ⟨?_, fun hb => ?_⟩
          · rw [K.F, k2, k4]; exact hr.1
          · rw [k2, k3]; exact hr.2 hb
        | iter s pos =>
          rw [hg] at hr
          refine ⟨?_, hr.2⟩
          rw [k3]; exact hr.1
        | dead => trivial
        | free => trivial
    · show (own1 m' k (look .free τ.h k)).Nodup
      cases hs : src k with
      | none => rw [hnone k hs]; exact List.nodup_nil
      | some r => rw [hown k r hs]; exact s.inv.nodup r
    · obtain ⟨r, h1, h2⟩ := hin k b hb
      obtain ⟨r', h3, h4⟩ := hin k' b hb'
      refine s.inv.disj r r' (fun e => hkk ?_) b h2 h4
      subst e
      exact K.s3 k k' r h1 h3
    · obtain ⟨r, h1, h2⟩ := hin k b hb
      have := s.inv.lt r b h2
      rw [K.F]
      exact this
    · rw [K.F] at hb; exact s.inv.flt b hb
    · rw [K.F]; exact s.st
    · rw [K.F]; exact s.fdn
    · obtain ⟨i, hi⟩ := hH x hx
      have hv := s.heads x hx
      rcases hi with ⟨hi, e⟩ | ⟨hi, e⟩
      · have hh := (hnp _ hi).2
        rw [e] at hv ⊢
        have hb : BorR w m (σ.h i) ⟨i, [], none⟩ 0 x.2 := hv
        show BorR w m' (look .free τ.h i) ⟨i, [], none⟩ 0 x.2
        cases hg : σ.h i with
        | own b t y fl log =>
          cases b with
          | true => simp [headOK, hg] at hh
          | false =>
            have hf : fresh [] log 0 = true := by simpa [headOK, hg] using hh
            obtain ⟨k1, k2, k3, k4⟩ := K.s2 i i (K.s7 i 1 hi ⟨false, t, y, fl, log, hg⟩)
            rw [k1, hg]
            rw [hg] at hb
            refine ⟨Nat.le_refl _, fun _ => ?_⟩
            simp only at hb ⊢
            rw [k2]
            exact hb.2 hf
        | _ => simp [headOK, hg] at hh
      · have hh := (hnp _ hi).2
        rw [e] at hv ⊢
        have hb : AddrR m (σ.h i) ⟨i, [], none⟩ 0 x.2 := hv
        show AddrR m' (look .free τ.h i) ⟨i, [], none⟩ 0 x.2
        cases hg : σ.h i with
        | own b t y fl log =>
          obtain ⟨k1, k2, k3, k4⟩ := K.s2 i i (K.s7 i 2 hi ⟨b, t, y, fl, log, hg⟩)
          rw [k1, hg]
          rw [hg] at hb
          refine ⟨Nat.le_refl _, ?_⟩
          simp only at hb ⊢
          rw [k3]
          exact hb.2
        | _ => simp [headOK, hg] at hh

end
end Go.Proofs.YtllcebmbaejlhaaDoor.Ab
