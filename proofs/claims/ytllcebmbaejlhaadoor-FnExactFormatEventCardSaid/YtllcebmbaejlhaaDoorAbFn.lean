/- Whole functions. -/
import Derived.Test.YtllcebmbaejlhaaDoorAbExec
namespace Go.Proofs.YtllcebmbaejlhaaDoor.Ab
open Go

section
variable {P : Program} {T : Types} {W : Nat → Prop} {w : World} {S : Specs} {j : Nat}

theorem BoxR.same {F F' : Nat → Prop} {t : Ty} {x : t.den} {v : Value} {Sx : List Nat} (h : BoxR w F t x v Sx) (hF : ∀ b, F b → F' b) : BoxR w F' t x v Sx := by
  obtain ⟨b, cs, e, S', h1, h2, h3, h4⟩ := h
  exact ⟨b, cs, e, S', h1, h2, h3.same hF, h4⟩

theorem RVR.same {F F' : Nat → Prop} {r : RV} {v : Value} {Sx : List Nat} (h : RVR w F r v Sx) (hF : ∀ b, F b → F' b) : RVR w F' r v Sx := by
  cases r with
  | v d => exact OwnR.st h hF
  | s d => obtain ⟨e, cs, e', hr⟩ := h; exact ⟨e, cs, e', Rep.mono (fun b hb => ⟨hF b hb, rfl⟩) hr⟩
  | p d => exact BoxR.same h hF

theorem ResL.same {F F' : Nat → Prop} (hF : ∀ b, F b → F' b) : ∀ {rs : List RV} {vs : List Value} {G : List Nat}, ResL w F rs vs G → ResL w F' rs vs G
  | [], [], _, h => h
  | r :: rs, v :: vs, _, ⟨S1, S2, e, h1, h2⟩ => ⟨S1, S2, e, h1.same hF, ResL.same hF h2⟩
  | [], _ :: _, _, h => h.elim
  | _ :: _, [], _, h => h.elim

theorem letgo_rep {m : Mem} {h : Nat → Reg} {G : List Nat} {t : Ty} {f : Fl} {y : t.den} {cs : List Value} {Sx : List Nat} (inv : Inv W w m h (Sx ++ G)) (ho : Own w m.F t f y cs Sx) (hn : f.noho = true) :
    ∃ m', Inv W w m' h G ∧ Up W w m h w m' h ∧ Rep w m'.F t y cs := by
  have hnd := List.nodup_append.1 inv.gdup
  obtain ⟨inv', hup⟩ := letgo_ok (G' := G) inv (List.sublist_append_right _ _) (F' := fun b => m.F b ∨ b ∈ Sx) (fun b hb => .inl hb) (fun b hb => hb.imp id (fun hb => ⟨List.mem_append_left _ hb, fun hg => hnd.2.2 b hb b hg rfl⟩))
  exact ⟨_, inv', hup, Own.rep (fun b hb => .inl hb) hn (fun b hb => .inr hb) ho⟩

/-- One result taken. -/
theorem result_ok {K : List RV × List DV → St → List Ent → Prop} {m : Mem} {σ : St} {l : List Ent} {G : List Nat} {v : AV} {val : Value} {u : Ty} {k : RV → Pr (List RV × List DV)} (inv : Inv W w m σ.h G) (hv : VR w m σ.h v val)
    (h : (Pr.take std v u fun y fl => bif Fl.fits u fl u.own then k (.v ⟨u, y⟩) else bif fl.noho then k (.s ⟨u, y⟩) else .fail).run S j σ l K) :
    ∃ r m' h' l' Sx, RVR w m'.F r val Sx ∧ Inv W w m' h' (Sx ++ G) ∧ Up W w m σ.h w m' h' ∧ (k r).run S j { σ with h := h' } l' K := by
  obtain ⟨y, fl, cs, S', m', h', l', rfl, hown, inv', hup, h2⟩ := takeV_ok inv hv h
  simp only at h2
  cases hf : Fl.fits u fl u.own with
  | true =>
    rw [hf] at h2
    obtain ⟨m'', S'', inv'', hup', hown'⟩ := fit_hand inv' hown hf
    exact ⟨.v ⟨u, y⟩, m'', h', l', S'', ⟨cs, rfl, hown'⟩, inv'', hup.trans hup', h2⟩
  | false =>
    rw [hf] at h2
    obtain ⟨hn, h3⟩ := bif_run (show (bif fl.noho then k (.s ⟨u, y⟩) else Pr.fail).run S j { σ with h := h' } l' K from h2)
    obtain ⟨m'', inv'', hup', hr⟩ := letgo_rep inv' hown hn
    exact ⟨.s ⟨u, y⟩, m'', h', l', [], ⟨rfl, cs, rfl, hr⟩, inv'', hup.trans hup', h3⟩

def resV (a : Act) : ResultVar → Sem Value
  | .tmp t => pure (a.tmps.getD t undef)
  | .cell a' t => do loadVar t (← asAddr (a.tmps.getD a' undef))

theorem results_ok {a : Act} {K : List RV × List DV → St → List Ent → Prop} (hTie : ∀ τ u, T τ = some u → Tie P u τ) : ∀ {rs : List (ResultVar × Nat)} {m : Mem} {σ : St} {l : List Ent} {G : List Nat} {k : List RV → Pr (List RV × List DV)}, Inv W w m σ.h G → Tmps w m σ a → (Pr.results std T rs k).run S j σ l K →
    ∃ rvs vals m' h' l' Gr, ((rs.map Prod.fst).mapM (resV a)).run P w = .ok vals w ∧ ResL w m'.F rvs vals Gr ∧ Inv W w m' h' (Gr ++ G) ∧ Up W w m σ.h w m' h' ∧ (k rvs).run S j { σ with h := h' } l' K
  | [], m, σ, l, G, k, inv, ht, h => ⟨[], [], m, σ.h, l, [], rfl, rfl, inv, Up.refl _ _ _ _, h⟩
  | (r, ty) :: rs, m, σ, l, G, k, inv, ht, h => by
    have fin : ∀ {rv : RV} {val : Value} {m₁ : Mem} {h₁ : Nat → Reg} {l₁ : List Ent} {Sx : List Nat}, (resV a r).run P w = .ok val w → RVR w m₁.F rv val Sx → Inv W w m₁ h₁ (Sx ++ G) → Up W w m σ.h w m₁ h₁ → (Pr.results std T rs fun l => k (rv :: l)).run S j { σ with h := h₁ } l₁ K →
        ∃ rvs vals m' h' l' Gr, (((r :: rs.map Prod.fst)).mapM (resV a)).run P w = .ok vals w ∧ ResL w m'.F rvs vals Gr ∧ Inv W w m' h' (Gr ++ G) ∧ Up W w m σ.h w m' h' ∧ (k rvs).run S j { σ with h := h' } l' K := by
      intro rv val m₁ h₁ l₁ Sx hrun hrv inv₁ hup₁ h
      obtain ⟨rvs, vals, m', h', l', Gr, h1, h2, h3, h4, h5⟩ := results_ok hTie (σ := { σ with h := h₁ }) inv₁ (ht.up hup₁) h
      refine ⟨rv :: rvs, val :: vals, m', h', l', Sx ++ Gr, ?_, ⟨Sx, Gr, rfl, hrv.same (fun b hb => (h4.st b hb).1), h2⟩, h3.less fun b => ?_, hup₁.trans h4, h5⟩
      · simp only [List.mapM_cons, Sem.run_bind, hrun, h1, Result.andThen_ok, Sem.run_pure]
      · simp only [List.count_append]; omega
    cases r with
    | tmp t =>
      have hrun : (resV a (.tmp t)).run P w = .ok (a.eval (.tmp t)) w := rfl
      simp only [Pr.results, Pr.run] at h
      have hv := ht t
      have gen : (∀ p ver, σ.ρ t ≠ .addr p ver) → ∀ {l' : List Ent}, (Pr.opt (T ty) fun u => Pr.take std (σ.ρ t) u fun y fl => bif Fl.fits u fl u.own then Pr.results std T rs fun l => k (.v ⟨u, y⟩ :: l) else bif fl.noho then Pr.results std T rs fun l => k (.s ⟨u, y⟩ :: l) else .fail).run S j σ l' K →
          ∃ rvs vals m' h' l' Gr, (((.tmp t :: rs.map Prod.fst)).mapM (resV a)).run P w = .ok vals w ∧ ResL w m'.F rvs vals Gr ∧ Inv W w m' h' (Gr ++ G) ∧ Up W w m σ.h w m' h' ∧ (k rvs).run S j { σ with h := h' } l' K := by
        intro _ l' h
        obtain ⟨u, hu, h2⟩ := opt_run h
        obtain ⟨rv, m', h', l'', Sx, h3, h4, h5, h6⟩ := result_ok (k := fun rv => Pr.results std T rs fun l => k (rv :: l)) inv hv h2
        exact fin hrun h3 h4 h5 h6
      cases hρ : σ.ρ t with
      | addr p ver =>
        rw [hρ] at h hv
        obtain ⟨r, f, ix⟩ := p
        cases f with
        | cons _ _ => exact h.elim
        | nil =>
          cases ix with
          | some _ => exact h.elim
          | none =>
            simp only at h
            obtain ⟨box, t', y, fl, log, hg, hst, h2⟩ := resA_run h
            obtain ⟨⟨d, fd⟩, hat, h3⟩ := opt_run h2
            obtain ⟨hfit, h4⟩ := bif_run h3
            obtain ⟨_, _, _, _, _, e, hd, rfl⟩ := at_none rfl hat
            cases e
            simp only [getP, Option.some.injEq] at hd
            subst hd
            have ha : AddrR m (σ.h r) ⟨r, [], none⟩ ver (a.eval (.tmp t)) := hv
            have hreg := inv.reg r
            have hg' : σ.h r = .own box t' y fl log := hg
            rw [hg'] at ha hreg
            obtain ⟨_, rfl, u', hu', hval⟩ := ha
            obtain ⟨e₀, he₀⟩ := hreg.2 rfl
            obtain ⟨inv', hup'⟩ := region_out inv hg'
            have hown : Own w m.F t' fl y (m.C r) (m.S r) := hreg.1
            have inv'' : Inv W w (m.put m.F r (m.C r) (m.B r) []) (upd σ.h r .dead) (m.S r ++ (m.B r :: G)) := inv'.less fun b => by
              simp only [boxed, List.count_append, List.count_cons, List.count_nil]; omega
            obtain ⟨m'', S'', inv₃, hup₃, hown'⟩ := fit_hand inv'' hown hfit
            simp only [Pr.run] at h4
            refine fin hrun (rv := .p ⟨t', y⟩) (m₁ := m'') (h₁ := upd σ.h r .dead) (Sx := m.B r :: S'') ⟨m.B r, m.C r, e₀, S'', ?_, he₀, hown', rfl⟩ (inv₃.less fun b => ?_) (hup'.trans hup₃) h4
            · rw [hval]; rfl
            · simp only [List.cons_append, List.count_append, List.count_cons]; omega
      | un => rw [hρ] at h gen; exact gen (by simp) h
      | und => rw [hρ] at h gen; exact gen (by simp) h
      | val _ _ => rw [hρ] at h gen; exact gen (by simp) h
      | emp => rw [hρ] at h gen; exact gen (by simp) h
      | bor _ _ => rw [hρ] at h gen; exact gen (by simp) h
      | raddr _ _ => rw [hρ] at h gen; exact gen (by simp) h
      | clo _ _ => rw [hρ] at h gen; exact gen (by simp) h
      | rclo _ _ => rw [hρ] at h gen; exact gen (by simp) h
      | itr _ => rw [hρ] at h gen; exact gen (by simp) h
      | tup _ => rw [hρ] at h gen; exact gen (by simp) h
    | cell c τ =>
      simp only [Pr.results] at h
      obtain ⟨u, hu, h1⟩ := opt_run h
      simp only [Pr.run] at h1
      have hv := ht c
      cases hρ : σ.ρ c with
      | addr p ver =>
        rw [hρ] at h1 hv
        obtain ⟨r, f, ix⟩ := p
        cases ix with
        | some _ => exact h1.elim
        | none =>
          simp only at h1
          obtain ⟨box, t', y, fl, log, hg, hst, h2⟩ := resA_run h1
          obtain ⟨htyp, h3⟩ := bif_run h2
          have htyp := of_decide_eq_true htyp
          have ha : AddrR m (σ.h r) ⟨r, f, none⟩ ver (a.eval (.tmp c)) := hv
          have hg' : σ.h r = .own box t' y fl log := hg
          rw [hg'] at ha
          obtain ⟨val, hrun, hb⟩ := addr_load (P := P) inv hg ha hst (hTie _ _ hu) htyp (.inl rfl)
          have hbv : VR w m σ.h (.bor ⟨r, f, none⟩ log.length) val := by
            have key : BorR w m (σ.h r) ⟨r, f, none⟩ log.length val := by rw [hg']; exact hb
            exact key
          obtain ⟨rv, m', h', l'', Sx, h4, h5, h6, h7⟩ := result_ok (k := fun rv => Pr.results std T rs fun l => k (rv :: l)) inv hbv h3
          refine fin ?_ h4 h5 h6 h7
          obtain ⟨_, _, u', _, hval⟩ := ha
          rw [hval] at hrun
          have hev : a.tmps.getD c undef = .pointer (some ⟨m.B r, offP f t', none⟩) := hval
          simp only [resV, hev]
          rw [← hrun]
          rfl
      | _ => rw [hρ] at h1; exact h1.elim

/-! ### What the written arguments hold -/
def heads (i : Nat) : List Arg → List Value → List (AV × Value)
  | .mu _ :: as, v :: vs => (.bor ⟨i, [], none⟩ 0, v) :: heads (i + 1) as vs
  | .mp _ :: as, v :: vs => (.addr ⟨i, [], none⟩ 0, v) :: heads (i + 1) as vs
  | _ :: as, _ :: vs => heads (i + 1) as vs
  | _, _ => []

theorem MutsR.same {F F' : Nat → Prop} (hF : ∀ b, F b → F' b) : ∀ {as : List Arg} {vs : List Value} {ms : List DV} {G : List Nat}, MutsR w F as vs ms G → MutsR w F' as vs ms G
  | [], [], _, _, h => h
  | a :: as, v :: vs, ms, G, h => by
    cases a with
    | mu d => obtain ⟨x, ms', S1, S2, e1, e2, h1, h2⟩ := h; exact ⟨x, ms', S1, S2, e1, e2, h1.st hF, MutsR.same hF h2⟩
    | mp d => obtain ⟨x, ms', S1, S2, e1, e2, h1, h2⟩ := h; exact ⟨x, ms', S1, S2, e1, e2, h1.same hF, MutsR.same hF h2⟩
    | ro d => exact MutsR.same (as := as) hF h
    | gi d => exact MutsR.same (as := as) hF h
    | rp d => exact MutsR.same (as := as) hF h
    | fc f ds => exact MutsR.same (as := as) hF h
  | [], _ :: _, _, _, h => h.elim
  | _ :: _, [], _, _, h => h.elim

theorem muts_ok {K : List RV × List DV → St → List Ent → Prop} : ∀ {as : List Arg} {vals : List Value} {i : Nat} {m : Mem} {σ : St} {l : List Ent} {G : List Nat} {k : List DV → Pr (List RV × List DV)}, as.length = vals.length → Inv W w m σ.h G → (∀ x ∈ heads i as vals, VR1 w m σ.h x.1 x.2) → (Pr.muts i as k).run S j σ l K →
    ∃ ms m' h' l' Gm, MutsR w m'.F as vals ms Gm ∧ Inv W w m' h' (Gm ++ G) ∧ Up W w m σ.h w m' h' ∧ (k ms).run S j { σ with h := h' } l' K
  | [], [], i, m, σ, l, G, k, _, inv, _, h => ⟨[], m, σ.h, l, [], ⟨rfl, rfl⟩, inv, Up.refl _ _ _ _, h⟩
  | [], _ :: _, _, _, _, _, _, _, hl, _, _, _ => by simp at hl
  | _ :: _, [], _, _, _, _, _, _, hl, _, _, _ => by simp at hl
  | a :: as, v :: vals, i, m, σ, l, G, k, hl, inv, hh, h => by
    have hl' : as.length = vals.length := by simpa using hl
    have easy : (∀ x ∈ heads (i + 1) as vals, VR1 w m σ.h x.1 x.2) → (Pr.muts (i + 1) as k).run S j σ l K → (∀ {w : World} {F : Nat → Prop} {ms : List DV} {Gm : List Nat}, MutsR w F as vals ms Gm → MutsR w F (a :: as) (v :: vals) ms Gm) →
        ∃ ms m' h' l' Gm, MutsR w m'.F (a :: as) (v :: vals) ms Gm ∧ Inv W w m' h' (Gm ++ G) ∧ Up W w m σ.h w m' h' ∧ (k ms).run S j { σ with h := h' } l' K := fun hh h hm => by
      obtain ⟨ms, m', h', l', Gm, h1, h2, h3, h4⟩ := muts_ok hl' inv hh h
      exact ⟨ms, m', h', l', Gm, hm h1, h2, h3, h4⟩
    cases a with
    | ro d => exact easy hh h (fun h => h)
    | gi d => exact easy hh h (fun h => h)
    | rp d => exact easy hh h (fun h => h)
    | fc f ds => exact easy hh h (fun h => h)
    | mu d =>
      simp only [Pr.muts, Pr.run] at h
      cases hg : σ.h i with
      | own box t x fl log =>
        rw [hg] at h
        obtain ⟨y, hy, h2⟩ := opt_run h
        obtain ⟨hb, h3⟩ := bif_run h2
        simp only [Bool.and_eq_true] at hb
        obtain ⟨hhd, hfit⟩ := hb
        cases box with
        | true => simp [headOK] at hhd
        | false =>
          have hf : fresh [] log 0 = true := by simpa [headOK] using hhd
          obtain ⟨td, xd⟩ := d
          have htd : t = td := by
            simp only [DV.as] at hy
            split at hy
            · assumption
            · cases hy
          subst htd
          rw [DV.as_self] at hy
          cases hy
          have hv := hh (.bor ⟨i, [], none⟩ 0, v) (by simp [heads])
          have hb : BorR w m (σ.h i) ⟨i, [], none⟩ 0 v := hv
          have hreg := inv.reg i
          rw [hg] at hb hreg
          obtain ⟨u', hu', hval⟩ := hb.2 hf
          simp only [typP, Option.some.injEq] at hu'
          subst hu'
          have hlen : (m.C i).length = t.sz := Own.length hreg.1
          have hval' : v = toV t (m.C i) := by
            rw [hval]
            simp only [offP, List.drop_zero]
            rw [← hlen, List.take_length]
          obtain ⟨inv', hup'⟩ := region_out inv hg
          have inv'' : Inv W w (m.put m.F i (m.C i) (m.B i) []) (upd σ.h i .dead) (m.S i ++ G) := by simpa [boxed] using inv'
          obtain ⟨m'', S'', inv₃, hup₃, hown'⟩ := fit_hand inv'' (show Own w m.F t fl x (m.C i) (m.S i) from hreg.1) hfit
          simp only [Pr.run] at h3
          obtain ⟨ms, m', h', l', Gm, h4, h5, h6, h7⟩ := muts_ok (σ := σ.setR i .dead) hl' inv₃ (fun z hz => (hup'.trans hup₃).le _ _ (hh z (List.mem_cons_of_mem _ hz))) h3
          refine ⟨⟨t, x⟩ :: ms, m', h', l', S'' ++ Gm, ⟨x, ms, S'', Gm, rfl, rfl, ⟨m.C i, hval', hown'.same (fun b hb => (h6.st b hb).1)⟩, h4⟩, h5.less fun b => ?_, (hup'.trans hup₃).trans h6, h7⟩
          simp only [List.count_append]; omega
      | _ => rw [hg] at h; exact h.elim
    | mp d =>
      simp only [Pr.muts, Pr.run] at h
      cases hg : σ.h i with
      | own box t x fl log =>
        rw [hg] at h
        obtain ⟨y, hy, h2⟩ := opt_run h
        obtain ⟨hfit, h3⟩ := bif_run h2
        obtain ⟨td, xd⟩ := d
        have htd : t = td := by
          simp only [DV.as] at hy
          split at hy
          · assumption
          · cases hy
        subst htd
        rw [DV.as_self] at hy
        cases hy
        have hv := hh (.addr ⟨i, [], none⟩ 0, v) (by simp [heads])
        have hb : AddrR m (σ.h i) ⟨i, [], none⟩ 0 v := hv
        have hreg := inv.reg i
        rw [hg] at hb hreg
        obtain ⟨_, rfl, u', hu', hval⟩ := hb
        obtain ⟨e₀, he₀⟩ := hreg.2 rfl
        obtain ⟨inv', hup'⟩ := region_out inv hg
        have inv'' : Inv W w (m.put m.F i (m.C i) (m.B i) []) (upd σ.h i .dead) (m.S i ++ (m.B i :: G)) := inv'.less fun b => by
          simp only [boxed, List.count_append, List.count_cons, List.count_nil]; omega
        obtain ⟨m'', S'', inv₃, hup₃, hown'⟩ := fit_hand inv'' (show Own w m.F t fl x (m.C i) (m.S i) from hreg.1) hfit
        simp only [Pr.run] at h3
        have inv₄ : Inv W w m'' (upd σ.h i .dead) (m.B i :: S'' ++ G) := inv₃.less fun b => by
          simp only [List.cons_append, List.count_append, List.count_cons]; omega
        obtain ⟨ms, m', h', l', Gm, h4, h5, h6, h7⟩ := muts_ok (σ := σ.setR i .dead) hl' inv₄ (fun z hz => (hup'.trans hup₃).le _ _ (hh z (List.mem_cons_of_mem _ hz))) h3
        refine ⟨⟨t, x⟩ :: ms, m', h', l', m.B i :: S'' ++ Gm, ⟨x, ms, m.B i :: S'', Gm, rfl, rfl, ⟨m.B i, m.C i, e₀, S'', ?_, he₀, hown'.same (fun b hb => (h6.st b hb).1), rfl⟩, h4⟩, h5.less fun b => ?_, (hup'.trans hup₃).trans h6, h7⟩
        · rw [hval]; rfl
        · simp only [List.cons_append, List.count_append, List.count_cons]; omega
      | _ => rw [hg] at h; exact h.elim

/-! ### The begin -/
theorem begin_free : ∀ {as : List Arg} {i k : Nat}, k < i → look .free (begin i as).h k = .free
  | [], i, k, _ => rfl
  | a :: as, i, k, h => by
    have ih := begin_free (as := as) (i := i + 1) (k := k) (by omega)
    simp only [begin]
    cases hb : a.bind i with
    | mk v g =>
      cases g with
      | none => exact ih
      | some g => simp only; rw [look_cons, if_neg (by omega)]; exact ih

theorem begin_ok {F : Nat → Prop} : ∀ {as : List Arg} {vals : List Value} {i : Nat} {G X : List Nat} {f : Nat → Value}, ArgsR w F as vals G → Inv W w (memF F) (fun _ => .free) (G ++ X) → (∀ k v, vals[k]? = some v → f (i + k) = v) →
    ∃ m, Up W w (memF F) (fun _ => .free) w m (look .free (begin i as).h) ∧ Inv W w m (look .free (begin i as).h) X ∧ (∀ t, VR w m (look .free (begin i as).h) (look .un (begin i as).ρ t) (f t)) ∧ ∀ x ∈ heads i as vals, VR1 w m (look .free (begin i as).h) x.1 x.2
  | [], [], i, G, X, f, ha, inv, hf => by
    cases (show G = [] from ha)
    exact ⟨memF F, Up.refl _ _ _ _, inv, fun t => trivial, fun x hx => by simp [heads] at hx⟩
  | [], _ :: _, _, _, _, _, ha, _, _ => ha.elim
  | _ :: _, [], _, _, _, _, ha, _, _ => ha.elim
  | a :: as, v :: vals, i, G, X, f, ⟨S1, G', hG, ha, has⟩, inv, hf => by
    subst hG
    obtain ⟨m, hm, inv', hvr, hhd⟩ := begin_ok (i := i + 1) (G := G') (X := S1 ++ X) (f := f) has (inv.less fun b => by simp only [List.count_append]; omega) (fun k v hk => by
      have := hf (k + 1) v (by simpa using hk)
      rwa [show i + (k + 1) = i + 1 + k by omega] at this)
    have hfi : f i = v := hf 0 v rfl
    have hfree := begin_free (as := as) (i := i + 1) (k := i) (by omega)
    have hFm : ∀ b, F b → m.F b := fun b hb => (hm.st b hb).1
    -- a parameter without a region
    have plain : ∀ {av : AV}, a.bind i = (av, none) → S1 = [] → VR w m (look .free (begin (i + 1) as).h) av v → heads i (a :: as) (v :: vals) = heads (i + 1) as vals →
        ∃ m, Up W w (memF F) (fun _ => .free) w m (look .free (begin i (a :: as)).h) ∧ Inv W w m (look .free (begin i (a :: as)).h) X ∧ (∀ t, VR w m (look .free (begin i (a :: as)).h) (look .un (begin i (a :: as)).ρ t) (f t)) ∧ ∀ x ∈ heads i (a :: as) (v :: vals), VR1 w m (look .free (begin i (a :: as)).h) x.1 x.2 := by
      intro av hb hS hv hh
      subst hS
      have e : begin i (a :: as) = ⟨(i, av) :: (begin (i + 1) as).ρ, (begin (i + 1) as).h, 100⟩ := by simp only [begin, hb]
      rw [e, hh]
      refine ⟨m, hm, by simpa using inv', fun t => ?_, hhd⟩
      simp only
      rw [look_cons]
      split
      · rename_i h; subst h; rw [hfi]; exact hv
      · exact hvr t
    -- a parameter with a region
    have owned : ∀ {av : AV} {g : Reg} {m' : Mem}, a.bind i = (av, some g) → Inv W w m' (upd (look .free (begin (i + 1) as).h) i g) X → Up W w m (look .free (begin (i + 1) as).h) w m' (upd (look .free (begin (i + 1) as).h) i g) →
        VR1 w m' (upd (look .free (begin (i + 1) as).h) i g) av v → (∀ x ∈ heads i (a :: as) (v :: vals), x = (av, v) ∨ x ∈ heads (i + 1) as vals) →
        ∃ m, Up W w (memF F) (fun _ => .free) w m (look .free (begin i (a :: as)).h) ∧ Inv W w m (look .free (begin i (a :: as)).h) X ∧ (∀ t, VR w m (look .free (begin i (a :: as)).h) (look .un (begin i (a :: as)).ρ t) (f t)) ∧ ∀ x ∈ heads i (a :: as) (v :: vals), VR1 w m (look .free (begin i (a :: as)).h) x.1 x.2 := by
      intro av g m' hb inv'' hup hv hh
      have e : begin i (a :: as) = ⟨(i, av) :: (begin (i + 1) as).ρ, (i, g) :: (begin (i + 1) as).h, 100⟩ := by simp only [begin, hb]
      have eh : look .free (begin i (a :: as)).h = upd (look .free (begin (i + 1) as).h) i g := by
        funext k
        rw [e]
        simp only
        rw [look_cons]
        by_cases h : k = i
        · subst h; simp
        · rw [if_neg h, upd_other _ _ h]
      rw [eh]
      refine ⟨m', hm.trans hup, inv'', fun t => ?_, fun x hx => ?_⟩
      · rw [e]
        simp only
        rw [look_cons]
        split
        · rename_i h; subst h; rw [hfi]; exact VR1.up hv
        · exact hup.le.all (hvr t)
      · rcases hh x hx with rfl | hx
        · exact hv
        · exact hup.le _ _ (hhd x hx)
    cases a with
    | ro d =>
      obtain ⟨t, x⟩ := d
      obtain ⟨hS, cs, hv, hr⟩ := ha
      exact plain (av := .val t x) rfl hS ⟨cs, hv, Rep.mono (fun b hb => ⟨hFm b hb, rfl⟩) hr⟩ rfl
    | rp d =>
      obtain ⟨t, x⟩ := d
      obtain ⟨hS, hr⟩ := ha
      exact plain (av := .raddr t x) rfl hS (RAddr.same hr hFm) rfl
    | fc g ds =>
      obtain ⟨hS, vs, hv, hl⟩ := ha
      exact plain (av := .rclo g ds) rfl hS ⟨vs, hv, All2.mono (fun d v hd => RAddr.same hd hFm) hl⟩ rfl
    | mu d =>
      obtain ⟨t, x⟩ := d
      obtain ⟨cs, rfl, ho⟩ := ha
      obtain ⟨m', inv'', hup, hv⟩ := new_ok (σ := ⟨fun _ => .un, look .free (begin (i + 1) as).h⟩) inv' hfree (ho.same hFm)
      exact owned rfl inv'' hup hv (fun x hx => by simpa [heads] using hx)
    | gi d =>
      obtain ⟨t, x⟩ := d
      obtain ⟨cs, rfl, ho⟩ := ha
      obtain ⟨m', inv'', hup, hv⟩ := new_ok (σ := ⟨fun _ => .un, look .free (begin (i + 1) as).h⟩) inv' hfree (ho.same hFm)
      exact owned rfl inv'' hup hv (fun x hx => .inr (by simpa [heads] using hx))
    | mp d =>
      obtain ⟨t, x⟩ := d
      obtain ⟨b, cs, e, S', rfl, hh, ho, rfl⟩ := ha
      obtain ⟨m', inv'', hup, hv⟩ := newptr_ok inv' hfree hh (ho.same hFm)
      exact owned rfl inv'' hup hv (fun x hx => by simpa [heads] using hx)

theorem kinds_heads : ∀ {as : List Arg} {vals : List Value} {i : Nat}, HOK (kinds i as) (heads i as vals)
  | [], _, _ => fun x hx => by simp [heads] at hx
  | a :: as, [], i => fun x hx => by cases a <;> simp [heads] at hx
  | a :: as, v :: vals, i => fun x hx => by
    have ih : x ∈ heads (i + 1) as vals → ∃ k, ((k, 1) ∈ kinds i (a :: as) ∧ x.1 = .bor ⟨k, [], none⟩ 0) ∨ ((k, 2) ∈ kinds i (a :: as) ∧ x.1 = .addr ⟨k, [], none⟩ 0) := fun hx => by
      obtain ⟨k, hk⟩ := kinds_heads x hx
      refine ⟨k, hk.imp (fun h => ⟨?_, h.2⟩) (fun h => ⟨?_, h.2⟩)⟩ <;> (cases a <;> exact List.mem_cons_of_mem _ h.1)
    cases a with
    | mu d =>
      simp only [heads, List.mem_cons] at hx
      rcases hx with rfl | hx
      · exact ⟨i, .inl ⟨by simp [kinds], rfl⟩⟩
      · exact ih hx
    | mp d =>
      simp only [heads, List.mem_cons] at hx
      rcases hx with rfl | hx
      · exact ⟨i, .inr ⟨by simp [kinds], rfl⟩⟩
      · exact ih hx
    | ro d => exact ih hx
    | gi d => exact ih hx
    | rp d => exact ih hx
    | fc f ds => exact ih hx

theorem results_run {fn : Func} {a : Act} {vals : List Value} (hl : fn.results.size = fn.resultTypes.size) (h : (((fn.results.toList.zip fn.resultTypes.toList).map Prod.fst).mapM (resV a)).run P w = .ok vals w) : (results fn a.tmps).run P w = .ok (retV vals) w := by
  have e : (fn.results.toList.zip fn.resultTypes.toList).map Prod.fst = fn.results.toList := by
    rw [List.map_fst_zip]
    simp only [Array.length_toList]
    omega
  rw [e] at h
  have h2 : (fn.results.mapM (resV a)).run P w = .ok vals.toArray w := by
    rw [Array.mapM_eq_mapM_toList]
    simp [h]
  have h3 : results fn a.tmps = (do let vs ← fn.results.mapM (resV a); pure (if h : vs.size = 1 then vs[0] else .tuple vs)) := by
    rfl
  rw [h3]
  simp only [Sem.run_bind, h2, Result.andThen_ok, Sem.run_pure]
  congr 1
  match vals with
  | [] => rfl
  | [v] => rfl
  | v :: v' :: vs => simp [retV]

theorem runs_ok {L : List (Nat × Obj)} {md : Modes} {hint : List (Nat × Nat)} {f : Nat} {fn : Func} {as : List Arg} {Q : Out → Prop} (hm : P.follows .mixedOrders = true) (hTie : ∀ τ u, T τ = some u → Tie P u τ) (hC : CmpOK P T) (hS : SpecsOK P L S)
    (hf : P.funcs[f]? = some fn) (h : Runs std T md S hint fn as Q) : ∀ (w : World) (F : Nat → Prop) (vals : List Value) (G : List Nat), Lies L w F → ArgsR w F as vals G → G.Nodup → (∀ b ∈ G, b < w.heap.size ∧ ¬ F b) → (∀ b, F b → b < w.heap.size) →
    Calls P f vals.toArray w fun e w' => ∃ out, Q out ∧ Did w F as vals G out e w' := by
  intro w F vals G hL ha hnd hG hF
  unfold Runs at h
  cases hb : fn.body with
  | none => rw [hb] at h; exact h.elim
  | some c =>
    rw [hb] at h
    obtain ⟨hch, hex⟩ := h
    simp only [Bool.and_eq_true, decide_eq_true_eq] at hch
    obtain ⟨⟨⟨hdst, hlen⟩, _⟩, hres⟩ := hch
    have hal := ArgsR.length ha
    let W : Nat → Prop := fun b => b ∈ G ∨ w.heap.size ≤ b
    have inv₀ : Inv W w (memF F) (fun _ => .free) (G ++ []) := by
      refine ⟨fun r => trivial, fun r => List.nodup_nil, fun r r' _ b hb => by simp [own1] at hb, by simpa using hnd, fun r b hb => by simp [own1] at hb, fun r b hb => by simp [own1] at hb, fun b hb => ?_, hF, fun b hb => .inr hb⟩
      have hb' : b ∈ G := by simpa using hb
      exact ⟨(hG b hb').1, (hG b hb').2, .inl hb'⟩
    obtain ⟨m, hup, inv, hvr, hhd⟩ := begin_ok (i := 0) (f := fun t => (vals.toArray ++ Array.replicate (fn.ntmps - vals.toArray.size) undef).getD t undef) ha inv₀ (fun k v hk => by
      have hk' := (List.getElem?_eq_some_iff.1 hk).1
      have h1 : (vals.toArray ++ Array.replicate (fn.ntmps - vals.toArray.size) undef)[0 + k]? = some v := by
        rw [Nat.zero_add, Array.getElem?_append_left (by simpa using hk')]
        simpa using hk
      simp only [Array.getD_eq_getD_getElem?, h1, Option.getD_some])
    refine calls_of_wp hf hb ?_
    have hsim : Sim W w F fn.ntmps (heads 0 as vals) w m (begin 0 as).st { tmps := vals.toArray ++ Array.replicate (fn.ntmps - vals.toArray.size) undef, defers := [] } :=
      ⟨inv, hvr, Fr.refl _ _, hup.st, hup.fdn, rfl, by simp; omega, hhd⟩
    refine exec_ok hm hTie hC hS hL kinds_heads hdst hsim hex fun e σ a w' m' hK hs => ?_
    have fin : ∀ {l : List Ent}, (Pr.results std T (fn.results.toList.zip fn.resultTypes.toList) fun rs => Pr.muts 0 as fun ms => .ret (rs, ms)).run S 0 σ l (fun out _ _ => Q out) →
        a.defers = [] ∧ ∃ v, (results fn a.tmps).run P w' = .ok v w' ∧ ∃ out, Q out ∧ Did w F as vals G out (.returned v) w' := by
      intro l h
      obtain ⟨rvs, vs, m₁, h₁, l₁, Gr, h1, h2, h3, h4, h5⟩ := results_ok hTie hs.inv hs.tmps h
      obtain ⟨ms, m₂, h₂, l₂, Gm, h6, h7, h8, h9⟩ := muts_ok (σ := { σ with h := h₁ }) hal h3 (fun x hx => h4.le _ _ (hs.heads x hx)) h5
      refine ⟨hs.dfr, retV vs, results_run hres h1, (rvs, ms), h9, vs, m₂.F, Gr, Gm, rfl, ⟨fun b hb hn => hs.fr.heap b hb (fun hw => ?_), hs.fr.size, hs.fr.os, hs.fr.output⟩, fun b hb => ?_, fun b hb => ⟨h7.flt b hb, ?_⟩, ?_, fun b hb => ?_, h2.same (fun b hb => (h8.st b hb).1), h6⟩
      · rcases hw with hw | hw
        · exact hn hw
        · omega
      · exact (h8.st b (h4.st b (hs.st b hb).1).1).1
      · rcases h8.fdn b hb with h | h
        · rcases h4.fdn b h with h | h
          · rcases hs.fdn b h with h | h
            · exact .inl h
            · exact .inr h
          · exact .inr h
        · exact .inr h
      · refine List.nodup_iff_count.2 fun b => ?_
        have := count_le_one h7.gdup b
        simp only [List.count_append, List.count_nil] at this ⊢
        omega
      · have hb' : b ∈ Gm ++ (Gr ++ []) := by
          simp only [List.mem_append, List.not_mem_nil, or_false] at hb ⊢
          exact hb.symm
        have := h7.glt b hb'
        exact ⟨this.2.2, this.1, this.2.1⟩
    cases e with
    | normal => exact fin hK
    | ret => exact fin hK
    | exit id => exact hK.elim

/-- A function's contract. -/
theorem contract_of_runs {L : List (Nat × Obj)} {md : Modes} {hint : List (Nat × Nat)} {f : Nat} {fn : Func} {as : List Arg} {out : Out} (hm : P.follows .mixedOrders = true) (hTie : ∀ τ u, T τ = some u → Tie P u τ) (hC : CmpOK P T) (hS : SpecsOK P L S)
    (hf : P.funcs[f]? = some fn) (hn : (fn.name == "runtime.NumGoroutine") = false) (h : Runs std T md S hint fn as (fun o => o = out)) : Contract P L f as out := by
  intro w F vals G hL ha hnd hG hF
  refine .inl ⟨⟨fn, hf, ?_, hn⟩, (runs_ok hm hTie hC hS hf h w F vals G hL ha hnd hG hF).mono fun e w' he => ?_⟩
  · unfold Runs at h
    cases hb : fn.body with
    | none => rw [hb] at h; exact h.elim
    | some c => rfl
  · obtain ⟨out', rfl, hd⟩ := he
    exact hd

end
end Go.Proofs.YtllcebmbaejlhaaDoor.Ab
