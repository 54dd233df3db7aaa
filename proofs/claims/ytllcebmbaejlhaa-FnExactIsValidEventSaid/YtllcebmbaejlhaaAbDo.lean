/- Calls. -/
import Derived.Test.YtllcebmbaejlhaaAbBack
namespace Go.Proofs.Ytllcebmbaejlhaa.Ab
open Go

section
variable {P : Program} {T : Types} {W : Nat → Prop} {w w' : World} {S : Specs} {j : Nat}

theorem ArgsR.append {F : Nat → Prop} {ds : List DV} {cv : List Value} (hd : All2 (fun d v => RAddr w (memF F) (DV.t d) d.x v) ds cv) : ∀ {as : List Arg} {vals : List Value} {G : List Nat}, ArgsR w F as vals G → ArgsR w F (as ++ ds.map .rp) (vals ++ cv) G
  | [], [], G, h => by
    cases (show G = [] from h)
    exact rest hd
  | a :: as, v :: vals, _, ⟨S1, S2, e, h1, h2⟩ => ⟨S1, S2, e, h1, ArgsR.append hd h2⟩
  | [], _ :: _, _, h => h.elim
  | _ :: _, [], _, h => h.elim
  where
  rest : ∀ {ds : List DV} {cv : List Value}, All2 (fun d v => RAddr w (memF F) (DV.t d) d.x v) ds cv → ArgsR w F (ds.map .rp) cv []
    | [], [], _ => rfl
    | d :: ds, v :: cv, ⟨h1, h2⟩ => ⟨[], [], rfl, ⟨rfl, h1⟩, rest h2⟩
    | [], _ :: _, h => h.elim
    | _ :: _, [], h => h.elim

theorem MutsR.split {F : Nat → Prop} {ds : List DV} {cv : List Value} {R : DV → Value → Prop} (hd : All2 R ds cv) : ∀ {as : List Arg} {vals : List Value} {ms : List DV} {G : List Nat}, as.length = vals.length → MutsR w F (as ++ ds.map .rp) (vals ++ cv) ms G → MutsR w F as vals ms G
  | [], [], ms, G, _, h => rest hd h
  | a :: as, v :: vals, ms, G, hl, h => by
    have hl' : as.length = vals.length := by simpa using hl
    cases a with
    | mu d => obtain ⟨x, ms', S1, S2, e1, e2, h1, h2⟩ := h; exact ⟨x, ms', S1, S2, e1, e2, h1, MutsR.split hd hl' h2⟩
    | mp d => obtain ⟨x, ms', S1, S2, e1, e2, h1, h2⟩ := h; exact ⟨x, ms', S1, S2, e1, e2, h1, MutsR.split hd hl' h2⟩
    | ro d => exact MutsR.split (as := as) hd hl' h
    | gi d => exact MutsR.split (as := as) hd hl' h
    | rp d => exact MutsR.split (as := as) hd hl' h
    | fc f ds => exact MutsR.split (as := as) hd hl' h
  | [], _ :: _, _, _, hl, _ => by simp at hl
  | _ :: _, [], _, _, hl, _ => by simp at hl
  where
  rest : ∀ {ds : List DV} {cv : List Value} {ms : List DV} {G : List Nat}, All2 R ds cv → MutsR w F (ds.map .rp) cv ms G → ms = [] ∧ G = []
    | [], [], _, _, _, h => h
    | d :: ds, v :: cv, ms, G, ⟨_, h2⟩, h => rest (ds := ds) h2 h
    | [], _ :: _, _, _, h, _ => h.elim
    | _ :: _, [], _, _, h, _ => h.elim

theorem ArgsR.length {F : Nat → Prop} : ∀ {as : List Arg} {vals : List Value} {G : List Nat}, ArgsR w F as vals G → as.length = vals.length
  | [], [], _, _ => rfl
  | a :: as, v :: vals, _, ⟨S1, S2, e, h1, h2⟩ => by simp [ArgsR.length h2]
  | [], _ :: _, _, h => h.elim
  | _ :: _, [], _, h => h.elim

theorem back_run {lent : List Nat} {ps : List Pl} {ds : List DV} {k : PrA} {K : AV → St → List Ent → Prop} {σ : St} {l : List Ent} (h : (Pr.back lent ps ds k).run S j σ l K) :
    (ps = [] ∧ ds = [] ∧ k.run S j σ l K) ∨ ∃ p d box t x fl log y l', ps = [p] ∧ ds = [d] ∧ (∀ r ∈ lent, r ≠ p.r) ∧ σ.h p.r = .own box t x fl log ∧ setP p.f t x d = some y ∧
      k.run S j { σ with h := upd σ.h p.r (.own box t y (setFlP p.f t fl d.t.own) (bif box then some p.f :: log else none :: log)) } l' K := by
  match ps, ds with
  | [], [] => exact .inl ⟨rfl, rfl, h⟩
  | [p], [d] =>
    obtain ⟨hl, h2⟩ := bif_run h
    simp only [Pr.run] at h2
    cases hg : σ.h p.r with
    | own box t x fl log =>
      rw [hg] at h2
      obtain ⟨y, hy, h3⟩ := opt_run h2
      exact .inr ⟨p, d, box, t, x, fl, log, y, _, rfl, rfl, by simpa using hl, hg, hy, h3⟩
    | _ => rw [hg] at h2; exact h2.elim
  | [], _ :: _ => exact h.elim
  | [_], [] => exact h.elim
  | _ :: _ :: _, [] => exact h.elim
  | _ :: _ :: _, _ :: _ => exact h.elim
  | [_], _ :: _ :: _ => exact h.elim

/-- What a closure has captured. -/
def CapR (w : World) (m : Mem) (h : Nat → Reg) (c : Sum (List (Pl × Nat)) (List DV)) (cv : List Value) : Prop :=
  match c with
  | .inl l => All2 (fun c v => AddrR m (h (Pl.r c.1)) c.1 c.2 v) l cv
  | .inr ds => All2 (fun d v => RAddr w m (DV.t d) d.x v) ds cv

theorem capd_ok {K : AV → St → List Ent → Prop} {m : Mem} {σ : St} {l : List Ent} {G : List Nat} (inv : Inv W w m σ.h G) {c : Sum (List (Pl × Nat)) (List DV)} {cv : List Value} {k : List DV → List Nat → PrA} (hc : CapR w m σ.h c cv) (h : (Pr.capd std c k).run S j σ l K) :
    ∃ ds rs l', (∀ F : Nat → Prop, (∀ b, m.F b → F b) → (∀ b, lentB m σ.h rs b → F b) → All2 (fun d v => RAddr w (memF F) (DV.t d) d.x v) ds cv) ∧ (k ds rs).run S j σ l' K := by
  cases c with
  | inl cs =>
    obtain ⟨ds, l', hds, h2⟩ := caps_ok inv hc h
    exact ⟨ds, _, l', hds, h2⟩
  | inr ds => exact ⟨ds, [], l, fun F hF _ => All2.mono (fun d v hd => RAddr.same hd hF) hc, h⟩

theorem PreL.up {m m' : Mem} {h h' : Nat → Reg} (hup : Up W w m h w m' h') : ∀ {xs : List Pre} {vs : List Value} {G : List Nat}, PreL w m h xs vs G → PreL w m' h' xs vs G
  | [], [], _, h => h
  | x :: xs, v :: vs, _, ⟨S1, S2, e, h1, h2⟩ => ⟨S1, S2, e, h1.up hup, PreL.up hup h2⟩
  | [], _ :: _, _, h => h.elim
  | _ :: _, [], _, h => h.elim

theorem doCall_ok {L : List (Nat × Obj)} {r g : Nat} {md : Modes} {ts : List Nat} {K : AV → St → List Ent → Prop} {m : Mem} {σ : St} {l : List Ent} {vs : List AV} {vals : List Value} {c : Sum (List (Pl × Nat)) (List DV)} {cv : List Value} (hS : SpecsOK P L S) (hL : Lies L w m.F) (inv : Inv W w m σ.h []) (hvs : All2 (VR w m σ.h) vs vals) (hcv : CapR w m σ.h c cv)
    (h : (Pr.doCall std T md r g vs ts c).run S j σ l K) : Does P g (vals ++ cv).toArray w fun e w' => ∃ val, e = .returned val ∧ Res W w m σ K val w' := by
  obtain ⟨xs, m₁, h₁, l₁, Gx, hxs, inv₁, hup₁, h2⟩ := pres_ok inv hvs h
  obtain ⟨as, rs, ps, l₂, has, h3⟩ := seeks_ok (σ := { σ with h := h₁ }) inv₁ hxs h2
  have hcv₁ : CapR w m₁ h₁ c cv := by
    cases c with
    | inl cs => exact All2.mono (fun c v hc => hup₁.le (.addr c.1 c.2) v hc) hcv
    | inr ds => exact All2.mono (fun d v hd => RAddr.stay hup₁.st hd) hcv
  obtain ⟨ds, rs', l₃, hds, h4⟩ := capd_ok (σ := { σ with h := h₁ }) inv₁ hcv₁ h3
  obtain ⟨⟨res, ms⟩, hout, h5⟩ := h4
  have hcon := hS _ _ _ hout
  have hL₁ : ∀ F : Nat → Prop, (∀ b, m₁.F b → F b) → Lies L w F := fun F hF x hx => ⟨hF _ (hup₁.st _ (hL x hx).1).1, (hL x hx).2⟩
  have hlent : ∀ b, lentB m₁ h₁ (rs ++ rs') b → ∃ r ∈ rs ++ rs', b ∈ own1 m₁ r (h₁ r) ∧ b < w.heap.size ∧ b ∉ Gx := fun b ⟨r, hr, hb⟩ => ⟨r, hr, hb, (inv₁.lt r b hb).1, fun hg => inv₁.gdis r b hb (by simp [hg])⟩
  have hnone : rs ++ rs' = [] → ∀ b, ¬ lentB m₁ h₁ (rs ++ rs') b := fun e b ⟨r, hr, _⟩ => by rw [e] at hr; simp at hr
  have hemp : (!(rs ++ rs').isEmpty) = false → rs ++ rs' = [] := fun e => by simpa using e
  rcases back_run h5 with ⟨rfl, hms, h6⟩ | ⟨p, d, box, t, x, fl, log, y, l₄, rfl, hms, hnl, hr, hz, h6⟩
  · -- nothing is written
    have hms' : ms = [] := hms
    let Fc : Nat → Prop := fun b => m₁.F b ∨ (rs ++ rs' ≠ [] ∧ b < w.heap.size ∧ b ∉ Gx)
    have hFc : ∀ b, lentB m₁ h₁ (rs ++ rs') b → Fc b := fun b hb => by
      obtain ⟨r, hr, _, h1, h2⟩ := hlent b hb
      exact .inr ⟨fun e => by rw [e] at hr; simp at hr, h1, h2⟩
    have hns := seek_none (F := Fc) (fun b hb => .inl hb) has (fun b ⟨r, hr, hb⟩ => hFc b ⟨r, List.mem_append_left _ hr, hb⟩)
    have hcap := hds Fc (fun b hb => .inl hb) (fun b ⟨r, hr, hb⟩ => hFc b ⟨r, List.mem_append_right _ hr, hb⟩)
    have hgx : ∀ b ∈ Gx, b < w.heap.size ∧ ¬ Fc b := fun b hb => by
      have := inv₁.glt b (by simp [hb])
      exact ⟨this.1, fun hf => by
        rcases hf with hf | ⟨_, _, hf⟩
        · exact this.2.1 hf
        · exact hf hb⟩
    refine (hcon w Fc (vals ++ cv) Gx (hL₁ Fc (fun b hb => .inl hb)) (ArgsR.append hcap hns.1) (by simpa using inv₁.gdup) hgx (fun b hb => by
      rcases hb with hb | ⟨_, hb, _⟩
      · exact inv₁.flt b hb
      · exact hb)).mono fun e w' he => ?_
    obtain ⟨vs', F', G₁, G₂, rfl, hg, hF, hF', hnd, hm, hres, hmut⟩ := he
    refine ⟨_, rfl, ?_⟩
    obtain ⟨_, hG2⟩ := hns.2 w' F' _ _ (MutsR.split hcap (ArgsR.length hns.1) hmut)
    subst hG2
    simp only [List.append_nil] at hnd hm
    -- what nobody writes from here on
    let Ff : Nat → Prop := fun b => (F' b ∧ rs ++ rs' = []) ∨ m₁.F b
    have hFf : ∀ b, Ff b → F' b := fun b hb => by
      rcases hb with ⟨hb, _⟩ | hb
      · exact hb
      · exact hF b (.inl hb)
    obtain ⟨inv₂, hup₂⟩ := hand_change (G := Gx) (G' := G₁ ++ []) (F' := Ff) (by simpa using inv₁) hg (fun b hb => .inr hb) (fun b hb => by
      rcases hb with ⟨hb, he⟩ | hb
      · refine ⟨(hF' b hb).1, ?_⟩
        rcases (hF' b hb).2 with h7 | h7
        · rcases h7 with h7 | ⟨h7, _⟩
          · exact .inl h7
          · exact absurd he h7
        · exact .inr h7
      · exact ⟨Nat.lt_of_lt_of_le (inv₁.flt b hb) hg.size, .inl hb⟩) (by simpa using hnd) (fun b hb => by
      obtain ⟨h7, h8, h9⟩ := hm b (by simpa using hb)
      exact ⟨h7, h8, fun hf => h9 (hFf b hf)⟩)
    obtain ⟨avs, m', h', l', hav, inv', hup', h7⟩ := rvs_ok (σ := { σ with h := h₁ }) (m := { m₁ with F := Ff }) inv₂ (fun e b hb => .inl ⟨hb, hemp e⟩) hres h6
    exact Res.of (σ := σ) (v := AV.ofList avs) inv' ((hup₁.trans hup₂).trans hup') (ofList_ok hav) rfl h7
  · -- one place is written
    have hms' : ms = [d] := hms
    obtain ⟨a₀, v₀, H₁, H₂, rfl, hpl, hargs, hmuts⟩ := seek_one has
    obtain ⟨box', t', x', fl', log', d', hr', hix, hgd, hfit, htame, hcase⟩ := hpl
    have hr2 : h₁ p.r = .own box t x fl log := hr
    have hr3 : h₁ p.r = .own box' t' x' fl' log' := hr'
    rw [hr2] at hr3
    cases hr3
    have hreg := inv₁.reg p.r
    rw [hr2] at hreg
    have hrnl : ∀ b, lentB m₁ h₁ (rs ++ rs') b → b ∉ own1 m₁ p.r (h₁ p.r) := fun b ⟨r, hr, hb⟩ => inv₁.disj r p.r (hnl r hr) b hb
    rcases hcase with ⟨rfl, ⟨u, hu, hflat⟩, rfl⟩ | ⟨rfl, hpf, rfl, rfl⟩
    · -- a slice of flat elements
      obtain ⟨c₀, c₁, c₂, S₀, S₁, S₂, hC, hSr, hlen, ho, hset⟩ := Own.focP hreg.1 hgd
      have hl1 : c₁.length = d'.t.sz := Own.length ho
      have hcells : ((m₁.C p.r).drop (offP p.f t)).take d'.t.sz = c₁ := by rw [hC, ← hlen, List.drop_left, ← hl1, List.take_left]
      rw [hcells] at hargs hmuts
      have hSn : (S₁).Nodup := by
        have := inv₁.nodup p.r
        rw [hr2, own1_eq, hSr] at this
        exact (List.nodup_append.1 (List.nodup_append.1 (List.nodup_append.1 this).2.1).2.1).1
      obtain ⟨Sp, hsub, hk⟩ := fits_own hfit ho hSn
      have hS1 : ∀ b, b ∈ S₁ → b ∈ own1 m₁ p.r (h₁ p.r) := fun b hb => by rw [hr2, own1_eq, hSr]; simp [hb]
      let Fc : Nat → Prop := fun b => m₁.F b ∨ (b ∈ S₁ ∧ b ∉ Sp) ∨ (rs ++ rs' ≠ [] ∧ b < w.heap.size ∧ b ∉ Sp ++ (H₁ ++ H₂))
      have hFc : ∀ b, lentB m₁ h₁ (rs ++ rs') b → Fc b := fun b hb => by
        obtain ⟨r, hr, hb1, h1, h2⟩ := hlent b hb
        refine .inr (.inr ⟨fun e => by rw [e] at hr; simp at hr, h1, fun hm => ?_⟩)
        rcases List.mem_append.1 hm with hm | hm
        · exact hrnl b hb (hS1 b (hsub.mem hm))
        · exact h2 hm
      have harg : ArgR w Fc (.mu d') (toV d'.t c₁) Sp := ⟨c₁, rfl, hk Fc ⟨fun b hb => .inl hb, fun b hb hn => .inr (.inl ⟨hb, hn⟩)⟩⟩
      have hcap := hds Fc (fun b hb => .inl hb) (fun b ⟨r, hr, hb⟩ => hFc b ⟨r, List.mem_append_right _ hr, hb⟩)
      have hA := hargs Fc Sp (fun b hb => .inl hb) (fun b ⟨r, hr, hb⟩ => hFc b ⟨r, List.mem_append_left _ hr, hb⟩) harg
      have hgd' : ∀ b ∈ Sp ++ (H₁ ++ H₂), b < w.heap.size ∧ ¬ m₁.F b ∧ W b := fun b hb => by
        rcases List.mem_append.1 hb with hb | hb
        · exact inv₁.lt p.r b (hS1 b (hsub.mem hb))
        · exact inv₁.glt b (by simpa using hb)
      have hnd0 : (Sp ++ (H₁ ++ H₂)).Nodup := by
        refine List.nodup_append.2 ⟨hSn.sublist hsub, by simpa using inv₁.gdup, fun a ha b hb e => ?_⟩
        subst e
        exact inv₁.gdis p.r a (hS1 a (hsub.mem ha)) (by simpa using hb)
      have hgx : ∀ b ∈ H₁ ++ (Sp ++ H₂), b < w.heap.size ∧ ¬ Fc b := fun b hb => by
        have hb' : b ∈ Sp ++ (H₁ ++ H₂) := by
          simp only [List.mem_append] at hb ⊢
          rcases hb with h | h | h
          · exact .inr (.inl h)
          · exact .inl h
          · exact .inr (.inr h)
        have := hgd' b hb'
        refine ⟨this.1, fun hf => ?_⟩
        rcases hf with hf | ⟨hf, hf'⟩ | ⟨_, _, hf⟩
        · exact this.2.1 hf
        · rcases List.mem_append.1 hb' with h1 | h1
          · exact hf' h1
          · exact inv₁.gdis p.r b (hS1 b hf) (by simpa using h1)
        · exact hf hb'
      have hnd1 : (H₁ ++ (Sp ++ H₂)).Nodup := by
        refine List.nodup_iff_count.2 fun b => ?_
        have := count_le_one hnd0 b
        simp only [List.count_append] at this ⊢
        omega
      refine (hcon w Fc (vals ++ cv) (H₁ ++ (Sp ++ H₂)) (hL₁ Fc (fun b hb => .inl hb)) (ArgsR.append hcap hA) hnd1 hgx (fun b hb => by
        rcases hb with hb | ⟨hb, _⟩ | ⟨_, hb, _⟩
        · exact inv₁.flt b hb
        · exact (inv₁.lt p.r b (hS1 b hb)).1
        · exact hb)).mono fun e w' he => ?_
      obtain ⟨vs', F', G₁, G₂, rfl, hg, hF, hF', hnd, hm, hres, hmut⟩ := he
      refine ⟨_, rfl, ?_⟩
      have hmem : ∀ b, b ∈ H₁ ++ (Sp ++ H₂) → b ∈ Sp ++ (H₁ ++ H₂) := fun b hb => by
        simp only [List.mem_append] at hb ⊢
        rcases hb with h | h | h
        · exact .inr (.inl h)
        · exact .inl h
        · exact .inr (.inr h)
      rcases hmuts w' F' _ _ (MutsR.split hcap (ArgsR.length hA) hmut) with ⟨d'', hd'', y', hy', hown⟩ | ⟨d'', hd'', _⟩
      · cases hd''
        have hms2 : ms = [⟨d'.t, y'⟩] := hy'
        rw [hms'] at hms2
        cases hms2
        obtain ⟨cs, hcs, hown⟩ := hown
        -- the slice's own cell stands
        have hcc : cs = c₁ := by
          have h1 := Own.length hown
          rw [hu] at hl1
          obtain ⟨dt, dx⟩ := d'
          simp only at hu
          subst hu
          simp only [Ty.sz] at hl1 h1
          obtain ⟨v1, rfl⟩ := List.length_eq_one_iff.1 hl1
          obtain ⟨v2, rfl⟩ := List.length_eq_one_iff.1 h1
          simp only [toV, Ty.isAgg, List.headD_cons] at hcs
          rw [hcs]
        subst hcc
        let Ff : Nat → Prop := fun b => (F' b ∧ rs ++ rs' = []) ∨ m₁.F b
        have hFf : ∀ b, Ff b → F' b := fun b hb => by
          rcases hb with ⟨hb, _⟩ | hb
          · exact hb
          · exact hF b (.inl hb)
        obtain ⟨inv₂, hup₂⟩ := mu_change (w' := w') (G := H₁ ++ H₂) (G₁ := G₁) (F' := Ff) (Sp := Sp) (Sm := G₂) (y := y') (z := y) (by simpa using inv₁) hr2 hix hgd hC hSr hsub hset
          ⟨fun b hb hn => hg.heap b hb (fun hm => hn (hmem b hm)), hg.size, hg.os, hg.output⟩ (fun b hb => .inr hb) (fun b hb => by
            rcases hb with ⟨hb, he⟩ | hb
            · refine ⟨(hF' b hb).1, ?_⟩
              rcases (hF' b hb).2 with h7 | h7 | h7
              · rcases h7 with h7 | ⟨h7, _⟩ | ⟨h7, _⟩
                · exact .inl h7
                · exact .inr (.inl (List.mem_append_left _ h7))
                · exact absurd he h7
              · refine .inr (.inl ?_)
                rcases List.mem_append.1 (hmem b h7) with h8 | h8
                · exact List.mem_append_left _ (hsub.mem h8)
                · exact List.mem_append_right _ h8
              · exact .inr (.inr h7)
            · exact ⟨Nat.lt_of_lt_of_le (inv₁.flt b hb) hg.size, .inl hb⟩) hnd (fun b hb => by
            obtain ⟨h7, h8, h9⟩ := hm b hb
            exact ⟨h7.imp (hmem b) id, h8, fun hf => h9 (hFf b hf)⟩) (own_any htame hown) hz
        obtain ⟨avs, m', h', l', hav, inv', hup', h7⟩ := rvs_ok (σ := { ρ := σ.ρ, h := upd h₁ p.r (.own box t y (setFlP p.f t fl d'.t.own) (bif box then some p.f :: log else none :: log)) }) (m := m₁.put Ff p.r (m₁.C p.r) (m₁.B p.r) (S₀ ++ (G₂ ++ S₂))) (by simpa using inv₂)
          (fun e b hb => .inl ⟨hb, hemp e⟩) hres h6
        exact Res.of (σ := σ) (v := AV.ofList avs) inv' ((hup₁.trans hup₂).trans hup') (ofList_ok hav) rfl h7
      · cases hd''
    · -- a variable
      have hgd2 : getP [] t x = some d' := by rw [← hpf]; exact hgd
      simp only [getP, Option.some.injEq] at hgd2
      subst hgd2
      have hfl : flP p.f t fl = fl := by rw [hpf]; rfl
      rw [hfl] at hfit
      have hfit' : Fl.fits t fl t.own = true := hfit
      have hown0 : Own w m₁.F t fl x (m₁.C p.r) (m₁.S p.r) := hreg.1
      obtain ⟨e₀, he₀⟩ := hreg.2 rfl
      have hnd00 := inv₁.nodup p.r
      rw [hr2] at hnd00
      have hSn : (m₁.S p.r).Nodup := (List.nodup_cons.1 hnd00).2
      obtain ⟨Sp, hsub, hk⟩ := fits_own hfit' hown0 hSn
      have hS1 : ∀ b, b ∈ m₁.B p.r :: m₁.S p.r → b ∈ own1 m₁ p.r (h₁ p.r) := fun b hb => by rw [hr2]; exact hb
      have hsp : ∀ b, b ∈ m₁.B p.r :: Sp → b ∈ m₁.B p.r :: m₁.S p.r := fun b hb => by
        rcases List.mem_cons.1 hb with rfl | hb
        · simp
        · exact List.mem_cons_of_mem _ (hsub.mem hb)
      let Fc : Nat → Prop := fun b => m₁.F b ∨ (b ∈ m₁.S p.r ∧ b ∉ Sp) ∨ (rs ++ rs' ≠ [] ∧ b < w.heap.size ∧ b ∉ m₁.B p.r :: Sp ++ (H₁ ++ H₂))
      have hFc : ∀ b, lentB m₁ h₁ (rs ++ rs') b → Fc b := fun b hb => by
        obtain ⟨r, hr, hb1, h1, h2⟩ := hlent b hb
        refine .inr (.inr ⟨fun e => by rw [e] at hr; simp at hr, h1, fun hm => ?_⟩)
        rcases List.mem_append.1 hm with hm | hm
        · exact hrnl b hb (hS1 b (hsp b hm))
        · exact h2 hm
      have harg : ArgR w Fc (.mp ⟨t, x⟩) (.pointer (some ⟨m₁.B p.r, 0, none⟩)) (m₁.B p.r :: Sp) := ⟨_, _, e₀, Sp, rfl, he₀, hk Fc ⟨fun b hb => .inl hb, fun b hb hn => .inr (.inl ⟨hb, hn⟩)⟩, rfl⟩
      have hcap := hds Fc (fun b hb => .inl hb) (fun b ⟨r, hr, hb⟩ => hFc b ⟨r, List.mem_append_right _ hr, hb⟩)
      have hA := hargs Fc (m₁.B p.r :: Sp) (fun b hb => .inl hb) (fun b ⟨r, hr, hb⟩ => hFc b ⟨r, List.mem_append_left _ hr, hb⟩) harg
      have hgd' : ∀ b ∈ m₁.B p.r :: Sp ++ (H₁ ++ H₂), b < w.heap.size ∧ ¬ m₁.F b ∧ W b := fun b hb => by
        rcases List.mem_append.1 hb with hb | hb
        · exact inv₁.lt p.r b (hS1 b (hsp b hb))
        · exact inv₁.glt b (by simpa using hb)
      have hbs : (m₁.B p.r :: Sp).Nodup := hnd00.sublist (List.Sublist.cons_cons _ hsub)
      have hnd0 : (m₁.B p.r :: Sp ++ (H₁ ++ H₂)).Nodup := by
        refine List.nodup_append.2 ⟨hbs, by simpa using inv₁.gdup, fun a ha b hb e => ?_⟩
        subst e
        exact inv₁.gdis p.r a (hS1 a (hsp a ha)) (by simpa using hb)
      have hmem : ∀ b, b ∈ H₁ ++ (m₁.B p.r :: Sp ++ H₂) → b ∈ m₁.B p.r :: Sp ++ (H₁ ++ H₂) := fun b hb => by
        rcases List.mem_append.1 hb with h | h
        · exact List.mem_append_right _ (List.mem_append_left _ h)
        · rcases List.mem_append.1 h with h | h
          · exact List.mem_append_left _ h
          · exact List.mem_append_right _ (List.mem_append_right _ h)
      have hgx : ∀ b ∈ H₁ ++ (m₁.B p.r :: Sp ++ H₂), b < w.heap.size ∧ ¬ Fc b := fun b hb => by
        have hb' := hmem b hb
        have := hgd' b hb'
        refine ⟨this.1, fun hf => ?_⟩
        rcases hf with hf | ⟨hf, hf'⟩ | ⟨_, _, hf⟩
        · exact this.2.1 hf
        · rcases List.mem_append.1 hb' with h1 | h1
          · rcases List.mem_cons.1 h1 with rfl | h1
            · exact (List.nodup_cons.1 hnd00).1 hf
            · exact hf' h1
          · exact inv₁.gdis p.r b (hS1 b (List.mem_cons_of_mem _ hf)) (by simpa using h1)
        · exact hf hb'
      have hnd1 : (H₁ ++ (m₁.B p.r :: Sp ++ H₂)).Nodup := by
        refine List.nodup_iff_count.2 fun b => ?_
        have := count_le_one hnd0 b
        simp only [List.count_append, List.cons_append, List.count_cons] at this ⊢
        omega
      refine (hcon w Fc (vals ++ cv) (H₁ ++ (m₁.B p.r :: Sp ++ H₂)) (hL₁ Fc (fun b hb => .inl hb)) (ArgsR.append hcap hA) hnd1 hgx (fun b hb => by
        rcases hb with hb | ⟨hb, _⟩ | ⟨_, hb, _⟩
        · exact inv₁.flt b hb
        · exact (inv₁.lt p.r b (hS1 b (List.mem_cons_of_mem _ hb))).1
        · exact hb)).mono fun e w' he => ?_
      obtain ⟨vs', F', G₁, G₂, rfl, hg, hF, hF', hnd, hm, hres, hmut⟩ := he
      refine ⟨_, rfl, ?_⟩
      rcases hmuts w' F' _ _ (MutsR.split hcap (ArgsR.length hA) hmut) with ⟨d'', hd'', _⟩ | ⟨d'', hd'', y', hy', hbox⟩
      · cases hd''
      · cases hd''
        have hms2 : ms = [⟨t, y'⟩] := hy'
        rw [hms'] at hms2
        cases hms2
        have hyy : y = y' := by
          rw [hpf] at hz
          simp only [setP, DV.as_self, Option.some.injEq] at hz
          exact hz.symm
        subst hyy
        obtain ⟨b', cs, e', Sm, hb', hh', hown, rfl⟩ := hbox
        cases hb'
        let Ff : Nat → Prop := fun b => (F' b ∧ rs ++ rs' = []) ∨ m₁.F b
        have hFf : ∀ b, Ff b → F' b := fun b hb => by
          rcases hb with ⟨hb, _⟩ | hb
          · exact hb
          · exact hF b (.inl hb)
        obtain ⟨inv₂, hup₂⟩ := mp_change (w' := w') (G := H₁ ++ H₂) (G₁ := G₁) (F' := Ff) (Sp := Sp) (Sm := Sm) (y := y) (by simpa using inv₁) hr2 hsub
          ⟨fun b hb hn => hg.heap b hb (fun hm => hn (hmem b hm)), hg.size, hg.os, hg.output⟩ (fun b hb => .inr hb) (fun b hb => by
            rcases hb with ⟨hb, he⟩ | hb
            · refine ⟨(hF' b hb).1, ?_⟩
              rcases (hF' b hb).2 with h7 | h7 | h7
              · rcases h7 with h7 | ⟨h7, _⟩ | ⟨h7, _⟩
                · exact .inl h7
                · exact .inr (.inl (List.mem_append_left _ (List.mem_cons_of_mem _ h7)))
                · exact absurd he h7
              · refine .inr (.inl ?_)
                rcases List.mem_append.1 (hmem b h7) with h8 | h8
                · exact List.mem_append_left _ (hsp b h8)
                · exact List.mem_append_right _ h8
              · exact .inr (.inr h7)
            · exact ⟨Nat.lt_of_lt_of_le (inv₁.flt b hb) hg.size, .inl hb⟩) hnd (fun b hb => by
            obtain ⟨h7, h8, h9⟩ := hm b hb
            exact ⟨h7.imp (hmem b) id, h8, fun hf => h9 (hFf b hf)⟩) hh' (own_any htame hown)
        have hset : (setFlP p.f t fl t.own) = t.own := by rw [hpf]; rfl
        have h6' : (Pr.rvs (!(rs ++ rs').isEmpty) r res fun vs => .ret (AV.ofList vs) : PrA).run S j { ρ := σ.ρ, h := upd h₁ p.r (.own true t y t.own (some [] :: log)) } l₄ K := by
          have := h6
          simp only [hset, cond_true, hpf] at this
          exact this
        obtain ⟨avs, m', h', l', hav, inv', hup', h7⟩ := rvs_ok (σ := { ρ := σ.ρ, h := upd h₁ p.r (.own true t y t.own (some [] :: log)) }) (m := m₁.put Ff p.r cs (m₁.B p.r) Sm) (by simpa using inv₂)
          (fun e b hb => .inl ⟨hb, hemp e⟩) hres h6'
        exact Res.of (σ := σ) (v := AV.ofList avs) inv' ((hup₁.trans hup₂).trans hup') (ofList_ok hav) rfl h7

end
end Go.Proofs.Ytllcebmbaejlhaa.Ab
