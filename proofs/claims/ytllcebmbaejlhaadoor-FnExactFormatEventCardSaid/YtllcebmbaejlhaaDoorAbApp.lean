/- Elements that are read; append. -/
import Derived.Test.YtllcebmbaejlhaaDoorAbNew
namespace Go.Proofs.YtllcebmbaejlhaaDoor.Ab
open Go

theorem flat_rep {w w' : World} {F F' : Nat → Prop} : ∀ {u : Ty} {x : u.den} {cs : List Value}, u.flat = true → Rep w F u x cs → Rep w' F' u x cs
  | .int _, _, _, _, h => h
  | .bool, _, _, _, h => h
  | .str, _, _, _, h => h
  | .list _, _, _, hf, _ => by simp [Ty.flat] at hf
  | .arr _ u, _, _, hf, h => ⟨h.1, RepL.mono (fun x c hc => flat_rep (u := u) (by simpa [Ty.flat] using hf) hc) h.2⟩
  | .prod a b, _, _, hf, h => by
    simp only [Ty.flat, Bool.and_eq_true] at hf
    obtain ⟨c, d, e, hc, hd⟩ := h
    exact ⟨c, d, e, flat_rep hf.1 hc, flat_rep hf.2 hd⟩
  | .agg u, _, _, hf, h => flat_rep (u := u) hf h

section
variable {P : Program} {W : Nat → Prop} {w : World} {m : Mem} {σ : St} {S : Specs} {j : Nat} {l : List Ent}

theorem elts_ok {u : Ty} {v : AV} {val : Value} {k : List u.den → PrA} {K : AV → St → List Ent → Prop} {G : List Nat} (inv : Inv W w m σ.h G) (hv : VR w m σ.h v val) (h : (Pr.elts std u v k).run S j σ l K) :
    ∃ xs A cap l', val = .slice A xs.length cap ∧ xs.length ≤ big ∧ (xs = [] ∨ ∃ b off row e fz, A = some ⟨b, off, none⟩ ∧ w.heap[b]? = some (.cells row e fz) ∧ RepL (Rep w m.F u) xs (seg row off (xs.length * u.sz))) ∧
      (k xs).run S j σ l' K := by
  cases v with
  | val t xs =>
    obtain ⟨ys, hys, h2⟩ := opt_run h
    cases DV.as_eq hys
    obtain ⟨cs, rfl, hr⟩ : ∃ cs, val = toV (.list u) cs ∧ Rep w m.F (.list u) ys cs := hv
    obtain ⟨A, cap, rfl, hb, hx⟩ := hr
    refine ⟨ys, A, cap, l, rfl, hb.1, hx.imp id ?_, h2⟩
    rintro ⟨b, off, row, e, fz, hA, _, hh, hr⟩
    exact ⟨b, off, row, e, fz, hA, hh, hr⟩
  | emp =>
    obtain ⟨A, rfl⟩ := hv
    exact ⟨[], A, 0, l, rfl, Nat.zero_le _, .inl rfl, h⟩
  | bor p ver =>
    simp only [Pr.elts] at h
    obtain ⟨hfl, h⟩ := bif_run h
    obtain ⟨box, t, y, fl, log, hg, hst, h⟩ := resB_run h
    have hb : BorR w m (σ.h p.r) p ver val := hv
    have hreg := inv.reg p.r
    rw [hg] at hb hreg
    obtain ⟨⟨d, fd⟩, hat, h⟩ := opt_run h
    obtain ⟨hno, h⟩ := bif_run h
    obtain ⟨xs, hxs, h2⟩ := opt_run h
    cases DV.as_eq hxs
    obtain ⟨cs, S', rfl, ho, _⟩ := bor_at hreg hb hst hat
    have hr : Rep w (fun _ => True) (.list u) xs cs := Own.rep (fun _ _ => trivial) hno (fun _ _ => trivial) ho
    obtain ⟨A, cap, e, hbg, hx⟩ := hr
    subst e
    refine ⟨xs, A, cap, _, rfl, hbg.1, hx.imp id ?_, h2⟩
    rintro ⟨b, off, row, e, fz, hA, _, hh, hr⟩
    exact ⟨b, off, row, e, fz, hA, hh, RepL.mono (fun x c hc => flat_rep hfl hc) hr⟩
  | _ => exact h.elim

/-- Blocks in hand are let go for good. -/
theorem letgo_ok {h : Nat → Reg} {G G' : List Nat} (inv : Inv W w m h G) (hs : G'.Sublist G) {F' : Nat → Prop} (hF : ∀ b, m.F b → F' b) (hF' : ∀ b, F' b → m.F b ∨ (b ∈ G ∧ b ∉ G')) :
    Inv W w { m with F := F' } h G' ∧ Up W w m h w { m with F := F' } h := by
  have hst : Stays w w m.F F' := fun b hb => ⟨hF b hb, rfl⟩
  have hown : ∀ r g, own1 { m with F := F' } r g = own1 m r g := by
    intro r g
    cases g with
    | own b t x fl log => cases b <;> rfl
    | iter s pos => rfl
    | dead => rfl
    | free => rfl
  refine ⟨⟨fun r => ?_, fun r => by rw [hown]; exact inv.nodup r, fun r r' hr b hb => by rw [hown] at hb ⊢; exact inv.disj r r' hr b hb, inv.gdup.sublist hs, fun r b hb hb' => by rw [hown] at hb; exact inv.gdis r b hb (hs.mem hb'),
    fun r b hb => ?_, fun b hb => ?_, fun b hb => ?_, inv.new⟩, ?_⟩
  · have hr := inv.reg r
    cases hh : h r with
    | own box t x fl log =>
      rw [hh] at hr
      exact ⟨Own.mono hst (fun _ _ => rfl) hr.1, hr.2⟩
    | iter s pos => rw [hh] at hr; exact hr
    | dead => trivial
    | free => trivial
  · rw [hown] at hb
    have := inv.lt r b hb
    refine ⟨this.1, fun hf => ?_, this.2.2⟩
    rcases hF' b hf with h1 | ⟨h1, _⟩
    · exact this.2.1 h1
    · exact inv.gdis r b hb h1
  · have := inv.glt b (hs.mem hb)
    refine ⟨this.1, fun hf => ?_, this.2.2⟩
    rcases hF' b hf with h1 | ⟨_, h1⟩
    · exact this.2.1 h1
    · exact h1 hb
  · rcases hF' b hb with h1 | ⟨h1, _⟩
    · exact inv.flt b h1
    · exact (inv.glt b h1).1
  · refine ⟨?_, Fr.refl _ _, hst, fun b hb => (hF' b hb).imp id (fun h1 => (inv.glt b h1.1).2.2)⟩
    intro av v hv
    cases av with
    | un => trivial
    | und => exact hv
    | val t x => obtain ⟨cs, e, hr⟩ := hv; exact ⟨cs, e, Rep.mono hst hr⟩
    | emp => exact hv
    | bor p ver => exact BorR.stay rfl rfl (fun _ _ => rfl) hv
    | addr p ver => exact hv
    | raddr t x => exact RAddr.stay hst hv
    | clo f caps => exact hv
    | rclo f ds => obtain ⟨vs, e, hl⟩ := hv; exact ⟨vs, e, All2.mono (fun a b hab => RAddr.stay hst hab) hl⟩
    | itr r => exact hv
    | tup vs => exact hv.elim

end
end Go.Proofs.YtllcebmbaejlhaaDoor.Ab
