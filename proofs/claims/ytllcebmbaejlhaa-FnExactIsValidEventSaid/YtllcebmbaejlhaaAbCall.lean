/- Calls: arguments. -/
import Derived.Test.YtllcebmbaejlhaaAbCon
namespace Go.Proofs.Ytllcebmbaejlhaa.Ab
open Go

section
variable {P : Program} {T : Types} {W : Nat → Prop} {w : World} {S : Specs} {j : Nat}

theorem OwnR.st {F F' : Nat → Prop} {t : Ty} {x : t.den} {v : Value} {Sx : List Nat} (h : OwnR w F t x v Sx) (hF : ∀ b, F b → F' b) : OwnR w F' t x v Sx := by
  obtain ⟨cs, e, ho⟩ := h
  exact ⟨cs, e, ho.same hF⟩

theorem RAddr.same {m m' : Mem} {t : Ty} {x : t.den} {v : Value} (h : RAddr w m t x v) (hF : ∀ b, m.F b → m'.F b) : RAddr w m' t x v := RAddr.stay (fun b hb => ⟨hF b hb, rfl⟩) h

theorem ArgR.same {F F' : Nat → Prop} {a : Arg} {v : Value} {Sx : List Nat} (h : ArgR w F a v Sx) (hF : ∀ b, F b → F' b) : ArgR w F' a v Sx := by
  cases a with
  | ro d => obtain ⟨e, cs, e', hr⟩ := h; exact ⟨e, cs, e', Rep.mono (fun b hb => ⟨hF b hb, rfl⟩) hr⟩
  | mu d => exact OwnR.st h hF
  | gi d => exact OwnR.st h hF
  | mp d => obtain ⟨b, cs, e, S', h1, h2, h3, h4⟩ := h; exact ⟨b, cs, e, S', h1, h2, h3.same hF, h4⟩
  | rp d => exact ⟨h.1, RAddr.same h.2 hF⟩
  | fc f ds => obtain ⟨e, vs, e', hl⟩ := h; exact ⟨e, vs, e', All2.mono (fun d v hd => RAddr.same hd hF) hl⟩

theorem ArgsR.same {F F' : Nat → Prop} (hF : ∀ b, F b → F' b) : ∀ {as : List Arg} {vs : List Value} {G : List Nat}, ArgsR w F as vs G → ArgsR w F' as vs G
  | [], [], _, h => h
  | a :: as, v :: vs, _, ⟨S1, S2, e, h1, h2⟩ => ⟨S1, S2, e, h1.same hF, ArgsR.same hF h2⟩
  | [], _ :: _, _, h => h.elim
  | _ :: _, [], _, h => h.elim

/-! ### What is moved or let go -/
def PreR (w : World) (m : Mem) (h : Nat → Reg) (x : Pre) (v : Value) (Sx : List Nat) : Prop :=
  match x with
  | .arg a => (∃ d, a = .gi d ∨ a = .ro d) ∧ ArgR w m.F a v Sx
  | .av av => Sx = [] ∧ VR w m h av v

def PreL (w : World) (m : Mem) (h : Nat → Reg) : List Pre → List Value → List Nat → Prop
  | [], [], G => G = []
  | x :: xs, v :: vs, G => ∃ S G', G = S ++ G' ∧ PreR w m h x v S ∧ PreL w m h xs vs G'
  | _, _, _ => False

theorem PreR.up {m m' : Mem} {h h' : Nat → Reg} {x : Pre} {v : Value} {Sx : List Nat} (hup : Up W w m h w m' h') (hx : PreR w m h x v Sx) : PreR w m' h' x v Sx := by
  cases x with
  | arg a => exact ⟨hx.1, hx.2.same (fun b hb => (hup.st b hb).1)⟩
  | av av => exact ⟨hx.1, hup.le.all hx.2⟩

theorem pre_ok {K : AV → St → List Ent → Prop} {m : Mem} {σ : St} {l : List Ent} {G : List Nat} {v : AV} {val : Value} {t : Option Ty} {mo : Nat} {k : Pre → PrA} (inv : Inv W w m σ.h G) (hv : VR w m σ.h v val) (h : (Pr.pre std v t mo k).run S j σ l K) :
    ∃ x m' h' l' Sx, PreR w m' h' x val Sx ∧ Inv W w m' h' (Sx ++ G) ∧ Up W w m σ.h w m' h' ∧ (k x).run S j { σ with h := h' } l' K := by
  have easy : (k (.av v)).run S j σ l K → ∃ x m' h' l' Sx, PreR w m' h' x val Sx ∧ Inv W w m' h' (Sx ++ G) ∧ Up W w m σ.h w m' h' ∧ (k x).run S j { σ with h := h' } l' K := fun h => ⟨.av v, m, σ.h, l, [], ⟨rfl, hv⟩, inv, Up.refl _ _ _ _, h⟩
  cases v with
  | emp =>
    obtain ⟨A, rfl⟩ := hv
    simp only [Pr.pre] at h
    cases t with
    | none => exact h.elim
    | some t =>
      cases t with
      | list u =>
        simp only at h
        cases hm : (mo == 2) with
        | true =>
          rw [hm] at h
          exact ⟨.arg (.gi ⟨.list u, []⟩), m, σ.h, l, [], ⟨⟨_, .inl rfl⟩, [_], rfl, A, 0, rfl, Nat.zero_le _, .inl ⟨rfl, rfl, rfl⟩⟩, inv, Up.refl _ _ _ _, h⟩
        | false =>
          rw [hm] at h
          exact ⟨.arg (.ro ⟨.list u, []⟩), m, σ.h, l, [], ⟨⟨_, .inr rfl⟩, rfl, [_], rfl, A, 0, rfl, ⟨Nat.zero_le _, Nat.zero_le _⟩, .inl rfl⟩, inv, Up.refl _ _ _ _, h⟩
      | _ => exact h.elim
  | bor p ver =>
    simp only [Pr.pre] at h
    cases hm : (mo == 2) with
    | true =>
      rw [hm] at h
      simp only [cond_true] at h
      obtain ⟨t', ht', h2⟩ := opt_run h
      obtain ⟨y, fl, cs, S', m', h', l', rfl, hown, inv', hup, h3⟩ := takeV_ok inv hv h2
      obtain ⟨hfit, h4⟩ := bif_run h3
      obtain ⟨m'', S'', inv'', hup', hown'⟩ := fit_hand inv' hown hfit
      exact ⟨.arg (.gi ⟨t', y⟩), m'', h', _, S'', ⟨⟨_, .inl rfl⟩, cs, rfl, hown'⟩, inv'', hup.trans hup', h4⟩
    | false =>
      rw [hm] at h
      simp only [cond_false] at h
      cases hm3 : (mo == 3) with
      | true =>
        rw [hm3] at h
        simp only [cond_true] at h
        obtain ⟨d, cs, m', h', l', rfl, hr, inv', hup, h2⟩ := freezeV_ok inv hv h
        exact ⟨.arg (.ro d), m', h', _, [], ⟨⟨_, .inr rfl⟩, rfl, cs, rfl, hr⟩, inv', hup, h2⟩
      | false =>
        rw [hm3] at h
        exact easy h
  | un => exact easy h
  | und => exact easy h
  | val t x => exact easy h
  | addr p ver => exact easy h
  | raddr t x => exact easy h
  | clo f c => exact easy h
  | rclo f c => exact easy h
  | itr r => exact easy h
  | tup vs => exact easy h

theorem pres_ok {f : Nat} {md : Modes} {K : AV → St → List Ent → Prop} : ∀ {vs : List AV} {i : Nat} {vals : List Value} {ts : List Nat} {m : Mem} {σ : St} {l : List Ent} {G : List Nat} {k : List Pre → PrA}, Inv W w m σ.h G → All2 (VR w m σ.h) vs vals →
    (Pr.pres std f md T i vs ts k).run S j σ l K → ∃ xs m' h' l' Gx, PreL w m' h' xs vals Gx ∧ Inv W w m' h' (Gx ++ G) ∧ Up W w m σ.h w m' h' ∧ (k xs).run S j { σ with h := h' } l' K
  | [], i, [], ts, m, σ, l, G, k, inv, _, h => ⟨[], m, σ.h, l, [], rfl, inv, Up.refl _ _ _ _, h⟩
  | v :: vs, i, val :: vals, ts, m, σ, l, G, k, inv, ⟨hv, hvs⟩, h => by
    obtain ⟨x, m₁, h₁, l₁, Sx, hx, inv₁, hup₁, h2⟩ := pre_ok inv hv h
    obtain ⟨xs, m', h', l', Gx, hxs, inv', hup', h3⟩ := pres_ok (σ := { σ with h := h₁ }) inv₁ (All2.mono (fun a b hab => hup₁.le.all hab) hvs) h2
    refine ⟨x :: xs, m', h', l', Sx ++ Gx, ⟨Sx, Gx, rfl, hx.up hup', hxs⟩, inv'.less fun b => ?_, hup₁.trans hup', h3⟩
    simp only [List.count_append]; omega
  | [], _, _ :: _, _, _, _, _, _, _, _, h, _ => h.elim
  | _ :: _, _, [], _, _, _, _, _, _, _, h, _ => h.elim

/-! ### What is looked at behind all moves -/
/-- A region's blocks. -/
def lentB (m : Mem) (h : Nat → Reg) (rs : List Nat) (b : Nat) : Prop := ∃ r ∈ rs, b ∈ own1 m r (h r)

def PlaceR (m : Mem) (h : Nat → Reg) (p : Pl) (a : Arg) (v : Value) : Prop :=
  ∃ box t x fl log d, h p.r = .own box t x fl log ∧ p.ix = none ∧ getP p.f t x = some d ∧ Fl.fits d.t (flP p.f t fl) d.t.own = true ∧ d.t.tame = true ∧
    ((a = .mu d ∧ (∃ u, d.t = .list u ∧ u.flat = true) ∧ v = toV d.t (((m.C p.r).drop (offP p.f t)).take d.t.sz)) ∨ (a = .mp d ∧ p.f = [] ∧ box = true ∧ v = .pointer (some ⟨m.B p.r, 0, none⟩)))

/-- An argument: the regions lent, the place that is written, the blocks in hand. -/
def SeekR (w : World) (m : Mem) (h : Nat → Reg) (a : Arg) (rs : List Nat) (ps : List Pl) (v : Value) (Sx : List Nat) : Prop :=
  (ps = [] ∧ (∀ d, a ≠ .mu d) ∧ (∀ d, a ≠ .mp d) ∧ ∀ F : Nat → Prop, (∀ b, m.F b → F b) → (∀ b, lentB m h rs b → F b) → ArgR w F a v Sx) ∨ (∃ p, ps = [p] ∧ Sx = [] ∧ rs = [] ∧ PlaceR m h p a v)

theorem caps_ok {K : AV → St → List Ent → Prop} {m : Mem} {σ : St} {G : List Nat} (inv : Inv W w m σ.h G) : ∀ {c : List (Pl × Nat)} {vals : List Value} {l : List Ent} {k : List DV → PrA}, All2 (fun c v => AddrR m (σ.h (Pl.r c.1)) c.1 c.2 v) c vals → (Pr.caps std c k).run S j σ l K →
    ∃ ds l', (∀ F : Nat → Prop, (∀ b, m.F b → F b) → (∀ b, lentB m σ.h (c.map fun c => c.1.r) b → F b) → All2 (fun d v => RAddr w (memF F) (DV.t d) d.x v) ds vals) ∧ (k ds).run S j σ l' K
  | [], [], l, k, _, h => ⟨[], l, fun _ _ _ => trivial, h⟩
  | (p, ver) :: c, v :: vals, l, k, ⟨hv, hvs⟩, h => by
    obtain ⟨box, t, x, fl, log, hg, hst, h2⟩ := resA_run h
    obtain ⟨⟨d, fd⟩, hat, h3⟩ := opt_run h2
    obtain ⟨hno, h4⟩ := bif_run h3
    obtain ⟨ds, l', hds, h5⟩ := caps_ok inv hvs h4
    refine ⟨d :: ds, l', fun F hF hL => ⟨?_, hds F hF (fun b ⟨r, hr, hb⟩ => hL b ⟨r, List.mem_cons_of_mem _ hr, hb⟩)⟩, h5⟩
    have hL' : ∀ b, b ∈ own1 m p.r (.own box t x fl log) → F b := fun b hb => hL b ⟨p.r, by simp, by rw [hg]; exact hb⟩
    have ha : AddrR m (σ.h p.r) p ver v := hv
    rw [hg] at ha
    have hreg := inv.reg p.r
    rw [hg] at hreg
    obtain ⟨r, f, ix⟩ := p
    cases ix with
    | none =>
      obtain ⟨_, rfl, u', hu', rfl⟩ := ha
      obtain ⟨_, _, _, _, _, e, hd, rfl⟩ := at_none rfl hat
      cases e
      have htp : typP f t = some d.t := typP_getP hd
      obtain ⟨e, he⟩ := hreg.2 rfl
      obtain ⟨S₀, S₁, S₂, hS, ho, _⟩ := region_path hreg.1 hd
      refine ⟨m.B r, offP f t, _, e, (0, 0), rfl, hL' _ (by simp [own1]), he, ?_⟩
      exact Own.rep hF hno (fun b hb => hL' b (by
        show b ∈ m.B r :: m.S r
        rw [hS]; simp [hb])) ho
    | some iq =>
      obtain ⟨i, q⟩ := iq
      obtain ⟨_, _, _, _, _, v', xs, c', e, hxs, hc, hd, rfl⟩ := at_some hat
      cases e
      obtain ⟨u', z, b, off, len, cap, e1, e2, e3, hi, rfl⟩ := ha.2 hst
      rw [typP_getP hxs] at e1
      cases e1
      rw [typP_getP hd] at e2
      cases e2
      have hlen := hd_len hreg.1 hxs (.inl (by rw [hc]; rfl)) e3
      subst hlen
      obtain ⟨b', off', cap', row', e', S₀, S₁, S₂, U, V, hC, hS, hh, hsz, hel, _⟩ := region_elem hreg.1 hxs (.inl ⟨hc, rfl⟩) hi
      rw [e3] at hC
      simp only [Option.some.injEq, Value.slice.injEq, Addr.mk.injEq] at hC
      obtain ⟨⟨rfl, rfl, _⟩, _, rfl⟩ := hC
      obtain ⟨T₀, T₁, T₂, hT, hpart, _⟩ := region_path hel hd
      have hle := offP_le hel hd
      rw [seg_drop_take hle] at hpart
      have hSm : ∀ b, b ∈ m.S r → F b := fun b hb => hL' b (own1_S hb)
      refine ⟨b, _, row', e', (0, 0), rfl, hSm b (by rw [hS]; simp), hh, ?_⟩
      exact Own.rep hF hno (fun x hx => hSm x (by rw [hS, hT]; simp [hx])) hpart
  | [], _ :: _, _, _, h, _ => h.elim
  | _ :: _, [], _, _, h, _ => h.elim

theorem seek_ok {K : AV → St → List Ent → Prop} {m : Mem} {σ : St} {l : List Ent} {G : List Nat} {x : Pre} {val : Value} {mo : Nat} {Sx : List Nat} {k : Arg → List Nat → List Pl → PrA} (inv : Inv W w m σ.h G) (hx : PreR w m σ.h x val Sx) (h : (Pr.seek std x mo k).run S j σ l K) :
    ∃ a rs ps l', SeekR w m σ.h a rs ps val Sx ∧ (k a rs ps).run S j σ l' K := by
  cases x with
  | arg a =>
    obtain ⟨⟨d, hd⟩, ha⟩ := hx
    refine ⟨a, [], [], l, .inl ⟨rfl, ?_, ?_, fun F hF _ => ha.same hF⟩, h⟩ <;> rcases hd with rfl | rfl <;> intro d h <;> cases h
  | av v =>
    obtain ⟨rfl, hv⟩ := hx
    cases v with
    | val u x =>
      obtain ⟨cs, rfl, hr⟩ := val_inv hv
      exact ⟨.ro ⟨u, x⟩, [], [], l, .inl ⟨rfl, (by rintro d h; cases h), (by rintro d h; cases h), fun F hF _ => ⟨rfl, cs, rfl, Rep.mono (fun b hb => ⟨hF b hb, rfl⟩) hr⟩⟩, h⟩
    | raddr u x => exact ⟨.rp ⟨u, x⟩, [], [], l, .inl ⟨rfl, (by rintro d h; cases h), (by rintro d h; cases h), fun F hF _ => ⟨rfl, RAddr.same (m := m) hv hF⟩⟩, h⟩
    | rclo f c =>
      obtain ⟨vs, e, hl⟩ := (show VR1 w m σ.h (.rclo f c) val from hv)
      exact ⟨.fc f c, [], [], l, .inl ⟨rfl, (by rintro d h; cases h), (by rintro d h; cases h), fun F hF _ => ⟨rfl, vs, e, All2.mono (fun d v hd => RAddr.same hd hF) hl⟩⟩, h⟩
    | clo f c =>
      obtain ⟨vs, e, hl⟩ := (show VR1 w m σ.h (.clo f c) val from hv)
      obtain ⟨ds, l', hds, h2⟩ := caps_ok inv hl h
      exact ⟨.fc f ds, _, [], l', .inl ⟨rfl, (by rintro d h; cases h), (by rintro d h; cases h), fun F hF hL => ⟨rfl, vs, e, hds F hF hL⟩⟩, h2⟩
    | addr p ver =>
      simp only [Pr.seek] at h
      obtain ⟨box, t, y, fl, log, hg, hst, h2⟩ := resA_run h
      have ha : AddrR m (σ.h p.r) p ver val := hv
      rw [hg] at ha
      obtain ⟨r, f, ix⟩ := p
      cases f with
      | nil =>
        cases ix with
        | none =>
          obtain ⟨⟨d, fd⟩, hat, h3⟩ := opt_run h2
          obtain ⟨hfit, h4⟩ := bif_run h3
          simp only [Bool.and_eq_true] at hfit
          obtain ⟨_, _, _, _, _, e, hd, rfl⟩ := at_none rfl hat
          cases e
          obtain ⟨_, rfl, u', hu', rfl⟩ := ha
          exact ⟨.mp d, [], _, _, .inr ⟨_, rfl, rfl, rfl, true, t, y, fl, log, d, hg, rfl, hd, hfit.1, hfit.2, .inr ⟨rfl, rfl, rfl, rfl⟩⟩, h4⟩
        | some _ => exact h2.elim
      | cons _ _ => exact h2.elim
    | bor p ver =>
      simp only [Pr.seek] at h
      cases hm : (mo == 0) with
      | true =>
        rw [hm] at h
        simp only [cond_true] at h
        obtain ⟨box, t, y, fl, log, hg, hst, h2⟩ := resB_run h
        have hb : BorR w m (σ.h p.r) p ver val := hv
        have hreg := inv.reg p.r
        rw [hg] at hb hreg
        obtain ⟨⟨d, fd⟩, hat, h3⟩ := opt_run h2
        obtain ⟨hno, h4⟩ := bif_run h3
        obtain ⟨cs, S', rfl, ho, hsub⟩ := bor_at hreg hb hst hat
        exact ⟨.ro d, [p.r], [], _, .inl ⟨rfl, (by rintro d h; cases h), (by rintro d h; cases h), fun F hF hL => ⟨rfl, cs, rfl, Own.rep hF hno (fun b hb => hL b ⟨p.r, by simp, by rw [hg]; exact own1_S (hsub.mem hb)⟩) ho⟩⟩, h4⟩
      | false =>
        rw [hm] at h
        simp only [cond_false] at h
        obtain ⟨_, h1⟩ := bif_run h
        obtain ⟨box, t, y, fl, log, hg, hst, h2⟩ := resB_run h1
        have hb : BorR w m (σ.h p.r) p ver val := hv
        rw [hg] at hb
        obtain ⟨⟨⟨td, xd⟩, fd⟩, hat, h3⟩ := opt_run h2
        obtain ⟨r, f, ix⟩ := p
        cases ix with
        | some iq => exact h3.elim
        | none =>
          cases td with
          | list u =>
            obtain ⟨hfit, h4⟩ := bif_run h3
            simp only [Bool.and_eq_true] at hfit
            obtain ⟨_, _, _, _, _, e, hd, rfl⟩ := at_none rfl hat
            cases e
            obtain ⟨u', hu', rfl⟩ := hb.2 hst
            rw [typP_getP hd] at hu'
            cases hu'
            refine ⟨.mu ⟨.list u, xd⟩, [], _, _, .inr ⟨_, rfl, rfl, rfl, box, t, y, fl, log, ⟨.list u, xd⟩, hg, rfl, hd, hfit.2, (show u.tame = true from flat_tame hfit.1), .inl ⟨rfl, ⟨u, rfl, hfit.1⟩, rfl⟩⟩, h4⟩
          | _ => exact h3.elim
    | _ => exact h.elim
  where
  flat_tame : ∀ {u : Ty}, u.flat = true → u.tame = true
    | .int _, _ => rfl
    | .bool, _ => rfl
    | .str, _ => rfl
    | .list _, h => by simp [Ty.flat] at h
    | .arr _ _, h => by simpa [Ty.flat, Ty.tame] using h
    | .prod a b, h => by
      simp only [Ty.flat, Bool.and_eq_true] at h
      simp [Ty.tame, flat_tame h.1, flat_tame h.2]
    | .agg u, h => flat_tame (u := u) h

def SeekL (w : World) (m : Mem) (h : Nat → Reg) : List Arg → List Nat → List Pl → List Value → List Nat → Prop
  | [], rs, ps, [], G => rs = [] ∧ ps = [] ∧ G = []
  | a :: as, rs, ps, v :: vs, G => ∃ rs₁ rs₂ ps₁ ps₂ S G', rs = rs₁ ++ rs₂ ∧ ps = ps₁ ++ ps₂ ∧ G = S ++ G' ∧ SeekR w m h a rs₁ ps₁ v S ∧ SeekL w m h as rs₂ ps₂ vs G'
  | _, _, _, _, _ => False

theorem seeks_ok {f : Nat} {md : Modes} {K : AV → St → List Ent → Prop} {m : Mem} {σ : St} {G : List Nat} (inv : Inv W w m σ.h G) : ∀ {xs : List Pre} {i : Nat} {vals : List Value} {l : List Ent} {Gx : List Nat} {k : List Arg → List Nat → List Pl → PrA}, PreL w m σ.h xs vals Gx → (Pr.seeks std f md i xs k).run S j σ l K →
    ∃ as rs ps l', SeekL w m σ.h as rs ps vals Gx ∧ (k as rs ps).run S j σ l' K
  | [], i, [], l, Gx, k, hx, h => ⟨[], [], [], l, ⟨rfl, rfl, hx⟩, h⟩
  | x :: xs, i, v :: vals, l, Gx, k, ⟨S1, S2, e, hx, hxs⟩, h => by
    obtain ⟨a, rs, ps, l₁, ha, h2⟩ := seek_ok inv hx h
    obtain ⟨as, rs', ps', l', has, h3⟩ := seeks_ok inv hxs h2
    exact ⟨a :: as, rs ++ rs', ps ++ ps', l', ⟨rs, rs', ps, ps', S1, S2, rfl, rfl, e, ha, has⟩, h3⟩
  | [], _, _ :: _, _, _, _, h, _ => h.elim
  | _ :: _, _, [], _, _, _, h, _ => h.elim

/-- No place is written. -/
theorem seek_none {m : Mem} {h : Nat → Reg} {F : Nat → Prop} (hF : ∀ b, m.F b → F b) : ∀ {as : List Arg} {rs : List Nat} {vals : List Value} {G : List Nat}, SeekL w m h as rs [] vals G → (∀ b, lentB m h rs b → F b) →
    ArgsR w F as vals G ∧ ∀ (w' : World) (F' : Nat → Prop) ms Gm, MutsR w' F' as vals ms Gm → ms = [] ∧ Gm = []
  | [], rs, [], G, hs, hL => ⟨hs.2.2, fun w' F' ms Gm h => h⟩
  | a :: as, rs, v :: vals, G, ⟨rs₁, rs₂, ps₁, ps₂, S1, G', e1, e2, e3, ha, has⟩, hL => by
    obtain ⟨rfl, rfl⟩ := List.append_eq_nil_iff.1 e2.symm
    subst e1 e3
    have ih := seek_none hF has (fun b ⟨r, hr, hb⟩ => hL b ⟨r, List.mem_append_right _ hr, hb⟩)
    rcases ha with ⟨_, hn1, hn2, ha⟩ | ⟨p, hp, _⟩
    · refine ⟨⟨S1, G', rfl, ha F hF (fun b ⟨r, hr, hb⟩ => hL b ⟨r, List.mem_append_left _ hr, hb⟩), ih.1⟩, fun w' F' ms Gm hm => ?_⟩
      cases a with
      | mu d => exact absurd rfl (hn1 d)
      | mp d => exact absurd rfl (hn2 d)
      | _ => exact ih.2 w' F' ms Gm hm
    · cases hp
  | [], _, _ :: _, _, h, _ => h.elim
  | _ :: _, _, [], _, h, _ => h.elim

/-- One place is written. -/
theorem seek_one {m : Mem} {h : Nat → Reg} {p : Pl} : ∀ {as : List Arg} {rs : List Nat} {vals : List Value} {G : List Nat}, SeekL w m h as rs [p] vals G →
    ∃ a v G₁ G₂, G = G₁ ++ G₂ ∧ PlaceR m h p a v ∧ (∀ (F : Nat → Prop) (Sp : List Nat), (∀ b, m.F b → F b) → (∀ b, lentB m h rs b → F b) → ArgR w F a v Sp → ArgsR w F as vals (G₁ ++ (Sp ++ G₂))) ∧
      ∀ (w' : World) (F' : Nat → Prop) ms Gm, MutsR w' F' as vals ms Gm → (∃ d, a = .mu d ∧ ∃ x : d.t.den, ms = [⟨d.t, x⟩] ∧ OwnR w' F' d.t x v Gm) ∨ (∃ d, a = .mp d ∧ ∃ x : d.t.den, ms = [⟨d.t, x⟩] ∧ BoxR w' F' d.t x v Gm)
  | a :: as, rs, v :: vals, G, ⟨rs₁, rs₂, ps₁, ps₂, S1, G', e1, e2, e3, ha, has⟩ => by
    subst e1 e3
    rcases ha with ⟨rfl, hn1, hn2, ha⟩ | ⟨p', hp, rfl, rfl, hpl⟩
    · rw [List.nil_append] at e2
      subst e2
      obtain ⟨a', v', G₁, G₂, rfl, hpl, hargs, hmuts⟩ := seek_one has
      refine ⟨a', v', S1 ++ G₁, G₂, by simp, hpl, fun F Sp hF hL hSp => ⟨S1, G₁ ++ (Sp ++ G₂), by simp, ha F hF (fun b ⟨r, hr, hb⟩ => hL b ⟨r, List.mem_append_left _ hr, hb⟩), hargs F Sp hF (fun b ⟨r, hr, hb⟩ => hL b ⟨r, List.mem_append_right _ hr, hb⟩) hSp⟩, fun w' F' ms Gm hm => ?_⟩
      cases a with
      | mu d => exact absurd rfl (hn1 d)
      | mp d => exact absurd rfl (hn2 d)
      | _ => exact hmuts w' F' ms Gm hm
    · subst hp
      simp only [List.cons_append, List.nil_append, List.cons.injEq] at e2
      obtain ⟨rfl, e2⟩ := e2
      subst e2
      refine ⟨a, v, [], G', by simp, hpl, fun F Sp hF hL hSp => ⟨Sp, G', by simp, hSp, (seek_none hF has (by simpa using hL)).1⟩, fun w' F' ms Gm hm => ?_⟩
      obtain ⟨box, t, x, fl, log, d, _, _, _, _, _, hcase⟩ := hpl
      rcases hcase with ⟨rfl, _⟩ | ⟨rfl, _⟩
      · obtain ⟨y, ms', T1, T2, rfl, rfl, ho, hrest⟩ := hm
        obtain ⟨rfl, rfl⟩ := (seek_none (F := fun _ => True) (fun _ _ => trivial) has (fun _ _ => trivial)).2 _ _ _ _ hrest
        exact .inl ⟨d, rfl, y, rfl, by simpa using ho⟩
      · obtain ⟨y, ms', T1, T2, rfl, rfl, ho, hrest⟩ := hm
        obtain ⟨rfl, rfl⟩ := (seek_none (F := fun _ => True) (fun _ _ => trivial) has (fun _ _ => trivial)).2 _ _ _ _ hrest
        exact .inr ⟨d, rfl, y, rfl, by simpa using ho⟩
  | [], _, [], _, h => by simp [SeekL] at h
  | [], _, _ :: _, _, h => h.elim
  | _ :: _, _, [], _, h => h.elim

end
end Go.Proofs.Ytllcebmbaejlhaa.Ab
