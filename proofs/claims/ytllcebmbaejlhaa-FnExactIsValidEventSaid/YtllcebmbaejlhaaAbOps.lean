/- Each operation of the interpreter is sound: operations that call nothing. -/
import Derived.Test.YtllcebmbaejlhaaAbRun
namespace Go.Proofs.Ytllcebmbaejlhaa.Ab
open Go

/-- What temporaries hold. -/
def Tmps (w : World) (m : Mem) (σ : St) (a : Act) : Prop := ∀ t, VR w m σ.h (σ.ρ t) (a.eval (.tmp t))

/-- What an operation leaves. -/
def Res (W : Nat → Prop) (w : World) (m : Mem) (σ : St) (K : AV → St → List Ent → Prop) (val : Value) (w' : World) : Prop :=
  ∃ m' h' l' v, Inv W w' m' h' [] ∧ Up W w m σ.h w' m' h' ∧ VR w' m' h' v val ∧ K v { σ with h := h' } l'

theorem Res.of {W : Nat → Prop} {w₀ w' : World} {m₀ m' : Mem} {σ₀ σ : St} {h' : Nat → Reg} {K : AV → St → List Ent → Prop} {val : Value} {v : AV} {l' : List Ent} (inv' : Inv W w' m' h' []) (hup : Up W w₀ m₀ σ₀.h w' m' h') (hv : VR w' m' h' v val) (hρ : σ.ρ = σ₀.ρ)
    (hK : K v { ρ := σ.ρ, h := h' } l') : Res W w₀ m₀ σ₀ K val w' := ⟨m', h', l', v, inv', hup, hv, by rw [← hρ]; exact hK⟩

/-- An operation that yields a value. -/
def Yields (P : Program) (W : Nat → Prop) (w : World) (m : Mem) (σ : St) (K : AV → St → List Ent → Prop) (s : Sem Value) : Prop :=
  ∃ val w', s.run P w = .ok val w' ∧ Res W w m σ K val w'

section
variable {P : Program} {T : Types} {W : Nat → Prop} {w : World} {m : Mem} {σ : St} {S : Specs} {j : Nat} {l : List Ent} {a : Act}

theorem cst_ok {v : Value} {h : Nat → Reg} : VR w m h (cst v) v := by
  cases v with
  | int k n =>
    simp only [cst]
    by_cases hk : k.wrap n = n
    · rw [decide_eq_true hk]
      exact ⟨[.int k n], rfl, rfl, hk⟩
    · rw [decide_eq_false hk]; trivial
  | bool b => exact ⟨[.bool b], rfl, rfl⟩
  | string s =>
    simp only [cst]
    by_cases hk : s.size ≤ 1048576
    · rw [decide_eq_true hk]
      refine ⟨[.string s], rfl, ?_⟩
      obtain ⟨⟨d⟩⟩ := s
      refine ⟨rfl, ?_⟩
      have : d.length ≤ 1048576 := by simpa [ByteArray.size] using hk
      show d.length ≤ big
      simp only [big]; omega
    · rw [decide_eq_false hk]; trivial
  | slice A n c =>
    cases A with
    | none =>
      cases n with
      | zero =>
        cases c with
        | zero => exact ⟨none, rfl⟩
        | succ c => exact trivial
      | succ n => exact trivial
    | some a => exact trivial
  | _ => exact trivial

theorem op_ok {α : Type} {x : Operand} {k : AV → Pr α} {K : α → St → List Ent → Prop} (ht : Tmps w m σ a) (h : (Pr.op x k).run S j σ l K) : ∃ v, VR w m σ.h v (a.eval x) ∧ ∃ l', (k v).run S j σ l' K := by
  cases x with
  | tmp t => exact ⟨σ.ρ t, ht t, _, h⟩
  | const v => exact ⟨cst v, cst_ok, _, h⟩
  | func f => exact ⟨.rclo f [], ⟨[], rfl, trivial⟩, _, h⟩
  | global g => exact ⟨.un, trivial, _, h⟩

theorem VR.one {h : Nat → Reg} : ∀ {v : AV} {val : Value}, VR w m h v val → (∀ vs, v ≠ .tup vs) → VR1 w m h v val
  | .tup vs, _, _, hn => absurd rfl (hn vs)
  | .un, _, hv, _ => hv
  | .und, _, hv, _ => hv
  | .val _ _, _, hv, _ => hv
  | .emp, _, hv, _ => hv
  | .bor _ _, _, hv, _ => hv
  | .addr _ _, _, hv, _ => hv
  | .raddr _ _, _, hv, _ => hv
  | .clo _ _, _, hv, _ => hv
  | .rclo _ _, _, hv, _ => hv
  | .itr _, _, hv, _ => hv

/-- What 'take' gets, of any temporary. -/
theorem takeV_ok {α : Type} {G : List Nat} {t : Ty} {k : t.den → Fl → Pr α} {K : α → St → List Ent → Prop} (inv : Inv W w m σ.h G) {v : AV} {val : Value} (hv : VR w m σ.h v val) (h : (Pr.take std v t k).run S j σ l K) : Taken W w m G S j t k σ K val := by
  refine take_ok inv (hv.one ?_) h
  rintro vs rfl
  exact h.elim

theorem freezeV_ok {α : Type} {G : List Nat} {k : DV → Pr α} {K : α → St → List Ent → Prop} (inv : Inv W w m σ.h G) {v : AV} {val : Value} (hv : VR w m σ.h v val) (h : (Pr.freeze std v k).run S j σ l K) :
    ∃ d cs m' h' l', val = toV d.t cs ∧ Rep w m'.F d.t d.x cs ∧ Inv W w m' h' G ∧ Up W w m σ.h w m' h' ∧ (k d).run S j { σ with h := h' } l' K := by
  refine freeze_ok inv (hv.one ?_) h
  rintro vs rfl
  exact h.elim

theorem new_run {α : Type} {r : Nat} {g : Reg} {k : Pr α} {K : α → St → List Ent → Prop} (h : (Pr.new r g k).run S j σ l K) : σ.h r = .free ∧ k.run S j (σ.setR r g) (⟨j, r, true⟩ :: ⟨j, r, false⟩ :: l) K := by
  simp only [Pr.new, Pr.run] at h
  cases hg : σ.h r with
  | free => rw [hg] at h; exact ⟨rfl, h⟩
  | own _ _ _ _ _ => rw [hg] at h; exact h.elim
  | iter _ _ => rw [hg] at h; exact h.elim
  | dead => rw [hg] at h; exact h.elim

/-- A result in a region of its own. -/
theorem fresh_ok {r : Nat} {t : Ty} {x : t.den} {fl : Fl} {K : AV → St → List Ent → Prop} {cs : List Value} {S' : List Nat} {w₀ : World} {m₀ : Mem} {σ₀ : St} (inv : Inv W w m σ.h (S' ++ [])) (hup : Up W w₀ m₀ σ₀.h w m σ.h) (hρ : σ.ρ = σ₀.ρ)
    (hown : Own w m.F t fl x cs S') (h : (Pr.fresh r t x fl).run S j σ l K) : Res W w₀ m₀ σ₀ K (toV t cs) w := by
  obtain ⟨hr, h⟩ := new_run h
  obtain ⟨m', inv', hup', hv⟩ := new_ok (G := []) inv hr hown
  refine ⟨m', _, ⟨j, r, true⟩ :: ⟨j, r, false⟩ :: l, .bor ⟨r, [], none⟩ 0, inv', hup.trans hup', hv, ?_⟩
  rw [← hρ]
  exact h

/-- A value that is not owned. -/
theorem ret_ok {t : Ty} {x : t.den} {K : AV → St → List Ent → Prop} {cs : List Value} {w₀ : World} {m₀ : Mem} {σ₀ : St} (inv : Inv W w m σ.h []) (hup : Up W w₀ m₀ σ₀.h w m σ.h) (hρ : σ.ρ = σ₀.ρ)
    (hr : Rep w m.F t x cs) (h : (Pr.ret (α := AV) (.val t x)).run S j σ l K) : Res W w₀ m₀ σ₀ K (toV t cs) w :=
  ⟨m, σ.h, l, .val t x, inv, hup, ⟨cs, rfl, hr⟩, by rw [← hρ]; exact h⟩

/-! ### Loads and stores -/
theorem at_none {g : Reg} {p : Pl} (hp : p.ix = none) {d : DV} {fl : Fl} (h : g.at std p = some (d, fl)) : ∃ box t x f log, g = .own box t x f log ∧ getP p.f t x = some d ∧ fl = flP p.f t f := by
  cases g with
  | own box t x f log =>
    simp only [Reg.at, hp, Option.bind_eq_some_iff] at h
    obtain ⟨d', hd, h⟩ := h
    cases h
    exact ⟨box, t, x, f, log, rfl, hd, rfl⟩
  | _ => cases h

theorem at_some {g : Reg} {r : Nat} {f q : List Nat} {i : Nat} {d : DV} {fl : Fl} (h : g.at std ⟨r, f, some (i, q)⟩ = some (d, fl)) :
    ∃ box t x fg log u xs c, g = .own box t x fg log ∧ getP f t x = some ⟨.list u, xs⟩ ∧ flP f t fg = .ow c ∧ getP q u (List.getD xs i u.dflt) = some d ∧ fl = flP q u c := by
  cases g with
  | own box t x fg log =>
    simp only [Reg.at] at h
    obtain ⟨⟨u, xs⟩, hd, h⟩ := Option.bind_eq_some_iff.1 h
    cases u with
    | list u =>
      cases hc : flP f t fg with
      | ow c =>
        simp only [hc] at h
        obtain ⟨e, he, h⟩ := Option.map_eq_some_iff.1 h
        cases h
        exact ⟨box, t, x, fg, log, u, xs, c, rfl, hd, hc, he, rfl⟩
      | _ => simp only [hc] at h; cases h
    | _ => cases h
  | _ => cases h

theorem fresh_now {f : List Nat} {log : Log} : fresh f log log.length = true := by
  unfold fresh
  rw [Nat.sub_self]
  cases log with
  | nil => rfl
  | cons a l => cases a <;> rfl

/-- A place is seen: what 'load' and 'field' leave. 'v' is what stands there. -/
theorem seen_ok {p : Pl} {u : Ty} {K : AV → St → List Ent → Prop} {val : Value} (inv : Inv W w m σ.h []) {box : Bool} {t : Ty} {x : t.den} {fl : Fl} {log : Log} (hg : σ.h p.r = .own box t x fl log)
    (hb : BorR w m (.own box t x fl log) p log.length val) (h : (Pr.seen std p (.own box t x fl log) u).run S j σ l K) : Res W w m σ K val w := by
  simp only [Pr.seen] at h
  have hreg := inv.reg p.r
  rw [hg] at hreg
  cases ht : (Reg.own box t x fl log).typ p with
  | none => rw [ht] at h; exact h.elim
  | some t' =>
    rw [ht] at h
    obtain ⟨htu, h⟩ := bif_run h
    cases hat : (Reg.own box t x fl log).at std p with
    | none => rw [hat] at h; exact h.elim
    | some dd =>
      obtain ⟨⟨td, xd⟩, fd⟩ := dd
      rw [hat] at h
      simp only at h
      cases hpl : fd.plain with
      | false =>
        rw [hpl] at h
        exact ⟨m, σ.h, l, .bor p log.length, inv, Up.refl _ _ _ _, by show BorR w m (σ.h p.r) p log.length val; rw [hg]; exact hb, h⟩
      | true =>
        rw [hpl] at h
        refine ⟨m, σ.h, l, .val td xd, inv, Up.refl _ _ _ _, ?_, h⟩
        obtain ⟨r, f, ix⟩ := p
        cases ix with
        | none =>
          obtain ⟨_, _, _, _, _, e, hd, hf⟩ := at_none rfl hat
          cases e
          obtain ⟨U, L, V, _, ho, _⟩ := region_path hreg.1 hd
          simp only at hf
          subst hf
          obtain ⟨hr, _⟩ := Own.plain hpl ho
          obtain ⟨u', hu', e⟩ := hb.2 fresh_now
          rw [typP_getP hd] at hu'
          cases hu'
          exact ⟨_, e, hr⟩
        | some iq =>
          obtain ⟨i, q⟩ := iq
          obtain ⟨_, _, _, _, _, v', xs, c, e, hxs, hc, hd, hf⟩ := at_some hat
          cases e
          obtain ⟨u', z, b, off, len, cap, e1, e2, e3, hi, _, row, e, hrow, _, hv⟩ := hb.2 rfl
          rw [typP_getP hxs] at e1
          cases e1
          rw [typP_getP hd] at e2
          cases e2
          have hlen := hd_len hreg.1 hxs (.inl (by rw [hc]; rfl)) e3
          subst hlen
          obtain ⟨b', off', cap', row', e', S₀, S₁, S₂, U, V, hC, hS, hh, hsz, hel, _⟩ := region_elem hreg.1 hxs (.inl ⟨hc, rfl⟩) hi
          rw [e3] at hC
          simp only [Option.some.injEq, Value.slice.injEq, Addr.mk.injEq] at hC
          obtain ⟨⟨rfl, rfl, _⟩, _, rfl⟩ := hC
          rw [hrow] at hh
          simp only [Option.some.injEq, Obj.cells.injEq] at hh
          obtain ⟨rfl, rfl, _⟩ := hh
          obtain ⟨T₀, T₁, T₂, hT, hpart, _⟩ := region_path hel hd
          have hle := offP_le hel hd
          rw [seg_drop_take hle] at hpart
          subst hf
          obtain ⟨hr, _⟩ := Own.plain hpl hpart
          exact ⟨_, hv, hr⟩

/-- The value at an address that stands. -/
theorem addr_load {p : Pl} {ver : Nat} {box : Bool} {t : Ty} {x : t.den} {fl : Fl} {log : Log} {val : Value} {G : List Nat} (inv : Inv W w m σ.h G) (hg : σ.h p.r = .own box t x fl log) (ha : AddrR m (.own box t x fl log) p ver val)
    (hst : standsA p log ver = true) {u : Ty} {τ : TypeId} (htie : Tie P u τ) (htyp : (Reg.own box t x fl log).typ p = some u) (hat : p.ix = none ∨ ∃ d, (Reg.own box t x fl log).at std p = some d) :
    ∃ v, (Instr.loadAt τ val).run P w = .ok v w ∧ BorR w m (.own box t x fl log) p log.length v := by
  have hreg := inv.reg p.r
  rw [hg] at hreg
  obtain ⟨r, f, ix⟩ := p
  obtain ⟨hver, ha⟩ := ha
  cases ix with
  | none =>
    obtain ⟨rfl, u', hu', rfl⟩ := ha
    have : typP f t = some u := htyp
    rw [this] at hu'
    cases hu'
    obtain ⟨e, he⟩ := hreg.2 rfl
    have hle := typP_le this
    have hlC : (m.C r).length = t.sz := Own.length hreg.1
    have hrun := load_run htie he (o := offP f t) (by simp only [List.size_toArray]; omega)
    refine ⟨_, hrun, Nat.le_refl _, fun _ => ⟨u, this, ?_⟩⟩
    rfl
  | some iq =>
    obtain ⟨i, q⟩ := iq
    rcases hat with hat | ⟨⟨d, fd⟩, hat⟩
    · cases hat
    obtain ⟨_, _, _, _, _, v', xs, c, e, hxs, hc, hd, hf⟩ := at_some hat
    cases e
    obtain ⟨u', z, b, off, len, cap, e1, e2, e3, hi, rfl⟩ := ha hst
    rw [typP_getP hxs] at e1
    cases e1
    have hz : z = u := by
      simp only [Reg.typ, typP_getP hxs] at htyp
      rw [e2] at htyp
      cases htyp; rfl
    subst hz
    have hlen := hd_len hreg.1 hxs (.inl (by rw [hc]; rfl)) e3
    subst hlen
    obtain ⟨b', off', cap', row', e', S₀, S₁, S₂, U, V, hC, hS, hh, hsz, hel, _⟩ := region_elem hreg.1 hxs (.inl ⟨hc, rfl⟩) hi
    rw [e3] at hC
    simp only [Option.some.injEq, Value.slice.injEq, Addr.mk.injEq] at hC
    obtain ⟨⟨rfl, rfl, _⟩, _, rfl⟩ := hC
    have hle := typP_le e2
    have hs1 : (i + 1) * v'.sz = i * v'.sz + v'.sz := Nat.succ_mul _ _
    have hrun := load_run htie hh (o := off + i * v'.sz + offP q v') (by omega)
    refine ⟨_, hrun, Nat.le_refl _, fun _ => ⟨v', z, b, off, _, _, typP_getP hxs, e2, e3, hi, ?_, row', e', hh, by omega, rfl⟩⟩
    show b ∈ m.S r
    rw [hS]; simp

theorem load_ok {τ : TypeId} {u : Ty} (hT : Tie P u τ) {x : Operand} {K : AV → St → List Ent → Prop} (inv : Inv W w m σ.h []) (ht : Tmps w m σ a)
    (h : (Pr.op x fun | .addr p ver => Pr.resA p ver fun g => Pr.seen std p g u | .raddr w x => bif decide (w = u) then .ret (.val w x) else .fail | _ => .fail : PrA).run S j σ l K) :
    Yields P W w m σ K (Instr.loadAt τ (a.eval x)) := by
  obtain ⟨v, hv, _, h⟩ := op_ok ht h
  cases v with
  | addr p ver =>
    obtain ⟨box, t, y, fl, log, hg, hst, h⟩ := resA_run h
    have ha : AddrR m (σ.h p.r) p ver (a.eval x) := hv
    rw [hg] at ha
    have h' := h
    simp only [Pr.seen] at h
    cases htyp : (Reg.own box t y fl log).typ p with
    | none => rw [htyp] at h; exact h.elim
    | some t' =>
      rw [htyp] at h
      obtain ⟨htu, h2⟩ := bif_run h
      have htu := of_decide_eq_true htu
      subst htu
      cases hat : (Reg.own box t y fl log).at std p with
      | none => rw [hat] at h2; exact h2.elim
      | some dd =>
        obtain ⟨v, hrun, hb⟩ := addr_load inv hg ha hst hT htyp (.inr ⟨dd, hat⟩)
        exact ⟨v, w, hrun, seen_ok inv hg hb h'⟩
  | raddr t y =>
    obtain ⟨htu, h2⟩ := bif_run h
    have htu := of_decide_eq_true htu
    subst htu
    have hr : RAddr w m t y (a.eval x) := hv
    obtain ⟨b, off, row, e, fz, hv, hF, hh, hr⟩ := hr
    rw [hv]
    have hlen := hr.length
    have hb : off + t.sz ≤ row.size := by
      simp only [seg, List.length_take, List.length_drop, Array.length_toList] at hlen
      obtain ⟨i⟩ := hT.info
      have := i.szpos
      omega
    exact ⟨_, w, load_run hT hh hb, ret_ok inv (Up.refl _ _ _ _) rfl hr h2⟩
  | _ => exact h.elim

/-- A value in hand is laid at an address. -/
theorem lay_ok {p : Pl} {ver : Nat} {av : Value} {u : Ty} {τ : TypeId} (htie : Tie P u τ) {K : AV → St → List Ent → Prop} {y : u.den} {fl : Fl} {cs : List Value} {S' : List Nat} (inv : Inv W w m σ.h (S' ++ []))
    (hv : VR1 w m σ.h (.addr p ver) av) (hown : Own w m.F u fl y cs S') {w₀ : World} {m₀ : Mem} {σ₀ : St} (hup : Up W w₀ m₀ σ₀.h w m σ.h) (hρ : σ.ρ = σ₀.ρ)
    (h : (Pr.resA p ver fun _ => Pr.layAt std p ⟨u, y⟩ fl (.ret .und) : PrA).run S j σ l K) :
    ∃ w', (Instr.storeAt τ av (toV u cs)).run P w = .ok () w' ∧ Res W w₀ m₀ σ₀ K undef w' := by
  obtain ⟨box, t, x, fg, log, hg, hst, h⟩ := resA_run h
  have ha : AddrR m (σ.h p.r) p ver av := hv
  rw [hg] at ha
  have hreg := inv.reg p.r
  rw [hg] at hreg
  simp only [Pr.layAt, Pr.run] at h
  rw [hg] at h
  have hl := Own.length hown
  have h1 := Own.one hown
  obtain ⟨r, f, ix⟩ := p
  cases ix with
  | none =>
    obtain ⟨hver, rfl, u', hu', rfl⟩ := ha
    simp only [cond_true] at h
    obtain ⟨z, hz, h⟩ := opt_run h
    have htp : typP f t = some u := setP_typP hz
    have hu'' : typP f t = some u' := hu'
    rw [htp] at hu''
    cases hu''
    obtain ⟨e, he⟩ := hreg.2 rfl
    have hle := typP_le htp
    have hlC : (m.C r).length = t.sz := Own.length hreg.1
    have hrun := store_run htie he (o := offP f t) (by simp only [List.size_toArray]; omega) hl h1
    obtain ⟨m', inv', hup'⟩ := layV_ok (G := []) (p := ⟨r, f, none⟩) (ver := ver) (d := ⟨u, y⟩) (fd := fl) (y := z) inv rfl hg ⟨hver, rfl, u, htp, rfl⟩ hown hz htp (setCells_poke (cs := cs))
    simp only [Pr.run] at h
    exact ⟨_, hrun, Res.of (v := .und) inv' (hup.trans hup') rfl hρ h⟩
  | some iq =>
    obtain ⟨i, q⟩ := iq
    simp only [Pr.layE] at h
    obtain ⟨v, xs, hxs, h⟩ := list_run h
    obtain ⟨ye, hye, h⟩ := opt_run h
    obtain ⟨z, hz, h⟩ := opt_run h
    have hye' : setP q v (List.getD (α := v.den) xs i v.dflt) ⟨u, y⟩ = some ye := hye
    have hz' : setP f t x ⟨.list v, List.set (α := v.den) xs i ye⟩ = some z := hz
    have haa := ha
    obtain ⟨hver, ha⟩ := ha
    obtain ⟨u', zt, b, off, len, cap, e1, e2, e3, hi, hav⟩ := ha hst
    have e1' : typP f t = some (.list u') := e1
    rw [typP_getP hxs] at e1'
    cases e1'
    rw [setP_typP hye] at e2
    cases e2
    have hfresh : fresh f log ver = true := hst
    have key : ∀ (c d : Fl), (flP f t fg = .ow c ∧ d = c ∨ flP f t fg = .owx i c d) → ∀ g, (∀ w', Conv w' m.F v (.owx i c (setFlP q v d fl)) g) →
        ∀ l', K .und { ρ := σ.ρ, h := upd σ.h r (.own box t z (setFlP f t fg g) (none :: log)) } l' →
        ∃ w', (Instr.storeAt τ av (toV u cs)).run P w = .ok () w' ∧ Res W w₀ m₀ σ₀ K undef w' := by
      intro c d hc g hconv l' hK
      have hisow : (flP f t fg).isOw = true ∨ flP f t fg = .sh := by
        left
        rcases hc with ⟨h, _⟩ | h <;> rw [h] <;> rfl
      have hlen := hd_len hreg.1 hxs hisow e3
      subst hlen
      obtain ⟨b', off', cap', row', e', S₀, S₁, S₂, U, V, hC, hS, hh, hsz, hel, _⟩ := region_elem hreg.1 hxs hc hi
      rw [e3] at hC
      simp only [Option.some.injEq, Value.slice.injEq, Addr.mk.injEq] at hC
      obtain ⟨⟨rfl, rfl, _⟩, _, rfl⟩ := hC
      have hle := typP_le (setP_typP hye)
      have hs1 : (i + 1) * v.sz = i * v.sz + v.sz := Nat.succ_mul _ _
      simp only at hle
      have hrun := store_run htie hh (o := off + i * v.sz + offP q v) (by omega) hl h1
      rw [hav] at haa ⊢
      obtain ⟨m', inv', hup'⟩ := layE_ok (G := []) (d := ⟨u, y⟩) (fd := fl) inv hg haa hfresh hown (setCells_poke (cs := cs)) hxs hc hye' hz' (hconv _)
      exact ⟨_, hrun, Res.of (v := .und) inv' (hup.trans hup') rfl hρ hK⟩
    cases hc : flP f t fg with
    | ow c =>
      rw [hc] at h
      obtain ⟨hfit, h⟩ := bif_run h
      simp only [Bool.and_eq_true] at hfit
      refine key c c (.inl ⟨hc, rfl⟩) _ (fun w' => Conv.fits ?_) _ h
      simp only [Fl.fits, Bool.and_eq_true]
      exact hfit
    | owx i' c d =>
      rw [hc] at h
      obtain ⟨hsame, h⟩ := h
      have : i = i' := by simpa [std] using hsame
      subst this
      cases hfit : (Fl.fits v c (Fl.meet v c (setFlP q v d fl)) && Fl.fits v (setFlP q v d fl) (Fl.meet v c (setFlP q v d fl))) with
      | true =>
        rw [hfit] at h
        refine key c d (.inr hc) (.ow (Fl.meet v c (setFlP q v d fl))) (fun w' => Conv.fits ?_) _ h
        simpa [Fl.fits] using hfit
      | false =>
        rw [hfit] at h
        exact key c d (.inr hc) _ (fun w' => Conv.refl _ _ _ _) _ h
    | sh => rw [hc] at h; exact h.elim
    | pr _ _ => rw [hc] at h; exact h.elim
    | ho => rw [hc] at h; exact h.elim

theorem store_ok {τ : TypeId} {u : Ty} (hT : Tie P u τ) {ad x : Operand} {K : AV → St → List Ent → Prop} (inv : Inv W w m σ.h []) (ht : Tmps w m σ a)
    (h : (Pr.op ad fun a => Pr.op x fun v => match a with
      | .addr p ver => Pr.take std v u fun y fl => Pr.resA p ver fun _ => Pr.layAt std p ⟨u, y⟩ fl (.ret .und)
      | _ => .fail : PrA).run S j σ l K) :
    ∃ w', (Instr.storeAt τ (a.eval ad) (a.eval x)).run P w = .ok () w' ∧ Res W w m σ K undef w' := by
  obtain ⟨v, hv, _, h⟩ := op_ok ht h
  obtain ⟨v', hv', _, h⟩ := op_ok ht h
  cases v with
  | addr p ver =>
    obtain ⟨y, fl, cs, S', m', h', l', e, hown, inv', hup, h⟩ := takeV_ok inv hv' h
    have hva : VR1 w m' h' (.addr p ver) (a.eval ad) := hup.le _ _ hv
    rw [e]
    exact lay_ok (σ := { σ with h := h' }) hT inv' hva hown hup rfl h
  | _ => exact h.elim

/-! ### New variables -/
theorem alloc_ok {r : Nat} {τ : TypeId} {u : Ty} (hT : Tie P u τ) {K : AV → St → List Ent → Prop} (inv : Inv W w m σ.h [])
    (h : (Pr.new r (.own true u u.dflt u.own []) (.ret (.addr ⟨r, [], none⟩ 0)) : PrA).run S j σ l K) : Yields P W w m σ K (Instr.alloc τ true (.tuple #[])) := by
  obtain ⟨hr, h⟩ := new_run h
  obtain ⟨m', inv', hup, hv⟩ := newbox_ok (G := []) (S := []) (w' := { w with heap := w.heap.push (.cells (zeros u).toArray τ (0, 0)) }) (e := τ) inv hr (Own.dflt (fits_owned u)) rfl
  simp only [Pr.run] at h
  exact ⟨_, _, alloc_run hT, Res.of (v := .addr ⟨r, [], none⟩ 0) inv' hup hv rfl h⟩

theorem box_ok {r : Nat} {τ : TypeId} {u : Ty} (hT : Tie P u τ) {x : Operand} {K : AV → St → List Ent → Prop} (inv : Inv W w m σ.h []) (ht : Tmps w m σ a)
    (h : (Pr.op x fun v => Pr.take std v u fun y fl => Pr.new r (.own true u y fl []) (.ret (.addr ⟨r, [], none⟩ 0)) : PrA).run S j σ l K) : Yields P W w m σ K (Instr.box τ (a.eval x)) := by
  obtain ⟨v, hv, _, h⟩ := op_ok ht h
  obtain ⟨y, fl, cs, S', m', h', l', e, hown, inv', hup, h⟩ := takeV_ok inv hv h
  obtain ⟨hr, h⟩ := new_run h
  obtain ⟨m'', inv'', hup', hv'⟩ := newbox_ok (σ := { σ with h := h' }) (G := []) (S := S') (w' := { w with heap := w.heap.push (.cells cs.toArray τ (0, 0)) }) (e := τ) inv' hr hown rfl
  simp only [Pr.run] at h
  rw [e]
  exact ⟨_, _, box_run hT (Own.length hown) (Own.one hown), Res.of (σ := σ) (v := .addr ⟨r, [], none⟩ 0) inv'' (hup.trans hup') hv' rfl h⟩

/-! ### Fields -/
theorem typP_snoc : ∀ {f : List Nat} {t u z : Ty} {i : Nat}, typP f t = some u → typP (f ++ [i]) t = some z → ∃ v, u = .agg v ∧ v.fld i = some z ∧ offP (f ++ [i]) t = offP f t + offF v i
  | [], t, u, z, i, h, k => by
    simp only [typP, Option.some.injEq] at h
    subst h
    cases t with
    | agg v =>
      simp only [List.nil_append, typP, Option.bind_eq_some_iff] at k
      obtain ⟨y, hy, k⟩ := k
      simp only [Option.some.injEq] at k
      subst k
      exact ⟨v, rfl, hy, by simp [offP]⟩
    | _ => simp [typP] at k
  | a :: f, .agg t, u, z, i, h, k => by
    simp only [typP, List.cons_append, Option.bind_eq_some_iff] at h k
    obtain ⟨y, hy, h⟩ := h
    obtain ⟨y', hy', k⟩ := k
    rw [hy] at hy'
    cases hy'
    obtain ⟨v, hv, hz, ho⟩ := typP_snoc h k
    refine ⟨v, hv, hz, ?_⟩
    simp only [List.cons_append, offP, hy, Option.getD_some, ho]
    omega
  | _ :: _, .int _, _, _, _, h, _ => by simp [typP] at h
  | _ :: _, .bool, _, _, _, h, _ => by simp [typP] at h
  | _ :: _, .str, _, _, _, h, _ => by simp [typP] at h
  | _ :: _, .list _, _, _, _, h, _ => by simp [typP] at h
  | _ :: _, .arr _ _, _, _, _, h, _ => by simp [typP] at h
  | _ :: _, .prod _ _, _, _, _, h, _ => by simp [typP] at h

theorem drop_take_in {α : Type} {C : List α} {a n b k : Nat} (h : b + k ≤ n) : (((C.drop a).take n).drop b).take k = (C.drop (a + b)).take k := by
  rw [List.drop_take, List.take_take, List.drop_drop, Nat.min_eq_left (by omega)]

theorem RAddr.field {u : Ty} {x : (Ty.agg u).den} {v : Value} {k : Nat} {d : DV} {τ : TypeId} (hT : Tie P (.agg u) τ) (h : RAddr w m (.agg u) x v) (hd : getF u k x = some d) :
    ∃ v', (Instr.fieldAt τ v k).run P w = .ok v' w ∧ RAddr w m d.t d.x v' := by
  obtain ⟨b, off, row, e, fz, rfl, hF, hh, hr⟩ := h
  obtain ⟨c₀, c₁, c₂, S₀, S₁, S₂, h1, h2, hl, ho, _⟩ := Own.foc (w := w) (F := m.F) (t := u) (Own.sh_iff.2 ⟨hr, rfl⟩) hd
  have hsh : flF u k .sh = .sh := flF_sh u k
  rw [hsh] at ho
  obtain ⟨hr', _⟩ := Own.sh_iff.1 ho
  have hl1 : c₁.length = d.t.sz := Own.length ho
  have hle := fld_le (fld_getF hd)
  refine ⟨_, fieldAt_run hT (fld_getF hd), b, off + offF u k, row, e, fz, rfl, hF, hh, ?_⟩
  have : seg row (off + offF u k) d.t.sz = c₁ := by
    rw [← seg_seg (n := (Ty.agg u).sz) (by simp only [Ty.sz]; omega), h1, ← hl, List.drop_left, ← hl1, List.take_left]
  rw [this]
  exact hr'
  where
  flF_sh : ∀ (u : Ty) (k : Nat), flF u k .sh = .sh
    | .prod a b, k => by
      by_cases hk : k = 0
      · subst hk; rfl
      · simp only [flF, kz hk, cond_false]; exact flF_sh b (k - 1)
    | .int _, _ => rfl
    | .bool, _ => rfl
    | .str, _ => rfl
    | .list _, _ => rfl
    | .arr _ _, _ => rfl
    | .agg _, _ => rfl

theorem addr_part {p : Pl} {ver i : Nat} {box : Bool} {t : Ty} {x : t.den} {fl : Fl} {log : Log} {val : Value} (ha : AddrR m (.own box t x fl log) p ver val) (hst : standsA p log ver = true) {u z : Ty} {τ : TypeId} (hT : Tie P u τ)
    (h1 : (Reg.own box t x fl log).typ p = some u) (h2 : (Reg.own box t x fl log).typ (p.part i) = some z) :
    ∃ v', (Instr.fieldAt τ val i).run P w = .ok v' w ∧ AddrR m (.own box t x fl log) (p.part i) ver v' := by
  obtain ⟨r, f, ix⟩ := p
  obtain ⟨hver, ha⟩ := ha
  cases ix with
  | none =>
    obtain ⟨rfl, u', hu', rfl⟩ := ha
    obtain ⟨v, rfl, hz, ho⟩ := typP_snoc (f := f) (i := i) h1 h2
    refine ⟨_, fieldAt_run hT hz, hver, rfl, z, h2, ?_⟩
    simp only [Pl.part]
    rw [ho]
  | some iq =>
    obtain ⟨k, q⟩ := iq
    obtain ⟨u', z', b, off, len, cap, e1, e2, e3, hi, rfl⟩ := ha hst
    have h1' : typP q u' = some u := by simp only [Reg.typ] at h1; rw [show typP f t = some (.list u') from e1] at h1; exact h1
    have h2' : typP (q ++ [i]) u' = some z := by simp only [Reg.typ, Pl.part] at h2; rw [show typP f t = some (.list u') from e1] at h2; exact h2
    obtain ⟨v, rfl, hz, ho⟩ := typP_snoc h1' h2'
    refine ⟨_, fieldAt_run hT hz, hver, fun _ => ⟨u', z, b, off, len, cap, e1, h2', e3, hi, ?_⟩⟩
    rw [ho, ← Nat.add_assoc]

theorem bor_part {p : Pl} {ver i : Nat} {box : Bool} {t : Ty} {x : t.den} {fl : Fl} {log : Log} {val : Value} (hreg : RegOK w m p.r (.own box t x fl log)) (hb : BorR w m (.own box t x fl log) p ver val) (hst : stands p log ver = true) {u z : Ty} {τ : TypeId} (hT : Tie P u τ)
    (h1 : (Reg.own box t x fl log).typ p = some u) (h2 : (Reg.own box t x fl log).typ (p.part i) = some z) :
    ∃ v', (Instr.field τ val i).run P w = .ok v' w ∧ BorR w m (.own box t x fl log) (p.part i) log.length v' := by
  obtain ⟨r, f, ix⟩ := p
  obtain ⟨hver, hb⟩ := hb
  cases ix with
  | none =>
    obtain ⟨u', hu', rfl⟩ := hb hst
    have hu : typP f t = some u' := hu'
    rw [show typP f t = some u from h1] at hu
    cases hu
    obtain ⟨v, rfl, hz, ho⟩ := typP_snoc (f := f) (i := i) h1 h2
    have hle := typP_le (show typP f t = some (.agg v) from h1)
    have hlC : (m.C r).length = t.sz := Own.length hreg.1
    have hfl := fld_le hz
    refine ⟨_, field_run hT hz (by simp only [List.length_take, List.length_drop, hlC, Ty.sz] at *; omega), Nat.le_refl _, fun _ => ⟨z, h2, ?_⟩⟩
    simp only [Pl.part]
    rw [drop_take_in (by simpa [Ty.sz] using hfl), ho]
  | some iq =>
    obtain ⟨k, q⟩ := iq
    have hver' : log.length = ver := by simpa [stands] using hst
    obtain ⟨u', z', b, off, len, cap, e1, e2, e3, hi, hbS, row, e, hrow, hle, rfl⟩ := hb hver'
    have h1' : typP q u' = some u := by simp only [Reg.typ] at h1; rw [show typP f t = some (.list u') from e1] at h1; exact h1
    have h2' : typP (q ++ [i]) u' = some z := by simp only [Reg.typ, Pl.part] at h2; rw [show typP f t = some (.list u') from e1] at h2; exact h2
    rw [h1'] at e2
    cases e2
    obtain ⟨v, rfl, hz, ho⟩ := typP_snoc h1' h2'
    have hfl := fld_le hz
    have hlen : (seg row (off + k * u'.sz + offP q u') v.sz).length = v.sz := seg_length (by simpa [Ty.sz] using hle)
    refine ⟨_, field_run hT hz hlen, Nat.le_refl _, fun _ => ⟨u', z, b, off, len, cap, e1, h2', e3, hi, hbS, row, e, hrow, ?_, ?_⟩⟩
    · rw [ho]; simp only [Ty.sz] at hle; omega
    · rw [ho, ← Nat.add_assoc, seg_seg (by simpa [Ty.sz] using hfl)]

theorem fieldAddr_ok {τ : TypeId} {u : Ty} (hT : Tie P u τ) {x : Operand} {i : Nat} {K : AV → St → List Ent → Prop} (inv : Inv W w m σ.h []) (ht : Tmps w m σ a)
    (h : (Pr.op x fun
      | .addr p ver => Pr.resA p ver fun g => Pr.opt (g.typ p) fun t => bif decide (t = u) then Pr.opt (g.typ (p.part i)) fun _ => .ret (.addr (p.part i) ver) else .fail
      | .raddr w x => Pr.opt (DV.as ⟨w, x⟩ u) fun y => Pr.part u y i fun d => .ret (.raddr d.t d.x)
      | _ => .fail : PrA).run S j σ l K) : Yields P W w m σ K (Instr.fieldAt τ (a.eval x) i) := by
  obtain ⟨v, hv, _, h⟩ := op_ok ht h
  cases v with
  | addr p ver =>
    obtain ⟨box, t, y, fl, log, hg, hst, h⟩ := resA_run h
    have ha : AddrR m (σ.h p.r) p ver (a.eval x) := hv
    rw [hg] at ha
    obtain ⟨t', ht', h⟩ := opt_run h
    obtain ⟨htu, h1⟩ := bif_run h
    have htu := of_decide_eq_true htu
    subst htu
    obtain ⟨z, hz, h2⟩ := opt_run h1
    obtain ⟨v', hrun, ha'⟩ := addr_part ha hst hT ht' hz
    simp only [Pr.run] at h2
    refine ⟨_, _, hrun, Res.of (v := .addr (p.part i) ver) inv (Up.refl _ _ _ _) ?_ rfl h2⟩
    show AddrR m (σ.h (p.part i).r) (p.part i) ver v'
    have : (p.part i).r = p.r := by obtain ⟨r, f, ix⟩ := p; cases ix <;> rfl
    rw [this, hg]
    exact ha'
  | raddr t y =>
    obtain ⟨z, hz, h2⟩ := opt_run h
    cases DV.as_eq hz
    have hr : RAddr w m u z (a.eval x) := hv
    cases u with
    | agg u' =>
      obtain ⟨d, hd, h3⟩ := opt_run h2
      obtain ⟨v', hrun, hr'⟩ := hr.field (P := P) hT hd
      simp only [Pr.run] at h3
      exact ⟨_, _, hrun, Res.of (v := .raddr d.t d.x) inv (Up.refl _ _ _ _) hr' rfl h3⟩
    | _ => exact h2.elim
  | _ => exact h.elim

theorem val_field {u : Ty} {x : (Ty.agg u).den} {cs : List Value} {k : Nat} {d : DV} {F : Nat → Prop} (hr : Rep w F (.agg u) x cs) (hd : getF u k x = some d) : Rep w F d.t d.x ((cs.drop (offF u k)).take d.t.sz) := by
  obtain ⟨c₀, c₁, c₂, S₀, S₁, S₂, h1, h2, hl, ho, _⟩ := Own.foc (w := w) (F := F) (t := u) (Own.sh_iff.2 ⟨hr, rfl⟩) hd
  rw [RAddr.field.flF_sh u k] at ho
  obtain ⟨hr', _⟩ := Own.sh_iff.1 ho
  have hl1 : c₁.length = d.t.sz := Own.length ho
  rw [h1, ← hl, List.drop_left, ← hl1, List.take_left]
  exact hr'

theorem field_ok {τ : TypeId} {u : Ty} (hT : Tie P u τ) {x : Operand} {i : Nat} {K : AV → St → List Ent → Prop} (inv : Inv W w m σ.h []) (ht : Tmps w m σ a)
    (h : (Pr.op x fun
      | .val w x => Pr.opt (DV.as ⟨w, x⟩ u) fun y => Pr.part u y i fun d => .ret (.val d.t d.x)
      | .bor p ver => Pr.resB p ver fun g => Pr.opt (g.typ p) fun t => bif decide (t = u) then Pr.opt (g.typ (p.part i)) fun w => Pr.seen std (p.part i) g w else .fail
      | _ => .fail : PrA).run S j σ l K) : Yields P W w m σ K (Instr.field τ (a.eval x) i) := by
  obtain ⟨v, hv, _, h⟩ := op_ok ht h
  cases v with
  | val t y =>
    obtain ⟨z, hz, h2⟩ := opt_run h
    cases DV.as_eq hz
    obtain ⟨cs, e, hr⟩ : ∃ cs, a.eval x = toV u cs ∧ Rep w m.F u z cs := hv
    cases u with
    | agg u' =>
      obtain ⟨d, hd, h3⟩ := opt_run h2
      have hlen : cs.length = u'.sz := by have := hr.length; simpa [Ty.sz] using this
      rw [e]
      exact ⟨_, _, field_run hT (fld_getF hd) hlen, ret_ok inv (Up.refl _ _ _ _) rfl (val_field hr hd) h3⟩
    | _ => exact h2.elim
  | bor p ver =>
    obtain ⟨box, t, y, fl, log, hg, hst, h⟩ := resB_run h
    have hb : BorR w m (σ.h p.r) p ver (a.eval x) := hv
    have hreg := inv.reg p.r
    rw [hg] at hb hreg
    obtain ⟨t', ht', h⟩ := opt_run h
    obtain ⟨htu, h1⟩ := bif_run h
    have htu := of_decide_eq_true htu
    subst htu
    obtain ⟨z, hz, h2⟩ := opt_run h1
    obtain ⟨v', hrun, hb'⟩ := bor_part hreg hb hst hT ht' hz
    have hr : (p.part i).r = p.r := by obtain ⟨r, f, ix⟩ := p; cases ix <;> rfl
    exact ⟨_, _, hrun, seen_ok inv (by rw [hr]; exact hg) hb' h2⟩
  | _ => exact h.elim

/-! ### Elements -/
theorem inb_ok {i : Int} {n : Nat} (h : inb std i n = true) : 0 ≤ i ∧ i < n := by
  simpa [inb, std] using h

theorem RepL.at {α : Type} {R : α → List Value → Prop} {n : Nat} (hR : ∀ x c, R x c → c.length = n) (d : α) {xs : List α} {i : Nat} {cs : List Value} (h : RepL R xs cs) (hi : i < xs.length) : R (xs.getD i d) ((cs.drop (i * n)).take n) := by
  obtain ⟨c₀, c₁, c₂, rfl, hl, hx, _⟩ := RepL.focus hR d h hi
  have := hR _ _ hx
  rw [← hl, List.drop_left, ← this, List.take_left]
  exact hx

theorem index_ok {τ : TypeId} {x y : Operand} {K : AV → St → List Ent → Prop} {u : Ty} (hT : T τ = some u → Tie P u τ) (hu : T τ = some u) (inv : Inv W w m σ.h []) (ht : Tmps w m σ a)
    (h : (Pr.op x fun x => Pr.op y fun
      | .val (.int _) n => bif decide (T τ = some (match x with | .val t _ => t | _ => .bool)) then Pr.index std x n else .fail
      | _ => .fail : PrA).run S j σ l K) : Yields P W w m σ K (Instr.index τ (a.eval x) (a.eval y)) := by
  obtain ⟨v, hv, _, h⟩ := op_ok ht h
  obtain ⟨v', hv', _, h⟩ := op_ok ht h
  cases v' with
  | val t n =>
    cases t with
    | int k =>
      obtain ⟨cs, e, hr⟩ : ∃ cs, a.eval y = toV (.int k) cs ∧ Rep w m.F (.int k) n cs := hv'
      obtain ⟨rfl, _⟩ := hr
      obtain ⟨htu, h⟩ := bif_run h
      have htu := of_decide_eq_true htu
      cases v with
      | val t s =>
        have htt : t = u := by rw [hu] at htu; exact (Option.some.inj htu).symm
        subst htt
        obtain ⟨cs, e', hr⟩ : ∃ cs, a.eval x = toV t cs ∧ Rep w m.F t s cs := hv
        rw [e, e']
        cases t with
        | str =>
          obtain ⟨hb, h⟩ := h
          obtain ⟨h0, h1⟩ := inb_ok hb
          obtain ⟨rfl, _⟩ := hr
          refine ⟨_, _, indexStr_run (hT hu) h0 h1, ?_⟩
          refine Res.of (v := .val (.int .u8) _) inv (Up.refl _ _ _ _) ⟨[_], rfl, rfl, ?_⟩ rfl h
          exact wrap_byte _
        | arr n' u' =>
          obtain ⟨hb, h⟩ := h
          obtain ⟨h0, h1⟩ := inb_ok hb
          obtain ⟨hl, hr⟩ := hr
          have hlen : cs.length = n' * u'.sz := by rw [RepL.length (fun x c h => Rep.length h) hr, hl]
          have hi : n.toNat < List.length (α := u'.den) s := by rw [hl]; omega
          exact ⟨_, _, indexArr_run (hT hu) hlen h0 h1, ret_ok inv (Up.refl _ _ _ _) rfl (RepL.at (fun x c h => Rep.length h) u'.dflt hr hi) h⟩
        | _ => exact h.elim
      | _ => exact h.elim
    | _ => exact h.elim
  | _ => exact h.elim
  where
  wrap_byte (b : UInt8) : IntKind.u8.wrap (b.toNat : Int) = b.toNat := by
    have := b.toNat_lt
    simp [IntKind.wrap, IntKind.bits, IntKind.signed]
    omega

end
end Go.Proofs.Ytllcebmbaejlhaa.Ab
