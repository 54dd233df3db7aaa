/- Literals. -/
import Derived.Test.YtllcebmbaejlhaaAbSlice
namespace Go.Proofs.Ytllcebmbaejlhaa.Ab
open Go

section
variable {P : Program} {T : Types} {W : Nat → Prop} {w : World} {m : Mem} {h : Nat → Reg} {G : List Nat}

/-- Less in hand. -/
theorem Inv.less {G' : List Nat} (inv : Inv W w m h G) (hc : ∀ b, G'.count b ≤ G.count b) : Inv W w m h G' := by
  have hm : ∀ b, b ∈ G' → b ∈ G := fun b hb => List.count_pos_iff.1 (Nat.lt_of_lt_of_le (List.count_pos_iff.2 hb) (hc b))
  exact ⟨inv.reg, inv.nodup, inv.disj, List.nodup_iff_count.2 fun b => Nat.le_trans (hc b) (List.nodup_iff_count.1 inv.gdup b), fun r b hb hb' => inv.gdis r b hb (hm b hb'), inv.lt, fun b hb => inv.glt b (hm b hb), inv.flt, inv.new⟩

/-- A value in hand is taken for less. -/
theorem fit_hand {t : Ty} {g f : Fl} {y : t.den} {cs : List Value} {S : List Nat} (inv : Inv W w m h (S ++ G)) (ho : Own w m.F t g y cs S) (hf : Fl.fits t g f = true) :
    ∃ m' S', Inv W w m' h (S' ++ G) ∧ Up W w m h w m' h ∧ Own w m'.F t f y cs S' := by
  have hnd := (List.nodup_append.1 inv.gdup)
  obtain ⟨S', hs, hk⟩ := fits_own hf ho hnd.1
  let F' : Nat → Prop := fun b => m.F b ∨ (b ∈ S ∧ b ∉ S')
  obtain ⟨inv', hup⟩ := letgo_ok inv (hs.append (List.Sublist.refl G)) (F' := F') (fun b hb => .inl hb) (fun b hb => by
    rcases hb with hb | ⟨hb, hn⟩
    · exact .inl hb
    · refine .inr ⟨List.mem_append_left _ hb, fun hm => ?_⟩
      rcases List.mem_append.1 hm with hm | hm
      · exact hn hm
      · exact hnd.2.2 b hb b hm rfl)
  exact ⟨_, S', inv', hup, hk F' ⟨fun b hb => .inl hb, fun b hb hn => .inr ⟨hb, hn⟩⟩⟩

theorem lay_mid {c₀ c₁ c₂ c : List Value} {o : Nat} (h0 : c₀.length = o) (h1 : c₁.length = c.length) : lay (c₀ ++ (c₁ ++ c₂)) o c = c₀ ++ (c ++ c₂) := by
  subst h0
  simp only [lay, List.take_left]
  congr 2
  rw [← h1, ← List.append_assoc, ← List.length_append, List.drop_left]

end

section
variable {P : Program} {T : Types} {W : Nat → Prop} {w : World} {S : Specs} {j : Nat} {a : Act}

theorem Tmps.up {m m' : Mem} {σ : St} {h' : Nat → Reg} {w' : World} (ht : Tmps w m σ a) (hup : Up W w m σ.h w' m' h') : Tmps w' m' { σ with h := h' } a := fun t => hup.le.all (ht t)

theorem fld_noprod {p : Ty} {τ : TypeId} (h : Tie P (.agg p) τ) {k : Nat} {u : Ty} (hk : p.fld k = some u) : ∀ a b, u ≠ .prod a b := by
  obtain ⟨fs, hfs, ht⟩ := h.agg
  obtain ⟨f, _, _, hu⟩ := ht.fld hk
  exact hu.noprod

theorem parts_ok {τ : TypeId} {t : Ty} (hT : Tie P (.agg t) τ) {k : t.den → Fl → PrA} {K : AV → St → List Ent → Prop} : ∀ {ps : List (Nat × Operand)} {m : Mem} {σ : St} {l : List Ent} {x : t.den} {fl : Fl} {cs : List Value} {Sx : List Nat},
    Inv W w m σ.h (Sx ++ []) → Tmps w m σ a → Own w m.F t fl x cs Sx → (Pr.parts std t ps x fl k).run S j σ l K →
    ∃ x' fl' cs' S' m' h' l', Own w m'.F t fl' x' cs' S' ∧ Inv W w m' h' (S' ++ []) ∧ Up W w m σ.h w m' h' ∧
      (∀ place : Nat → Option (Nat × Nat), (∀ i u, t.fld i = some u → place i = some (offF t i, u.sz)) → Instr.fill place cs.toArray (ps.map fun (i, v) => (i, a.eval v)) = some cs'.toArray) ∧ (k x' fl').run S j { σ with h := h' } l' K
  | [], m, σ, l, x, fl, cs, Sx, inv, ht, ho, h => ⟨x, fl, cs, Sx, m, σ.h, l, ho, inv, Up.refl _ _ _ _, fun _ _ => rfl, h⟩
  | (i, v) :: ps, m, σ, l, x, fl, cs, Sx, inv, ht, ho, h => by
    obtain ⟨av, hv, l₁, h1⟩ := op_ok ht h
    obtain ⟨u, hu, h2⟩ := opt_run h1
    obtain ⟨y, g, c, S₁, m₁, h₁, l₂, e, hy, inv₁, hup₁, h3⟩ := takeV_ok inv hv h2
    obtain ⟨x₂, hx₂, h4⟩ := opt_run h3
    have ho₁ : Own w m₁.F t fl x cs Sx := Own.mono hup₁.st (fun _ _ => rfl) ho
    obtain ⟨y₀, hg⟩ := getF_fld x hu
    obtain ⟨c₀, c₁, c₂, T₀, T₁, T₂, rfl, rfl, hl, hc₁, hset⟩ := Own.foc ho₁ hg
    obtain ⟨x₃, hx₃, ho₂⟩ := hset w m₁.F y g c S₁ (Stays.refl _ _) (fun _ _ => rfl) hy
    have hx₃' : setF t i x ⟨u, y⟩ = some x₃ := hx₃
    rw [hx₂] at hx₃'
    cases hx₃'
    have inv₂ : Inv W w m₁ h₁ ((T₀ ++ (S₁ ++ T₂)) ++ []) := inv₁.less fun b => by
      simp only [List.count_append]; omega
    have hlc : c₁.length = c.length := (Own.length hc₁).trans (Own.length hy).symm
    obtain ⟨x', fl', cs', S', m', h', l', r1, r2, r3, r4, r5⟩ := parts_ok hT (σ := { σ with h := h₁ }) (x := x₂) inv₂ (ht.up hup₁) ho₂ h4
    refine ⟨x', fl', cs', S', m', h', l', r1, r2, hup₁.trans r3, fun place hp => ?_, r5⟩
    have hcell : (a.eval v).cells = c.toArray := by rw [e]; exact toV_cells (Own.length hy) (Own.one hy) (fld_noprod hT hu)
    rw [List.map_cons, fill_step (hp i u hu) hcell (Own.length hy) (by
      have := Own.length hc₁
      have hcl : c₁.length = u.sz := this
      simp only [List.length_append]; omega), lay_mid hl hlc]
    exact r4 place hp

theorem build_ok {r : Nat} {τ : TypeId} {u : Ty} (hT : Tie P (.agg u) τ) {ps : Array (Nat × Operand)} {m : Mem} {σ : St} {l : List Ent} {K : AV → St → List Ent → Prop} (inv : Inv W w m σ.h []) (ht : Tmps w m σ a)
    (h : (Pr.parts std u ps.toList u.dflt u.own fun x fl => bif fl.plain then .ret (.val (.agg u) x) else Pr.fresh r (.agg u) x fl : PrA).run S j σ l K) :
    Yields P W w m σ K (Instr.build τ (ps.map fun (i, x) => (i, a.eval x))) := by
  obtain ⟨x', fl', cs', S', m', h', l', r1, r2, r3, r4, r5⟩ := parts_ok hT (Sx := []) inv ht (Own.dflt (fits_owned u)) h
  have hrun := build_run (w := w) hT (parts := ps.map fun (i, x) => (i, a.eval x)) (cells := cs') (fun place hp => by
    rw [Array.toList_map]
    exact r4 place hp)
  cases hpl : fl'.plain with
  | true =>
    rw [hpl] at r5
    obtain ⟨hr, rfl⟩ := Own.plain hpl r1
    exact ⟨_, w, hrun, ret_ok (t := .agg u) (σ := { σ with h := h' }) r2 r3 rfl hr r5⟩
  | false =>
    rw [hpl] at r5
    exact ⟨_, w, hrun, fresh_ok (t := .agg u) (σ := { σ with h := h' }) r2 r3 rfl r1 r5⟩

/-! ### Elements -/
theorem put_eq {β : Type} : ∀ {l : List β} {i : Nat} {y z : β}, nth l i = some z → i < l.length ∧ put l i y = l.set i y
  | [], i, y, z, h => by simp [nth] at h
  | x :: l, i, y, z, h => by
    by_cases hi : i = 0
    · subst hi; exact ⟨by simp, rfl⟩
    · simp only [nth, kz hi, cond_false] at h
      obtain ⟨h1, h2⟩ := put_eq (y := y) h
      obtain ⟨k, rfl⟩ : ∃ k, i = k + 1 := ⟨i - 1, by omega⟩
      simp only [Nat.add_sub_cancel] at h1 h2
      exact ⟨by simpa using h1, by simp [put, h2]⟩

theorem fill_eq {β : Type} : ∀ (n : Nat) (x : β), fill n x = List.replicate n x
  | 0, _ => rfl
  | n + 1, x => by simp [fill, List.replicate_succ, fill_eq n x]

theorem OwnL.put {α : Type} {R : α → List Value → List Nat → Prop} {n : Nat} (hR : ∀ x c S, R x c S → c.length = n) (d : α) {xs : List α} {i : Nat} {cs : List Value} {S : List Nat} (h : OwnL R xs cs S) (hi : i < xs.length) {y : α} {c : List Value} {S' : List Nat} (hy : R y c S') :
    ∃ S'', OwnL R (xs.set i y) (lay cs (i * n) c) S'' ∧ (∀ b, S''.count b ≤ S.count b + S'.count b) ∧ i * n + n ≤ cs.length := by
  obtain ⟨c₀, c₁, c₂, S₀, S₁, S₂, rfl, rfl, hl, h0, h1, h2⟩ := OwnL.split3 hR d h hi
  refine ⟨S₀ ++ (S' ++ S₂), ?_, fun b => by simp only [List.count_append]; omega, ?_⟩
  · rw [lay_mid hl ((hR _ _ _ h1).trans (hR _ _ _ hy).symm)]
    refine OwnL.cat3 d (by simpa using hi) (by rw [List.take_set_of_le (Nat.le_refl _)]; exact h0) ?_ (by rw [List.drop_set_of_lt (by omega)]; exact h2)
    have : (xs.set i y).getD i d = y := by simp [List.getD, hi]
    rw [this]
    exact hy
  · have := hR _ _ _ h1
    simp only [List.length_append]; omega

theorem elems_ok {u : Ty} {f : Fl} (hne : ∀ a b, u ≠ .prod a b) {k : List u.den → PrA} {K : AV → St → List Ent → Prop} : ∀ {ps : List (Nat × Operand)} {m : Mem} {σ : St} {l : List Ent} {xs : List u.den} {cs : List Value} {Sx : List Nat},
    Inv W w m σ.h (Sx ++ []) → Tmps w m σ a → OwnL (Own w m.F u f) xs cs Sx → (Pr.elems std u f ps xs k).run S j σ l K →
    ∃ xs' cs' S' m' h' l', xs'.length = xs.length ∧ cs'.length = cs.length ∧ OwnL (Own w m'.F u f) xs' cs' S' ∧ Inv W w m' h' (S' ++ []) ∧ Up W w m σ.h w m' h' ∧
      Instr.fill (fun i => some (i * u.sz, u.sz)) cs.toArray (ps.map fun (i, v) => (i, a.eval v)) = some cs'.toArray ∧ (k xs').run S j { σ with h := h' } l' K
  | [], m, σ, l, xs, cs, Sx, inv, ht, ho, h => ⟨xs, cs, Sx, m, σ.h, l, rfl, rfl, ho, inv, Up.refl _ _ _ _, rfl, h⟩
  | (i, v) :: ps, m, σ, l, xs, cs, Sx, inv, ht, ho, h => by
    obtain ⟨av, hv, l₁, h1⟩ := op_ok ht h
    obtain ⟨y, g, c, S₁, m₁, h₁, l₂, e, hy, inv₁, hup₁, h3⟩ := takeV_ok inv hv h1
    obtain ⟨hfit, h4⟩ := bif_run h3
    obtain ⟨z, hz, h5⟩ := opt_run h4
    obtain ⟨m₂, S₂, inv₂, hup₂, hy₂⟩ := fit_hand inv₁ hy hfit
    have ho₂ : OwnL (Own w m₂.F u f) xs cs Sx := OwnL.mono (fun x c S _ hx => Own.mono (hup₁.trans hup₂).st (fun _ _ => rfl) hx) ho
    obtain ⟨hi, hput⟩ := put_eq (y := y) hz
    obtain ⟨S₃, ho₃, hcnt, hle⟩ := OwnL.put (fun x c S h => Own.length h) u.dflt ho₂ hi hy₂
    have inv₃ : Inv W w m₂ h₁ (S₃ ++ []) := inv₂.less fun b => by
      have := hcnt b
      simp only [List.count_append] at this ⊢; omega
    rw [hput] at h5
    obtain ⟨xs', cs', S', m', h', l', r0, r00, r1, r2, r3, r4, r5⟩ := elems_ok (σ := { σ with h := h₁ }) hne inv₃ (ht.up (hup₁.trans hup₂)) ho₃ h5
    have hcell : (a.eval v).cells = c.toArray := by rw [e]; exact toV_cells (Own.length hy) (Own.one hy) hne
    refine ⟨xs', cs', S', m', h', l', by rw [r0]; simp, by rw [r00, lay_length (by rw [Own.length hy]; exact hle)], r1, r2, (hup₁.trans hup₂).trans r3, ?_, r5⟩
    rw [List.map_cons, fill_step rfl hcell (Own.length hy) hle]
    exact r4

theorem common_run {u : Ty} {k : Fl → PrA} {m : Mem} {σ : St} {K : AV → St → List Ent → Prop} : ∀ {ps : List (Nat × Operand)} {f : Fl} {l : List Ent}, (Pr.common u ps f k).run S j σ l K → ∃ f' l', (k f').run S j σ l' K
  | [], f, l, h => ⟨f, l, h⟩
  | (i, v) :: ps, f, l, h => by
    have key : ∀ {av : AV} {l : List Ent}, (match av with
      | .bor p _ => .reg p.r fun
        | .own _ t _ fl _ =>
          match p.ix with
          | none => Pr.common u ps (Fl.meet u f (flP p.f t fl)) k
          | some _ => .fail
        | _ => .fail
      | .emp => Pr.common u ps f k
      | _ => Pr.common u ps (Fl.meet u f .sh) k : PrA).run S j σ l K → ∃ f' l', (k f').run S j σ l' K := by
      intro av l h
      cases av with
      | bor p ver =>
        simp only [Pr.run] at h
        cases hg : σ.h p.r with
        | own box t x fl log =>
          rw [hg] at h
          cases hix : p.ix with
          | none => simp only [hix] at h; exact common_run (m := m) h
          | some _ => simp only [hix] at h; exact h.elim
        | _ => rw [hg] at h; exact h.elim
      | emp => exact common_run (m := m) h
      | _ => exact common_run (m := m) h
    cases v with
    | tmp t => exact key (av := σ.ρ t) h
    | const v => exact key (av := cst v) h
    | func f => exact key (av := .rclo f []) h
    | global g => exact key (av := .un) h

theorem buildSlice_ok {r n : Nat} {τ : TypeId} {u : Ty} (hT : Tie P (.list u) τ) {ps : Array (Nat × Operand)} {m : Mem} {σ : St} {l : List Ent} {K : AV → St → List Ent → Prop} (inv : Inv W w m σ.h []) (ht : Tmps w m σ a)
    (h : (Pr.common u ps.toList u.own fun f => bif Fl.fits u f f && decide (n * u.sz ≤ 16777216) then Pr.elems std u f ps.toList (fill n u.dflt) fun xs => Pr.fresh r (.list u) xs (.ow f) else .fail : PrA).run S j σ l K) :
    Yields P W w m σ K (Instr.buildSlice τ n (ps.map fun (i, x) => (i, a.eval x))) := by
  obtain ⟨f, l₁, h1⟩ := common_run (m := m) h
  obtain ⟨hfit, h2⟩ := bif_run h1
  simp only [Bool.and_eq_true, decide_eq_true_eq] at hfit
  rw [fill_eq] at h2
  obtain ⟨e, he, hu⟩ := hT.list
  obtain ⟨i⟩ := hu.info
  obtain ⟨xs', cs', S', m', h', l', r0, r00, r1, r2, r3, r4, r5⟩ := elems_ok (Sx := []) hu.noprod inv ht (OwnL.rep (Own.dflt hfit.1) n) h2
  simp only [List.length_replicate] at r0
  have hl' : cs'.length = n * u.sz := by rw [r00]; simp [zeros_length]
  obtain ⟨e', hrun⟩ := buildSlice_run (w := w) hT hfit.2 (parts := ps.map fun (i, x) => (i, a.eval x)) (cells := cs') (by rw [Array.toList_map]; exact r4)
  have hnb : n ≤ 16777216 := Nat.le_trans (Nat.le_mul_of_pos_right n i.szpos) hfit.2
  have hseg : seg cs'.toArray 0 (xs'.length * u.sz) = cs' := by
    rw [r0, ← hl']
    simp [seg]
  obtain ⟨inv', hup, hown⟩ := newslice_ok (G := []) (S' := S') (c := f) (xs := xs') (cap := n) (e := e') (row := cs'.toArray) (w' := { w with heap := w.heap.push (.cells cs'.toArray e' (0, 0)) }) r2 rfl rfl rfl
    (by rw [r0]; exact Nat.le_refl _) (by simp [hl']) (by rw [r0]; simp only [big]; omega) (by rw [hseg]; exact r1)
  rw [r0] at hown
  exact ⟨_, _, hrun, fresh_ok (σ := { σ with h := h' }) inv' (r3.trans hup) rfl hown r5⟩

theorem buildArr_ok {n : Nat} {τ : TypeId} {u : Ty} (hT : Tie P (.arr n u) τ) {ps : Array (Nat × Operand)} {m : Mem} {σ : St} {l : List Ent} {K : AV → St → List Ent → Prop} (inv : Inv W w m σ.h []) (ht : Tmps w m σ a)
    (h : (bif u.flat then Pr.elems std u u.own ps.toList (fill n u.dflt) fun xs => .ret (.val (.arr n u) xs) else .fail : PrA).run S j σ l K) :
    Yields P W w m σ K (Instr.build τ (ps.map fun (i, x) => (i, a.eval x))) := by
  obtain ⟨hflat, h2⟩ := bif_run h
  rw [fill_eq] at h2
  obtain ⟨e, he, hu⟩ := hT.arr
  obtain ⟨xs', cs', S', m', h', l', r0, r00, r1, r2, r3, r4, r5⟩ := elems_ok (Sx := []) hu.noprod inv ht (OwnL.rep (Own.dflt (fits_owned u)) n) h2
  simp only [List.length_replicate] at r0
  have hrun := buildArr_run (w := w) hT (parts := ps.map fun (i, x) => (i, a.eval x)) (cells := cs') (by rw [Array.toList_map]; exact r4)
  have hr : Rep w m'.F (.arr n u) xs' cs' := ⟨r0, RepL.ofOwnL (fun x c S' _ hx => flat_rep hflat (Own.rep (F' := fun _ => True) (fun _ _ => trivial) (flat_noho hflat) (fun _ _ => trivial) hx)) r1⟩
  obtain ⟨inv', hup⟩ := letgo_ok (G' := []) r2 (List.nil_sublist _) (F' := m'.F) (fun b hb => hb) (fun b hb => .inl hb)
  exact ⟨_, w, hrun, ret_ok (t := .arr n u) (σ := { σ with h := h' }) inv' r3 rfl hr r5⟩
  where
  flat_noho : ∀ {u : Ty}, u.flat = true → u.own.noho = true
    | .int _, _ => rfl
    | .bool, _ => rfl
    | .str, _ => rfl
    | .list _, h => by simp [Ty.flat] at h
    | .arr _ _, _ => rfl
    | .prod a b, h => by
      simp only [Ty.flat, Bool.and_eq_true] at h
      simp [Ty.own, Fl.noho, flat_noho h.1, flat_noho h.2]
    | .agg u, h => flat_noho (u := u) h

/-- A region is taken in hand as a whole. -/
theorem region_out {m : Mem} {h : Nat → Reg} {G : List Nat} {r : Nat} {box : Bool} {t : Ty} {x : t.den} {fl : Fl} {log : Log} (inv : Inv W w m h G) (hr : h r = .own box t x fl log) :
    Inv W w (m.put m.F r (m.C r) (m.B r) []) (upd h r .dead) (boxed box (m.B r) ++ m.S r ++ G) ∧ Up W w m h w (m.put m.F r (m.C r) (m.B r) []) (upd h r .dead) := by
  have hc : Change W w m h G r w m.F (m.C r) (m.B r) [] .dead (boxed box (m.B r) ++ m.S r ++ G) := by
    have hall := inv.all r
    rw [hr, own1_eq] at hall
    refine Change.still inv ?_ (fun b hb => ?_) trivial
    · simpa [own1] using hall
    · rw [hr, own1_eq]; simpa [own1] using hb
  refine ⟨hc.inv inv, hc.up inv ?_⟩
  rw [hr]
  exact ⟨fun p ver v _ _ => trivial, fun p ver v _ _ => trivial, fun v _ => trivial⟩

theorem indexArr_at {n : Nat} {u : Ty} {τ : TypeId} (h : Tie P (.arr n u) τ) {b : Nat} {k : IntKind} {i : Int} (h0 : 0 ≤ i) (h1 : i < n) :
    (Instr.indexAt τ (.pointer (some ⟨b, 0, none⟩)) (.int k i)).run P w = .ok (.pointer (some ⟨b, i.toNat * u.sz, none⟩)) w := by
  obtain ⟨e, he, hu⟩ := h.arr
  simp [Instr.indexAt, run_underlying he, Instr.sureAddr, asIntOf, h0, h1, sizeOf_run hu, add_lit]

/-- An element of an array's variable, which is let go for good. -/
theorem idxArr_ok {m : Mem} {σ : St} {l : List Ent} {K : AV → St → List Ent → Prop} {n : Nat} {u : Ty} {τ : TypeId} (hT : Tie P (.arr n u) τ) {p : Pl} {ver : Nat} {val : Value} {k : IntKind} {i : Int} (inv : Inv W w m σ.h []) (hv : VR w m σ.h (.addr p ver) val)
    (h : (Pr.idx std (.addr p ver) (.arr n u) i).run S j σ l K) : Yields P W w m σ K (Instr.indexAt τ val (.int k i)) := by
  simp only [Pr.idx] at h
  obtain ⟨box, t, xs, fl, log, hg, hst, h2⟩ := resA_run h
  have ha : AddrR m (σ.h p.r) p ver val := hv
  rw [hg] at ha
  obtain ⟨r, f, ix⟩ := p
  cases f with
  | cons _ _ => exact h2.elim
  | nil =>
    cases ix with
    | some _ => exact h2.elim
    | none =>
      obtain ⟨ys, hys, h3⟩ := opt_run h2
      cases DV.as_eq hys
      obtain ⟨hpl, h4⟩ := bif_run h3
      obtain ⟨hb, h5⟩ := h4
      obtain ⟨h0, h1⟩ := inb_ok hb
      obtain ⟨_, rfl, u', hu', hval⟩ := ha
      have hreg := inv.reg r
      have hg' : σ.h r = .own true (.arr n u) ys fl log := hg
      rw [hg'] at hreg
      obtain ⟨e₀, he₀⟩ := hreg.2 rfl
      obtain ⟨hrep, hS⟩ := Own.plain hpl (show Own w m.F (.arr n u) fl ys (m.C r) (m.S r) from hreg.1)
      obtain ⟨inv', hup'⟩ := region_out inv hg'
      have hnd := inv'.gdup
      obtain ⟨inv'', hup''⟩ := letgo_ok (G' := []) inv' (List.nil_sublist _) (F' := fun b => m.F b ∨ b = m.B r) (fun b hb => .inl hb) (fun b hb => hb.imp id (fun hb => ⟨by simp [boxed, hb], by simp⟩))
      have hval' : val = .pointer (some ⟨m.B r, 0, none⟩) := hval
      rw [hval']
      refine ⟨_, w, indexArr_at hT h0 h1, Res.of (v := .raddr u (List.getD (α := u.den) ys i.toNat u.dflt)) inv'' (hup'.trans hup'') ?_ rfl h5⟩
      obtain ⟨hl, hr⟩ := hrep
      have hlen : i.toNat < List.length (α := u.den) ys := by rw [hl]; omega
      have hel := RepL.at (fun x c h => Rep.length h) u.dflt hr hlen
      exact ⟨m.B r, i.toNat * u.sz, _, e₀, (0, 0), rfl, .inr rfl, he₀, Rep.mono (fun b hb => ⟨.inl hb, rfl⟩) hel⟩

end
end Go.Proofs.Ytllcebmbaejlhaa.Ab
