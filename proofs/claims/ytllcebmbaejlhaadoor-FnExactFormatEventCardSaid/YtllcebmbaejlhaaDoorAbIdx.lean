/- Elements' addresses. -/
import Derived.Test.YtllcebmbaejlhaaDoorAbBin
namespace Go.Proofs.YtllcebmbaejlhaaDoor.Ab
open Go

section
variable {P : Program} {T : Types} {W : Nat → Prop} {w : World} {m : Mem} {σ : St} {S : Specs} {j : Nat} {l : List Ent} {a : Act}

/-- An element of a slice that nobody writes. -/
theorem rep_index {u : Ty} {τ : TypeId} (hT : Tie P (.list u) τ) {xs : List u.den} {cs : List Value} (hr : Rep w m.F (.list u) xs cs) {k : IntKind} {i : Int} (h0 : 0 ≤ i) (h1 : i < xs.length) :
    ∃ v', (Instr.indexAt τ (toV (.list u) cs) (.int k i)).run P w = .ok v' w ∧ RAddr w m u (xs.getD i.toNat u.dflt) v' := by
  obtain ⟨A, cap, rfl, hb, hx⟩ := hr
  have hi : i.toNat < xs.length := by omega
  rcases hx with rfl | ⟨b, off, row, e, fz, rfl, hF, hh, hr⟩
  · simp at hi
  refine ⟨_, indexAt_run hT h0 h1, b, off + i.toNat * u.sz, row, e, fz, rfl, hF, hh, ?_⟩
  have := RepL.at (fun x c h => Rep.length h) u.dflt hr hi
  rwa [seg_seg (by
    have : (i.toNat + 1) * u.sz ≤ xs.length * u.sz := Nat.mul_le_mul_right _ hi
    rw [Nat.succ_mul] at this
    exact this)] at this

theorem bor_at {p : Pl} {ver : Nat} {box : Bool} {t : Ty} {x : t.den} {fl fd : Fl} {log : Log} {val : Value} (hreg : RegOK w m p.r (.own box t x fl log)) (hb : BorR w m (.own box t x fl log) p ver val) (hst : stands p log ver = true) {d : DV}
    (hat : (Reg.own box t x fl log).at std p = some (d, fd)) : ∃ cs S', val = toV d.t cs ∧ Own w m.F d.t fd d.x cs S' ∧ S'.Sublist (m.S p.r) := by
  obtain ⟨r, f, ix⟩ := p
  cases ix with
  | none =>
    obtain ⟨_, _, _, _, _, e, hd, rfl⟩ := at_none rfl hat
    cases e
    obtain ⟨u', hu', rfl⟩ := hb.2 hst
    rw [typP_getP hd] at hu'
    cases hu'
    obtain ⟨S₀, S₁, S₂, hS, ho, _⟩ := region_path hreg.1 hd
    refine ⟨_, S₁, rfl, ho, ?_⟩
    show S₁.Sublist (m.S r)
    rw [hS]
    exact (List.sublist_append_left _ _).trans (List.sublist_append_right _ _)
  | some iq =>
    obtain ⟨i, q⟩ := iq
    obtain ⟨_, _, _, _, _, v', xs, c, e, hxs, hc, hd, rfl⟩ := at_some hat
    cases e
    have hver : log.length = ver := by simpa [stands] using hst
    obtain ⟨u', z, b, off, len, cap, e1, e2, e3, hi, _, row, e, hrow, _, rfl⟩ := hb.2 hver
    rw [typP_getP hxs] at e1
    cases e1
    rw [typP_getP hd] at e2
    cases e2
    have hlen := hd_len hreg.1 hxs (.inl (by rw [hc]; rfl)) e3
    subst hlen
    obtain ⟨b', off', cap', row', e', S₀, S₁, S₂, U, V, hC, hS, hh, hsz, hel, _⟩ := region_elem hreg.1 hxs (.inl ⟨hc, rfl⟩) hi
    rw [e3] at hC
    simp only [Option.some.injEq, Value.slice.injEq, Addr.mk.injEq] at hC
    obtain ⟨⟨rfl, rfl, _⟩, _, rfl⟩ := hC
    rw [hrow] at hh
    simp only [Option.some.injEq, Obj.cells.injEq] at hh
    obtain ⟨rfl, rfl, _⟩ := hh
    obtain ⟨T₀, T₁, T₂, hT, hpart, _⟩ := region_path hel hd
    have hle := offP_le hel hd
    rw [seg_drop_take hle] at hpart
    refine ⟨_, T₁, rfl, hpart, ?_⟩
    show T₁.Sublist (m.S r)
    rw [hS, hT]
    have h1 : T₁.Sublist (T₀ ++ (T₁ ++ T₂)) := (List.sublist_append_left _ _).trans (List.sublist_append_right _ _)
    have h2 : (T₀ ++ (T₁ ++ T₂)).Sublist (b :: (S₀ ++ (T₀ ++ (T₁ ++ T₂) ++ S₂))) := ((List.sublist_append_left _ _).trans (List.sublist_append_right _ _)).trans (List.sublist_cons_self _ _)
    exact (h1.trans h2).trans ((List.sublist_append_left _ _).trans (List.sublist_append_right _ _))

theorem indexAddr_ok {τ : TypeId} {u : Ty} (hT : Tie P (.list u) τ) {v : AV} {val : Value} {k : IntKind} {i : Int} {K : AV → St → List Ent → Prop} (inv : Inv W w m σ.h []) (hv : VR w m σ.h v val)
    (hty : ∀ u' xs, v = .val (.list u') xs → u' = u) (htb : ∀ p ver, v = .bor p ver → (σ.h p.r).typ p = some (.list u))
    (h : (Pr.indexAddr std v i).run S j σ l K) : Yields P W w m σ K (Instr.indexAt τ val (.int k i)) := by
  cases v with
  | val t xs =>
    cases t with
    | list u' =>
      cases hty u' xs rfl
      obtain ⟨cs, rfl, hr⟩ := val_inv hv
      obtain ⟨hb, h⟩ := h
      obtain ⟨h0, h1⟩ := inb_ok hb
      obtain ⟨v', hrun, hra⟩ := rep_index (P := P) hT hr (k := k) h0 h1
      exact ⟨_, _, hrun, Res.of (v := .raddr u _) inv (Up.refl _ _ _ _) hra rfl h⟩
    | _ => exact h.elim
  | bor p ver =>
    simp only [Pr.indexAddr] at h
    obtain ⟨box, t, y, fl, log, hg, hst, h⟩ := resB_run h
    have hb : BorR w m (σ.h p.r) p ver val := hv
    have hreg := inv.reg p.r
    have htyp := htb p ver rfl
    rw [hg] at hb hreg htyp
    obtain ⟨r, f, ix⟩ := p
    cases ix with
    | none =>
      obtain ⟨u', xs, hxs, h⟩ := list_run h
      have : typP f t = some (.list u) := htyp
      rw [typP_getP hxs] at this
      cases this
      obtain ⟨cs, S', e, ho, _⟩ := bor_at hreg hb hst (d := ⟨.list u, xs⟩) (fd := flP f t fl) (by simp [Reg.at, hxs])
      have hC : cs = ((m.C r).drop (offP f t)).take 1 := by
        obtain ⟨u'', hu'', e'⟩ := hb.2 hst
        have hu3 : typP f t = some u'' := hu''
        rw [typP_getP hxs] at hu3
        cases hu3
        rw [e] at e'
        have hl := Own.length ho
        have hlC : (m.C r).length = t.sz := Own.length hreg.1
        have hle := typP_le (typP_getP hxs)
        match cs, hl with
        | [c], _ =>
          simp only [toV, Ty.isAgg, List.headD_cons] at e'
          have hlt : offP f t < (m.C r).length := by simp only [Ty.sz] at hle; omega
          have hone : (Ty.list u).sz = 1 := rfl
          rw [hone, List.drop_eq_getElem_cons hlt, List.take_succ_cons, List.take_zero, List.headD_cons] at e'
          rw [List.drop_eq_getElem_cons hlt, List.take_succ_cons, List.take_zero, e']
      have owned : ∀ A cap, cs = [.slice A xs.length cap] → (0 < xs.length → ∃ b off, A = some ⟨b, off, none⟩) → (inb std i (std.len xs) = true ∧ (Pr.ret (α := AV) (.addr ⟨r, f, some (std.nat i, [])⟩ log.length)).run S j σ (⟨j, r, false⟩ :: l) K) →
          Yields P W w m σ K (Instr.indexAt τ val (.int k i)) := by
        intro A cap hcs hA h
        obtain ⟨hb', h⟩ := h
        obtain ⟨h0, h1⟩ := inb_ok hb'
        have h1' : i < (List.length (α := u.den) xs : Nat) := h1
        have hpos : 0 < List.length (α := u.den) xs := by omega
        obtain ⟨b, off, rfl⟩ := hA hpos
        rw [e, hcs]
        have hA : AddrR m (.own box t y fl log) ⟨r, f, some (std.nat i, [])⟩ log.length (.pointer (some ⟨b, off + i.toNat * u.sz, none⟩)) := by
          refine ⟨Nat.le_refl _, fun _ => ⟨u, u, b, off, List.length (α := u.den) xs, cap, typP_getP hxs, rfl, ?_, ?_, ?_⟩⟩
          · have h2 := congrArg (fun l => l[0]?) (hC.symm.trans hcs)
            simpa [List.getElem?_take, List.getElem?_drop] using h2
          · show i.toNat < _
            omega
          · simp [offP, std]
        refine ⟨_, _, indexAt_run hT h0 h1', Res.of (v := .addr ⟨r, f, some (std.nat i, [])⟩ log.length) inv (Up.refl _ _ _ _) ?_ rfl h⟩
        have hg' : σ.h r = .own box t y fl log := hg
        simp only [VR, VR1, hg']
        exact hA
      cases hfl : flP f t fl with
      | ow c =>
        rw [hfl] at h ho
        obtain ⟨A, cap, hcs, _, hx⟩ := ho
        refine owned A cap hcs (fun hp => ?_) h
        rcases hx with ⟨rfl, _⟩ | ⟨b, off, row, e', S', hA, _⟩
        · simp at hp
        · exact ⟨b, off, hA⟩
      | owx i' c d =>
        rw [hfl] at h ho
        obtain ⟨A, cap, hcs, _, _, b, off, row, e', c₀, c₁, c₂, T₀, T₁, T₂, hA, _⟩ := ho
        exact owned A cap hcs (fun _ => ⟨b, off, hA⟩) h
      | sh =>
        rw [hfl] at h ho
        obtain ⟨hr, _⟩ := Own.sh_iff.1 ho
        obtain ⟨hb', h⟩ := h
        obtain ⟨h0, h1⟩ := inb_ok hb'
        obtain ⟨v', hrun, hra⟩ := rep_index (P := P) hT hr (k := k) h0 h1
        rw [e]
        exact ⟨_, _, hrun, Res.of (v := .raddr u _) inv (Up.refl _ _ _ _) hra rfl h⟩
      | pr _ _ => rw [hfl] at h; exact h.elim
      | ho => rw [hfl] at h; exact h.elim
    | some iq =>
      obtain ⟨⟨⟨t', xs⟩, fd⟩, hat, h⟩ := opt_run h
      obtain ⟨cs, S', e, ho, _⟩ := bor_at hreg hb hst hat
      cases t' with
      | list u' =>
        cases fd with
        | sh =>
          have hu : u' = u := by
            obtain ⟨i', q⟩ := iq
            obtain ⟨_, _, _, _, _, v', ys, c, e', hxs, hc, hd, _⟩ := at_some hat
            cases e'
            simp only [Reg.typ, typP_getP hxs, typP_getP hd] at htyp
            cases htyp; rfl
          subst hu
          obtain ⟨hr, _⟩ := Own.sh_iff.1 ho
          obtain ⟨hb', h⟩ := h
          obtain ⟨h0, h1⟩ := inb_ok hb'
          obtain ⟨v', hrun, hra⟩ := rep_index (P := P) hT hr (k := k) h0 h1
          rw [e]
          exact ⟨_, _, hrun, Res.of (v := .raddr u' _) inv (Up.refl _ _ _ _) hra rfl h⟩
        | _ => exact h.elim
      | _ => exact h.elim
  | _ => exact h.elim

end
end Go.Proofs.YtllcebmbaejlhaaDoor.Ab
