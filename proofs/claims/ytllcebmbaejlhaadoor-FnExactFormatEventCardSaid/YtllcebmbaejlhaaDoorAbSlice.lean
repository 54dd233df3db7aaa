/- Parts of slices. -/
import Derived.Test.YtllcebmbaejlhaaDoorAbPart
namespace Go.Proofs.YtllcebmbaejlhaaDoor.Ab
open Go

section
variable {P : Program} {T : Types} {W : Nat → Prop} {w : World} {m : Mem} {σ : St} {S : Specs} {j : Nat} {l : List Ent} {a : Act}

/-- An optional operand. -/
def OVR (w : World) (m : Mem) (h : Nat → Reg) : Option AV → Option Value → Prop
  | none, none => True
  | some v, some c => VR w m h v c
  | _, _ => False

theorem opo_ok {α : Type} {x : Option Operand} {k : Option AV → Pr α} {K : α → St → List Ent → Prop} (ht : Tmps w m σ a) (h : (Pr.opo x k).run S j σ l K) : ∃ v, OVR w m σ.h v (x.map a.eval) ∧ ∃ l', (k v).run S j σ l' K := by
  cases x with
  | none => exact ⟨none, trivial, l, h⟩
  | some x =>
    obtain ⟨v, hv, l', h⟩ := op_ok ht h
    exact ⟨some v, hv, l', h⟩

theorem bnd_ok {n : Nat} {lo hi : Option AV} {lov hiv : Option Value} {c : Bool} {b : Nat × Nat} {h : Nat → Reg} (hlo : OVR w m h lo lov) (hhi : OVR w m h hi hiv) (hb : bnd std n lo hi = some (c, b)) (hc : c = true) :
    Bd lov 0 b.1 ∧ Bd hiv n b.2 ∧ b.1 ≤ b.2 ∧ b.2 ≤ n := by
  cases lo with
  | none =>
    cases lov with
    | some _ => exact hlo.elim
    | none =>
      cases hi with
      | none =>
        cases hiv with
        | some _ => exact hhi.elim
        | none =>
          simp only [bnd, Option.some.injEq, Prod.mk.injEq] at hb
          obtain ⟨_, rfl⟩ := hb
          exact ⟨.inl ⟨rfl, rfl⟩, .inl ⟨rfl, rfl⟩, Nat.zero_le _, Nat.le_refl _⟩
      | some v =>
        cases hiv with
        | none => exact hhi.elim
        | some cv =>
          cases v with
          | val t z =>
            cases t with
            | int k =>
              obtain ⟨rfl, _⟩ := val_int (h := h) hhi
              obtain ⟨z, rfl⟩ : ∃ y : Int, y = z := ⟨z, rfl⟩
              simp only [bnd, Option.some.injEq, Prod.mk.injEq] at hb
              obtain ⟨rfl, rfl⟩ := hb
              have hc' : 0 ≤ z ∧ z ≤ n := by simpa [std] using hc
              exact ⟨.inl ⟨rfl, rfl⟩, .inr ⟨k, z, rfl, hc'.1, rfl⟩, Nat.zero_le _, by show z.toNat ≤ n; omega⟩
            | _ => simp [bnd] at hb
          | _ => simp [bnd] at hb
  | some v =>
    cases lov with
    | none => exact hlo.elim
    | some lv =>
      cases v with
      | val t y =>
        cases t with
        | int k =>
          obtain ⟨rfl, _⟩ := val_int (h := h) hlo
          obtain ⟨y, rfl⟩ : ∃ x : Int, x = y := ⟨y, rfl⟩
          cases hi with
          | none =>
            cases hiv with
            | some _ => exact hhi.elim
            | none =>
              simp only [bnd, Option.some.injEq, Prod.mk.injEq] at hb
              obtain ⟨rfl, rfl⟩ := hb
              have hc' : 0 ≤ y ∧ y ≤ n := by simpa [std] using hc
              exact ⟨.inr ⟨k, y, rfl, hc'.1, rfl⟩, .inl ⟨rfl, rfl⟩, by show y.toNat ≤ n; omega, Nat.le_refl _⟩
          | some v =>
            cases hiv with
            | none => exact hhi.elim
            | some cv =>
              cases v with
              | val t z =>
                cases t with
                | int k' =>
                  obtain ⟨rfl, _⟩ := val_int (h := h) hhi
                  obtain ⟨z, rfl⟩ : ∃ x : Int, x = z := ⟨z, rfl⟩
                  simp only [bnd, Option.some.injEq, Prod.mk.injEq] at hb
                  obtain ⟨rfl, rfl⟩ := hb
                  have hc' : (0 ≤ z ∧ z ≤ n) ∧ 0 ≤ y ∧ y ≤ z := by simpa [std] using hc
                  exact ⟨.inr ⟨k, y, rfl, hc'.2.1, rfl⟩, .inr ⟨k', z, rfl, hc'.1.1, rfl⟩, by show y.toNat ≤ z.toNat; omega, by show z.toNat ≤ n; omega⟩
                | _ => simp [bnd] at hb
              | _ => simp [bnd] at hb
        | _ => cases hi <;> simp [bnd] at hb
      | _ => cases hi <;> simp [bnd] at hb

theorem cut_len {α : Type} {xs : List α} {b : Nat × Nat} (h2 : b.2 ≤ xs.length) : (std.cut xs b.1 b.2).length = b.2 - b.1 := by
  simp only [std, List.length_drop, List.length_take]
  omega

/-- The cells of a part. -/
theorem seg_cut {row : Array Value} {off n l h sz : Nat} (h1 : l ≤ h) (h2 : h ≤ n) : ((seg row off (n * sz)).take (h * sz)).drop (l * sz) = seg row (off + l * sz) ((h - l) * sz) := by
  have e1 : h * sz ≤ n * sz := Nat.mul_le_mul_right _ h2
  have e2 : l * sz ≤ h * sz := Nat.mul_le_mul_right _ h1
  simp only [seg, List.take_take, Nat.min_eq_left e1, List.drop_take, List.drop_drop, Nat.sub_mul]

theorem rep_cut {F : Nat → Prop} {u : Ty} {τ : TypeId} (hT : Tie P (.list u) τ) {xs : List u.den} {A : Option Addr} {cap : Nat} {lo hi : Option Value} {b : Nat × Nat} (hr : Rep w F (.list u) xs [.slice A xs.length cap])
    (h1 : Bd lo 0 b.1) (h2 : Bd hi xs.length b.2) (h3 : b.1 ≤ b.2) (h4 : b.2 ≤ xs.length) :
    ∃ val, (Instr.sliceAt τ (.slice A xs.length cap) lo hi none).run P w = .ok val w ∧ ∃ cs, val = toV (.list u) cs ∧ Rep w F (.list u) (std.cut xs b.1 b.2) cs := by
  obtain ⟨A', cap', e, hb, hx⟩ := hr
  simp only [List.cons.injEq, Value.slice.injEq, and_true, true_and] at e
  obtain ⟨rfl, rfl⟩ := e
  have hrun := sliceL_run (w := w) hT h1 h2 h3 (Nat.le_trans h4 hb.2) (A := A)
  have hl := cut_len (xs := xs) (b := b) h4
  refine ⟨_, hrun, [_], rfl, _, _, by rw [hl], ⟨by rw [hl]; omega, by rw [hl]; omega⟩, ?_⟩
  rcases hx with rfl | ⟨bl, off, row, e, fz, rfl, hF, hh, hr⟩
  · left; simp [std]; rfl
  · by_cases hz : b.1 = b.2
    · left
      apply List.length_eq_zero_iff.1
      rw [hl]; omega
    · right
      have hcap : ¬ cap = b.1 := by omega
      refine ⟨bl, off + b.1 * u.sz, row, e, fz, by rw [if_neg hcap]; simp [add_lit], hF, hh, ?_⟩
      rw [hl, ← seg_cut h3 h4]
      exact RepL.drop (fun x c h => Rep.length h) _ (RepL.take (fun x c h => Rep.length h) _ hr)

theorem own_cut {F : Nat → Prop} {u : Ty} {τ : TypeId} (hT : Tie P (.list u) τ) {c : Fl} {xs : List u.den} {A : Option Addr} {cap : Nat} {S' : List Nat} {lo hi : Option Value} {b : Nat × Nat} (hr : Own w F (.list u) (.ow c) xs [.slice A xs.length cap] S')
    (h1 : Bd lo 0 b.1) (h2 : Bd hi xs.length b.2) (h3 : b.1 ≤ b.2) (h4 : b.2 ≤ xs.length) :
    ∃ val, (Instr.sliceAt τ (.slice A xs.length cap) lo hi none).run P w = .ok val w ∧ ∃ cs S'', val = toV (.list u) cs ∧ S''.Sublist S' ∧ Own w F (.list u) (.ow c) (std.cut xs b.1 b.2) cs S'' := by
  obtain ⟨A', cap', e, hb, hx⟩ := hr
  simp only [List.cons.injEq, Value.slice.injEq, and_true, true_and] at e
  obtain ⟨rfl, rfl⟩ := e
  have hlc : xs.length ≤ cap := by
    rcases hx with ⟨rfl, _⟩ | ⟨_, _, _, _, _, _, _, _, h, _⟩
    · exact Nat.zero_le _
    · exact h
  have hrun := sliceL_run (w := w) hT h1 h2 h3 (Nat.le_trans h4 hlc) (A := A)
  have hl := cut_len (xs := xs) (b := b) h4
  by_cases hz : cap = b.1
  · have : b.2 = b.1 := by omega
    refine ⟨_, hrun, [_], [], rfl, List.nil_sublist _, _, _, by rw [hl], by rw [hl]; omega, .inl ⟨List.length_eq_zero_iff.1 (by rw [hl]; omega), by omega, rfl⟩⟩
  · rcases hx with ⟨rfl, rfl, rfl⟩ | ⟨bl, off, row, e, S₁, rfl, rfl, hh, hc, hsz, ho⟩
    · simp only [List.length_nil] at h4
      exact absurd (by omega) hz
    · obtain ⟨U, hU, hU'⟩ := OwnL.take (fun x c S h => Own.length h) b.2 ho
      obtain ⟨V, hV, hV'⟩ := OwnL.drop (fun x c S h => Own.length h) b.1 hU'
      refine ⟨_, hrun, [_], bl :: V, rfl, List.Sublist.cons_cons _ (hV.trans hU), _, _, by rw [hl], by rw [hl]; omega, .inr ⟨bl, off + b.1 * u.sz, row, e, V, by rw [if_neg hz]; simp [add_lit], rfl, hh, by rw [hl]; omega, ?_, ?_⟩⟩
      · have : (cap - b.1) * u.sz + b.1 * u.sz = cap * u.sz := by rw [← Nat.add_mul]; congr 1; omega
        omega
      · rw [hl, ← seg_cut h3 h4]
        exact hV'

theorem lenOf_slice {A : Option Addr} {n cap k : Nat} {w' : World} (h : (Builtin.lenOf (.slice A n cap)).run P w = .ok k w') : k = n := by
  cases h; rfl

/-- The part of no elements and of no room. -/
theorem slice_none {τ : TypeId} {u : Ty} (hT : Tie P (.list u) τ) {vlo vhi : Option AV} {lo hi : Option Value} {xv mv : Value} {l' : List Ent} {k : IntKind} {mm : Int} {A : Option Addr} {n cap : Nat} {K : AV → St → List Ent → Prop} (inv : Inv W w m σ.h [])
    (hlo : OVR w m σ.h vlo lo) (hhi : OVR w m σ.h vhi hi) (hm : VR w m σ.h (.val (.int k) mm) mv) (e2 : xv = .slice A n cap)
    (h : (Pr.opt (bnd std n vlo vhi) fun (c, _) => .need (std.all c (std.all (std.eq mm 0) (zeroHi std vhi))) (.ret .emp) : PrA).run S j σ l' K) : Yields P W w m σ K (Instr.sliceAt τ xv lo hi (some mv)) := by
  obtain ⟨em, _⟩ := val_int hm
  obtain ⟨⟨c, b⟩, hb, h2⟩ := opt_run h
  obtain ⟨hc, h3⟩ := h2
  have hc' : c = true ∧ mm = 0 ∧ zeroHi std vhi = true := by simpa [std] using hc
  obtain ⟨hb1, hb2, hb3, hb4⟩ := bnd_ok hlo hhi hb hc'.1
  cases vhi with
  | none => simp [zeroHi] at hc'
  | some vh =>
    cases hi with
    | none => exact hhi.elim
    | some hio =>
    cases vh with
    | val th z =>
      cases th with
      | int k' =>
        obtain ⟨ez, _⟩ := val_int (h := σ.h) hhi
        obtain ⟨z, rfl⟩ : ∃ x : Int, x = z := ⟨z, rfl⟩
        have hz0 : z = 0 := by simpa [zeroHi, std] using hc'.2.2
        subst hz0
        rcases hb2 with ⟨hn, _⟩ | ⟨k2, i2, hi2, _, hi3⟩
        · simp at hn
        · simp only [Option.some.injEq] at hi2
          rw [ez] at hi2
          cases hi2
          have hb20 : b.2 = 0 := by rw [← hi3]; rfl
          have hb10 : b.1 = 0 := by omega
          rw [hb10] at hb1
          rw [e2, em, hc'.2.1]
          exact ⟨_, w, slice0_run hT hb1 (by rw [ez]), Res.of (v := .emp) inv (Up.refl _ _ _ _) ⟨A, rfl⟩ rfl h3⟩
      | _ => simp [zeroHi] at hc'
    | _ => simp [zeroHi] at hc'

theorem slice_ok {r : Nat} {own : Bool} {τ : TypeId} {t : Ty} (hT : Tie P t τ) {x : Operand} {lo hi mx : Option Operand} {K : AV → St → List Ent → Prop} (inv : Inv W w m σ.h []) (ht : Tmps w m σ a)
    (h : (Pr.op x fun x => Pr.opo lo fun lo => Pr.opo hi fun hi => Pr.opo mx fun mx => Pr.hasTyp x t (Pr.slice std r own t x lo hi mx) : PrA).run S j σ l K) :
    Yields P W w m σ K (Instr.sliceAt τ (a.eval x) (lo.map a.eval) (hi.map a.eval) (mx.map a.eval)) := by
  obtain ⟨v, hv, l₁, h1⟩ := op_ok ht h
  obtain ⟨vlo, hlo, l₂, h2⟩ := opo_ok ht h1
  obtain ⟨vhi, hhi, l₃, h3⟩ := opo_ok ht h2
  obtain ⟨vmx, hmx, l₄, h4⟩ := opo_ok ht h3
  clear h h1 h2 h3
  generalize a.eval x = xv at hv ⊢
  generalize lo.map a.eval = lov at hlo ⊢
  generalize hi.map a.eval = hiv at hhi ⊢
  generalize mx.map a.eval = mxv at hmx ⊢
  cases vmx with
  | some vm =>
    cases mxv with
    | none => exact hmx.elim
    | some mv =>
    have hvm : VR w m σ.h vm mv := hmx
    cases vm with
    | val tm mm =>
      cases tm with
      | int k =>
        rcases hasTyp_run h4 with ⟨y, rfl, h5⟩ | ⟨p, ver, rfl, htyp, h5⟩ | ⟨rfl, ⟨u, rfl⟩, h5⟩
        · cases t with
          | list u =>
            obtain ⟨cs, e, A, cap, rfl, hb, _⟩ := val_inv hv
            exact slice_none hT inv hlo hhi hvm e h5
          | _ => exact h5.elim
        · obtain ⟨n, l', hn, hb, h6⟩ := len_ok (P := P) (k := fun n => Pr.opt (bnd std n vlo vhi) fun (c, _) => .need (std.all c (std.all (std.eq mm 0) (zeroHi std vhi))) (.ret .emp)) inv hv h5
          obtain ⟨u, A, n', cap, rfl, e⟩ : ∃ u A n' cap, t = .list u ∧ xv = .slice A n' cap := by
            obtain ⟨box, t', y, fl, log, hg, hst, h7⟩ := resB_run (show (Pr.resB p ver fun g => Pr.opt (g.at std p) _ : PrA).run S j σ _ K from h5)
            obtain ⟨⟨⟨td, xs⟩, fd⟩, hat, h8⟩ := opt_run h7
            have hb' : BorR w m (σ.h p.r) p ver xv := hv
            have hreg := inv.reg p.r
            rw [hg] at hb' hreg
            obtain ⟨cs, S', rfl, ho, _⟩ := bor_at hreg hb' hst hat
            have htt : td = t := by
              rw [hg] at htyp
              obtain ⟨r', f, ix⟩ := p
              cases ix with
              | none =>
                obtain ⟨_, _, _, _, _, e, hd, _⟩ := at_none rfl hat
                cases e
                have : typP f t' = some t := htyp
                rw [typP_getP hd] at this
                exact Option.some.inj this
              | some iq =>
                obtain ⟨i, q⟩ := iq
                obtain ⟨_, _, _, _, _, v', xs', c, e, hxs, hc, hd, _⟩ := at_some hat
                cases e
                simp only [Reg.typ, typP_getP hxs] at htyp
                rw [typP_getP hd] at htyp
                exact Option.some.inj htyp
            subst htt
            cases td with
            | list u =>
              cases fd with
              | sh => obtain ⟨⟨A, cap, e, hbg, _⟩, _⟩ := Own.sh_iff.1 ho; subst e; exact ⟨u, A, _, cap, rfl, rfl⟩
              | ow c => obtain ⟨A, cap, e, hbg, _⟩ := ho; subst e; exact ⟨u, A, _, cap, rfl, rfl⟩
              | owx i c d => obtain ⟨A, cap, e, hbg, _⟩ := ho; subst e; exact ⟨u, A, _, cap, rfl, rfl⟩
              | pr _ _ => exact h8.elim
              | ho => exact h8.elim
            | _ => exact h8.elim
          subst e
          cases lenOf_slice hn
          exact slice_none hT inv hlo hhi hvm rfl h6
        · obtain ⟨A, rfl⟩ := hv
          exact slice_none hT inv hlo hhi hvm rfl h5
      | _ => rcases hasTyp_run h4 with ⟨y, rfl, h5⟩ | ⟨p, ver, rfl, htyp, h5⟩ | ⟨rfl, ⟨u, rfl⟩, h5⟩ <;> first | exact h5.elim | (cases t <;> exact h5.elim)
    | _ => rcases hasTyp_run h4 with ⟨y, rfl, h5⟩ | ⟨p, ver, rfl, htyp, h5⟩ | ⟨rfl, ⟨u, rfl⟩, h5⟩ <;> first | exact h5.elim | (cases t <;> exact h5.elim)
  | none =>
    cases mxv with
    | some _ => exact hmx.elim
    | none =>
    rcases hasTyp_run h4 with ⟨y, rfl, h5⟩ | ⟨p, ver, rfl, htyp, h5⟩ | ⟨rfl, ⟨u, rfl⟩, h5⟩
    · cases t with
      | str =>
        obtain ⟨⟨c, b⟩, hb, h6⟩ := opt_run h5
        obtain ⟨hc, h7⟩ := h6
        obtain ⟨hb1, hb2, hb3, hb4⟩ := bnd_ok hlo hhi hb hc
        obtain ⟨cs, rfl, rfl, hbg⟩ := val_inv hv
        refine yields_val (t := .str) (x := std.cut (α := UInt8) y b.1 b.2) (cs := [.string ⟨List.toArray (std.cut (α := UInt8) y b.1 b.2)⟩]) inv (sliceS_run hT hb1 hb2 hb3 hb4) ⟨rfl, ?_⟩ h7
        have := cut_len (α := UInt8) (xs := y) (b := b) hb4
        rw [this]
        have hb4' : b.2 ≤ List.length (α := UInt8) y := hb4
        omega
      | list u =>
        obtain ⟨⟨c, b⟩, hb, h6⟩ := opt_run h5
        obtain ⟨hc, h7⟩ := h6
        obtain ⟨hb1, hb2, hb3, hb4⟩ := bnd_ok hlo hhi hb hc
        obtain ⟨cs, rfl, hr⟩ := val_inv hv
        have hr' := hr
        obtain ⟨A, cap, rfl, _⟩ := hr'
        obtain ⟨val, hrun, cs, rfl, hr2⟩ := rep_cut (w := w) hT hr hb1 hb2 hb3 hb4
        exact yields_val (t := .list u) inv hrun hr2 h7
      | _ => exact h5.elim
    · simp only [Pr.slice] at h5
      obtain ⟨n, l', hn, hbg, h6⟩ := len_ok (P := P) inv hv h5
      obtain ⟨⟨c, b⟩, hb, h7⟩ := opt_run h6
      obtain ⟨hc, h8⟩ := h7
      obtain ⟨hb1, hb2, hb3, hb4⟩ := bnd_ok hlo hhi hb hc
      cases t with
      | list u =>
        cases own with
        | true =>
          simp only [cond_true] at h8
          obtain ⟨xs, fl, cs, S', m', h', l'', rfl, hown, inv', hup, h9⟩ := takeV_ok inv hv h8
          cases fl with
          | ow c =>
            have hown' := hown
            obtain ⟨A, cap, rfl, _⟩ := hown'
            cases lenOf_slice hn
            obtain ⟨val, hrun, cs, S'', rfl, hsub, ho⟩ := own_cut (w := w) hT hown hb1 hb2 hb3 hb4
            obtain ⟨inv'', hup'⟩ := letgo_ok (G' := S'' ++ []) inv' (hsub.append (List.Sublist.refl _)) (F' := m'.F) (fun b hb => hb) (fun b hb => .inl hb)
            exact ⟨_, w, hrun, fresh_ok (σ := { σ with h := h' }) inv'' hup rfl ho h9⟩
          | _ => exact h9.elim
        | false =>
          simp only [cond_false] at h8
          obtain ⟨⟨td, xd⟩, cs, m', h', l'', rfl, hr, inv', hup, h9⟩ := freezeV_ok inv hv h8
          obtain ⟨xs, hxs, h10⟩ := opt_run h9
          cases DV.as_eq hxs
          have hr' := hr
          obtain ⟨A, cap, rfl, _⟩ := hr'
          cases lenOf_slice hn
          obtain ⟨val, hrun, cs, rfl, hr2⟩ := rep_cut (w := w) hT hr hb1 hb2 hb3 hb4
          exact ⟨_, w, hrun, ret_ok (σ := { σ with h := h' }) inv' hup rfl hr2 h10⟩
      | _ => exact h8.elim
    · obtain ⟨⟨c, b⟩, hb, h6⟩ := opt_run h5
      obtain ⟨hc, h7⟩ := h6
      obtain ⟨hb1, hb2, hb3, hb4⟩ := bnd_ok hlo hhi hb hc
      obtain ⟨A, rfl⟩ := hv
      have hb20 : b.2 = 0 := by omega
      have hb10 : b.1 = 0 := by omega
      rw [hb10] at hb1
      rw [hb20] at hb2
      have hrun := sliceL_run (w := w) hT (A := A) (cap := 0) hb1 hb2 (Nat.le_refl _) (Nat.le_refl _)
      exact ⟨_, w, hrun, Res.of (v := .emp) inv (Up.refl _ _ _ _) ⟨_, rfl⟩ rfl h7⟩

end
end Go.Proofs.YtllcebmbaejlhaaDoor.Ab
