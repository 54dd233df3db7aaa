/- One operation of the interpreter is sound. -/
import Derived.Test.YtllcebmbaejlhaaDoorAbDo
namespace Go.Proofs.YtllcebmbaejlhaaDoor.Ab
open Go

section
variable {P : Program} {T : Types} {W : Nat → Prop} {w : World} {m : Mem} {σ : St} {S : Specs} {j : Nat} {l : List Ent} {a : Act}

theorem run_builtin {b : Builtin} {ts : Array TypeId} {ty : TypeId} {cs : Array Bool} {args : Array Value} {s : Sem Value} (hb : builtin b ts ty cs args = (do pure (.value (← s)))) {val : Value} {w' : World} (h : s.run P w = .ok val w') :
    (builtin b ts ty cs args).run P w = .ok (.value val) w' := by
  rw [hb]; simp [h]

theorem num2_ok {k k' : IntKind} {x y : Int} {K : AV → St → List Ent → Prop} {f : Value → Value → Sem Value} {g : Int → Int → Int} {ux uy : Value} (inv : Inv W w m σ.h []) (hx : VR w m σ.h (.val (.int k) x) ux) (hy : VR w m σ.h (.val (.int k') y) uy)
    (hf : ∀ k k' x y, f (.int k x) (.int k' y) = pure (.int k (g x y))) (hg : ∀ x y, g x y = x ∨ g x y = y)
    (h : (bif decide (k = k') then .ret (.val (.int k) (g x y)) else .fail : PrA).run S j σ l K) : Yields P W w m σ K (f ux uy) := by
  obtain ⟨rfl, wx⟩ := val_int hx
  obtain ⟨rfl, wy⟩ := val_int hy
  obtain ⟨hk, h2⟩ := bif_run h
  have hk := of_decide_eq_true hk
  subst hk
  refine yields_val (t := .int k) (x := g x y) (cs := [.int k (g x y)]) inv (by rw [hf]; rfl) ⟨rfl, ?_⟩ h2
  rcases hg x y with h | h <;> rw [h] <;> assumption

theorem bor_slice {p : Pl} {ver : Nat} {xv : Value} {t : Ty} {k : Nat → PrA} {l' : List Ent} {K : AV → St → List Ent → Prop} (inv : Inv W w m σ.h []) (hv : VR w m σ.h (.bor p ver) xv) (htyp : (σ.h p.r).typ p = some t) (h : (Pr.len std (.bor p ver) k).run S j σ l' K) :
    ∃ u A n cap, t = .list u ∧ xv = .slice A n cap := by
  simp only [Pr.len] at h
  obtain ⟨box, t', y, fl, log, hg, hst, h7⟩ := resB_run h
  obtain ⟨⟨⟨td, xs⟩, fd⟩, hat, h8⟩ := opt_run h7
  have hb' : BorR w m (σ.h p.r) p ver xv := hv
  have hreg := inv.reg p.r
  rw [hg] at hb' hreg
  obtain ⟨cs, S', rfl, ho, _⟩ := bor_at hreg hb' hst hat
  have htt : td = t := by
    rw [hg] at htyp
    obtain ⟨r', f, ix⟩ := p
    cases ix with
    | none =>
      obtain ⟨_, _, _, _, _, e, hd, _⟩ := at_none rfl hat
      cases e
      have : typP f t' = some t := htyp
      rw [typP_getP hd] at this
      exact Option.some.inj this
    | some iq =>
      obtain ⟨i, q⟩ := iq
      obtain ⟨_, _, _, _, _, v', xs', c, e, hxs, hc, hd, _⟩ := at_some hat
      cases e
      simp only [Reg.typ, typP_getP hxs] at htyp
      rw [typP_getP hd] at htyp
      exact Option.some.inj htyp
  subst htt
  cases td with
  | list u =>
    cases fd with
    | sh => obtain ⟨⟨A, cap, e, hbg, _⟩, _⟩ := Own.sh_iff.1 ho; subst e; exact ⟨u, A, _, cap, rfl, rfl⟩
    | ow c => obtain ⟨A, cap, e, hbg, _⟩ := ho; subst e; exact ⟨u, A, _, cap, rfl, rfl⟩
    | owx i c d => obtain ⟨A, cap, e, hbg, _⟩ := ho; subst e; exact ⟨u, A, _, cap, rfl, rfl⟩
    | pr _ _ => exact h8.elim
    | ho => exact h8.elim
  | _ => exact h8.elim

theorem len_slice {τ ty : TypeId} {u : Ty} (hT : Tie P (.list u) τ) {A : Option Addr} {n cap : Nat} {ts : List TypeId} : (Builtin.len_ (τ :: ts).toArray ty #[.slice A n cap]).run P w = .ok (.int .i64 n) w := by
  obtain ⟨e, he, _⟩ := hT.list
  simp [Builtin.len_, run_underlying he, goInt]

theorem len_str {τ ty : TypeId} (hT : Tie P .str τ) {s : ByteArray} {ts : List TypeId} : (Builtin.len_ (τ :: ts).toArray ty #[.string s]).run P w = .ok (.int .i64 s.size) w := by
  simp [Builtin.len_, run_underlying hT.str, goInt]

theorem builtin_ok {b : Builtin} {r : Nat} {ts : Array TypeId} {ty : TypeId} {cs : Array Bool} {vs : List AV} {vals : List Value} {K : AV → St → List Ent → Prop} (hTie : ∀ τ u, T τ = some u → Tie P u τ) (inv : Inv W w m σ.h []) (hvs : All2 (VR w m σ.h) vs vals)
    (h : (Pr.builtin std T r b ts.toList vs).run S j σ l K) : ∃ val w', (builtin b ts ty cs vals.toArray).run P w = .ok (.value val) w' ∧ Res W w m σ K val w' := by
  cases b with
  | len =>
    match vs, vals, hvs, ts, h with
    | [x], [xv], hvs, ⟨t :: ts⟩, h =>
      obtain ⟨u, hu, h2⟩ := opt_run h
      have htie := hTie _ _ hu
      obtain ⟨n, l', hrun, hb, h3⟩ : ∃ (n : Nat) (l' : List Ent), (Builtin.len_ (t :: ts).toArray ty #[xv]).run P w = .ok (.int .i64 n) w ∧ n ≤ big ∧ (.ret (.val (.int .i64) (std.int n)) : PrA).run S j σ l' K := by
        rcases hasTyp_run h2 with ⟨y, rfl, h5⟩ | ⟨p, ver, rfl, htyp, h5⟩ | ⟨rfl, ⟨u', rfl⟩, h5⟩
        · obtain ⟨n, l', hn, hb, h3⟩ := len_ok (P := P) (k := fun n => .ret (.val (.int .i64) (std.int n))) inv hvs.1 h5
          refine ⟨n, l', ?_, hb, h3⟩
          obtain ⟨cs, rfl, hr⟩ := val_inv hvs.1
          cases u with
          | str =>
            obtain ⟨rfl, _⟩ := hr
            cases hn
            exact len_str htie
          | list u' =>
            obtain ⟨A, cap, rfl, _⟩ := hr
            cases lenOf_slice hn
            exact len_slice htie
          | _ => exact h5.elim
        · obtain ⟨n, l', hn, hb, h3⟩ := len_ok (P := P) (k := fun n => .ret (.val (.int .i64) (std.int n))) inv hvs.1 h5
          obtain ⟨u', A, n', cap, rfl, rfl⟩ := bor_slice (k := fun n => .ret (.val (.int .i64) (std.int n))) inv hvs.1 htyp h5
          cases lenOf_slice hn
          exact ⟨_, l', len_slice htie, hb, h3⟩
        · obtain ⟨n, l', hn, hb, h3⟩ := len_ok (P := P) (k := fun n => .ret (.val (.int .i64) (std.int n))) inv hvs.1 h5
          obtain ⟨A, hA⟩ : ∃ A, xv = .slice A 0 0 := hvs.1
          subst hA
          cases lenOf_slice hn
          exact ⟨_, l', len_slice htie, hb, h3⟩
      obtain ⟨val, w', hr, hres⟩ := yields_val (P := P) (t := .int .i64) (x := (n : Int)) (cs := [.int .i64 n]) inv hrun ⟨rfl, by
        simp only [big] at hb
        simp only [IntKind.wrap, IntKind.bits, IntKind.signed]
        simp
        omega⟩ h3
      exact ⟨val, w', run_builtin rfl hr, hres⟩
    | [_], [_], _, ⟨[]⟩, h => exact h.elim
  | min =>
    match vs, vals, hvs, h with
    | [.val (.int k) x, .val (.int k') y], [ux, uy], hvs, h =>
      obtain ⟨val, w', hr, hres⟩ := num2_ok (P := P) (f := Builtin.min2) (g := std.min) inv hvs.1 hvs.2.1 (fun k k' x y => rfl) (fun x y => by simp only [std]; split <;> simp) h
      exact ⟨val, w', run_builtin (s := Builtin.min_ ts ty #[ux, uy]) rfl (by simpa [Builtin.min_] using hr), hres⟩
  | max =>
    match vs, vals, hvs, h with
    | [.val (.int k) x, .val (.int k') y], [ux, uy], hvs, h =>
      obtain ⟨val, w', hr, hres⟩ := num2_ok (P := P) (f := Builtin.max2) (g := std.max) inv hvs.1 hvs.2.1 (fun k k' x y => rfl) (fun x y => by simp only [std]; split <;> simp) h
      exact ⟨val, w', run_builtin (s := Builtin.max_ ts ty #[ux, uy]) rfl (by simpa [Builtin.max_] using hr), hres⟩
  | append =>
    match vs, vals, hvs, ts, h with
    | [s, x], [sv, xv], hvs, ⟨[t, t']⟩, h =>
      change (match T t with
        | some (.list u) => bif decide (T t' = some (.list u)) then Pr.append std r u s x else .fail
        | _ => .fail : PrA).run S j σ l K at h
      cases hu : T t with
      | none => rw [hu] at h; exact h.elim
      | some ut =>
        rw [hu] at h
        cases ut with
        | list u =>
          obtain ⟨ht', h2⟩ := bif_run h
          have ht' := of_decide_eq_true ht'
          obtain ⟨val, w', hr, hres⟩ := append_ok (P := P) (ty := ty) (hTie _ _ hu) (hTie _ _ ht') inv hvs.1 hvs.2.1 h2
          exact ⟨val, w', run_builtin (s := Builtin.append_ #[t, t'] ty #[sv, xv]) rfl hr, hres⟩
        | _ => exact h.elim
    | [_, _], [_, _], _, ⟨[]⟩, h => exact h.elim
    | [_, _], [_, _], _, ⟨[_]⟩, h => exact h.elim
    | [_, _], [_, _], _, ⟨_ :: _ :: _ :: _⟩, h => exact h.elim
  | _ => exact h.elim

theorem bor_list {p : Pl} {ver : Nat} {t : Ty} {i : Int} {l' : List Ent} {K : AV → St → List Ent → Prop} (htyp : (σ.h p.r).typ p = some t) (h : (Pr.indexAddr std (.bor p ver) i).run S j σ l' K) : ∃ u, t = .list u := by
  simp only [Pr.indexAddr] at h
  obtain ⟨box, t', y, fl, log, hg, hst, h7⟩ := resB_run h
  rw [hg] at htyp
  obtain ⟨r', f, ix⟩ := p
  cases ix with
  | none =>
    obtain ⟨u, xs, hxs, _⟩ := list_run h7
    have : typP f t' = some t := htyp
    rw [typP_getP hxs] at this
    exact ⟨u, (Option.some.inj this).symm⟩
  | some iq =>
    obtain ⟨i, q⟩ := iq
    obtain ⟨⟨⟨td, xs⟩, fd⟩, hat, h8⟩ := opt_run h7
    obtain ⟨_, _, _, _, _, v', xs', c, e, hxs, hc, hd, _⟩ := at_some hat
    cases e
    simp only [Reg.typ, typP_getP hxs] at htyp
    rw [typP_getP hd] at htyp
    have : td = t := Option.some.inj htyp
    subst this
    cases td with
    | list u => exact ⟨u, rfl⟩
    | _ => exact h8.elim

theorem step_ok {L : List (Nat × Obj)} {md : Modes} {hint : List (Nat × Nat)} {r : Nat} {o : Oper} {K : AV → St → List Ent → Prop} (hTie : ∀ τ u, T τ = some u → Tie P u τ) (hC : CmpOK P T) (hS : SpecsOK P L S) (hL : Lies L w m.F) (inv : Inv W w m σ.h []) (ht : Tmps w m σ a)
    (h : (step std T md hint r o).run S j σ l K) : Good P o a w (Res W w m σ K) := by
  obtain ⟨dst, op, type, pos, after, guard⟩ := o
  cases op with
  | move x =>
    simp only [step] at h
    exact Good.yields (s := pure (a.eval x)) (move_ok inv ht h) (by simp [execOp])
  | assign x =>
    simp only [step] at h
    exact Good.yields (s := pure (a.eval x)) (move_ok inv ht h) (by simp [execOp])
  | pick c x y =>
    simp only [step] at h
    exact Good.yields (pick_ok inv ht h) (by simp [execOp])
  | alloc t =>
    simp only [step] at h
    obtain ⟨u, hu, h2⟩ := opt_run h
    exact Good.yields (alloc_ok (hTie _ _ hu) inv h2) rfl
  | box t x =>
    simp only [step] at h
    obtain ⟨u, hu, h2⟩ := opt_run h
    exact Good.yields (box_ok (hTie _ _ hu) inv ht h2) rfl
  | build t ps =>
    simp only [step] at h
    obtain ⟨u, hu, h2⟩ := opt_run h
    cases u with
    | agg u => exact Good.yields (build_ok (hTie _ _ hu) inv ht h2) rfl
    | arr n u => exact Good.yields (buildArr_ok (hTie _ _ hu) inv ht h2) rfl
    | _ => exact h2.elim
  | buildSlice t n ps =>
    simp only [step] at h
    obtain ⟨u, hu, h2⟩ := opt_run h
    cases u with
    | list u => exact Good.yields (buildSlice_ok (hTie _ _ hu) inv ht h2) rfl
    | _ => exact h2.elim
  | load t x =>
    simp only [step] at h
    obtain ⟨u, hu, h2⟩ := opt_run h
    exact Good.yields (load_ok (hTie _ _ hu) inv ht h2) rfl
  | store t x y =>
    simp only [step] at h
    obtain ⟨u, hu, h2⟩ := opt_run h
    obtain ⟨w', hr, hres⟩ := store_ok (hTie _ _ hu) inv ht h2
    exact Good.skip (w' := w') (by simp [execOp, hr]) hres
  | nilCheck x =>
    simp only [step] at h
    exact nilCheck_ok rfl inv ht h
  | binOp op xt x y yt =>
    simp only [step] at h
    exact Good.yields (binop_ok hTie hC inv ht h) rfl
  | unOp op xt x =>
    simp only [step] at h
    obtain ⟨v, hv, _, h2⟩ := op_ok ht h
    exact Good.yields (unop_ok inv hv h2) rfl
  | convert s t x =>
    simp only [step] at h
    exact Good.yields (convert_ok hTie inv ht h) rfl
  | makeFunc f first caps =>
    cases f with
    | func f =>
      simp only [step] at h
      exact Good.yields (makeFunc_ok inv ht h) rfl
    | _ => exact h.elim
  | makeSlice t x y =>
    simp only [step] at h
    obtain ⟨u, hu, h2⟩ := opt_run h
    cases u with
    | list u =>
      obtain ⟨v, hv, _, h3⟩ := op_ok ht h2
      obtain ⟨v', hv', _, h4⟩ := op_ok ht h3
      cases v with
      | val tv n =>
        cases tv with
        | int k =>
          cases v' with
          | val tv' n' =>
            cases tv' with
            | int k' =>
              cases k <;> first | exact h4.elim | skip
              cases k' <;> first | exact h4.elim | skip
              obtain ⟨e1, _⟩ := val_int hv
              obtain ⟨e2, _⟩ := val_int hv'
              have := makeSlice_ok (P := P) (hTie _ _ hu) inv h4
              rw [← e1, ← e2] at this
              exact Good.yields this rfl
            | _ => cases k <;> exact h4.elim
          | _ => cases k <;> exact h4.elim
        | _ => exact h4.elim
      | _ => exact h4.elim
    | _ => exact h2.elim
  | slice t x lo hi mx =>
    simp only [step] at h
    obtain ⟨u, hu, h2⟩ := opt_run h
    exact Good.yields (slice_ok (hTie _ _ hu) inv ht h2) rfl
  | fieldAddr t x i =>
    simp only [step] at h
    obtain ⟨u, hu, h2⟩ := opt_run h
    exact Good.yields (fieldAddr_ok (hTie _ _ hu) inv ht h2) rfl
  | field t x i =>
    simp only [step] at h
    obtain ⟨u, hu, h2⟩ := opt_run h
    exact Good.yields (field_ok (hTie _ _ hu) inv ht h2) rfl
  | indexAddr t x y =>
    simp only [step] at h
    obtain ⟨u, hu, h2⟩ := opt_run h
    obtain ⟨v, hv, _, h3⟩ := op_ok ht h2
    obtain ⟨v', hv', l₄, h4⟩ := op_ok ht h3
    cases v' with
    | val tv n =>
      cases tv with
      | int k =>
        obtain ⟨e2, _⟩ := val_int hv'
        have key : ∀ {l' : List Ent} (u' : Ty), u = .list u' → (∀ u'' xs, v = .val (.list u'') xs → u'' = u') → (∀ p ver, v = .bor p ver → (σ.h p.r).typ p = some (.list u')) → (Pr.indexAddr std v n).run S j σ l' K → Good P ⟨dst, .indexAddr t x y, type, pos, after, guard⟩ a w (Res W w m σ K) := by
          intro l' u' hu' h5 h6 h7
          subst hu'
          have := indexAddr_ok (P := P) (k := k) (hTie _ _ hu) inv hv h5 h6 h7
          rw [← e2] at this
          exact Good.yields this rfl
        by_cases harr : ∃ p ver n' u', v = .addr p ver ∧ u = .arr n' u'
        · obtain ⟨p, ver, n', u', rfl, rfl⟩ := harr
          have := idxArr_ok (P := P) (k := k) (hTie _ _ hu) inv hv h4
          rw [← e2] at this
          exact Good.yields this rfl
        have h4' : (Pr.hasTyp v u (Pr.indexAddr std v n)).run S j σ l₄ K := by
          cases v with
          | addr p ver =>
            cases u with
            | arr n' u' => exact absurd ⟨p, ver, n', u', rfl, rfl⟩ harr
            | _ => exact h4
          | _ => exact h4
        rcases hasTyp_run h4' with ⟨z, rfl, h5⟩ | ⟨p, ver, rfl, htyp, h5⟩ | ⟨rfl, ⟨u', rfl⟩, h5⟩
        · cases u with
          | list u' => exact key u' rfl (by rintro u'' xs he; cases he; rfl) (by rintro p ver he; cases he) h5
          | _ => exact h5.elim
        · obtain ⟨u', rfl⟩ := bor_list htyp h5
          exact key u' rfl (by rintro u'' xs he; cases he) (by rintro p' ver' he; cases he; exact htyp) h5
        · exact h5.elim
      | _ => exact h4.elim
    | _ => exact h4.elim
  | index t x y =>
    simp only [step] at h
    cases hu : T t with
    | some u => exact Good.yields (index_ok (fun h => hTie _ _ h) hu inv ht h) rfl
    | none =>
      obtain ⟨v, hv, _, h3⟩ := op_ok ht h
      obtain ⟨v', hv', _, h4⟩ := op_ok ht h3
      cases v' with
      | val tv n =>
        cases tv with
        | int k =>
          obtain ⟨hd, _⟩ := bif_run h4
          have := of_decide_eq_true hd
          rw [hu] at this
          cases this
        | _ => exact h4.elim
      | _ => exact h4.elim
  | range t x =>
    simp only [step] at h
    obtain ⟨hu, h2⟩ := bif_run h
    exact Good.yields (range_ok (hTie _ _ (of_decide_eq_true hu)) inv ht h2) rfl
  | next it b =>
    cases b with
    | true =>
      simp only [step] at h
      exact Good.yields (next_ok (ty := type) inv ht h) rfl
    | false => exact h.elim
  | extract x i =>
    simp only [step] at h
    exact Good.yields (extract_ok inv ht h) rfl
  | call c =>
    simp only [step] at h
    obtain ⟨callee, args, argTypes⟩ := c
    cases callee with
    | builtin b =>
      simp only at h
      obtain ⟨vs, l', hvs, h2⟩ := opl_ok ht h
      obtain ⟨val, w', hr, hres⟩ := builtin_ok (P := P) (ty := type) (cs := args.map fun | .const _ => true | _ => false) hTie inv hvs h2
      refine Good.value (val := val) (w' := w') ?_ hres
      simp only [execOp, resolve, Sem.run_bind, Sem.run_pure, Result.andThen_ok, invoke]
      rw [← hr, ← Array.toList_map]
      rfl
    | value f =>
      simp only at h
      obtain ⟨v, hv, l₁, h2⟩ := op_ok ht h
      have key : ∀ (g : Nat) (cap : Sum (List (Pl × Nat)) (List DV)) (cv : List Value), a.eval f = .func (.func g) #[] cv.toArray → CapR w m σ.h cap cv → (Pr.opl args.toList fun vs => Pr.doCall std T md r g vs argTypes.toList cap : PrA).run S j σ l₁ K → Good P ⟨dst, .call ⟨.value f, args, argTypes⟩, type, pos, after, guard⟩ a w (Res W w m σ K) := by
        intro g cap cv he hcv h
        obtain ⟨vs, l', hvs, h3⟩ := opl_ok ht h
        intro next Q hnext
        have hexec : execOp a.eval ⟨dst, .call ⟨.value f, args, argTypes⟩, type, pos, after, guard⟩ = callFunc g (args.map a.eval ++ cv.toArray) := by
          simp only [execOp, resolve, he, Deferred.ofValue]
          show invoke (.fn (.func g) cv.toArray) (#[] ++ args.map a.eval) = _
          simp [invoke]
        have hargs : args.map a.eval ++ cv.toArray = (args.toList.map a.eval ++ cv).toArray := by
          apply Array.ext'; simp
        unfold Oper.wp
        rw [hexec, hargs]
        rcases doCall_ok hS hL inv hvs hcv h3 with ⟨⟨fn, hfn, hb, hn⟩, hcalls⟩ | ⟨v, w', hrun, val, hv, hres⟩
        · have hrun : (callFunc g (args.toList.map a.eval ++ cv).toArray).run P w = .ok (.enter g (args.toList.map a.eval ++ cv).toArray) w := by
            simp only [callFunc, Sem.run_bind, run_program, Result.andThen_ok, hfn, hn, hb]
            simp
          rw [hrun]
          refine Calls.mono hcalls fun e w' he => ?_
          obtain ⟨val, rfl, hres⟩ := he
          exact hnext val w' hres
        · rw [hrun]
          cases hv
          exact hnext v w' hres
      cases v with
      | rclo g caps =>
        obtain ⟨vs, e, hl⟩ := (show VR1 w m σ.h (.rclo g caps) (a.eval f) from hv)
        exact key g (.inr caps) vs e hl h2
      | clo g caps =>
        obtain ⟨vs, e, hl⟩ := (show VR1 w m σ.h (.clo g caps) (a.eval f) from hv)
        exact key g (.inl caps) vs e hl h2
      | _ => exact h2.elim
    | invoke x n => exact h.elim
  | _ => exact h.elim

end
end Go.Proofs.YtllcebmbaejlhaaDoor.Ab
