/- The operation append. -/
import Derived.Test.YtllcebmbaejlhaaDoorAbJoin
namespace Go.Proofs.YtllcebmbaejlhaaDoor.Ab
open Go

theorem OwnL.ones {α : Type} {R : α → List Value → List Nat → Prop} (hR : ∀ x c S, R x c S → ∀ v ∈ c, v.oneCell' = true) : ∀ {xs : List α} {cs : List Value} {S : List Nat}, OwnL R xs cs S → ∀ v ∈ cs, v.oneCell' = true
  | [], cs, S, h => by simp [OwnL] at h; simp [h.1]
  | x :: xs, cs, S, h => by
    obtain ⟨c, d, S1, S2, rfl, rfl, hc, hd⟩ := h
    intro v hv
    rcases List.mem_append.1 hv with hv | hv
    · exact hR _ _ _ hc v hv
    · exact OwnL.ones hR hd v hv

section
variable {P : Program} {W : Nat → Prop} {w : World} {m : Mem} {σ : St} {S : Specs} {j : Nat} {l : List Ent}

theorem flat_own : ∀ {u : Ty}, u.flat = true → ∀ {w : World} {F : Nat → Prop} {x : u.den} {cs : List Value}, Rep w F u x cs → Own w F u u.own x cs []
  | .int _, _, _, _, _, _, h => ⟨h, rfl⟩
  | .bool, _, _, _, _, _, h => ⟨h, rfl⟩
  | .str, _, _, _, _, _, h => ⟨h, rfl⟩
  | .list _, hf, _, _, _, _, _ => by simp [Ty.flat] at hf
  | .arr _ _, _, _, _, _, _, h => ⟨h, rfl⟩
  | .prod a b, hf, _, _, _, _, h => by
    simp only [Ty.flat, Bool.and_eq_true] at hf
    obtain ⟨c, d, e, hc, hd⟩ := h
    exact ⟨c, d, [], [], e, rfl, flat_own hf.1 hc, flat_own hf.2 hd⟩
  | .agg u, hf, _, _, _, _, h => flat_own (u := u) hf h

/-- What is appended. -/
theorem more_ok {u : Ty} {τx : TypeId} (hT : Tie P (.list u) τx) {v : AV} {val : Value} {k : List u.den → Fl → PrA} {K : AV → St → List Ent → Prop} (inv : Inv W w m σ.h []) (hv : VR w m σ.h v val) (h : (Pr.more std u v k).run S j σ l K) :
    ∃ ys d nw S' m' h' l', Src P u.sz τx val ys.length nw w ∧ OwnL (Own w m'.F u d) ys nw S' ∧ Inv W w m' h' (S' ++ []) ∧ Up W w m σ.h w m' h' ∧ (k ys d).run S j { σ with h := h' } l' K := by
  obtain ⟨e', he, _⟩ := hT.list
  simp only [Pr.more] at h
  cases hf : u.flat with
  | true =>
    rw [hf] at h
    obtain ⟨xs, A, cap, l', rfl, hb, hx, h⟩ := elts_ok inv hv h
    rcases hx with rfl | ⟨b, off, row, e, fz, rfl, hh, hr⟩
    · exact ⟨[], u.own, [], [], m, σ.h, l', Src.empty he A cap, ⟨rfl, rfl⟩, inv, Up.refl _ _ _ _, h⟩
    · have hlen := RepL.length (fun x c h => Rep.length h) hr
      have hsrc : Src P u.sz τx (.slice (some ⟨b, off, none⟩) xs.length cap) xs.length (seg row off (xs.length * u.sz)) w :=
        Src.ofSlice w he ⟨b, off, none⟩ xs.length cap _ hlen (fun j v hv => by rw [add_lit]; exact range_of hh j v hv) (RepL.one (fun x c h => Rep.one h) hr)
      exact ⟨xs, u.own, _, [], m, σ.h, l', hsrc, OwnL.ofRepL (fun x c hc => flat_own hf hc) hr, inv, Up.refl _ _ _ _, h⟩
  | false =>
    rw [hf] at h
    simp only [cond_false] at h
    obtain ⟨ys, fl, cs, S', m', h', l', rfl, hown, inv', hup, h⟩ := takeV_ok inv hv h
    cases fl with
    | ow d =>
      obtain ⟨A, cap, rfl, hb, ⟨rfl, rfl, rfl⟩ | ⟨b, off, row, e, S'', rfl, rfl, hh, hl, hr, ho⟩⟩ := hown
      · exact ⟨[], d, [], [], m', h', l', Src.empty he A 0, ⟨rfl, rfl⟩, inv', hup, h⟩
      · have hlen := OwnL.length (fun x c S h => Own.length h) ho
        have hsrc : Src P u.sz τx (.slice (some ⟨b, off, none⟩) (List.length (α := u.den) ys) cap) (List.length (α := u.den) ys) (seg row off (List.length (α := u.den) ys * u.sz)) w :=
          Src.ofSlice w he ⟨b, off, none⟩ _ cap _ hlen (fun j v hv => by rw [add_lit]; exact range_of hh j v hv) (OwnL.ones (fun x c S h => Own.one h) ho)
        obtain ⟨inv'', hup'⟩ := letgo_ok (G' := S'' ++ []) inv' (by simp) (F' := m'.F) (fun b hb => hb) (fun b hb => .inl hb)
        exact ⟨ys, d, _, S'', m', h', l', hsrc, ho, inv'', hup, h⟩
    | sh =>
      obtain ⟨hr, rfl⟩ := Own.sh_iff.1 hown
      obtain ⟨A, cap, rfl, hb, hx⟩ := hr
      rcases hx with rfl | ⟨b, off, row, e, fz, rfl, _, hh, hr⟩
      · exact ⟨[], .sh, [], [], m', h', l', Src.empty he A cap, ⟨rfl, rfl⟩, inv', hup, h⟩
      · have hlen := RepL.length (fun x c h => Rep.length h) hr
        have hsrc : Src P u.sz τx (.slice (some ⟨b, off, none⟩) (List.length (α := u.den) ys) cap) (List.length (α := u.den) ys) (seg row off (List.length (α := u.den) ys * u.sz)) w :=
          Src.ofSlice w he ⟨b, off, none⟩ _ cap _ hlen (fun j v hv => by rw [add_lit]; exact range_of hh j v hv) (RepL.one (fun x c h => Rep.one h) hr)
        exact ⟨ys, .sh, _, [], m', h', l', hsrc, OwnL.ofRepL (fun x c hc => Own.sh_iff.2 ⟨hc, rfl⟩) hr, inv', hup, h⟩
    | _ => exact h.elim

theorem joined_ok {r : Nat} {u : Ty} {τ τx ty : TypeId} (hT : Tie P (.list u) τ) {c d : Fl} {xs ys : List u.den} {A : Option Addr} {cap : Nat} {nw : List Value} {x : Value} {S₁ S₂ : List Nat} {K : AV → St → List Ent → Prop} {w₀ : World} {m₀ : Mem} {σ₀ : St}
    (inv : Inv W w m σ.h (S₁ ++ S₂ ++ [])) (hup : Up W w₀ m₀ σ₀.h w m σ.h) (hρ : σ.ρ = σ₀.ρ)
    (hx : Own w m.F (.list u) (.ow c) xs [.slice A xs.length cap] S₁) (hy : OwnL (Own w m.F u d) ys nw S₂) (hs : Src P u.sz τx x ys.length nw w)
    (h : (Pr.joined std r u xs ys c d).run S j σ l K) :
    ∃ val w', (Builtin.append_ #[τ, τx] ty #[.slice A xs.length cap, x]).run P w = .ok val w' ∧ Res W w₀ m₀ σ₀ K val w' := by
  simp only [Pr.joined] at h
  obtain ⟨hfit, h⟩ := bif_run h
  simp only [Bool.and_eq_true] at hfit
  obtain ⟨hok, h⟩ := h
  have hok' : xs.length + ys.length ≤ lim := by simpa [std] using hok
  obtain ⟨val, w', m', S', hrun, inv', hup', cs, rfl, hown⟩ := join_ok (ty := ty) hT inv hx hy hs hfit.1 hfit.2 hok'
  exact ⟨_, w', hrun, fresh_ok (σ := σ) inv' (hup.trans hup') hρ hown h⟩

theorem append_ok {r : Nat} {u : Ty} {τ τx ty : TypeId} (hT : Tie P (.list u) τ) (hTx : Tie P (.list u) τx) {s x : AV} {sv xv : Value} {K : AV → St → List Ent → Prop} (inv : Inv W w m σ.h []) (hsv : VR w m σ.h s sv) (hxv : VR w m σ.h x xv)
    (h : (Pr.append std r u s x).run S j σ l K) : Yields P W w m σ K (Builtin.append_ #[τ, τx] ty #[sv, xv]) := by
  cases s with
  | emp =>
    obtain ⟨A, rfl⟩ := hsv
    simp only [Pr.append] at h
    obtain ⟨ys, d, nw, S', m', h', l', hsrc, hy, inv', hup, h⟩ := more_ok hTx inv hxv h
    exact joined_ok (σ := { σ with h := h' }) (S₁ := []) (c := d) (xs := ([] : List u.den)) (cap := 0) hT (by simpa using inv') hup rfl ⟨A, 0, rfl, Nat.zero_le _, .inl ⟨rfl, rfl, rfl⟩⟩ hy hsrc h
  | bor p ver =>
    simp only [Pr.append] at h
    obtain ⟨ys, d, nw, S', m', h', l', hsrc, hy, inv', hup, h⟩ := more_ok hTx inv hxv h
    have hsv' : VR w m' h' (.bor p ver) sv := hup.le.all hsv
    obtain ⟨xs, fl, cs, S'', m'', h'', l'', rfl, hown, inv'', hup', h⟩ := takeV_ok (σ := { σ with h := h' }) inv' hsv' h
    cases fl with
    | ow c =>
      have hown' := hown
      obtain ⟨A, cap, rfl, _⟩ := hown'
      refine joined_ok (σ := { σ with h := h'' }) (S₁ := S'') (S₂ := S') (c := c) (xs := xs) (cap := cap) hT (by simpa using inv'') (hup.trans hup') rfl hown (OwnL.mono (fun x c S _ hx => Own.mono hup'.st (fun _ _ => rfl) hx) hy) hsrc h
    | _ => exact h.elim
  | _ => exact h.elim

end
end Go.Proofs.YtllcebmbaejlhaaDoor.Ab
