/- append. -/
import Derived.Test.YtllcebmbaejlhaaDoorAbApp
namespace Go.Proofs.YtllcebmbaejlhaaDoor.Ab
open Go

section
variable {P : Program} {W : Nat → Prop} {w : World} {m : Mem} {h : Nat → Reg} {G : List Nat}

/-- The elements of one slice behind those of another, in a new row. -/
theorem grown_ok {u : Ty} {τ τx ty : TypeId} (hT : Tie P (.list u) τ) {g : Fl} {xs ys : List u.den} {A : Option Addr} {cap : Nat} {olds nw : List Value} {x : Value} {T₁ T₂ : List Nat} (inv : Inv W w m h (T₁ ++ T₂ ++ G))
    (hold : (Builtin.firstCells u.sz xs.length (.slice A xs.length cap)).run P w.drew = .ok olds.toArray w.drew) (hox : OwnL (Own w m.F u g) xs olds T₁) (hoy : OwnL (Own w m.F u g) ys nw T₂) (hs : Src P u.sz τx x ys.length nw w)
    (hr : ¬ xs.length + ys.length ≤ cap) (hl : xs.length + ys.length ≤ lim) :
    ∃ val w' S', (Builtin.append_ #[τ, τx] ty #[.slice A xs.length cap, x]).run P w = .ok val w' ∧ Inv W w' m h (S' ++ G) ∧ Up W w m h w' m h ∧ ∃ cs, val = toV (.list u) cs ∧ Own w' m.F (.list u) (.ow g) (xs ++ ys) cs S' := by
  obtain ⟨cap', row, e, hrun, hc, hsz, hseg⟩ := append_grow (ty := ty) hT hold (OwnL.length (fun x c S h => Own.length h) hox) hs hr hl
  have hlen : (xs ++ ys).length = xs.length + ys.length := List.length_append
  obtain ⟨inv', hup, hown⟩ := newslice_ok (G := G) (S' := T₁ ++ T₂) (c := g) (xs := xs ++ ys) (cap := cap') (e := e) (row := row) (w' := w.drew.alloc (.cells row e)) inv rfl rfl rfl (by rw [hlen]; exact hc) hsz
    (by rw [hlen]; simp only [lim, big] at *; omega) (by rw [hlen, hseg]; exact OwnL.append hox hoy)
  rw [hlen] at hown
  exact ⟨_, _, _, hrun, inv', hup, _, rfl, hown⟩

/-- The same in the room behind the first. -/
theorem roomed_ok {u : Ty} {τ τx ty : TypeId} (hT : Tie P (.list u) τ) {g : Fl} {xs ys : List u.den} {b off cap : Nat} {row : Array Value} {e : TypeId} {nw : List Value} {x : Value} {T₁ T₂ : List Nat} (inv : Inv W w m h (b :: T₁ ++ T₂ ++ G))
    (hh : w.heap[b]? = some (.cells row e (0, 0))) (hb : off + cap * u.sz ≤ row.size) (hox : OwnL (Own w m.F u g) xs (seg row off (xs.length * u.sz)) T₁) (hoy : OwnL (Own w m.F u g) ys nw T₂) (hs : Src P u.sz τx x ys.length nw w)
    (hr : xs.length + ys.length ≤ cap) (hl : xs.length + ys.length ≤ lim) :
    ∃ val w' S', (Builtin.append_ #[τ, τx] ty #[.slice (some ⟨b, off, none⟩) xs.length cap, x]).run P w = .ok val w' ∧ Inv W w' m h (S' ++ G) ∧ Up W w m h w' m h ∧ ∃ cs, val = toV (.list u) cs ∧ Own w' m.F (.list u) (.ow g) (xs ++ ys) cs S' := by
  have hrun := append_room (ty := ty) hT hh hb hs hr
  have hpoke := setCells_poke (cs := nw) (w := w) (b := b) (o := off + xs.length * u.sz)
  have hlen : (xs ++ ys).length = xs.length + ys.length := List.length_append
  have hnl := hs.newsLen
  have hmul : (xs.length + ys.length) * u.sz ≤ cap * u.sz := Nat.mul_le_mul_right _ hr
  rw [Nat.add_mul] at hmul
  obtain ⟨row', h1, h2, h3, h4⟩ := hpoke.cells _ _ _ hh (by omega)
  have hnd := inv.gdup
  simp only [List.cons_append] at hnd
  have hnb := (List.nodup_cons.1 hnd).1
  obtain ⟨inv', hup⟩ := hand_ok (G' := b :: T₁ ++ T₂ ++ G) inv (hpoke.grow (by simp)) inv.gdup (fun a ha => ⟨.inl ha, by rw [hpoke.size]; exact (inv.glt a ha).1⟩)
  have hmono : ∀ (zs : List u.den) (cs : List Value) (T : List Nat), (∀ a, a ∈ T → a ∈ T₁ ++ T₂) → OwnL (Own w m.F u g) zs cs T → OwnL (Own (w.setCells b (off + xs.length * u.sz) nw) m.F u g) zs cs T := fun zs cs T hT ho =>
    OwnL.mono (fun x cs S'' hs hx => Own.mono hup.st (fun a ha => hpoke.other a (fun e => hnb (by rw [← e]; exact List.mem_append_left _ (hT a (hs a ha))))) hx) ho
  have hseg : seg row' off ((xs ++ ys).length * u.sz) = seg row off (xs.length * u.sz) ++ nw := by
    have := seg_poke (row := row) (row' := row') (a := off) (n := (xs.length + ys.length) * u.sz) (k := xs.length * u.sz) (cs := nw) (by rw [Nat.add_mul]; omega) (by rw [Nat.add_mul]; omega) h2 h3 h4
    rw [hlen, this]
    have e1 : (seg row off ((xs.length + ys.length) * u.sz)).drop (xs.length * u.sz + nw.length) = [] := by
      apply List.drop_of_length_le
      rw [seg_length (by rw [Nat.add_mul]; omega), Nat.add_mul]
      omega
    rw [e1, List.append_nil]
    congr 1
    have := seg_seg (row := row) (off := off) (n := (xs.length + ys.length) * u.sz) (i := 0) (m := xs.length * u.sz) (by rw [Nat.add_mul]; omega)
    simpa using this
  refine ⟨_, _, b :: (T₁ ++ T₂), hrun, by simpa using inv', hup, [_], rfl, ?_⟩
  refine ⟨some ⟨b, off, none⟩, cap, by rw [hlen], by rw [hlen]; simp only [lim, big] at *; omega, .inr ⟨b, off, row', e, T₁ ++ T₂, rfl, rfl, h1, by rw [hlen]; exact hr, by omega, ?_⟩⟩
  rw [hseg]
  exact OwnL.append (hmono _ _ _ (fun a ha => List.mem_append_left _ ha) hox) (hmono _ _ _ (fun a ha => List.mem_append_right _ ha) hoy)

/-- What both own, in hand. -/
theorem lists_fit {u : Ty} {c d g : Fl} {xs ys : List u.den} {cs nw : List Value} {S₁ S₂ B : List Nat} (inv : Inv W w m h (B ++ S₁ ++ S₂ ++ G)) (hx : OwnL (Own w m.F u c) xs cs S₁) (hy : OwnL (Own w m.F u d) ys nw S₂) (h1 : Fl.fits u c g = true) (h2 : Fl.fits u d g = true) (B' : List Nat) (hB : B'.Sublist B) :
    ∃ m' T₁ T₂, Inv W w m' h (B' ++ T₁ ++ T₂ ++ G) ∧ Up W w m h w m' h ∧ OwnL (Own w m'.F u g) xs cs T₁ ∧ OwnL (Own w m'.F u g) ys nw T₂ := by
  have hgd := inv.gdup
  have hperm : (B ++ S₁ ++ S₂ ++ G).Perm ((S₁ ++ S₂) ++ (B ++ G)) := perm_of_count fun a => by
    simp only [List.count_append]; omega
  have hnd : (S₁ ++ S₂).Nodup := (List.nodup_append.1 (hperm.nodup_iff.1 hgd)).1
  obtain ⟨T₁, s1, k1⟩ := OwnL.fits (F := m.F) (R' := fun F' => Own w F' u g) (fun x c S hx hs => fits_own h1 hx hs) hx (List.nodup_append.1 hnd).1
  obtain ⟨T₂, s2, k2⟩ := OwnL.fits (F := m.F) (R' := fun F' => Own w F' u g) (fun x c S hx hs => fits_own h2 hx hs) hy (List.nodup_append.1 hnd).2.1
  let F' : Nat → Prop := fun b => m.F b ∨ (b ∈ S₁ ++ S₂ ∧ b ∉ T₁ ++ T₂)
  have hleft : Left m.F F' (S₁ ++ S₂) (T₁ ++ T₂) := ⟨fun b hb => .inl hb, fun b hb hn => .inr ⟨hb, hn⟩⟩
  have hsub : (B' ++ T₁ ++ T₂ ++ G).Sublist (B ++ S₁ ++ S₂ ++ G) := ((hB.append s1).append s2).append (List.Sublist.refl _)
  have hdis := (List.nodup_append.1 (hperm.nodup_iff.1 hgd)).2.2
  obtain ⟨inv', hup⟩ := letgo_ok inv hsub (F' := F') (fun b hb => .inl hb) (fun b hb => by
    rcases hb with hb | ⟨hb, hn⟩
    · exact .inl hb
    · refine .inr ⟨hperm.mem_iff.2 (List.mem_append_left _ hb), fun hm => ?_⟩
      have hm' : b ∈ T₁ ++ T₂ ∨ b ∈ B' ++ G := by
        simp only [List.mem_append] at hm ⊢
        rcases hm with ((h3 | h3) | h3) | h3
        · exact .inr (.inl h3)
        · exact .inl (.inl h3)
        · exact .inl (.inr h3)
        · exact .inr (.inr h3)
      rcases hm' with h3 | h3
      · exact hn h3
      · have : b ∈ B ++ G := by
          rcases List.mem_append.1 h3 with h4 | h4
          · exact List.mem_append_left _ (hB.mem h4)
          · exact List.mem_append_right _ h4
        exact hdis b hb b this rfl)
  exact ⟨_, T₁, T₂, inv', hup, k1 F' (hleft.left hnd s2), k2 F' (hleft.right hnd s1)⟩

/-- append, of a slice in hand. -/
theorem join_ok {u : Ty} {τ τx ty : TypeId} (hT : Tie P (.list u) τ) {c d g : Fl} {xs ys : List u.den} {A : Option Addr} {cap : Nat} {nw : List Value} {x : Value} {S₁ S₂ : List Nat} (inv : Inv W w m h (S₁ ++ S₂ ++ G))
    (hx : Own w m.F (.list u) (.ow c) xs [.slice A xs.length cap] S₁) (hy : OwnL (Own w m.F u d) ys nw S₂) (hs : Src P u.sz τx x ys.length nw w) (h1 : Fl.fits u c g = true) (h2 : Fl.fits u d g = true) (hl : xs.length + ys.length ≤ lim) :
    ∃ val w' m' S', (Builtin.append_ #[τ, τx] ty #[.slice A xs.length cap, x]).run P w = .ok val w' ∧ Inv W w' m' h (S' ++ G) ∧ Up W w m h w' m' h ∧ ∃ cs, val = toV (.list u) cs ∧ Own w' m'.F (.list u) (.ow g) (xs ++ ys) cs S' := by
  obtain ⟨A', cap', e, hb, hx⟩ := hx
  simp only [List.cons.injEq, Value.slice.injEq, and_true, true_and] at e
  obtain ⟨rfl, rfl⟩ := e
  rcases hx with ⟨rfl, rfl, rfl⟩ | ⟨b, off, row, e, S', rfl, rfl, hh, hcl, hr, ho⟩
  · obtain ⟨m', T₁, T₂, inv', hup, ho1, ho2⟩ := lists_fit (B := []) (xs := ([] : List u.den)) (cs := []) (S₁ := []) (c := c) inv ⟨rfl, rfl⟩ hy h1 h2 [] (List.Sublist.refl _)
    obtain ⟨_, rfl⟩ := ho1
    by_cases hk : ys.length = 0
    · have : ys = [] := List.length_eq_zero_iff.1 hk
      subst this
      obtain ⟨rfl, rfl⟩ := ho2
      exact ⟨_, w, m', [], append_none hT hs, by simpa using inv', hup, [_], rfl, A, 0, rfl, Nat.zero_le _, .inl ⟨rfl, rfl, rfl⟩⟩
    · obtain ⟨val, w', S'', hrun, inv'', hup', cs, e, hown⟩ := grown_ok (ty := ty) (G := G) (T₁ := []) (T₂ := T₂) (xs := ([] : List u.den)) (A := A) (cap := 0) (olds := []) hT (by simpa using inv') (by
        cases A with
        | none => exact run_firstCells_none _ _ _ _ _
        | some a => exact run_firstCells_some _ _ _ a _ _ [] (by simp) (fun j v hv => by simp at hv)) ⟨rfl, rfl⟩ ho2 hs (by simp only [List.length_nil]; omega) hl
      exact ⟨val, w', m', S'', hrun, inv'', hup.trans hup', cs, e, hown⟩
  · by_cases hroom : xs.length + ys.length ≤ cap
    · obtain ⟨m', T₁, T₂, inv', hup, ho1, ho2⟩ := lists_fit (B := [b]) (by simpa using inv) ho hy h1 h2 [b] (List.Sublist.refl _)
      obtain ⟨val, w', S'', hrun, inv'', hup', cs, e, hown⟩ := roomed_ok (ty := ty) (G := G) (T₁ := T₁) (T₂ := T₂) hT (by simpa using inv') hh hr ho1 ho2 hs hroom hl
      exact ⟨val, w', m', S'', hrun, inv'', hup.trans hup', cs, e, hown⟩
    · obtain ⟨m', T₁, T₂, inv', hup, ho1, ho2⟩ := lists_fit (B := [b]) (by simpa using inv) ho hy h1 h2 [] (List.nil_sublist _)
      have hm : xs.length * u.sz ≤ cap * u.sz := Nat.mul_le_mul_right _ hcl
      obtain ⟨val, w', S'', hrun, inv'', hup', cs, e, hown⟩ := grown_ok (ty := ty) (G := G) (T₁ := T₁) (T₂ := T₂) (A := some ⟨b, off, none⟩) (cap := cap) hT (by simpa using inv')
        (run_firstCells_some w.drew u.sz xs.length ⟨b, off, none⟩ xs.length cap (seg row off (xs.length * u.sz)) (seg_length (by omega)) (fun j v hv => by rw [add_lit]; simpa using range_of hh j v hv)) ho1 ho2 hs hroom hl
      exact ⟨val, w', m', S'', hrun, inv'', hup.trans hup', cs, e, hown⟩

end
end Go.Proofs.YtllcebmbaejlhaaDoor.Ab
