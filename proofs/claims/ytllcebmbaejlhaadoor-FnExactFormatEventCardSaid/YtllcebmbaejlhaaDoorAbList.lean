/- Lists of data and the rows of cells that hold them. -/
import Derived.Test.YtllcebmbaejlhaaDoorAbFoc
namespace Go.Proofs.YtllcebmbaejlhaaDoor.Ab
open Go

theorem OwnL.focus {α : Type} {R : α → List Value → List Nat → Prop} {n : Nat} (hR : ∀ x c S, R x c S → c.length = n) (d : α) :
    ∀ {xs : List α} {i : Nat} {cs : List Value} {S : List Nat}, OwnL R xs cs S → i < xs.length →
      ∃ c₀ c₁ c₂ S₀ S₁ S₂, cs = c₀ ++ (c₁ ++ c₂) ∧ S = S₀ ++ (S₁ ++ S₂) ∧ c₀.length = i * n ∧ R (xs.getD i d) c₁ S₁ ∧
        ∀ (R' : α → List Value → List Nat → Prop) (y : α) (c₁' : List Value) (S₁' : List Nat), (∀ x c S', (∀ b ∈ S', b ∈ S₀ ++ S₂) → R x c S' → R' x c S') → R' y c₁' S₁' →
          OwnL R' (xs.set i y) (c₀ ++ (c₁' ++ c₂)) (S₀ ++ (S₁' ++ S₂))
  | [], _, _, _, _, h => by simp at h
  | x :: xs, 0, _, _, ⟨c, e, S1, S2, h1, h2, hc, he⟩, _ => by
    refine ⟨[], c, e, [], S1, S2, h1, h2, by simp, by simpa using hc, ?_⟩
    intro R' y c' S' hmono hy
    exact ⟨c', e, S', S2, rfl, rfl, hy, OwnL.mono (fun x c S'' hS hx => hmono x c S'' (fun b hb => by simpa using hS b hb) hx) he⟩
  | x :: xs, i + 1, _, _, ⟨c, e, S1, S2, h1, h2, hc, he⟩, hi => by
    obtain ⟨c₀, c₁, c₂, T₀, T₁, T₂, e1, e2, hl, hx, hset⟩ := OwnL.focus hR d he (by simpa using hi)
    subst e1 e2 h1 h2
    refine ⟨c ++ c₀, c₁, c₂, S1 ++ T₀, T₁, T₂, by simp, by simp, by simp [hl, hR _ _ _ hc, Nat.succ_mul, Nat.add_comm], by simpa using hx, ?_⟩
    intro R' y c' S' hmono hy
    have := hset R' y c' S' (fun x c S'' hS hx => hmono x c S'' (fun b hb => by have := hS b hb; simp at this ⊢; rcases this with h | h <;> simp [h]) hx) hy
    exact ⟨c, c₀ ++ (c' ++ c₂), S1, T₀ ++ (S' ++ T₂), by simp, by simp, hmono _ _ _ (fun b hb => by simp [hb]) hc, this⟩

theorem RepL.focus {α : Type} {R : α → List Value → Prop} {n : Nat} (hR : ∀ x c, R x c → c.length = n) (d : α) :
    ∀ {xs : List α} {i : Nat} {cs : List Value}, RepL R xs cs → i < xs.length →
      ∃ c₀ c₁ c₂, cs = c₀ ++ (c₁ ++ c₂) ∧ c₀.length = i * n ∧ R (xs.getD i d) c₁ ∧ ∀ y c₁', R y c₁' → RepL R (xs.set i y) (c₀ ++ (c₁' ++ c₂))
  | [], _, _, _, h => by simp at h
  | x :: xs, 0, _, ⟨c, e, h1, hc, he⟩, _ => ⟨[], c, e, h1, by simp, by simpa using hc, fun y c' hy => ⟨c', e, rfl, hy, he⟩⟩
  | x :: xs, i + 1, _, ⟨c, e, h1, hc, he⟩, hi => by
    obtain ⟨c₀, c₁, c₂, e1, hl, hx, hset⟩ := RepL.focus hR d he (by simpa using hi)
    subst e1 h1
    exact ⟨c ++ c₀, c₁, c₂, by simp, by simp [hl, hR _ _ hc, Nat.succ_mul, Nat.add_comm], by simpa using hx, fun y c' hy => ⟨c, c₀ ++ (c' ++ c₂), by simp, hc, hset y c' hy⟩⟩

theorem RepL.append {α : Type} {R : α → List Value → Prop} : ∀ {xs ys : List α} {cs ds : List Value}, RepL R xs cs → RepL R ys ds → RepL R (xs ++ ys) (cs ++ ds)
  | [], _, _, _, h, k => by simp [RepL] at h; subst h; simpa using k
  | x :: xs, _, _, _, ⟨c, e, h1, hc, he⟩, k => ⟨c, e ++ _, by simp [h1], hc, RepL.append he k⟩

theorem OwnL.append {α : Type} {R : α → List Value → List Nat → Prop} : ∀ {xs ys : List α} {cs ds : List Value} {S S' : List Nat}, OwnL R xs cs S → OwnL R ys ds S' → OwnL R (xs ++ ys) (cs ++ ds) (S ++ S')
  | [], _, _, _, _, _, h, k => by obtain ⟨rfl, rfl⟩ := h; simpa using k
  | x :: xs, _, _, _, _, _, ⟨c, e, S1, S2, h1, h2, hc, he⟩, k => ⟨c, e ++ _, S1, S2 ++ _, by simp [h1], by simp [h2], hc, OwnL.append he k⟩

theorem OwnL.ofRepL {α : Type} {R : α → List Value → Prop} {R' : α → List Value → List Nat → Prop} (hR : ∀ x c, R x c → R' x c []) : ∀ {xs : List α} {cs : List Value}, RepL R xs cs → OwnL R' xs cs []
  | [], _, h => ⟨h, rfl⟩
  | _ :: _, _, ⟨c, d, e, hc, hd⟩ => ⟨c, d, [], [], e, rfl, hR _ _ hc, OwnL.ofRepL hR hd⟩

theorem RepL.take {α : Type} {R : α → List Value → Prop} {n : Nat} (hR : ∀ x c, R x c → c.length = n) : ∀ {xs : List α} {cs : List Value} (k : Nat), RepL R xs cs → RepL R (xs.take k) (cs.take (k * n))
  | [], _, k, h => by simp [RepL] at h; subst h; simp [RepL]
  | x :: xs, _, 0, _ => by simp [RepL]
  | x :: xs, _, k + 1, ⟨c, e, h1, hc, he⟩ => by
    subst h1
    have hl := hR _ _ hc
    refine ⟨c, e.take (k * n), ?_, hc, RepL.take hR k he⟩
    rw [List.take_append, List.take_of_length_le (by rw [hl, Nat.succ_mul]; omega), hl, Nat.succ_mul]
    congr 2
    omega

theorem RepL.drop {α : Type} {R : α → List Value → Prop} {n : Nat} (hR : ∀ x c, R x c → c.length = n) : ∀ {xs : List α} {cs : List Value} (k : Nat), RepL R xs cs → RepL R (xs.drop k) (cs.drop (k * n))
  | [], _, k, h => by simp [RepL] at h; subst h; simp [RepL]
  | x :: xs, _, 0, h => by simpa using h
  | x :: xs, _, k + 1, ⟨c, e, h1, hc, he⟩ => by
    subst h1
    have hl := hR _ _ hc
    have : (c ++ e).drop ((k + 1) * n) = e.drop (k * n) := by
      rw [List.drop_append, List.drop_of_length_le (by rw [hl, Nat.succ_mul]; omega), hl, Nat.succ_mul]
      simp
    rw [this]
    simpa using RepL.drop hR k he

/-- What is owned of a part of a list: some of the blocks. -/
theorem OwnL.take {α : Type} {R : α → List Value → List Nat → Prop} {n : Nat} (hR : ∀ x c S, R x c S → c.length = n) : ∀ {xs : List α} {cs : List Value} {S : List Nat} (k : Nat), OwnL R xs cs S →
    ∃ S', S'.Sublist S ∧ OwnL R (xs.take k) (cs.take (k * n)) S'
  | [], _, _, k, h => by obtain ⟨rfl, rfl⟩ := h; exact ⟨[], List.Sublist.refl _, by simp [OwnL]⟩
  | x :: xs, _, S, 0, _ => ⟨[], List.nil_sublist _, by simp [OwnL]⟩
  | x :: xs, _, _, k + 1, ⟨c, e, S1, S2, h1, h2, hc, he⟩ => by
    subst h1 h2
    have hl := hR _ _ _ hc
    obtain ⟨S', hs, ho⟩ := OwnL.take hR k he
    refine ⟨S1 ++ S', List.Sublist.append (List.Sublist.refl _) hs, c, e.take (k * n), S1, S', ?_, rfl, hc, ho⟩
    rw [List.take_append, List.take_of_length_le (by rw [hl, Nat.succ_mul]; omega), hl, Nat.succ_mul]
    congr 2
    omega

theorem OwnL.drop {α : Type} {R : α → List Value → List Nat → Prop} {n : Nat} (hR : ∀ x c S, R x c S → c.length = n) : ∀ {xs : List α} {cs : List Value} {S : List Nat} (k : Nat), OwnL R xs cs S →
    ∃ S', S'.Sublist S ∧ OwnL R (xs.drop k) (cs.drop (k * n)) S'
  | [], _, _, k, h => by obtain ⟨rfl, rfl⟩ := h; exact ⟨[], List.Sublist.refl _, by simp [OwnL]⟩
  | x :: xs, _, S, 0, h => ⟨S, List.Sublist.refl _, by simpa using h⟩
  | x :: xs, _, _, k + 1, ⟨c, e, S1, S2, h1, h2, hc, he⟩ => by
    subst h1 h2
    have hl := hR _ _ _ hc
    obtain ⟨S', hs, ho⟩ := OwnL.drop hR k he
    refine ⟨S', hs.trans (List.sublist_append_right _ _), ?_⟩
    have : (c ++ e).drop ((k + 1) * n) = e.drop (k * n) := by
      rw [List.drop_append, List.drop_of_length_le (by rw [hl, Nat.succ_mul]; omega), hl, Nat.succ_mul]
      simp
    rw [this]
    simpa using ho

theorem seg_length {row : Array Value} {off n : Nat} (h : off + n ≤ row.size) : (seg row off n).length = n := by
  simp [seg]; omega

theorem seg_seg {row : Array Value} {off n i m : Nat} (h : i + m ≤ n) : ((seg row off n).drop i).take m = seg row (off + i) m := by
  unfold seg
  rw [List.drop_take, List.take_take, List.drop_drop]
  congr 1
  omega

/-- 'S'' is what is left of 'S'; the rest has gone to 'F''. -/
def Left (F F' : Nat → Prop) (S S' : List Nat) : Prop := (∀ b, F b → F' b) ∧ ∀ b ∈ S, b ∉ S' → F' b

theorem Left.left {F F' : Nat → Prop} {S T S' T' : List Nat} (h : Left F F' (S ++ T) (S' ++ T')) (hd : (S ++ T).Nodup) (ht : T'.Sublist T) : Left F F' S S' :=
  ⟨h.1, fun b hb hn => h.2 b (List.mem_append_left _ hb) (fun hm => by
    rcases List.mem_append.1 hm with hm | hm
    · exact hn hm
    · exact (List.nodup_append.1 hd).2.2 b hb b (ht.mem hm) rfl)⟩

theorem Left.right {F F' : Nat → Prop} {S T S' T' : List Nat} (h : Left F F' (S ++ T) (S' ++ T')) (hd : (S ++ T).Nodup) (hs : S'.Sublist S) : Left F F' T T' :=
  ⟨h.1, fun b hb hn => h.2 b (List.mem_append_right _ hb) (fun hm => by
    rcases List.mem_append.1 hm with hm | hm
    · exact (List.nodup_append.1 hd).2.2 b (hs.mem hm) b hb rfl
    · exact hn hm)⟩

theorem OwnL.fits {α : Type} {F : Nat → Prop} {R : α → List Value → List Nat → Prop} {R' : (Nat → Prop) → α → List Value → List Nat → Prop}
    (hR : ∀ x c S, R x c S → S.Nodup → ∃ S', S'.Sublist S ∧ ∀ F', Left F F' S S' → R' F' x c S') :
    ∀ {xs : List α} {cs : List Value} {S : List Nat}, OwnL R xs cs S → S.Nodup → ∃ S', S'.Sublist S ∧ ∀ F', Left F F' S S' → OwnL (R' F') xs cs S'
  | [], _, _, ⟨h, k⟩, _ => ⟨[], by simp [k], fun _ _ => ⟨h, rfl⟩⟩
  | x :: xs, _, _, ⟨c, d, S1, S2, e, e', hc, hd⟩, hn => by
    subst e'
    obtain ⟨T1, s1, k1⟩ := hR _ _ _ hc (List.nodup_append.1 hn).1
    obtain ⟨T2, s2, k2⟩ := OwnL.fits hR hd (List.nodup_append.1 hn).2.1
    exact ⟨T1 ++ T2, s1.append s2, fun F' hl => ⟨c, d, T1, T2, e, rfl, k1 F' (hl.left hn s2), k2 F' (hl.right hn s1)⟩⟩

theorem isSh_eq {f : Fl} (h : f.isSh = true) : f = .sh := by cases f <;> simp [Fl.isSh] at h; rfl

theorem fits_leaf {w : World} {F : Nat → Prop} {t : Ty} {f g : Fl} {x : t.den} {cs : List Value} {S : List Nat} (h : (f.isSh && g.isSh) = true) (k : Own w F t f x cs S) :
    ∃ S', S'.Sublist S ∧ ∀ F', Left F F' S S' → Own w F' t g x cs S' := by
  simp only [Bool.and_eq_true] at h
  cases isSh_eq h.1
  cases isSh_eq h.2
  obtain ⟨hr, rfl⟩ := Own.sh_iff.1 k
  exact ⟨[], List.Sublist.refl _, fun F' hl => Own.sh_iff.2 ⟨Rep.mono (fun b hb => ⟨hl.1 b hb, rfl⟩) hr, rfl⟩⟩

theorem fits_ow {a : Ty} {f : Fl} : Fl.fits a f .ho = true → False := by
  induction a generalizing f with
  | int _ => simp [Fl.fits, Fl.isSh]
  | bool => simp [Fl.fits, Fl.isSh]
  | str => simp [Fl.fits, Fl.isSh]
  | list _ _ => cases f <;> simp [Fl.fits]
  | arr _ _ _ => simp [Fl.fits, Fl.isSh]
  | prod a b iha ihb => intro h; simp [Fl.fits, Fl.fst] at h; exact iha h.1
  | agg t ih => exact fun h => ih (by simpa [Fl.fits] using h)

theorem split3 {α : Type} (d : α) : ∀ {xs : List α} {i : Nat}, i < xs.length → xs = xs.take i ++ (xs.getD i d :: xs.drop (i + 1))
  | [], _, h => by simp at h
  | x :: xs, 0, _ => by simp
  | x :: xs, i + 1, h => by
    have := split3 d (xs := xs) (i := i) (by simpa using h)
    simp only [List.take_succ_cons, List.getD_cons_succ, List.drop_succ_cons, List.cons_append]
    rw [← this]

theorem OwnL.one {α : Type} {R : α → List Value → List Nat → Prop} {x : α} {c : List Value} {S : List Nat} (h : R x c S) : OwnL R [x] c S := ⟨c, [], S, [], by simp, by simp, h, rfl, rfl⟩

theorem OwnL.cat3 {α : Type} {R : α → List Value → List Nat → Prop} (d : α) {xs : List α} {i : Nat} (hi : i < xs.length) {c₀ c₁ c₂ : List Value} {S₀ S₁ S₂ : List Nat}
    (h0 : OwnL R (xs.take i) c₀ S₀) (h1 : R (xs.getD i d) c₁ S₁) (h2 : OwnL R (xs.drop (i + 1)) c₂ S₂) : OwnL R xs (c₀ ++ (c₁ ++ c₂)) (S₀ ++ (S₁ ++ S₂)) := by
  have := OwnL.append h0 (OwnL.append (OwnL.one h1) h2)
  rwa [List.singleton_append, ← split3 d hi] at this

theorem fits_own {w : World} {F : Nat → Prop} : ∀ {t : Ty} {f g : Fl} {x : t.den} {cs : List Value} {S : List Nat}, Fl.fits t f g = true → Own w F t f x cs S → S.Nodup →
    ∃ S', S'.Sublist S ∧ ∀ F', Left F F' S S' → Own w F' t g x cs S'
  | .int _, f, g, _, _, _, h, k, _ => fits_leaf h k
  | .bool, f, g, _, _, _, h, k, _ => fits_leaf h k
  | .str, f, g, _, _, _, h, k, _ => fits_leaf h k
  | .arr _ _, f, g, _, _, _, h, k, _ => fits_leaf h k
  | .agg t, f, g, x, _, _, h, k, hn => fits_own (t := t) (f := f) (g := g) (x := x) h k hn
  | .prod a b, f, g, x, cs, S, h, k, hn => by
    simp only [Fl.fits, Bool.and_eq_true] at h
    obtain ⟨c, d, S₁, S₂, rfl, rfl, hc, hd⟩ := k.split
    obtain ⟨T1, s1, k1⟩ := fits_own h.1 hc (List.nodup_append.1 hn).1
    obtain ⟨T2, s2, k2⟩ := fits_own h.2 hd (List.nodup_append.1 hn).2.1
    refine ⟨T1 ++ T2, s1.append s2, fun F' hl => ?_⟩
    have h1 := k1 F' (hl.left hn s2)
    have h2 := k2 F' (hl.right hn s1)
    cases g with
    | sh =>
      obtain ⟨r1, rfl⟩ := Own.sh_iff.1 h1
      obtain ⟨r2, rfl⟩ := Own.sh_iff.1 h2
      exact ⟨⟨c, d, rfl, r1, r2⟩, rfl⟩
    | pr g1 g2 => exact ⟨c, d, T1, T2, rfl, rfl, h1, h2⟩
    | ho => exact (fits_ow h.1).elim
    | ow c' => exact (fits_ow h.1).elim
    | owx i c' d' => exact (fits_ow h.1).elim
  | .list t, f, g, x, cs, S, h, k, hn => by
    cases f with
    | sh =>
      cases g with
      | sh => exact fits_leaf rfl k
      | _ => simp [Fl.fits] at h
    | ho => cases g <;> simp [Fl.fits] at h
    | pr _ _ => cases g <;> simp [Fl.fits] at h
    | ow a =>
      cases g with
      | sh =>
        refine ⟨[], List.nil_sublist _, fun F' hl => Own.sh_iff.2 ⟨Own.rep hl.1 (by simpa [Fl.fits, Fl.noho] using h) (fun b hb => hl.2 b hb (by simp)) k, rfl⟩⟩
      | ow c =>
        obtain ⟨A, cap, e, hb, k⟩ := k
        rcases k with ⟨rfl, hcap, rfl⟩ | ⟨b, off, row, e', S', hA, rfl, hh, hl, hr, ho⟩
        · exact ⟨[], List.Sublist.refl _, fun F' _ => ⟨A, cap, e, hb, .inl ⟨rfl, hcap, rfl⟩⟩⟩
        · obtain ⟨T, s, kk⟩ := OwnL.fits (F := F) (R' := fun F' => Own w F' t c) (fun x c S hx hs => fits_own (by simpa [Fl.fits] using h) hx hs) ho (List.nodup_cons.1 hn).2
          refine ⟨b :: T, s.cons_cons b, fun F' hl' => ⟨A, cap, e, hb, .inr ⟨b, off, row, e', T, hA, rfl, hh, hl, hr, kk F' ⟨hl'.1, fun y hy hny => hl'.2 y (by simp [hy]) ?_⟩⟩⟩⟩
          simp only [List.mem_cons, not_or]
          exact ⟨fun e => (List.nodup_cons.1 hn).1 (e ▸ hy), hny⟩
      | _ => simp [Fl.fits] at h
    | owx i a d =>
      cases g with
      | ow c =>
        simp only [Fl.fits, Bool.and_eq_true] at h
        obtain ⟨A, cap, e, hb, hi, b, off, row, e', c₀, c₁, c₂, S₀, S₁, S₂, hA, rfl, hh, hl, hr, hc, h0, h1, h2⟩ := k
        have hn' := (List.nodup_cons.1 hn).2
        have hn3 := (List.nodup_append.1 hn').2.1
        obtain ⟨T0, s0, k0⟩ := OwnL.fits (F := F) (R' := fun F' => Own w F' t c) (fun x c S hx hs => fits_own h.1 hx hs) h0 (List.nodup_append.1 hn').1
        obtain ⟨T1, s1, k1⟩ := fits_own h.2 h1 (List.nodup_append.1 hn3).1
        obtain ⟨T2, s2, k2⟩ := OwnL.fits (F := F) (R' := fun F' => Own w F' t c) (fun x c S hx hs => fits_own h.1 hx hs) h2 (List.nodup_append.1 hn3).2.1
        refine ⟨b :: (T0 ++ (T1 ++ T2)), (s0.append (s1.append s2)).cons_cons b, fun F' hl' => ?_⟩
        have hL : Left F F' (S₀ ++ (S₁ ++ S₂)) (T0 ++ (T1 ++ T2)) := ⟨hl'.1, fun y hy hny => hl'.2 y (List.mem_cons_of_mem _ hy) (by
          simp only [List.mem_cons, not_or]
          exact ⟨fun e => (List.nodup_cons.1 hn).1 (e ▸ hy), hny⟩)⟩
        have hL2 := hL.right hn' s0
        refine ⟨A, cap, e, hb, .inr ⟨b, off, row, e', _, hA, rfl, hh, hl, hr, ?_⟩⟩
        rw [hc]
        exact OwnL.cat3 t.dflt hi (k0 F' (hL.left hn' (s1.append s2))) (k1 F' (hL2.left hn3 s2)) (k2 F' (hL2.right hn3 s1))
      | _ => simp [Fl.fits] at h

end Go.Proofs.YtllcebmbaejlhaaDoor.Ab
