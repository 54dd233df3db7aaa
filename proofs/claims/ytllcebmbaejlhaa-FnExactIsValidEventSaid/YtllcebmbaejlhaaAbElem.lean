/- An element of an owned slice: where it lies, and what becomes of the whole if another is laid there. -/
import Derived.Test.YtllcebmbaejlhaaAbList
namespace Go.Proofs.Ytllcebmbaejlhaa.Ab
open Go

theorem typP_getP : ∀ {ks : List Nat} {t : Ty} {x : t.den} {d : DV}, getP ks t x = some d → typP ks t = some d.t
  | [], t, x, d, h => by simp [getP] at h; subst h; rfl
  | k :: ks, .agg t, x, d, h => by
    simp only [getP, Option.bind_eq_some_iff] at h
    obtain ⟨e, he, h⟩ := h
    simp [typP, fld_getF he, typP_getP h]
  | _ :: _, .int _, _, _, h => by simp [getP] at h
  | _ :: _, .bool, _, _, h => by simp [getP] at h
  | _ :: _, .str, _, _, h => by simp [getP] at h
  | _ :: _, .list _, _, _, h => by simp [getP] at h
  | _ :: _, .arr _ _, _, _, h => by simp [getP] at h
  | _ :: _, .prod _ _, _, _, h => by simp [getP] at h

theorem getF_fld : ∀ {t : Ty} {k : Nat} {u : Ty} (x : t.den), t.fld k = some u → ∃ y : u.den, getF t k x = some ⟨u, y⟩
  | .prod a b, k, u, x, h => by
    by_cases hk : k = 0
    · subst hk; simp [Ty.fld] at h; subst h; exact ⟨x.1, by simp [getF]⟩
    · simp only [Ty.fld, kz hk, cond_false] at h
      obtain ⟨y, hy⟩ := getF_fld x.2 h
      exact ⟨y, by simp [getF, kz hk, hy]⟩
  | .int _, k, u, x, h => getF_leaf x h (by intro h; subst h; rfl) (by intro h; simp [Ty.fld, kz h]) (by intro h; subst h; rfl)
  | .bool, k, u, x, h => getF_leaf x h (by intro h; subst h; rfl) (by intro h; simp [Ty.fld, kz h]) (by intro h; subst h; rfl)
  | .str, k, u, x, h => getF_leaf x h (by intro h; subst h; rfl) (by intro h; simp [Ty.fld, kz h]) (by intro h; subst h; rfl)
  | .list _, k, u, x, h => getF_leaf x h (by intro h; subst h; rfl) (by intro h; simp [Ty.fld, kz h]) (by intro h; subst h; rfl)
  | .arr _ _, k, u, x, h => getF_leaf x h (by intro h; subst h; rfl) (by intro h; simp [Ty.fld, kz h]) (by intro h; subst h; rfl)
  | .agg _, k, u, x, h => getF_leaf x h (by intro h; subst h; rfl) (by intro h; simp [Ty.fld, kz h]) (by intro h; subst h; rfl)
  where
  getF_leaf {t : Ty} {k : Nat} {u : Ty} (x : t.den) (h : t.fld k = some u) (h0 : k = 0 → t.fld k = some t) (h1 : ¬ k = 0 → t.fld k = none) (hg : k = 0 → getF t k x = some ⟨t, x⟩) :
      ∃ y : u.den, getF t k x = some ⟨u, y⟩ := by
    by_cases hk : k = 0
    · rw [h0 hk] at h; cases h; exact ⟨x, hg hk⟩
    · rw [h1 hk] at h; cases h

theorem getP_typP : ∀ {ks : List Nat} {t u : Ty} (x : t.den), typP ks t = some u → ∃ y : u.den, getP ks t x = some ⟨u, y⟩
  | [], t, u, x, h => by simp [typP] at h; subst h; exact ⟨x, rfl⟩
  | k :: ks, .agg t, u, x, h => by
    simp only [typP, Option.bind_eq_some_iff] at h
    obtain ⟨v, hv, h⟩ := h
    obtain ⟨y, hy⟩ := getF_fld (t := t) x hv
    obtain ⟨z, hz⟩ := getP_typP y h
    exact ⟨z, by simp [getP, hy, hz]⟩
  | _ :: _, .int _, _, _, h => by simp [typP] at h
  | _ :: _, .bool, _, _, h => by simp [typP] at h
  | _ :: _, .str, _, _, h => by simp [typP] at h
  | _ :: _, .list _, _, _, h => by simp [typP] at h
  | _ :: _, .arr _ _, _, _, h => by simp [typP] at h
  | _ :: _, .prod _ _, _, _, h => by simp [typP] at h

theorem setF_getF : ∀ {t : Ty} {k : Nat} {x : t.den} {d : DV}, getF t k x = some d → setF t k x d = some x
  | .prod a b, k, x, d, h => by
    by_cases hk : k = 0
    · subst hk; simp [getF] at h; subst h; simp [setF, DV.as_self]; rfl
    · simp only [getF, kz hk, cond_false] at h
      simp only [setF, kz hk, cond_false, setF_getF h]; rfl
  | .int _, k, x, d, h => setF_leaf h (by intro h; subst h; rfl) (by intro h; simp [getF, kz h]) (by intro h d; subst h; rfl)
  | .bool, k, x, d, h => setF_leaf h (by intro h; subst h; rfl) (by intro h; simp [getF, kz h]) (by intro h d; subst h; rfl)
  | .str, k, x, d, h => setF_leaf h (by intro h; subst h; rfl) (by intro h; simp [getF, kz h]) (by intro h d; subst h; rfl)
  | .list _, k, x, d, h => setF_leaf h (by intro h; subst h; rfl) (by intro h; simp [getF, kz h]) (by intro h d; subst h; rfl)
  | .arr _ _, k, x, d, h => setF_leaf h (by intro h; subst h; rfl) (by intro h; simp [getF, kz h]) (by intro h d; subst h; rfl)
  | .agg _, k, x, d, h => setF_leaf h (by intro h; subst h; rfl) (by intro h; simp [getF, kz h]) (by intro h d; subst h; rfl)

  where
  setF_leaf {t : Ty} {k : Nat} {x : t.den} {d : DV} (hg : getF t k x = some d) (h0 : k = 0 → getF t k x = some ⟨t, x⟩) (h1 : ¬ k = 0 → getF t k x = none) (hs : k = 0 → ∀ d, setF t k x d = d.as t) :
      setF t k x d = some x := by
    by_cases hk : k = 0
    · rw [h0 hk] at hg; cases hg; rw [hs hk]; exact DV.as_self _ _
    · rw [h1 hk] at hg; cases hg

theorem setP_getP : ∀ {ks : List Nat} {t : Ty} {x : t.den} {d : DV}, getP ks t x = some d → setP ks t x d = some x
  | [], t, x, d, h => by simp [getP] at h; subst h; exact DV.as_self _ _
  | k :: ks, .agg t, x, d, h => by
    simp only [getP, Option.bind_eq_some_iff] at h
    obtain ⟨e, he, h⟩ := h
    simp only [setP, he, Option.bind_some, setP_getP h]
    exact setF_getF he
  | _ :: _, .int _, _, _, h => by simp [getP] at h
  | _ :: _, .bool, _, _, h => by simp [getP] at h
  | _ :: _, .str, _, _, h => by simp [getP] at h
  | _ :: _, .list _, _, _, h => by simp [getP] at h
  | _ :: _, .arr _ _, _, _, h => by simp [getP] at h
  | _ :: _, .prod _ _, _, _, h => by simp [getP] at h

theorem set_getD {α : Type} (d : α) : ∀ {xs : List α} {i : Nat}, xs.set i (xs.getD i d) = xs
  | [], _ => rfl
  | x :: xs, 0 => by simp
  | x :: xs, i + 1 => by simpa using set_getD d (xs := xs) (i := i)

theorem OwnL.split3 {α : Type} {R : α → List Value → List Nat → Prop} {n : Nat} (hR : ∀ x c S, R x c S → c.length = n) (d : α) :
    ∀ {xs : List α} {i : Nat} {cs : List Value} {S : List Nat}, OwnL R xs cs S → i < xs.length →
      ∃ c₀ c₁ c₂ S₀ S₁ S₂, cs = c₀ ++ (c₁ ++ c₂) ∧ S = S₀ ++ (S₁ ++ S₂) ∧ c₀.length = i * n ∧ OwnL R (xs.take i) c₀ S₀ ∧ R (xs.getD i d) c₁ S₁ ∧ OwnL R (xs.drop (i + 1)) c₂ S₂
  | [], _, _, _, _, h => by simp at h
  | x :: xs, 0, _, _, ⟨c, e, S1, S2, h1, h2, hc, he⟩, _ => ⟨[], c, e, [], S1, S2, h1, h2, by simp, ⟨rfl, rfl⟩, by simpa using hc, by simpa using he⟩
  | x :: xs, i + 1, _, _, ⟨c, e, S1, S2, h1, h2, hc, he⟩, hi => by
    obtain ⟨c₀, c₁, c₂, T₀, T₁, T₂, e1, e2, hl, h0, hx, h3⟩ := OwnL.split3 hR d he (by simpa using hi)
    subst e1 e2 h1 h2
    exact ⟨c ++ c₀, c₁, c₂, S1 ++ T₀, T₁, T₂, by simp, by simp, by simp [hl, hR _ _ _ hc, Nat.succ_mul, Nat.add_comm], ⟨c, c₀, S1, T₀, rfl, rfl, hc, h0⟩, by simpa using hx, by simpa using h3⟩

/-- An owned slice whose i-th element is looked at by itself. -/
theorem Own.open {w : World} {F : Nat → Prop} {u : Ty} {c : Fl} {xs : List u.den} {cs : List Value} {S : List Nat} {i : Nat} (hi : i < xs.length) (h : Own w F (.list u) (.ow c) xs cs S) :
    Own w F (.list u) (.owx i c c) xs cs S := by
  obtain ⟨A, cap, e, hb, ⟨rfl, _⟩ | ⟨b, off, row, e', S', hA, rfl, hh, hl, hr, ho⟩⟩ := h
  · simp at hi
  obtain ⟨c₀, c₁, c₂, S₀, S₁, S₂, h1, h2, hlen, h3, h4, h5⟩ := OwnL.split3 (fun x c S h => Own.length h) u.dflt ho hi
  exact ⟨A, cap, e, hb, hi, b, off, row, e', c₀, c₁, c₂, S₀, S₁, S₂, hA, by rw [h2], hh, hl, hr, h1, h3, h4, h5⟩

/-- The element that is looked at by itself. -/
theorem Own.elem {w : World} {F : Nat → Prop} {u : Ty} {c d : Fl} {xs : List u.den} {cs : List Value} {S : List Nat} {i : Nat} (h : Own w F (.list u) (.owx i c d) xs cs S) :
    ∃ b off cap row e S₀ S₁ S₂, cs = [.slice (some ⟨b, off, none⟩) xs.length cap] ∧ i < xs.length ∧ S = b :: (S₀ ++ (S₁ ++ S₂)) ∧ w.heap[b]? = some (.cells row e (0, 0)) ∧ off + (i + 1) * u.sz ≤ row.size ∧
      Own w F u d (xs.getD i u.dflt) (seg row (off + i * u.sz) u.sz) S₁ ∧
      ∀ (w' : World) (F' : Nat → Prop) (y : u.den) (d' : Fl) (row' : Array Value) (S₁' : List Nat), Stays w w' F F' → (∀ b ∈ S₀ ++ S₂, w'.heap[b]? = w.heap[b]?) →
        w'.heap[b]? = some (.cells row' e (0, 0)) → row'.size = row.size → (∀ j, j < off + i * u.sz ∨ off + i * u.sz + u.sz ≤ j → row'[j]? = row[j]?) →
        Own w' F' u d' y (seg row' (off + i * u.sz) u.sz) S₁' → Own w' F' (.list u) (.owx i c d') (xs.set i y) cs (b :: (S₀ ++ (S₁' ++ S₂))) := by
  obtain ⟨A, cap, e, hb, hi, b, off, row, e', c₀, c₁, c₂, S₀, S₁, S₂, hA, rfl, hh, hl, hr, hc, h0, h1, h2⟩ := h
  subst hA
  have l0 : c₀.length = i * u.sz := by rw [OwnL.length (fun x c S h => Own.length h) h0, List.length_take, Nat.min_eq_left (Nat.le_of_lt hi)]
  have l1 : c₁.length = u.sz := Own.length h1
  have hsz : (i + 1) * u.sz ≤ xs.length * u.sz := Nat.mul_le_mul_right _ hi
  have hcap : xs.length * u.sz ≤ cap * u.sz := Nat.mul_le_mul_right _ hl
  have hs1 : (i + 1) * u.sz = i * u.sz + u.sz := Nat.succ_mul _ _
  have e1 : seg row (off + i * u.sz) u.sz = c₁ := by
    rw [← seg_seg (n := xs.length * u.sz) (by omega), hc, List.drop_append_of_le_length (by omega), List.drop_of_length_le (by omega), List.nil_append, List.take_append_of_le_length (by omega), List.take_of_length_le (by omega)]
  refine ⟨b, off, cap, row, e', S₀, S₁, S₂, e, hi, rfl, hh, by omega, by rw [e1]; exact h1, ?_⟩
  intro w' F' y d' row' S₁' hst hS hh' hsize hout hy
  have hlen : (xs.set i y).length = xs.length := by simp
  refine ⟨_, cap, by rw [hlen]; exact e, by rw [hlen]; exact hb, by rw [hlen]; exact hi, b, off, row', e', c₀, seg row' (off + i * u.sz) u.sz, c₂, S₀, S₁', S₂, rfl, rfl, hh', by rw [hlen]; exact hl, by omega, ?_, ?_, ?_, ?_⟩
  · rw [hlen]
    have hlen2 : (seg row (off) (xs.length * u.sz)).length = xs.length * u.sz := seg_length (by omega)
    have l2 : c₂.length = xs.length * u.sz - i * u.sz - u.sz := by
      have := congrArg List.length hc
      simp only [List.length_append] at this
      omega
    apply List.ext_getElem?
    intro j
    have key : ∀ j, (seg row' off (xs.length * u.sz))[j]? = if j < xs.length * u.sz then row'[off + j]? else none := by
      intro j; simp [seg, List.getElem?_take, List.getElem?_drop]
    have key2 : ∀ j, (c₀ ++ (c₁ ++ c₂))[j]? = if j < xs.length * u.sz then row[off + j]? else none := by
      intro j; rw [← hc]; simp [seg, List.getElem?_take, List.getElem?_drop]
    rw [key]
    have k2 := key2 j
    rw [List.getElem?_append] at k2 ⊢
    by_cases hj : j < c₀.length
    · rw [if_pos hj] at k2 ⊢
      rw [k2]
      split
      · rw [hout _ (.inl (by omega))]
      · rfl
    · rw [if_neg hj] at k2 ⊢
      have ls : (seg row' (off + i * u.sz) u.sz).length = u.sz := seg_length (by omega)
      rw [List.getElem?_append] at k2
      rw [List.getElem?_append]
      by_cases hj1 : j - c₀.length < u.sz
      · rw [if_pos (show j < xs.length * u.sz by omega), if_pos (by rw [ls]; exact hj1)]
        simp only [seg, List.getElem?_take, List.getElem?_drop, Array.getElem?_toList]
        rw [if_pos hj1]
        congr 1
        omega
      · rw [if_neg (show ¬ j - c₀.length < (seg row' (off + i * u.sz) u.sz).length by rw [ls]; exact hj1)]
        rw [if_neg (by rw [l1]; exact hj1), l1] at k2
        rw [ls, k2]
        split
        · rw [hout _ (.inr (by omega))]
        · rfl
  · rw [List.take_set_of_le (by omega)]
    exact OwnL.mono (fun x c S'' hs hx => Own.mono hst (fun b hb => hS b (by simp [hs b hb])) hx) h0
  · have : (xs.set i y).getD i u.dflt = y := by simp [List.getD, hi]
    rw [this]; exact hy
  · rw [List.drop_set_of_lt (by omega)]
    exact OwnL.mono (fun x c S'' hs hx => Own.mono hst (fun b hb => hS b (by simp [hs b hb])) hx) h2

end Go.Proofs.Ytllcebmbaejlhaa.Ab
