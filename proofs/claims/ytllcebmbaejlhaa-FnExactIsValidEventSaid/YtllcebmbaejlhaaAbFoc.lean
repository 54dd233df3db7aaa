/- A part of a value: where it lies, and what becomes of the whole if another is laid there. -/
import Derived.Test.YtllcebmbaejlhaaAbRep
namespace Go.Proofs.Ytllcebmbaejlhaa.Ab
open Go

theorem DV.as_eq {d : DV} {t : Ty} {x : t.den} (h : d.as t = some x) : d = ⟨t, x⟩ := by
  unfold DV.as at h
  split at h
  · rename_i e
    obtain ⟨t', y⟩ := d
    cases e
    cases h
    rfl
  · cases h

theorem DV.as_self (t : Ty) (x : t.den) : DV.as ⟨t, x⟩ t = some x := by simp [DV.as]

/-- What stays between two worlds: what 'F' names, and what 'F'' names besides. -/
def Stays (w w' : World) (F F' : Nat → Prop) : Prop := ∀ b, F b → F' b ∧ w'.heap[b]? = w.heap[b]?

theorem Stays.refl (w : World) (F : Nat → Prop) : Stays w w F F := fun _ h => ⟨h, rfl⟩

/-- The part 'd' of the value 'x' of type 't', owned by 'g', lies 'off' cells behind its begin; 'set' and 'setf' tell the whole behind a change of it. -/
def Foc (w : World) (F : Nat → Prop) (t : Ty) (cs : List Value) (S : List Nat) (d : DV) (g : Fl) (off : Nat) (set : DV → Option t.den) (setf : Fl → Fl) : Prop :=
  ∃ c₀ c₁ c₂ S₀ S₁ S₂, cs = c₀ ++ (c₁ ++ c₂) ∧ S = S₀ ++ (S₁ ++ S₂) ∧ c₀.length = off ∧ Own w F d.t g d.x c₁ S₁ ∧
    ∀ (w' : World) (F' : Nat → Prop) (y : d.t.den) (g' : Fl) (c₁' : List Value) (S₁' : List Nat), Stays w w' F F' → (∀ b ∈ S₀ ++ S₂, w'.heap[b]? = w.heap[b]?) → Own w' F' d.t g' y c₁' S₁' →
      ∃ x', set ⟨d.t, y⟩ = some x' ∧ Own w' F' t (setf g') x' (c₀ ++ (c₁' ++ c₂)) (S₀ ++ (S₁' ++ S₂))

theorem Foc.self {w : World} {F : Nat → Prop} {t : Ty} {f : Fl} {x : t.den} {cs : List Value} {S : List Nat} (h : Own w F t f x cs S) :
    Foc w F t cs S ⟨t, x⟩ f 0 (fun d => d.as t) (fun g => g) :=
  ⟨[], cs, [], [], S, [], by simp, by simp, rfl, h, fun w' F' y g' c S' _ _ h => ⟨y, DV.as_self t y, by simpa using h⟩⟩

theorem Own.sh_iff {w : World} {F : Nat → Prop} : ∀ {t : Ty} {x : t.den} {cs : List Value} {S : List Nat}, Own w F t .sh x cs S ↔ Rep w F t x cs ∧ S = []
  | .int _, _, _, _ => Iff.rfl
  | .bool, _, _, _ => Iff.rfl
  | .str, _, _, _ => Iff.rfl
  | .list _, _, _, _ => Iff.rfl
  | .arr _ _, _, _, _ => Iff.rfl
  | .prod _ _, _, _, _ => Iff.rfl
  | .agg t, x, _, _ => Own.sh_iff (t := t) (x := x)

theorem Own.ho_iff {w : World} {F : Nat → Prop} : ∀ {t : Ty} {x : t.den} {cs : List Value} {S : List Nat}, Own w F t .ho x cs S ↔ cs.length = t.sz ∧ (∀ c ∈ cs, c.oneCell' = true) ∧ S = []
  | .int _, _, _, _ => Iff.rfl
  | .bool, _, _, _ => Iff.rfl
  | .str, _, _, _ => Iff.rfl
  | .list _, _, _, _ => Iff.rfl
  | .arr _ _, _, _, _ => Iff.rfl
  | .prod _ _, _, _, _ => Iff.rfl
  | .agg t, x, _, _ => Own.ho_iff (t := t) (x := x)

theorem Own.split {w : World} {F : Nat → Prop} {a b : Ty} {f : Fl} {x : (Ty.prod a b).den} {cs : List Value} {S : List Nat} (h : Own w F (.prod a b) f x cs S) :
    ∃ c d S₁ S₂, cs = c ++ d ∧ S = S₁ ++ S₂ ∧ Own w F a f.fst x.1 c S₁ ∧ Own w F b f.snd x.2 d S₂ := by
  cases f with
  | sh =>
    obtain ⟨⟨c, d, e, hc, hd⟩, rfl⟩ := h
    exact ⟨c, d, [], [], e, rfl, Own.sh_iff.2 ⟨hc, rfl⟩, Own.sh_iff.2 ⟨hd, rfl⟩⟩
  | ow c => exact h.elim
  | owx i c d => exact h.elim
  | pr f g => exact h
  | ho =>
    obtain ⟨hl, h1, rfl⟩ := h
    simp only [Ty.sz] at hl
    refine ⟨cs.take a.sz, cs.drop a.sz, [], [], by simp, rfl, Own.ho_iff.2 ⟨by simp; omega, fun c hc => h1 c (List.mem_of_mem_take hc), rfl⟩, Own.ho_iff.2 ⟨by simp; omega, fun c hc => h1 c (List.mem_of_mem_drop hc), rfl⟩⟩

theorem kz {k : Nat} (h : ¬ k = 0) : (k == 0) = false := by simpa using h

def offF : (t : Ty) → Nat → Nat
  | .prod a b, k => bif k == 0 then 0 else a.sz + offF b (k - 1)
  | .int _, _ => 0
  | .bool, _ => 0
  | .str, _ => 0
  | .list _, _ => 0
  | .arr _ _, _ => 0
  | .agg _, _ => 0

theorem Own.foc {w : World} {F : Nat → Prop} : ∀ {t : Ty} {k : Nat} {f : Fl} {x : t.den} {cs : List Value} {S : List Nat} {d : DV}, Own w F t f x cs S → getF t k x = some d →
    Foc w F t cs S d (flF t k f) (offF t k) (setF t k x) (setFlF t k f)
  | .prod a b, k, f, x, cs, S, d, h, hg => by
    obtain ⟨c, e, S₁, S₂, rfl, rfl, hc, he⟩ := h.split
    by_cases hk : k = 0
    · subst hk
      simp only [getF, beq_self_eq_true, cond_true, Option.some.injEq] at hg
      subst hg
      refine ⟨[], c, e, [], S₁, S₂, rfl, rfl, by simp [offF], by simpa [flF] using hc, ?_⟩
      intro w' F' y g' c' S' hst hS hy
      refine ⟨(y, x.2), by simp [setF, DV.as_self]; rfl, ?_⟩
      simp only [setFlF, beq_self_eq_true, cond_true]
      exact ⟨c', e, S', S₂, rfl, rfl, hy, Own.mono hst (fun b hb => hS b (by simpa using hb)) he⟩
    · have hk' : (k == 0) = false := by simpa using hk
      simp only [getF, hk', cond_false] at hg
      obtain ⟨c₀, c₁, c₂, T₀, T₁, T₂, rfl, rfl, hl, ho, hset⟩ := Own.foc he hg
      refine ⟨c ++ c₀, c₁, c₂, S₁ ++ T₀, T₁, T₂, by simp, by simp, ?_, by simpa [flF, hk'] using ho, ?_⟩
      · simp [offF, hk', hl, Own.length hc]
      intro w' F' y g' c' S' hst hS hy
      obtain ⟨x', hx', ho'⟩ := hset w' F' y g' c' S' hst (fun b hb => hS b (by simp at hb ⊢; rcases hb with hb | hb <;> simp [hb])) hy
      refine ⟨(x.1, x'), by simp [setF, hk', hx']; rfl, ?_⟩
      simp only [setFlF, hk', cond_false]
      exact ⟨c, c₀ ++ (c' ++ c₂), S₁, T₀ ++ (S' ++ T₂), by simp, by simp, Own.mono hst (fun b hb => hS b (by simp [hb])) hc, ho'⟩
  | .int i, k, f, x, cs, S, d, h, hg => Own.foc_leaf h hg (by intro h; subst h; rfl) (by intro h; simp [getF, kz h]) rfl rfl (by intro hk d; subst hk; rfl) (fun g => rfl)
  | .bool, k, f, x, cs, S, d, h, hg => Own.foc_leaf h hg (by intro h; subst h; rfl) (by intro h; simp [getF, kz h]) rfl rfl (by intro hk d; subst hk; rfl) (fun g => rfl)
  | .str, k, f, x, cs, S, d, h, hg => Own.foc_leaf h hg (by intro h; subst h; rfl) (by intro h; simp [getF, kz h]) rfl rfl (by intro hk d; subst hk; rfl) (fun g => rfl)
  | .list _, k, f, x, cs, S, d, h, hg => Own.foc_leaf h hg (by intro h; subst h; rfl) (by intro h; simp [getF, kz h]) rfl rfl (by intro hk d; subst hk; rfl) (fun g => rfl)
  | .arr _ _, k, f, x, cs, S, d, h, hg => Own.foc_leaf h hg (by intro h; subst h; rfl) (by intro h; simp [getF, kz h]) rfl rfl (by intro hk d; subst hk; rfl) (fun g => rfl)
  | .agg _, k, f, x, cs, S, d, h, hg => Own.foc_leaf h hg (by intro h; subst h; rfl) (by intro h; simp [getF, kz h]) rfl rfl (by intro hk d; subst hk; rfl) (fun g => rfl)
  where
  Own.foc_leaf {t : Ty} {k : Nat} {f : Fl} {x : t.den} {cs : List Value} {S : List Nat} {d : DV} (h : Own w F t f x cs S) (hg : getF t k x = some d)
      (h0 : k = 0 → getF t k x = some ⟨t, x⟩) (h1 : ¬ k = 0 → getF t k x = none) (hf : flF t k f = f) (hoff : offF t k = 0) (hs : k = 0 → ∀ d, setF t k x d = d.as t) (hfl : ∀ g, setFlF t k f g = g) :
      Foc w F t cs S d (flF t k f) (offF t k) (setF t k x) (setFlF t k f) := by
    by_cases hk : k = 0
    · rw [h0 hk] at hg
      cases hg
      rw [hf, hoff]
      obtain ⟨c₀, c₁, c₂, S₀, S₁, S₂, e1, e2, hl, ho, hset⟩ := Foc.self h
      refine ⟨c₀, c₁, c₂, S₀, S₁, S₂, e1, e2, hl, ho, ?_⟩
      intro w' F' y g' c' S' hst hS hy
      obtain ⟨x', hx', ho'⟩ := hset w' F' y g' c' S' hst hS hy
      exact ⟨x', by rw [hs hk]; exact hx', by rw [hfl]; exact ho'⟩
    · rw [h1 hk] at hg; cases hg

def offP : List Nat → Ty → Nat
  | [], _ => 0
  | k :: ks, .agg t => offF t k + offP ks ((t.fld k).getD .bool)
  | _ :: _, _ => 0

theorem fld_getF : ∀ {t : Ty} {k : Nat} {x : t.den} {d : DV}, getF t k x = some d → t.fld k = some d.t
  | .prod a b, k, x, d, h => by
    by_cases hk : k = 0
    · subst hk; simp [getF] at h; subst h; simp [Ty.fld]
    · have hk' : (k == 0) = false := by simpa using hk
      simp only [getF, hk', cond_false] at h
      simp only [Ty.fld, hk', cond_false]
      exact fld_getF h
  | .int _, k, x, d, h => by
    by_cases hk : k = 0
    · subst hk; simp [getF] at h; subst h; rfl
    · have hk' : (k == 0) = false := by simpa using hk
      simp [getF, hk'] at h
  | .bool, k, x, d, h => by
    by_cases hk : k = 0
    · subst hk; simp [getF] at h; subst h; rfl
    · have hk' : (k == 0) = false := by simpa using hk
      simp [getF, hk'] at h
  | .str, k, x, d, h => by
    by_cases hk : k = 0
    · subst hk; simp [getF] at h; subst h; rfl
    · have hk' : (k == 0) = false := by simpa using hk
      simp [getF, hk'] at h
  | .list _, k, x, d, h => by
    by_cases hk : k = 0
    · subst hk; simp [getF] at h; subst h; rfl
    · have hk' : (k == 0) = false := by simpa using hk
      simp [getF, hk'] at h
  | .arr _ _, k, x, d, h => by
    by_cases hk : k = 0
    · subst hk; simp [getF] at h; subst h; rfl
    · have hk' : (k == 0) = false := by simpa using hk
      simp [getF, hk'] at h
  | .agg _, k, x, d, h => by
    by_cases hk : k = 0
    · subst hk; simp [getF] at h; subst h; rfl
    · have hk' : (k == 0) = false := by simpa using hk
      simp [getF, hk'] at h

theorem Own.focP {w : World} {F : Nat → Prop} : ∀ {ks : List Nat} {t : Ty} {f : Fl} {x : t.den} {cs : List Value} {S : List Nat} {d : DV}, Own w F t f x cs S → getP ks t x = some d →
    Foc w F t cs S d (flP ks t f) (offP ks t) (setP ks t x) (setFlP ks t f)
  | [], t, f, x, cs, S, d, h, hg => by
    simp only [getP, Option.some.injEq] at hg
    subst hg
    exact Foc.self h
  | k :: ks, .agg t, f, x, cs, S, d, h, hg => by
    simp only [getP, Option.bind_eq_some_iff] at hg
    obtain ⟨e, he, hg⟩ := hg
    have hfld := fld_getF he
    obtain ⟨c₀, c₁, c₂, S₀, S₁, S₂, e1, e2, hl, ho, hset⟩ := Own.foc (t := t) (f := f) h he
    subst e1 e2
    obtain ⟨a₀, a₁, a₂, T₀, T₁, T₂, e3, e4, hl', ho', hset'⟩ := Own.focP ho hg
    subst e3 e4
    refine ⟨c₀ ++ a₀, a₁, a₂ ++ c₂, S₀ ++ T₀, T₁, T₂ ++ S₂, by simp, by simp, by simp [offP, hfld, hl, hl'], by simpa [flP, hfld] using ho', ?_⟩
    intro w' F' y g' c' S' hst hS hy
    obtain ⟨y', hy', hoy⟩ := hset' w' F' y g' c' S' hst (fun b hb => hS b (by simp at hb ⊢; rcases hb with hb | hb <;> simp [hb])) hy
    obtain ⟨x', hx', hox⟩ := hset w' F' y' _ _ _ hst (fun b hb => hS b (by simp at hb ⊢; rcases hb with hb | hb <;> simp [hb])) hoy
    refine ⟨x', by simp [setP, he, hy']; exact hx', ?_⟩
    simp only [setFlP, hfld, Option.getD_some]
    have : c₀ ++ a₀ ++ (c' ++ (a₂ ++ c₂)) = c₀ ++ ((a₀ ++ (c' ++ a₂)) ++ c₂) := by simp
    rw [this]
    have : S₀ ++ T₀ ++ (S' ++ (T₂ ++ S₂)) = S₀ ++ ((T₀ ++ (S' ++ T₂)) ++ S₂) := by simp
    rw [this]
    exact hox
  | _ :: _, .int _, _, _, _, _, _, _, hg => by simp [getP] at hg
  | _ :: _, .bool, _, _, _, _, _, _, hg => by simp [getP] at hg
  | _ :: _, .str, _, _, _, _, _, _, hg => by simp [getP] at hg
  | _ :: _, .list _, _, _, _, _, _, _, hg => by simp [getP] at hg
  | _ :: _, .arr _ _, _, _, _, _, _, _, hg => by simp [getP] at hg
  | _ :: _, .prod _ _, _, _, _, _, _, _, hg => by simp [getP] at hg

end Go.Proofs.Ytllcebmbaejlhaa.Ab
