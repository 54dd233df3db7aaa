/- Operators and conversions. -/
import Derived.Test.YtllcebmbaejlhaaDoorAbIter
import Derived.Laws.StructEq
namespace Go.Proofs.YtllcebmbaejlhaaDoor.Ab
open Go

/-! ### Structs that are compared -/
def Ty.dep : Ty → Nat
  | .int _ | .bool | .str | .list _ | .arr _ _ => 1
  | .prod a b => max a.dep b.dep
  | .agg t => t.dep + 1

def nameB : List Field → Bool
  | [f] => decide (f.name ≠ "_")
  | _ => false

/-- '==' of values of the type goes as in the table. -/
def cmpB (P : Program) : Ty → (TypeId → Bool) × (List Field → Bool)
  | .int _ => (fun _ => true, nameB)
  | .bool => (fun _ => true, nameB)
  | .str => (fun _ => true, nameB)
  | .list _ => (fun _ => false, fun _ => false)
  | .arr _ _ => (fun _ => false, fun _ => false)
  | .prod a b => (fun _ => false, fun fs =>
      match fs with
      | f :: fs => decide (f.name ≠ "_") && (cmpB P a).1 f.type && (cmpB P b).2 fs
      | [] => false)
  | .agg u => (fun τ => !P.stoodInHeld τ && (match P.underlying τ with | some (.struct fs) => (cmpB P u).2 fs.toList | _ => false), fun fs =>
      match fs with
      | [f] => decide (f.name ≠ "_") && (!P.stoodInHeld f.type && (match P.underlying f.type with | some (.struct fs) => (cmpB P u).2 fs.toList | _ => false))
      | _ => false)

def cmpT (P : Program) (u : Ty) (τ : TypeId) : Bool := (cmpB P (.agg u)).1 τ && !P.eqGuardType P.depth τ && decide (u.dep < 10000)

/-- The compared types of the table. -/
def CmpOK (P : Program) (T : Types) : Prop := ∀ τ u, T τ = some (.agg u) → u.cmp = true → cmpT P u τ = true

section
variable {P : Program} {w : World} {F : Nat → Prop}

theorem eqFields_cons {d : Nat} {xs ys : Array Value} {f : Field} {fs : List Field} {x y : Value} {b : Bool} (hn : f.name ≠ "_") (hx : (part f.type xs f.offset).run P w = .ok x w) (hy : (part f.type ys f.offset).run P w = .ok y w)
    (he : (Op.equalIn d f.type x y).run P w = .ok b w) : (Op.eqFields d xs ys (f :: fs)).run P w = (if b then Op.eqFields d xs ys fs else pure false).run P w := by
  simp only [Op.eqFields, if_pos hn, Sem.run_bind, hx, hy, he, Result.andThen_ok]
  cases b <;> rfl

theorem leaf_fields {t : Ty} {fs : List Field} {off D : Nat} {b : Bool} {pre pre' cs ds post post' : List Value} (hn : nameB fs = true) (hone : ∃ f, fs = [f] ∧ f.offset = off ∧ Tie P t f.type) (h1 : pre.length = off) (h2 : pre'.length = off) (hc : cs.length = t.sz) (hd : ds.length = t.sz)
    (he : ∀ f, fs = [f] → Tie P t f.type → (Op.equalIn D f.type (toV t cs) (toV t ds)).run P w = .ok b w) :
    (Op.eqFields D (pre ++ (cs ++ post)).toArray (pre' ++ (ds ++ post')).toArray fs).run P w = .ok b w := by
  obtain ⟨f, rfl, hf, ht⟩ := hone
  have hn' : f.name ≠ "_" := by simpa [nameB] using hn
  rw [eqFields_cons hn' (by rw [hf]; exact part_run ht (by simp; omega)) (by rw [hf]; exact part_run ht (by simp; omega)) (by
    rw [← h1, List.drop_left, ← hc, List.take_left, h1, ← h2, List.drop_left, hc, ← hd, List.take_left]
    exact he _ rfl ht)]
  cases b <;> rfl

theorem deq_run : ∀ (t : Ty) {D : Nat} {x y : t.den} {cs ds : List Value}, t.dep ≤ D → t.cmp = true → Rep w F t x cs → Rep w F t y ds →
    (∀ τ, Tie P t τ → (cmpB P t).1 τ = true → (Op.equalIn D τ (toV t cs) (toV t ds)).run P w = .ok (t.deq x y) w) ∧
    (∀ fs off pre pre' post post', TieF P t fs off → (cmpB P t).2 fs = true → pre.length = off → pre'.length = off → (Op.eqFields D (pre ++ (cs ++ post)).toArray (pre' ++ (ds ++ post')).toArray fs).run P w = .ok (t.deq x y) w)
  | .int k, D, x, y, cs, ds, hD, _, hx, hy => by
    obtain ⟨rfl, _⟩ := hx
    obtain ⟨rfl, _⟩ := hy
    obtain ⟨D, rfl⟩ : ∃ d, D = d + 1 := ⟨D - 1, by simp only [Ty.dep] at hD; omega⟩
    have key : ∀ τ, Tie P (.int k) τ → (Op.equalIn (D + 1) τ (toV (.int k) [.int k x]) (toV (.int k) [.int k y])).run P w = .ok (Ty.deq (.int k) x y) w := fun τ ht => by
      exact (run_equalIn_int w D τ k k x y ht.int).trans (congrArg (fun b => Result.ok b w) (beq_dec x y))
    exact ⟨fun τ ht _ => key τ ht, fun fs off pre pre' post post' ht hn h1 h2 => leaf_fields hn (TieF.one (by rintro a b h; cases h) ht) h1 h2 rfl rfl (fun f _ ht => key _ ht)⟩
  | .bool, D, x, y, cs, ds, hD, _, hx, hy => by
    cases (show cs = [.bool x] from hx)
    cases (show ds = [.bool y] from hy)
    obtain ⟨D, rfl⟩ : ∃ d, D = d + 1 := ⟨D - 1, by simp only [Ty.dep] at hD; omega⟩
    have key : ∀ τ, Tie P .bool τ → (Op.equalIn (D + 1) τ (toV .bool [.bool x]) (toV .bool [.bool y])).run P w = .ok (Ty.deq .bool x y) w := fun τ ht => run_equalIn_bool' w D τ x y ht.bool
    exact ⟨fun τ ht _ => key τ ht, fun fs off pre pre' post post' ht hn h1 h2 => leaf_fields hn (TieF.one (by rintro a b h; cases h) ht) h1 h2 rfl rfl (fun f _ ht => key _ ht)⟩
  | .str, D, x, y, cs, ds, hD, _, hx, hy => by
    obtain ⟨rfl, _⟩ := hx
    obtain ⟨rfl, _⟩ := hy
    obtain ⟨D, rfl⟩ : ∃ d, D = d + 1 := ⟨D - 1, by simp only [Ty.dep] at hD; omega⟩
    have key : ∀ τ, Tie P .str τ → (Op.equalIn (D + 1) τ (toV .str [.string ⟨List.toArray x⟩]) (toV .str [.string ⟨List.toArray y⟩])).run P w = .ok (Ty.deq .str x y) w := fun τ ht => by
      refine (run_equalIn_string w D τ _ _ ht.str).trans ?_
      simp [Ty.deq, seqB, ByteArray.toList_eq]
    exact ⟨fun τ ht _ => key τ ht, fun fs off pre pre' post post' ht hn h1 h2 => leaf_fields hn (TieF.one (by rintro a b h; cases h) ht) h1 h2 rfl rfl (fun f _ ht => key _ ht)⟩
  | .list _, _, _, _, _, _, _, hc, _, _ => by simp [Ty.cmp] at hc
  | .arr _ _, _, _, _, _, _, _, hc, _, _ => by simp [Ty.cmp] at hc
  | .prod a b, D, x, y, cs, ds, hD, hc, hx, hy => by
    simp only [Ty.cmp, Bool.and_eq_true] at hc
    simp only [Ty.dep] at hD
    obtain ⟨c1, c2, rfl, hx1, hx2⟩ := hx
    obtain ⟨d1, d2, rfl, hy1, hy2⟩ := hy
    refine ⟨fun τ ht => by simp [Tie, tieB] at ht, fun fs off pre pre' post post' ht hn h1 h2 => ?_⟩
    have ka := deq_run a (D := D) (by omega) hc.1 hx1 hy1
    have kb := deq_run b (D := D) (by omega) hc.2 hx2 hy2
    cases fs with
    | nil => simp [cmpB] at hn
    | cons f fs =>
      simp only [cmpB, Bool.and_eq_true, decide_eq_true_eq] at hn
      simp only [TieF, tieB, Bool.and_eq_true, beq_iff_eq] at ht
      obtain ⟨⟨hf, hta⟩, htb⟩ := ht
      have hl1 := Rep.length hx1
      have hl2 := Rep.length hy1
      have hta' : Tie P a f.type := hta
      rw [eqFields_cons hn.1.1 (by rw [hf]; exact part_run hta' (by simp; omega)) (by rw [hf]; exact part_run hta' (by simp; omega)) (by
        rw [← h1, List.drop_left, ← hl1, List.append_assoc, List.take_left, h1, ← h2, List.drop_left, hl1, ← hl2, List.append_assoc, List.take_left]
        exact ka.1 f.type hta hn.1.2)]
      have := kb.2 fs (off + a.sz) (pre ++ c1) (pre' ++ d1) post post' htb hn.2 (by simp; omega) (by simp; omega)
      simp only [List.append_assoc] at this ⊢
      cases hd : a.deq x.1 y.1 with
      | true =>
        simp only [if_true, this, Ty.deq, hd, Bool.true_and]
      | false =>
        simp [Ty.deq, hd]
  | .agg u, D, x, y, cs, ds, hD, hc, hx, hy => by
    obtain ⟨D, rfl⟩ : ∃ d, D = d + 1 := ⟨D - 1, by simp only [Ty.dep] at hD; omega⟩
    simp only [Ty.dep] at hD
    have ku := deq_run u (D := D) (x := x) (y := y) (cs := cs) (ds := ds) (by omega) hc hx hy
    have key : ∀ τ, Tie P (.agg u) τ → (!P.stoodInHeld τ && (match P.underlying τ with | some (.struct fs) => (cmpB P u).2 fs.toList | _ => false)) = true →
        (Op.equalIn (D + 1) τ (toV (.agg u) cs) (toV (.agg u) ds)).run P w = .ok (Ty.deq (.agg u) x y) w := fun τ ht hcm => by
      obtain ⟨fs, hfs, htf⟩ := ht.agg
      rw [hfs] at hcm
      simp only [Bool.and_eq_true, Bool.not_eq_true'] at hcm
      have hfo : P.fieldsOf τ = fs := by simp [Program.fieldsOf, hfs]
      refine (run_equalIn_struct w D τ cs.toArray ds.toArray (by rw [hfo]; exact hfs) hcm.1).trans ?_
      rw [hfo]
      have := ku.2 fs.toList 0 [] [] [] [] htf hcm.2 rfl rfl
      simpa [Ty.deq] using this
    refine ⟨fun τ ht hcm => key τ ht hcm, fun fs off pre pre' post post' ht hn h1 h2 => ?_⟩
    obtain ⟨f, rfl, hf, ht⟩ := TieF.one (by rintro a b h; cases h) ht
    simp only [cmpB, Bool.and_eq_true, decide_eq_true_eq] at hn
    refine leaf_fields (t := .agg u) (by simp [nameB, hn.1]) ⟨f, rfl, hf, ht⟩ h1 h2 (Rep.length (t := .agg u) (x := x) hx) (Rep.length (t := .agg u) (x := y) hy) (fun g hg ht' => ?_)
    cases hg
    exact key _ ht (by simpa using hn.2)

end
end Go.Proofs.YtllcebmbaejlhaaDoor.Ab
