/- The table of types against the program's own. -/
import Derived.Test.YtllcebmbaejlhaaAbLay
namespace Go.Proofs.Ytllcebmbaejlhaa.Ab
open Go

def zeros : Ty → List Value
  | .int k => [.int k 0]
  | .bool => [.bool false]
  | .str => [.string ⟨#[]⟩]
  | .list _ => [.slice none 0 0]
  | .arr n t => (List.replicate n (zeros t)).flatten
  | .prod a b => zeros a ++ zeros b
  | .agg t => zeros t

def sameV : Value → Value → Bool
  | .int k n, .int k' n' => decide (k = k') && decide (n = n')
  | .bool a, .bool b => a == b
  | .string s, .string s' => s.data.toList == s'.data.toList
  | .slice none a b, .slice none c d => a == c && b == d
  | _, _ => false

def sameL : List Value → List Value → Bool
  | [], [] => true
  | a :: x, b :: y => sameV a b && sameL x y
  | _, _ => false

theorem sameV_eq : ∀ {a b : Value}, sameV a b = true → a = b := by
  intro a b h
  unfold sameV at h
  split at h
  · simp at h; rw [h.1, h.2]
  · simp at h; rw [h]
  · rename_i s s'
    simp at h
    obtain ⟨⟨l⟩⟩ := s
    obtain ⟨⟨l'⟩⟩ := s'
    simp at h
    rw [h]
  · simp at h; rw [h.1, h.2]
  · cases h

theorem sameL_eq : ∀ {a b : List Value}, sameL a b = true → a = b
  | [], [], _ => rfl
  | a :: x, b :: y, h => by simp only [sameL, Bool.and_eq_true] at h; rw [sameV_eq h.1, sameL_eq h.2]
  | [], _ :: _, h => by simp [sameL] at h
  | _ :: _, [], h => by simp [sameL] at h

def infoB (P : Program) (t : Ty) (τ : TypeId) : Bool :=
  match P.info? τ with
  | some i =>
    match i.zero with
    | some z => i.size == t.sz && sameL z.cells.toList (zeros t) && decide (i.bytes ≤ 4096) && decide (0 < i.bytes) && decide (0 < t.sz)
    | none => false
  | none => false

def leafB (P : Program) (t : Ty) (τ : TypeId) : Bool :=
  match P.underlying τ, t with
  | some (.int k), .int k' => decide (k = k')
  | some .bool, .bool => true
  | some .string, .str => true
  | _, _ => false

/-- The type with this number is 't'; the fields from an offset on are those of a product. -/
def tieB (P : Program) : Ty → (TypeId → Bool) × (List Field → Nat → Bool)
  | .prod a b => (fun _ => false, fun fs off =>
      match fs with
      | f :: fs => f.offset == off && (tieB P a).1 f.type && (tieB P b).2 fs (off + a.sz)
      | [] => false)
  | .int k => (fun τ => infoB P (.int k) τ && leafB P (.int k) τ, fun fs off =>
      match fs with
      | [f] => f.offset == off && (infoB P (.int k) f.type && leafB P (.int k) f.type)
      | _ => false)
  | .bool => (fun τ => infoB P .bool τ && leafB P .bool τ, fun fs off =>
      match fs with
      | [f] => f.offset == off && (infoB P .bool f.type && leafB P .bool f.type)
      | _ => false)
  | .str => (fun τ => infoB P .str τ && leafB P .str τ, fun fs off =>
      match fs with
      | [f] => f.offset == off && (infoB P .str f.type && leafB P .str f.type)
      | _ => false)
  | .list u => (fun τ => infoB P (.list u) τ && (match P.underlying τ with | some (.slice e) => (tieB P u).1 e | _ => false), fun fs off =>
      match fs with
      | [f] => f.offset == off && (infoB P (.list u) f.type && (match P.underlying f.type with | some (.slice e) => (tieB P u).1 e | _ => false))
      | _ => false)
  | .arr n u => (fun τ => infoB P (.arr n u) τ && (match P.underlying τ with | some (.array k e) => n == k && (tieB P u).1 e | _ => false), fun fs off =>
      match fs with
      | [f] => f.offset == off && (infoB P (.arr n u) f.type && (match P.underlying f.type with | some (.array k e) => n == k && (tieB P u).1 e | _ => false))
      | _ => false)
  | .agg u => (fun τ => infoB P (.agg u) τ && (match P.underlying τ with | some (.struct fs) => (tieB P u).2 fs.toList 0 | _ => false), fun fs off =>
      match fs with
      | [f] => f.offset == off && (infoB P (.agg u) f.type && (match P.underlying f.type with | some (.struct fs) => (tieB P u).2 fs.toList 0 | _ => false))
      | _ => false)

def Tie (P : Program) (t : Ty) (τ : TypeId) : Prop := (tieB P t).1 τ = true
def TieF (P : Program) (t : Ty) (fs : List Field) (off : Nat) : Prop := (tieB P t).2 fs off = true

structure TInfo (P : Program) (t : Ty) (τ : TypeId) where
  i : TypeInfo
  z : Value
  info : P.info? τ = some i
  zero : i.zero = some z
  size : i.size = t.sz
  cells : z.cells.toList = zeros t
  bytes : i.bytes ≤ 4096
  pos : 0 < i.bytes
  szpos : 0 < t.sz

theorem infoB_ok {P : Program} {t : Ty} {τ : TypeId} (h : infoB P t τ = true) : Nonempty (TInfo P t τ) := by
  unfold infoB at h
  split at h
  · rename_i i hi
    split at h
    · rename_i z hz
      simp only [Bool.and_eq_true, decide_eq_true_eq, beq_iff_eq] at h
      exact ⟨⟨i, z, hi, hz, h.1.1.1.1, sameL_eq h.1.1.1.2, h.1.1.2, h.1.2, h.2⟩⟩
    · cases h
  · cases h

section
variable {P : Program} {τ : TypeId}

theorem Tie.info : ∀ {t : Ty}, Tie P t τ → Nonempty (TInfo P t τ)
  | .int _, h => infoB_ok (by simp only [Tie, tieB, Bool.and_eq_true] at h; exact h.1)
  | .bool, h => infoB_ok (by simp only [Tie, tieB, Bool.and_eq_true] at h; exact h.1)
  | .str, h => infoB_ok (by simp only [Tie, tieB, Bool.and_eq_true] at h; exact h.1)
  | .list _, h => infoB_ok (by simp only [Tie, tieB, Bool.and_eq_true] at h; exact h.1)
  | .arr _ _, h => infoB_ok (by simp only [Tie, tieB, Bool.and_eq_true] at h; exact h.1)
  | .agg _, h => infoB_ok (by simp only [Tie, tieB, Bool.and_eq_true] at h; exact h.1)
  | .prod _ _, h => by simp [Tie, tieB] at h

theorem Tie.int {k : IntKind} (h : Tie P (.int k) τ) : P.underlying τ = some (.int k) := by
  simp only [Tie, tieB, Bool.and_eq_true, leafB] at h
  have h2 := h.2
  split at h2
  · rename_i e1 e2; cases e2; simp at h2; rw [e1, h2]
  · rename_i e1 e2; cases e2
  · rename_i e1 e2; cases e2
  · cases h2

theorem Tie.bool (h : Tie P .bool τ) : P.underlying τ = some .bool := by
  simp only [Tie, tieB, Bool.and_eq_true, leafB] at h
  have h2 := h.2
  split at h2
  · rename_i e1 e2; cases e2
  · rename_i e1 e2; exact e1
  · rename_i e1 e2; cases e2
  · cases h2

theorem Tie.str (h : Tie P .str τ) : P.underlying τ = some .string := by
  simp only [Tie, tieB, Bool.and_eq_true, leafB] at h
  have h2 := h.2
  split at h2
  · rename_i e1 e2; cases e2
  · rename_i e1 e2; cases e2
  · rename_i e1 e2; exact e1
  · cases h2

theorem Tie.list {u : Ty} (h : Tie P (.list u) τ) : ∃ e, P.underlying τ = some (.slice e) ∧ Tie P u e := by
  simp only [Tie, tieB, Bool.and_eq_true] at h
  have h2 := h.2
  split at h2
  · rename_i e he; exact ⟨e, he, h2⟩
  · cases h2

theorem Tie.arr {n : Nat} {u : Ty} (h : Tie P (.arr n u) τ) : ∃ e, P.underlying τ = some (.array n e) ∧ Tie P u e := by
  simp only [Tie, tieB, Bool.and_eq_true] at h
  have h2 := h.2
  split at h2
  · rename_i k e he; simp only [Bool.and_eq_true, beq_iff_eq] at h2; exact ⟨e, by rw [he, h2.1], h2.2⟩
  · cases h2

theorem Tie.agg {u : Ty} (h : Tie P (.agg u) τ) : ∃ fs, P.underlying τ = some (.struct fs) ∧ TieF P u fs.toList 0 := by
  simp only [Tie, tieB, Bool.and_eq_true] at h
  have h2 := h.2
  split at h2
  · rename_i fs he; exact ⟨fs, he, h2⟩
  · cases h2

theorem TieF.one {t : Ty} {fs : List Field} {off : Nat} (ht : ∀ a b, t ≠ .prod a b) (h : TieF P t fs off) : ∃ f, fs = [f] ∧ f.offset = off ∧ Tie P t f.type := by
  cases t with
  | prod a b => exact absurd rfl (ht a b)
  | _ =>
    simp only [TieF, tieB] at h
    split at h
    · rename_i f
      rw [Bool.and_eq_true] at h
      exact ⟨f, rfl, by simpa using h.1, h.2⟩
    · cases h

theorem TieF.fld : ∀ {t : Ty} {fs : List Field} {off k : Nat} {u : Ty}, TieF P t fs off → t.fld k = some u → ∃ f, fs[k]? = some f ∧ f.offset = off + offF t k ∧ Tie P u f.type
  | .prod a b, fs, off, k, u, h, hu => by
    simp only [TieF, tieB] at h
    split at h
    · rename_i f fs
      simp only [Bool.and_eq_true] at h
      by_cases hk : k = 0
      · subst hk
        simp [Ty.fld] at hu
        subst hu
        exact ⟨f, rfl, by simpa [offF] using h.1.1, h.1.2⟩
      · simp only [Ty.fld, kz hk, cond_false] at hu
        obtain ⟨g, hg, ho, ht⟩ := TieF.fld (t := b) h.2 hu
        refine ⟨g, ?_, ?_, ht⟩
        · obtain ⟨k', rfl⟩ : ∃ k', k = k' + 1 := ⟨k - 1, by omega⟩
          simpa using hg
        · simp only [offF, kz hk, cond_false]; omega
    · cases h
  | .int _, fs, off, k, u, h, hu => TieF.fld_leaf h (by intro a b h; cases h) hu (by intro h; simp [Ty.fld, h]) (by intro h; simp [Ty.fld, kz h]) rfl
  | .bool, fs, off, k, u, h, hu => TieF.fld_leaf h (by intro a b h; cases h) hu (by intro h; simp [Ty.fld, h]) (by intro h; simp [Ty.fld, kz h]) rfl
  | .str, fs, off, k, u, h, hu => TieF.fld_leaf h (by intro a b h; cases h) hu (by intro h; simp [Ty.fld, h]) (by intro h; simp [Ty.fld, kz h]) rfl
  | .list _, fs, off, k, u, h, hu => TieF.fld_leaf h (by intro a b h; cases h) hu (by intro h; simp [Ty.fld, h]) (by intro h; simp [Ty.fld, kz h]) rfl
  | .arr _ _, fs, off, k, u, h, hu => TieF.fld_leaf h (by intro a b h; cases h) hu (by intro h; simp [Ty.fld, h]) (by intro h; simp [Ty.fld, kz h]) rfl
  | .agg _, fs, off, k, u, h, hu => TieF.fld_leaf h (by intro a b h; cases h) hu (by intro h; simp [Ty.fld, h]) (by intro h; simp [Ty.fld, kz h]) rfl
  where
  TieF.fld_leaf {t : Ty} {fs : List Field} {off k : Nat} {u : Ty} (h : TieF P t fs off) (ht : ∀ a b, t ≠ .prod a b) (hu : t.fld k = some u) (h0 : k = 0 → t.fld k = some t) (h1 : ¬ k = 0 → t.fld k = none) (ho : offF t k = 0) :
      ∃ f, fs[k]? = some f ∧ f.offset = off + offF t k ∧ Tie P u f.type := by
    obtain ⟨f, rfl, hoff, htie⟩ := TieF.one ht h
    by_cases hk : k = 0
    · rw [h0 hk] at hu; cases hu; subst hk; exact ⟨f, rfl, by omega, htie⟩
    · rw [h1 hk] at hu; cases hu

end

theorem zeros_length : ∀ (t : Ty), (zeros t).length = t.sz
  | .int _ => rfl
  | .bool => rfl
  | .str => rfl
  | .list _ => rfl
  | .arr n t => by simp [zeros, Ty.sz, zeros_length t]
  | .prod a b => by simp [zeros, Ty.sz, zeros_length a, zeros_length b]
  | .agg t => by simp [zeros, Ty.sz, zeros_length t]

theorem Rep.dflt {w : World} {F : Nat → Prop} : ∀ (t : Ty), Rep w F t t.dflt (zeros t)
  | .int k => ⟨rfl, by cases k <;> rfl⟩
  | .bool => rfl
  | .str => ⟨rfl, Nat.zero_le _⟩
  | .list _ => ⟨none, 0, rfl, ⟨Nat.zero_le _, Nat.zero_le _⟩, .inl rfl⟩
  | .arr n t => ⟨by simp [Ty.dflt], Rep.dfltL (Rep.dflt t) n⟩
  | .prod a b => ⟨_, _, rfl, Rep.dflt a, Rep.dflt b⟩
  | .agg t => Rep.dflt t
  where
  Rep.dfltL {t : Ty} (h : Rep w F t t.dflt (zeros t)) : ∀ n, RepL (Rep w F t) (List.replicate n t.dflt) (List.replicate n (zeros t)).flatten
    | 0 => rfl
    | n + 1 => ⟨zeros t, (List.replicate n (zeros t)).flatten, by simp [List.replicate_succ], h, Rep.dfltL h n⟩

theorem Own.dflt {w : World} {F : Nat → Prop} : ∀ {t : Ty} {f : Fl}, Fl.fits t f f = true → Own w F t f t.dflt (zeros t) []
  | .int k, f, h => by simp only [Fl.fits, Bool.and_self] at h; rw [isSh_eq h]; exact Own.sh_iff.2 ⟨Rep.dflt _, rfl⟩
  | .bool, f, h => by simp only [Fl.fits, Bool.and_self] at h; rw [isSh_eq h]; exact Own.sh_iff.2 ⟨Rep.dflt _, rfl⟩
  | .str, f, h => by simp only [Fl.fits, Bool.and_self] at h; rw [isSh_eq h]; exact Own.sh_iff.2 ⟨Rep.dflt _, rfl⟩
  | .arr n t, f, h => by simp only [Fl.fits, Bool.and_self] at h; rw [isSh_eq h]; exact Own.sh_iff.2 ⟨Rep.dflt _, rfl⟩
  | .list t, f, h => by
    cases f with
    | sh => exact Own.sh_iff.2 ⟨Rep.dflt _, rfl⟩
    | ow c => exact ⟨none, 0, rfl, Nat.zero_le _, .inl ⟨rfl, rfl, rfl⟩⟩
    | owx _ _ _ => simp [Fl.fits] at h
    | pr _ _ => simp [Fl.fits] at h
    | ho => simp [Fl.fits] at h
  | .prod a b, f, h => by
    simp only [Fl.fits, Bool.and_eq_true] at h
    have h1 := Own.dflt (w := w) (F := F) (t := a) h.1
    have h2 := Own.dflt (w := w) (F := F) (t := b) h.2
    cases f with
    | sh => exact Own.sh_iff.2 ⟨Rep.dflt _, rfl⟩
    | pr f g => exact ⟨_, _, [], [], rfl, rfl, h1, h2⟩
    | ow _ => exact (fits_ow h.1).elim
    | owx _ _ _ => exact (fits_ow h.1).elim
    | ho => exact (fits_ow h.1).elim
  | .agg t, f, h => Own.dflt (t := t) (f := f) h

theorem fits_owned : ∀ (t : Ty), Fl.fits t t.own t.own = true
  | .int _ => rfl
  | .bool => rfl
  | .str => rfl
  | .list t => by simp [Ty.own, Fl.fits, fits_owned t]
  | .arr _ _ => rfl
  | .prod a b => by simp [Ty.own, Fl.fits, Fl.fst, Fl.snd, fits_owned a, fits_owned b]
  | .agg t => by simp [Ty.own, Fl.fits, fits_owned t]

/-! ## Values of some cells -/
theorem toV_cells {t : Ty} {cs : List Value} (hl : cs.length = t.sz) (h1 : ∀ v ∈ cs, v.oneCell' = true) (hp : ∀ a b, t ≠ .prod a b) : (toV t cs).cells = cs.toArray := by
  unfold toV
  cases t with
  | arr n u => rfl
  | agg u => rfl
  | prod a b => exact absurd rfl (hp a b)
  | _ =>
    simp only [Ty.isAgg]
    match cs, hl with
    | [v], _ =>
      have := h1 v (by simp)
      cases v <;> first | rfl | simp [Value.oneCell'] at this

end Go.Proofs.Ytllcebmbaejlhaa.Ab
