/- How plain data lies in memory: what is read alone ('Rep'), and what is owned ('Own'). -/
import Derived.Test.YtllcebmbaejlhaaDoorAbCore
import Derived.Deep.MidRow
import Derived.Deep.AppendSrc
namespace Go.Proofs.YtllcebmbaejlhaaDoor.Ab
open Go

def big : Nat := 1152921504606846976

def seg (row : Array Value) (off n : Nat) : List Value := (row.toList.drop off).take n

/-- A value of some cells. -/
def toV (t : Ty) (cs : List Value) : Value :=
  match t.isAgg with
  | true => .agg cs.toArray
  | false => cs.headD undef

def RepL {α : Type} (R : α → List Value → Prop) : List α → List Value → Prop
  | [], cs => cs = []
  | x :: xs, cs => ∃ c d, cs = c ++ d ∧ R x c ∧ RepL R xs d

/-- The cells 'cs' read as 'x'; all arrays lie in blocks of 'F'. -/
def Rep (w : World) (F : Nat → Prop) : (t : Ty) → t.den → List Value → Prop
  | .int k, n, cs => cs = [.int k n] ∧ k.wrap n = n
  | .bool, b, cs => cs = [.bool b]
  | .str, s, cs => cs = [.string ⟨List.toArray s⟩] ∧ List.length s ≤ big
  | .list t, xs, cs => ∃ A cap, cs = [.slice A (List.length xs) cap] ∧ (List.length xs ≤ big ∧ List.length xs ≤ cap) ∧
      (xs = [] ∨ ∃ b off row e fz, A = some ⟨b, off, none⟩ ∧ F b ∧ w.heap[b]? = some (.cells row e fz) ∧ RepL (Rep w F t) xs (seg row off (List.length xs * t.sz)))
  | .arr n t, xs, cs => List.length xs = n ∧ RepL (Rep w F t) xs cs
  | .prod a b, x, cs => ∃ c d, cs = c ++ d ∧ Rep w F a x.1 c ∧ Rep w F b x.2 d
  | .agg t, x, cs => Rep w F t x cs

def OwnL {α : Type} (R : α → List Value → List Nat → Prop) : List α → List Value → List Nat → Prop
  | [], cs, S => cs = [] ∧ S = []
  | x :: xs, cs, S => ∃ c d S₁ S₂, cs = c ++ d ∧ S = S₁ ++ S₂ ∧ R x c S₁ ∧ OwnL R xs d S₂

def OwnB (w : World) (F : Nat → Prop) (t : Ty) (f : Fl) (x : t.den) (cs : List Value) (S : List Nat) (more : Fl → Prop) : Prop :=
  match f with
  | .ho => cs.length = t.sz ∧ (∀ c ∈ cs, c.oneCell' = true) ∧ S = []
  | .sh => Rep w F t x cs ∧ S = []
  | .ow c => more (.ow c)
  | .owx i c d => more (.owx i c d)
  | .pr f g => more (.pr f g)

/-- The cells 'cs' read as 'x'; the blocks 'S' are this value's alone, in this order; what is not owned lies in blocks of 'F'. -/
def Own (w : World) (F : Nat → Prop) : (t : Ty) → Fl → t.den → List Value → List Nat → Prop
  | .int k, f, x, cs, S => OwnB w F (.int k) f x cs S fun _ => False
  | .bool, f, x, cs, S => OwnB w F .bool f x cs S fun _ => False
  | .str, f, x, cs, S => OwnB w F .str f x cs S fun _ => False
  | .list t, f, xs, cs, S => OwnB w F (.list t) f xs cs S fun
    | .ow c => ∃ A cap, cs = [.slice A (List.length xs) cap] ∧ List.length xs ≤ big ∧
        ((xs = [] ∧ cap = 0 ∧ S = []) ∨ ∃ b off row e S', A = some ⟨b, off, none⟩ ∧ S = b :: S' ∧ w.heap[b]? = some (.cells row e (0, 0)) ∧
          List.length xs ≤ cap ∧ off + cap * t.sz ≤ row.size ∧ OwnL (Own w F t c) xs (seg row off (List.length xs * t.sz)) S')
    | .owx i c d => ∃ A cap, cs = [.slice A (List.length xs) cap] ∧ List.length xs ≤ big ∧ i < List.length xs ∧
        ∃ b off row e c₀ c₁ c₂ S₀ S₁ S₂, A = some ⟨b, off, none⟩ ∧ S = b :: (S₀ ++ (S₁ ++ S₂)) ∧ w.heap[b]? = some (.cells row e (0, 0)) ∧
          List.length xs ≤ cap ∧ off + cap * t.sz ≤ row.size ∧ seg row off (List.length xs * t.sz) = c₀ ++ (c₁ ++ c₂) ∧
          OwnL (Own w F t c) (List.take i xs) c₀ S₀ ∧ Own w F t d (List.getD xs i t.dflt) c₁ S₁ ∧ OwnL (Own w F t c) (List.drop (i + 1) xs) c₂ S₂
    | _ => False
  | .arr n t, f, x, cs, S => OwnB w F (.arr n t) f x cs S fun _ => False
  | .prod a b, f, x, cs, S => OwnB w F (.prod a b) f x cs S fun
    | .pr f g => ∃ c d S₁ S₂, cs = c ++ d ∧ S = S₁ ++ S₂ ∧ Own w F a f x.1 c S₁ ∧ Own w F b g x.2 d S₂
    | _ => False
  | .agg t, f, x, cs, S => Own w F t f x cs S

/-! ### Lengths -/
theorem RepL.length {α : Type} {R : α → List Value → Prop} {n : Nat} (hR : ∀ x c, R x c → c.length = n) : ∀ {xs : List α} {cs : List Value}, RepL R xs cs → cs.length = xs.length * n
  | [], cs, h => by simp [RepL] at h; simp [h]
  | x :: xs, cs, h => by
    obtain ⟨c, d, rfl, hc, hd⟩ := h
    simp [hR _ _ hc, RepL.length hR hd, Nat.succ_mul, Nat.add_comm]

theorem Rep.length {w : World} {F : Nat → Prop} : ∀ {t : Ty} {x : t.den} {cs : List Value}, Rep w F t x cs → cs.length = t.sz
  | .int _, _, _, h => by simp [Rep] at h; simp [h, Ty.sz]
  | .bool, _, _, h => by simp [Rep] at h; simp [h, Ty.sz]
  | .str, _, _, h => by simp [Rep] at h; simp [h, Ty.sz]
  | .list _, _, _, h => by obtain ⟨A, cap, rfl, _⟩ := h; rfl
  | .arr n t, xs, cs, h => by
    obtain ⟨h1, h2⟩ := h
    rw [RepL.length (fun x c hc => Rep.length hc) h2, h1]; rfl
  | .prod a b, _, _, h => by
    obtain ⟨c, d, rfl, hc, hd⟩ := h
    simp [Rep.length hc, Rep.length hd, Ty.sz]
  | .agg t, _, _, h => by have := Rep.length (t := t) h; simpa [Ty.sz] using this

theorem OwnL.length {α : Type} {R : α → List Value → List Nat → Prop} {n : Nat} (hR : ∀ x c S, R x c S → c.length = n) : ∀ {xs : List α} {cs : List Value} {S : List Nat}, OwnL R xs cs S → cs.length = xs.length * n
  | [], cs, S, h => by obtain ⟨h, _⟩ := h; simp [h]
  | x :: xs, cs, S, h => by
    obtain ⟨c, d, S1, S2, rfl, rfl, hc, hd⟩ := h
    simp [hR _ _ _ hc, OwnL.length hR hd, Nat.succ_mul, Nat.add_comm]

theorem OwnB.length {w : World} {F : Nat → Prop} {t : Ty} {f : Fl} {x : t.den} {cs : List Value} {S : List Nat} {more : Fl → Prop} (hm : ∀ f, more f → cs.length = t.sz) (h : OwnB w F t f x cs S more) : cs.length = t.sz := by
  cases f with
  | ho => exact h.1
  | sh => exact Rep.length h.1
  | ow c => exact hm _ h
  | owx i c d => exact hm _ h
  | pr a b => exact hm _ h

theorem Own.length {w : World} {F : Nat → Prop} : ∀ {t : Ty} {f : Fl} {x : t.den} {cs : List Value} {S : List Nat}, Own w F t f x cs S → cs.length = t.sz
  | .int _, _, _, _, _, h => OwnB.length (fun _ h => h.elim) h
  | .bool, _, _, _, _, h => OwnB.length (fun _ h => h.elim) h
  | .str, _, _, _, _, h => OwnB.length (fun _ h => h.elim) h
  | .list _, _, _, _, _, h => OwnB.length (fun f h => by
      cases f with
      | ow c => obtain ⟨A, cap, rfl, _⟩ := h; rfl
      | owx i c d => obtain ⟨A, cap, rfl, _⟩ := h; rfl
      | _ => exact h.elim) h
  | .arr _ _, _, _, _, _, h => OwnB.length (fun _ h => h.elim) h
  | .prod a b, _, _, _, _, h => OwnB.length (fun f h => by
      cases f with
      | pr f g =>
        obtain ⟨c, d, S1, S2, rfl, rfl, hc, hd⟩ := h
        simp [Own.length hc, Own.length hd, Ty.sz]
      | _ => exact h.elim) h
  | .agg t, f, x, cs, S, h => by
    have := Own.length (t := t) (f := f) (x := x) h
    simpa [Ty.sz] using this

/-! ### Each cell is one cell -/
theorem RepL.one {α : Type} {R : α → List Value → Prop} (hR : ∀ x c, R x c → ∀ v ∈ c, v.oneCell' = true) : ∀ {xs : List α} {cs : List Value}, RepL R xs cs → ∀ v ∈ cs, v.oneCell' = true
  | [], cs, h => by simp [RepL] at h; simp [h]
  | x :: xs, cs, h => by
    obtain ⟨c, d, rfl, hc, hd⟩ := h
    intro v hv
    rcases List.mem_append.1 hv with hv | hv
    · exact hR _ _ hc v hv
    · exact RepL.one hR hd v hv

theorem Rep.one {w : World} {F : Nat → Prop} : ∀ {t : Ty} {x : t.den} {cs : List Value}, Rep w F t x cs → ∀ v ∈ cs, v.oneCell' = true
  | .int _, _, _, h => by simp [Rep] at h; simp [h, Value.oneCell']
  | .bool, _, _, h => by simp [Rep] at h; simp [h, Value.oneCell']
  | .str, _, _, h => by simp [Rep] at h; simp [h, Value.oneCell']
  | .list _, _, _, h => by obtain ⟨A, cap, rfl, _⟩ := h; simp [Value.oneCell']
  | .arr n t, xs, cs, h => RepL.one (fun x c hc => Rep.one hc) h.2
  | .prod a b, _, _, h => by
    obtain ⟨c, d, rfl, hc, hd⟩ := h
    intro v hv
    rcases List.mem_append.1 hv with hv | hv
    · exact Rep.one hc v hv
    · exact Rep.one hd v hv
  | .agg t, _, _, h => Rep.one (t := t) h

theorem OwnB.one {w : World} {F : Nat → Prop} {t : Ty} {f : Fl} {x : t.den} {cs : List Value} {S : List Nat} {more : Fl → Prop} (hm : ∀ f, more f → ∀ v ∈ cs, v.oneCell' = true) (h : OwnB w F t f x cs S more) : ∀ v ∈ cs, v.oneCell' = true := by
  cases f with
  | ho => exact h.2.1
  | sh => exact Rep.one h.1
  | ow c => exact hm _ h
  | owx i c d => exact hm _ h
  | pr a b => exact hm _ h

theorem Own.one {w : World} {F : Nat → Prop} : ∀ {t : Ty} {f : Fl} {x : t.den} {cs : List Value} {S : List Nat}, Own w F t f x cs S → ∀ v ∈ cs, v.oneCell' = true
  | .int _, _, _, _, _, h => OwnB.one (fun _ h => h.elim) h
  | .bool, _, _, _, _, h => OwnB.one (fun _ h => h.elim) h
  | .str, _, _, _, _, h => OwnB.one (fun _ h => h.elim) h
  | .list _, _, _, _, _, h => OwnB.one (fun f h => by
      cases f with
      | ow c => obtain ⟨A, cap, rfl, _⟩ := h; simp [Value.oneCell']
      | owx i c d => obtain ⟨A, cap, rfl, _⟩ := h; simp [Value.oneCell']
      | _ => exact h.elim) h
  | .arr _ _, _, _, _, _, h => OwnB.one (fun _ h => h.elim) h
  | .prod a b, _, _, _, _, h => OwnB.one (fun f h => by
      cases f with
      | pr f g =>
        obtain ⟨c, d, S1, S2, rfl, rfl, hc, hd⟩ := h
        intro v hv
        rcases List.mem_append.1 hv with hv | hv
        · exact Own.one hc v hv
        · exact Own.one hd v hv
      | _ => exact h.elim) h
  | .agg t, f, x, _, _, h => Own.one (t := t) (f := f) (x := x) h

/-! ### What stays -/
theorem RepL.mono {α : Type} {R R' : α → List Value → Prop} (hR : ∀ x c, R x c → R' x c) : ∀ {xs : List α} {cs : List Value}, RepL R xs cs → RepL R' xs cs
  | [], _, h => h
  | _ :: _, _, ⟨c, d, e, hc, hd⟩ => ⟨c, d, e, hR _ _ hc, RepL.mono hR hd⟩

theorem Rep.mono {w w' : World} {F F' : Nat → Prop} (hF : ∀ b, F b → F' b ∧ w'.heap[b]? = w.heap[b]?) : ∀ {t : Ty} {x : t.den} {cs : List Value}, Rep w F t x cs → Rep w' F' t x cs
  | .int _, _, _, h => h
  | .bool, _, _, h => h
  | .str, _, _, h => h
  | .list _, _, _, h => by
    obtain ⟨A, cap, e, hb, h⟩ := h
    refine ⟨A, cap, e, hb, h.imp id ?_⟩
    rintro ⟨b, off, row, e, fz, hA, hb, hh, hr⟩
    exact ⟨b, off, row, e, fz, hA, (hF b hb).1, by rw [(hF b hb).2]; exact hh, RepL.mono (fun x c hc => Rep.mono hF hc) hr⟩
  | .arr n t, xs, cs, h => ⟨h.1, RepL.mono (fun x c hc => Rep.mono hF hc) h.2⟩
  | .prod a b, _, _, h => by
    obtain ⟨c, d, e, hc, hd⟩ := h
    exact ⟨c, d, e, Rep.mono hF hc, Rep.mono hF hd⟩
  | .agg t, _, _, h => Rep.mono (t := t) hF h

theorem OwnL.mono {α : Type} {R R' : α → List Value → List Nat → Prop} : ∀ {xs : List α} {cs : List Value} {S : List Nat}, (∀ x c S', (∀ b ∈ S', b ∈ S) → R x c S' → R' x c S') → OwnL R xs cs S → OwnL R' xs cs S
  | [], _, _, _, h => h
  | _ :: _, _, _, hR, ⟨c, d, S1, S2, e, e', hc, hd⟩ => by
    subst e'
    exact ⟨c, d, S1, S2, e, rfl, hR _ _ _ (fun b hb => List.mem_append_left _ hb) hc, OwnL.mono (fun x c S' hS h => hR x c S' (fun b hb => List.mem_append_right _ (hS b hb)) h) hd⟩

theorem OwnB.mono {w w' : World} {F F' : Nat → Prop} (hF : ∀ b, F b → F' b ∧ w'.heap[b]? = w.heap[b]?) {t : Ty} {f : Fl} {x : t.den} {cs : List Value} {S : List Nat} {more more' : Fl → Prop}
    (hm : ∀ f, more f → more' f) (h : OwnB w F t f x cs S more) : OwnB w' F' t f x cs S more' := by
  cases f with
  | ho => exact h
  | sh => exact ⟨Rep.mono hF h.1, h.2⟩
  | ow c => exact hm _ h
  | owx i c d => exact hm _ h
  | pr a b => exact hm _ h

theorem Own.mono {w w' : World} {F F' : Nat → Prop} (hF : ∀ b, F b → F' b ∧ w'.heap[b]? = w.heap[b]?) : ∀ {t : Ty} {f : Fl} {x : t.den} {cs : List Value} {S : List Nat}, (∀ b ∈ S, w'.heap[b]? = w.heap[b]?) → Own w F t f x cs S → Own w' F' t f x cs S
  | .int _, _, _, _, _, _, h => OwnB.mono hF (fun _ h => h) h
  | .bool, _, _, _, _, _, h => OwnB.mono hF (fun _ h => h) h
  | .str, _, _, _, _, _, h => OwnB.mono hF (fun _ h => h) h
  | .list _, _, _, _, _, hS, h => OwnB.mono hF (fun f h => by
      cases f with
      | ow c =>
        obtain ⟨A, cap, e, hb, h⟩ := h
        refine ⟨A, cap, e, hb, h.imp id ?_⟩
        rintro ⟨b, off, row, e, S', hA, rfl, hh, hl, hr, ho⟩
        exact ⟨b, off, row, e, S', hA, rfl, by rw [hS b (by simp)]; exact hh, hl, hr, OwnL.mono (fun x c S'' hs hx => Own.mono hF (fun b hb => hS b (List.mem_cons_of_mem _ (hs b hb))) hx) ho⟩
      | owx i c d =>
        obtain ⟨A, cap, e, hb, hi, b, off, row, e', c₀, c₁, c₂, S₀, S₁, S₂, hA, rfl, hh, hl, hr, hc, h0, h1, h2⟩ := h
        exact ⟨A, cap, e, hb, hi, b, off, row, e', c₀, c₁, c₂, S₀, S₁, S₂, hA, rfl, by rw [hS b (by simp)]; exact hh, hl, hr, hc,
          OwnL.mono (fun x c S'' hs hx => Own.mono hF (fun b hb => hS b (by simp [hs b hb])) hx) h0, Own.mono hF (fun b hb => hS b (by simp [hb])) h1,
          OwnL.mono (fun x c S'' hs hx => Own.mono hF (fun b hb => hS b (by simp [hs b hb])) hx) h2⟩
      | _ => exact h.elim) h
  | .arr _ _, _, _, _, _, _, h => OwnB.mono hF (fun _ h => h) h
  | .prod a b, _, _, _, _, hS, h => OwnB.mono hF (fun f h => by
      cases f with
      | pr f g =>
        obtain ⟨c, d, S1, S2, e, rfl, hc, hd⟩ := h
        exact ⟨c, d, S1, S2, e, rfl, Own.mono hF (fun b hb => hS b (List.mem_append_left _ hb)) hc, Own.mono hF (fun b hb => hS b (List.mem_append_right _ hb)) hd⟩
      | _ => exact h.elim) h
  | .agg t, f, x, _, _, hS, h => Own.mono (t := t) (f := f) (x := x) hF hS h

/-! ### What is owned may be read -/
theorem RepL.ofOwnL {α : Type} {R : α → List Value → List Nat → Prop} {R' : α → List Value → Prop} : ∀ {xs : List α} {cs : List Value} {S : List Nat}, (∀ x c S', (∀ b ∈ S', b ∈ S) → R x c S' → R' x c) → OwnL R xs cs S → RepL R' xs cs
  | [], _, _, _, h => h.1
  | _ :: _, _, _, hR, ⟨c, d, S1, S2, e, e', hc, hd⟩ => by
    subst e'
    exact ⟨c, d, e, hR _ _ _ (fun b hb => List.mem_append_left _ hb) hc, RepL.ofOwnL (fun x c S' hS h => hR x c S' (fun b hb => List.mem_append_right _ (hS b hb)) h) hd⟩

theorem Own.rep {w : World} {F F' : Nat → Prop} (hF : ∀ b, F b → F' b) : ∀ {t : Ty} {f : Fl} {x : t.den} {cs : List Value} {S : List Nat}, f.noho = true → (∀ b ∈ S, F' b) → Own w F t f x cs S → Rep w F' t x cs
  | .int _, .sh, _, _, _, _, _, h => Rep.mono (fun b hb => ⟨hF b hb, rfl⟩) h.1
  | .int _, .ho, _, _, _, hn, _, _ => by simp [Fl.noho] at hn
  | .int _, .ow _, _, _, _, _, _, h => h.elim
  | .int _, .owx _ _ _, _, _, _, _, _, h => h.elim
  | .int _, .pr _ _, _, _, _, _, _, h => h.elim
  | .bool, .sh, _, _, _, _, _, h => Rep.mono (fun b hb => ⟨hF b hb, rfl⟩) h.1
  | .bool, .ho, _, _, _, hn, _, _ => by simp [Fl.noho] at hn
  | .bool, .ow _, _, _, _, _, _, h => h.elim
  | .bool, .owx _ _ _, _, _, _, _, _, h => h.elim
  | .bool, .pr _ _, _, _, _, _, _, h => h.elim
  | .str, .sh, _, _, _, _, _, h => Rep.mono (fun b hb => ⟨hF b hb, rfl⟩) h.1
  | .str, .ho, _, _, _, hn, _, _ => by simp [Fl.noho] at hn
  | .str, .ow _, _, _, _, _, _, h => h.elim
  | .str, .owx _ _ _, _, _, _, _, _, h => h.elim
  | .str, .pr _ _, _, _, _, _, _, h => h.elim
  | .arr _ _, .sh, _, _, _, _, _, h => Rep.mono (fun b hb => ⟨hF b hb, rfl⟩) h.1
  | .arr _ _, .ho, _, _, _, hn, _, _ => by simp [Fl.noho] at hn
  | .arr _ _, .ow _, _, _, _, _, _, h => h.elim
  | .arr _ _, .owx _ _ _, _, _, _, _, _, h => h.elim
  | .arr _ _, .pr _ _, _, _, _, _, _, h => h.elim
  | .list _, .sh, _, _, _, _, _, h => Rep.mono (fun b hb => ⟨hF b hb, rfl⟩) h.1
  | .list _, .ho, _, _, _, hn, _, _ => by simp [Fl.noho] at hn
  | .list _, .pr _ _, _, _, _, _, _, h => h.elim
  | .list _, .owx _ _ _, _, _, _, hn, _, _ => by simp [Fl.noho] at hn
  | .list _, .ow c, _, _, _, hn, hS, h => by
    obtain ⟨A, cap, e, hb, h⟩ := h
    refine ⟨A, cap, e, ⟨hb, ?_⟩, h.imp (fun h => h.1) ?_⟩
    · rcases h with ⟨rfl, rfl, _⟩ | ⟨_, _, _, _, _, _, _, _, hl, _⟩
      · exact Nat.zero_le _
      · exact hl
    rintro ⟨b, off, row, e, S', hA, rfl, hh, hl, hr, ho⟩
    exact ⟨b, off, row, e, _, hA, hS b (by simp), hh, RepL.ofOwnL (fun x c' S'' hs hx => Own.rep hF (by simpa [Fl.noho] using hn) (fun b hb => hS b (List.mem_cons_of_mem _ (hs b hb))) hx) ho⟩
  | .prod _ _, .sh, _, _, _, _, _, h => Rep.mono (fun b hb => ⟨hF b hb, rfl⟩) h.1
  | .prod _ _, .ho, _, _, _, hn, _, _ => by simp [Fl.noho] at hn
  | .prod _ _, .ow _, _, _, _, _, _, h => h.elim
  | .prod _ _, .owx _ _ _, _, _, _, _, _, h => h.elim
  | .prod a b, .pr f g, _, _, _, hn, hS, h => by
    obtain ⟨c, d, S1, S2, e, rfl, hc, hd⟩ := h
    simp only [Fl.noho, Bool.and_eq_true] at hn
    exact ⟨c, d, e, Own.rep hF hn.1 (fun b hb => hS b (List.mem_append_left _ hb)) hc, Own.rep hF hn.2 (fun b hb => hS b (List.mem_append_right _ hb)) hd⟩
  | .agg t, f, x, _, _, hn, hS, h => Own.rep (t := t) (f := f) (x := x) hF hn hS h

/-- Nothing of a plain value is owned. -/
theorem Own.plain {w : World} {F : Nat → Prop} : ∀ {t : Ty} {f : Fl} {x : t.den} {cs : List Value} {S : List Nat}, f.plain = true → Own w F t f x cs S → Rep w F t x cs ∧ S = []
  | .int _, .sh, _, _, _, _, h => h
  | .bool, .sh, _, _, _, _, h => h
  | .str, .sh, _, _, _, _, h => h
  | .arr _ _, .sh, _, _, _, _, h => h
  | .list _, .sh, _, _, _, _, h => h
  | .prod _ _, .sh, _, _, _, _, h => h
  | .int _, .pr _ _, _, _, _, _, h => h.elim
  | .bool, .pr _ _, _, _, _, _, h => h.elim
  | .str, .pr _ _, _, _, _, _, h => h.elim
  | .arr _ _, .pr _ _, _, _, _, _, h => h.elim
  | .list _, .pr _ _, _, _, _, _, h => h.elim
  | .prod a b, .pr f g, _, _, _, hn, h => by
    obtain ⟨c, d, S1, S2, e, rfl, hc, hd⟩ := h
    simp only [Fl.plain, Bool.and_eq_true] at hn
    obtain ⟨h1, rfl⟩ := Own.plain hn.1 hc
    obtain ⟨h2, rfl⟩ := Own.plain hn.2 hd
    exact ⟨⟨c, d, e, h1, h2⟩, rfl⟩
  | .int _, .ho, _, _, _, hn, _ => by simp [Fl.plain] at hn
  | .bool, .ho, _, _, _, hn, _ => by simp [Fl.plain] at hn
  | .str, .ho, _, _, _, hn, _ => by simp [Fl.plain] at hn
  | .arr _ _, .ho, _, _, _, hn, _ => by simp [Fl.plain] at hn
  | .list _, .ho, _, _, _, hn, _ => by simp [Fl.plain] at hn
  | .prod _ _, .ho, _, _, _, hn, _ => by simp [Fl.plain] at hn
  | .int _, .ow _, _, _, _, hn, _ => by simp [Fl.plain] at hn
  | .int _, .owx _ _ _, _, _, _, hn, _ => by simp [Fl.plain] at hn
  | .bool, .ow _, _, _, _, hn, _ => by simp [Fl.plain] at hn
  | .bool, .owx _ _ _, _, _, _, hn, _ => by simp [Fl.plain] at hn
  | .str, .ow _, _, _, _, hn, _ => by simp [Fl.plain] at hn
  | .str, .owx _ _ _, _, _, _, hn, _ => by simp [Fl.plain] at hn
  | .arr _ _, .ow _, _, _, _, hn, _ => by simp [Fl.plain] at hn
  | .arr _ _, .owx _ _ _, _, _, _, hn, _ => by simp [Fl.plain] at hn
  | .list _, .ow _, _, _, _, hn, _ => by simp [Fl.plain] at hn
  | .list _, .owx _ _ _, _, _, _, hn, _ => by simp [Fl.plain] at hn
  | .prod _ _, .ow _, _, _, _, hn, _ => by simp [Fl.plain] at hn
  | .prod _ _, .owx _ _ _, _, _, _, hn, _ => by simp [Fl.plain] at hn
  | .agg t, f, x, _, _, hn, h => Own.plain (t := t) (f := f) (x := x) hn h

end Go.Proofs.YtllcebmbaejlhaaDoor.Ab
