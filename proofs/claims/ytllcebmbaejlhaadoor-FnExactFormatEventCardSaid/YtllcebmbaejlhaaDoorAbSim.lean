/- The state of the interpreter against a machine's state. -/
import Derived.Test.YtllcebmbaejlhaaDoorAbElem
namespace Go.Proofs.YtllcebmbaejlhaaDoor.Ab
open Go

def All2 {α β : Type} (R : α → β → Prop) : List α → List β → Prop
  | [], [] => True
  | a :: as, b :: bs => R a b ∧ All2 R as bs
  | _, _ => False

theorem All2.mono {α β : Type} {R R' : α → β → Prop} (h : ∀ a b, R a b → R' a b) : ∀ {as : List α} {bs : List β}, All2 R as bs → All2 R' as bs
  | [], [], _ => trivial
  | _ :: _, _ :: _, ⟨h1, h2⟩ => ⟨h _ _ h1, All2.mono h h2⟩
  | [], _ :: _, h => h.elim
  | _ :: _, [], h => h.elim

/-- What the regions are in memory. -/
structure Mem where
  F : Nat → Prop            -- blocks that nobody writes
  C : Nat → List Value      -- a region's own cells
  B : Nat → Nat             -- the block of a variable
  S : Nat → List Nat        -- the blocks that a region owns besides

def upd {α : Type} (f : Nat → α) (r : Nat) (x : α) : Nat → α := fun k => bif k == r then x else f k

@[simp] theorem upd_same {α : Type} (f : Nat → α) (r : Nat) (x : α) : upd f r x r = x := by simp [upd]
theorem upd_other {α : Type} (f : Nat → α) {r k : Nat} (x : α) (h : k ≠ r) : upd f r x k = f k := by
  have : (k == r) = false := by simpa using h
  simp [upd, this]

theorem setR_h (σ : St) (r : Nat) (g : Reg) : (σ.setR r g).h = upd σ.h r g := rfl
theorem setR_ρ (σ : St) (r : Nat) (g : Reg) : (σ.setR r g).ρ = σ.ρ := rfl

def own1 (m : Mem) (r : Nat) : Reg → List Nat
  | .own true _ _ _ _ => m.B r :: m.S r
  | .own false _ _ _ _ => m.S r
  | .iter _ _ => [m.B r]
  | .dead => []
  | .free => []

def RegOK (w : World) (m : Mem) (r : Nat) : Reg → Prop
  | .own box t x fl _ => Own w m.F t fl x (m.C r) (m.S r) ∧ (box = true → ∃ e, w.heap[m.B r]? = some (.cells (m.C r).toArray e (0, 0)))
  | .iter s pos => w.heap[m.B r]? = some (.stringIter ⟨List.toArray s⟩ pos) ∧ List.length s ≤ big
  | .dead => True
  | .free => True

/-- 'W': the blocks that may be written. 'G': blocks that are held in hand. -/
structure Inv (W : Nat → Prop) (w : World) (m : Mem) (h : Nat → Reg) (G : List Nat) : Prop where
  reg : ∀ r, RegOK w m r (h r)
  nodup : ∀ r, (own1 m r (h r)).Nodup
  disj : ∀ r r', r ≠ r' → ∀ b, b ∈ own1 m r (h r) → b ∉ own1 m r' (h r')
  gdup : G.Nodup
  gdis : ∀ r b, b ∈ own1 m r (h r) → b ∉ G
  lt : ∀ r b, b ∈ own1 m r (h r) → b < w.heap.size ∧ ¬ m.F b ∧ W b
  glt : ∀ b, b ∈ G → b < w.heap.size ∧ ¬ m.F b ∧ W b
  flt : ∀ b, m.F b → b < w.heap.size
  new : ∀ b, w.heap.size ≤ b → W b

/-- Of the old blocks none but those of 'L' has changed. -/
structure Grow (w w' : World) (L : List Nat) : Prop where
  heap : ∀ b, b < w.heap.size → b ∉ L → w'.heap[b]? = w.heap[b]?
  size : w.heap.size ≤ w'.heap.size
  os : w'.os = w.os
  output : w'.output = w.output

theorem Grow.refl (w : World) (L : List Nat) : Grow w w L := ⟨fun _ _ _ => rfl, Nat.le_refl _, rfl, rfl⟩

def Mem.put (m : Mem) (F : Nat → Prop) (r : Nat) (C : List Value) (B : Nat) (S : List Nat) : Mem := ⟨F, upd m.C r C, upd m.B r B, upd m.S r S⟩

theorem own1_other {m : Mem} {F : Nat → Prop} {r : Nat} {C : List Value} {B : Nat} {S : List Nat} {k : Nat} (hk : k ≠ r) (g : Reg) : own1 (m.put F r C B S) k g = own1 m k g := by
  cases g with
  | own b t x fl log => cases b <;> simp [own1, Mem.put, upd_other _ _ hk]
  | iter s pos => simp [own1, Mem.put, upd_other _ _ hk]
  | dead => rfl
  | free => rfl

theorem own1_S {m : Mem} {r : Nat} {box : Bool} {t : Ty} {x : t.den} {fl : Fl} {log : Log} {b : Nat} (h : b ∈ m.S r) : b ∈ own1 m r (.own box t x fl log) := by
  cases box <;> simp [own1, h]

/-- What another region holds stays. -/
theorem RegOK.stay {w w' : World} {m : Mem} {F' : Nat → Prop} {r k : Nat} {C : List Value} {B : Nat} {S : List Nat} {g : Reg} (hk : k ≠ r) (hst : Stays w w' m.F F') (hS : ∀ b ∈ own1 m k g, w'.heap[b]? = w.heap[b]?) (h : RegOK w m k g) :
    RegOK w' (m.put F' r C B S) k g := by
  cases g with
  | own box t x fl log =>
    refine ⟨?_, fun hb => ?_⟩
    · simp only [Mem.put, upd_other _ _ hk]
      exact Own.mono hst (fun b hb => hS b (own1_S hb)) h.1
    · obtain ⟨e, he⟩ := h.2 hb
      subst hb
      refine ⟨e, ?_⟩
      simp only [Mem.put, upd_other _ _ hk]
      rw [hS _ (by simp [own1])]
      exact he
  | iter s pos =>
    refine ⟨?_, h.2⟩
    simp only [Mem.put, upd_other _ _ hk]
    rw [hS _ (by simp [own1])]
    exact h.1
  | dead => trivial
  | free => trivial

/-- One region, the hand and the memory change together. -/
structure Change (W : Nat → Prop) (w : World) (m : Mem) (h : Nat → Reg) (G : List Nat) (r : Nat) (w' : World) (F' : Nat → Prop) (C' : List Value) (B' : Nat) (S' : List Nat) (g' : Reg) (G' : List Nat) : Prop where
  grow : Grow w w' (own1 m r (h r) ++ G)
  sub : ∀ b, m.F b → F' b
  new : ∀ b, F' b → b < w'.heap.size ∧ (m.F b ∨ b ∈ own1 m r (h r) ∨ b ∈ G ∨ w.heap.size ≤ b)
  dup : (own1 (m.put F' r C' B' S') r g' ++ G').Nodup
  mem : ∀ b, b ∈ own1 (m.put F' r C' B' S') r g' ++ G' → (b ∈ own1 m r (h r) ∨ b ∈ G ∨ w.heap.size ≤ b) ∧ b < w'.heap.size ∧ ¬ F' b ∧ W b
  reg : RegOK w' (m.put F' r C' B' S') r g'

section
variable {W : Nat → Prop} {w w' : World} {m : Mem} {h : Nat → Reg} {G G' : List Nat} {r : Nat} {F' : Nat → Prop} {C' : List Value} {B' : Nat} {S' : List Nat} {g' : Reg}

theorem Change.stays (inv : Inv W w m h G) (c : Change W w m h G r w' F' C' B' S' g' G') : Stays w w' m.F F' := fun b hb =>
  ⟨c.sub b hb, c.grow.heap b (inv.flt b hb) (fun hm => by
    rcases List.mem_append.1 hm with hm | hm
    · exact (inv.lt r b hm).2.1 hb
    · exact (inv.glt b hm).2.1 hb)⟩

theorem Change.others (inv : Inv W w m h G) (c : Change W w m h G r w' F' C' B' S' g' G') {k : Nat} (hk : k ≠ r) {b : Nat} (hb : b ∈ own1 m k (h k)) : w'.heap[b]? = w.heap[b]? :=
  c.grow.heap b (inv.lt k b hb).1 (fun hm => by
    rcases List.mem_append.1 hm with hm | hm
    · exact inv.disj k r hk b hb hm
    · exact inv.gdis k b hb hm)

theorem Change.inv (inv : Inv W w m h G) (c : Change W w m h G r w' F' C' B' S' g' G') : Inv W w' (m.put F' r C' B' S') (upd h r g') G' := by
  have hst := c.stays inv
  have hdup := List.nodup_append.1 c.dup
  have out : ∀ k, k ≠ r → ∀ b, b ∈ own1 m k (h k) → b ∉ own1 (m.put F' r C' B' S') r g' ++ G' := by
    intro k hk b hb hm
    rcases (c.mem b hm).1 with hm | hm | hm
    · exact inv.disj k r hk b hb hm
    · exact inv.gdis k b hb hm
    · exact absurd (inv.lt k b hb).1 (by omega)
  refine ⟨fun k => ?_, fun k => ?_, fun k k' hkk b hb hb' => ?_, hdup.2.1, fun k b hb hm => ?_, fun k b hb => ?_, fun b hb => (c.mem b (List.mem_append_right _ hb)).2, fun b hb => (c.new b hb).1, fun b hb => inv.new b (Nat.le_trans c.grow.size hb)⟩
  · by_cases hk : k = r
    · subst hk; rw [upd_same]; exact c.reg
    · rw [upd_other _ _ hk]; exact RegOK.stay hk hst (fun b hb => c.others inv hk hb) (inv.reg k)
  · by_cases hk : k = r
    · subst hk; rw [upd_same]; exact hdup.1
    · rw [upd_other _ _ hk, own1_other hk]; exact inv.nodup k
  · by_cases hk : k = r
    · subst hk
      rw [upd_same] at hb
      rw [upd_other _ _ (Ne.symm hkk), own1_other (Ne.symm hkk)] at hb'
      exact out k' (Ne.symm hkk) b hb' (List.mem_append_left _ hb)
    · rw [upd_other _ _ hk, own1_other hk] at hb
      by_cases hk' : k' = r
      · subst hk'; rw [upd_same] at hb'; exact out k hk b hb (List.mem_append_left _ hb')
      · rw [upd_other _ _ hk', own1_other hk'] at hb'; exact inv.disj k k' hkk b hb hb'
  · by_cases hk : k = r
    · subst hk; rw [upd_same] at hb; exact hdup.2.2 b hb b hm rfl
    · rw [upd_other _ _ hk, own1_other hk] at hb; exact out k hk b hb (List.mem_append_right _ hm)
  · by_cases hk : k = r
    · subst hk; rw [upd_same] at hb; exact (c.mem b (List.mem_append_left _ hb)).2
    · rw [upd_other _ _ hk, own1_other hk] at hb
      have hl := inv.lt k b hb
      refine ⟨Nat.lt_of_lt_of_le hl.1 c.grow.size, fun hF => ?_, hl.2.2⟩
      rcases (c.new b hF).2 with hf | hf | hf | hf
      · exact hl.2.1 hf
      · exact inv.disj k r hk b hb hf
      · exact inv.gdis k b hb hf
      · exact absurd hl.1 (by omega)
end

/-! ## What temporaries hold -/
def Fl.isOw : Fl → Bool
  | .ow _ => true
  | .owx _ _ _ => true
  | .sh => false
  | .pr _ _ => false
  | .ho => false

/-- The head of the slice that an element belongs to. -/
def ElemHd (cs : List Value) (t : Ty) (f : List Nat) (i : Nat) (q : List Nat) (K : Ty → Nat → Nat → Prop) : Prop :=
  ∃ u z b off len cap, typP f t = some (.list u) ∧ typP q u = some z ∧ cs[offP f t]? = some (.slice (some ⟨b, off, none⟩) len cap) ∧ i < len ∧ K z b (off + i * u.sz + offP q u)

def BorR (w : World) (m : Mem) (g : Reg) (p : Pl) (ver : Nat) (v : Value) : Prop :=
  match g with
  | .free => False
  | .own _ t _ fl log => ver ≤ log.length ∧
    match p.ix with
    | none => fresh p.f log ver = true → ∃ u, typP p.f t = some u ∧ v = toV u (((m.C p.r).drop (offP p.f t)).take u.sz)
    | some (i, q) => log.length = ver → ElemHd (m.C p.r) t p.f i q fun z b o => b ∈ m.S p.r ∧ ∃ row e, w.heap[b]? = some (.cells row e (0, 0)) ∧ o + z.sz ≤ row.size ∧ v = toV z (seg row o z.sz)
  | .iter _ _ => True
  | .dead => True

def AddrR (m : Mem) (g : Reg) (p : Pl) (ver : Nat) (v : Value) : Prop :=
  match g with
  | .free => False
  | .own box t _ fl log => ver ≤ log.length ∧
    match p.ix with
    | none => box = true ∧ ∃ u, typP p.f t = some u ∧ v = .pointer (some ⟨m.B p.r, offP p.f t, none⟩)
    | some (i, q) => fresh p.f log ver = true → ElemHd (m.C p.r) t p.f i q fun _ b o => v = .pointer (some ⟨b, o, none⟩)
  | .iter _ _ => True
  | .dead => True

def ItrR (m : Mem) (g : Reg) (r : Nat) (v : Value) : Prop :=
  match g with
  | .free => False
  | .iter _ _ => v = .pointer (some ⟨m.B r, 0, none⟩)
  | .own _ _ _ _ _ => True
  | .dead => True

def RAddr (w : World) (m : Mem) (t : Ty) (x : t.den) (v : Value) : Prop :=
  ∃ b off row e fz, v = .pointer (some ⟨b, off, none⟩) ∧ m.F b ∧ w.heap[b]? = some (.cells row e fz) ∧ Rep w m.F t x (seg row off t.sz)

def VR1 (w : World) (m : Mem) (h : Nat → Reg) (av : AV) (v : Value) : Prop :=
  match av with
  | .un => True
  | .und => v = undef
  | .val t x => ∃ cs, v = toV t cs ∧ Rep w m.F t x cs
  | .emp => ∃ A, v = .slice A 0 0
  | .bor p ver => BorR w m (h p.r) p ver v
  | .addr p ver => AddrR m (h p.r) p ver v
  | .raddr t x => RAddr w m t x v
  | .clo f caps => ∃ vs, v = .func (.func f) #[] (List.toArray vs) ∧ All2 (fun c v => AddrR m (h (Pl.r c.1)) c.1 c.2 v) caps vs
  | .rclo f ds => ∃ vs, v = .func (.func f) #[] (List.toArray vs) ∧ All2 (fun d v => RAddr w m (DV.t d) d.x v) ds vs
  | .itr r => ItrR m (h r) r v
  | .tup _ => False

def VR (w : World) (m : Mem) (h : Nat → Reg) (av : AV) (v : Value) : Prop :=
  match av with
  | .tup vs => ∃ l, v = .tuple (List.toArray l) ∧ All2 (VR1 w m h) vs l
  | .un => VR1 w m h .un v
  | .und => VR1 w m h .und v
  | .val t x => VR1 w m h (.val t x) v
  | .emp => VR1 w m h .emp v
  | .bor p ver => VR1 w m h (.bor p ver) v
  | .addr p ver => VR1 w m h (.addr p ver) v
  | .raddr t x => VR1 w m h (.raddr t x) v
  | .clo f c => VR1 w m h (.clo f c) v
  | .rclo f c => VR1 w m h (.rclo f c) v
  | .itr r => VR1 w m h (.itr r) v

/-- Whatever a temporary may hold reads as it did. -/
def Le (w : World) (m : Mem) (h : Nat → Reg) (w' : World) (m' : Mem) (h' : Nat → Reg) : Prop := ∀ av v, VR1 w m h av v → VR1 w' m' h' av v

theorem Le.all {w w' : World} {m m' : Mem} {h h' : Nat → Reg} (k : Le w m h w' m' h') : ∀ {av : AV} {v : Value}, VR w m h av v → VR w' m' h' av v
  | .tup _, _, ⟨l, e, hl⟩ => ⟨l, e, All2.mono (fun a b => k a b) hl⟩
  | .un, _, _ => trivial
  | .und, v, hv => k .und v hv
  | .val t x, v, hv => k (.val t x) v hv
  | .emp, v, hv => k .emp v hv
  | .bor p ver, v, hv => k (.bor p ver) v hv
  | .addr p ver, v, hv => k (.addr p ver) v hv
  | .raddr t x, v, hv => k (.raddr t x) v hv
  | .clo f c, v, hv => k (.clo f c) v hv
  | .rclo f c, v, hv => k (.rclo f c) v hv
  | .itr r, v, hv => k (.itr r) v hv

theorem Le.trans {w w' w'' : World} {m m' m'' : Mem} {h h' h'' : Nat → Reg} (k : Le w m h w' m' h') (k' : Le w' m' h' w'' m'' h'') : Le w m h w'' m'' h'' := fun av v hv => k' av v (k av v hv)

theorem Le.refl (w : World) (m : Mem) (h : Nat → Reg) : Le w m h w m h := fun _ _ h => h

/-- An owned slice's block is the region's. -/
theorem Own.slot {w : World} {F : Nat → Prop} {t : Ty} {fl : Fl} {x : t.den} {cs : List Value} {S : List Nat} {f : List Nat} {u : Ty} {b off len cap : Nat} (h : Own w F t fl x cs S) (hf : typP f t = some (.list u))
    (ho : (flP f t fl).isOw = true) (hc : cs[offP f t]? = some (.slice (some ⟨b, off, none⟩) len cap)) (hl : 0 < len) : b ∈ S := by
  obtain ⟨xs, hx⟩ := getP_typP x hf
  obtain ⟨c₀, c₁, c₂, S₀, S₁, S₂, rfl, rfl, hlen, hown, _⟩ := Own.focP h hx
  have hc1 : c₁[0]? = some (.slice (some ⟨b, off, none⟩) len cap) := by
    rw [List.getElem?_append_right (by omega), hlen, Nat.sub_self] at hc
    have : c₁.length = 1 := Own.length hown
    rwa [List.getElem?_append_left (by omega)] at hc
  cases hfl : flP f t fl with
  | ow c =>
    rw [hfl] at hown
    obtain ⟨A, cap', e, _, ⟨rfl, rfl, _⟩ | ⟨b', off', row, e', S', hA, rfl, _⟩⟩ := hown
    · subst e; simp at hc1; omega
    · subst e hA; simp at hc1; simp [hc1.1.1]
  | owx i c d =>
    rw [hfl] at hown
    obtain ⟨A, cap', e, _, _, b', off', row, e', c₀, c₁, c₂, T₀, T₁, T₂, hA, rfl, _⟩ := hown
    subst e hA; simp at hc1; simp [hc1.1.1]
  | sh => simp [hfl, Fl.isOw] at ho
  | pr _ _ => simp [hfl, Fl.isOw] at ho
  | ho => simp [hfl, Fl.isOw] at ho

theorem ElemHd.mono {cs : List Value} {t : Ty} {f : List Nat} {i : Nat} {q : List Nat} {K K' : Ty → Nat → Nat → Prop} (h : ElemHd cs t f i q K)
    (hk : ∀ u z b off len cap, typP f t = some (.list u) → cs[offP f t]? = some (.slice (some ⟨b, off, none⟩) len cap) → i < len → K z b (off + i * u.sz + offP q u) → K' z b (off + i * u.sz + offP q u)) : ElemHd cs t f i q K' := by
  obtain ⟨u, z, b, off, len, cap, h1, h2, h3, h4, h5⟩ := h
  exact ⟨u, z, b, off, len, cap, h1, h2, h3, h4, hk u z b off len cap h1 h3 h4 h5⟩

theorem BorR.stay {w w' : World} {m m' : Mem} {g : Reg} {p : Pl} {ver : Nat} {v : Value} (hC : m'.C p.r = m.C p.r) (hS' : m'.S p.r = m.S p.r) (hS : ∀ b ∈ own1 m p.r g, w'.heap[b]? = w.heap[b]?) (h : BorR w m g p ver v) : BorR w' m' g p ver v := by
  cases g with
  | own box t x fl log =>
    obtain ⟨h1, h2⟩ := h
    refine ⟨h1, ?_⟩
    obtain ⟨r, f, ix⟩ := p
    cases ix with
    | none => simp only at h2 hC ⊢; rw [hC]; exact h2
    | some iq =>
      obtain ⟨i, q⟩ := iq
      simp only at h2 hC hS' ⊢
      intro hl
      rw [hC, hS']
      refine (h2 hl).mono fun u z b off len cap e1 e2 e3 hk => ⟨hk.1, ?_⟩
      rw [hS b (own1_S hk.1)]
      exact hk.2
  | iter s pos => trivial
  | dead => trivial
  | free => exact h.elim

theorem AddrR.stay {m m' : Mem} {g : Reg} {p : Pl} {ver : Nat} {v : Value} (hC : m'.C p.r = m.C p.r) (hB : m'.B p.r = m.B p.r) (h : AddrR m g p ver v) : AddrR m' g p ver v := by
  cases g with
  | own box t x fl log =>
    obtain ⟨h1, h2⟩ := h
    refine ⟨h1, ?_⟩
    obtain ⟨r, f, ix⟩ := p
    cases ix with
    | none => simp only at h2 hB ⊢; rw [hB]; exact h2
    | some iq => simp only at h2 hC ⊢; rw [hC]; exact h2
  | iter s pos => trivial
  | dead => trivial
  | free => exact h.elim

theorem ItrR.stay {m m' : Mem} {g : Reg} {r : Nat} {v : Value} (hB : m'.B r = m.B r) (h : ItrR m g r v) : ItrR m' g r v := by
  cases g with
  | iter s pos => simp only [ItrR] at h ⊢; rw [hB]; exact h
  | own _ _ _ _ _ => trivial
  | dead => trivial
  | free => exact h.elim

theorem RAddr.stay {w w' : World} {m m' : Mem} (hst : Stays w w' m.F m'.F) {t : Ty} {x : t.den} {v : Value} (h : RAddr w m t x v) : RAddr w' m' t x v := by
  obtain ⟨b, off, row, e, fz, hv, hF, hh, hr⟩ := h
  exact ⟨b, off, row, e, fz, hv, (hst b hF).1, by rw [(hst b hF).2]; exact hh, Rep.mono hst hr⟩

/-- What a change of one region must keep of what temporaries know of it. -/
structure Keeps (w : World) (m : Mem) (g : Reg) (r : Nat) (w' : World) (m' : Mem) (g' : Reg) : Prop where
  bor : ∀ p ver v, p.r = r → BorR w m g p ver v → BorR w' m' g' p ver v
  addr : ∀ p ver v, p.r = r → AddrR m g p ver v → AddrR m' g' p ver v
  itr : ∀ v, ItrR m g r v → ItrR m' g' r v

theorem Change.le {W : Nat → Prop} {w w' : World} {m : Mem} {h : Nat → Reg} {G G' : List Nat} {r : Nat} {F' : Nat → Prop} {C' : List Value} {B' : Nat} {S' : List Nat} {g' : Reg}
    (inv : Inv W w m h G) (c : Change W w m h G r w' F' C' B' S' g' G') (k : Keeps w m (h r) r w' (m.put F' r C' B' S') g') : Le w m h w' (m.put F' r C' B' S') (upd h r g') := by
  have hst : Stays w w' m.F (m.put F' r C' B' S').F := c.stays inv
  have hA : ∀ p ver v, AddrR m (h (Pl.r p)) p ver v → AddrR (m.put F' r C' B' S') (upd h r g' p.r) p ver v := by
    intro p ver v hv
    by_cases hp : p.r = r
    · rw [hp, upd_same]; rw [hp] at hv; exact k.addr p ver v hp hv
    · rw [upd_other _ _ hp]; exact AddrR.stay (by simp [Mem.put, upd_other _ _ hp]) (by simp [Mem.put, upd_other _ _ hp]) hv
  intro av v hv
  cases av with
  | un => trivial
  | und => exact hv
  | val t x => obtain ⟨cs, e, hr⟩ := hv; exact ⟨cs, e, Rep.mono hst hr⟩
  | emp => exact hv
  | bor p ver =>
    show BorR _ _ _ _ _ _
    by_cases hp : p.r = r
    · rw [hp, upd_same]
      have hv' : BorR w m (h p.r) p ver v := hv
      rw [hp] at hv'
      exact k.bor p ver v hp hv'
    · rw [upd_other _ _ hp]; exact BorR.stay (by simp [Mem.put, upd_other _ _ hp]) (by simp [Mem.put, upd_other _ _ hp]) (fun b hb => c.others inv hp hb) hv
  | addr p ver => exact hA p ver v hv
  | raddr t x => exact RAddr.stay hst hv
  | clo f caps => obtain ⟨vs, e, hl⟩ := hv; exact ⟨vs, e, All2.mono (fun a b hab => hA a.1 a.2 b hab) hl⟩
  | rclo f ds => obtain ⟨vs, e, hl⟩ := hv; exact ⟨vs, e, All2.mono (fun a b hab => RAddr.stay hst hab) hl⟩
  | itr r' =>
    show ItrR _ _ _ _
    by_cases hp : r' = r
    · subst hp; rw [upd_same]; exact k.itr v hv
    · rw [upd_other _ _ hp]; exact ItrR.stay (by simp [Mem.put, upd_other _ _ hp]) hv
  | tup vs => exact hv.elim

/-- Blocks that may not be written stand. -/
structure Fr (W : Nat → Prop) (w w' : World) : Prop where
  heap : ∀ b, b < w.heap.size → ¬ W b → w'.heap[b]? = w.heap[b]?
  size : w.heap.size ≤ w'.heap.size
  os : w'.os = w.os
  output : w'.output = w.output

theorem Fr.refl (W : Nat → Prop) (w : World) : Fr W w w := ⟨fun _ _ _ => rfl, Nat.le_refl _, rfl, rfl⟩

theorem Fr.trans {W : Nat → Prop} {w w' w'' : World} (h : Fr W w w') (k : Fr W w' w'') : Fr W w w'' :=
  ⟨fun b hb hn => (k.heap b (Nat.lt_of_lt_of_le hb h.size) hn).trans (h.heap b hb hn), Nat.le_trans h.size k.size, k.os.trans h.os, k.output.trans h.output⟩

/-- From a state to a later one. -/
structure Up (W : Nat → Prop) (w : World) (m : Mem) (h : Nat → Reg) (w' : World) (m' : Mem) (h' : Nat → Reg) : Prop where
  le : Le w m h w' m' h'
  fr : Fr W w w'
  st : Stays w w' m.F m'.F
  fdn : ∀ b, m'.F b → m.F b ∨ W b

theorem Up.refl (W : Nat → Prop) (w : World) (m : Mem) (h : Nat → Reg) : Up W w m h w m h := ⟨Le.refl _ _ _, Fr.refl _ _, Stays.refl _ _, fun _ hb => .inl hb⟩

theorem Up.trans {W : Nat → Prop} {w w' w'' : World} {m m' m'' : Mem} {h h' h'' : Nat → Reg} (a : Up W w m h w' m' h') (b : Up W w' m' h' w'' m'' h'') : Up W w m h w'' m'' h'' :=
  ⟨a.le.trans b.le, a.fr.trans b.fr, fun x hx => ⟨(b.st x (a.st x hx).1).1, ((b.st x (a.st x hx).1).2).trans (a.st x hx).2⟩, fun x hx => (b.fdn x hx).elim (a.fdn x) .inr⟩

theorem Change.up {W : Nat → Prop} {w w' : World} {m : Mem} {h : Nat → Reg} {G G' : List Nat} {r : Nat} {F' : Nat → Prop} {C' : List Value} {B' : Nat} {S' : List Nat} {g' : Reg}
    (inv : Inv W w m h G) (c : Change W w m h G r w' F' C' B' S' g' G') (k : Keeps w m (h r) r w' (m.put F' r C' B' S') g') : Up W w m h w' (m.put F' r C' B' S') (upd h r g') :=
  ⟨c.le inv k, ⟨fun b hb hn => c.grow.heap b hb (fun hm => by
      rcases List.mem_append.1 hm with hm | hm
      · exact hn (inv.lt r b hm).2.2
      · exact hn (inv.glt b hm).2.2), c.grow.size, c.grow.os, c.grow.output⟩, c.stays inv, fun b hb => by
    rcases (c.new b hb).2 with h1 | h1 | h1 | h1
    · exact .inl h1
    · exact .inr (inv.lt r b h1).2.2
    · exact .inr (inv.glt b h1).2.2
    · exact .inr (inv.new b h1)⟩

end Go.Proofs.YtllcebmbaejlhaaDoor.Ab
