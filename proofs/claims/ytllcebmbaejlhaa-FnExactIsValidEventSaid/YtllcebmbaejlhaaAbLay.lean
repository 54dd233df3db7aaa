/- Values let go, read, and laid at places. -/
import Derived.Test.YtllcebmbaejlhaaAbTake
namespace Go.Proofs.Ytllcebmbaejlhaa.Ab
open Go

/-! ## Places that lie apart -/
theorem fld_le : ∀ {t : Ty} {k : Nat} {u : Ty}, t.fld k = some u → offF t k + u.sz ≤ t.sz
  | .prod a b, k, u, h => by
    by_cases hk : k = 0
    · subst hk; simp [Ty.fld] at h; subst h; simp [offF, Ty.sz]
    · simp only [Ty.fld, kz hk, cond_false] at h
      have := fld_le h
      simp only [offF, kz hk, cond_false, Ty.sz]
      omega
  | .int _, k, u, h => fld_le_leaf h (by intro h; subst h; rfl) (by intro h; simp [Ty.fld, kz h]) rfl
  | .bool, k, u, h => fld_le_leaf h (by intro h; subst h; rfl) (by intro h; simp [Ty.fld, kz h]) rfl
  | .str, k, u, h => fld_le_leaf h (by intro h; subst h; rfl) (by intro h; simp [Ty.fld, kz h]) rfl
  | .list _, k, u, h => fld_le_leaf h (by intro h; subst h; rfl) (by intro h; simp [Ty.fld, kz h]) rfl
  | .arr _ _, k, u, h => fld_le_leaf h (by intro h; subst h; rfl) (by intro h; simp [Ty.fld, kz h]) rfl
  | .agg _, k, u, h => fld_le_leaf h (by intro h; subst h; rfl) (by intro h; simp [Ty.fld, kz h]) rfl
  where
  fld_le_leaf {t : Ty} {k : Nat} {u : Ty} (h : t.fld k = some u) (h0 : k = 0 → t.fld k = some t) (h1 : ¬ k = 0 → t.fld k = none) (ho : offF t k = 0) : offF t k + u.sz ≤ t.sz := by
    by_cases hk : k = 0
    · rw [h0 hk] at h; cases h; omega
    · rw [h1 hk] at h; cases h

theorem fld_apart : ∀ {t : Ty} {k k' : Nat} {u v : Ty}, t.fld k = some u → t.fld k' = some v → k < k' → offF t k + u.sz ≤ offF t k'
  | .prod a b, k, k', u, v, h, h', hl => by
    have hk' : ¬ k' = 0 := by omega
    simp only [Ty.fld, kz hk', cond_false] at h'
    simp only [offF, kz hk', cond_false]
    by_cases hk : k = 0
    · subst hk; simp [Ty.fld] at h; subst h; simp
    · simp only [Ty.fld, kz hk, cond_false] at h
      have := fld_apart h h' (by omega)
      simp only [kz hk, cond_false]
      omega
  | .int _, k, k', u, v, h, h', hl => by have : ¬ k' = 0 := by omega
                                         simp [Ty.fld, kz this] at h'
  | .bool, k, k', u, v, h, h', hl => by have : ¬ k' = 0 := by omega
                                        simp [Ty.fld, kz this] at h'
  | .str, k, k', u, v, h, h', hl => by have : ¬ k' = 0 := by omega
                                       simp [Ty.fld, kz this] at h'
  | .list _, k, k', u, v, h, h', hl => by have : ¬ k' = 0 := by omega
                                          simp [Ty.fld, kz this] at h'
  | .arr _ _, k, k', u, v, h, h', hl => by have : ¬ k' = 0 := by omega
                                           simp [Ty.fld, kz this] at h'
  | .agg _, k, k', u, v, h, h', hl => by have : ¬ k' = 0 := by omega
                                         simp [Ty.fld, kz this] at h'

theorem typP_le : ∀ {f : List Nat} {t u : Ty}, typP f t = some u → offP f t + u.sz ≤ t.sz
  | [], t, u, h => by simp [typP] at h; subst h; simp [offP]
  | k :: f, .agg t, u, h => by
    simp only [typP, Option.bind_eq_some_iff] at h
    obtain ⟨v, hv, h⟩ := h
    have h1 := fld_le hv
    have h2 := typP_le h
    simp only [offP, hv, Option.getD_some, Ty.sz]
    omega
  | _ :: _, .int _, _, h => by simp [typP] at h
  | _ :: _, .bool, _, h => by simp [typP] at h
  | _ :: _, .str, _, h => by simp [typP] at h
  | _ :: _, .list _, _, h => by simp [typP] at h
  | _ :: _, .arr _ _, _, h => by simp [typP] at h
  | _ :: _, .prod _ _, _, h => by simp [typP] at h

theorem laps_apart : ∀ {f g : List Nat} {t u v : Ty}, laps f g = false → typP f t = some u → typP g t = some v → offP f t + u.sz ≤ offP g t ∨ offP g t + v.sz ≤ offP f t
  | [], _, _, _, _, h, _, _ => by simp [laps] at h
  | _ :: _, [], _, _, _, h, _, _ => by simp [laps] at h
  | a :: f, b :: g, .agg t, u, v, h, hu, hv => by
    simp only [typP, Option.bind_eq_some_iff] at hu hv
    obtain ⟨x, hx, hu⟩ := hu
    obtain ⟨y, hy, hv⟩ := hv
    simp only [offP, hx, hy, Option.getD_some]
    have h1 := typP_le hu
    have h2 := typP_le hv
    rcases Nat.lt_trichotomy a b with hab | hab | hab
    · left; have := fld_apart hx hy hab; omega
    · subst hab
      rw [hx] at hy
      cases hy
      simp only [laps, beq_self_eq_true, Bool.true_and] at h
      rcases laps_apart h hu hv with h3 | h3
      · left; omega
      · right; omega
    · right; have := fld_apart hy hx hab; omega
  | _ :: _, _ :: _, .int _, _, _, _, h, _ => by simp [typP] at h
  | _ :: _, _ :: _, .bool, _, _, _, h, _ => by simp [typP] at h
  | _ :: _, _ :: _, .str, _, _, _, h, _ => by simp [typP] at h
  | _ :: _, _ :: _, .list _, _, _, _, h, _ => by simp [typP] at h
  | _ :: _, _ :: _, .arr _ _, _, _, _, h, _ => by simp [typP] at h
  | _ :: _, _ :: _, .prod _ _, _, _, _, h, _ => by simp [typP] at h

/-- A part of a row that lies apart from what is replaced. -/
theorem seg_apart {C cs : List Value} {a n b k : Nat} (hC : a + n ≤ C.length) (hn : cs.length = n) (h : b + k ≤ a ∨ a + n ≤ b) :
    ((C.take a ++ (cs ++ C.drop (a + n))).drop b).take k = (C.drop b).take k := by
  apply List.ext_getElem?
  intro j
  simp only [List.getElem?_take, List.getElem?_drop]
  split
  · rename_i hj
    rw [List.getElem?_append, List.getElem?_append, List.length_take, Nat.min_eq_left (by omega), List.getElem?_take, List.getElem?_drop]
    rcases h with h | h
    · rw [if_pos (by omega), if_pos (by omega)]
    · rw [if_neg (by omega), if_neg (by omega)]
      congr 1
      omega
  · rfl

theorem fresh_some {f g : List Nat} {log : Log} {ver : Nat} (hv : ver ≤ log.length) (h : fresh f (some g :: log) ver = true) : laps f g = false ∧ fresh f log ver = true := by
  unfold fresh at h ⊢
  have e1 : (some g :: log).length - ver = (log.length - ver) + 1 := by simp; omega
  rw [e1] at h
  simpa [unmet] using h

/-! ## Memory -/
/-- 'cs' is written into block 'b' from 'o' on. -/
structure Poke (w w' : World) (b o : Nat) (cs : List Value) : Prop where
  cells : ∀ row e fz, w.heap[b]? = some (.cells row e fz) → o + cs.length ≤ row.size →
    ∃ row', w'.heap[b]? = some (.cells row' e fz) ∧ row'.size = row.size ∧ seg row' o cs.length = cs ∧ ∀ j, j < o ∨ o + cs.length ≤ j → row'[j]? = row[j]?
  other : ∀ b', b' ≠ b → w'.heap[b']? = w.heap[b']?
  size : w'.heap.size = w.heap.size
  os : w'.os = w.os
  output : w'.output = w.output

theorem row_of_seg {row : Array Value} {C cs : List Value} {row' : Array Value} {o : Nat} (hr : row = C.toArray) (hs : row'.size = row.size) (hl : o + cs.length ≤ C.length) (h1 : seg row' o cs.length = cs)
    (h2 : ∀ j, j < o ∨ o + cs.length ≤ j → row'[j]? = row[j]?) : row' = (C.take o ++ (cs ++ C.drop (o + cs.length))).toArray := by
  subst hr
  apply Array.ext'
  apply List.ext_getElem?
  intro j
  simp only [Array.getElem?_toList]
  rw [List.getElem?_append, List.getElem?_append, List.length_take, Nat.min_eq_left (by omega), List.getElem?_take, List.getElem?_drop]
  by_cases hj : j < o
  · rw [if_pos hj, if_pos hj, h2 j (.inl hj)]; simp
  · rw [if_neg hj]
    by_cases hj' : j - o < cs.length
    · rw [if_pos hj']
      have := congrArg (fun l => l[j - o]?) h1
      simp only [seg, List.getElem?_take, List.getElem?_drop, Array.getElem?_toList, if_pos hj'] at this
      rw [← this]
      congr 1
      omega
    · rw [if_neg hj', h2 j (.inr (by omega))]
      simp
      congr 1
      omega

section
variable {W : Nat → Prop} {w : World} {m : Mem} {G : List Nat}

/-- A value is let go for good. -/
theorem freeze_ok {α : Type} {S : Specs} {j : Nat} {k : DV → Pr α} {σ : St} {l : List Ent} {K : α → St → List Ent → Prop} (inv : Inv W w m σ.h G) {v : AV} {val : Value} (hv : VR1 w m σ.h v val)
    (h : (Pr.freeze std v k).run S j σ l K) :
    ∃ d cs m' h' l', val = toV d.t cs ∧ Rep w m'.F d.t d.x cs ∧ Inv W w m' h' G ∧ Up W w m σ.h w m' h' ∧ (k d).run S j { σ with h := h' } l' K := by
  cases v with
  | val u x => obtain ⟨cs, e, hr⟩ := hv; exact ⟨⟨u, x⟩, cs, m, σ.h, l, e, hr, inv, Up.refl _ _ _ _, h⟩
  | bor p ver =>
    simp only [Pr.freeze] at h
    obtain ⟨box, u, x, fl, log, hg, hst, h⟩ := resB_run h
    obtain ⟨⟨d, fd⟩, hat, h⟩ := opt_run h
    obtain ⟨hno, h4⟩ := bif_run h
    have hreg := inv.reg p.r
    rw [hg] at hreg
    have hb : BorR w m (σ.h p.r) p ver val := hv
    rw [hg] at hb
    obtain ⟨r, f, ix⟩ := p
    cases ix with
    | some iq => exact h4.elim
    | none =>
      simp only [Pr.run] at h4
      simp only [Reg.at, Option.bind_eq_some_iff] at hat
      obtain ⟨d', hd, hat⟩ := hat
      cases hat
      obtain ⟨u', hu', e⟩ := hb.2 hst
      rw [typP_getP hd] at hu'
      cases hu'
      simp only at hg hreg
      obtain ⟨S₀, S₁, S₂, hS, ho, hset⟩ := region_path hreg.1 hd
      let F' : Nat → Prop := fun b => m.F b ∨ b ∈ S₁
      have hF : ∀ b, m.F b → F' b := fun b hb => .inl hb
      have hrep : Rep w F' d.t d.x _ := Own.rep hF hno (fun b hb => .inr hb) ho
      obtain ⟨x', hx', ho'⟩ := hset w F' d.x .sh _ [] (fun b hb => ⟨hF b hb, rfl⟩) (fun _ _ => rfl) (Own.sh_iff.2 ⟨hrep, rfl⟩)
      have hxx : setP f u x ⟨d.t, d.x⟩ = some x := setP_getP hd
      rw [hxx] at hx'
      cases hx'
      rw [take_drop_cat, List.nil_append] at ho'
      have hall := inv.all r
      rw [hg, own1_eq, hS] at hall
      have hp : (boxed box (m.B r) ++ (S₀ ++ (S₁ ++ S₂)) ++ G).Perm (S₁ ++ (boxed box (m.B r) ++ (S₀ ++ S₂) ++ G)) := perm_of_count fun a => by
        simp only [List.count_append]; omega
      have hall' := List.nodup_append.1 (hp.nodup_iff.1 hall)
      have hc : Change W w m σ.h G r w F' (m.C r) (m.B r) (S₀ ++ S₂) (.own box u x (setFlP f u fl .sh) (none :: log)) G := by
        refine ⟨Grow.refl _ _, hF, fun b hb => ?_, ?_, fun b hb => ?_, ?_⟩
        · rcases hb with hb | hb
          · exact ⟨inv.flt b hb, .inl hb⟩
          · have : b ∈ own1 m r (σ.h r) := by rw [hg, own1_eq, hS]; simp [hb]
            exact ⟨(inv.lt r b this).1, .inr (.inl this)⟩
        · rw [own1_eq, mem_put.2.1, mem_put.2.2.1]; exact hall'.2.1
        · rw [own1_eq, mem_put.2.1, mem_put.2.2.1] at hb
          have hnS : b ∉ S₁ := fun hm => hall'.2.2 b hm b hb rfl
          have hin : b ∈ own1 m r (σ.h r) ++ G := by rw [hg, own1_eq, hS]; exact hp.mem_iff.2 (List.mem_append_right _ hb)
          rcases List.mem_append.1 hin with h1 | h1
          · have := inv.lt r b h1
            exact ⟨.inl h1, this.1, fun hf => hf.elim this.2.1 hnS, this.2.2⟩
          · have := inv.glt b h1
            exact ⟨.inr (.inl h1), this.1, fun hf => hf.elim this.2.1 hnS, this.2.2⟩
        · refine ⟨?_, fun hb => ?_⟩
          · rw [mem_put.1, mem_put.2.2.1, mem_put.2.2.2]; exact ho'
          · obtain ⟨e, he⟩ := hreg.2 hb
            exact ⟨e, by rw [mem_put.1, mem_put.2.1]; exact he⟩
      refine ⟨d, _, _, _, _, e, ?_, hc.inv inv, hc.up inv (by rw [hg]; exact out_keeps), h4⟩
      exact hrep
  | emp => exact h.elim
  | un => exact h.elim
  | und => exact h.elim
  | addr p ver => exact h.elim
  | raddr t x => exact h.elim
  | clo f c => exact h.elim
  | rclo f c => exact h.elim
  | itr r => exact h.elim
  | tup vs => exact h.elim

/-- A value in hand is put into a new region. -/
theorem new_ok {σ : St} {S : List Nat} (inv : Inv W w m σ.h (S ++ G)) {r : Nat} (hr : σ.h r = .free) {t : Ty} {x : t.den} {fl : Fl} {cs : List Value} (hown : Own w m.F t fl x cs S) :
    ∃ m', Inv W w m' (upd σ.h r (.own false t x fl [])) G ∧ Up W w m σ.h w m' (upd σ.h r (.own false t x fl [])) ∧
      VR1 w m' (upd σ.h r (.own false t x fl [])) (.bor ⟨r, [], none⟩ 0) (toV t cs) := by
  have hc : Change W w m σ.h (S ++ G) r w m.F cs (m.B r) S (.own false t x fl []) G := by
    refine ⟨Grow.refl _ _, fun _ h => h, fun b hb => ⟨inv.flt b hb, .inl hb⟩, ?_, fun b hb => ?_, ?_⟩
    · rw [own1_eq, mem_put.2.2.1]; exact inv.gdup
    · rw [own1_eq, mem_put.2.2.1] at hb
      exact ⟨.inr (.inl hb), inv.glt b hb⟩
    · refine ⟨?_, fun h => by cases h⟩
      rw [mem_put.1, mem_put.2.2.1, mem_put.2.2.2]; exact hown
  refine ⟨_, hc.inv inv, hc.up inv ?_, ?_⟩
  · rw [hr]; exact ⟨fun p ver v _ h => h.elim, fun p ver v _ h => h.elim, fun v h => h.elim⟩
  · simp only [VR1, upd_same, BorR]
    refine ⟨Nat.le_refl _, fun _ => ⟨t, rfl, ?_⟩⟩
    rw [mem_put.1]
    have := Own.length hown
    simp [offP, ← this]

/-- A new variable, its block new too. -/
theorem newbox_ok {σ : St} {S : List Nat} (inv : Inv W w m σ.h (S ++ G)) {r : Nat} (hr : σ.h r = .free) {t : Ty} {x : t.den} {fl : Fl} {cs : List Value} (hown : Own w m.F t fl x cs S) {e : TypeId} {w' : World}
    (hw : w' = { w with heap := w.heap.push (.cells cs.toArray e (0, 0)) }) :
    ∃ m', Inv W w' m' (upd σ.h r (.own true t x fl [])) G ∧ Up W w m σ.h w' m' (upd σ.h r (.own true t x fl [])) ∧
      VR1 w' m' (upd σ.h r (.own true t x fl [])) (.addr ⟨r, [], none⟩ 0) (.pointer (some ⟨w.heap.size, 0, none⟩)) := by
  have hold : ∀ b, b < w.heap.size → w'.heap[b]? = w.heap[b]? := by
    intro b hb; subst hw; simp [Array.getElem?_push, Nat.ne_of_lt hb]
  have hnew : w'.heap[w.heap.size]? = some (.cells cs.toArray e (0, 0)) := by subst hw; simp
  have hsz : w'.heap.size = w.heap.size + 1 := by subst hw; simp
  have hgrow : ∀ L, Grow w w' L := fun L => ⟨fun b hb _ => hold b hb, by omega, by subst hw; rfl, by subst hw; rfl⟩
  have hst : Stays w w' m.F m.F := fun b hb => ⟨hb, hold b (inv.flt b hb)⟩
  have hc : Change W w m σ.h (S ++ G) r w' m.F cs w.heap.size S (.own true t x fl []) G := by
    refine ⟨hgrow _, fun _ h => h, fun b hb => ⟨by have := inv.flt b hb; omega, .inl hb⟩, ?_, fun b hb => ?_, ?_⟩
    · rw [own1_eq, mem_put.2.1, mem_put.2.2.1]
      simp only [boxed, List.singleton_append, List.cons_append]
      exact List.nodup_cons.2 ⟨fun hm => absurd (inv.glt _ hm).1 (by omega), inv.gdup⟩
    · rw [own1_eq, mem_put.2.1, mem_put.2.2.1] at hb
      simp only [boxed, List.singleton_append, List.cons_append, List.mem_cons] at hb
      rcases hb with hb | hb
      · subst hb; exact ⟨.inr (.inr (Nat.le_refl _)), by omega, fun hf => absurd (inv.flt _ hf) (by omega), inv.new _ (Nat.le_refl _)⟩
      · have := inv.glt b hb; exact ⟨.inr (.inl hb), by omega, this.2⟩
    · refine ⟨?_, fun _ => ⟨e, ?_⟩⟩
      · rw [mem_put.1, mem_put.2.2.1, mem_put.2.2.2]
        exact Own.mono hst (fun b hb => hold b (inv.glt b (List.mem_append_left _ hb)).1) hown
      · rw [mem_put.1, mem_put.2.1]; exact hnew
  refine ⟨_, hc.inv inv, hc.up inv ?_, ?_⟩
  · rw [hr]; exact ⟨fun p ver v _ h => h.elim, fun p ver v _ h => h.elim, fun v h => h.elim⟩
  · simp only [VR1, upd_same, AddrR]
    exact ⟨Nat.le_refl _, trivial, t, rfl, by rw [mem_put.2.1]; rfl⟩
theorem Poke.grow {w w' : World} {b o : Nat} {cs : List Value} (hp : Poke w w' b o cs) {L : List Nat} (hb : b ∈ L) : Grow w w' L :=
  ⟨fun b' _ hn => hp.other b' (fun e => hn (e ▸ hb)), by rw [hp.size]; exact Nat.le_refl _, hp.os, hp.output⟩

/-- A store into a variable. -/
theorem layV_ok {σ : St} {w' : World} {S' : List Nat} (inv : Inv W w m σ.h (S' ++ G)) {p : Pl} {ver : Nat} {t : Ty} {x y : t.den} {fl fd : Fl} {log : Log} (hp : p.ix = none) (hg : σ.h p.r = .own true t x fl log) {d : DV} {cs : List Value} {b o : Nat}
    (ha : AddrR m (.own true t x fl log) p ver (.pointer (some ⟨b, o, none⟩))) (hown : Own w m.F d.t fd d.x cs S') (hy : setP p.f t x d = some y) (hdt : typP p.f t = some d.t) (hpoke : Poke w w' b o cs) :
    ∃ m', Inv W w' m' (upd σ.h p.r (.own true t y (setFlP p.f t fl fd) (some p.f :: log))) G ∧ Up W w m σ.h w' m' (upd σ.h p.r (.own true t y (setFlP p.f t fl fd) (some p.f :: log))) := by
  obtain ⟨r, f, ix⟩ := p
  simp only at hp hg hy hdt
  subst hp
  obtain ⟨hver, _, u, hu, hv⟩ := ha
  rw [hdt] at hu
  cases hu
  simp only [Value.pointer.injEq, Option.some.injEq, Addr.mk.injEq] at hv
  obtain ⟨rfl, rfl, _⟩ := hv
  have hreg := inv.reg r
  rw [hg] at hreg
  obtain ⟨e, he⟩ := hreg.2 rfl
  obtain ⟨z, hz⟩ := getP_typP x hdt
  obtain ⟨S₀, S₁, S₂, hS, ho, hset⟩ := region_path hreg.1 hz
  have hlC := Own.length hreg.1
  have hlcs : cs.length = d.t.sz := Own.length hown
  have hle := typP_le hdt
  have hall := inv.all r
  rw [hg, own1_eq, hS] at hall
  simp only [boxed, List.cons_append, List.nil_append] at hall
  have hall1 := List.nodup_cons.1 hall
  obtain ⟨row', h1, h2, h3, h4⟩ := hpoke.cells _ _ _ he (by simp; omega)
  have hrow := row_of_seg (C := m.C r) rfl h2 (by omega) h3 h4
  have hbown : m.B r ∈ own1 m r (σ.h r) := by rw [hg, own1_eq]; simp [boxed]
  have hgrow : Grow w w' (own1 m r (σ.h r) ++ (S' ++ G)) := hpoke.grow (List.mem_append_left _ hbown)
  have hst : Stays w w' m.F m.F := fun b hb => ⟨hb, hpoke.other b (fun e => (inv.lt r _ hbown).2.1 (e ▸ hb))⟩
  have hown' : Own w' m.F d.t fd d.x cs S' := Own.mono hst (fun b hb => hpoke.other b (fun e => by
    refine hall1.1 ?_
    rw [← e]
    simp [hb])) hown
  obtain ⟨x', hx', ho'⟩ := hset w' m.F d.x fd cs S' hst (fun b hb => hpoke.other b (fun e => by
    refine hall1.1 ?_
    rw [← e]
    rcases List.mem_append.1 hb with hb | hb <;> simp [hb])) hown'
  have hxy : setP f t x ⟨d.t, d.x⟩ = some y := hy
  rw [hxy] at hx'
  cases hx'
  have hpm : (m.B r :: (S₀ ++ (S₁ ++ S₂) ++ (S' ++ G))).Perm (S₁ ++ (m.B r :: (S₀ ++ (S' ++ S₂)) ++ G)) := perm_of_count fun a => by
    simp only [List.count_append, List.count_cons, List.cons_append]; omega
  have hd1 := List.nodup_append.1 (hpm.nodup_iff.1 hall)
  have hc : Change W w m σ.h (S' ++ G) r w' m.F ((m.C r).take (offP f t) ++ (cs ++ (m.C r).drop (offP f t + d.t.sz))) (m.B r) (S₀ ++ (S' ++ S₂)) (.own true t y (setFlP f t fl fd) (some f :: log)) G := by
    refine ⟨hgrow, fun _ h => h, fun b hb => ⟨by rw [hpoke.size]; exact inv.flt b hb, .inl hb⟩, ?_, fun b hb => ?_, ?_⟩
    · rw [own1_eq, mem_put.2.1, mem_put.2.2.1]; exact hd1.2.1
    · rw [own1_eq, mem_put.2.1, mem_put.2.2.1] at hb
      have h5 : b ∈ own1 m r (σ.h r) ++ (S' ++ G) := by
        rw [hg, own1_eq, hS]
        exact hpm.mem_iff.2 (List.mem_append_right _ hb)
      rcases List.mem_append.1 h5 with h6 | h6
      · have := inv.lt r b h6; rw [hpoke.size]; exact ⟨.inl h6, this⟩
      · have := inv.glt b h6; rw [hpoke.size]; exact ⟨.inr (.inl h6), this⟩
    · refine ⟨?_, fun _ => ⟨e, ?_⟩⟩
      · rw [mem_put.1, mem_put.2.2.1, mem_put.2.2.2]; exact ho'
      · rw [mem_put.1, mem_put.2.1, h1, hrow, hlcs]
  refine ⟨_, hc.inv inv, hc.up inv ?_⟩
  rw [hg]
  refine ⟨fun p ver' v hp hb => ?_, fun p ver' v hp hb => ?_, fun v _ => trivial⟩
  · obtain ⟨r', g, ix⟩ := p
    simp only at hp
    subst hp
    obtain ⟨h5, h6⟩ := hb
    refine ⟨by simp only [List.length_cons]; omega, ?_⟩
    cases ix with
    | none =>
      simp only at h6 ⊢
      intro hf
      obtain ⟨hl, hf'⟩ := fresh_some h5 hf
      obtain ⟨u', hu', e⟩ := h6 hf'
      refine ⟨u', hu', ?_⟩
      rw [mem_put.1, e, seg_apart (by omega) hlcs (laps_apart hl hu' hdt)]
    | some iq => obtain ⟨i, q⟩ := iq; simp only at h6 ⊢; intro hl; simp only [List.length_cons] at hl; omega
  · obtain ⟨r', g, ix⟩ := p
    simp only at hp
    subst hp
    obtain ⟨h5, h6⟩ := hb
    refine ⟨by simp only [List.length_cons]; omega, ?_⟩
    cases ix with
    | none => simp only at h6 ⊢; rw [mem_put.2.1]; exact h6
    | some iq =>
      obtain ⟨i, q⟩ := iq
      simp only at h6 ⊢
      intro hf
      obtain ⟨hl, hf'⟩ := fresh_some h5 hf
      rw [mem_put.1]
      obtain ⟨u', z', b', off, len, cap, e1, e2, e3, e4, e5⟩ := h6 hf'
      refine ⟨u', z', b', off, len, cap, e1, e2, ?_, e4, e5⟩
      have := seg_apart (C := m.C r') (cs := cs) (a := offP f t) (n := d.t.sz) (b := offP g t) (k := 1) (by omega) hlcs (laps_apart hl e1 hdt)
      have h7 := congrArg (fun l => l[0]?) this
      simp only [List.getElem?_take, List.getElem?_drop, Nat.add_zero, Nat.zero_lt_one, if_true] at h7
      rw [h7, e3]

theorem setF_fld : ∀ {t : Ty} {k : Nat} {x y : t.den} {d : DV}, setF t k x d = some y → t.fld k = some d.t
  | .prod a b, k, x, y, d, h => by
    by_cases hk : k = 0
    · subst hk
      have h' : (d.as a).map (fun z => ((z, x.2) : a.den × b.den)) = some y := h
      obtain ⟨z, hz, _⟩ := Option.map_eq_some_iff.1 h'
      rw [DV.as_eq hz]; simp [Ty.fld]
    · simp only [setF, kz hk, cond_false] at h
      have h' : (setF b (k - 1) x.2 d).map (fun z => ((x.1, z) : a.den × b.den)) = some y := h
      obtain ⟨z, hz, _⟩ := Option.map_eq_some_iff.1 h'
      simp only [Ty.fld, kz hk, cond_false]
      exact setF_fld hz
  | .int _, k, x, y, d, h => setF_fld_leaf h (by intro h; subst h; rfl) (by intro h x d; simp [setF, kz h]) (by intro h x d; subst h; rfl)
  | .bool, k, x, y, d, h => setF_fld_leaf h (by intro h; subst h; rfl) (by intro h x d; simp [setF, kz h]) (by intro h x d; subst h; rfl)
  | .str, k, x, y, d, h => setF_fld_leaf h (by intro h; subst h; rfl) (by intro h x d; simp [setF, kz h]) (by intro h x d; subst h; rfl)
  | .list _, k, x, y, d, h => setF_fld_leaf h (by intro h; subst h; rfl) (by intro h x d; simp [setF, kz h]) (by intro h x d; subst h; rfl)
  | .arr _ _, k, x, y, d, h => setF_fld_leaf h (by intro h; subst h; rfl) (by intro h x d; simp [setF, kz h]) (by intro h x d; subst h; rfl)
  | .agg _, k, x, y, d, h => setF_fld_leaf h (by intro h; subst h; rfl) (by intro h x d; simp [setF, kz h]) (by intro h x d; subst h; rfl)
  where
  setF_fld_leaf {t : Ty} {k : Nat} {x y : t.den} {d : DV} (h : setF t k x d = some y) (h0 : k = 0 → t.fld k = some t) (h1 : ¬ k = 0 → ∀ x d, setF t k x d = none) (h2 : k = 0 → ∀ x d, setF t k x d = d.as t) : t.fld k = some d.t := by
    by_cases hk : k = 0
    · rw [h2 hk] at h; rw [h0 hk, DV.as_eq h]
    · rw [h1 hk] at h; cases h

theorem setP_typP : ∀ {ks : List Nat} {t : Ty} {x y : t.den} {d : DV}, setP ks t x d = some y → typP ks t = some d.t
  | [], t, x, y, d, h => by simp only [setP] at h; rw [DV.as_eq h]; rfl
  | k :: ks, .agg t, x, y, d, h => by
    simp only [setP] at h
    obtain ⟨e, he, h⟩ := Option.bind_eq_some_iff.1 h
    have h' : (setP ks e.t e.x d).bind (fun y => setF t k x ⟨e.t, y⟩) = some (y : t.den) := h
    obtain ⟨z, hz, _⟩ := Option.bind_eq_some_iff.1 h'
    simp [typP, fld_getF he, setP_typP hz]
  | _ :: _, .int _, _, _, _, h => by simp [setP] at h
  | _ :: _, .bool, _, _, _, h => by simp [setP] at h
  | _ :: _, .str, _, _, _, h => by simp [setP] at h
  | _ :: _, .list _, _, _, _, h => by simp [setP] at h
  | _ :: _, .arr _ _, _, _, _, h => by simp [setP] at h
  | _ :: _, .prod _ _, _, _, _, h => by simp [setP] at h

theorem hd_len {w : World} {F : Nat → Prop} {t : Ty} {fl : Fl} {x : t.den} {C : List Value} {S : List Nat} {f : List Nat} {u : Ty} {xs : List u.den} {a : Option Addr} {len cap : Nat} (hown : Own w F t fl x C S) (hd : getP f t x = some ⟨.list u, xs⟩)
    (ho : (flP f t fl).isOw = true ∨ flP f t fl = .sh) (hc : C[offP f t]? = some (.slice a len cap)) : len = xs.length := by
  obtain ⟨U, L, V, _, ho', _⟩ := region_path hown hd
  have key : ∃ A cap', (C.drop (offP f t)).take 1 = [.slice A xs.length cap'] := by
    cases hfl : flP f t fl with
    | ow c => simp only at ho'; rw [hfl] at ho'; obtain ⟨A, cap', hcs, _⟩ := ho'; exact ⟨A, cap', hcs⟩
    | owx i c d => simp only at ho'; rw [hfl] at ho'; obtain ⟨A, cap', hcs, _⟩ := ho'; exact ⟨A, cap', hcs⟩
    | sh => simp only at ho'; rw [hfl] at ho'; obtain ⟨⟨A, cap', hcs, _⟩, _⟩ := ho'; exact ⟨A, cap', hcs⟩
    | pr _ _ => rw [hfl] at ho; simp [Fl.isOw] at ho
    | ho => rw [hfl] at ho; simp [Fl.isOw] at ho
  obtain ⟨A, cap', hcs⟩ := key
  have := congrArg (fun l => l[0]?) hcs
  simp [List.getElem?_take, List.getElem?_drop] at this
  rw [hc] at this
  simp at this
  exact this.2.1

theorem seg_poke {row row' : Array Value} {a n k : Nat} {cs : List Value} (hk : k + cs.length ≤ n) (ha : a + n ≤ row.size) (hs : row'.size = row.size) (h1 : seg row' (a + k) cs.length = cs)
    (h2 : ∀ j, j < a + k ∨ a + k + cs.length ≤ j → row'[j]? = row[j]?) : seg row' a n = (seg row a n).take k ++ (cs ++ (seg row a n).drop (k + cs.length)) := by
  have hl : (seg row a n).length = n := seg_length ha
  apply List.ext_getElem?
  intro j
  rw [List.getElem?_append, List.getElem?_append, List.length_take, hl, Nat.min_eq_left (by omega), List.getElem?_take, List.getElem?_drop]
  have key : ∀ (r : Array Value) j, (seg r a n)[j]? = if j < n then r[a + j]? else none := by
    intro r j; simp [seg, List.getElem?_take, List.getElem?_drop]
  rw [key]
  by_cases hj : j < k
  · rw [if_pos hj, if_pos hj, if_pos (by omega), key, if_pos (by omega), h2 _ (.inl (by omega))]
  · rw [if_neg hj]
    by_cases hj' : j - k < cs.length
    · rw [if_pos hj', if_pos (by omega)]
      have := congrArg (fun l => l[j - k]?) h1
      simp only [seg, List.getElem?_take, List.getElem?_drop, Array.getElem?_toList, if_pos hj'] at this
      rw [← this]
      congr 1
      omega
    · rw [if_neg hj', key]
      have e : k + cs.length + (j - k - cs.length) = j := by omega
      rw [e]
      split
      · rw [h2 _ (.inr (by omega))]
      · rfl

/-- The flag of a slice whose i-th element was written. -/
def Conv (w : World) (F : Nat → Prop) (u : Ty) (f g : Fl) : Prop :=
  ∀ xs cs S, Own w F (.list u) f xs cs S → S.Nodup → ∃ T, T.Sublist S ∧ ∀ F', Left F F' S T → Own w F' (.list u) g xs cs T

theorem Conv.refl (w : World) (F : Nat → Prop) (u : Ty) (f : Fl) : Conv w F u f f := fun _ _ S h _ => ⟨S, List.Sublist.refl _, fun _ hl => Own.mono (fun b hb => ⟨hl.1 b hb, rfl⟩) (fun _ _ => rfl) h⟩

theorem Conv.fits {w : World} {F : Nat → Prop} {u : Ty} {f g : Fl} (h : Fl.fits (.list u) f g = true) : Conv w F u f g := fun _ _ _ ho hn => fits_own h ho hn

/-- A store into an element of a slice. -/
theorem layE_ok {σ : St} {w' : World} {S' : List Nat} (inv : Inv W w m σ.h (S' ++ G)) {r : Nat} {f q : List Nat} {i ver : Nat} {box : Bool} {t : Ty} {x z : t.den} {fl fd : Fl} {log : Log} (hg : σ.h r = .own box t x fl log) {d : DV} {cs : List Value} {b o : Nat}
    (ha : AddrR m (.own box t x fl log) ⟨r, f, some (i, q)⟩ ver (.pointer (some ⟨b, o, none⟩))) (hst : fresh f log ver = true) (hown : Own w m.F d.t fd d.x cs S') (hpoke : Poke w w' b o cs) {u : Ty} {xs : List u.den} {y : u.den} {c e g : Fl}
    (hxs : getP f t x = some ⟨.list u, xs⟩) (hc : flP f t fl = .ow c ∧ e = c ∨ flP f t fl = .owx i c e) (hy : setP q u (xs.getD i u.dflt) d = some y) (hz : setP f t x ⟨.list u, xs.set i y⟩ = some z)
    (hconv : Conv w' m.F u (.owx i c (setFlP q u e fd)) g) :
    ∃ m', Inv W w' m' (upd σ.h r (.own box t z (setFlP f t fl g) (none :: log))) G ∧ Up W w m σ.h w' m' (upd σ.h r (.own box t z (setFlP f t fl g) (none :: log))) := by
  obtain ⟨hver, ha⟩ := ha
  obtain ⟨u', zt, b', off, len, cap, e1, e2, e3, hi, hv⟩ := ha hst
  rw [typP_getP hxs] at e1
  cases e1
  rw [setP_typP hy] at e2
  cases e2
  simp only [Value.pointer.injEq, Option.some.injEq, Addr.mk.injEq] at hv
  obtain ⟨rfl, rfl, _⟩ := hv
  have hreg := inv.reg r
  rw [hg] at hreg
  have hisow : (flP f t fl).isOw = true ∨ flP f t fl = .sh := by
    left
    rcases hc with ⟨h, _⟩ | h <;> rw [h] <;> rfl
  have hlen := hd_len hreg.1 hxs hisow e3
  subst hlen
  obtain ⟨U, L, V, hS, ho, hset⟩ := region_path hreg.1 hxs
  have ho' : Own w m.F (.list u) (.owx i c e) xs (((m.C r).drop (offP f t)).take 1) L := by
    rcases hc with ⟨h1, rfl⟩ | h1
    · simp only at ho; rw [h1] at ho; exact Own.open hi ho
    · simp only at ho; rw [h1] at ho; exact ho
  obtain ⟨b', off', cap', row, et, S₀, S₁, S₂, hcs, _, rfl, hh, hsz, hel, hcl⟩ := Own.elem ho'
  have hC : (m.C r)[offP f t]? = some (.slice (some ⟨b', off', none⟩) xs.length cap') := by
    have := congrArg (fun l => l[0]?) hcs
    simpa [List.getElem?_take, List.getElem?_drop] using this
  rw [e3] at hC
  simp only [Option.some.injEq, Value.slice.injEq, Addr.mk.injEq] at hC
  obtain ⟨⟨rfl, rfl, _⟩, _, rfl⟩ := hC
  obtain ⟨pv, hpv⟩ := getP_typP (xs.getD i u.dflt) (setP_typP hy)
  obtain ⟨T₀, T₁, T₂, hT, hpart, hpset⟩ := region_path hel hpv
  subst hT
  have hlcs : cs.length = d.t.sz := Own.length hown
  have hle := typP_le (setP_typP hy)
  have hs1 : (i + 1) * u.sz = i * u.sz + u.sz := Nat.succ_mul _ _
  have hall := inv.all r
  rw [hg, own1_eq, hS] at hall
  have hbown : b ∈ own1 m r (σ.h r) := by rw [hg, own1_eq, hS]; simp
  have hgrow : Grow w w' (own1 m r (σ.h r) ++ (S' ++ G)) := hpoke.grow (List.mem_append_left _ hbown)
  have hst' : Stays w w' m.F m.F := fun a hb => ⟨hb, hpoke.other a (fun e => (inv.lt r _ hbown).2.1 (e ▸ hb))⟩
  have hpm : (boxed box (m.B r) ++ (U ++ (b :: (S₀ ++ (T₀ ++ (T₁ ++ T₂) ++ S₂)) ++ V)) ++ (S' ++ G)).Perm (b :: (boxed box (m.B r) ++ U ++ S₀ ++ T₀ ++ T₁ ++ T₂ ++ S₂ ++ V ++ S' ++ G)) := perm_of_count fun a => by
    simp only [List.count_append, List.count_cons, List.cons_append]; omega
  have hall1 := List.nodup_cons.1 (hpm.nodup_iff.1 hall)
  have hne : ∀ a, a ∈ boxed box (m.B r) ++ U ++ S₀ ++ T₀ ++ T₁ ++ T₂ ++ S₂ ++ V ++ S' ++ G → w'.heap[a]? = w.heap[a]? := fun a ha => hpoke.other a (fun e => hall1.1 (e ▸ ha))
  obtain ⟨row', h1, h2, h3, h4⟩ := hpoke.cells _ _ _ hh (by omega)
  have hown' : Own w' m.F d.t fd d.x cs S' := Own.mono hst' (fun a ha => hne a (by simp [ha])) hown
  obtain ⟨y', hy', hoy⟩ := hpset w' m.F d.x fd cs S' hst' (fun a ha => hne a (by simp at ha ⊢; rcases ha with ha | ha <;> simp [ha])) hown'
  have hyy : setP q u (xs.getD i u.dflt) ⟨d.t, d.x⟩ = some y := hy
  rw [hyy] at hy'
  cases hy'
  have hrow := seg_poke (row := row) (row' := row') (a := off + i * u.sz) (n := u.sz) (k := offP q u) (cs := cs) (by omega) (by omega) h2 h3 h4
  simp only at hoy
  rw [← hlcs, ← hrow] at hoy
  have helem := hcl w' m.F y _ row' _ hst' (fun a ha => hne a (by simp at ha ⊢; rcases ha with ha | ha <;> simp [ha])) h1 h2 (fun j hj => h4 j (by omega)) hoy
  have hpm2 : (b :: (boxed box (m.B r) ++ U ++ S₀ ++ T₀ ++ T₁ ++ T₂ ++ S₂ ++ V ++ S' ++ G)).Perm (T₁ ++ ((b :: (S₀ ++ (T₀ ++ (S' ++ T₂) ++ S₂))) ++ (boxed box (m.B r) ++ U ++ V ++ G))) := perm_of_count fun a => by
    simp only [List.count_append, List.count_cons, List.cons_append]; omega
  have hall2 := (List.nodup_append.1 (hpm2.nodup_iff.1 (hpm.nodup_iff.1 hall))).2.1
  obtain ⟨T, hTs, hconv'⟩ := hconv _ _ _ helem (List.nodup_append.1 hall2).1
  let F' : Nat → Prop := fun a => m.F a ∨ (a ∈ b :: (S₀ ++ (T₀ ++ (S' ++ T₂) ++ S₂)) ∧ a ∉ T)
  have hF : ∀ a, m.F a → F' a := fun a ha => .inl ha
  have hlist := hconv' F' ⟨hF, fun a ha hn => .inr ⟨ha, hn⟩⟩
  obtain ⟨x', hx', hox⟩ := hset w' F' (xs.set i y) g _ T (fun a ha => ⟨hF a ha, (hst' a ha).2⟩) (fun a ha => hne a (by simp at ha ⊢; rcases ha with ha | ha <;> simp [ha])) hlist
  have hxx : setP f t x ⟨.list u, xs.set i y⟩ = some z := hz
  cases hxx.symm.trans hx'
  have hcat : (m.C r).take (offP f t) ++ (((m.C r).drop (offP f t)).take 1 ++ (m.C r).drop (offP f t + (Ty.list u).sz)) = m.C r := take_drop_cat _ _ _
  simp only at hox
  rw [hcat] at hox
  have old : ∀ a, a ∈ b :: (S₀ ++ (T₀ ++ (S' ++ T₂) ++ S₂)) ++ (boxed box (m.B r) ++ U ++ V ++ G) → a ∈ own1 m r (σ.h r) ++ (S' ++ G) := fun a ha => by
    rw [hg, own1_eq, hS]
    exact hpm.mem_iff.2 (hpm2.mem_iff.2 (List.mem_append_right _ ha))
  have good : ∀ a, a ∈ own1 m r (σ.h r) ++ (S' ++ G) → (a ∈ own1 m r (σ.h r) ∨ a ∈ S' ++ G ∨ w.heap.size ≤ a) ∧ a < w'.heap.size ∧ ¬ m.F a ∧ W a := fun a ha => by
    rcases List.mem_append.1 ha with h | h
    · have := inv.lt r a h; rw [hpoke.size]; exact ⟨.inl h, this⟩
    · have := inv.glt a h; rw [hpoke.size]; exact ⟨.inr (.inl h), this⟩
  have hpm3 : (boxed box (m.B r) ++ (U ++ (T ++ V)) ++ G).Perm (T ++ (boxed box (m.B r) ++ U ++ V ++ G)) := perm_of_count fun a => by
    simp only [List.count_append]; omega
  have hsub3 : (T ++ (boxed box (m.B r) ++ U ++ V ++ G)).Sublist (b :: (S₀ ++ (T₀ ++ (S' ++ T₂) ++ S₂)) ++ (boxed box (m.B r) ++ U ++ V ++ G)) := hTs.append (List.Sublist.refl _)
  have hc : Change W w m σ.h (S' ++ G) r w' F' (m.C r) (m.B r) (U ++ (T ++ V)) (.own box t z (setFlP f t fl g) (none :: log)) G := by
    refine ⟨hgrow, hF, fun a ha => ?_, ?_, fun a ha => ?_, ?_⟩
    · rcases ha with ha | ⟨ha, _⟩
      · exact ⟨by rw [hpoke.size]; exact inv.flt a ha, .inl ha⟩
      · have := good a (old a (List.mem_append_left _ ha))
        exact ⟨this.2.1, .inr this.1⟩
    · rw [own1_eq, mem_put.2.1, mem_put.2.2.1]
      exact hpm3.nodup_iff.2 (hall2.sublist hsub3)
    · rw [own1_eq, mem_put.2.1, mem_put.2.2.1] at ha
      have ha' := hpm3.mem_iff.1 ha
      have := good a (old a (hsub3.mem ha'))
      refine ⟨this.1, this.2.1, fun hf => ?_, this.2.2.2⟩
      rcases hf with hf | ⟨hf, hn⟩
      · exact this.2.2.1 hf
      · rcases List.mem_append.1 ha' with h | h
        · exact hn h
        · exact (List.nodup_append.1 hall2).2.2 a hf a h rfl
    · refine ⟨?_, fun hb => ?_⟩
      · rw [mem_put.1, mem_put.2.2.1, mem_put.2.2.2]; exact hox
      · obtain ⟨e, he⟩ := hreg.2 hb
        subst hb
        refine ⟨e, ?_⟩
        rw [mem_put.1, mem_put.2.1, hne _ (by simp [boxed])]
        exact he
  exact ⟨_, hc.inv inv, hc.up inv (by rw [hg]; exact out_keeps)⟩

end

end Go.Proofs.Ytllcebmbaejlhaa.Ab
