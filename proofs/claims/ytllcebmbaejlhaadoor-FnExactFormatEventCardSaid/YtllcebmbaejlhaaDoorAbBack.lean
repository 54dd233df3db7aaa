/- Calls: what a callee has written. -/
import Derived.Test.YtllcebmbaejlhaaDoorAbCall
namespace Go.Proofs.YtllcebmbaejlhaaDoor.Ab
open Go

section
variable {P : Program} {T : Types} {W : Nat → Prop} {w w' : World} {S : Specs} {j : Nat}

/-- The hand, the memory and what nobody writes change. -/
theorem hand_change {m : Mem} {h : Nat → Reg} {G G' : List Nat} {F' : Nat → Prop} (inv : Inv W w m h G) (hg : Grow w w' G) (hF : ∀ b, m.F b → F' b) (hF' : ∀ b, F' b → b < w'.heap.size ∧ (m.F b ∨ b ∈ G ∨ w.heap.size ≤ b)) (hd : G'.Nodup)
    (hm : ∀ b ∈ G', (b ∈ G ∨ w.heap.size ≤ b) ∧ b < w'.heap.size ∧ ¬ F' b) : Inv W w' { m with F := F' } h G' ∧ Up W w m h w' { m with F := F' } h := by
  have hown : ∀ r b, b ∈ own1 m r (h r) → w'.heap[b]? = w.heap[b]? := fun r b hb => hg.heap b (inv.lt r b hb).1 (inv.gdis r b hb)
  have hst : Stays w w' m.F F' := fun b hb => ⟨hF b hb, hg.heap b (inv.flt b hb) (fun hm => (inv.glt b hm).2.1 hb)⟩
  have ho1 : ∀ r g, own1 { m with F := F' } r g = own1 m r g := by
    intro r g
    cases g with
    | own b t x fl log => cases b <;> rfl
    | iter s pos => rfl
    | dead => rfl
    | free => rfl
  refine ⟨⟨fun r => ?_, fun r => by rw [ho1]; exact inv.nodup r, fun r r' hr b hb => by rw [ho1] at hb ⊢; exact inv.disj r r' hr b hb, hd, fun r b hb hb' => ?_, fun r b hb => ?_, fun b hb => ?_, fun b hb => (hF' b hb).1, fun b hb => inv.new b (Nat.le_trans hg.size hb)⟩, ?_⟩
  · have hr := inv.reg r
    cases hh : h r with
    | own box t x fl log =>
      rw [hh] at hr
      have ho : ∀ b, b ∈ own1 m r (.own box t x fl log) → w'.heap[b]? = w.heap[b]? := fun b hb => hown r b (by rw [hh]; exact hb)
      refine ⟨Own.mono hst (fun b hb => ho b (own1_S hb)) hr.1, fun hb => ?_⟩
      obtain ⟨e, he⟩ := hr.2 hb
      subst hb
      exact ⟨e, by show w'.heap[m.B r]? = _; rw [ho _ (by simp [own1])]; exact he⟩
    | iter s pos =>
      rw [hh] at hr
      exact ⟨by show w'.heap[m.B r]? = _; rw [hown r (m.B r) (by rw [hh]; simp [own1])]; exact hr.1, hr.2⟩
    | dead => trivial
    | free => trivial
  · rw [ho1] at hb
    rcases (hm b hb').1 with h1 | h1
    · exact inv.gdis r b hb h1
    · have := (inv.lt r b hb).1; omega
  · rw [ho1] at hb
    have := inv.lt r b hb
    refine ⟨Nat.lt_of_lt_of_le this.1 hg.size, fun hf => ?_, this.2.2⟩
    rcases (hF' b hf).2 with h1 | h1 | h1
    · exact this.2.1 h1
    · exact inv.gdis r b hb h1
    · exact absurd this.1 (by omega)
  · obtain ⟨h1, h2, h3⟩ := hm b hb
    refine ⟨h2, h3, ?_⟩
    rcases h1 with h1 | h1
    · exact (inv.glt b h1).2.2
    · exact inv.new b h1
  · refine ⟨?_, ⟨fun b hb hn => hg.heap b hb (fun hm => hn (inv.glt b hm).2.2), hg.size, hg.os, hg.output⟩, hst, fun b hb => ?_⟩
    · intro av v hv
      cases av with
      | un => trivial
      | und => exact hv
      | val t x => obtain ⟨cs, e, hr⟩ := hv; exact ⟨cs, e, Rep.mono hst hr⟩
      | emp => exact hv
      | bor p ver => exact BorR.stay rfl rfl (fun b hb => hown p.r b hb) hv
      | addr p ver => exact hv
      | raddr t x => exact RAddr.stay hst hv
      | clo f caps => exact hv
      | rclo f ds => obtain ⟨vs, e, hl⟩ := hv; exact ⟨vs, e, All2.mono (fun a b hab => RAddr.stay hst hab) hl⟩
      | itr r => exact hv
      | tup vs => exact hv.elim
    · rcases (hF' b hb).2 with h1 | h1 | h1
      · exact .inl h1
      · exact .inr (inv.glt b h1).2.2
      · exact .inr (inv.new b h1)

theorem count_le_one {l : List Nat} (h : l.Nodup) (b : Nat) : l.count b ≤ 1 := List.nodup_iff_count.1 h b
theorem count_zero {l : List Nat} {b : Nat} (h : b ∉ l) : l.count b = 0 := List.count_eq_zero.2 h

/-- A slice of flat elements in a region's part is written by a callee. -/
theorem mu_change {m : Mem} {h : Nat → Reg} {p : Pl} {G G₁ : List Nat} {F' : Nat → Prop} (inv : Inv W w m h G) {box : Bool} {t : Ty} {x : t.den} {fl : Fl} {log : Log} {d : DV} (hr : h p.r = .own box t x fl log) (hix : p.ix = none) (hd : getP p.f t x = some d)
    {c₀ c₁ c₂ : List Value} {S₀ S₁ S₂ Sp Sm : List Nat} (hC : m.C p.r = c₀ ++ (c₁ ++ c₂)) (hS : m.S p.r = S₀ ++ (S₁ ++ S₂)) (hsub : Sp.Sublist S₁)
    (hset : ∀ (w' : World) (F' : Nat → Prop) (y : d.t.den) (g' : Fl) (c₁' : List Value) (S₁' : List Nat), Stays w w' m.F F' → (∀ b ∈ S₀ ++ S₂, w'.heap[b]? = w.heap[b]?) → Own w' F' d.t g' y c₁' S₁' →
      ∃ x', setP p.f t x ⟨d.t, y⟩ = some x' ∧ Own w' F' t (setFlP p.f t fl g') x' (c₀ ++ (c₁' ++ c₂)) (S₀ ++ (S₁' ++ S₂)))
    (hg : Grow w w' (Sp ++ G)) (hF : ∀ b, m.F b → F' b) (hF' : ∀ b, F' b → b < w'.heap.size ∧ (m.F b ∨ b ∈ S₁ ++ G ∨ w.heap.size ≤ b))
    (hnd : (G₁ ++ Sm).Nodup) (hm : ∀ b ∈ G₁ ++ Sm, (b ∈ Sp ++ G ∨ w.heap.size ≤ b) ∧ b < w'.heap.size ∧ ¬ F' b) {y : d.t.den} (hy : Own w' F' d.t d.t.own y c₁ Sm) {z : t.den} (hz : setP p.f t x ⟨d.t, y⟩ = some z) :
    Inv W w' (m.put F' p.r (m.C p.r) (m.B p.r) (S₀ ++ (Sm ++ S₂))) (upd h p.r (.own box t z (setFlP p.f t fl d.t.own) (bif box then some p.f :: log else none :: log))) G₁ ∧
      Up W w m h w' (m.put F' p.r (m.C p.r) (m.B p.r) (S₀ ++ (Sm ++ S₂))) (upd h p.r (.own box t z (setFlP p.f t fl d.t.own) (bif box then some p.f :: log else none :: log))) := by
  have hall := inv.all p.r
  rw [hr, own1_eq, hS] at hall
  have hin : ∀ b, b ∈ boxed box (m.B p.r) ++ (S₀ ++ (S₁ ++ S₂)) → b ∈ own1 m p.r (h p.r) := fun b hb => by rw [hr, own1_eq, hS]; exact hb
  have hlt : ∀ b, b ∈ boxed box (m.B p.r) ++ (S₀ ++ (S₁ ++ S₂)) → b < w.heap.size ∧ ¬ m.F b ∧ W b := fun b hb => inv.lt p.r b (hin b hb)
  -- the old blocks that the callee was not given
  have hold : ∀ b, b ∈ boxed box (m.B p.r) ++ (S₀ ++ S₂) → b ∈ boxed box (m.B p.r) ++ (S₀ ++ (S₁ ++ S₂)) ∧ b ∉ S₁ ∧ b ∉ G ∧ b ∉ Sp ++ G := by
    intro b hb
    have hb' : b ∈ boxed box (m.B p.r) ++ (S₀ ++ (S₁ ++ S₂)) := by
      simp only [List.mem_append] at hb ⊢
      rcases hb with h | h | h
      · exact .inl h
      · exact .inr (.inl h)
      · exact .inr (.inr (.inr h))
    have hc := count_le_one hall b
    simp only [List.count_append] at hc
    have hp : 0 < (boxed box (m.B p.r) ++ (S₀ ++ S₂)).count b := List.count_pos_iff.2 hb
    simp only [List.count_append] at hp
    have h1 : b ∉ S₁ := fun h => by have := List.count_pos_iff.2 h; omega
    have h2 : b ∉ G := fun h => by have := List.count_pos_iff.2 h; omega
    exact ⟨hb', h1, h2, fun h => by
      rcases List.mem_append.1 h with h | h
      · exact h1 (hsub.mem h)
      · exact h2 h⟩
  have hstay : ∀ b, b ∈ boxed box (m.B p.r) ++ (S₀ ++ S₂) → w'.heap[b]? = w.heap[b]? := fun b hb => hg.heap b (hlt b (hold b hb).1).1 (hold b hb).2.2.2
  have hst : Stays w w' m.F F' := fun b hb => ⟨hF b hb, hg.heap b (inv.flt b hb) (fun hm => by
    rcases List.mem_append.1 hm with hm | hm
    · exact (hlt b (by simp [hsub.mem hm])).2.1 hb
    · exact (inv.glt b hm).2.1 hb)⟩
  obtain ⟨z', hz', hown⟩ := hset w' F' y d.t.own c₁ Sm hst (fun b hb => hstay b (List.mem_append_right _ hb)) hy
  rw [hz] at hz'
  cases hz'
  have hc : Change W w m h G p.r w' F' (m.C p.r) (m.B p.r) (S₀ ++ (Sm ++ S₂)) (.own box t z (setFlP p.f t fl d.t.own) (bif box then some p.f :: log else none :: log)) G₁ := by
    refine ⟨⟨fun b hb hn => hg.heap b hb (fun hm => hn ?_), hg.size, hg.os, hg.output⟩, hF, fun b hb => ⟨(hF' b hb).1, ?_⟩, ?_, fun b hb => ?_, ?_⟩
    · rcases List.mem_append.1 hm with hm | hm
      · exact List.mem_append_left _ (hin b (by simp [hsub.mem hm]))
      · exact List.mem_append_right _ hm
    · rcases (hF' b hb).2 with h1 | h1 | h1
      · exact .inl h1
      · rcases List.mem_append.1 h1 with h1 | h1
        · exact .inr (.inl (hin b (by simp [h1])))
        · exact .inr (.inr (.inl h1))
      · exact .inr (.inr (.inr h1))
    · rw [own1_eq, mem_put.2.1, mem_put.2.2.1]
      refine List.nodup_iff_count.2 fun b => ?_
      have h1 := count_le_one hall b
      have h2 := count_le_one hnd b
      simp only [List.count_append] at h1 h2 ⊢
      by_cases hb : b ∈ boxed box (m.B p.r) ++ (S₀ ++ S₂)
      · have h3 := hold b hb
        have h4 : b ∉ G₁ ++ Sm := fun h => by
          rcases (hm b h).1 with h5 | h5
          · exact h3.2.2.2 h5
          · exact absurd (hlt b h3.1).1 (by omega)
        have h5 := count_zero h4
        simp only [List.count_append] at h5
        omega
      · have h3 := count_zero hb
        simp only [List.count_append] at h3
        omega
    · rw [own1_eq, mem_put.2.1, mem_put.2.2.1] at hb
      have hb' : b ∈ boxed box (m.B p.r) ++ (S₀ ++ S₂) ∨ b ∈ G₁ ++ Sm := by
        simp only [List.mem_append] at hb ⊢
        rcases hb with (h | h | h | h) | h
        · exact .inl (.inl h)
        · exact .inl (.inr (.inl h))
        · exact .inr (.inr h)
        · exact .inl (.inr (.inr h))
        · exact .inr (.inl h)
      rcases hb' with hb | hb
      · have h3 := hold b hb
        have h4 := hlt b h3.1
        refine ⟨.inl (hin b h3.1), Nat.lt_of_lt_of_le h4.1 hg.size, fun hf => ?_, h4.2.2⟩
        rcases (hF' b hf).2 with h5 | h5 | h5
        · exact h4.2.1 h5
        · rcases List.mem_append.1 h5 with h5 | h5
          · exact h3.2.1 h5
          · exact h3.2.2.1 h5
        · exact absurd h4.1 (by omega)
      · obtain ⟨h1, h2, h3⟩ := hm b hb
        rcases h1 with h1 | h1
        · rcases List.mem_append.1 h1 with h1 | h1
          · exact ⟨.inl (hin b (by simp [hsub.mem h1])), h2, h3, (hlt b (by simp [hsub.mem h1])).2.2⟩
          · exact ⟨.inr (.inl h1), h2, h3, (inv.glt b h1).2.2⟩
        · exact ⟨.inr (.inr h1), h2, h3, inv.new b h1⟩
    · refine ⟨?_, fun hb => ?_⟩
      · rw [mem_put.1, mem_put.2.2.1, mem_put.2.2.2, hC]; exact hown
      · have hreg := inv.reg p.r
        rw [hr] at hreg
        obtain ⟨e, he⟩ := hreg.2 hb
        subst hb
        refine ⟨e, ?_⟩
        rw [mem_put.1, mem_put.2.1, hstay _ (by simp [boxed])]
        exact he
  refine ⟨hc.inv inv, hc.up inv ?_⟩
  rw [hr]
  have hfresh : ∀ f ver, ver ≤ log.length → fresh f (bif box then some p.f :: log else none :: log) ver = true → fresh f log ver = true := by
    intro f ver hv hf
    cases box with
    | true => exact (fresh_some hv hf).2
    | false => rw [cond_false, fresh_none hv] at hf; exact hf
  have hlen : (bif box then some p.f :: log else none :: log).length = log.length + 1 := by cases box <;> rfl
  refine ⟨fun p' ver v hp hb => ?_, fun p' ver v hp ha => ?_, fun v _ => trivial⟩
  · obtain ⟨h1, h2⟩ := hb
    refine ⟨by rw [hlen]; omega, ?_⟩
    obtain ⟨r', f', ix'⟩ := p'
    cases hp
    cases ix' with
    | none =>
      simp only at h2 ⊢
      intro hf
      rw [mem_put.1]
      exact h2 (hfresh _ _ h1 hf)
    | some iq =>
      obtain ⟨i, q⟩ := iq
      simp only
      intro hl
      rw [hlen] at hl
      omega
  · obtain ⟨h1, h2⟩ := ha
    refine ⟨by rw [hlen]; omega, ?_⟩
    obtain ⟨r', f', ix'⟩ := p'
    cases hp
    cases ix' with
    | none =>
      simp only at h2 ⊢
      rw [mem_put.2.1]
      exact h2
    | some iq =>
      obtain ⟨i, q⟩ := iq
      simp only at h2 ⊢
      intro hf
      rw [mem_put.1]
      exact h2 (hfresh _ _ h1 hf)

/-- A variable is written by a callee. -/
theorem mp_change {m : Mem} {h : Nat → Reg} {r : Nat} {G G₁ : List Nat} {F' : Nat → Prop} (inv : Inv W w m h G) {t : Ty} {x : t.den} {fl : Fl} {log : Log} (hr : h r = .own true t x fl log)
    {Sp Sm : List Nat} (hsub : Sp.Sublist (m.S r))
    (hg : Grow w w' (m.B r :: Sp ++ G)) (hF : ∀ b, m.F b → F' b) (hF' : ∀ b, F' b → b < w'.heap.size ∧ (m.F b ∨ b ∈ m.B r :: m.S r ++ G ∨ w.heap.size ≤ b))
    (hnd : (G₁ ++ m.B r :: Sm).Nodup) (hm : ∀ b ∈ G₁ ++ m.B r :: Sm, (b ∈ m.B r :: Sp ++ G ∨ w.heap.size ≤ b) ∧ b < w'.heap.size ∧ ¬ F' b) {y : t.den} {cs : List Value} {e : TypeId} (hh : w'.heap[m.B r]? = some (.cells cs.toArray e (0, 0))) (hy : Own w' F' t t.own y cs Sm) :
    Inv W w' (m.put F' r cs (m.B r) Sm) (upd h r (.own true t y t.own (some [] :: log))) G₁ ∧ Up W w m h w' (m.put F' r cs (m.B r) Sm) (upd h r (.own true t y t.own (some [] :: log))) := by
  have hin : ∀ b, b ∈ m.B r :: m.S r → b ∈ own1 m r (h r) := fun b hb => by rw [hr]; exact hb
  have hsp : ∀ b, b ∈ m.B r :: Sp → b ∈ m.B r :: m.S r := fun b hb => by
    rcases List.mem_cons.1 hb with rfl | hb
    · simp
    · exact List.mem_cons_of_mem _ (hsub.mem hb)
  have hlt : ∀ b, b ∈ m.B r :: m.S r → b < w.heap.size ∧ ¬ m.F b ∧ W b := fun b hb => inv.lt r b (hin b hb)
  have hst : Stays w w' m.F F' := fun b hb => ⟨hF b hb, hg.heap b (inv.flt b hb) (fun hm => by
    rcases List.mem_append.1 hm with hm | hm
    · exact (hlt b (hsp b hm)).2.1 hb
    · exact (inv.glt b hm).2.1 hb)⟩
  have hc : Change W w m h G r w' F' cs (m.B r) Sm (.own true t y t.own (some [] :: log)) G₁ := by
    refine ⟨⟨fun b hb hn => hg.heap b hb (fun hm => hn ?_), hg.size, hg.os, hg.output⟩, hF, fun b hb => ⟨(hF' b hb).1, ?_⟩, ?_, fun b hb => ?_, ?_⟩
    · rcases List.mem_append.1 hm with hm | hm
      · exact List.mem_append_left _ (hin b (hsp b hm))
      · exact List.mem_append_right _ hm
    · rcases (hF' b hb).2 with h1 | h1 | h1
      · exact .inl h1
      · rcases List.mem_append.1 h1 with h1 | h1
        · exact .inr (.inl (hin b h1))
        · exact .inr (.inr (.inl h1))
      · exact .inr (.inr (.inr h1))
    · rw [own1_eq, mem_put.2.1, mem_put.2.2.1]
      refine List.nodup_iff_count.2 fun b => ?_
      have h2 := count_le_one hnd b
      simp only [boxed, List.count_append, List.count_cons, List.count_nil] at h2 ⊢
      omega
    · rw [own1_eq, mem_put.2.1, mem_put.2.2.1] at hb
      have hb' : b ∈ G₁ ++ m.B r :: Sm := by
        simp only [boxed, List.mem_append, List.mem_cons, List.not_mem_nil, or_false] at hb ⊢
        rcases hb with (h | h) | h
        · exact .inr (.inl h)
        · exact .inr (.inr h)
        · exact .inl h
      obtain ⟨h1, h2, h3⟩ := hm b hb'
      rcases h1 with h1 | h1
      · rcases List.mem_append.1 h1 with h1 | h1
        · exact ⟨.inl (hin b (hsp b h1)), h2, h3, (hlt b (hsp b h1)).2.2⟩
        · exact ⟨.inr (.inl h1), h2, h3, (inv.glt b h1).2.2⟩
      · exact ⟨.inr (.inr h1), h2, h3, inv.new b h1⟩
    · refine ⟨?_, fun _ => ⟨e, ?_⟩⟩
      · rw [mem_put.1, mem_put.2.2.1, mem_put.2.2.2]; exact hy
      · rw [mem_put.1, mem_put.2.1]; exact hh
  refine ⟨hc.inv inv, hc.up inv ?_⟩
  rw [hr]
  have hfresh : ∀ f ver, ver ≤ log.length → fresh f (some [] :: log) ver = true → False := by
    intro f ver hv hf
    have := (fresh_some hv hf).1
    cases f <;> simp [laps] at this
  refine ⟨fun p' ver v hp hb => ?_, fun p' ver v hp ha => ?_, fun v _ => trivial⟩
  · obtain ⟨h1, h2⟩ := hb
    refine ⟨by simp only [List.length_cons]; omega, ?_⟩
    obtain ⟨r', f', ix'⟩ := p'
    cases hp
    cases ix' with
    | none => intro hf; exact (hfresh _ _ h1 hf).elim
    | some iq =>
      obtain ⟨i, q⟩ := iq
      intro hl
      simp only [List.length_cons] at hl
      omega
  · obtain ⟨h1, h2⟩ := ha
    refine ⟨by simp only [List.length_cons]; omega, ?_⟩
    obtain ⟨r', f', ix'⟩ := p'
    cases hp
    cases ix' with
    | none =>
      simp only at h2 ⊢
      rw [mem_put.2.1]
      exact h2
    | some iq =>
      obtain ⟨i, q⟩ := iq
      intro hf
      exact (hfresh _ _ h1 hf).elim

end
end Go.Proofs.YtllcebmbaejlhaaDoor.Ab
