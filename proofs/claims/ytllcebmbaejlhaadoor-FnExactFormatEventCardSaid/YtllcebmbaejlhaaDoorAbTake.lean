/- Values taken out of a region, let go, or put into a new one. -/
import Derived.Test.YtllcebmbaejlhaaDoorAbSim
namespace Go.Proofs.YtllcebmbaejlhaaDoor.Ab
open Go

section
variable {W : Nat → Prop} {w : World} {m : Mem} {h : Nat → Reg} {G : List Nat}

theorem Inv.all (inv : Inv W w m h G) (r : Nat) : (own1 m r (h r) ++ G).Nodup :=
  List.nodup_append.2 ⟨inv.nodup r, inv.gdup, fun a ha b hb e => inv.gdis r a ha (e ▸ hb)⟩

/-- The memory stands; of what a region and the hand hold, the new state holds a part. -/
theorem Change.still (inv : Inv W w m h G) {r : Nat} {S' : List Nat} {g' : Reg} {G' : List Nat} (hd : (own1 (m.put m.F r (m.C r) (m.B r) S') r g' ++ G').Nodup)
    (hs : ∀ b, b ∈ own1 (m.put m.F r (m.C r) (m.B r) S') r g' ++ G' → b ∈ own1 m r (h r) ++ G) (hreg : RegOK w (m.put m.F r (m.C r) (m.B r) S') r g') :
    Change W w m h G r w m.F (m.C r) (m.B r) S' g' G' :=
  ⟨Grow.refl _ _, fun _ h => h, fun b hb => ⟨inv.flt b hb, .inl hb⟩, hd, fun b hb => by
    have h1 := hs b hb
    rcases List.mem_append.1 h1 with h1 | h1
    · exact ⟨.inl h1, inv.lt r b h1⟩
    · exact ⟨.inr (.inl h1), inv.glt b h1⟩, hreg⟩

theorem perm_of_count {l l' : List Nat} (h : ∀ a, l.count a = l'.count a) : l.Perm l' := List.perm_iff_count.2 h

theorem mem_put {F : Nat → Prop} {r : Nat} {C : List Value} {B : Nat} {S : List Nat} : (m.put F r C B S).C r = C ∧ (m.put F r C B S).B r = B ∧ (m.put F r C B S).S r = S ∧ (m.put F r C B S).F = F := by
  simp [Mem.put]

/-- The cells of a variable and the box around them. -/
def boxed (box : Bool) (b : Nat) : List Nat :=
  match box with
  | true => [b]
  | false => []

theorem own1_eq {r : Nat} {box : Bool} {t : Ty} {x : t.den} {fl : Fl} {log : Log} : own1 m r (.own box t x fl log) = boxed box (m.B r) ++ m.S r := by
  cases box <;> rfl

/-- Something of a region is taken in hand; its cells stand. -/
theorem out_change (inv : Inv W w m h G) {r : Nat} {box : Bool} {t : Ty} {x : t.den} {fl fl' : Fl} {log : Log} (hr : h r = .own box t x fl log) {S₀ S₁ S₂ : List Nat} (hS : m.S r = S₀ ++ (S₁ ++ S₂))
    (hown : Own w m.F t fl' x (m.C r) (S₀ ++ S₂)) : Change W w m h G r w m.F (m.C r) (m.B r) (S₀ ++ S₂) (.own box t x fl' (none :: log)) (S₁ ++ G) := by
  have hall := inv.all r
  rw [hr, own1_eq, hS] at hall
  have hp : (boxed box (m.B r) ++ (S₀ ++ (S₁ ++ S₂)) ++ G).Perm (boxed box (m.B r) ++ (S₀ ++ S₂) ++ (S₁ ++ G)) := perm_of_count fun a => by
    simp only [List.count_append]; omega
  refine Change.still inv ?_ ?_ ?_
  · rw [own1_eq, mem_put.2.1, mem_put.2.2.1]; exact hp.nodup_iff.1 hall
  · intro b hb
    rw [own1_eq, mem_put.2.1, mem_put.2.2.1] at hb
    rw [hr, own1_eq, hS]
    exact hp.mem_iff.2 hb
  · refine ⟨?_, fun hb => ?_⟩
    · rw [mem_put.1, mem_put.2.2.1, mem_put.2.2.2]; exact hown
    · obtain ⟨e, he⟩ := (by have := inv.reg r; rw [hr] at this; exact this.2 hb : ∃ e, _)
      exact ⟨e, by rw [mem_put.1, mem_put.2.1]; exact he⟩

theorem fresh_none {f : List Nat} {log : Log} {ver : Nat} (hv : ver ≤ log.length) : fresh f (none :: log) ver = fresh f log ver := by
  unfold fresh
  by_cases h : log.length = ver
  · simp only [List.length_cons, h]
    have e1 : ver + 1 - ver = 1 := by omega
    rw [e1, Nat.sub_self]
    cases log with
    | nil => simp [unmet]
    | cons a l =>
      have : unmet f (a :: l) 0 = true := by cases a <;> simp [unmet]
      simp [unmet, this]
  · have e1 : (none :: log).length - ver = (log.length - ver) + 1 := by simp; omega
    rw [e1]
    simp [unmet]

theorem out_keeps {r : Nat} {box : Bool} {t : Ty} {x x' : t.den} {fl fl' : Fl} {log : Log} {F : Nat → Prop} {S : List Nat} {w' : World} :
    Keeps w m (.own box t x fl log) r w' (m.put F r (m.C r) (m.B r) S) (.own box t x' fl' (none :: log)) := by
  refine ⟨fun p ver v hp hb => ?_, fun p ver v hp ha => ?_, fun v hi => trivial⟩
  · obtain ⟨r', f, ix⟩ := p
    subst hp
    obtain ⟨h1, h2⟩ := hb
    refine ⟨by simp only [List.length_cons]; omega, ?_⟩
    cases ix with
    | none => simp only at h2 ⊢; rw [fresh_none h1, mem_put.1]; exact h2
    | some iq => obtain ⟨i, q⟩ := iq; intro hl; simp only [List.length_cons] at hl; omega
  · obtain ⟨r', f, ix⟩ := p
    subst hp
    obtain ⟨h1, h2⟩ := ha
    refine ⟨by simp only [List.length_cons]; omega, ?_⟩
    cases ix with
    | none => simp only at h2 ⊢; rw [mem_put.2.1]; exact h2
    | some iq => obtain ⟨i, q⟩ := iq; simp only at h2 ⊢; rw [fresh_none h1, mem_put.1]; exact h2

end

/-- What a region reads at a path. -/
theorem region_path {w : World} {F : Nat → Prop} {t : Ty} {fl : Fl} {x : t.den} {C : List Value} {S : List Nat} {f : List Nat} {d : DV} (hown : Own w F t fl x C S) (hd : getP f t x = some d) :
    ∃ S₀ S₁ S₂, S = S₀ ++ (S₁ ++ S₂) ∧ Own w F d.t (flP f t fl) d.x ((C.drop (offP f t)).take d.t.sz) S₁ ∧
      ∀ (w' : World) (F' : Nat → Prop) (y : d.t.den) (g' : Fl) (c₁' : List Value) (S₁' : List Nat), Stays w w' F F' → (∀ b ∈ S₀ ++ S₂, w'.heap[b]? = w.heap[b]?) → Own w' F' d.t g' y c₁' S₁' →
        ∃ x', setP f t x ⟨d.t, y⟩ = some x' ∧ Own w' F' t (setFlP f t fl g') x' (C.take (offP f t) ++ (c₁' ++ C.drop (offP f t + d.t.sz))) (S₀ ++ (S₁' ++ S₂)) := by
  obtain ⟨c₀, c₁, c₂, S₀, S₁, S₂, rfl, rfl, hl, ho, hset⟩ := Own.focP hown hd
  have hl1 : c₁.length = d.t.sz := Own.length ho
  have e1 : ((c₀ ++ (c₁ ++ c₂)).drop (offP f t)).take d.t.sz = c₁ := by
    rw [← hl, List.drop_left, ← hl1, List.take_left]
  have e2 : (c₀ ++ (c₁ ++ c₂)).take (offP f t) = c₀ := by rw [← hl, List.take_left]
  have e3 : (c₀ ++ (c₁ ++ c₂)).drop (offP f t + d.t.sz) = c₂ := by
    rw [← hl, ← hl1, ← List.drop_drop, List.drop_left, List.drop_left]
  refine ⟨S₀, S₁, S₂, rfl, by rw [e1]; exact ho, ?_⟩
  rw [e2, e3]
  exact hset

theorem take_drop_cat {α : Type} (C : List α) (a n : Nat) : C.take a ++ ((C.drop a).take n ++ C.drop (a + n)) = C := by
  rw [← List.drop_drop, List.take_append_drop, List.take_append_drop]

theorem Own.ho_of {w : World} {F : Nat → Prop} {t : Ty} {f : Fl} {x : t.den} {cs : List Value} {S : List Nat} (h : Own w F t f x cs S) : Own w F t .ho x cs [] :=
  Own.ho_iff.2 ⟨Own.length h, Own.one h, rfl⟩

section
variable {W : Nat → Prop} {w : World} {m : Mem} {G : List Nat}

theorem DV.as_some {d : DV} {t : Ty} {y : t.den} (h : d.as t = some y) : d = ⟨t, y⟩ := DV.as_eq h

theorem opt_run {α β : Type} {S : Specs} {i : Nat} {o : Option β} {k : β → Pr α} {σ : St} {l : List Ent} {K : α → St → List Ent → Prop} (h : (Pr.opt o k).run S i σ l K) : ∃ x, o = some x ∧ (k x).run S i σ l K := by
  cases o with
  | none => exact h.elim
  | some x => exact ⟨x, rfl, h⟩

theorem bif_run {α : Type} {S : Specs} {i : Nat} {b : Bool} {k : Pr α} {σ : St} {l : List Ent} {K : α → St → List Ent → Prop} (h : (bif b then k else .fail).run S i σ l K) : b = true ∧ k.run S i σ l K := by
  cases b with
  | false => exact h.elim
  | true => exact ⟨rfl, h⟩

theorem resB_run {α : Type} {S : Specs} {i : Nat} {p : Pl} {ver : Nat} {k : Reg → Pr α} {σ : St} {l : List Ent} {K : α → St → List Ent → Prop} (h : (Pr.resB p ver k).run S i σ l K) :
    ∃ box t x fl log, σ.h p.r = .own box t x fl log ∧ stands p log ver = true ∧ (k (.own box t x fl log)).run S i σ (⟨i, p.r, false⟩ :: l) K := by
  simp only [Pr.resB, Pr.run] at h
  cases hg : σ.h p.r with
  | own box t x fl log => rw [hg] at h; obtain ⟨h1, h2⟩ := bif_run h; exact ⟨box, t, x, fl, log, rfl, h1, h2⟩
  | iter s pos => rw [hg] at h; exact h.elim
  | dead => rw [hg] at h; exact h.elim
  | free => rw [hg] at h; exact h.elim

theorem resA_run {α : Type} {S : Specs} {i : Nat} {p : Pl} {ver : Nat} {k : Reg → Pr α} {σ : St} {l : List Ent} {K : α → St → List Ent → Prop} (h : (Pr.resA p ver k).run S i σ l K) :
    ∃ box t x fl log, σ.h p.r = .own box t x fl log ∧ standsA p log ver = true ∧ (k (.own box t x fl log)).run S i σ (⟨i, p.r, false⟩ :: l) K := by
  simp only [Pr.resA, Pr.run] at h
  cases hg : σ.h p.r with
  | own box t x fl log => rw [hg] at h; obtain ⟨h1, h2⟩ := bif_run h; exact ⟨box, t, x, fl, log, rfl, h1, h2⟩
  | iter s pos => rw [hg] at h; exact h.elim
  | dead => rw [hg] at h; exact h.elim
  | free => rw [hg] at h; exact h.elim

theorem list_run {α : Type} {S : Specs} {i : Nat} {t : Ty} {x : t.den} {fl : Fl} {f : List Nat} {k : (u : Ty) → List u.den → Fl → Pr α} {σ : St} {l : List Ent} {K : α → St → List Ent → Prop} (h : (Pr.list t x fl f k).run S i σ l K) :
    ∃ u xs, getP f t x = some ⟨.list u, xs⟩ ∧ (k u xs (flP f t fl)).run S i σ l K := by
  obtain ⟨⟨u, y⟩, hd, h⟩ := opt_run h
  cases u <;> first | exact h.elim | exact ⟨_, _, hd, h⟩

/-- What 'take' comes to: the value is in hand. -/
def Taken {α : Type} (W : Nat → Prop) (w : World) (m : Mem) (G : List Nat) (S : Specs) (i : Nat) (t : Ty) (k : t.den → Fl → Pr α) (σ : St) (K : α → St → List Ent → Prop) (val : Value) : Prop :=
  ∃ y fl cs S' m' h' l', val = toV t cs ∧ Own w m'.F t fl y cs S' ∧ Inv W w m' h' (S' ++ G) ∧ Up W w m σ.h w m' h' ∧ (k y fl).run S i { σ with h := h' } l' K

theorem toV_eq {t u : Ty} {cs : List Value} (h : t = u) : toV t cs = toV u cs := by rw [h]

theorem std_get {α : Type} (l : List α) (i : Nat) (d : α) : std.get l i d = l.getD i d := rfl
theorem std_set {α : Type} (l : List α) (i : Nat) (d : α) : std.set l i d = l.set i d := rfl

/-- What stands at an element of a region's slice. -/
theorem region_elem {w : World} {F : Nat → Prop} {t : Ty} {fl : Fl} {x : t.den} {C : List Value} {S : List Nat} {f : List Nat} {u : Ty} {xs : List u.den} {i : Nat} {c d : Fl} (hown : Own w F t fl x C S) (hd : getP f t x = some ⟨.list u, xs⟩)
    (hc : flP f t fl = .ow c ∧ d = c ∨ flP f t fl = .owx i c d) (hi : i < xs.length) :
    ∃ b off cap row e S₀ S₁ S₂ U V, C[offP f t]? = some (.slice (some ⟨b, off, none⟩) xs.length cap) ∧ S = U ++ (b :: (S₀ ++ (S₁ ++ S₂)) ++ V) ∧ w.heap[b]? = some (.cells row e (0, 0)) ∧ off + (i + 1) * u.sz ≤ row.size ∧
      Own w F u d (xs.getD i u.dflt) (seg row (off + i * u.sz) u.sz) S₁ ∧
      ∀ (w' : World) (F' : Nat → Prop) (y : u.den) (d' : Fl) (row' : Array Value) (S₁' : List Nat), Stays w w' F F' → (∀ b ∈ U ++ V ++ (S₀ ++ S₂), w'.heap[b]? = w.heap[b]?) →
        w'.heap[b]? = some (.cells row' e (0, 0)) → row'.size = row.size → (∀ j, j < off + i * u.sz ∨ off + i * u.sz + u.sz ≤ j → row'[j]? = row[j]?) →
        Own w' F' u d' y (seg row' (off + i * u.sz) u.sz) S₁' →
        ∃ x', setP f t x ⟨.list u, xs.set i y⟩ = some x' ∧ Own w' F' t (setFlP f t fl (.owx i c d')) x' C (U ++ (b :: (S₀ ++ (S₁' ++ S₂)) ++ V)) := by
  obtain ⟨U, L, V, rfl, ho, hset⟩ := region_path hown hd
  have ho' : Own w F (.list u) (.owx i c d) xs ((C.drop (offP f t)).take 1) L := by
    rcases hc with ⟨h1, rfl⟩ | h1
    · rw [h1] at ho; exact Own.open hi ho
    · rw [h1] at ho; exact ho
  obtain ⟨b, off, cap, row, e, S₀, S₁, S₂, hcs, _, rfl, hh, hsz, hel, hcl⟩ := Own.elem ho'
  have hC : C[offP f t]? = some (.slice (some ⟨b, off, none⟩) xs.length cap) := by
    have := congrArg (fun l => l[0]?) hcs
    simpa [List.getElem?_take, List.getElem?_drop] using this
  refine ⟨b, off, cap, row, e, S₀, S₁, S₂, U, V, hC, by simp, hh, hsz, hel, ?_⟩
  intro w' F' y d' row' S₁' hst hS hh' hsize hout hy
  have h1 := hcl w' F' y d' row' S₁' hst (fun b hb => hS b (by simp at hb ⊢; rcases hb with hb | hb <;> simp [hb])) hh' hsize hout hy
  obtain ⟨x', hx', hox⟩ := hset w' F' (xs.set i y) (.owx i c d') _ _ hst (fun b hb => hS b (by simp at hb ⊢; rcases hb with hb | hb <;> simp [hb])) h1
  refine ⟨x', hx', ?_⟩
  have : C.take (offP f t) ++ ((C.drop (offP f t)).take 1 ++ C.drop (offP f t + (Ty.list u).sz)) = C := take_drop_cat C _ _
  rw [this] at hox
  simpa using hox

theorem seg_drop_take {row : Array Value} {a n o k : Nat} (h : o + k ≤ n) : ((seg row a n).drop o).take k = seg row (a + o) k := seg_seg h

theorem offP_le {t : Ty} {f : List Nat} {d : DV} {w : World} {F : Nat → Prop} {fl : Fl} {x : t.den} {C : List Value} {S : List Nat} (hown : Own w F t fl x C S) (hd : getP f t x = some d) : offP f t + d.t.sz ≤ t.sz := by
  obtain ⟨c₀, c₁, c₂, S₀, S₁, S₂, rfl, rfl, hl, ho, _⟩ := Own.focP hown hd
  have h1 := Own.length hown
  have h2 := Own.length ho
  simp only [List.length_append] at h1
  omega

theorem take_ok {α : Type} {S : Specs} {j : Nat} {t : Ty} {k : t.den → Fl → Pr α} {σ : St} {l : List Ent} {K : α → St → List Ent → Prop} (inv : Inv W w m σ.h G) {v : AV} {val : Value} (hv : VR1 w m σ.h v val)
    (h : (Pr.take std v t k).run S j σ l K) : Taken W w m G S j t k σ K val := by
  cases v with
  | val u x =>
    obtain ⟨y, hy, h2⟩ := opt_run h
    cases DV.as_eq hy
    obtain ⟨cs, e, hr⟩ := hv
    exact ⟨y, .sh, cs, [], m, σ.h, l, e, Own.sh_iff.2 ⟨hr, rfl⟩, inv, Up.refl _ _ _ _, h2⟩
  | emp =>
    obtain ⟨A, rfl⟩ := hv
    cases t with
    | list u => exact ⟨([] : List u.den), (Ty.list u).own, [.slice A 0 0], [], m, σ.h, l, rfl, ⟨A, 0, rfl, Nat.zero_le _, .inl ⟨rfl, rfl, rfl⟩⟩, inv, Up.refl _ _ _ _, h⟩
    | _ => exact h.elim
  | bor p ver =>
    simp only [Pr.take] at h
    obtain ⟨box, u, x, fl, log, hg, hst, h⟩ := resB_run h
    have hreg := inv.reg p.r
    rw [hg] at hreg
    have hb : BorR w m (σ.h p.r) p ver val := hv
    rw [hg] at hb
    obtain ⟨r, f, ix⟩ := p
    simp only at hg hst h hreg hb
    cases ix with
    | none =>
      obtain ⟨d, hd, h2⟩ := opt_run h
      obtain ⟨y, hy, h3⟩ := opt_run h2
      cases DV.as_eq hy
      obtain ⟨u', hu', e⟩ := hb.2 hst
      rw [typP_getP hd] at hu'
      cases hu'
      obtain ⟨S₀, S₁, S₂, hS, ho, hset⟩ := region_path hreg.1 hd
      cases hpl : (flP f u fl).plain with
      | true =>
        rw [hpl] at h3
        obtain ⟨hr, _⟩ := Own.plain hpl ho
        exact ⟨y, .sh, _, [], m, σ.h, _, e, Own.sh_iff.2 ⟨hr, rfl⟩, inv, Up.refl _ _ _ _, h3⟩
      | false =>
        rw [hpl] at h3
        simp only [cond_false, Pr.run] at h3
        obtain ⟨x', hx', ho'⟩ := hset w m.F y .ho _ [] (Stays.refl _ _) (fun _ _ => rfl) (Own.ho_of ho)
        have hxx : setP f u x ⟨t, y⟩ = some x := setP_getP hd
        rw [hxx] at hx'
        cases hx'
        rw [take_drop_cat, List.nil_append] at ho'
        have hc := out_change inv hg hS ho'
        refine ⟨y, flP f u fl, _, S₁, _, _, _, e, ?_, hc.inv inv, hc.up inv (by rw [hg]; exact out_keeps), h3⟩
        exact ho
    | some iq =>
      obtain ⟨i, q⟩ := iq
      obtain ⟨v', xs, hxs, h⟩ := list_run h
      cases hc : flP f u fl with
      | ow c =>
        rw [hc] at h
        obtain ⟨d, hd, h2⟩ := opt_run h
        obtain ⟨y, hy, h3⟩ := opt_run h2
        cases DV.as_eq hy
        have hver : log.length = ver := by simpa [stands] using hst
        obtain ⟨u', z, b, off, len, cap, e1, e2, e3, hi, _, row, e, hrow, _, hval⟩ := hb.2 hver
        rw [typP_getP hxs] at e1
        cases e1
        rw [typP_getP hd] at e2
        cases e2
        have hlen : len = xs.length := by
          obtain ⟨U, L, V, _, ho, _⟩ := region_path hreg.1 hxs
          have h1 := ho
          simp only at h1
          rw [hc] at h1
          obtain ⟨A, cap', hcs, _⟩ := h1
          have := congrArg (fun l => l[0]?) hcs
          simp [List.getElem?_take, List.getElem?_drop, Ty.sz] at this
          rw [e3] at this
          simp at this
          exact this.2.1
        subst hlen
        obtain ⟨b', off', cap', row', e', S₀, S₁, S₂, U, V, hC, hS, hh, hsz, hel, hset⟩ := region_elem hreg.1 hxs (.inl ⟨hc, rfl⟩) hi
        rw [e3] at hC
        cases hC
        rw [hrow] at hh
        cases hh
        have hd : getP q v' (List.getD (α := v'.den) xs i v'.dflt) = some ⟨t, y⟩ := hd
        obtain ⟨T₀, T₁, T₂, hT, hpart, hpset⟩ := region_path hel hd
        have hle := offP_le hel hd
        rw [seg_drop_take hle] at hpart
        cases hpl : (flP q v' c).plain with
        | true =>
          rw [hpl] at h3
          obtain ⟨hr, _⟩ := Own.plain hpl hpart
          exact ⟨y, .sh, _, [], m, σ.h, _, hval, Own.sh_iff.2 ⟨hr, rfl⟩, inv, Up.refl _ _ _ _, h3⟩
        | false =>
          rw [hpl] at h3
          simp only [cond_false, Pr.run] at h3
          obtain ⟨y', hy', hoy⟩ := hpset w m.F y .ho _ [] (Stays.refl _ _) (fun _ _ => rfl) (Own.ho_of hpart)
          rw [setP_getP hd] at hy'
          cases hy'
          rw [← seg_drop_take hle, take_drop_cat, List.nil_append] at hoy
          obtain ⟨x', hx', hox⟩ := hset w m.F _ _ row (T₀ ++ T₂) (Stays.refl _ _) (fun _ _ => rfl) hrow rfl (fun _ _ => rfl) hoy
          have hxx : setP f u x ⟨.list v', List.set (α := v'.den) xs i (List.getD xs i v'.dflt)⟩ = some x :=
            (congrArg (fun z => setP f u x ⟨.list v', z⟩) (set_getD (α := v'.den) v'.dflt (xs := xs) (i := i))).trans (setP_getP hxs)
          cases hxx.symm.trans hx'
          have hS' : m.S r = (U ++ (b :: (S₀ ++ T₀))) ++ (T₁ ++ (T₂ ++ (S₂ ++ V))) := by rw [hS, hT]; simp
          have hch := out_change inv hg hS' (fl' := setFlP f u fl (.owx i c (setFlP q v' c .ho))) (by
            have : U ++ (b :: (S₀ ++ T₀)) ++ (T₂ ++ (S₂ ++ V)) = U ++ (b :: (S₀ ++ (T₀ ++ T₂ ++ S₂)) ++ V) := by simp
            rw [this]; exact hox)
          refine ⟨y, flP q v' c, _, T₁, _, _, _, hval, ?_, hch.inv inv, hch.up inv (by rw [hg]; exact out_keeps), h3⟩
          exact hpart
      | sh => rw [hc] at h; exact h.elim
      | owx _ _ _ => rw [hc] at h; exact h.elim
      | pr _ _ => rw [hc] at h; exact h.elim
      | ho => rw [hc] at h; exact h.elim
  | un => exact h.elim
  | und => exact h.elim
  | addr p ver => exact h.elim
  | raddr t x => exact h.elim
  | clo f c => exact h.elim
  | rclo f c => exact h.elim
  | itr r => exact h.elim
  | tup vs => exact h.elim

end

end Go.Proofs.YtllcebmbaejlhaaDoor.Ab
