/- Regions that draw their order. -/
import Derived.Test.YtllcebmbaejlhaaDoorAbOrder
namespace Go.Proofs.YtllcebmbaejlhaaDoor.Ab
open Go

section
variable {P : Program} {T : Types} {W : Nat → Prop} {w₀ : World} {F₀ : Nat → Prop} {n : Nat} {H : List (AV × Value)} {L : List (Nat × Obj)} {S : Specs} {md : Modes} {hint : List (Nat × Nat)} {all : List Oper}

/-- The operations with these places, one behind the other. -/
def runsE (T : Types) (md : Modes) (S : Specs) (hint : List (Nat × Nat)) (all : List Oper) : List Nat → St → St → List Ent → Prop
  | [], σ, σf, es => σ = σf ∧ es = []
  | i :: is, σ, σf, es => ∃ o σ₁ e₁ e₂, all[i]? = some o ∧ opE T md S hint all o i σ σ₁ e₁ ∧ runsE T md S hint all is σ₁ σf e₂ ∧ es = e₁ ++ e₂

theorem ops_E {K : St → List Ent → Prop} : ∀ {os : List Oper} {i : Nat} {σ : St} {l : List Ent}, (∀ j, os[j]? = all[i + j]?) → ops std T md S hint all K os i σ l →
    ∃ σf es l', runsE T md S hint all (List.range' i os.length) σ σf es ∧ Marks l' es l ∧ K σf l'
  | [], i, σ, l, _, h => ⟨σ, [], l, ⟨rfl, rfl⟩, fun x => by simp, h⟩
  | o :: os, i, σ, l, hi, h => by
    obtain ⟨σ₁, e₁, l₁, h1, h2, h3⟩ := op1_E h
    obtain ⟨σf, e₂, l', h4, h5, h6⟩ := ops_E (os := os) (i := i + 1) (fun j => by have := hi (j + 1); simpa [Nat.add_assoc, Nat.add_comm 1 j] using this) h3
    refine ⟨σf, e₁ ++ e₂, l', ⟨o, σ₁, e₁, e₂, by simpa using (hi 0).symm, h1, h4, rfl⟩, fun x => ?_, h6⟩
    rw [h5 x, h2 x, List.mem_append]
    constructor
    · rintro (h | h | h)
      · exact .inl (.inr h)
      · exact .inl (.inl h)
      · exact .inr h
    · rintro ((h | h) | h)
      · exact .inr (.inl h)
      · exact .inl h
      · exact .inr (.inr h)

/-- The marks are apart. -/
def Ap (all : List Oper) (es : List Ent) : Prop := ∀ a ∈ es, a.w = true → ∀ b ∈ es, a.r = b.r → a.i = b.i ∨ behind all (all.map fun _ => ()) a.i b.i = true ∨ behind all (all.map fun _ => ()) b.i a.i = true

theorem noconf {e₁ e₂ es : List Ent} (hap : Ap all es) (h1 : ∀ y ∈ e₁, y ∈ es) (h2 : ∀ y ∈ e₂, y ∈ es) {i j : Nat} (hi : ∀ y ∈ e₁, y.i = i) (hj : ∀ y ∈ e₂, y.i = j) (hne : i ≠ j) (hb : behind all (all.map fun _ => ()) i j = false) (hb' : behind all (all.map fun _ => ()) j i = false) : NoConf e₁ e₂ := by
  intro y hy z hz hr
  constructor
  · cases hw : y.w with
    | false => rfl
    | true =>
      have := hap y (h1 y hy) hw z (h2 z hz) hr
      rw [hi y hy, hj z hz, hb, hb'] at this
      rcases this with h | h | h
      · exact absurd h hne
      · cases h
      · cases h
  · cases hw : z.w with
    | false => rfl
    | true =>
      have := hap z (h2 z hz) hw y (h1 y hy) hr.symm
      rw [hi y hy, hj z hz, hb, hb'] at this
      rcases this with h | h | h
      · exact absurd h.symm hne
      · cases h
      · cases h

theorem to_front {i : Nat} : ∀ {pre post : List Nat} {σ σf : St} {es : List Ent}, runsE T md S hint all (pre ++ i :: post) σ σf es → Ap all es → (∀ j ∈ pre, j ≠ i ∧ behind all (all.map fun _ => ()) i j = false ∧ behind all (all.map fun _ => ()) j i = false) →
    ∃ es', runsE T md S hint all (i :: (pre ++ post)) σ σf es' ∧ ∀ x, x ∈ es' ↔ x ∈ es
  | [], post, σ, σf, es, h, _, _ => ⟨es, h, fun _ => Iff.rfl⟩
  | j :: pre, post, σ, σf, es, ⟨o, σ₁, e₁, e₂, ho, h1, h2, he⟩, hap, hp => by
    subst he
    obtain ⟨es', h3, hm⟩ := to_front h2 (fun a ha hw b hb hr => hap a (List.mem_append_right _ ha) hw b (List.mem_append_right _ hb) hr) (fun k hk => hp k (List.mem_cons_of_mem _ hk))
    obtain ⟨o', σ₂, e₃, e₄, ho', h4, h5, rfl⟩ := h3
    obtain ⟨hne, hb, hb'⟩ := hp j (by simp)
    have hn : NoConf e₁ e₃ := noconf hap (fun y hy => List.mem_append_left _ hy) (fun y hy => List.mem_append_right _ ((hm y).1 (List.mem_append_left _ hy))) (opE_i h1) (opE_i h4) hne hb' hb
    obtain ⟨τ, k1, k2⟩ := swap h1 h4 hn
    refine ⟨e₃ ++ (e₁ ++ e₄), ⟨o', τ, e₃, _, ho', k1, ⟨o, σ₂, e₁, e₄, ho, k2, h5, rfl⟩, rfl⟩, fun x => ?_⟩
    have := hm x
    simp only [List.mem_append] at this ⊢
    constructor
    · rintro (h | h | h)
      · exact .inr (this.1 (.inl h))
      · exact .inl h
      · exact .inr (this.1 (.inr h))
    · rintro (h | h)
      · exact .inr (.inl h)
      · rcases this.2 h with h | h
        · exact .inl h
        · exact .inr (.inr h)

/-! ### Edges -/
theorem topo_lt : ∀ {os : List Oper} {k : Nat}, topo os k = true → ∀ j o, os[j]? = some o → ∀ e ∈ o.after.toList, Region.binds .any e = true → e.on < k + j
  | [], k, _, j, o, hj => by simp at hj
  | o :: os, k, h, j, o', hj => by
    simp only [topo, Bool.and_eq_true] at h
    cases j with
    | zero =>
      simp only [List.getElem?_cons_zero, Option.some.injEq] at hj
      subst hj
      intro e he hb
      have := List.all_eq_true.1 h.1 e he
      rw [hb] at this
      simpa using this
    | succ j =>
      have := topo_lt h.2 j o' (by simpa using hj)
      intro e he hb
      have := this e he hb
      omega

theorem behind_lt (ht : topo all 0 = true) : ∀ {f : List Unit} {i j : Nat}, behind all f i j = true → i < j
  | [], _, _, h => by simp [behind] at h
  | _ :: f, i, j, h => by
    simp only [behind, nth_eq] at h
    cases ho : all[j]? with
    | none => rw [ho] at h; simp at h
    | some o =>
      rw [ho] at h
      obtain ⟨e, he, hb⟩ := List.any_eq_true.1 h
      simp only [Bool.and_eq_true, Bool.or_eq_true, beq_iff_eq] at hb
      have hlt := topo_lt ht j o ho e he hb.1
      rcases hb.2 with h1 | h1
      · omega
      · have := behind_lt ht h1; omega

/-- What is listed is closed under edges. -/
def Closed (all : List Oper) (listed : Array Bool) : Prop := ∀ k o, all[k]? = some o → listed.getD k true = true → ∀ e ∈ o.after.toList, Region.binds .any e = true → listed.getD e.on false = true

theorem behind_listed {listed : Array Bool} (hs : listed.size = all.length) (hc : Closed all listed) : ∀ {f : List Unit} {i j : Nat} {o : Oper}, all[j]? = some o → (∀ e ∈ o.after.toList, Region.binds .any e = true → listed.getD e.on false = true) → behind all f i j = true → listed.getD i false = true
  | [], _, _, _, _, _, h => by simp [behind] at h
  | _ :: f, i, j, o, ho, he, h => by
    simp only [behind, nth_eq, ho] at h
    obtain ⟨e, hem, hb⟩ := List.any_eq_true.1 h
    simp only [Bool.and_eq_true, Bool.or_eq_true, beq_iff_eq] at hb
    have hl := he e hem hb.1
    rcases hb.2 with h1 | h1
    · rw [← h1]; exact hl
    · have hlt : e.on < all.length := by
        rw [← hs]
        cases hx : listed[e.on]? with
        | none => simp [Array.getD_eq_getD_getElem?, hx] at hl
        | some b => exact (Array.getElem?_eq_some_iff.1 hx).1
      have ho' : all[e.on]? = some all[e.on] := List.getElem?_eq_getElem hlt
      exact behind_listed hs hc ho' (hc e.on _ ho' (by
        simp only [Array.getD_eq_getD_getElem?] at hl ⊢
        cases hx : listed[e.on]? with
        | none => simp
        | some b => rw [hx] at hl; simpa using hl)) h1

/-- The places that are left. -/
def left (listed : Array Bool) (m : Nat) : List Nat := (List.range m).filter fun i => !listed.getD i true

theorem ready_iff {listed : Array Bool} {i : Nat} : i ∈ Region.ready .any all.toArray listed ↔ ∃ o, all[i]? = some o ∧ listed.getD i true = false ∧ ∀ e ∈ o.after.toList, Region.binds .any e = true → listed.getD e.on false = true := by
  simp only [Region.ready, List.mem_filter, List.mem_range, Bool.and_eq_true, Bool.not_eq_true', List.getElem?_toArray, List.size_toArray]
  constructor
  · rintro ⟨hi, hl, he⟩
    cases ho : all[i]? with
    | none => rw [ho] at he; simp at he
    | some o =>
      rw [ho] at he
      simp only [Option.map_some, Option.getD_some] at he
      rw [← Array.all_toList] at he
      refine ⟨o, rfl, hl, fun e hem hb => ?_⟩
      have := List.all_eq_true.1 he e hem
      rw [hb] at this
      simpa using this
  · rintro ⟨o, ho, hl, he⟩
    refine ⟨(List.getElem?_eq_some_iff.1 ho).1, hl, ?_⟩
    rw [ho]
    simp only [Option.map_some, Option.getD_some]
    rw [← Array.all_toList]
    refine List.all_eq_true.2 fun e hem => ?_
    cases hb : Region.binds .any e with
    | false => rfl
    | true => simpa using he e hem hb

theorem getD_set {listed : Array Bool} {i k : Nat} {d : Bool} (hi : i < listed.size) : (listed.setIfInBounds i true).getD k d = if k = i then true else listed.getD k d := by
  simp only [Array.getD_eq_getD_getElem?, Array.getElem?_setIfInBounds]
  by_cases h : i = k
  · subst h; simp [hi]
  · simp [h, Ne.symm h]

theorem left_split {listed : Array Bool} {i m : Nat} (hi : i < m) (hl : listed.getD i true = false) (hs : listed.size = m) : ∃ pre post, left listed m = pre ++ i :: post ∧ left (listed.setIfInBounds i true) m = pre ++ post ∧ ∀ j ∈ pre, j < i ∧ listed.getD j true = false := by
  have hr : List.range m = List.range' 0 i ++ i :: List.range' (i + 1) (m - i - 1) := by
    have h1 : List.range m = List.range' 0 m := List.range_eq_range'
    have h2 : List.range' 0 m = List.range' 0 i ++ List.range' (0 + i) (m - i) := by rw [List.range'_append_1]; congr 1; omega
    have h3 : List.range' i (m - i) = i :: List.range' (i + 1) (m - i - 1) := by
      obtain ⟨k, hk⟩ : ∃ k, m - i = k + 1 := ⟨m - i - 1, by omega⟩
      rw [hk, List.range'_succ]
      rfl
    rw [h1, h2, Nat.zero_add, h3]
  have hsz : i < listed.size := by omega
  refine ⟨(List.range' 0 i).filter fun k => !listed.getD k true, (List.range' (i + 1) (m - i - 1)).filter fun k => !listed.getD k true, ?_, ?_, fun j hj => ?_⟩
  · simp only [left, hr, List.filter_append, List.filter_cons, hl, Bool.not_false, if_true]
  · simp only [left, hr, List.filter_append, List.filter_cons, getD_set hsz, if_true, Bool.not_true, Bool.false_eq_true, if_false]
    congr 1
    · apply List.filter_congr
      intro k hk
      have : k ≠ i := by have := List.mem_range'_1.1 hk; omega
      simp [this]
    · apply List.filter_congr
      intro k hk
      have : k ≠ i := by have := List.mem_range'_1.1 hk; omega
      simp [this]
  · simp only [List.mem_filter, List.mem_range'_1, Bool.not_eq_true'] at hj
    exact ⟨by omega, hj.2⟩

theorem any_ok {Q : Exit → Act → World → Prop} {K : St → Prop} (hTie : ∀ τ u, T τ = some u → Tie P u τ) (hC : CmpOK P T) (hS : SpecsOK P L S) (hL : Lies L w₀ F₀) (ht : topo all 0 = true) (hd : ∀ o ∈ all, ∀ t, o.dst = some t → t < n)
    (hQ : ∀ σ a w m, K σ → Sim W w₀ F₀ n H w m σ a → Q .normal a w) : ∀ {fuel : Nat} {listed : Array Bool} {σ σf : St} {es : List Ent} {w : World} {m : Mem} {a : Act}, listed.size = all.length → Closed all listed → (left listed all.length).length ≤ fuel → Sim W w₀ F₀ n H w m σ a →
      runsE T md S hint all (left listed all.length) σ σf es → Ap all es → K σf → wpAny P .any all.toArray Q fuel listed a w := by
  intro fuel
  have hdone : ∀ {listed : Array Bool} {σ σf : St} {es : List Ent} {w : World} {m : Mem} {a : Act}, listed.size = all.length → Sim W w₀ F₀ n H w m σ a → runsE T md S hint all (left listed all.length) σ σf es → K σf → Region.ready .any all.toArray listed = [] → Q .normal a w := by
    intro listed σ σf es w m a hs s hr hK hrd
    have hnil : left listed all.length = [] := by
      cases hl : left listed all.length with
      | nil => rfl
      | cons i rest =>
        exfalso
        have hmem : i ∈ left listed all.length := by rw [hl]; simp
        simp only [left, List.mem_filter, List.mem_range, Bool.not_eq_true'] at hmem
        have hmin : ∀ k, k < i → listed.getD k true = true := by
          intro k hk
          cases hb : listed.getD k true with
          | true => rfl
          | false =>
            exfalso
            have hkm : k ∈ left listed all.length := by
              simp only [left, List.mem_filter, List.mem_range, Bool.not_eq_true']
              exact ⟨by omega, hb⟩
            have hsorted : (left listed all.length).Pairwise (· < ·) := List.Pairwise.filter _ List.pairwise_lt_range
            rw [hl] at hsorted hkm
            rcases List.mem_cons.1 hkm with rfl | hkm
            · omega
            · have := (List.pairwise_cons.1 hsorted).1 k hkm; omega
        have : i ∈ Region.ready .any all.toArray listed := by
          refine ready_iff.2 ⟨all[i], List.getElem?_eq_getElem hmem.1, hmem.2, fun e he hb => ?_⟩
          have hlt := topo_lt ht i _ (List.getElem?_eq_getElem hmem.1) e he hb
          have h1 := hmin e.on (by omega)
          have h2 : e.on < listed.size := by omega
          simp only [Array.getD_eq_getD_getElem?, Array.getElem?_eq_getElem h2] at h1 ⊢
          simpa using h1
        rw [hrd] at this
        simp at this
    rw [hnil] at hr
    obtain ⟨rfl, _⟩ := hr
    exact hQ _ _ _ _ hK s
  induction fuel with
  | zero =>
    intro listed σ σf es w m a hs hc hf s hr hap hK
    have hl : left listed all.length = [] := List.length_eq_zero_iff.1 (by omega)
    have hrd : Region.ready .any all.toArray listed = [] := by
      cases h : Region.ready .any all.toArray listed with
      | nil => rfl
      | cons i rest =>
        exfalso
        have : i ∈ Region.ready .any all.toArray listed := by rw [h]; simp
        obtain ⟨o, ho, hl', _⟩ := ready_iff.1 this
        have hm : i ∈ left listed all.length := by
          simp only [left, List.mem_filter, List.mem_range, Bool.not_eq_true']
          exact ⟨(List.getElem?_eq_some_iff.1 ho).1, hl'⟩
        rw [hl] at hm; simp at hm
    exact ⟨hrd, hdone hs s hr hK hrd⟩
  | succ fuel ih =>
    intro listed σ σf es w m a hs hc hf s hr hap hK
    refine ⟨hdone hs s hr hK, fun i hi => ?_⟩
    obtain ⟨o, ho, hl, he⟩ := ready_iff.1 hi
    have hilt := (List.getElem?_eq_some_iff.1 ho).1
    obtain ⟨pre, post, e1, e2, hpre⟩ := left_split hilt hl hs
    rw [e1] at hr
    obtain ⟨es', hr', hm⟩ := to_front hr hap (fun j hj => by
      obtain ⟨hji, hjl⟩ := hpre j hj
      refine ⟨by omega, ?_, ?_⟩
      · cases hb : behind all (all.map fun _ => ()) i j with
        | false => rfl
        | true => have := behind_lt ht hb; omega
      · cases hb : behind all (all.map fun _ => ()) j i with
        | false => rfl
        | true =>
          have h1 := behind_listed hs hc ho he hb
          have h2 : j < listed.size := by omega
          simp only [Array.getD_eq_getD_getElem?, Array.getElem?_eq_getElem h2] at h1 hjl
          simp only [Option.getD_some] at h1 hjl
          rw [h1] at hjl; cases hjl)
    obtain ⟨o', σ₁, e₁, e₂, ho', hop, hrest, rfl⟩ := hr'
    rw [ho] at ho'
    cases ho'
    have hls : (listed.setIfInBounds i true).size = all.length := by rw [Array.size_setIfInBounds]; exact hs
    have hcl : Closed all (listed.setIfInBounds i true) := by
      intro k ok hk hkl e hem hb
      rw [getD_set (by omega)] at hkl ⊢
      split
      · rfl
      · by_cases hki : k = i
        · subst hki
          rw [ho] at hk
          cases hk
          exact he e hem hb
        · rw [if_neg hki] at hkl
          exact hc k ok hk hkl e hem hb
    have hcnt : (left (listed.setIfInBounds i true) all.length).length ≤ fuel := by
      rw [e1] at hf
      rw [e2]
      simp only [List.length_append, List.length_cons] at hf ⊢
      omega
    have h1 := op1_ok (P := P) (W := W) (w₀ := w₀) (F₀ := F₀) (n := n) (H := H) (Q := Q) (K := fun σ' _ => σ' = σ₁) (N := wpAny P .any all.toArray Q fuel (listed.setIfInBounds i true)) hTie hC hS hL s (hd o (List.mem_of_getElem? ho)) (E_op1 hop (fun _ => rfl)) (fun σ' l' a' w' m' hσ hs' => by
      subst hσ
      refine ih hls hcl hcnt hs' (by rw [e2]; exact hrest) (fun x hx hw y hy hxy => hap x ((hm x).1 (List.mem_append_right _ hx)) hw y ((hm y).1 (List.mem_append_right _ hy)) hxy) hK)
    unfold wpOp
    have ho2 : all.toArray[i]? = some o := by simpa using ho
    rw [ho2]
    simp only
    by_cases hw : Region.wanted o (yielded all.toArray a.tmps) = true
    · rw [if_pos hw] at h1 ⊢; exact .inl h1
    · rw [if_neg hw] at h1 ⊢; exact h1

theorem drawn_ok {Q : Exit → Act → World → Prop} {id : Nat} {os : Array Oper} {K : St → Prop} (hm : P.follows .mixedOrders = true) (hTie : ∀ τ u, T τ = some u → Tie P u τ) (hC : CmpOK P T) (hS : SpecsOK P L S) (hL : Lies L w₀ F₀) (hd : ∀ o ∈ os.toList, ∀ t, o.dst = some t → t < n)
    (hQ : ∀ σ a w m, K σ → Sim W w₀ F₀ n H w m σ a → Q .normal a w) {σ : St} {w : World} {m : Mem} {a : Act} (s : Sim W w₀ F₀ n H w m σ a)
    (h : ops std T md S hint os.toList (fun σ l => apart os.toList l = true ∧ K σ) os.toList 0 σ []) : (Code.region id os true).wp P Q a w := by
  obtain ⟨σf, es, l', hr, hmk, hap, hK⟩ := ops_E (all := os.toList) (os := os.toList) (i := 0) (fun j => by simp) h
  simp only [apart, Bool.and_eq_true] at hap
  refine wp_region_any hm ?_
  have hleft : left (Array.replicate os.size false) os.toList.length = List.range' 0 os.toList.length := by
    rw [left, List.range_eq_range']
    apply List.filter_eq_self.2
    intro k hk
    have := List.mem_range'_1.1 hk
    have hlt : k < os.size := by simpa using this.2
    simp [Array.getD_eq_getD_getElem?, Array.getElem?_replicate, hlt]
  have := any_ok (P := P) (Q := Q) (K := K) (md := md) (hint := hint) (all := os.toList) (fuel := os.size) (listed := Array.replicate os.size false) hTie hC hS hL hap.1 hd hQ (by simp) (fun k o hk hl => by
      have hlt := (List.getElem?_eq_some_iff.1 hk).1
      have hlt' : k < os.size := by simpa using hlt
      simp [Array.getD_eq_getD_getElem?, Array.getElem?_replicate, hlt'] at hl) (by rw [hleft]; simp) s.draw (by rw [hleft]; exact hr) (fun x hx hw y hy hxy => by
      have h1 := List.all_eq_true.1 hap.2 x ((hmk x).2 (.inl hx))
      rw [hw] at h1
      simp only [Bool.not_true, Bool.false_or] at h1
      have h2 := List.all_eq_true.1 h1 y ((hmk y).2 (.inl hy))
      simp only [Bool.or_eq_true, Bool.not_eq_true', beq_eq_false_iff_ne, beq_iff_eq] at h2
      rcases h2 with ((h2 | h2) | h2) | h2
      · exact absurd hxy h2
      · exact .inl h2
      · exact .inr (.inl h2)
      · exact .inr (.inr h2)) hK
  simpa using this

end
end Go.Proofs.YtllcebmbaejlhaaDoor.Ab
