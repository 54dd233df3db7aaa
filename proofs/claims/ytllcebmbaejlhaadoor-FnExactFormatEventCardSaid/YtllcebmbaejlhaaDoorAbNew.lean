/- New rows. -/
import Derived.Test.YtllcebmbaejlhaaDoorAbLen
namespace Go.Proofs.YtllcebmbaejlhaaDoor.Ab
open Go

theorem Le.still {w w' : World} {m : Mem} {h : Nat → Reg} (hF : Stays w w' m.F m.F) (hS : ∀ r b, b ∈ own1 m r (h r) → w'.heap[b]? = w.heap[b]?) : Le w m h w' m h := by
  intro av v hv
  cases av with
  | un => trivial
  | und => exact hv
  | val t x => obtain ⟨cs, e, hr⟩ := hv; exact ⟨cs, e, Rep.mono hF hr⟩
  | emp => exact hv
  | bor p ver => exact BorR.stay rfl rfl (fun b hb => hS p.r b hb) hv
  | addr p ver => exact hv
  | raddr t x => exact RAddr.stay hF hv
  | clo f caps => exact hv
  | rclo f ds => obtain ⟨vs, e, hl⟩ := hv; exact ⟨vs, e, All2.mono (fun a b hab => RAddr.stay hF hab) hl⟩
  | itr r => exact hv
  | tup vs => exact hv.elim

section
variable {W : Nat → Prop} {w w' : World} {m : Mem} {h : Nat → Reg} {G : List Nat}

/-- The memory changes at blocks in hand alone, and grows. -/
theorem hand_ok (inv : Inv W w m h G) {G' : List Nat} (hg : Grow w w' G) (hd : G'.Nodup) (hm : ∀ b, b ∈ G' → (b ∈ G ∨ w.heap.size ≤ b) ∧ b < w'.heap.size) : Inv W w' m h G' ∧ Up W w m h w' m h := by
  have hown : ∀ r b, b ∈ own1 m r (h r) → w'.heap[b]? = w.heap[b]? := fun r b hb => hg.heap b (inv.lt r b hb).1 (inv.gdis r b hb)
  have hF : Stays w w' m.F m.F := fun b hb => ⟨hb, hg.heap b (inv.flt b hb) (fun hm => (inv.glt b hm).2.1 hb)⟩
  refine ⟨⟨fun r => ?_, inv.nodup, inv.disj, hd, fun r b hb hb' => ?_, fun r b hb => ?_, fun b hb => ?_, fun b hb => Nat.lt_of_lt_of_le (inv.flt b hb) hg.size, fun b hb => inv.new b (Nat.le_trans hg.size hb)⟩,
    Le.still hF hown, ⟨fun b hb hn => hg.heap b hb (fun hm => hn (inv.glt b hm).2.2), hg.size, hg.os, hg.output⟩, hF, fun b hb => .inl hb⟩
  · have hr := inv.reg r
    cases hh : h r with
    | own box t x fl log =>
      rw [hh] at hr
      have ho : ∀ b, b ∈ own1 m r (.own box t x fl log) → w'.heap[b]? = w.heap[b]? := fun b hb => hown r b (by rw [hh]; exact hb)
      refine ⟨Own.mono hF (fun b hb => ho b (own1_S hb)) hr.1, fun hb => ?_⟩
      obtain ⟨e, he⟩ := hr.2 hb
      subst hb
      exact ⟨e, by rw [ho _ (by simp [own1])]; exact he⟩
    | iter s pos =>
      rw [hh] at hr
      exact ⟨by rw [hown r (m.B r) (by rw [hh]; simp [own1])]; exact hr.1, hr.2⟩
    | dead => trivial
    | free => trivial
  · rcases (hm b hb').1 with h1 | h1
    · exact inv.gdis r b hb h1
    · have := (inv.lt r b hb).1; omega
  · have := inv.lt r b hb; exact ⟨Nat.lt_of_lt_of_le this.1 hg.size, this.2⟩
  · rcases (hm b hb).1 with h1 | h1
    · have := inv.glt b h1; exact ⟨(hm b hb).2, this.2⟩
    · exact ⟨(hm b hb).2, fun hf => absurd (inv.flt b hf) (by omega), inv.new b h1⟩

/-- A new block. -/
theorem push_ok (inv : Inv W w m h G) {ob : Obj} (hh : w'.heap = w.heap.push ob) (ho : w'.os = w.os) (hout : w'.output = w.output) : Inv W w' m h (w.heap.size :: G) ∧ Up W w m h w' m h ∧ w'.heap[w.heap.size]? = some ob ∧ (∀ b, b < w.heap.size → w'.heap[b]? = w.heap[b]?) := by
  have hold : ∀ b, b < w.heap.size → w'.heap[b]? = w.heap[b]? := fun b hb => by rw [hh]; simp [Array.getElem?_push, Nat.ne_of_lt hb]
  have hsz : w'.heap.size = w.heap.size + 1 := by rw [hh]; simp
  have := hand_ok (w' := w') (G' := w.heap.size :: G) inv ⟨fun b hb _ => hold b hb, by omega, ho, hout⟩ (List.nodup_cons.2 ⟨fun hm => absurd (inv.glt _ hm).1 (by omega), inv.gdup⟩) (fun b hb => by
    rcases List.mem_cons.1 hb with rfl | hb
    · exact ⟨.inr (Nat.le_refl _), by omega⟩
    · exact ⟨.inl hb, by have := (inv.glt b hb).1; omega⟩)
  exact ⟨this.1, this.2, by rw [hh]; simp, hold⟩

/-- A slice over a whole new row. -/
theorem newslice_ok {u : Ty} {c : Fl} {xs : List u.den} {row : Array Value} {e : TypeId} {cap : Nat} {S' : List Nat} (inv : Inv W w m h (S' ++ G)) (hh : w'.heap = w.heap.push (.cells row e (0, 0))) (ho : w'.os = w.os) (hout : w'.output = w.output)
    (hl : xs.length ≤ cap) (hcap : cap * u.sz ≤ row.size) (hb : xs.length ≤ big) (hown : OwnL (Own w m.F u c) xs (seg row 0 (xs.length * u.sz)) S') :
    Inv W w' m h (w.heap.size :: S' ++ G) ∧ Up W w m h w' m h ∧ Own w' m.F (.list u) (.ow c) xs [.slice (some ⟨w.heap.size, 0, none⟩) xs.length cap] (w.heap.size :: S') := by
  obtain ⟨inv', hup, hnew, hold⟩ := push_ok inv hh ho hout
  refine ⟨inv', hup, _, cap, rfl, hb, .inr ⟨w.heap.size, 0, row, e, S', rfl, rfl, hnew, hl, by omega, ?_⟩⟩
  exact OwnL.mono (fun x cs S'' hs hx => Own.mono hup.st (fun b hb => hold b (inv.glt b (List.mem_append_left _ (hs b hb))).1) hx) hown

theorem OwnL.rep {u : Ty} {c : Fl} {F : Nat → Prop} (h : Own w F u c u.dflt (zeros u) []) : ∀ n, OwnL (Own w F u c) (List.replicate n u.dflt) (List.replicate n (zeros u)).flatten []
  | 0 => ⟨rfl, rfl⟩
  | n + 1 => ⟨zeros u, (List.replicate n (zeros u)).flatten, [], [], by simp [List.replicate_succ], rfl, h, OwnL.rep h n⟩

theorem makeSlice_ok {P : Program} {σ : St} {S : Specs} {j r : Nat} {l : List Ent} {τ : TypeId} {u : Ty} (hT : Tie P (.list u) τ) {n n' : Int} {K : AV → St → List Ent → Prop} (inv : Inv W w m σ.h [])
    (h : (Pr.need (std.all (std.eq n n') (std.all (std.le 0 n) (std.ok (std.nat n)))) (Pr.fresh r (.list u) (std.rep (std.nat n) u.dflt) (Ty.list u).own)).run S j σ l K) :
    Yields P W w m σ K (Instr.makeSlice τ (.int .i64 n) (.int .i64 n')) := by
  obtain ⟨hb, h⟩ := h
  have hb' : n = n' ∧ 0 ≤ n ∧ n.toNat ≤ lim := by simpa [std] using hb
  obtain ⟨rfl, h0, hn⟩ := hb'
  obtain ⟨e, hrun⟩ := makeSlice_run (P := P) (w := w) hT h0 hn
  have hlen : (List.replicate n.toNat u.dflt).length = n.toNat := by simp
  have hrow : ((List.replicate n.toNat (zeros u)).flatten).length = n.toNat * u.sz := by simp [zeros_length]
  have hseg : seg ((List.replicate n.toNat (zeros u)).flatten).toArray 0 (n.toNat * u.sz) = (List.replicate n.toNat (zeros u)).flatten := by
    simp only [seg, List.drop_zero]
    rw [← hrow]
    exact List.take_length
  obtain ⟨inv', hup, hown⟩ := newslice_ok (G := []) (S' := []) (c := u.own) (xs := List.replicate n.toNat u.dflt) (cap := n.toNat) (e := e) (row := ((List.replicate n.toNat (zeros u)).flatten).toArray)
    (w' := { w with heap := w.heap.push (.cells ((List.replicate n.toNat (zeros u)).flatten).toArray e (0, 0)) }) inv rfl rfl rfl (by rw [hlen]; exact Nat.le_refl _) (by simp [hrow])
    (by rw [hlen]; simp only [lim, big] at *; omega) (by rw [hlen, hseg]; exact OwnL.rep (Own.dflt (fits_owned u)) _)
  rw [hlen] at hown
  exact ⟨_, _, hrun, fresh_ok inv' hup rfl hown h⟩

end
end Go.Proofs.YtllcebmbaejlhaaDoor.Ab
