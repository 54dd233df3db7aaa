/- Ranging over a string; operators; conversions; parts of slices. -/
import Derived.Test.YtllcebmbaejlhaaDoorAbMore
import Derived.Laws.RangeString
import Derived.Laws.Strings
namespace Go.Proofs.YtllcebmbaejlhaaDoor.Ab
open Go

section
variable {P : Program} {T : Types} {W : Nat → Prop} {w : World} {m : Mem} {σ : St} {S : Specs} {j : Nat} {l : List Ent} {a : Act}

/-! ### Iterators -/
theorem range_ok {r : Nat} {τ : TypeId} (hT : Tie P .str τ) {x : Operand} {K : AV → St → List Ent → Prop} (inv : Inv W w m σ.h []) (ht : Tmps w m σ a)
    (h : (Pr.op x fun | .val .str s => Pr.new r (.iter s 0) (.ret (.itr r)) | _ => .fail : PrA).run S j σ l K) : Yields P W w m σ K (Instr.range τ (a.eval x)) := by
  obtain ⟨v, hv, l₁, h⟩ := op_ok ht h
  cases v with
  | val t s =>
    cases t with
    | str =>
      obtain ⟨cs, e, hr⟩ := val_inv hv
      obtain ⟨rfl, hb⟩ := hr
      obtain ⟨hr, h⟩ := new_run h
      have hrun := run_range_string (P := P) w τ ⟨List.toArray s⟩ hT.str
      have hold : ∀ b, b < w.heap.size → (w.iter ⟨List.toArray s⟩ 0).heap[b]? = w.heap[b]? := fun b hb => by
        show (w.heap.push _)[b]? = _
        simp [Array.getElem?_push, Nat.ne_of_lt hb]
      have hsz : (w.iter ⟨List.toArray s⟩ 0).heap.size = w.heap.size + 1 := by show (w.heap.push _).size = _; simp
      have hc : Change W w m σ.h [] r (w.iter ⟨List.toArray s⟩ 0) m.F (m.C r) w.heap.size [] (.iter s 0) [] := by
        refine ⟨⟨fun b hb _ => hold b hb, by omega, rfl, rfl⟩, fun _ h => h, fun b hb => ⟨by have := inv.flt b hb; omega, .inl hb⟩, by simp [own1], fun b hb => ?_, ?_⟩
        · have : b = w.heap.size := by simpa [own1, Mem.put] using hb
          subst this
          exact ⟨.inr (.inr (Nat.le_refl _)), by omega, fun hf => absurd (inv.flt _ hf) (by omega), inv.new _ (Nat.le_refl _)⟩
        · refine ⟨?_, hb⟩
          simp only [Mem.put, upd_same]
          exact World.iter_heap w _ _
      refine ⟨_, _, by rw [e]; exact hrun, Res.of (v := .itr r) (hc.inv inv) (hc.up inv ?_) ?_ rfl h⟩
      · rw [hr]; exact ⟨fun p ver v _ h => h.elim, fun p ver v _ h => h.elim, fun v h => h.elim⟩
      · show ItrR _ (upd σ.h r _ r) r _
        rw [upd_same]
        simp [ItrR, Mem.put]
    | _ => exact h.elim
  | _ => exact h.elim

theorem next_ok {x : Operand} {ty : TypeId} {K : AV → St → List Ent → Prop} (inv : Inv W w m σ.h []) (ht : Tmps w m σ a)
    (h : (Pr.op x fun
    | .itr r => .reg r fun
      | .iter s pos => .split (std.more s pos)
          (.need (std.asc s pos) (.set r (.iter s (std.succ pos)) (.ret (.tup [.val .bool true, .val (.int .i64) (std.int pos), .val (.int .i32) (std.byte (std.get s pos 0))]))))
          (.ret (.tup [.val .bool false]))
      | _ => .fail
    | _ => .fail : PrA).run S j σ l K) : Yields P W w m σ K (Instr.next (a.eval x) true ty) := by
  obtain ⟨v, hv, l₁, h⟩ := op_ok ht h
  cases v with
  | itr r =>
    have hv' : ItrR m (σ.h r) r (a.eval x) := hv
    simp only [Pr.run] at h
    have hreg := inv.reg r
    cases hg' : σ.h r with
    | iter s pos =>
      rw [hg'] at h hv' hreg
      have e : a.eval x = .pointer (some ⟨m.B r, 0, none⟩) := hv'
      obtain ⟨hh, hb⟩ := hreg
      have hsz : (⟨List.toArray s⟩ : ByteArray).size = s.length := List.size_toArray
      rw [e]
      simp only [Pr.run] at h
      by_cases hp : pos < s.length
      · have hm : std.more s pos = true := by simp [std, hp]
        rw [hm] at h
        simp only [Pr.run] at h
        obtain ⟨ha, h⟩ := h
        have hp' : pos < (⟨List.toArray s⟩ : ByteArray).size := by rw [hsz]; exact hp
        have hg : List.getD s pos 0 = s[pos] := by simp [List.getD, List.getElem?_eq_getElem hp]
        have ha' : ((⟨List.toArray s⟩ : ByteArray)[pos]'hp').toNat < 128 := by
          have : (List.getD s pos 0).toNat < 128 := by simpa [std] using ha
          rw [hg] at this
          exact this
        have hrun : (Instr.next (.pointer (some ⟨m.B r, 0, none⟩)) true ty).run P w = .ok (.tuple #[.bool true, .int .i64 pos, .int .i32 (s[pos]).toNat]) { w with heap := w.heap.setIfInBounds (m.B r) (.stringIter ⟨List.toArray s⟩ (pos + 1)) } := by
          simp only [Instr.next, getObj, setObj, Sem.run_bind, Sem.run, hh, Result.andThen, hp', if_true, decode_ascii _ _ hp' ha']
          simp [goInt, Sem.run, hh]
          rfl
        have hlt := (inv.lt r (m.B r) (by rw [hg']; simp [own1])).1
        have hc : Change W w m σ.h [] r { w with heap := w.heap.setIfInBounds (m.B r) (.stringIter ⟨List.toArray s⟩ (pos + 1)) } m.F (m.C r) (m.B r) (m.S r) (.iter s (pos + 1)) [] := by
          refine Change.mk ⟨fun b hb hn => ?_, by simp, rfl, rfl⟩ (fun _ h => h) (fun b hb => ⟨by have := inv.flt b hb; simpa using this, .inl hb⟩) (by simp [own1]) (fun b hb => ?_) ?_
          · have hne : m.B r ≠ b := by
              rintro rfl
              exact hn (by rw [hg']; simp [own1])
            simp [Array.getElem?_setIfInBounds, hne]
          · have : b = m.B r := by simpa [own1, Mem.put] using hb
            subst this
            have := inv.lt r (m.B r) (by rw [hg']; simp [own1])
            exact ⟨.inl (by rw [hg']; simp [own1]), by simpa using this.1, this.2.1, this.2.2⟩
          · refine ⟨?_, hb⟩
            simp only [Mem.put, upd_same]
            simp [Array.getElem?_setIfInBounds, hlt]
        refine ⟨_, _, hrun, Res.of (v := .tup [.val .bool true, .val (.int .i64) (pos : Int), .val (.int .i32) ((List.getD s pos 0).toNat : Int)]) (hc.inv inv) (hc.up inv ?_) ?_ rfl h⟩
        · rw [hg']
          refine ⟨fun p ver v _ _ => trivial, fun p ver v _ _ => trivial, fun v hv => ?_⟩
          simpa [ItrR, Mem.put] using hv
        · refine ⟨_, rfl, ⟨[_], rfl, rfl⟩, ⟨[_], rfl, rfl, ?_⟩, ⟨[.int .i32 ((s[pos]).toNat : Int)], rfl, by rw [hg], ?_⟩, trivial⟩
          · have : pos < 9223372036854775808 := by simp only [big] at hb; omega
            simp only [IntKind.wrap, IntKind.bits, IntKind.signed]
            simp
            omega
          · have := (s[pos]).toNat_lt
            rw [hg]
            simp only [IntKind.wrap, IntKind.bits, IntKind.signed]
            simp
            omega
      · have hm : std.more s pos = false := by simp [std]; omega
        rw [hm] at h
        have hp' : ¬ pos < (⟨List.toArray s⟩ : ByteArray).size := by rw [hsz]; exact hp
        have hrun : (Instr.next (.pointer (some ⟨m.B r, 0, none⟩)) true ty).run P w = .ok (.tuple #[.bool false]) w := by
          simp [Instr.next, getObj, Sem.run, hh, hp']
        exact ⟨_, _, hrun, Res.of (v := .tup [.val .bool false]) inv (Up.refl _ _ _ _) ⟨_, rfl, ⟨[_], rfl, rfl⟩, trivial⟩ rfl h⟩
    | _ => rw [hg'] at h; exact h.elim
  | _ => exact h.elim

end
end Go.Proofs.YtllcebmbaejlhaaDoor.Ab
