/- Binary operators, conversions, parts of slices, lengths. -/
import Derived.Test.YtllcebmbaejlhaaDoorAbConv
namespace Go.Proofs.YtllcebmbaejlhaaDoor.Ab
open Go

section
variable {P : Program} {T : Types} {W : Nat → Prop} {w : World} {m : Mem} {σ : St} {S : Specs} {j : Nat} {l : List Ent} {a : Act}

theorem guard_int {op : BinOp} {t : TypeId} {x y : Operand} {k k' : IntKind} {n n' : Int} : (eqGuard op t x y (.int k n) (.int k' n')).run P w = .ok () w := by cases op <;> rfl
theorem guard_bool {op : BinOp} {t : TypeId} {x y : Operand} {n n' : Bool} : (eqGuard op t x y (.bool n) (.bool n')).run P w = .ok () w := by cases op <;> rfl
theorem guard_str {op : BinOp} {t : TypeId} {x y : Operand} {n n' : ByteArray} : (eqGuard op t x y (.string n) (.string n')).run P w = .ok () w := by cases op <;> rfl

theorem bin_of {op : BinOp} {t : TypeId} {x y : Operand} {u v : Value} {r : Result Value} (hg : (eqGuard op t x y u v).run P w = .ok () w) (h : (binOp op t u v).run P w = r) : (do eqGuard op t x y u v; binOp op t u v : Sem Value).run P w = r := by
  simp only [Sem.run_bind, hg, Result.andThen_ok, h]

theorem str_append (a b : List UInt8) : (⟨a.toArray⟩ ++ ⟨b.toArray⟩ : ByteArray) = ⟨(a ++ b).toArray⟩ := by
  apply ByteArray.ext
  rw [ByteArray.data_append]
  simp

theorem binop_ok {op : BinOp} {xt : TypeId} {x y : Operand} {K : AV → St → List Ent → Prop} (hTie : ∀ τ u, T τ = some u → Tie P u τ) (hC : CmpOK P T) (inv : Inv W w m σ.h []) (ht : Tmps w m σ a)
    (h : (Pr.op x fun x => Pr.op y fun y => binop std T op xt x y : PrA).run S j σ l K) : Yields P W w m σ K (do eqGuard op xt x y (a.eval x) (a.eval y); binOp op xt (a.eval x) (a.eval y)) := by
  obtain ⟨u, hu, l₁, h⟩ := op_ok ht h
  obtain ⟨v, hv, l₂, h⟩ := op_ok ht h
  cases u with
  | val tu p =>
    cases v with
    | val tv q =>
      cases tu with
      | int k =>
        cases tv with
        | int k' =>
          obtain ⟨eu, wu⟩ := val_int hu
          obtain ⟨ev, wv⟩ := val_int hv
          rw [eu, ev]
          clear hu hv eu ev
          obtain ⟨p, rfl⟩ : ∃ z : Int, z = p := ⟨p, rfl⟩
          obtain ⟨q, rfl⟩ : ∃ z : Int, z = q := ⟨q, rfl⟩
          by_cases hs : op = .shl
          · subst hs
            obtain ⟨h0, h⟩ := h
            have h0' : ¬ q < 0 := by
              have : (0 : Int) ≤ q := by simpa [std] using h0
              omega
            refine yields_val (t := .int k) (cs := [.int k (k.wrap (p * 2 ^ (Min.min (Int.toNat q) k.bits)))]) inv (bin_of guard_int ?_) ⟨rfl, wrap_wrap k _⟩ h
            show (Op.shift .shl k p k' q).run P w = _
            simp only [Op.shift, if_neg h0']
            rfl
          by_cases hs' : op = .shr
          · subst hs'
            obtain ⟨h0, h⟩ := h
            have h0' : ¬ q < 0 := by
              have : (0 : Int) ≤ q := by simpa [std] using h0
              omega
            refine yields_val (t := .int k) (cs := [.int k (k.wrap (Int.fdiv p (2 ^ (Min.min (Int.toNat q) k.bits))))]) inv (bin_of guard_int ?_) ⟨rfl, wrap_wrap k _⟩ h
            show (Op.shift .shr k p k' q).run P w = _
            simp only [Op.shift, if_neg h0']
            rw [fdiv_wrap wu]
            rfl
          have h' : (bif decide (k = k') then arith std op k p q else .fail : PrA).run S j σ l₂ K := by
            cases op <;> first | exact h | exact absurd rfl hs | exact absurd rfl hs'
          obtain ⟨hk, h3⟩ := bif_run h'
          have hk := of_decide_eq_true hk
          subst hk
          refine arith_ok inv wu wv (bin_of guard_int ?_) h3
          cases op <;> first | rfl | exact absurd rfl hs | exact absurd rfl hs' | simp [binOp]
        | _ => exact h.elim
      | str =>
        cases tv with
        | str =>
          obtain ⟨cs, eu, hr⟩ := val_inv hu
          obtain ⟨rfl, bu⟩ := hr
          obtain ⟨ds, ev, hr⟩ := val_inv hv
          obtain ⟨rfl, bv⟩ := hr
          rw [eu, ev]
          clear hu hv eu ev
          obtain ⟨p, rfl⟩ : ∃ z : List UInt8, z = p := ⟨p, rfl⟩
          obtain ⟨q, rfl⟩ : ∃ z : List UInt8, z = q := ⟨q, rfl⟩
          have hrun : ∀ r, (Op.stringOp op ⟨List.toArray p⟩ ⟨List.toArray q⟩).run P w = r → (do eqGuard op xt x y (toV .str [.string ⟨List.toArray p⟩]) (toV .str [.string ⟨List.toArray q⟩]); binOp op xt (toV .str [.string ⟨List.toArray p⟩]) (toV .str [.string ⟨List.toArray q⟩]) : Sem Value).run P w = r := fun r hr => bin_of guard_str (by
            rw [← hr]; cases op <;> rfl)
          cases op with
          | add =>
            obtain ⟨hok, h⟩ := h
            have hok' : List.length (α := UInt8) p + List.length (α := UInt8) q ≤ lim := by simpa [std] using hok
            have h1 : (⟨List.toArray p⟩ : ByteArray).size = List.length (α := UInt8) p := List.size_toArray
            have h2 : (⟨List.toArray q⟩ : ByteArray).size = List.length (α := UInt8) q := List.size_toArray
            refine yields_val (t := .str) (x := p ++ q) (cs := [.string ⟨List.toArray (α := UInt8) (p ++ q)⟩]) inv (hrun _ ?_) ⟨rfl, by
              rw [List.length_append]; simp only [lim, big] at *; omega⟩ h
            have hm : ¬ ((((⟨List.toArray p⟩ : ByteArray).size + (⟨List.toArray q⟩ : ByteArray).size : Nat) : Int) > IntKind.i64.max) := by
              rw [h1, h2]
              have : IntKind.i64.max = 9223372036854775807 := by decide
              rw [this]
              simp only [lim] at hok'
              omega
            simp only [Op.stringOp, if_neg hm, str_append]
            rfl
          | eql =>
            refine yields_val (t := .bool) (x := std.seq p q) (cs := [.bool (std.seq p q)]) inv (hrun _ ?_) rfl h
            simp [Op.stringOp, ByteArray.toList_eq, std, toV, Ty.isAgg]
          | neq =>
            refine yields_val (t := .bool) (x := std.not (std.seq p q)) (cs := [.bool (std.not (std.seq p q))]) inv (hrun _ ?_) rfl h
            simp [Op.stringOp, ByteArray.toList_eq, std, toV, Ty.isAgg]
          | _ => exact h.elim
        | _ => exact h.elim
      | bool =>
        cases tv with
        | bool =>
          rw [val_bool hu, val_bool hv]
          obtain ⟨hb, h⟩ := bif_run h
          have hb := of_decide_eq_true hb
          have hbool := (hTie _ _ hb).bool
          have he := run_equal_bool (P := P) (w := w) xt p q hbool
          cases op with
          | eql =>
            refine yields_val (t := .bool) (x := std.beq p q) (cs := [.bool (std.beq p q)]) inv (bin_of guard_bool ?_) rfl h
            simp only [binOp, Sem.run_bind, he, Result.andThen_ok]
            rfl
          | neq =>
            refine yields_val (t := .bool) (x := std.not (std.beq p q)) (cs := [.bool (std.not (std.beq p q))]) inv (bin_of guard_bool ?_) rfl h
            simp only [binOp, Sem.run_bind, he, Result.andThen_ok]
            rfl
          | _ => exact h.elim
        | _ => exact h.elim
      | agg t =>
        obtain ⟨q', hq, h2⟩ := opt_run h
        cases DV.as_eq hq
        obtain ⟨hcm, h3⟩ := bif_run h2
        clear h h2
        rename _ => h
        simp only [Bool.and_eq_true, decide_eq_true_eq] at hcm
        have hc := hC _ _ hcm.2 hcm.1
        have htie := hTie _ _ hcm.2
        simp only [cmpT, Bool.and_eq_true, Bool.not_eq_true', decide_eq_true_eq] at hc
        obtain ⟨cs, eu, hr⟩ := val_inv hu
        obtain ⟨ds, ev, hr'⟩ := val_inv hv
        rw [eu, ev]
        have hd := (deq_run (P := P) (w := w) (.agg t) (D := 10000) (by simp only [Ty.dep]; omega) hcm.1 hr hr').1 xt htie hc.1.1
        have hg : (eqGuard op xt x y (toV (.agg t) cs) (toV (.agg t) ds)).run P w = .ok () w := run_eqGuard_agg (P := P) w op xt x y cs.toArray ds.toArray hc.1.2
        cases op with
        | eql =>
          refine yields_val (t := .bool) (x := std.deq t p q') (cs := [.bool (std.deq t p q')]) inv (bin_of hg ?_) rfl h
          refine (run_eql_struct (P := P) w xt cs.toArray ds.toArray).trans ?_
          change ((Op.equalIn 10000 xt (toV (.agg t) cs) (toV (.agg t) ds)).run P w).andThen _ = _
          rw [hd]
          rfl
        | neq =>
          refine yields_val (t := .bool) (x := std.not (std.deq t p q')) (cs := [.bool (std.not (std.deq t p q'))]) inv (bin_of hg ?_) rfl h
          refine (run_neq_struct (P := P) w xt cs.toArray ds.toArray).trans ?_
          change ((Op.equalIn 10000 xt (toV (.agg t) cs) (toV (.agg t) ds)).run P w).andThen _ = _
          rw [hd]
          rfl
        | _ => exact h.elim
      | _ => exact h.elim
    | _ => cases tu <;> exact h.elim
  | _ => exact h.elim

end
end Go.Proofs.YtllcebmbaejlhaaDoor.Ab
