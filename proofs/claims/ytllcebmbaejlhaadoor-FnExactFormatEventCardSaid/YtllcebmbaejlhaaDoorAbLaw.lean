/- From the form's reading of an argument to plain data, and back behind the call. -/
import Derived.Test.YtllcebmbaejlhaaDoorAbExt
import Derived.ProofKit
import Derived.Below
import Derived.Carry
import Derived.ChangeSame
namespace Go.Proofs.YtllcebmbaejlhaaDoor.Ab
open Go Go.ChangeShapes Go.WideShapes Go.ChangeAt Go.RowKit

theorem wf_rep {k : IntKind} {n : Int} (h : (Lit.int k n).wf = true) : k.wrap n = n := by
  simp only [Lit.wf, Bool.and_eq_true, decide_eq_true_eq] at h
  have h1 := h.1
  have h2 := h.2
  cases k <;> simp [IntKind.min, IntKind.max, IntKind.bits, IntKind.signed] at h1 h2 <;> simp [IntKind.wrap, IntKind.bits, IntKind.signed] <;> omega

section
variable {H : Type} {enc : TypeId × Value → H} {P : Program} {w : World} {sp : Nat → Bool} {held : Bool}

theorem trod_arr {t : TypeId} {fuel : Nat} {cs : List Value} {x : DataW H × List MemPlace} {n : Nat} {e : TypeId} (ht : P.underlying t = some (.array n e)) (h : DataW.trod enc P w 0 sp held fuel t cs = some x) :
    ∃ (xs : List (DataW H × List MemPlace)) (m : Nat), x.1 = .agg (xs.map (·.1)) ∧ cs.length = P.cellsOf t ∧ xs.length = n ∧
      ∀ (i : Nat), i < n → DataW.trod enc P w 0 sp held m e ((cs.drop (i * P.cellsOf e)).take (P.cellsOf e)) = xs[i]? := by
  cases fuel with
  | zero => simp [DataW.trod] at h
  | succ m =>
    unfold DataW.trod at h
    rw [ht] at h
    split at h <;> simp_all
    obtain ⟨hl, xs, hp, rfl⟩ := h
    exact ⟨xs, ⟨rfl, by simpa using mapM_some_length hp, m, fun i hi => mapM_some_get hp i i (by simp [hi])⟩⟩

/-- What a row of cells holds, from the cells one by one. -/
theorem row_reads {α : Type} {R : α → List Value → Prop} {row : Array Value} {sz : Nat} : ∀ (k o : Nat), (∀ i, i < k → ∃ x, R x (seg row (o + i * sz) sz)) → ∃ xs : List α, xs.length = k ∧ RepL R xs (seg row o (k * sz))
  | 0, o, _ => ⟨[], rfl, by simp [RepL, seg]⟩
  | k + 1, o, h => by
    obtain ⟨x, hx⟩ := h 0 (by omega)
    obtain ⟨xs, hl, hxs⟩ := row_reads k (o + sz) (fun i hi => by
      obtain ⟨y, hy⟩ := h (i + 1) (by omega)
      refine ⟨y, ?_⟩
      have e : o + (i + 1) * sz = o + sz + i * sz := by rw [Nat.succ_mul]; omega
      rwa [e] at hy)
    refine ⟨x :: xs, by simp [hl], seg row o sz, seg row (o + sz) (k * sz), ?_, by simpa using hx, hxs⟩
    simp only [seg, Nat.succ_mul]
    rw [Nat.add_comm (k * sz) sz, List.take_add, List.drop_drop]

theorem cells_at {a : Addr} {n : Nat} {cs : List Value} (h : w.cells? 0 a n = some cs) : cs.length = n ∧ ∀ i, i < n → w.cell? (a.add i) = cs[i]? := by
  simp only [World.cells?, Nat.zero_le, if_true] at h
  refine ⟨by simpa using mapM_some_length h, fun i hi => ?_⟩
  exact mapM_some_get h i i (by simp [hi])

/-- A cell that is there. -/
theorem cell_there {a : Addr} {v : Value} (h : w.cell? a = some v) : ∃ row e fz, a = ⟨a.block, a.off, none⟩ ∧ w.heap[a.block]? = some (.cells row e fz) ∧ row[a.off]? = some v ∧ a.block < w.heap.size := by
  unfold World.cell? at h
  split at h
  · rename_i c e fz hc
    split at h
    · cases h
    · rename_i hs
      refine ⟨c, e, fz, ?_, hc, h, (Array.getElem?_eq_some_iff.1 hc).1⟩
      obtain ⟨b, o, s⟩ := a
      cases s with
      | none => rfl
      | some _ => simp at hs
  · cases h

theorem seg_of {row : Array Value} {o n : Nat} {cs : List Value} (hl : cs.length = n) (h : ∀ i, i < n → row[o + i]? = cs[i]?) : seg row o n = cs := by
  apply List.ext_getElem?
  intro i
  simp only [seg, List.getElem?_take, List.getElem?_drop, Array.getElem?_toList]
  split
  · rename_i hi; exact h i hi
  · rename_i hi; rw [List.getElem?_eq_none (by omega)]

theorem cells_tie {u : Ty} {τ : TypeId} (h : Tie P u τ) : P.cellsOf τ = u.sz := by
  obtain ⟨i⟩ := h.info
  simp [Program.cellsOf, i.info, i.size]

theorem bytes_tie {u : Ty} {τ : TypeId} (h : Tie P u τ) : 0 < P.bytesOf τ := by
  obtain ⟨i⟩ := h.info
  simpa [Program.bytesOf, i.info] using i.pos

theorem sz_tie {u : Ty} {τ : TypeId} (h : Tie P u τ) : 0 < u.sz := by
  obtain ⟨i⟩ := h.info
  exact i.szpos

theorem reach_big : reachBytes ≤ big := by decide

theorem weights_mem {e : TypeId} {y : DataW H × List MemPlace} : ∀ {l : List (DataW H × List MemPlace)}, (DataW.weightsAll P e (l.map (·.1))).all (· ≤ reachBytes) = true → y ∈ l → (y.1.weights P e).all (· ≤ reachBytes) = true
  | [], _, h => by cases h
  | z :: zs, hw, h => by
    simp only [List.map_cons, DataW.weightsAll, List.all_append, Bool.and_eq_true] at hw
    rcases List.mem_cons.1 h with rfl | h
    · exact hw.1
    · exact weights_mem hw.2 h

/-- What the form reads of a value, our interpreter reads of it. -/
theorem trod_rep : ∀ (u : Ty),
    (∀ {τ : TypeId} {fuel : Nat} {cs : List Value} {x : DataW H × List MemPlace}, Tie P u τ → DataW.trod enc P w 0 sp held fuel τ cs = some x → (x.1.weights P τ).all (· ≤ reachBytes) = true → ∃ y, Rep w (fun b => b < w.heap.size) u y cs) ∧
    (∀ {fs : List Field} {off n : Nat} {cs : List Value} {xs : List (DataW H × List MemPlace)}, TieF P u fs off → xs.length = fs.length →
      (∀ (i : Nat) (f : Field), fs[i]? = some f → DataW.trod enc P w 0 sp held n f.type ((cs.drop f.offset).take (P.cellsOf f.type)) = xs[i]?) →
      (DataW.weightsEach P (fs.map (·.type)) (xs.map (·.1))).all (· ≤ reachBytes) = true → ∃ y, Rep w (fun b => b < w.heap.size) u y ((cs.drop off).take u.sz)) := by
  have one : ∀ (u : Ty), (∀ a b, u ≠ .prod a b) →
      (∀ {τ : TypeId} {fuel : Nat} {cs : List Value} {x : DataW H × List MemPlace}, Tie P u τ → DataW.trod enc P w 0 sp held fuel τ cs = some x → (x.1.weights P τ).all (· ≤ reachBytes) = true → ∃ y, Rep w (fun b => b < w.heap.size) u y cs) →
      (∀ {fs : List Field} {off n : Nat} {cs : List Value} {xs : List (DataW H × List MemPlace)}, TieF P u fs off → xs.length = fs.length →
        (∀ (i : Nat) (f : Field), fs[i]? = some f → DataW.trod enc P w 0 sp held n f.type ((cs.drop f.offset).take (P.cellsOf f.type)) = xs[i]?) →
        (DataW.weightsEach P (fs.map (·.type)) (xs.map (·.1))).all (· ≤ reachBytes) = true → ∃ y, Rep w (fun b => b < w.heap.size) u y ((cs.drop off).take u.sz)) := by
    intro u hu hA fs off n cs xs ht hl hx hw
    obtain ⟨f, rfl, rfl, htf⟩ := TieF.one hu ht
    obtain ⟨x, rfl⟩ := List.length_eq_one_iff.1 hl
    have h0 := hx 0 f rfl
    rw [cells_tie htf, List.getElem?_cons_zero] at h0
    refine hA htf h0 ?_
    simpa [DataW.weightsEach] using hw
  intro u
  induction u with
  | int k =>
    have hA : (∀ {τ : TypeId} {fuel : Nat} {cs : List Value} {x : DataW H × List MemPlace}, Tie P (.int k) τ → DataW.trod enc P w 0 sp held fuel τ cs = some x → (x.1.weights P τ).all (· ≤ reachBytes) = true → ∃ y, Rep w (fun b => b < w.heap.size) (.int k) y cs) := by
      intro τ fuel cs x ht h _
      obtain ⟨n, rfl, _, hw⟩ := DataW.trod_int ht.int h
      exact ⟨n, rfl, wf_rep hw⟩
    exact ⟨hA, one _ (by intro a b h; cases h) hA⟩
  | bool =>
    have hA : (∀ {τ : TypeId} {fuel : Nat} {cs : List Value} {x : DataW H × List MemPlace}, Tie P .bool τ → DataW.trod enc P w 0 sp held fuel τ cs = some x → (x.1.weights P τ).all (· ≤ reachBytes) = true → ∃ y, Rep w (fun b => b < w.heap.size) .bool y cs) := by
      intro τ fuel cs x ht h _
      obtain ⟨b, rfl, _⟩ := DataW.trod_bool ht.bool h
      exact ⟨b, rfl⟩
    exact ⟨hA, one _ (by intro a b h; cases h) hA⟩
  | str =>
    have hA : (∀ {τ : TypeId} {fuel : Nat} {cs : List Value} {x : DataW H × List MemPlace}, Tie P .str τ → DataW.trod enc P w 0 sp held fuel τ cs = some x → (x.1.weights P τ).all (· ≤ reachBytes) = true → ∃ y, Rep w (fun b => b < w.heap.size) .str y cs) := by
      intro τ fuel cs x ht h hw
      obtain ⟨s, rfl, rfl, _⟩ := DataW.trod_string ht.str h
      simp only [DataW.weights, List.all_cons, List.all_nil, Bool.and_true, decide_eq_true_eq] at hw
      exact ⟨s.data.toList, rfl, Nat.le_trans hw reach_big⟩
    exact ⟨hA, one _ (by intro a b h; cases h) hA⟩
  | list u ih =>
    have hA : (∀ {τ : TypeId} {fuel : Nat} {cs : List Value} {x : DataW H × List MemPlace}, Tie P (.list u) τ → DataW.trod enc P w 0 sp held fuel τ cs = some x → (x.1.weights P τ).all (· ≤ reachBytes) = true → ∃ y, Rep w (fun b => b < w.heap.size) (.list u) y cs) := by
      intro τ fuel cs x ht h hw
      obtain ⟨e, he, hte⟩ := ht.list
      rcases DataW.trod_slice he h with ⟨rfl, _⟩ | ⟨a, len, cap, elems, rest, n, _, rfl, rfl, _, hlc, _, hlen, hel, _, _⟩
      · exact ⟨([] : List u.den), none, 0, rfl, ⟨Nat.zero_le _, Nat.zero_le _⟩, .inl rfl⟩
      · simp only [DataW.weights, he, List.all_cons, List.all_append, Bool.and_eq_true, decide_eq_true_eq, List.length_map] at hw
        obtain ⟨hw0, hw1, _⟩ := hw
        have hbig : len ≤ big := by
          refine Nat.le_trans ?_ reach_big
          refine Nat.le_trans ?_ hw0
          rw [hlen]
          exact Nat.le_trans (Nat.le_add_right _ _) (Nat.le_mul_of_pos_right _ (bytes_tie hte))
        rw [cells_tie hte] at hel
        cases len with
        | zero => exact ⟨([] : List u.den), some a, cap, rfl, ⟨Nat.zero_le _, Nat.zero_le _⟩, .inl rfl⟩
        | succ m =>
          have each : ∀ i, i < m + 1 → ∃ cs y, w.cells? 0 (a.add (i * u.sz)) u.sz = some cs ∧ DataW.trod enc P w 0 sp held n e cs = some y ∧ y ∈ elems := by
            intro i hi
            have h1 := hel i hi
            have h2 : i < elems.length := by omega
            rw [List.getElem?_eq_getElem h2, Option.bind_eq_some_iff] at h1
            obtain ⟨cs, h3, h4⟩ := h1
            exact ⟨cs, _, h3, h4, List.getElem_mem h2⟩
          have hpos := sz_tie hte
          obtain ⟨c0, _, h0, _⟩ := each 0 (by omega)
          obtain ⟨hl0, hc0⟩ := cells_at h0
          have h00 := hc0 0 hpos
          rw [List.getElem?_eq_getElem (by omega)] at h00
          have ez : (a.add (0 * u.sz)).add 0 = a := by simp [Addr.add]
          rw [ez] at h00
          obtain ⟨row, el, fz, ea, hrow, _, hlt⟩ := cell_there h00
          obtain ⟨xs, hxl, hxs⟩ := row_reads (R := Rep w (fun b => b < w.heap.size) u) (row := row) (sz := u.sz) (m + 1) a.off (fun i hi => by
            obtain ⟨cs, y, h1, h2, h3⟩ := each i hi
            obtain ⟨x, hx⟩ := ih.1 hte h2 (weights_mem hw1 h3)
            obtain ⟨hl1, hc1⟩ := cells_at h1
            refine ⟨x, ?_⟩
            have : seg row (a.off + i * u.sz) u.sz = cs := seg_of hl1 fun j hj => by
              rw [← hc1 j hj]
              have e1 : (a.add (i * u.sz)).add j = ⟨a.block, a.off + i * u.sz + j, none⟩ := by
                rw [ea]
                simp only [Addr.add]
                split <;> split <;> simp <;> omega
              rw [e1, cell_at hrow]
            rw [this]; exact hx)
          refine ⟨xs, some a, cap, by rw [hxl], ⟨by rw [hxl]; exact hbig, by rw [hxl]; exact hlc⟩, .inr ⟨a.block, a.off, row, el, fz, by rw [← ea], hlt, hrow, ?_⟩⟩
          rw [hxl]; exact hxs
    exact ⟨hA, one _ (by intro a b h; cases h) hA⟩
  | arr n u ih =>
    have hA : (∀ {τ : TypeId} {fuel : Nat} {cs : List Value} {x : DataW H × List MemPlace}, Tie P (.arr n u) τ → DataW.trod enc P w 0 sp held fuel τ cs = some x → (x.1.weights P τ).all (· ≤ reachBytes) = true → ∃ y, Rep w (fun b => b < w.heap.size) (.arr n u) y cs) := by
      intro τ fuel cs x ht h hw
      obtain ⟨e, he, hte⟩ := ht.arr
      obtain ⟨xs, m, ex, hl, hlen, hf⟩ := trod_arr he h
      rw [ex] at hw
      simp only [DataW.weights, he] at hw
      rw [cells_tie hte] at hf
      obtain ⟨ys, hyl, hys⟩ := row_reads (R := Rep w (fun b => b < w.heap.size) u) (row := cs.toArray) (sz := u.sz) n 0 (fun i hi => by
        have h1 := hf i hi
        rw [List.getElem?_eq_getElem (by omega)] at h1
        obtain ⟨x, hx⟩ := ih.1 hte h1 (weights_mem hw (List.getElem_mem _))
        exact ⟨x, by simpa [seg] using hx⟩)
      refine ⟨ys, hyl, ?_⟩
      rw [cells_tie ht] at hl
      have e1 : seg cs.toArray 0 (n * u.sz) = cs := by
        simp only [seg, List.drop_zero]
        exact List.take_of_length_le (by rw [hl]; exact Nat.le_refl _)
      rw [e1] at hys
      exact hys
    exact ⟨hA, one _ (by intro a b h; cases h) hA⟩
  | prod a b iha ihb =>
    refine ⟨fun h => by simp [Tie, tieB] at h, ?_⟩
    intro fs off n cs xs ht hl hx hw
    simp only [TieF, tieB] at ht
    split at ht
    · rename_i f fs
      simp only [Bool.and_eq_true, beq_iff_eq] at ht
      obtain ⟨⟨rfl, hta⟩, htb⟩ := ht
      cases xs with
      | nil => simp at hl
      | cons x xs =>
        simp only [List.map_cons, DataW.weightsEach, List.all_append, Bool.and_eq_true] at hw
        have h0 := hx 0 f rfl
        rw [cells_tie hta, List.getElem?_cons_zero] at h0
        obtain ⟨ya, hya⟩ := iha.1 hta h0 hw.1
        obtain ⟨yb, hyb⟩ := ihb.2 (xs := xs) (cs := cs) htb (by simpa using hl) (fun i g hg => by simpa using hx (i + 1) g (by simpa using hg)) hw.2
        refine ⟨(ya, yb), _, _, ?_, hya, hyb⟩
        rw [Ty.sz, List.take_add, List.drop_drop]
    · cases ht
  | agg u ih =>
    have hA : (∀ {τ : TypeId} {fuel : Nat} {cs : List Value} {x : DataW H × List MemPlace}, Tie P (.agg u) τ → DataW.trod enc P w 0 sp held fuel τ cs = some x → (x.1.weights P τ).all (· ≤ reachBytes) = true → ∃ y, Rep w (fun b => b < w.heap.size) (.agg u) y cs) := by
      intro τ fuel cs x ht h hw
      obtain ⟨fs, he, htf⟩ := ht.agg
      obtain ⟨xs, n, _, rfl, hl, hlen, hf⟩ := DataW.trod_struct he h
      simp only [DataW.weights, he] at hw
      obtain ⟨y, hy⟩ := ih.2 (cs := cs) (n := n) (xs := xs) htf (by simpa using hlen) (fun i f hi => hf i f (by simpa using hi)) hw
      refine ⟨y, ?_⟩
      rw [cells_tie ht] at hl
      have : (cs.drop 0).take u.sz = cs := by rw [List.drop_zero, List.take_of_length_le (by rw [hl]; exact Nat.le_refl _)]
      rw [this] at hy
      exact hy
    exact ⟨hA, one _ (by intro a b h; cases h) hA⟩

/-- A cell well typed at such a type is a value of one cell. -/
theorem okWide_one {u : Ty} {τ : TypeId} {b0 : Nat} {r : Reach} {v : Value} (ht : Tie P u τ) (hv : Value.okWide P w r b0 τ v) : v = toV u v.cells.toList := by
  cases u with
  | prod a b => simp [Tie, tieB] at ht
  | int k =>
    simp only [Value.okWide, ht.int, Cell.okWide] at hv
    cases v <;> simp_all [Cell.ok] <;> rfl
  | bool =>
    simp only [Value.okWide, ht.bool, Cell.okWide] at hv
    cases v <;> simp_all [Cell.ok] <;> rfl
  | str =>
    simp only [Value.okWide, ht.str, Cell.okWide] at hv
    cases v <;> simp_all [Cell.ok] <;> rfl
  | list u =>
    obtain ⟨e, he, _⟩ := ht.list
    simp only [Value.okWide, he, Cell.okWide] at hv
    cases v <;> simp_all [Cell.ok] <;> rfl
  | arr n u =>
    obtain ⟨e, he, _⟩ := ht.arr
    simp only [Value.okWide, he] at hv
    obtain ⟨cs, rfl, _⟩ := hv
    rfl
  | agg u =>
    obtain ⟨fs, he, _⟩ := ht.agg
    simp only [Value.okWide, he] at hv
    obtain ⟨cs, rfl, _⟩ := hv
    rfl

/-- AN ARGUMENT OPENED. -/
theorem open_arg (u : Ty) {τ : TypeId} {b0 : Nat} {r : Reach} {v : Value} {d : DataW H} {ps : List MemPlace} (ht : Tie P u τ) (hv : Value.okWide P w r b0 τ v) (h : DataW.Trod enc P w 0 sp held τ v d ps)
    (hw : (d.weights P τ).all (· ≤ reachBytes) = true) : ∃ y : u.den, ArgR w (fun b => b < w.heap.size) (.ro ⟨u, y⟩) v [] := by
  obtain ⟨fuel, hf⟩ := h
  obtain ⟨y, hy⟩ := (trod_rep u).1 ht hf hw
  exact ⟨y, rfl, _, okWide_one ht hv, hy⟩

/-- ALL ARGUMENTS OPENED. -/
theorem opens_of {b0 : Nat} {r : Reach} : ∀ {us : List Ty} {ts : List TypeId} {vs : List Value} {ds : List (DataW H)} {ps : List MemPlace}, us.length = ts.length → (∀ (j : Nat) (u : Ty) (t : TypeId), us[j]? = some u → ts[j]? = some t → Tie P u t) →
    (∀ (j : Nat) (t : TypeId) (v : Value), ts[j]? = some t → vs[j]? = some v → Value.okWide P w r b0 t v) → DataW.TrodAll enc P w 0 sp held ts vs ds ps → (DataW.weightsEach P ts ds).all (· ≤ reachBytes) = true →
    ∃ ys : List DV, ys.map DV.t = us ∧ ArgsR w (fun b => b < w.heap.size) (ys.map Arg.ro) vs []
  | [], [], [], [], _, _, _, _, _, _ => ⟨[], rfl, rfl⟩
  | u :: us, t :: ts, v :: vs, d :: ds, ps, hl, htie, hv, ⟨p, q, h1, h2, _⟩, hw => by
    simp only [DataW.weightsEach, List.all_append, Bool.and_eq_true] at hw
    obtain ⟨y, hy⟩ := open_arg u (htie 0 u t rfl rfl) (hv 0 t v rfl rfl) h1 hw.1
    obtain ⟨ys, h3, h4⟩ := opens_of (us := us) (ts := ts) (vs := vs) (ds := ds) (by simpa using hl) (fun j u t h h' => htie (j + 1) u t (by simpa using h) (by simpa using h')) (fun j t v h h' => hv (j + 1) t v (by simpa using h) (by simpa using h')) h2 hw.2
    exact ⟨⟨u, y⟩ :: ys, by simp [h3], by rw [List.map_cons]; exact ⟨[], [], rfl, hy, h4⟩⟩
  | [], _ :: _, _, _, _, hl, _, _, _, _ => by simp at hl
  | _ :: _, [], _, _, _, hl, _, _, _, _ => by simp at hl
  | [], [], _ :: _, _, _, _, _, _, h, _ => by simp [DataW.TrodAll] at h
  | [], [], [], _ :: _, _, _, _, _, h, _ => by simp [DataW.TrodAll] at h
  | _ :: _, _ :: _, [], _, _, _, _, _, h, _ => by simp [DataW.TrodAll] at h
  | _ :: _, _ :: _, _ :: _, [], _, _, _, _, h, _ => by simp [DataW.TrodAll] at h

theorem Grow.same {w w' : World} (g : Grow w w' []) : ∀ {x : MemPlace}, x.block < w.heap.size → w.sameAt w' x
  | .cell b _, h => World.cell?_of_block (w := w) (g.heap b h (by simp))
  | .map b, h => g.heap b h (by simp)

/-- Behind the call each argument reads as before. -/
theorem trodAll_stays {w' : World} {sp' : Nat → Bool} (hl : laidOutB P = true) : ∀ {ts : List TypeId} {vs : List Value} {ds : List (DataW H)} {ps : List MemPlace}, (∀ t ∈ ts, P.readableRec t = true ∧ t < P.types.size) →
    DataW.TrodAll enc P w 0 (fun _ => true) true ts vs ds ps → (∀ p ∈ ps, w.sameAt w' p) → (∀ p ∈ ps, sp' p.block = true) → DataW.TrodAll enc P w' 0 sp' true ts vs ds ps
  | [], [], [], _, _, h, _, _ => h
  | t :: ts, v :: vs, d :: ds, ps, hr, ⟨p, q, h1, h2, e⟩, hs, hp => by
    subst e
    exact ⟨p, q, WideElems.Trod_stays hl (hr t (by simp)).1 (hr t (by simp)).2 h1 (fun x hx => hs x (by simp [hx])) (fun x hx => hp x (by simp [hx])),
      trodAll_stays hl (fun t ht => hr t (by simp [ht])) h2 (fun x hx => hs x (by simp [hx])) (fun x hx => hp x (by simp [hx])), rfl⟩
  | [], _ :: _, _, _, _, h, _, _ => by simp [DataW.TrodAll] at h
  | [], [], _ :: _, _, _, h, _, _ => by simp [DataW.TrodAll] at h
  | _ :: _, [], _, _, _, h, _, _ => by simp [DataW.TrodAll] at h
  | _ :: _, _ :: _, [], _, _, h, _, _ => by simp [DataW.TrodAll] at h

/-- THE ROW'S END: it returned true, and what it read reads as before. -/
theorem post_true {f : Func} {s : ChangeSpec} {w w' : World} {args : Array Value} {ds gs : List (DataW H)} {before : List MemPlace} {tb : TypeId} (hl : laidOutB P = true)
    (hr : ∀ t ∈ f.params.toList, P.readableRec t = true ∧ t < P.types.size) (ht : f.resultTypes = #[tb]) (hb : P.underlying tb = some .bool) (hv : s.vars = [])
    (hs : s.fn H ds = { results := [.lit (.bool true)], args := ds, vars := [] })
    (hW : DataW.Whole enc P f.params.toList s.vars false w args.toList ds gs before) (g : Grow w w' []) : s.post enc P f false true false false w args (.bool true) w' := by
  have hlt : ∀ p ∈ before, p.block < w.heap.size := fun p hp => hW.lt p hp
  have hW' := hW
  obtain ⟨p, q, h1, h2, e, _, _⟩ := hW'
  rw [hv] at h2
  obtain ⟨rfl, rfl⟩ := trodVars_none h2
  rw [List.append_nil] at e
  subst e
  have e : ds ++ ([] : List (DataW H)) = ds := List.append_nil _
  refine ⟨ds, [], before, [], before, [], hW, ?_, ?_, ?_, ⟨g.os, g.output, fun i hi => ?_⟩, fun h => by cases h⟩
  · rw [e, hs, ht]
    exact trodAll_mk1 (shut_bool hb true)
  · rw [e, hs]
    exact trodAll_stays hl hr h1 (fun x hx => g.same (hlt x hx)) (fun x hx => by simpa using hlt x hx)
  · rw [e, hs, hv]
    rfl
  · rw [g.heap i hi (by simp)]
    split <;> simp_all

/-- THE WALK OF A ROW: from the contract of the law. -/
theorem row_of {C : Checked} {L : List (Nat × Obj)} {k : Nat} {f : Func} {s : ChangeSpec} {us : List Ty} {tb : TypeId} (hl : laidOutB C.prog = true)
    (hr : (f.params.toList.all fun t => C.prog.readableRec t && decide (t < C.prog.types.size)) = true) (ht : f.resultTypes = #[tb]) (hb : C.prog.underlying tb = some .bool) (hv : s.vars = [])
    (hs : ∀ ds : List (DataW H), ds.length = us.length → s.fn H ds = { results := [.lit (.bool true)], args := ds, vars := [] })
    (hf : C.prog.funcs[k]? = some f) (hbd : f.body.isNone = false) (hn : us.length = f.params.toList.length) (htie : ∀ (j : Nat) (u : Ty) (t : TypeId), us[j]? = some u → f.params.toList[j]? = some t → Tie C.prog u t)
    (W : World) (args : Array Value) (ds gs : List (DataW H)) (before : List MemPlace) {base : Nat} (hval : ∀ (j : Nat) t v, f.params[j]? = some t → args[j]? = some v → Value.okWide C.prog W .any base t v)
    (hW : DataW.Whole enc C.prog f.params.toList s.vars false W args.toList ds gs before) (hz : (DataW.weightsEach C.prog (f.params.toList ++ s.plain.varTypes C.prog) (ds ++ gs)).all (· ≤ reachBytes) = true)
    (hL : Lies L W (fun b => b < W.heap.size)) (h : ∀ ys : List DV, ys.map DV.t = us → Contract C.prog L k (ys.map Arg.ro) ([.v ⟨.bool, true⟩], [])) :
    Calls C.prog k args W fun e W' => ∃ v, e = .returned v ∧ s.post enc C.prog f false true false false W args v W' := by
  have hW' := hW
  obtain ⟨p, q, h1, h2, _, _, _⟩ := hW'
  rw [hv] at h2
  obtain ⟨rfl, rfl⟩ := trodVars_none h2
  have hlen : ∀ {ts : List TypeId} {vs : List Value} {ds : List (DataW H)} {ps : List MemPlace}, DataW.TrodAll enc C.prog W 0 (fun _ => true) true ts vs ds ps → ds.length = ts.length := by
    intro ts
    induction ts with
    | nil => intro vs ds ps h; cases vs <;> cases ds <;> simp [DataW.TrodAll] at h <;> rfl
    | cons t ts ih =>
      intro vs ds ps h
      cases vs <;> cases ds <;> simp [DataW.TrodAll] at h
      obtain ⟨p, _, q, h2, _⟩ := h
      simp [ih h2]
  rw [List.append_nil] at hz
  have hz' : (DataW.weightsEach C.prog f.params.toList ds).all (· ≤ reachBytes) = true := by
    have : ∀ {ts us : List TypeId} {ds : List (DataW H)}, ds.length = ts.length → (DataW.weightsEach C.prog (ts ++ us) ds) = DataW.weightsEach C.prog ts ds := by
      intro ts
      induction ts with
      | nil => intro us ds h; cases ds <;> simp at h; cases us <;> rfl
      | cons t ts ih => intro us ds h; cases ds <;> simp at h; simp [DataW.weightsEach, ih h]
    rwa [this (hlen h1)] at hz
  obtain ⟨ys, hy, ha⟩ := opens_of hn htie (fun j t v h h' => hval j t v (by simpa using h) (by simpa using h')) h1 hz'
  have hc := h ys hy W _ _ _ hL ha List.nodup_nil (fun b hb => by cases hb) (fun b hb => hb)
  have hcall : Calls C.prog k args W (Did W (fun b => b < W.heap.size) (ys.map Arg.ro) args.toList [] ([.v ⟨.bool, true⟩], [])) := by
    have e : args.toList.toArray = args := by simp
    rw [e] at hc
    rcases hc with hc | ⟨v, w', h1, _⟩
    · exact hc.2
    · exfalso
      simp only [callFunc, Sem.run_bind, run_program, Result.andThen_ok, hf, hbd] at h1
      cases hnm : (f.name == "runtime.NumGoroutine") <;> rw [hnm] at h1 <;> simp [Sem.run_pure] at h1
  refine hcall.mono fun e W' hd => ?_
  obtain ⟨vs, F', G₁, G₂, rfl, hg, _, _, _, _, hres, _⟩ := hd
  match vs, hres with
  | [v], ⟨S1, S2, _, h3, _⟩ =>
    obtain ⟨cs, rfl, h4⟩ := h3
    have e1 : cs = [.bool true] := h4.1
    subst e1
    refine ⟨_, rfl, ?_⟩
    exact post_true hl (fun t ht => by simpa using List.all_eq_true.1 hr t ht) ht hb hv (hs ds (by rw [hlen h1, hn])) hW hg

end
end Go.Proofs.YtllcebmbaejlhaaDoor.Ab
