/- What single instructions of the machine come to, over typed cells. -/
import Derived.Test.YtllcebmbaejlhaaAbTy
import Derived.Laws.Slices
namespace Go.Proofs.Ytllcebmbaejlhaa.Ab
open Go

section
variable {P : Program} {w : World}

theorem cell_at {b j : Nat} {row : Array Value} {e : TypeId} {fz : Nat × Nat} (h : w.heap[b]? = some (.cells row e fz)) : w.cell? ⟨b, j, none⟩ = row[j]? := cell_of_row w b j row e fz h

theorem range_of {b o n : Nat} {row : Array Value} {e : TypeId} {fz : Nat × Nat} (h : w.heap[b]? = some (.cells row e fz)) : w.rangeAt b o (seg row o n) := fun j v hv => by
  rw [cell_at h]
  simp only [seg, List.getElem?_take, List.getElem?_drop, Array.getElem?_toList] at hv
  split at hv
  · exact hv
  · cases hv

theorem there_of {b o n : Nat} {row : Array Value} {e : TypeId} (h : w.heap[b]? = some (.cells row e (0, 0))) (hb : o + n ≤ row.size) : w.there b o n := fun j hj => by
  refine ⟨by rw [cell_at h]; simp; omega, ?_⟩
  simp [World.frozen?, h]

/-- The cells of a row from an offset on are replaced. -/
theorem setCell_heap {b o : Nat} {v : Value} {row : Array Value} {e : TypeId} {fz : Nat × Nat} (h : w.heap[b]? = some (.cells row e fz)) : (w.setCell ⟨b, o, none⟩ v).heap[b]? = some (.cells (row.setIfInBounds o v) e fz) := by
  simp [World.setCell, Array.getElem?_modify, h]

theorem setCells_poke : ∀ {cs : List Value} {w : World} {b o : Nat}, Poke w (w.setCells b o cs) b o cs
  | [], w, b, o => ⟨fun row e fz h _ => ⟨row, h, rfl, by simp [seg], fun _ _ => rfl⟩, fun _ _ => rfl, rfl, rfl, rfl⟩
  | v :: cs, w, b, o => by
    have ih := setCells_poke (cs := cs) (w := w.setCell ⟨b, o, none⟩ v) (b := b) (o := o + 1)
    have hsz : (w.setCell ⟨b, o, none⟩ v).heap.size = w.heap.size := by simp [World.setCell]
    refine ⟨fun row e fz h hb => ?_, fun b' hb => ?_, ?_, ?_, ?_⟩
    · simp only [List.length_cons] at hb
      obtain ⟨row', h1, h2, h3, h4⟩ := ih.cells _ _ _ (setCell_heap h) (by simp; omega)
      refine ⟨row', h1, by simpa using h2, ?_, fun j hj => ?_⟩
      · have h5 : row'[o]? = some v := by
          rw [h4 o (.inl (by omega))]
          simp [Array.getElem?_setIfInBounds]
          omega
        have : seg row' o (cs.length + 1) = v :: seg row' (o + 1) cs.length := by
          unfold seg
          have h6 : row'.toList.drop o = v :: row'.toList.drop (o + 1) := by
            rw [List.drop_eq_getElem_cons (by
              have := (Array.getElem?_eq_some_iff.1 h5).1
              simpa using this)]
            congr 1
            have := (Array.getElem?_eq_some_iff.1 h5).2
            simpa using this
          rw [h6, List.take_succ_cons]
        simp only [List.length_cons]
        rw [this, h3]
      · simp only [List.length_cons] at hj
        rw [h4 j (by omega)]
        simp only [Array.getElem?_setIfInBounds]
        rw [if_neg (by omega)]
    · have := ih.other b' hb
      rw [show w.setCells b o (v :: cs) = (w.setCell ⟨b, o, none⟩ v).setCells b (o + 1) cs from rfl, this]
      simp [World.setCell, Array.getElem?_modify, Ne.symm hb]
    · exact ih.size.trans hsz
    · exact ih.os
    · exact ih.output

theorem isAgg_run {t : Ty} {τ : TypeId} (h : Tie P t τ) : (isAgg τ).run P w = .ok t.isAgg w := by
  have key : ∀ d, P.underlying τ = some d → (isAgg τ).run P w = .ok (match d with | .struct _ | .array _ _ => true | _ => false) w := by
    intro d hd
    unfold isAgg
    rw [Sem.run_bind, run_underlying hd w]
    cases d <;> rfl
  cases t with
  | int k => exact key _ h.int
  | bool => exact key _ h.bool
  | str => exact key _ h.str
  | list u => obtain ⟨e, he, _⟩ := h.list; exact key _ he
  | arr n u => obtain ⟨e, he, _⟩ := h.arr; exact key _ he
  | agg u => obtain ⟨fs, he, _⟩ := h.agg; exact key _ he
  | prod a b => simp [Tie, tieB] at h

theorem sizeOf_run {t : Ty} {τ : TypeId} (h : Tie P t τ) : (sizeOf τ).run P w = .ok t.sz w := by
  obtain ⟨i⟩ := h.info
  simp [sizeOf, typeInfo, i.info, i.size]

theorem load_run {t : Ty} {τ : TypeId} (h : Tie P t τ) {b o : Nat} {row : Array Value} {e : TypeId} {fz : Nat × Nat} (hh : w.heap[b]? = some (.cells row e fz)) (hb : o + t.sz ≤ row.size) :
    (Instr.loadAt τ (.pointer (some ⟨b, o, none⟩))).run P w = .ok (toV t (seg row o t.sz)) w := by
  have hl : (seg row o t.sz).length = t.sz := seg_length hb
  cases ha : t.isAgg with
  | true =>
    have hc := run_loadCells_list (P := P) w ⟨b, o, none⟩ (seg row o t.sz) (fun j v hv => by rw [Addr.add_mid]; exact range_of hh j v hv)
    rw [hl] at hc
    simp only [Instr.loadAt, Instr.sureAddr, Sem.run_bind, Sem.run_pure, Result.andThen_ok, loadVar, isAgg_run h, ha, if_true, sizeOf_run h, hc, toV]
  | false =>
    have h1 : t.sz = 1 := by cases t <;> first | rfl | simp [Ty.isAgg] at ha | skip
                             simp [Tie, tieB] at h
    have hc : w.cell? ⟨b, o, none⟩ = some (row[o]'(by omega)) := by rw [cell_at hh]; simp
    have hs : seg row o 1 = [row[o]'(by omega)] := by
      unfold seg
      rw [List.drop_eq_getElem_cons (by simpa using (by omega : o < row.size))]
      simp
    simp [Instr.loadAt, Instr.sureAddr, loadVar, isAgg_run h, ha, hc, toV, h1, hs]

theorem store_run {t : Ty} {τ : TypeId} (h : Tie P t τ) {b o : Nat} {row : Array Value} {e : TypeId} (hh : w.heap[b]? = some (.cells row e (0, 0))) (hb : o + t.sz ≤ row.size) {cs : List Value} (hl : cs.length = t.sz) (h1 : ∀ v ∈ cs, v.oneCell' = true) :
    (Instr.storeAt τ (.pointer (some ⟨b, o, none⟩)) (toV t cs)).run P w = .ok () (w.setCells b o cs) := by
  have hp : ∀ a b, t ≠ .prod a b := by rintro a b rfl; simp [Tie, tieB] at h
  have ht := there_of (n := t.sz) hh hb
  rw [← hl] at ht
  have hst := run_storeCells_cells (P := P) b o cs 0 w (fun j hj => by simpa using (ht j hj).1) (fun j hj => by simpa using (ht j hj).2) h1
  simp only [Nat.add_zero] at hst
  simp [Instr.storeAt, Instr.sureAddr, storeVar, sizeOf_run h, toV_cells hl h1 hp, hl, hst]

theorem add_lit (b o n : Nat) : (⟨b, o, none⟩ : Addr).add n = ⟨b, o + n, none⟩ := Addr.add_mid b o n

theorem fieldAt_run {p : Ty} {τ : TypeId} (h : Tie P (.agg p) τ) {k : Nat} {u : Ty} (hk : p.fld k = some u) {b o : Nat} :
    (Instr.fieldAt τ (.pointer (some ⟨b, o, none⟩)) k).run P w = .ok (.pointer (some ⟨b, o + offF p k, none⟩)) w := by
  obtain ⟨fs, hfs, ht⟩ := h.agg
  obtain ⟨f, hf, ho, hu⟩ := ht.fld hk
  obtain ⟨i⟩ := hu.info
  have hz : u.sz ≠ 0 := Nat.ne_of_gt i.szpos
  have hf' : fs[k]? = some f := by simpa using hf
  simp [Instr.fieldAt, run_underlying hfs, hf', Instr.sureAddr, fieldPlace, sizeOf_run hu, hz, add_lit, ho]

theorem part_run {u : Ty} {τ : TypeId} (h : Tie P u τ) {cs : List Value} {off : Nat} (hl : off + u.sz ≤ cs.length) : (part τ cs.toArray off).run P w = .ok (toV u ((cs.drop off).take u.sz)) w := by
  cases ha : u.isAgg with
  | true =>
    simp only [part, Sem.run_bind, isAgg_run h, Result.andThen_ok, ha, if_true, sizeOf_run h, Sem.run_pure, toV]
    congr 2
    apply Array.ext'
    simp [List.extract]
  | false =>
    have h1 : u.sz = 1 := by cases u <;> first | rfl | simp [Ty.isAgg] at ha | skip
                             simp [Tie, tieB] at h
    have hlt : off < cs.length := by omega
    have hs : (cs.drop off).take 1 = [cs[off]] := by rw [List.drop_eq_getElem_cons hlt, List.take_succ_cons, List.take_zero]
    simp [part, isAgg_run h, ha, toV, h1, hs, hlt]

theorem field_run {p : Ty} {τ : TypeId} (h : Tie P (.agg p) τ) {k : Nat} {u : Ty} (hk : p.fld k = some u) {cs : List Value} (hl : cs.length = p.sz) :
    (Instr.field τ (toV (.agg p) cs) k).run P w = .ok (toV u ((cs.drop (offF p k)).take u.sz)) w := by
  obtain ⟨fs, hfs, ht⟩ := h.agg
  obtain ⟨f, hf, ho, hu⟩ := ht.fld hk
  have hf' : fs[k]? = some f := by simpa using hf
  have hle := fld_le hk
  have hp := part_run (w := w) hu (cs := cs) (off := offF p k) (by omega)
  simp only [Nat.zero_add] at ho
  simp [Instr.field, run_underlying hfs, hf', toV, Ty.isAgg, asAgg, ho, hp]

theorem indexStr_run {τ : TypeId} (h : Tie P .str τ) {s : List UInt8} {k : IntKind} {i : Int} (h0 : 0 ≤ i) (h1 : i < s.length) :
    (Instr.index τ (.string ⟨s.toArray⟩) (.int k i)).run P w = .ok (.int .u8 (s.getD i.toNat 0).toNat) w := by
  have hn : i.toNat < s.length := by omega
  have : (⟨s.toArray⟩ : ByteArray)[i.toNat]? = some (s[i.toNat]) := by
    have hb : i.toNat < (⟨s.toArray⟩ : ByteArray).size := by simpa [ByteArray.size] using hn
    rw [getElem?_pos (⟨s.toArray⟩ : ByteArray) i.toNat hb]
    rfl
  simp [Instr.index, asIntOf, run_underlying h.str, h0, this, List.getD, hn]

theorem indexArr_run {n : Nat} {u : Ty} {τ : TypeId} (h : Tie P (.arr n u) τ) {cs : List Value} (hl : cs.length = n * u.sz) {k : IntKind} {i : Int} (h0 : 0 ≤ i) (h1 : i < n) :
    (Instr.index τ (toV (.arr n u) cs) (.int k i)).run P w = .ok (toV u ((cs.drop (i.toNat * u.sz)).take u.sz)) w := by
  obtain ⟨e, he, hu⟩ := h.arr
  have hn : i.toNat + 1 ≤ n := by omega
  have hm : (i.toNat + 1) * u.sz ≤ n * u.sz := Nat.mul_le_mul_right _ hn
  rw [Nat.succ_mul] at hm
  have hp := part_run (w := w) hu (cs := cs) (off := i.toNat * u.sz) (by omega)
  simp [Instr.index, asIntOf, run_underlying he, toV, Ty.isAgg, h0, h1, sizeOf_run hu, hp]

theorem indexAt_run {u : Ty} {τ : TypeId} (h : Tie P (.list u) τ) {b off len cap : Nat} {k : IntKind} {i : Int} (h0 : 0 ≤ i) (h1 : i < len) :
    (Instr.indexAt τ (.slice (some ⟨b, off, none⟩) len cap) (.int k i)).run P w = .ok (.pointer (some ⟨b, off + i.toNat * u.sz, none⟩)) w := by
  obtain ⟨e, he, hu⟩ := h.list
  simp [Instr.indexAt, asIntOf, run_underlying he, h0, h1, sizeOf_run hu, add_lit]

theorem newVar_run {t : Ty} {τ : TypeId} {cs : List Value} (hl : cs.length = t.sz) (h1 : ∀ v ∈ cs, v.oneCell' = true) (hp : ∀ a b, t ≠ .prod a b) :
    (newVar τ (toV t cs)).run P w = .ok ⟨w.heap.size, 0, none⟩ { w with heap := w.heap.push (.cells cs.toArray τ (0, 0)) } := by
  simp [newVar, newRow, toV_cells hl h1 hp]

theorem Tie.noprod {t : Ty} {τ : TypeId} (h : Tie P t τ) : ∀ a b, t ≠ .prod a b := by rintro a b rfl; simp [Tie, tieB] at h

theorem alloc_run {t : Ty} {τ : TypeId} (h : Tie P t τ) : (Instr.alloc τ true (.tuple #[])).run P w = .ok (.pointer (some ⟨w.heap.size, 0, none⟩)) { w with heap := w.heap.push (.cells (zeros t).toArray τ (0, 0)) } := by
  obtain ⟨i⟩ := h.info
  have hz : i.z.cells = (zeros t).toArray := by rw [← i.cells]
  simp [Instr.alloc, zeroValue, typeInfo, i.info, i.zero, newVar, newRow, hz]

theorem box_run {t : Ty} {τ : TypeId} (h : Tie P t τ) {cs : List Value} (hl : cs.length = t.sz) (h1 : ∀ v ∈ cs, v.oneCell' = true) :
    (Instr.box τ (toV t cs)).run P w = .ok (.pointer (some ⟨w.heap.size, 0, none⟩)) { w with heap := w.heap.push (.cells cs.toArray τ (0, 0)) } := by
  simp [Instr.box, newVar_run hl h1 h.noprod]

/-! ### Literals -/
/-- The cells from 'o' on are replaced by 'cs'. -/
def lay (row : List Value) (o : Nat) (cs : List Value) : List Value := row.take o ++ (cs ++ row.drop (o + cs.length))

theorem lay_length {row : List Value} {o : Nat} {cs : List Value} (h : o + cs.length ≤ row.length) : (lay row o cs).length = row.length := by
  simp [lay]; omega

theorem foldl_set : ∀ (cs : List Value) (k : Nat) (row : Array Value) (o : Nat), o + k + cs.length ≤ row.size →
    (cs.zipIdx k).foldl (fun r (c, j) => r.setIfInBounds (o + j) c) row = (lay row.toList (o + k) cs).toArray
  | [], k, row, o, h => by simp [lay]
  | c :: cs, k, row, o, h => by
    simp only [List.length_cons] at h
    rw [List.zipIdx_cons, List.foldl_cons, foldl_set cs (k + 1) _ o (by simp; omega)]
    apply congrArg List.toArray
    apply List.ext_getElem?
    intro j
    have e : o + (k + 1) = o + k + 1 := by omega
    simp only [lay, e, Array.toList_setIfInBounds, List.length_cons]
    rw [List.getElem?_append, List.getElem?_append, List.getElem?_append, List.getElem?_append]
    simp only [List.length_take, List.length_set, List.getElem?_take, List.getElem?_drop, List.getElem?_set, Array.length_toList, List.length_cons]
    rw [Nat.min_eq_left (by omega), Nat.min_eq_left (by omega)]
    by_cases h1 : j < o + k
    · rw [if_pos (by omega), if_pos (by omega), if_pos h1, if_pos h1, if_neg (by omega)]
    · rw [if_neg h1]
      by_cases h2 : j = o + k
      · subst h2
        rw [if_pos (by omega), if_pos (by omega), if_pos rfl, if_pos (by omega), if_pos (by omega)]
        simp
      · rw [if_neg (by omega)]
        have e2 : j - (o + k) = (j - (o + k + 1)) + 1 := by omega
        by_cases h3 : j - (o + k + 1) < cs.length
        · rw [if_pos h3, if_pos (by omega), e2, List.getElem?_cons_succ]
        · rw [if_neg h3, if_neg (by omega), if_neg (by omega)]
          congr 1
          omega

theorem fill_step {place : Nat → Option (Nat × Nat)} {row : List Value} {i o n : Nat} {v : Value} {cs : List Value} {rest : List (Nat × Value)} (hp : place i = some (o, n)) (hv : v.cells = cs.toArray) (hn : cs.length = n) (hb : o + n ≤ row.length) :
    Instr.fill place row.toArray ((i, v) :: rest) = Instr.fill place (lay row o cs).toArray rest := by
  have h1 : ¬ (v.cells.size ≠ n) := by rw [hv]; simpa using hn
  have h2 : ¬ (o + v.cells.size > row.toArray.size) := by rw [hv]; simp; omega
  have hf := foldl_set cs 0 row.toArray o (by simp; omega)
  simp only [Nat.add_zero] at hf
  simp only [Instr.fill, hp, hv]
  have hs : cs.toArray.size = n := by simpa using hn
  simp only [hs, ne_eq, not_true, decide_false, Bool.false_or, gt_iff_lt, List.size_toArray, decide_eq_true_eq]
  rw [if_neg (by omega)]
  congr 1
  rw [← hf]
  rw [← Array.foldl_toList]
  rw [Array.toList_zipIdx]

theorem TieF.all : ∀ {t : Ty} {fs : List Field} {off : Nat}, TieF P t fs off → ∀ f ∈ fs, ∃ u, Tie P u f.type
  | .prod a b, fs, off, h => by
    simp only [TieF, tieB] at h
    split at h
    · rename_i f fs
      simp only [Bool.and_eq_true] at h
      intro g hg
      rcases List.mem_cons.1 hg with rfl | hg
      · exact ⟨a, h.1.2⟩
      · exact TieF.all (t := b) h.2 g hg
    · cases h
  | .int _, fs, off, h => TieF.all_leaf h (by intro a b h; cases h)
  | .bool, fs, off, h => TieF.all_leaf h (by intro a b h; cases h)
  | .str, fs, off, h => TieF.all_leaf h (by intro a b h; cases h)
  | .list _, fs, off, h => TieF.all_leaf h (by intro a b h; cases h)
  | .arr _ _, fs, off, h => TieF.all_leaf h (by intro a b h; cases h)
  | .agg _, fs, off, h => TieF.all_leaf h (by intro a b h; cases h)
  where
  TieF.all_leaf {t : Ty} {fs : List Field} {off : Nat} (h : TieF P t fs off) (ht : ∀ a b, t ≠ .prod a b) : ∀ f ∈ fs, ∃ u, Tie P u f.type := by
    obtain ⟨f, rfl, _, hu⟩ := TieF.one ht h
    intro g hg
    rw [List.mem_singleton.1 hg]
    exact ⟨t, hu⟩

def fsz (P : Program) (f : Field) : Nat := ((P.info? f.type).map (·.size)).getD 0

theorem fsz_tie {u : Ty} {f : Field} (h : Tie P u f.type) : fsz P f = u.sz := by
  obtain ⟨i⟩ := h.info
  simp [fsz, i.info, i.size]

theorem mapM_run {α β : Type} {g : α → Sem β} {k : α → β} : ∀ {l : List α}, (∀ a ∈ l, ∀ w : World, (g a).run P w = .ok (k a) w) → ∀ w : World, (l.mapM g).run P w = .ok (l.map k) w
  | [], _, w => by simp
  | a :: l, h, w => by
    rw [List.mapM_cons]
    simp [h a (by simp), mapM_run (l := l) (fun b hb => h b (List.mem_cons_of_mem _ hb))]

theorem places_run {p : Ty} {fs : Array Field} (h : TieF P p fs.toList 0) : (fs.mapM fun f : Field => (do pure (f.offset, ← sizeOf f.type) : Sem (Nat × Nat))).run P w = .ok (fs.map fun f : Field => (f.offset, fsz P f)) w := by
  rw [Array.mapM_eq_mapM_toList]
  have := mapM_run (P := P) (g := fun f : Field => (do pure (f.offset, ← sizeOf f.type) : Sem (Nat × Nat))) (k := fun f => (f.offset, fsz P f)) (l := fs.toList) (fun f hf w => by
    obtain ⟨u, hu⟩ := h.all f hf
    simp [sizeOf_run hu, fsz_tie hu]) w
  simp only [Sem.run_map, this, Result.andThen_ok]
  congr 1
  apply Array.ext'
  simp

theorem build_run {p : Ty} {τ : TypeId} (h : Tie P (.agg p) τ) {parts : Array (Nat × Value)} {cells : List Value}
    (hf : ∀ place : Nat → Option (Nat × Nat), (∀ k u, p.fld k = some u → place k = some (offF p k, u.sz)) → Instr.fill place (zeros p).toArray parts.toList = some cells.toArray) :
    (Instr.build τ parts).run P w = .ok (toV (.agg p) cells) w := by
  obtain ⟨fs, hfs, ht⟩ := h.agg
  obtain ⟨i⟩ := h.info
  have hz : i.z.cells = (zeros p).toArray := by
    have := i.cells
    simp only [zeros] at this
    rw [← this]
  have hfill := hf (fun k => (fs.map fun f : Field => (f.offset, fsz P f))[k]?) (fun k u hk => by
    obtain ⟨f, hf, ho, hu⟩ := ht.fld hk
    have hf' : fs[k]? = some f := by simpa using hf
    simp only [Nat.zero_add] at ho
    simp [hf', ho, fsz_tie hu])
  simp only [Instr.build, Sem.run_bind, zeroValue, typeInfo, run_program, Result.andThen_ok, i.info, Sem.run_pure, i.zero, run_underlying hfs, places_run ht, hz, hfill]
  rfl

theorem buildArr_run {n : Nat} {u : Ty} {τ : TypeId} (h : Tie P (.arr n u) τ) {parts : Array (Nat × Value)} {cells : List Value}
    (hf : Instr.fill (fun i => some (i * u.sz, u.sz)) (zeros (.arr n u)).toArray parts.toList = some cells.toArray) :
    (Instr.build τ parts).run P w = .ok (toV (.arr n u) cells) w := by
  obtain ⟨e, he, hu⟩ := h.arr
  obtain ⟨i⟩ := h.info
  have hz : i.z.cells = (zeros (.arr n u)).toArray := by rw [← i.cells]
  simp only [Instr.build, Sem.run_bind, zeroValue, typeInfo, run_program, Result.andThen_ok, i.info, Sem.run_pure, i.zero, run_underlying he, sizeOf_run hu, hz, hf]
  rfl

theorem flat_get {zs : List Value} (hz : 0 < zs.length) : ∀ (n j : Nat), j < n * zs.length → ((List.replicate n zs).flatten)[j]? = zs[j % zs.length]?
  | 0, j, h => by simp at h
  | n + 1, j, h => by
    rw [List.replicate_succ, List.flatten_cons, List.getElem?_append]
    split
    · rename_i hj; rw [Nat.mod_eq_of_lt hj]
    · rename_i hj
      rw [flat_get hz n (j - zs.length) (by rw [Nat.succ_mul] at h; omega)]
      congr 1
      rw [← Nat.mod_eq_sub_mod (by omega)]

theorem made_eq {z : Array Value} {zs : List Value} (hz : z.toList = zs) (h0 : 0 < zs.length) (n : Nat) : (Array.range (n * zs.length)).map (z[· % z.size]!) = ((List.replicate n zs).flatten).toArray := by
  apply Array.ext'
  apply List.ext_getElem?
  intro j
  have hs : z.size = zs.length := by rw [← hz]; simp
  by_cases hj : j < n * zs.length
  · rw [show (((List.replicate n zs).flatten).toArray.toList)[j]? = zs[j % zs.length]? from flat_get h0 n j hj]
    have hm : j % zs.length < zs.length := Nat.mod_lt _ h0
    have hm' : j % z.size < z.size := by rw [hs]; exact hm
    simp only [Array.toList_map, List.getElem?_map, Array.getElem?_toList, Array.getElem?_range, hj, if_true, Option.map_some]
    rw [getElem!_pos z _ hm']
    rw [show zs[j % zs.length]? = z[j % z.size]? by rw [← hz, Array.getElem?_toList, hs, ← hz]]
    simp [hm']
  · have : ((List.replicate n zs).flatten).length ≤ j := by simp; omega
    simp [hj, List.getElem?_eq_none this]

theorem buildSlice_run {n : Nat} {u : Ty} {τ : TypeId} (h : Tie P (.list u) τ) (hn : n * u.sz ≤ 16777216) {parts : Array (Nat × Value)} {cells : List Value}
    (hf : Instr.fill (fun i => some (i * u.sz, u.sz)) ((List.replicate n (zeros u)).flatten).toArray parts.toList = some cells.toArray) :
    ∃ e, (Instr.buildSlice τ n parts).run P w = .ok (.slice (some ⟨w.heap.size, 0, none⟩) n n) { w with heap := w.heap.push (.cells cells.toArray e (0, 0)) } := by
  obtain ⟨e, he, hu⟩ := h.list
  obtain ⟨i⟩ := hu.info
  have hmade := made_eq i.cells (by rw [zeros_length]; exact i.szpos) n
  rw [zeros_length] at hmade
  refine ⟨e, ?_⟩
  have h1 : ¬ (n * u.sz > 2 ^ 24) := by omega
  by_cases h0 : n * u.sz = 0
  · have hn0 : n = 0 := by
      rcases Nat.mul_eq_zero.1 h0 with h | h
      · exact h
      · exact absurd h (Nat.ne_of_gt i.szpos)
    subst hn0
    simp only [List.replicate_zero, List.flatten_nil] at hf
    have hr : Array.range 0 = #[] := rfl
    simp [Instr.buildSlice, run_underlying he, sizeOf_run hu, hr, hf, newRow]
  · simp only [Instr.buildSlice, Sem.run_bind, run_underlying he, Result.andThen_ok, sizeOf_run hu, if_neg h1, if_neg h0, Sem.run_pure, zeroValue, typeInfo, run_program, i.info, i.zero, hmade, hf, newRow, run_newObj]

theorem makeSlice_run {u : Ty} {τ : TypeId} (h : Tie P (.list u) τ) {n : Int} (h0 : 0 ≤ n) (hn : n.toNat ≤ lim) :
    ∃ e, (Instr.makeSlice τ (.int .i64 n) (.int .i64 n)).run P w = .ok (.slice (some ⟨w.heap.size, 0, none⟩) n.toNat n.toNat)
      { w with heap := w.heap.push (.cells ((List.replicate n.toNat (zeros u)).flatten).toArray e (0, 0)) } := by
  obtain ⟨e, he, hu⟩ := h.list
  obtain ⟨i⟩ := hu.info
  have hmade := made_eq i.cells (by rw [zeros_length]; exact i.szpos) n.toNat
  rw [zeros_length] at hmade
  simp only [lim] at hn
  have hb : (i.i.bytes : Int) * n ≤ 281474976710656 := by
    have h1 : (i.i.bytes : Int) ≤ 4096 := by have := i.bytes; omega
    calc (i.i.bytes : Int) * n ≤ 4096 * n := Int.mul_le_mul_of_nonneg_right h1 h0
      _ ≤ 281474976710656 := by omega
  have := run_make (P := P) w τ e i.i i.z he i.info i.zero .i64 .i64 n n h0 (Int.le_refl _) hb (by omega)
  refine ⟨e, this.trans ?_⟩
  rw [i.size, show madeCells i.z.cells (n.toNat * u.sz) = _ from hmade]
  rfl

theorem Src.empty {size : Nat} {tx e' : TypeId} (hk : P.underlying tx = some (.slice e')) (A : Option Addr) (c : Nat) : Src P size tx (.slice A 0 c) 0 [] w := by
  cases A with
  | none => exact Src.ofNil w hk c
  | some a => exact Src.ofSlice w hk a 0 c [] (by simp) (fun j u h => by simp at h) (fun _ h => by simp at h)

theorem Src.row {u : Ty} {τ : TypeId} (h : Tie P (.list u) τ) {b off n c : Nat} {row : Array Value} {e : TypeId} {fz : Nat × Nat} (hh : w.heap[b]? = some (.cells row e fz)) (hb : off + n * u.sz ≤ row.size)
    (h1 : ∀ v ∈ seg row off (n * u.sz), v.oneCell' = true) : Src P u.sz τ (.slice (some ⟨b, off, none⟩) n c) n (seg row off (n * u.sz)) w := by
  obtain ⟨e', he, _⟩ := h.list
  exact Src.ofSlice w he ⟨b, off, none⟩ n c _ (seg_length hb) (fun j v hv => by rw [add_lit]; exact range_of hh j v hv) h1

/-- There is room. -/
theorem append_room {u : Ty} {τ τx ty : TypeId} (h : Tie P (.list u) τ) {b off n cap k : Nat} {row : Array Value} {e : TypeId} {x : Value} {news : List Value} (hh : w.heap[b]? = some (.cells row e (0, 0))) (hb : off + cap * u.sz ≤ row.size)
    (hs : Src P u.sz τx x k news w) (hr : n + k ≤ cap) :
    (Builtin.append_ #[τ, τx] ty #[.slice (some ⟨b, off, none⟩) n cap, x]).run P w = .ok (.slice (some ⟨b, off, none⟩) (n + k) cap) (w.setCells b (off + n * u.sz) news) := by
  obtain ⟨e', he, hu⟩ := h.list
  obtain ⟨i⟩ := hu.info
  have hm : (n + k) * u.sz ≤ cap * u.sz := Nat.mul_le_mul_right _ hr
  rw [Nat.add_mul] at hm
  have ht := there_of (n := news.length) (o := off + n * u.sz) hh (by rw [hs.newsLen]; omega)
  have := run_append_room_src (P := P) w τ τx ty e' i.i he i.info b off n cap x k news (by rw [i.size]; exact hs) hr (by rw [i.size]; exact fun j hj => (ht j hj).1) (by rw [i.size]; exact fun j hj => (ht j hj).2)
  rw [i.size] at this
  exact this

/-- Nothing is appended to nothing. -/
theorem append_none {u : Ty} {τ τx ty : TypeId} (h : Tie P (.list u) τ) {A : Option Addr} {x : Value} (hs : Src P u.sz τx x 0 [] w) : (Builtin.append_ #[τ, τx] ty #[.slice A 0 0, x]).run P w = .ok (.slice A 0 0) w := by
  obtain ⟨e', he, hu⟩ := h.list
  obtain ⟨i⟩ := hu.info
  have hc := hs.cells
  rw [← i.size] at hc
  rcases hs.kind with ⟨e'', hk⟩ | hk <;> cases A with
  | none => simp [Builtin.append_, run_underlying he, run_underlying hk, sizeOf, typeInfo, i.info, hs.len, hc]
  | some a => simp [Builtin.append_, run_underlying he, run_underlying hk, sizeOf, typeInfo, i.info, hs.len, hc, storeCells]

/-- There is none. -/
theorem append_grow {u : Ty} {τ τx ty : TypeId} (h : Tie P (.list u) τ) {A : Option Addr} {n cap k : Nat} {olds : List Value} {x : Value} {news : List Value} (hold : (Builtin.firstCells u.sz n (.slice A n cap)).run P w.drew = .ok olds.toArray w.drew)
    (hol : olds.length = n * u.sz) (hs : Src P u.sz τx x k news w) (hr : ¬ n + k ≤ cap) (hl : n + k ≤ lim) :
    ∃ cap' row e, (Builtin.append_ #[τ, τx] ty #[.slice A n cap, x]).run P w = .ok (.slice (some ⟨w.heap.size, 0, none⟩) (n + k) cap') (w.drew.alloc (.cells row e)) ∧
      n + k ≤ cap' ∧ cap' * u.sz ≤ row.size ∧ seg row 0 ((n + k) * u.sz) = olds ++ news := by
  obtain ⟨e', he, hu⟩ := h.list
  obtain ⟨i⟩ := hu.info
  simp only [lim] at hl
  have hb : (n + k) * i.i.bytes ≤ 140737488355328 := by
    calc (n + k) * i.i.bytes ≤ 4294967296 * 4096 := Nat.mul_le_mul hl i.bytes
      _ ≤ 140737488355328 := by decide
  have hge := grownCap_ge w (n + k) cap e'
  have := run_append_grow_src (P := P) w τ τx ty e' i.i i.z he i.info i.zero A n cap olds (by rw [i.size]; exact hold) x k news (by rw [i.size]; exact hs) (by omega) (by omega) (growslice_fits (by omega) hb)
  have hzs : i.z.cells.size = u.sz := by
    have := congrArg List.length i.cells
    rw [zeros_length] at this
    simpa using this
  refine ⟨_, _, e', this, hge, ?_, ?_⟩
  · simp only [Array.size_append, List.size_toArray, List.length_append, size_zeroCells, hzs, hol, hs.newsLen]
    rw [← Nat.add_mul, ← Nat.add_mul]
    exact Nat.mul_le_mul_right _ (by omega)
  · unfold seg
    have hlen : (olds ++ news).length = (n + k) * u.sz := by rw [List.length_append, hol, hs.newsLen, Nat.add_mul]
    rw [← hlen]
    simp only [Array.toList_append, List.drop_zero]
    exact List.take_left

/-! ### Parts of slices and of strings -/
/-- A bound as it is given. -/
def Bd (v : Option Value) (d n : Nat) : Prop := (v = none ∧ n = d) ∨ ∃ k i, v = some (.int k i) ∧ 0 ≤ i ∧ i.toNat = n

theorem bound_run {k : IntKind} {i : Int} {y : Nat} {c : BoundsCode} (h0 : 0 ≤ i) (h1 : i.toNat ≤ y) : (Instr.sliceBound (.int k i) y c).run P w = .ok i.toNat w := run_sliceBound (P := P) (w := w) k i y c h0 (by omega)

theorem bounds_run {sl : Bool} {len cap l h : Nat} {lo hi : Option Value} (hlo : Bd lo 0 l) (hhi : Bd hi len h) (hlh : l ≤ h) (hc : h ≤ cap) : (Instr.sliceBounds sl len cap lo hi none).run P w = .ok (l, h, cap) w := by
  rcases hlo with ⟨rfl, rfl⟩ | ⟨k, i, rfl, h0, rfl⟩ <;> rcases hhi with ⟨rfl, rfl⟩ | ⟨k', i', rfl, h0', rfl⟩
  · simp [Instr.sliceBounds]
  · simp [Instr.sliceBounds, bound_run h0' hc]
  · simp [Instr.sliceBounds, bound_run h0 hlh]
  · simp [Instr.sliceBounds, bound_run h0' hc, bound_run h0 hlh]

theorem sliceL_run {u : Ty} {τ : TypeId} (ht : Tie P (.list u) τ) {A : Option Addr} {len cap l h : Nat} {lo hi : Option Value} (hlo : Bd lo 0 l) (hhi : Bd hi len h) (hlh : l ≤ h) (hc : h ≤ cap) :
    (Instr.sliceAt τ (.slice A len cap) lo hi none).run P w = .ok (.slice (if cap = l then A else A.map (·.add (l * u.sz))) (h - l) (cap - l)) w := by
  obtain ⟨e, he, hu⟩ := ht.list
  simp [Instr.sliceAt, Instr.slice, run_underlying he, bounds_run hlo hhi hlh hc, sizeOf_run hu]

/-- The part of no elements and of no room. -/
theorem slice0_run {u : Ty} {τ : TypeId} (ht : Tie P (.list u) τ) {A : Option Addr} {len cap : Nat} {lo hi : Option Value} {k k' : IntKind} (hlo : Bd lo 0 0) (hhi : hi = some (.int k 0)) :
    (Instr.sliceAt τ (.slice A len cap) lo hi (some (.int k' 0))).run P w = .ok (.slice A 0 0) w := by
  obtain ⟨e, he, hu⟩ := ht.list
  subst hhi
  have h1 : ∀ (k : IntKind) (y : Nat) (c : BoundsCode), (Instr.sliceBound (.int k 0) y c).run P w = .ok 0 w := fun k y c => bound_run (i := 0) (Int.le_refl _) (Nat.zero_le _)
  rcases hlo with ⟨rfl, _⟩ | ⟨k, i, rfl, h0, h0'⟩
  · simp [Instr.sliceAt, Instr.slice, run_underlying he, Instr.sliceBounds, h1, sizeOf_run hu]
  · have : i = 0 := by omega
    subst this
    simp [Instr.sliceAt, Instr.slice, run_underlying he, Instr.sliceBounds, h1, sizeOf_run hu]

theorem sliceS_run {τ : TypeId} (ht : Tie P .str τ) {s : List UInt8} {l h : Nat} {lo hi : Option Value} (hlo : Bd lo 0 l) (hhi : Bd hi s.length h) (hlh : l ≤ h) (hc : h ≤ s.length) :
    (Instr.sliceAt τ (.string ⟨s.toArray⟩) lo hi none).run P w = .ok (.string ⟨((s.take h).drop l).toArray⟩) w := by
  have hb := bounds_run (P := P) (w := w) (sl := false) (len := s.length) (cap := s.length) hlo hhi hlh hc
  have hsz : (⟨s.toArray⟩ : ByteArray).size = s.length := by simp [ByteArray.size]
  have hx : (⟨s.toArray⟩ : ByteArray).extract l h = ⟨((s.take h).drop l).toArray⟩ := by
    apply ByteArray.ext
    rw [ByteArray.data_extract]
    apply Array.ext'
    simp [List.extract, List.drop_take]
  simp [Instr.sliceAt, Instr.slice, run_underlying ht.str, hsz, hb, hx]

end
end Go.Proofs.Ytllcebmbaejlhaa.Ab
