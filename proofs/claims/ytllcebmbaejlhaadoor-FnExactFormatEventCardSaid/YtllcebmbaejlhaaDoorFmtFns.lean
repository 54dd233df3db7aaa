/- Numbers as text. -/
import Derived.Test.YtllcebmbaejlhaaDoorEvFns
import Derived.Test.YtllcebmbaejlhaaDoorShelf
namespace Go.Proofs.YtllcebmbaejlhaaDoor.Ab
open Go

/-! ### The reference's FormatInt -/
def digs (m : Int) : List UInt8 := if m = 0 then [] else Lib.decDigits m.natAbs
def FInv (n : Int) (p : Int × List UInt8) : Prop := -9223372036854775808 ≤ p.1 ∧ p.1 ≤ 9223372036854775807 ∧ (0 ≤ n → 0 ≤ p.1) ∧ (n < 0 → p.1 ≤ 0) ∧ digs p.1 ++ p.2 = Lib.decDigits n.natAbs ∧ p.2.length ≤ 20

theorem nDigits_le : ∀ (k u : Nat), u < 10 ^ (k + 1) → Lib.nDigits u ≤ k + 1
  | 0, u, h => by rw [Lib.nDigits_small (by omega)]; omega
  | k + 1, u, h => by
    by_cases h1 : u < 10
    · rw [Lib.nDigits_small h1]; omega
    · rw [Lib.nDigits_big h1]
      have := nDigits_le k (u / 10) (by rw [Nat.pow_succ] at h; omega)
      omega

theorem decDigits_le {n : Int} (h0 : -9223372036854775808 ≤ n) (h1 : n ≤ 9223372036854775807) : (Lib.decDigits n.natAbs).length ≤ 20 := by
  rw [Lib.decDigits_length]
  exact nDigits_le 19 _ (by simp; omega)

theorem i64_range {n : Int} (h : IntKind.i64.wrap n = n) : -9223372036854775808 ≤ n ∧ n ≤ 9223372036854775807 := by
  simp only [IntKind.wrap, IntKind.bits, IntKind.signed] at h
  simp at h
  omega

theorem i64_wrap {n : Int} (h0 : -9223372036854775808 ≤ n) (h1 : n ≤ 9223372036854775807) : IntKind.i64.wrap n = n := by
  simp only [IntKind.wrap, IntKind.bits, IntKind.signed]
  simp
  omega

theorem u8_wrap {n : Int} (h0 : 0 ≤ n) (h1 : n ≤ 255) : IntKind.u8.wrap n = n := by
  simp only [IntKind.wrap, IntKind.bits, IntKind.signed]
  simp
  omega

theorem tmod_abs (m : Int) : (m.tmod 10).natAbs = m.natAbs % 10 := by
  rw [Int.natAbs_tmod]
  rfl

theorem tdiv_abs (m : Int) : (m.tdiv 10).natAbs = m.natAbs / 10 := by
  rw [Int.natAbs_tdiv]
  rfl

theorem digs_step (m : Int) (out : List UInt8) (hm : m ≠ 0) : digs (m.tdiv 10) ++ (UInt8.ofNat (48 + m.natAbs % 10) :: out) = digs m ++ out := by
  simp only [digs, hm, if_false]
  by_cases h : m.natAbs < 10
  · have e : m.tdiv 10 = 0 := by
      have := tdiv_abs m
      omega
    rw [e, Lib.decDigits_one h, if_pos rfl, Nat.mod_eq_of_lt h]
    rfl
  · have e : m.tdiv 10 ≠ 0 := by
      have := tdiv_abs m
      omega
    rw [if_neg e, tdiv_abs, show Lib.decDigits m.natAbs = Lib.decDigits (m.natAbs / 10) ++ [UInt8.ofNat (48 + m.natAbs % 10)] from by rw [Lib.decDigits, dif_neg h]]
    simp

theorem finv_step {n m : Int} {out : List UInt8} (hi : FInv n (m, out)) (h0 : -9223372036854775808 ≤ n) (h1 : n ≤ 9223372036854775807) (hm : m ≠ 0) : FInv n (m.tdiv 10, UInt8.ofNat (48 + m.natAbs % 10) :: out) ∧ (m.tdiv 10).natAbs < m.natAbs := by
  obtain ⟨a, b, c, d, e, f⟩ := hi
  simp only at a b c d e f
  have t := tdiv_abs m
  have s : (0 ≤ m → 0 ≤ m.tdiv 10) ∧ (m ≤ 0 → m.tdiv 10 ≤ 0) := ⟨fun h => Int.tdiv_nonneg h (by omega), fun h => by
    have := Int.tdiv_nonneg (a := -m) (b := 10) (by omega) (by omega)
    rw [Int.neg_tdiv] at this
    omega⟩
  have el : digs (m.tdiv 10) ++ (UInt8.ofNat (48 + m.natAbs % 10) :: out) = Lib.decDigits n.natAbs := by rw [digs_step m out hm, e]
  refine ⟨⟨by simp only; omega, by simp only; omega, fun h => s.1 (c h), fun h => s.2 (d h), el, ?_⟩, by omega⟩
  have := congrArg List.length el
  rw [List.length_append] at this
  have := decDigits_le h0 h1
  simp only at *
  omega

set_option maxRecDepth 100000 in
theorem spec_formatInt_s (n : Int) : SP 10 [.ro ⟨I, n⟩] ([.v ⟨.str, Lib.itoa n⟩], []) := spw md0 [] Tryd.func10 rfl fun hw A S Q hA hS hQ => by
  obtain ⟨hn, -⟩ : IntKind.i64.wrap n = n ∧ True := hw
  obtain ⟨h0, h1⟩ := i64_range hn
  unfold Runs
  cbv
  repeat' (first
    | (refine way_true (by assumption) ?_; cbv)
    | (refine way_false (by assumption) ?_; cbv)
    | (refine way_split (fun h => ?_) (fun h => ?_) <;> cbv))
  · refine hQ _ ?_
    have e : n = 0 := by rw [hA] at h; simpa [std] using h
    rw [e]
    simp [Lib.itoa, Lib.decDigits]
  · have hz : n ≠ 0 := by rw [hA] at h; simpa [std] using h
    refine ⟨[0, 3, 4], {p : Int × List UInt8 // FInv n p}, fun i => ⟨[(0, .val I i.1.1), (3, .val .str i.1.2), (4, .val .bool (A.lt n 0))], [], 100⟩, fun i => i.1.1.natAbs, ⟨(n, []), ?_⟩, rfl, fun i => ?_⟩
    · exact ⟨h0, h1, fun h => h, fun h => by simp only; omega, by simp [digs, hz], by simp⟩
    obtain ⟨⟨m, out⟩, hi⟩ := i
    have hl : out.length ≤ 20 := hi.2.2.2.2.2
    cbv
    repeat' (first
      | (refine And.intro (by rw [hA]; first | exact decide_eq_true (show 1 ≤ lim by decide) | exact decide_eq_true (show 1 + out.length ≤ lim by unfold lim; omega) | (simp [std]; done)) ?_; cbv)
      | (refine way_true (by assumption) ?_; cbv)
      | (refine way_false (by assumption) ?_; cbv)
      | (refine way_split (fun h => ?_) (fun h => ?_) <;> cbv))
    · rename_i h2
      have hm : m ≠ 0 := by rw [hA] at h2; simpa [std] using h2
      have hd : m.tmod 10 < 0 := by rw [hA] at h; simpa [std] using h
      obtain ⟨x, y⟩ := finv_step hi h0 h1 hm
      have t := tmod_abs m
      have r : IntKind.i64.wrap (m.tdiv 10) = m.tdiv 10 := i64_wrap x.1 x.2.1
      have e : IntKind.u8.wrap (IntKind.i64.wrap (48 + IntKind.i64.wrap (0 - m.tmod 10))) = ((48 + m.natAbs % 10 : Nat) : Int) := by
        rw [i64_wrap (n := 0 - _) (by omega) (by omega), i64_wrap (by omega) (by omega), u8_wrap (by omega) (by omega)]
        omega
      refine ⟨⟨(_, _), ?_⟩, rfl, ?_⟩
      · subst hA
        show FInv n (IntKind.i64.wrap (m.tdiv 10), UInt8.ofNat (IntKind.u8.wrap (IntKind.i64.wrap (48 + IntKind.i64.wrap (0 - m.tmod 10)))).toNat :: out)
        rw [e, r]
        exact x
      · subst hA
        show (IntKind.i64.wrap (m.tdiv 10)).natAbs < m.natAbs
        rw [r]
        exact y
    · rename_i h2
      have hm : m ≠ 0 := by rw [hA] at h2; simpa [std] using h2
      have hd : 0 ≤ m.tmod 10 := by rw [hA] at h; simpa [std] using h
      obtain ⟨x, y⟩ := finv_step hi h0 h1 hm
      have t := tmod_abs m
      have r : IntKind.i64.wrap (m.tdiv 10) = m.tdiv 10 := i64_wrap x.1 x.2.1
      have e : IntKind.u8.wrap (IntKind.i64.wrap (48 + m.tmod 10)) = ((48 + m.natAbs % 10 : Nat) : Int) := by
        rw [i64_wrap (by omega) (by omega), u8_wrap (by omega) (by omega)]
        omega
      refine ⟨⟨(_, _), ?_⟩, rfl, ?_⟩
      · subst hA
        show FInv n (IntKind.i64.wrap (m.tdiv 10), UInt8.ofNat (IntKind.u8.wrap (IntKind.i64.wrap (48 + m.tmod 10))).toNat :: out)
        rw [e, r]
        exact x
      · subst hA
        show (IntKind.i64.wrap (m.tdiv 10)).natAbs < m.natAbs
        rw [r]
        exact y
    all_goals
      rename_i h2
      have hm : m = 0 := by rw [hA] at h2; simpa [std] using h2
      have hd : out = Lib.decDigits n.natAbs := by have := hi.2.2.2.2.1; simpa [digs, hm] using this
      refine hQ _ ?_
      subst hA hd
    · have : n < 0 := by simpa [std] using h
      simp only [Lib.itoa, this, if_true]
      rfl
    · have : ¬ n < 0 := by simpa [std] using h
      simp only [Lib.itoa, this, if_false]
      rw [show n.natAbs = n.toNat by omega]

/-! ### The program's FormatInt: the library's Itoa, by the shelf's contract -/
theorem did_grow {w w' : World} {F : Nat → Prop} {ags : List Arg} {vals : List Value} {G : List Nat} {t : Ty} {x : t.den} {v : Value} {cs : List Value} (hg : Grow w w' []) (hv : v = toV t cs) (ho : Own w' F t t.own x cs []) (hF : ∀ b, F b → b < w.heap.size) (hm : MutsR w' F ags vals [] []) :
    Did w F ags vals G ([.v ⟨t, x⟩], []) (.returned v) w' :=
  ⟨[v], F, [], [], rfl, ⟨fun b hb hn => hg.heap b hb (by simp), hg.size, hg.os, hg.output⟩, fun _ h => h, fun b hb => ⟨Nat.lt_of_lt_of_le (hF b hb) hg.size, .inl hb⟩, List.nodup_nil, fun b hb => by simp at hb, ⟨[], [], rfl, ⟨cs, hv, ho⟩, rfl⟩, hm⟩

theorem grow_drew (w : World) (k : Nat) (os : Array Obj) : Grow w (Sort.grow (w.drewN k) os) [] := by
  refine ⟨fun b hb _ => ?_, ?_, rfl, rfl⟩
  · show (w.heap ++ os)[b]? = w.heap[b]?
    rw [Array.getElem?_append_left hb]
  · show w.heap.size ≤ (w.heap ++ os).size
    rw [Array.size_append]
    omega

theorem itoa_le {n : Int} (h0 : -9223372036854775808 ≤ n) (h1 : n ≤ 9223372036854775807) : (Lib.itoa n).length ≤ 21 := by
  have := decDigits_le h0 h1
  unfold Lib.itoa
  split
  · simp only [List.length_cons]; omega
  · rw [show n.toNat = n.natAbs by omega]; omega

theorem itoa_s (n : Int) : SP 22 [.ro ⟨I, n⟩] ([.v ⟨.str, Lib.itoa n⟩], []) := fun L hL => by
  intro w F vals G hl ha hnd hG hF
  obtain ⟨v1, rfl⟩ : ∃ v1, vals = [v1] := by
    have := ArgsR.length ha
    match vals, this with
    | [v1], _ => exact ⟨v1, rfl⟩
  obtain ⟨S1, G', _, ⟨_, cs, h1, hr⟩, _⟩ := ha
  obtain ⟨rfl, hw⟩ := hr
  obtain ⟨h0, h2⟩ := i64_range hw
  have ev : v1 = .int .i64 n := h1
  subst ev
  obtain ⟨g, e, fz, hg, hin⟩ := hL
  have htab : Lib.TabIs Tryd.prog w "internal/strconv.uint64pow10" .u64 Lib.pow10Tab := by
    show w.var? Tryd.prog "internal/strconv.uint64pow10" = _
    simp only [World.var?, hg, Option.bind_some, (hl _ hin).2]
  refine .inl ⟨⟨_, Tryd.func22, rfl, rfl⟩, (Tryd.strconv_Itoa n h0 h2 w htab).mono ?_⟩
  rintro e w' ⟨rfl, k, os, rfl⟩
  exact did_grow (t := .str) (cs := [.string ⟨(Lib.itoa n).toArray⟩]) (grow_drew _ _ _) rfl ⟨⟨rfl, Nat.le_trans (itoa_le h0 h2) (by decide)⟩, rfl⟩ hF ⟨rfl, rfl⟩

set_option maxRecDepth 100000 in
theorem formatInt_s (n : Int) : SP 15 [.ro ⟨I, n⟩] ([.v ⟨.str, Lib.itoa n⟩], []) := sp md0 [] Tryd.func15 rfl fun A S Q hA hS hQ => by
  have cItoa := itoa_s
  obtain ⟨it, hit⟩ : ∃ f, f = Lib.itoa := ⟨_, rfl⟩
  rw [← hS, ← hit] at cItoa
  rw [← hit] at hQ
  unfold Runs
  cbv
  refine ⟨_, cItoa _, ?_⟩
  cbv
  exact hQ _ rfl

/-! ### Operations as text -/
def fop (o : tOp.den) : List UInt8 :=
  if vop o then Lib.itoa (oCl o) ++ ([46] ++ (Lib.itoa (oSeq o) ++ (if oKind o = 2 then [32, 115, 119, 97, 112, 32] ++ (Lib.itoa (oObj o) ++ ([32] ++ (Lib.itoa (oOld o) ++ ([32] ++ Lib.itoa (oVal o)))))
    else [32, 119, 114, 105, 116, 101, 32] ++ (Lib.itoa (oObj o) ++ ([32] ++ Lib.itoa (oVal o)))))) else []

theorem ok2_lim {a b : Nat} (h : a + b ≤ 4294967296) : std.ok2 a b = true := decide_eq_true h
theorem ok_lim {a : Nat} (h : a ≤ 4294967296) : std.ok a = true := decide_eq_true h

theorem itoa_wf {n : Int} (h : IntKind.i64.wrap n = n) : (Lib.itoa n).length ≤ 21 := itoa_le (i64_range h).1 (i64_range h).2

theorem wfOp {o : tOp.den} (h : WfArgs [.ro ⟨tOp, o⟩]) : (Lib.itoa (oCl o)).length ≤ 21 ∧ (Lib.itoa (oSeq o)).length ≤ 21 ∧ (Lib.itoa (oObj o)).length ≤ 21 ∧ (Lib.itoa (oOld o)).length ≤ 21 ∧ (Lib.itoa (oVal o)).length ≤ 21 := by
  obtain ⟨⟨h1, h2, h3, h4, h5, h6⟩, -⟩ := h
  exact ⟨itoa_wf h1, itoa_wf h2, itoa_wf h4, itoa_wf h5, itoa_wf h6⟩

set_option maxRecDepth 100000 in
theorem formatOp_s (o : tOp.den) : SP 16 [.ro ⟨tOp, o⟩] ([.v ⟨.str, fop o⟩], []) := spw md0 [] Tryd.func16 rfl fun hw A S Q hA hS hQ => by
  have c1 := vop_s
  have c2 := formatInt_s
  obtain ⟨b1, b2, b3, b4, b5⟩ := wfOp hw
  obtain ⟨it, hit⟩ : ∃ f, f = Lib.itoa := ⟨_, rfl⟩
  obtain ⟨vo, hvo⟩ : ∃ f, f = vop := ⟨_, rfl⟩
  rw [← hS] at c1 c2
  rw [← hvo] at c1
  rw [← hit] at c2 b1 b2 b3 b4 b5
  clear hw
  unfold Runs
  cbv
  repeat' (first
    | (refine ⟨_, c1 _, ?_⟩; cbv)
    | (refine ⟨_, c2 _, ?_⟩; cbv)
    | (refine And.intro (by rw [hA]; refine ok2_lim ?_; simp [std]; omega) ?_; cbv)
    | (refine way_true (by assumption) ?_; cbv)
    | (refine way_false (by assumption) ?_; cbv)
    | (refine way_split (fun h => ?_) (fun h => ?_) <;> cbv))
  all_goals (refine hQ _ ?_; subst hA hit hvo; clear hQ c1 c2 hS; simp only [std] at *; simp_all [fop])

set_option maxRecDepth 100000 in
theorem spec_formatOp_s (o : tOp.den) : SP 11 [.ro ⟨tOp, o⟩] ([.v ⟨.str, fop o⟩], []) := spw md0 [] Tryd.func11 rfl fun hw A S Q hA hS hQ => by
  have c1 := spec_vop_s
  have c2 := spec_formatInt_s
  have hk : vop o = true → ¬ oKind o = 1 → oKind o = 2 := by
    intro h h1
    simp only [vop, Bool.and_eq_true, Bool.or_eq_true, decide_eq_true_eq] at h
    exact h.2.elim (fun h => absurd h.1 h1) (fun h => h.1)
  obtain ⟨b1, b2, b3, b4, b5⟩ := wfOp hw
  obtain ⟨it, hit⟩ : ∃ f, f = Lib.itoa := ⟨_, rfl⟩
  obtain ⟨vo, hvo⟩ : ∃ f, f = vop := ⟨_, rfl⟩
  rw [← hS] at c1 c2
  rw [← hvo] at c1 hk
  rw [← hit] at c2 b1 b2 b3 b4 b5
  clear hw
  unfold Runs
  cbv
  repeat' (first
    | (refine ⟨_, c1 _, ?_⟩; cbv)
    | (refine ⟨_, c2 _, ?_⟩; cbv)
    | (refine And.intro (by rw [hA]; refine ok2_lim ?_; simp [std]; omega) ?_; cbv)
    | (refine way_true (by assumption) ?_; cbv)
    | (refine way_false (by assumption) ?_; cbv)
    | (refine way_split (fun h => ?_) (fun h => ?_) <;> cbv))
  all_goals (refine hQ _ ?_; subst hA hit hvo; clear hQ c1 c2 hS; simp only [std] at *; simp_all [fop])

theorem fop_le {o : tOp.den} (h : Wf tOp o) : (fop o).length ≤ 200 := by
  obtain ⟨b1, b2, b3, b4, b5⟩ := wfOp ⟨h, trivial⟩
  unfold fop
  split
  · split <;> simp <;> omega
  · simp

/-! ### Events as text -/
def fld (e : tEvent.den) (c : UInt8) : List UInt8 := 32 :: Lib.itoa (if c = 115 then eServer e else if c = 111 then eOther e else eN e)
def fev (e : tEvent.den) : List UInt8 := if vevS e then uW (eKind e) ++ ((uF (eKind e)).flatMap (fld e) ++ (if eKind e = 1 then 32 :: fop (eOp e) else [])) else []

theorem fev_fld (f : UInt8 → List UInt8) (fs : List UInt8) {p : Nat} (h : p < fs.length) : (fs.take (p + 1)).flatMap f = (fs.take p).flatMap f ++ f (fs.getD p 0) := by
  rw [List.take_succ_eq_append_getElem h, List.flatMap_append, List.getD_eq_getElem?_getD, List.getElem?_eq_getElem h]
  simp

theorem fld_a (e : tEvent.den) {c : UInt8} (h : c = 115) : fld e c = 32 :: Lib.itoa (eServer e) := by simp only [fld, h, if_true]
theorem fld_b (e : tEvent.den) {c : UInt8} (h : c = 111) : fld e c = 32 :: Lib.itoa (eOther e) := by subst h; rfl
theorem fld_c (e : tEvent.den) {c : UInt8} (h1 : c ≠ 115) (h2 : c ≠ 111) : fld e c = 32 :: Lib.itoa (eN e) := by simp only [fld, if_neg h1, if_neg h2]

theorem evFld_le {e : tEvent.den} (h : Wf tEvent e) (c : UInt8) : (fld e c).length ≤ 22 := by
  obtain ⟨h1, h2, h3, h4, h5⟩ := h
  unfold fld
  have := itoa_wf (n := eServer e) h2
  have := itoa_wf (n := eOther e) h3
  have := itoa_wf (n := eN e) h4
  split
  · simp only [List.length_cons]; omega
  · split <;> simp only [List.length_cons] <;> omega

theorem flds_le {e : tEvent.den} (h : Wf tEvent e) : ∀ fs : List UInt8, (fs.flatMap (fld e)).length ≤ 22 * fs.length
  | [] => by simp
  | c :: fs => by
    have h1 := evFld_le h c
    have h2 := flds_le h fs
    simp only [List.flatMap_cons, List.length_append, List.length_cons]
    omega

theorem byte_eq {c : UInt8} {n : Nat} (h : std.eq (std.byte c) n = true) : c = UInt8.ofNat n := by
  have : (c.toNat : Int) = n := of_decide_eq_true h
  have e : c.toNat = n := by omega
  rw [← e, UInt8.ofNat_toNat]

theorem byte_ne {c : UInt8} {n : Nat} (h : std.eq (std.byte c) n = false) (hn : n < 256) : c ≠ UInt8.ofNat n := by
  intro e
  have h1 : ¬ (c.toNat : Int) = n := of_decide_eq_false h
  have h2 : (UInt8.ofNat n).toNat = n := by simp [Nat.mod_eq_of_lt hn]
  rw [e, h2] at h1
  exact h1 rfl

/-- A text that grows by a piece for each byte of another. -/
def SInv (fs w : List UInt8) (f : UInt8 → List UInt8) (q : Nat × List UInt8) : Prop := q.1 ≤ fs.length ∧ q.2 = w ++ (fs.take q.1).flatMap f

theorem sinv_step {fs w : List UInt8} {f : UInt8 → List UInt8} {p : Nat} {s x : List UInt8} (h : SInv fs w f (p, s)) (hp : p < fs.length) (hx : f (fs.getD p 0) = x) : SInv fs w f (p + 1, s ++ x) := by
  refine ⟨hp, ?_⟩
  have := h.2
  simp only at this ⊢
  rw [fev_fld _ _ hp, ← List.append_assoc, ← this, hx]

theorem sinv_len {fs w : List UInt8} {f : UInt8 → List UInt8} {p n m : Nat} {s : List UInt8} (h : SInv fs w f (p, s)) (h1 : w.length ≤ n) (h2 : ∀ p, ((fs.take p).flatMap f).length ≤ m) : s.length ≤ n + m := by
  have h3 : s = w ++ (fs.take p).flatMap f := h.2
  have := h2 p
  rw [h3, List.length_append]
  omega

theorem sinv_end {fs w : List UInt8} {f : UInt8 → List UInt8} {p : Nat} {s : List UInt8} (h : SInv fs w f (p, s)) (hp : ¬ p < fs.length) : s = w ++ fs.flatMap f := by
  have h3 : s = w ++ (fs.take p).flatMap f := h.2
  rw [h3, List.take_of_length_le (by omega)]

theorem within_cases {k : Int} (h : within k 1 16 = true) : k = 1 ∨ k = 2 ∨ k = 3 ∨ k = 4 ∨ k = 5 ∨ k = 6 ∨ k = 7 ∨ k = 8 ∨ k = 9 ∨ k = 10 ∨ k = 11 ∨ k = 12 ∨ k = 13 ∨ k = 14 ∨ k = 15 ∨ k = 16 := by
  have hk' : 1 ≤ k ∧ k ≤ 16 := by simpa [within] using h
  omega

theorem uF_facts (k : Int) : (uF k).length ≤ 3 ∧ (uW k).length ≤ 9 ∧ (∀ p, ((uF k).getD p 0).toNat < 128) := by
  have key : ∀ l : List UInt8, (l.all fun c => decide (c.toNat < 128)) = true → ∀ p, (l.getD p 0).toNat < 128 := by
    intro l h p
    by_cases hp : p < l.length
    · rw [List.getD_eq_getElem?_getD, List.getElem?_eq_getElem hp]
      simpa using List.all_eq_true.1 h _ (List.getElem_mem hp)
    · rw [List.getD_eq_getElem?_getD, List.getElem?_eq_none (by omega)]
      decide
  cases h : within k 1 16 with
  | false =>
    have e1 : uF k = [] := by simp [uF, h]
    have e2 : uW k = [] := by simp [uW, h]
    rw [e1, e2]
    exact ⟨by decide, by decide, key [] rfl⟩
  | true =>
    rcases within_cases h with h | h | h | h | h | h | h | h | h | h | h | h | h | h | h | h <;> subst h <;> exact ⟨by decide, by decide, key _ (by decide)⟩

set_option maxRecDepth 100000 in
theorem formatEvent_s (e : tEvent.den) : SP 6 [.ro ⟨tEvent, e⟩] ([.v ⟨.str, fev e⟩], []) := spw md0 [] Tryd.func6 rfl fun hw A S Q hA hS hQ => by
  have c1 := vevI_s
  rw [show vevI = vevS from funext vev_eq] at c1
  have c2 := formatInt_s
  have c3 := uses_s
  have c4 := formatOp_s
  have hwe : Wf tEvent e := hw.1
  obtain ⟨hlf, hlw, hasc⟩ := uF_facts (eKind e)
  have hln : ∀ p, (((uF (eKind e)).take p).flatMap (fld e)).length ≤ 66 := fun p => by
    have := flds_le hwe ((uF (eKind e)).take p)
    rw [List.length_take] at this
    omega
  have hop := fop_le (o := eOp e) hwe.2.2.2.2
  have b1 := itoa_wf (n := eServer e) hwe.2.1
  have b2 := itoa_wf (n := eOther e) hwe.2.2.1
  have b3 := itoa_wf (n := eN e) hwe.2.2.2.1
  obtain ⟨it, hit⟩ : ∃ f, f = Lib.itoa := ⟨_, rfl⟩
  obtain ⟨ve, hve⟩ : ∃ f, f = vevS := ⟨_, rfl⟩
  obtain ⟨uw, huw⟩ : ∃ f, f = uW := ⟨_, rfl⟩
  obtain ⟨uf, huf⟩ : ∃ f, f = uF := ⟨_, rfl⟩
  obtain ⟨fo, hfo⟩ : ∃ f, f = fop := ⟨_, rfl⟩
  rw [← hS] at c1 c2 c3 c4
  rw [← hve] at c1
  rw [← hit] at c2 b1 b2 b3
  rw [← huw, ← huf] at c3
  rw [← huw] at hlw
  rw [← huf] at hlf hasc hln
  rw [← hfo] at c4 hop
  clear hw
  unfold Runs
  cbv
  repeat' (first
    | (refine ⟨_, c1 _, ?_⟩; cbv)
    | (refine ⟨_, c3 _, ?_⟩; cbv)
    | (refine way_true (by assumption) ?_; cbv)
    | (refine way_false (by assumption) ?_; cbv)
    | (refine way_split (fun h => ?_) (fun h => ?_) <;> cbv))
  · refine hQ _ ?_
    subst hA hve
    have : vevS e = false := by simpa [std] using h
    simp [fev, this]
  · have hv : vevS e = true := by rw [hA, hve] at h; simpa [std] using h
    refine ⟨[1, 3, 18], {p : Nat × List UInt8 // SInv (uf (eKind e)) (uw (eKind e)) (fld e) p}, fun i => ⟨[(1, .addr ⟨100, [], none⟩ 0), (3, .val .str i.1.2), (18, .itr 101)], [(100, .own true tEvent e .sh []), (101, .iter (uf (eKind e)) i.1.1)], 102⟩,
      fun i => (uf (eKind e)).length - i.1.1, ⟨(0, uw (eKind e)), Nat.zero_le _, (List.append_nil _).symm⟩, rfl, fun i => ?_⟩
    obtain ⟨⟨p, s⟩, hi⟩ := i
    have hsl : s.length ≤ 75 := sinv_len hi hlw hln
    clear h
    cbv
    repeat' (first
      | (refine ⟨_, c2 _, ?_⟩; cbv)
      | (refine ⟨_, c4 _, ?_⟩; cbv)
      | (refine And.intro (by rw [hA]; first | exact decide_eq_true (hasc _) | (refine ok2_lim ?_; simp [std]; omega)) ?_; cbv)
      | (refine way_true (by assumption) ?_; cbv)
      | (refine way_false (by assumption) ?_; cbv)
      | (refine way_split (fun h => ?_) (fun h => ?_) <;> cbv))
    · rename_i h1
      have hp : p < (uf (eKind e)).length := by rw [hA] at h1; exact of_decide_eq_true h1
      have hc : (uf (eKind e)).getD p 0 = 115 := by rw [hA] at h; exact byte_eq h
      refine ⟨⟨(_, _), ?_⟩, rfl, ?_⟩
      · subst hA
        exact sinv_step hi hp ((fld_a e hc).trans (by rw [hit]; rfl))
      · subst hA
        exact Nat.sub_lt_sub_left hp (Nat.lt_succ_self p)
    · rename_i h1 h2
      have hp : p < (uf (eKind e)).length := by rw [hA] at h1; exact of_decide_eq_true h1
      have hc1 : (uf (eKind e)).getD p 0 ≠ 115 := by rw [hA] at h2; exact byte_ne h2 (by decide)
      have hc : (uf (eKind e)).getD p 0 = 111 := by rw [hA] at h; exact byte_eq h
      refine ⟨⟨(_, _), ?_⟩, rfl, ?_⟩
      · subst hA
        exact sinv_step hi hp ((fld_b e hc).trans (by rw [hit]; rfl))
      · subst hA
        exact Nat.sub_lt_sub_left hp (Nat.lt_succ_self p)
    · rename_i h1 h2
      have hp : p < (uf (eKind e)).length := by rw [hA] at h1; exact of_decide_eq_true h1
      have hc1 : (uf (eKind e)).getD p 0 ≠ 115 := by rw [hA] at h2; exact byte_ne h2 (by decide)
      have hc : (uf (eKind e)).getD p 0 ≠ 111 := by rw [hA] at h; exact byte_ne h (by decide)
      refine ⟨⟨(_, _), ?_⟩, rfl, ?_⟩
      · subst hA
        exact sinv_step hi hp ((fld_c e hc1 hc).trans (by rw [hit]; rfl))
      · subst hA
        exact Nat.sub_lt_sub_left hp (Nat.lt_succ_self p)
    all_goals
      rename_i h1
      have hs : s = uw (eKind e) ++ (uf (eKind e)).flatMap (fld e) := sinv_end hi (by rw [hA] at h1; exact of_decide_eq_false h1)
      refine hQ _ ?_
      subst hA hit hve huw huf hfo hs
    · have hk : eKind e = 1 := of_decide_eq_true h
      simp only [fev, hv, if_true, hk]
      simp [std]
    · have hk : ¬ eKind e = 1 := of_decide_eq_false h
      simp only [fev, hv, if_true, hk, if_false, List.append_nil]

end Go.Proofs.YtllcebmbaejlhaaDoor.Ab
