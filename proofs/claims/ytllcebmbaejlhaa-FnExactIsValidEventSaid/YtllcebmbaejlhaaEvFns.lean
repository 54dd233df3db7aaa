/- Events: what the program's and the reference's functions on events compute. -/
import Derived.Test.YtllcebmbaejlhaaAbBase
namespace Go.Proofs.Ytllcebmbaejlhaa.Ab
open Go

def within (n lo hi : Int) : Bool := decide (lo ≤ n) && decide (n ≤ hi)

theorem within_s (n lo hi : Int) : SP 12 [.ro ⟨I, n⟩, .ro ⟨I, lo⟩, .ro ⟨I, hi⟩] ([.v ⟨.bool, within n lo hi⟩], []) := sp md0 [] Try.func12 rfl fun A S Q hA hS hQ => by
  unfold Runs
  cbv
  all_goals (refine way_split (fun h => ?_) (fun h => ?_) <;> cbv)
  all_goals (refine hQ _ ?_; subst hA; simp only [std] at h ⊢; simp [within, h])

theorem l1In_s (n lo hi : Int) : SP 7 [.ro ⟨I, n⟩, .ro ⟨I, lo⟩, .ro ⟨I, hi⟩] ([.v ⟨.bool, within n lo hi⟩], []) := sp md0 [] Try.func7 rfl fun A S Q hA hS hQ => by
  unfold Runs
  cbv
  all_goals (refine way_split (fun h => ?_) (fun h => ?_) <;> cbv)
  all_goals (refine hQ _ ?_; subst hA; simp only [std] at h ⊢; simp [within, h])


abbrev oCl (o : tOp.den) : Int := o.1
abbrev oSeq (o : tOp.den) : Int := o.2.1
abbrev oKind (o : tOp.den) : Int := o.2.2.1
abbrev oObj (o : tOp.den) : Int := o.2.2.2.1
abbrev oOld (o : tOp.den) : Int := o.2.2.2.2.1
abbrev oVal (o : tOp.den) : Int := o.2.2.2.2.2

def vop (o : tOp.den) : Bool := within (oCl o) 0 2 && within (oSeq o) 1 99 && within (oObj o) 0 2 && within (oVal o) 0 9 &&
  ((decide (oKind o = 1) && decide (oOld o = 0)) || (decide (oKind o = 2) && within (oOld o) 0 9))

set_option maxRecDepth 100000 in
theorem vop_s (o : tOp.den) : SP 14 [.ro ⟨tOp, o⟩] ([.v ⟨.bool, vop o⟩], []) := sp md0 [] Try.func14 rfl fun A S Q hA hS hQ => by
  have c12 := within_s
  obtain ⟨wi, hwi⟩ : ∃ f, f = within := ⟨_, rfl⟩
  rw [← hS, ← hwi] at c12
  unfold Runs
  cbv
  repeat' (first
    | (refine ⟨_, c12 _ _ _, ?_⟩; cbv)
    | (refine way_true (by assumption) ?_; cbv)
    | (refine way_false (by assumption) ?_; cbv)
    | (refine way_split (fun h => ?_) (fun h => ?_) <;> cbv))
  all_goals (refine hQ _ ?_; subst hA hwi; clear hQ c12 hS; simp only [std] at *; simp_all [vop])

set_option maxRecDepth 100000 in
theorem spec_vop_s (o : tOp.den) : SP 9 [.ro ⟨tOp, o⟩] ([.v ⟨.bool, vop o⟩], []) := sp md0 [] Try.func9 rfl fun A S Q hA hS hQ => by
  have c7 := l1In_s
  obtain ⟨wi, hwi⟩ : ∃ f, f = within := ⟨_, rfl⟩
  rw [← hS, ← hwi] at c7
  unfold Runs
  cbv
  repeat' (first
    | (refine ⟨_, c7 _ _ _, ?_⟩; cbv)
    | (refine way_true (by assumption) ?_; cbv)
    | (refine way_false (by assumption) ?_; cbv)
    | (refine way_split (fun h => ?_) (fun h => ?_) <;> cbv))
  all_goals (refine hQ _ ?_; subst hA hwi; clear hQ c7 hS; simp only [std] at *; simp_all [vop])


theorem toOp_s (o : tOp.den) : SP 10 [.ro ⟨tOp, o⟩] ([.v ⟨tOp, o⟩], []) := sp md0 [] Try.func10 rfl fun A S Q hA hS hQ => by
  unfold Runs
  cbv
  exact hQ _ rfl

def uA (k : Int) : Bool := decide (k = 1) || decide (k = 6) || decide (k = 7) || decide (k = 8) || decide (k = 13) || decide (k = 14) || decide (k = 15) || decide (k = 2) || decide (k = 3) || decide (k = 9) || decide (k = 12)
def uB (k : Int) : Bool := decide (k = 4) || decide (k = 12) || decide (k = 16)
def uN (k : Int) : Bool := decide (k = 2) || decide (k = 3) || decide (k = 9) || decide (k = 4) || decide (k = 10) || decide (k = 11) || decide (k = 12) || decide (k = 16)

set_option maxRecDepth 100000 in
theorem l30Uses_s (k : Int) : SP 8 [.ro ⟨I, k⟩] ([.v ⟨.bool, uA k⟩, .v ⟨.bool, uB k⟩, .v ⟨.bool, uN k⟩], []) := sp md0 [] Try.func8 rfl fun A S Q hA hS hQ => by
  unfold Runs
  cbv
  repeat' (first
    | (refine way_true (by assumption) ?_; cbv)
    | (refine way_false (by assumption) ?_; cbv)
    | (refine way_split (fun h => ?_) (fun h => ?_) <;> cbv))
  all_goals (refine hQ _ ?_; subst hA; clear hQ hS; simp only [std] at *; simp_all [uA, uB, uN])

def uW (k : Int) : List UInt8 := if within k 1 16 then List.getD [[111, 112], [114, 101, 97, 100], [108, 101, 97, 115, 101], [112, 114, 111, 112, 111, 115, 101],
  [97, 99, 116, 105, 118, 97, 116, 101], [99, 114, 97, 115, 104], [114, 101, 115, 116, 97, 114, 116], [119, 105, 112, 101], [115, 105, 100, 101],
  [109, 97, 115, 116, 101, 114, 115], [116, 105, 109, 101], [108, 101, 97, 114, 110], [117, 112, 103, 114, 97, 100, 101], [100, 111, 119, 110, 103, 114, 97, 100, 101],
  [115, 119, 105, 116, 99, 104], [114, 101, 112, 97, 105, 114]] (k - 1).toNat [] else []
def uF (k : Int) : List UInt8 := if within k 1 16 then List.getD [[115], [115, 110], [115, 110], [111, 110], [], [115], [115], [115], [115, 110], [110], [110], [115, 111, 110], [115], [115], [115], [111, 110]] (k - 1).toNat [] else []

theorem wrap_small {n : Int} (h0 : -4611686018427387904 ≤ n) (h1 : n ≤ 4611686018427387904) : IntKind.i64.wrap n = n := by
  simp only [IntKind.wrap, IntKind.bits, IntKind.signed]
  simp
  omega

set_option maxRecDepth 100000 in
theorem uses_s (k : Int) : SP 11 [.ro ⟨I, k⟩] ([.v ⟨.str, uW k⟩, .v ⟨.str, uF k⟩], []) := sp md0 [] Try.func11 rfl fun A S Q hA hS hQ => by
  have c12 := within_s
  obtain ⟨wi, hwi⟩ : ∃ f, f = within := ⟨_, rfl⟩
  rw [← hS, ← hwi] at c12
  unfold Runs
  cbv
  repeat' (first
    | (refine ⟨_, c12 _ _ _, ?_⟩; cbv)
    | (refine way_true (by assumption) ?_; cbv)
    | (refine way_false (by assumption) ?_; cbv)
    | (refine way_split (fun h => ?_) (fun h => ?_) <;> cbv))
  · refine hQ _ ?_; subst hA hwi; clear hQ c12 hS; simp only [std] at *; simp_all [uW, uF]
  · subst hA hwi; clear c12 hS
    have hk : within k 1 16 = true := by simpa [std] using h
    have hk' : 1 ≤ k ∧ k ≤ 16 := by simpa [within] using hk
    have hw : IntKind.i64.wrap (k - 1) = k - 1 := wrap_small (by omega) (by omega)
    have hb : std.all (std.le 0 (std.wr IntKind.i64 (std.sub k 1))) (std.lt (std.wr IntKind.i64 (std.sub k 1)) (std.int 16)) = true := by
      simp only [std, hw]
      simp
      omega
    refine ⟨hb, hb, hQ _ ?_⟩
    simp only [std, hw, uW, uF, hk, if_true]
    rfl

theorem indexByte_s (s : List UInt8) (c : Int) : SP 21 [.ro ⟨.str, s⟩, .ro ⟨.int .u8, c⟩] ([.v ⟨I, idxB s c⟩], []) := fun _ _ => indexByte_c Try.func21 rfl rfl rfl rfl s c

set_option maxRecDepth 100000 in
theorem sliteIndexByte_s (s : List UInt8) (c : Int) : SP 17 [.ro ⟨.str, s⟩, .ro ⟨.int .u8, c⟩] ([.v ⟨I, idxB s c⟩], []) := sp md0 [] Try.func17 rfl fun A S Q hA hS hQ => by
  have c21 := indexByte_s
  obtain ⟨ix, hix⟩ : ∃ f, f = idxB := ⟨_, rfl⟩
  rw [← hS, ← hix] at c21
  rw [← hix] at hQ
  unfold Runs
  cbv
  repeat' (first
    | (refine ⟨_, c21 _ _, ?_⟩; cbv))
  exact hQ _ rfl

set_option maxRecDepth 100000 in
theorem sliteIndex_s (s : List UInt8) (c : UInt8) : SP 16 [.ro ⟨.str, s⟩, .ro ⟨.str, [c]⟩] ([.v ⟨I, idxB s c.toNat⟩], []) := sp md0 [] Try.func16 rfl fun A S Q hA hS hQ => by
  have c17 := sliteIndexByte_s
  obtain ⟨ix, hix⟩ : ∃ f, f = idxB := ⟨_, rfl⟩
  rw [← hS, ← hix] at c17
  rw [← hix] at hQ
  unfold Runs
  cbv
  repeat' (first
    | (refine ⟨_, c17 _ _, ?_⟩; cbv)
    | (refine way_true (by assumption) ?_; cbv)
    | (refine way_false (by assumption) ?_; cbv)
    | (refine way_split (fun h => ?_) (fun h => ?_) <;> first | (exfalso; subst hA; simp [std] at h; done) | cbv))
  · refine hQ _ ?_
    subst hA hix
    clear hQ c17 hS
    have e : [c] = s := by simpa [std] using h
    subst e
    have : idxB [c] c.toNat = 0 := by simp [idxB, List.range_succ]
    rw [this]
  · refine ⟨by rw [hA]; simp [std], ?_⟩
    refine ⟨_, c17 _ _, ?_⟩
    cbv
    refine hQ _ ?_
    rw [hA]
    rfl

theorem idxB_nonneg (s : List UInt8) (c : UInt8) : decide (0 ≤ idxB s c.toNat) = s.contains c := by
  unfold idxB
  cases h : (List.range s.length).find? fun i => s.getD i 0 == UInt8.ofNat (c.toNat : Int).toNat with
  | some i =>
    have h1 := List.mem_of_find?_eq_some h
    have h2 := List.find?_some h
    rw [List.mem_range] at h1
    simp only [Int.toNat_natCast, UInt8.ofNat_toNat, List.getD, List.getElem?_eq_getElem h1, Option.getD_some, beq_iff_eq] at h2
    have : s.contains c = true := by
      rw [List.contains_iff_mem, ← h2]
      exact List.getElem_mem h1
    rw [this]
    simp
  | none =>
    have : s.contains c = false := by
      cases hc : s.contains c with
      | false => rfl
      | true =>
        rw [List.contains_iff_mem] at hc
        obtain ⟨i, hi, e⟩ := List.getElem_of_mem hc
        have := List.find?_eq_none.1 h i (List.mem_range.2 hi)
        simp [List.getD, List.getElem?_eq_getElem hi, e] at this
    rw [this]
    simp

set_option maxRecDepth 100000 in
theorem index_s (s : List UInt8) (c : UInt8) : SP 15 [.ro ⟨.str, s⟩, .ro ⟨.str, [c]⟩] ([.v ⟨I, idxB s c.toNat⟩], []) := sp md0 [] Try.func15 rfl fun A S Q hA hS hQ => by
  have c16 := sliteIndex_s
  obtain ⟨ix, hix⟩ : ∃ f, f = idxB := ⟨_, rfl⟩
  rw [← hS, ← hix] at c16
  rw [← hix] at hQ
  unfold Runs
  cbv
  repeat' (first
    | (refine ⟨_, c16 _ _, ?_⟩; cbv))
  exact hQ _ rfl

set_option maxRecDepth 100000 in
theorem contains_s (s : List UInt8) (c : UInt8) : SP 13 [.ro ⟨.str, s⟩, .ro ⟨.str, [c]⟩] ([.v ⟨.bool, s.contains c⟩], []) := sp md0 [] Try.func13 rfl fun A S Q hA hS hQ => by
  have c15 := index_s
  have hc := idxB_nonneg
  obtain ⟨ix, hix⟩ : ∃ f, f = idxB := ⟨_, rfl⟩
  rw [← hS, ← hix] at c15
  rw [← hix] at hc
  unfold Runs
  cbv
  repeat' (first
    | (refine ⟨_, c15 _ _, ?_⟩; cbv))
  refine hQ _ ?_
  rw [← hc, hA]
  rfl

/-! ### Events -/
abbrev eKind (e : tEvent.den) : Int := e.1
abbrev eServer (e : tEvent.den) : Int := e.2.1
abbrev eOther (e : tEvent.den) : Int := e.2.2.1
abbrev eN (e : tEvent.den) : Int := e.2.2.2.1
abbrev eOp (e : tEvent.den) : tOp.den := e.2.2.2.2

set_option maxRecDepth 100000 in
theorem toEvent_s (e : tEvent.den) : SP 5 [.ro ⟨tEvent, e⟩] ([.v ⟨tEvent, e⟩], []) := sp md0 [] Try.func5 rfl fun A S Q hA hS hQ => by
  have c10 := toOp_s
  rw [← hS] at c10
  unfold Runs
  cbv
  repeat' (first
    | (refine ⟨_, c10 _, ?_⟩; cbv))
  exact hQ _ rfl

def noOp (o : tOp.den) : Bool := decide (oCl o = 0) && (decide (oSeq o = 0) && (decide (oKind o = 0) && (decide (oObj o = 0) && (decide (oOld o = 0) && decide (oVal o = 0)))))

/-- The reference. -/
def vevS (e : tEvent.den) : Bool := within (eKind e) 1 16 && within (eServer e) 0 4 && within (eOther e) 0 4 && within (eN e) 0 999 &&
  !((!uA (eKind e) && !decide (eServer e = 0)) || (!uB (eKind e) && !decide (eOther e = 0)) || (!uN (eKind e) && !decide (eN e = 0))) &&
  (if eKind e = 1 then vop (eOp e) else noOp (eOp e))

set_option maxRecDepth 100000 in
theorem vevS_s (e : tEvent.den) : SP 4 [.ro ⟨tEvent, e⟩] ([.v ⟨.bool, vevS e⟩], []) := sp md0 [] Try.func4 rfl fun A S Q hA hS hQ => by
  have c7 := l1In_s
  have c8 := l30Uses_s
  have c9 := spec_vop_s
  obtain ⟨wi, hwi⟩ : ∃ f, f = within := ⟨_, rfl⟩
  obtain ⟨a, ha⟩ : ∃ f, f = uA := ⟨_, rfl⟩
  obtain ⟨b, hb⟩ : ∃ f, f = uB := ⟨_, rfl⟩
  obtain ⟨n, hn⟩ : ∃ f, f = uN := ⟨_, rfl⟩
  obtain ⟨vo, hvo⟩ : ∃ f, f = vop := ⟨_, rfl⟩
  rw [← hS] at c7 c8 c9
  rw [← hwi] at c7
  rw [← ha, ← hb, ← hn] at c8
  rw [← hvo] at c9
  unfold Runs
  cbv
  repeat' (first
    | (refine ⟨_, c7 _ _ _, ?_⟩; cbv)
    | (refine ⟨_, c8 _, ?_⟩; cbv)
    | (refine ⟨_, c9 _, ?_⟩; cbv)
    | (refine way_true (by assumption) ?_; cbv)
    | (refine way_false (by assumption) ?_; cbv)
    | (refine way_split (fun h => ?_) (fun h => ?_) <;> cbv))
  all_goals (refine hQ _ ?_; subst hA hwi ha hb hn hvo; clear hQ c7 c8 c9 hS; simp only [std] at *; simp_all [vevS, Ty.deq, ieq, noOp])

/-- The program. -/
def vevI (e : tEvent.den) : Bool := !decide (uW (eKind e) = []) && within (eServer e) 0 4 && within (eOther e) 0 4 && within (eN e) 0 999 &&
  !((!decide (eServer e = 0) && !(uF (eKind e)).contains 115) || (!decide (eOther e = 0) && !(uF (eKind e)).contains 111) || (!decide (eN e = 0) && !(uF (eKind e)).contains 110)) &&
  (if eKind e = 1 then vop (eOp e) else noOp (eOp e))

set_option maxRecDepth 100000 in
theorem vevI_s (e : tEvent.den) : SP 6 [.ro ⟨tEvent, e⟩] ([.v ⟨.bool, vevI e⟩], []) := sp md0 [] Try.func6 rfl fun A S Q hA hS hQ => by
  have c11 := uses_s
  have c12 := within_s
  have c13 := contains_s
  have c14 := vop_s
  obtain ⟨wi, hwi⟩ : ∃ f, f = within := ⟨_, rfl⟩
  obtain ⟨uw, huw⟩ : ∃ f, f = uW := ⟨_, rfl⟩
  obtain ⟨uf, huf⟩ : ∃ f, f = uF := ⟨_, rfl⟩
  obtain ⟨co, hco⟩ : ∃ f : List UInt8 → UInt8 → Bool, f = fun s c => s.contains c := ⟨_, rfl⟩
  obtain ⟨vo, hvo⟩ : ∃ f, f = vop := ⟨_, rfl⟩
  have c13' : ∀ (s : List UInt8) (c : UInt8), SP 13 [.ro ⟨.str, s⟩, .ro ⟨.str, [c]⟩] ([.v ⟨.bool, co s c⟩], []) := by rw [hco]; exact c13
  clear c13
  rw [← hS] at c11 c12 c13' c14
  rw [← hwi] at c12
  rw [← huw, ← huf] at c11
  rw [← hvo] at c14
  unfold Runs
  cbv
  repeat' (first
    | (refine ⟨_, c11 _, ?_⟩; cbv)
    | (refine ⟨_, c12 _ _ _, ?_⟩; cbv)
    | (refine ⟨_, c13' _ _, ?_⟩; cbv)
    | (refine ⟨_, c14 _, ?_⟩; cbv)
    | (refine way_true (by assumption) ?_; cbv)
    | (refine way_false (by assumption) ?_; cbv)
    | (refine way_split (fun h => ?_) (fun h => ?_) <;> cbv))
  all_goals (refine hQ _ ?_; subst hA hwi huw huf hvo hco; clear hQ c11 c12 c13' c14 hS; simp only [std] at *; simp_all [vevI, Ty.deq, ieq, noOp])

theorem vev_eq (e : tEvent.den) : vevI e = vevS e := by
  by_cases hk : within (eKind e) 1 16 = true
  · have hk' : 1 ≤ eKind e ∧ eKind e ≤ 16 := by simpa [within] using hk
    have : eKind e = 1 ∨ eKind e = 2 ∨ eKind e = 3 ∨ eKind e = 4 ∨ eKind e = 5 ∨ eKind e = 6 ∨ eKind e = 7 ∨ eKind e = 8 ∨ eKind e = 9 ∨ eKind e = 10 ∨ eKind e = 11 ∨ eKind e = 12 ∨ eKind e = 13 ∨ eKind e = 14 ∨ eKind e = 15 ∨ eKind e = 16 := by omega
    rcases this with h | h | h | h | h | h | h | h | h | h | h | h | h | h | h | h <;>
      simp [vevI, vevS, h, uW, uF, uA, uB, uN, within]
  · have hw : uW (eKind e) = [] := by simp [uW, hk]
    have hk2 : within (eKind e) 1 16 = false := by simpa using hk
    simp [vevI, vevS, hw, hk2]

end Go.Proofs.Ytllcebmbaejlhaa.Ab
