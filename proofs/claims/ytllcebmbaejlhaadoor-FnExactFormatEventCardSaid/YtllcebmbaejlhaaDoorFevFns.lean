/- Events as text: the reference. -/
import Derived.Test.YtllcebmbaejlhaaDoorFmtFns
namespace Go.Proofs.YtllcebmbaejlhaaDoor.Ab
open Go

/-! ### The reference's FormatEvent -/
def evWords : List (List UInt8) := [[], [111, 112], [114, 101, 97, 100], [108, 101, 97, 115, 101], [112, 114, 111, 112, 111, 115, 101],
  [97, 99, 116, 105, 118, 97, 116, 101], [99, 114, 97, 115, 104], [114, 101, 115, 116, 97, 114, 116], [119, 105, 112, 101], [115, 105, 100, 101],
  [109, 97, 115, 116, 101, 114, 115], [116, 105, 109, 101], [108, 101, 97, 114, 110], [117, 112, 103, 114, 97, 100, 101], [100, 111, 119, 110, 103, 114, 97, 100, 101],
  [115, 119, 105, 116, 99, 104], [114, 101, 112, 97, 105, 114]]

theorem evWords_at {k : Int} (h : within k 1 16 = true) : evWords.getD k.toNat [] = uW k := by
  rcases within_cases h with h | h | h | h | h | h | h | h | h | h | h | h | h | h | h | h <;> subst h <;> rfl

set_option maxRecDepth 100000 in
theorem l30Words_s : SP 8 [] ([.v ⟨.list .str, evWords⟩], []) := sp md0 [] Tryd.func8 rfl fun A S Q hA hS hQ => by
  unfold Runs
  cbv
  repeat' (first
    | (refine And.intro (by rw [hA]; first | exact decide_eq_true (by decide) | rfl) ?_; cbv)
    | (refine way_true (by assumption) ?_; cbv)
    | (refine way_false (by assumption) ?_; cbv)
    | (refine way_split (fun h => ?_) (fun h => ?_) <;> cbv))
  all_goals (refine hQ _ ?_; subst hA; rfl)

def pc (b : Bool) (n : Int) : List UInt8 := if b then 32 :: Lib.itoa n else []
def fevS (e : tEvent.den) : List UInt8 := if vevS e then uW (eKind e) ++ (pc (uA (eKind e)) (eServer e) ++ (pc (uB (eKind e)) (eOther e) ++ (pc (uN (eKind e)) (eN e) ++ (if eKind e = 1 then 32 :: fop (eOp e) else [])))) else []

theorem vevS_kind {e : tEvent.den} (h : vevS e = true) : within (eKind e) 1 16 = true := by
  simp only [vevS, Bool.and_eq_true] at h
  exact h.1.1.1.1.1

theorem le_app {x y : List UInt8} {n m : Nat} (h1 : std.len x ≤ n) (h2 : std.len y ≤ m) : std.len (std.app x y) ≤ n + m := by
  show (x ++ y).length ≤ n + m
  rw [List.length_append]
  exact Nat.add_le_add h1 h2
theorem ok2_of {x y : List UInt8} {n m : Nat} (h1 : std.len x ≤ n) (h2 : std.len y ≤ m) (h : n + m ≤ 4294967296) : std.ok2 (std.len x) (std.len y) = true := decide_eq_true (Nat.le_trans (Nat.add_le_add h1 h2) h)

theorem ok2_le {a b n m : Nat} (h1 : a ≤ n) (h2 : b ≤ m) (h : n + m ≤ 4294967296) : std.ok2 a b = true := decide_eq_true (Nat.le_trans (Nat.add_le_add h1 h2) h)

theorem not_std {v : Bool} (h : std.not v = false) : v = true := by simpa [std] using h
theorem not_std' {v : Bool} (h : std.not v = true) : v = false := by simpa [std] using h

theorem need_idx {v : Bool} {k : Int} {ew : List (List UInt8)} {n : Nat} (hl : ew.length = n) (hv : std.not v = false) (hr : v = true → decide (0 ≤ k) = true ∧ decide (k < n) = true) : std.all (std.le 0 k) (std.lt k (std.int (std.len ew))) = true := by
  have h := hr (by simpa [std] using hv)
  show (decide (0 ≤ k) && decide (k < (ew.length : Int))) = true
  rw [hl, h.1, h.2]
  rfl

set_option maxRecDepth 100000 in
theorem spec_formatEvent_x (k sv ot nn : Int) (op : tOp.den) : SP 4 [.ro ⟨tEvent, (k, sv, ot, nn, op)⟩] ([.v ⟨.str, fevS (k, sv, ot, nn, op)⟩], []) := spw md0 [] Tryd.func4 rfl fun hw A S Q hA hS hQ => by
  have c1 := vevS_s
  have c2 := spec_formatInt_s
  have c3 := l30Uses_s
  have c4 := spec_formatOp_s
  have c5 := l30Words_s
  have hwe : Wf tEvent (k, sv, ot, nn, op) := hw.1
  have hop : std.len (fop op) ≤ 200 := fop_le (o := op) hwe.2.2.2.2
  have b1 : std.len (Lib.itoa sv) ≤ 21 := itoa_wf hwe.2.1
  have b2 : std.len (Lib.itoa ot) ≤ 21 := itoa_wf hwe.2.2.1
  have b3 : std.len (Lib.itoa nn) ≤ 21 := itoa_wf hwe.2.2.2.1
  have hwl : std.len (α := UInt8) (std.get (α := Ty.den .str) evWords (std.nat k) ([] : List UInt8)) ≤ 9 := by
    show (evWords.getD k.toNat []).length ≤ 9
    cases h : within k 1 16 with
    | true => rw [evWords_at h]; exact (uF_facts _).2.1
    | false =>
      have h' : ¬ (1 ≤ k ∧ k ≤ 16) := by simpa [within] using h
      by_cases h0 : k.toNat = 0
      · rw [h0]; decide
      · rw [List.getD_eq_getElem?_getD, List.getElem?_eq_none (by show 17 ≤ _; omega)]; decide
  have hrng : vevS (k, sv, ot, nn, op) = true → decide (0 ≤ k) = true ∧ decide (k < 17) = true := fun h => by
    have := vevS_kind h
    have : 1 ≤ k ∧ k ≤ 16 := by simpa [within] using this
    exact ⟨decide_eq_true (by omega), decide_eq_true (by omega)⟩
  obtain ⟨it, hit⟩ : ∃ f, f = Lib.itoa := ⟨_, rfl⟩
  obtain ⟨ve, hve⟩ : ∃ f, f = vevS := ⟨_, rfl⟩
  obtain ⟨ew, hew⟩ : ∃ f, f = evWords := ⟨_, rfl⟩
  obtain ⟨a, ha⟩ : ∃ f, f = uA := ⟨_, rfl⟩
  obtain ⟨b, hb⟩ : ∃ f, f = uB := ⟨_, rfl⟩
  obtain ⟨n, hn⟩ : ∃ f, f = uN := ⟨_, rfl⟩
  obtain ⟨fo, hfo⟩ : ∃ f, f = fop := ⟨_, rfl⟩
  have hel : ew.length = 17 := by rw [hew]; rfl
  rw [← hS] at c1 c2 c3 c4 c5
  rw [← hve] at c1 hrng
  rw [← hit] at c2 b1 b2 b3
  rw [← ha, ← hb, ← hn] at c3
  rw [← hfo] at c4 hop
  rw [← hew] at c5 hwl
  clear hw
  unfold Runs
  cbv
  repeat' (first
    | (refine ⟨_, c1 _, ?_⟩; cbv)
    | (refine ⟨_, c2 _, ?_⟩; cbv)
    | (refine ⟨_, c3 _, ?_⟩; cbv)
    | (refine ⟨_, c4 _, ?_⟩; cbv)
    | (refine ⟨_, c5, ?_⟩; cbv)
    | (refine And.intro (by rw [hA]; apply ok2_le; (repeat' (first | exact hwl | exact b1 | exact b2 | exact b3 | exact hop | apply le_app | exact Nat.le_refl _ | decide))) ?_; cbv)
    | (refine And.intro (by rw [hA] at h ⊢; exact need_idx hel h hrng) ?_; cbv)
    | (refine way_true (by assumption) ?_; cbv)
    | (refine way_false (by assumption) ?_; cbv)
    | (refine way_split (fun h => ?_) (fun h => ?_) <;> cbv))
  all_goals (refine hQ _ ?_; subst hA hit hve hew ha hb hn hfo; clear hQ c1 c2 c3 c4 c5 hS)
  · refine congrArg (fun s : List UInt8 => (([RV.v ⟨Ty.str, s⟩], []) : Out)) ?_
    have hv := not_std' h
    have e3 : fevS (k, sv, ot, nn, op) = [] := by simp only [fevS, hv]; rfl
    exact e3.symm
  all_goals
    have hv := not_std ‹std.not (vevS (k, sv, ot, nn, op)) = false›
    have e2 : std.get (α := Ty.den .str) evWords (std.nat k) ([] : List UInt8) = uW k := evWords_at (vevS_kind hv)
    clear b1 b2 b3 hrng hwl hel hop hwe
    refine congrArg (fun s : List UInt8 => (([RV.v ⟨Ty.str, s⟩], []) : Out)) ?_
    have e3 : fevS (k, sv, ot, nn, op) = uW k ++ (pc (uA k) sv ++ (pc (uB k) ot ++ (pc (uN k) nn ++ (if k = 1 then 32 :: fop op else [])))) := by simp only [fevS, hv, if_true]
    refine Eq.trans ?_ e3.symm
    clear hv e3
    simp only [std] at *
    simp_all [pc]

theorem uF_pieces {k : Int} (h : within k 1 16 = true) (g : UInt8 → List UInt8) : (uF k).flatMap g = (if uA k then g 115 else []) ++ ((if uB k then g 111 else []) ++ (if uN k then g 110 else [])) := by
  rcases within_cases h with h | h | h | h | h | h | h | h | h | h | h | h | h | h | h | h <;> subst h <;> simp [uF, uA, uB, uN, within]

theorem fev_eq (e : tEvent.den) : fev e = fevS e := by
  unfold fev fevS
  cases hv : vevS e with
  | false => rfl
  | true =>
    simp only [if_true]
    rw [uF_pieces (vevS_kind hv), fld_a e rfl, fld_b e rfl, fld_c e (by decide) (by decide)]
    simp only [pc, List.append_assoc]

theorem spec_formatEvent_s (e : tEvent.den) : SP 4 [.ro ⟨tEvent, e⟩] ([.v ⟨.str, fev e⟩], []) := by
  rw [fev_eq]
  exact spec_formatEvent_x e.1 e.2.1 e.2.2.1 e.2.2.2.1 e.2.2.2.2

end Go.Proofs.YtllcebmbaejlhaaDoor.Ab
