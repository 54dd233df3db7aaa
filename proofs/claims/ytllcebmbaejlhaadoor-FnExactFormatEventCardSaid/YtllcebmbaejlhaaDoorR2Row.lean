/- FnExactFormatEvent: for every event, the program's FormatEvent returns what the reference's returns; the argument reads behind the call as it read before. The three tables of the library that the row lists lie as the program's text lays them. -/
import Derived.Test.YtllcebmbaejlhaaDoorCards
import Derived.Test.YtllcebmbaejlhaaDoorTie
import Derived.Test.YtllcebmbaejlhaaDoorR2Law
import Derived.Test.YtllcebmbaejlhaaDoorAbTab
import Derived.SevenTiedAt
namespace Go.Proofs.YtllcebmbaejlhaaDoor
open Go.ChangeShapes Go.WideShapes Go.ChangeAt Go.RowKit

theorem Tryd.own : ownKnob Tryd.prog.godebug = none := by kernel_rfl
theorem Tryd.laidOut : laidOutB Tryd.prog = true := by kernel_rfl

theorem formatEvent_ties (j : Nat) (u : Ab.Ty) (t : TypeId) (hu : [Ab.tEvent][j]? = some u) (ht : Tryd.f3.params.toList[j]? = some t) : Ab.Tie Tryd.prog u t := by
  match j with
  | 0 =>
    cases hu; cases ht
    show (Ab.tieB Tryd.prog Ab.tEvent).1 _ = true
    kernel_rfl
  | j + 1 => simp at hu

abbrev laidList : List (String × DataW Unit) := Rows.fnExactFormatEventRow.laid

/-- The program's own start meets the condition. -/
theorem door_met (os : Os) (args : Array Value) : laidMetH Tryd.prog laidList ((World.doorLaid Tryd.prog 400 os).forCall (fun _ _ => 0) ⟨#[], args, []⟩).memory :=
  laidMetH_of_parts3 (fuel := 8) (laidMet_of_run' 8 (by kernel_rfl) (by kernel_rfl)) (by kernel_rfl) (by kernel_rfl)

theorem pow_data : (Rows.laid_internal_strconv_uint64pow10 : DataW Unit) = Lib.tabData .u64 Lib.pow10Tab := by kernel_rfl

theorem pow_lies {W : World} (h : laidMetH Tryd.prog laidList W) : ∃ L, Ab.lying L ∧ Ab.Lies L W (fun b => b < W.heap.size) := by
  rw [MakeChecks.laidMetH_plain _ _ _ (by kernel_rfl)] at h
  have hin : ("internal/strconv.uint64pow10", Lib.tabData .u64 Lib.pow10Tab) ∈ laidList := by
    rw [← pow_data]
    exact List.mem_cons_of_mem _ (List.mem_cons_of_mem _ List.mem_cons_self)
  obtain ⟨el, fz, h1, h2⟩ := Ab.tab_lies (g := 1) (t := 62) (e := 53) (m := 20) h hin (by kernel_rfl) (by kernel_rfl) (by kernel_rfl) (by kernel_rfl) (by kernel_rfl) (by kernel_rfl)
  refine ⟨[(1, _)], ⟨_, el, fz, by kernel_rfl, List.mem_cons_self⟩, fun x hx => ?_⟩
  rcases List.mem_cons.1 hx with rfl | hx
  · exact ⟨h2, h1⟩
  · cases hx

set_option maxRecDepth 100000 in
theorem fnExactFormatEvent_lifted (os : Os) (started : os.Started) (H : Type) (enc : TypeId × Value → H) :
    ReturnsInHanded {} Tryd.checked os 3 .any (fun w args => (Rows.fnExactFormatEventSpec.pre enc Tryd.prog Tryd.f3 [] false w args ∧ laidMetH Tryd.prog laidList w) ∧ sizedMet enc Tryd.prog Tryd.f3 (OpenSpec.ofChange Rows.fnExactFormatEventSpec) false w args)
      (Rows.fnExactFormatEventSpec.post enc Tryd.prog Tryd.f3 false true false false) := by
  refine returnsInHanded_of_change_and (C := Tryd.checked) (X := fun w _ => laidMetH Tryd.prog laidList w) (fun _ _ _ hh h => h.of_heap hh) Tryd.own started (by kernel_rfl) Tryd.func3
    (ChangeSpec.witness_shaped (enc := enc) (C := Tryd.checked) (os := os) (X := fun w _ => laidMetH Tryd.prog laidList w) false (World.doorLaid Tryd.prog 400 os) #[.agg #[.int .i64 0, .int .i64 0, .int .i64 0, .int .i64 0, .int .i64 0, .int .i64 0, .int .i64 0, .int .i64 0, .int .i64 0, .int .i64 0]] 8 rfl (World.shaped_of_RefB (by kernel_rfl) (by kernel_rfl)) (by kernel_rfl) (by kernel_rfl) (by kernel_rfl) (door_met os _)) ?_
  intro W base args ds gs before hval hW _ hz hL _
  obtain ⟨L, hL1, hL2⟩ := pow_lies hL
  refine Ab.row_of (us := [Ab.tEvent]) (L := L) Tryd.laidOut (by kernel_rfl) rfl (by kernel_rfl) rfl ?_ Tryd.func3 rfl rfl formatEvent_ties W args ds gs before hval hW hz hL2 ?_
  · intro ds hd
    match ds, hd with
    | [d], _ => rfl
  · intro ys hy
    match ys, hy with
    | [⟨t, e⟩], hy =>
      simp only [List.map_cons, List.map_nil, List.cons.injEq, and_true] at hy
      subst hy
      exact Ab.law_s e L hL1

theorem fnExactFormatEvent_row : Rows.FnExactFormatEventSaid :=
  OpenClaim.holds_of_wide 3 Tryd.f3 rfl rfl rfl rfl rfl rfl rfl ⟨rfl, rfl, rfl, rfl, rfl⟩ rfl rfl rfl rfl rfl (by kernel_rfl) Tryd.func3 (by kernel_rfl)
    (of_decide_eq_true (by kernel_rfl)) (by unfold Func.isWrapper; first | (rw [if_pos (by decide +kernel)]; kernel_rfl) | (rw [if_neg (by decide +kernel)]; exact ⟨rfl, rfl⟩))
    (fun os started H enc _ => fnExactFormatEvent_lifted os started H enc)

theorem fnExactFormatEvent_holds : Rows.FnExactFormatEventCardSaid :=
  Claim7.holds_tied_plain_at .later [] [.data, .data, .data] true (true, "9ac6474be0f34a0c998b840f55f32214262e9a903e1fc953918ab03ffc8b5661") false
    fnExactFormatEvent_row (fun _ h => by cases h) (by kernel_rfl) (fun _ h => by cases h) fnExactFormatEvent_row_tie rfl ⟨rfl, rfl⟩ (by kernel_rfl) rfl
    (fun f fn hf hfn => by
      obtain rfl : f = 3 := Option.some.inj ((show Tryd.prog.funcNamed "loop.example/g01926/laws.FnExactFormatEvent" = some 3 by kernel_rfl).symm.trans hf) |>.symm
      obtain rfl : fn = Tryd.f3 := (Option.some.inj (Tryd.func3.symm.trans hfn)).symm
      exact ⟨by kernel_rfl, fun j t ht => by
        have hm : t ∈ Tryd.f3.params.toList := by simpa using Array.mem_of_getElem? ht
        have hall : (Tryd.f3.params.toList.all fun u => !Tryd.prog.wantsStandIn u) = true := by kernel_rfl
        exact (show Tryd.prog.wantsStandIn t = false by simpa using List.all_eq_true.1 hall t hm)⟩)
    (by kernel_rfl)

end Go.Proofs.YtllcebmbaejlhaaDoor
