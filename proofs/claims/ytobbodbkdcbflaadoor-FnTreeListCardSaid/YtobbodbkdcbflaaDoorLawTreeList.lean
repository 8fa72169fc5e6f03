/- laws.FnTreeList returns true for every input: its row and its tied card. Conditions: those of the given statement, no others. -/
import Derived.Test.YtobbodbkdcbflaaDoorFrame
import Derived.Test.YtobbodbkdcbflaaDoorFrameB
import Derived.Test.YtobbodbkdcbflaaDoorB6
import Derived.Test.YtobbodbkdcbflaaDoorFrameJa
import Derived.Test.YtobbodbkdcbflaaDoorFrameJb
import Derived.Test.YtobbodbkdcbflaaDoorFrameJc
import Derived.Test.YtobbodbkdcbflaaDoorFrameJd
import Derived.Test.YtobbodbkdcbflaaDoorFrameJe
namespace Go.Proofs.YtobbodbkdcbflaaDoor
open Go.ChangeShapes Go.WideShapes Go.ChangeAt Go.RowKit
open Go.ChangeMaps (open_string shut_string)
set_option maxRecDepth 100000 in
theorem fnTreeList_lifted (os : Os) (started : os.Started) (H : Type) (enc : TypeId × Value → H) :
    ReturnsInHanded {} Tryd.checked os 8 .any (fun w args => (Rows.fnTreeListSpec.pre enc Tryd.prog Tryd.f8 Rows.fnTreeListRow.domain false w args ∧ laidMetH Tryd.prog LD w) ∧ sizedMet enc Tryd.prog Tryd.f8 (OpenSpec.ofChange Rows.fnTreeListSpec) false w args)
      (Rows.fnTreeListSpec.post enc Tryd.prog Tryd.f8 false true false false) := by
  refine returnsInHanded_of_change_and (C := Tryd.checked) (X := fun w _ => laidMetH Tryd.prog LD w) (fun _ _ _ hh h => h.of_heap hh) own started (by kernel_rfl) Tryd.func8
    (ChangeSpec.witness_shaped (enc := enc) (C := Tryd.checked) (os := os) (X := fun w _ => laidMetH Tryd.prog LD w) false (World.laidAll Tryd.prog os LD) #[.slice none 0 0] 8 (World.laidAll_os _ _ _)
      (World.shaped_of_ZipB (ld_1 os _) (ld_2 os _)) (by kernel_rfl) (by kernel_rfl) (by kernel_rfl)
      (by rw [MakeChecks.laidMetH_plain _ _ _ ld_m]; exact laidMet_laidAll _ (ld_3 os) (ld_4 os))) ?_
  intro W base args ds gs before hval0 hW hc _ hL _
  have hval : ∀ (j : Nat) t v, Tryd.f8.params[j]? = some t → args[j]? = some v → Value.okWide Tryd.prog W .any base t v := hval0
  have hW' := hW
  obtain ⟨p, q, hA0, hV, rfl, _, _⟩ := hW
  have hA : DataW.TrodAll enc Tryd.prog W 0 (fun _ => true) true Tryd.f8.params.toList args.toList ds p := hA0
  rw [Tryd.params8] at hA hval
  obtain ⟨v0, d0, rfl, rfl, h0⟩ := trodAll_one hA
  obtain ⟨rfl, rfl⟩ := trodVars_none hV
  obtain ⟨a0, n0, c0, rfl⟩ := okWide_slice Tryd.underlying22 (hval 0 22 v0 rfl rfl)
  have k0 := h0
  have lt0 : ∀ x ∈ p, x.block < W.heap.size := by obtain ⟨m, hm⟩ := k0; exact DataW.trod_lt m _ _ _ hm
  have co0 : Code W a0 n0 c0 := code_of h0
  simp only [List.append_nil] at hW'
  refine (lawTreeList_w W a0 n0 c0 co0).mono fun e W' ⟨he, hb⟩ => ?_
  subst he
  exact ⟨_, rfl, _, _, _, [], _, [], hW', trodAll_mk1 (shut_bool Tryd.underlying4 _), trodAll_mk1 (Below.trod laidOut (by kernel_rfl) (of_decide_eq_true (by kernel_rfl)) k0 hb lt0), rfl, hb.frame _, fun h => by cases h⟩
set_option maxRecDepth 100000 in
set_option maxHeartbeats 8000000 in
theorem fnTreeList_closed : joinedFacts Tryd.prog 8 Tryd.f8 Rows.fnTreeListSpec Rows.fnTreeListRow = true := by
  unfold joinedFacts
  simp only [Bool.and_eq_true]
  refine ⟨⟨⟨⟨⟨⟨⟨?_, j_b⟩, j_a⟩, j_c⟩, ?_⟩, ?_⟩, ?_⟩, ?_⟩
  all_goals (repeat' apply And.intro)
  all_goals as_aux_lemma => kernel_rfl
theorem fnTreeList_holds : Rows.FnTreeListSaid :=
  OpenClaim.holds_of_wide 8 Tryd.f8 rfl rfl rfl rfl rfl rfl rfl ⟨rfl, rfl, rfl, rfl, rfl⟩ rfl rfl rfl rfl rfl (by kernel_rfl) Tryd.func8 fnTreeList_closed
    (of_decide_eq_true (by kernel_rfl)) (by unfold Func.isWrapper; rw [if_neg (of_decide_eq_false (by kernel_rfl))]; exact ⟨rfl, rfl⟩)
    (fun os started H enc _ => fnTreeList_lifted os started H enc)
theorem fnTreeList_card : Rows.FnTreeListCardSaid :=
  Claim7.holds_tied_plain_at .later [] [.data, .pinned] true Rows.fnTreeListCard.stood.harness false fnTreeList_holds (fun _ h => by cases h) (by kernel_rfl) (fun _ h => by cases h) fnTreeList_row_tie rfl ⟨rfl, rfl⟩ j_d rfl
    (fun f fn hf hfn => by
      obtain rfl : f = 8 := Option.some.inj ((show Tryd.prog.funcNamed Rows.fnTreeListRow.func = some 8 by kernel_rfl).symm.trans hf) |>.symm
      obtain rfl : fn = Tryd.f8 := (Option.some.inj (Tryd.func8.symm.trans hfn)).symm
      exact ⟨j_e, fun j t ht => by
        rw [Tryd.params8] at ht
        have hm : t ∈ [22] := by simpa using Array.mem_of_getElem? ht
        have hall : ([22].all fun u => !Tryd.prog.wantsStandIn u) = true := by kernel_rfl
        exact (show Tryd.prog.wantsStandIn t = false by simpa using List.all_eq_true.1 hall t hm)⟩)
    (by kernel_rfl)
end Go.Proofs.YtobbodbkdcbflaaDoor
