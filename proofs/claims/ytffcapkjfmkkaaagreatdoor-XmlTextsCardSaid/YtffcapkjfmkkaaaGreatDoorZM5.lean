/- THE STATEMENT XmlTexts (rosterlaw13), proved of the given program: for all two texts of signs that may be and of together at most 600 bytes, the first without the blanks at its ends comes back as the text of an element and the second as the value of an attribute, and the examples hold for whatever texts; the texts read as they did. No condition on the input. The row lists two tables of unicode.utf8; the card ties them to the text of the program. -/
import Derived.Test.YtffcapkjfmkkaaaGreatDoorQ7
import Derived.Test.YtffcapkjfmkkaaaGreatDoorZL5
namespace Go.Proofs.YtffcapkjfmkkaaaGreatDoor
open Go.ChangeShapes Go.WideShapes Go.ChangeAt Go.RowKit Go.ChangeMaps
set_option maxRecDepth 100000 in
theorem xmlTexts_calls (H : Type) (enc : TypeId × Value → H) (W : World) (base : Nat) (args : Array Value) (ds gs : List (DataW H)) (before : List MemPlace)
    (hval0 : ∀ (j : Nat) t v, Tryz.f7.params[j]? = some t → args[j]? = some v → Value.okWide Tryz.prog W .any base t v)
    (hW : DataW.Whole enc Tryz.prog Tryz.f7.params.toList Rows.xmlTextsSpec.vars false W args.toList ds gs before) (_ : ∀ k, (OpenSpec.ofChange Rows.xmlTextsSpec).cond = some k → k H (ds ++ gs) = true) (hreach : (DataW.weightsEach Tryz.prog (Tryz.f7.params.toList ++ (OpenSpec.ofChange Rows.xmlTextsSpec).bare.plain.varTypes Tryz.prog) (ds ++ gs)).all (· ≤ reachBytes) = true) (hsh : W.ShapedOpen Tryz.prog) :
    Calls Tryz.prog 7 args W fun e W' => e = .returned (.bool true) ∧ Below W.heap.size W W' := by
  have hval : ∀ (j : Nat) t v, Tryz.f7.params[j]? = some t → args[j]? = some v → Value.okWide Tryz.prog W .any base t v := hval0
  obtain ⟨p, q, hA0, hV, rfl, _, _⟩ := hW
  have hA : DataW.TrodAll enc Tryz.prog W 0 (fun _ => true) true Tryz.f7.params.toList args.toList ds p := hA0
  rw [Tryz.params7] at hA hval
  obtain ⟨rfl, rfl⟩ := trodVars_none hV
  obtain ⟨v0, v1, d0, d1, p0, p1, rfl, rfl, rfl, h0, h1⟩ := trodAll_two hA
  obtain ⟨m, hm⟩ := max_cell W hsh
  have hre : (DataW.weightsEach (H := H) Tryz.prog [9, 9] [d0, d1]).all (· ≤ reachBytes) = true := by rw [List.append_nil, Tryz.params7] at hreach; exact hreach
  obtain ⟨s0, rfl, rfl, rfl, hs0⟩ := open_string Tryz.underlying9 (hval 0 9 v0 rfl rfl) h0
  obtain ⟨s1, rfl, rfl, rfl, hs1⟩ := open_string Tryz.underlying9 (hval 1 9 v1 rfl rfl) h1
  simp [DataW.weightsEach, DataW.weights, reachBytes] at hre
  exact xmlTexts_walk s0.data.toList s1.data.toList W m hm (by have h := of_decide_eq_true hre.1; rw [size_list]; exact h) (by have h := of_decide_eq_true hre.2; rw [size_list]; exact h)
set_option maxRecDepth 100000 in
theorem xmlTexts_lifted (os : Os) (started : os.Started) (H : Type) (enc : TypeId × Value → H) (F : Stop.Interp) :
    ReturnsInHanded {} Tryz.checked os 7 .any ((OpenSpec.ofChange Rows.xmlTextsSpec).preRow enc Tryz.prog Tryz.f7 Rows.xmlTextsRow.domain false Rows.xmlTextsRow.laid) (((OpenSpec.ofChange Rows.xmlTextsSpec).at F).post enc Tryz.prog Tryz.f7 false true false false) := by
  refine returnsInHanded_of_row (C := Tryz.checked) (s := (OpenSpec.ofChange Rows.xmlTextsSpec)) ownNone started (by kernel_rfl) Tryz.func7
    ⟨World.laidAll Tryz.prog os Rows.xmlTextsRow.laid, fun _ _ => 0, ⟨#[], #[.string ⟨#[]⟩, .string ⟨#[]⟩], []⟩, World.laidAll_os _ _ _, World.shaped_of_ZipB (by kernel_rfl) (by kernel_rfl), rfl,
      (Input.okWide_of_okWideB (f := 7) (i := ⟨#[], #[.string ⟨#[]⟩, .string ⟨#[]⟩], []⟩) (base := (World.laidAll Tryz.prog os Rows.xmlTextsRow.laid).heap.size) (by kernel_rfl)).2,
      OpenSpec.preRow_of_cond 8 (x := ([.lit (.string []), .lit (.string [])], [], [])) (by kernel_rfl) (by kernel_rfl) (fun k hk => by cases hk) (by kernel_rfl) (by rw [MakeChecks.laidMetH_plain _ _ _ (by kernel_rfl)]; exact laidMet_laidAll _ (by kernel_rfl) (by kernel_rfl)),
      by simp only [Assume.holds]; exact ⟨by simp, by simp, fun _ => Modest.zero, by simp, by simp⟩⟩ ?_
  intro W base args ds gs before hval hW _ hcond hreach _ hsh _
  have hW0 := hW
  obtain ⟨_, _, hA0, hV, _, _, _⟩ := hW0
  obtain ⟨rfl, rfl⟩ := trodVars_none hV
  have hA : DataW.TrodAll enc Tryz.prog W 0 (fun _ => true) true Tryz.f7.params.toList args.toList ds _ := hA0
  rw [Tryz.params7] at hA
  have hds : Rows.xmlTextsSpec.fn H ds = { results := [.lit (.bool true)], args := ds } := by
    obtain ⟨v0, v1, d0, d1, p0, p1, rfl, rfl, rfl, h0, h1⟩ := trodAll_two hA
    rfl
  refine (xmlTexts_calls H enc W base args ds [] before hval hW hcond hreach hsh).mono fun e W' ⟨he, hb⟩ => ?_
  subst he
  exact ⟨_, rfl, post_true rfl (by kernel_rfl) (by kernel_rfl) hds hW hb⟩
theorem xmlTexts_said : Rows.XmlTextsSaid :=
  OpenClaim.holds_of_cond 7 Tryz.f7 rfl rfl rfl rfl rfl rfl rfl ⟨rfl, rfl, rfl, rfl, rfl⟩ rfl rfl rfl rfl rfl (by kernel_rfl) Tryz.func7 (by kernel_rfl)
    (of_decide_eq_true (by kernel_rfl)) (by unfold Func.isWrapper; first | (rw [if_pos (by decide +kernel)]; kernel_rfl) | (rw [if_neg (by decide +kernel)]; exact ⟨rfl, rfl⟩))
    (fun os started H enc _ F => by rw [OpenClaim.pre_eq_preRow]; exact xmlTexts_lifted os started H enc F)
theorem xmlTexts_holds : Rows.XmlTextsCardSaid :=
  Claim7.holds_tied_plain_at .later [] _ _ _ _ xmlTexts_said (fun _ h => by cases h) (by kernel_rfl) (fun _ h => by cases h) xmlTexts_row_tie rfl ⟨rfl, rfl⟩ (by kernel_rfl) rfl
    (fun f fn hf hfn => by
      obtain rfl : f = 7 := Option.some.inj ((show Tryz.prog.funcNamed "roster/rosterlaw13.XmlTexts" = some 7 by kernel_rfl).symm.trans hf) |>.symm
      obtain rfl : fn = Tryz.f7 := (Option.some.inj (Tryz.func7.symm.trans hfn)).symm
      exact ⟨by kernel_rfl, fun j t ht => by
        rw [Tryz.params7] at ht
        have hmem : t ∈ [9, 9] := by simpa using Array.mem_of_getElem? ht
        have hall : ([9, 9].all fun u => !Tryz.prog.wantsStandIn u) = true := by kernel_rfl
        exact (show Tryz.prog.wantsStandIn t = false by simpa using List.all_eq_true.1 hall t hmem)⟩)
    (by kernel_rfl)
#print axioms xmlTexts_holds
end Go.Proofs.YtffcapkjfmkkaaaGreatDoor
