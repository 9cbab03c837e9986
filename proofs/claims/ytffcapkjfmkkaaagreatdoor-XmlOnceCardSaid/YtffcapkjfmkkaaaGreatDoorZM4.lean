/- THE STATEMENT XmlOnce (rosterlaw13), proved of the given program: for every text, what is parsed may be, and is printed and parsed as the same if that is not too long, and the examples hold; the text reads as it did. No condition on the input. The row lists two tables of unicode.utf8; the card ties them to the text of the program. -/
import Derived.Test.YtffcapkjfmkkaaaGreatDoorQ7
import Derived.Test.YtffcapkjfmkkaaaGreatDoorZL3
namespace Go.Proofs.YtffcapkjfmkkaaaGreatDoor
open Go.ChangeShapes Go.WideShapes Go.ChangeAt Go.RowKit Go.ChangeMaps
set_option maxRecDepth 100000 in
theorem xmlOnce_calls (H : Type) (enc : TypeId × Value → H) (W : World) (base : Nat) (args : Array Value) (ds gs : List (DataW H)) (before : List MemPlace)
    (hval0 : ∀ (j : Nat) t v, Tryz.f5.params[j]? = some t → args[j]? = some v → Value.okWide Tryz.prog W .any base t v)
    (hW : DataW.Whole enc Tryz.prog Tryz.f5.params.toList Rows.xmlOnceSpec.vars false W args.toList ds gs before) (_ : ∀ k, (OpenSpec.ofChange Rows.xmlOnceSpec).cond = some k → k H (ds ++ gs) = true) (hsh : W.ShapedOpen Tryz.prog) :
    Calls Tryz.prog 5 args W fun e W' => e = .returned (.bool true) ∧ Below W.heap.size W W' := by
  have hval : ∀ (j : Nat) t v, Tryz.f5.params[j]? = some t → args[j]? = some v → Value.okWide Tryz.prog W .any base t v := hval0
  obtain ⟨p, q, hA0, hV, rfl, _, _⟩ := hW
  have hA : DataW.TrodAll enc Tryz.prog W 0 (fun _ => true) true Tryz.f5.params.toList args.toList ds p := hA0
  rw [Tryz.params5] at hA hval
  obtain ⟨rfl, rfl⟩ := trodVars_none hV
  obtain ⟨v0, d0, rfl, rfl, h0⟩ := trodAll_one hA
  obtain ⟨m, hm⟩ := max_cell W hsh
  obtain ⟨s0, rfl, rfl, rfl, hs0⟩ := open_string Tryz.underlying9 (hval 0 9 v0 rfl rfl) h0
  exact xmlOnce_walk s0 W m hm
set_option maxRecDepth 100000 in
theorem xmlOnce_lifted (os : Os) (started : os.Started) (H : Type) (enc : TypeId × Value → H) (F : Stop.Interp) :
    ReturnsInHanded {} Tryz.checked os 5 .any ((OpenSpec.ofChange Rows.xmlOnceSpec).preRow enc Tryz.prog Tryz.f5 Rows.xmlOnceRow.domain false Rows.xmlOnceRow.laid) (((OpenSpec.ofChange Rows.xmlOnceSpec).at F).post enc Tryz.prog Tryz.f5 false true false false) := by
  refine returnsInHanded_of_row (C := Tryz.checked) (s := (OpenSpec.ofChange Rows.xmlOnceSpec)) ownNone started (by kernel_rfl) Tryz.func5
    ⟨World.laidAll Tryz.prog os Rows.xmlOnceRow.laid, fun _ _ => 0, ⟨#[], #[.string ⟨#[]⟩], []⟩, World.laidAll_os _ _ _, World.shaped_of_ZipB (by kernel_rfl) (by kernel_rfl), rfl,
      (Input.okWide_of_okWideB (f := 5) (i := ⟨#[], #[.string ⟨#[]⟩], []⟩) (base := (World.laidAll Tryz.prog os Rows.xmlOnceRow.laid).heap.size) (by kernel_rfl)).2,
      OpenSpec.preRow_of_cond 8 (x := ([.lit (.string [])], [], [])) (by kernel_rfl) (by kernel_rfl) (fun k hk => by cases hk) (by kernel_rfl) (by rw [MakeChecks.laidMetH_plain _ _ _ (by kernel_rfl)]; exact laidMet_laidAll _ (by kernel_rfl) (by kernel_rfl)),
      by simp only [Assume.holds]; exact ⟨by simp, by simp, fun _ => Modest.zero, by simp, by simp⟩⟩ ?_
  intro W base args ds gs before hval hW _ hcond _ _ hsh _
  have hW0 := hW
  obtain ⟨_, _, hA0, hV, _, _, _⟩ := hW0
  obtain ⟨rfl, rfl⟩ := trodVars_none hV
  have hA : DataW.TrodAll enc Tryz.prog W 0 (fun _ => true) true Tryz.f5.params.toList args.toList ds _ := hA0
  rw [Tryz.params5] at hA
  have hds : Rows.xmlOnceSpec.fn H ds = { results := [.lit (.bool true)], args := ds } := by
    obtain ⟨v0, d0, rfl, rfl, h0⟩ := trodAll_one hA
    rfl
  refine (xmlOnce_calls H enc W base args ds [] before hval hW hcond hsh).mono fun e W' ⟨he, hb⟩ => ?_
  subst he
  exact ⟨_, rfl, post_true rfl (by kernel_rfl) (by kernel_rfl) hds hW hb⟩
theorem xmlOnce_said : Rows.XmlOnceSaid :=
  OpenClaim.holds_of_cond 5 Tryz.f5 rfl rfl rfl rfl rfl rfl rfl ⟨rfl, rfl, rfl, rfl, rfl⟩ rfl rfl rfl rfl rfl (by kernel_rfl) Tryz.func5 (by kernel_rfl)
    (of_decide_eq_true (by kernel_rfl)) (by unfold Func.isWrapper; first | (rw [if_pos (by decide +kernel)]; kernel_rfl) | (rw [if_neg (by decide +kernel)]; exact ⟨rfl, rfl⟩))
    (fun os started H enc _ F => by rw [OpenClaim.pre_eq_preRow]; exact xmlOnce_lifted os started H enc F)
theorem xmlOnce_holds : Rows.XmlOnceCardSaid :=
  Claim7.holds_tied_plain_at .later [] _ _ _ _ xmlOnce_said (fun _ h => by cases h) (by kernel_rfl) (fun _ h => by cases h) xmlOnce_row_tie rfl ⟨rfl, rfl⟩ (by kernel_rfl) rfl
    (fun f fn hf hfn => by
      obtain rfl : f = 5 := Option.some.inj ((show Tryz.prog.funcNamed "roster/rosterlaw13.XmlOnce" = some 5 by kernel_rfl).symm.trans hf) |>.symm
      obtain rfl : fn = Tryz.f5 := (Option.some.inj (Tryz.func5.symm.trans hfn)).symm
      exact ⟨by kernel_rfl, fun j t ht => by
        rw [Tryz.params5] at ht
        have hmem : t ∈ [9] := by simpa using Array.mem_of_getElem? ht
        have hall : ([9].all fun u => !Tryz.prog.wantsStandIn u) = true := by kernel_rfl
        exact (show Tryz.prog.wantsStandIn t = false by simpa using List.all_eq_true.1 hall t hmem)⟩)
    (by kernel_rfl)
#print axioms xmlOnce_holds
end Go.Proofs.YtffcapkjfmkkaaaGreatDoor
