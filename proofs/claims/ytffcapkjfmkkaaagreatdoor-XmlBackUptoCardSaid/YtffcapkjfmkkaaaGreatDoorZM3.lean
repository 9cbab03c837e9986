/- THE STATEMENT XmlBack (rosterlaw13), second form, proved of the given program: for every list of elements of at most 1048576 values and letters, what is printed is parsed as it was if it is not too long, and the examples hold; the argument reads as it did. The row lists two tables of unicode.utf8; the card ties them to the text of the program. -/
import Derived.Test.YtffcapkjfmkkaaaGreatDoorQ7
import Derived.Test.YtffcapkjfmkkaaaGreatDoorZL3
namespace Go.Proofs.YtffcapkjfmkkaaaGreatDoor
open Go.ChangeShapes Go.WideShapes Go.ChangeAt Go.RowKit Go.ChangeMaps
set_option maxRecDepth 100000 in
theorem xmlBack_calls (H : Type) (enc : TypeId × Value → H) (W : World) (base : Nat) (args : Array Value) (ds gs : List (DataW H)) (before : List MemPlace)
    (hval0 : ∀ (j : Nat) t v, Tryz.f4.params[j]? = some t → args[j]? = some v → Value.okWide Tryz.prog W .any base t v)
    (hW : DataW.Whole enc Tryz.prog Tryz.f4.params.toList Rows.xmlBackSpec.vars false W args.toList ds gs before) (hcond : ∀ k, (Rows.OpenSpec.upto Rows.xmlBackSpec).cond = some k → k H (ds ++ gs) = true) (hsh : W.ShapedOpen Tryz.prog) :
    Calls Tryz.prog 4 args W fun e W' => e = .returned (.bool true) ∧ Below W.heap.size W W' := by
  have hval : ∀ (j : Nat) t v, Tryz.f4.params[j]? = some t → args[j]? = some v → Value.okWide Tryz.prog W .any base t v := hval0
  obtain ⟨p, q, hA0, hV, rfl, _, _⟩ := hW
  have hA : DataW.TrodAll enc Tryz.prog W 0 (fun _ => true) true Tryz.f4.params.toList args.toList ds p := hA0
  rw [Tryz.params4] at hA hval
  obtain ⟨rfl, rfl⟩ := trodVars_none hV
  obtain ⟨v0, d0, rfl, rfl, h0⟩ := trodAll_one hA
  obtain ⟨m, hm⟩ := max_cell W hsh
  obtain ⟨fuel0, hf0⟩ := h0
  obtain ⟨u0, ns0, hc0, hr0, hco0⟩ := open_nods hf0
  obtain ⟨A0, L0, C0, rfl⟩ := okWide_slice Tryz.underlying22 (hval 0 22 v0 rfl rfl)
  obtain rfl : u0 = .slice A0 L0 C0 := by simpa [Value.cells] using hc0.symm
  have hbk : Rows.uptoBulkAll [d0] ≤ 1048576 := of_decide_eq_true (by have := hcond _ rfl; rw [List.append_nil] at this; exact this)
  simp only [Rows.uptoBulkAll] at hbk
  exact xmlBack_walk _ ns0 W m hm hr0 (by simp only at hco0; omega)
set_option maxRecDepth 100000 in
theorem xmlBack_lifted (os : Os) (started : os.Started) (H : Type) (enc : TypeId × Value → H) (F : Stop.Interp) :
    ReturnsInHanded {} Tryz.checked os 4 .any ((Rows.OpenSpec.upto Rows.xmlBackSpec).preRow enc Tryz.prog Tryz.f4 Rows.xmlBackUptoRow.domain false Rows.xmlBackUptoRow.laid) (((Rows.OpenSpec.upto Rows.xmlBackSpec).at F).post enc Tryz.prog Tryz.f4 false true false false) := by
  refine returnsInHanded_of_row (C := Tryz.checked) (s := (Rows.OpenSpec.upto Rows.xmlBackSpec)) ownNone started (by kernel_rfl) Tryz.func4
    ⟨World.laidAll Tryz.prog os Rows.xmlBackUptoRow.laid, fun _ _ => 0, ⟨#[], #[.slice none 0 0], []⟩, World.laidAll_os _ _ _, World.shaped_of_ZipB (by kernel_rfl) (by kernel_rfl), rfl,
      (Input.okWide_of_okWideB (f := 4) (i := ⟨#[], #[.slice none 0 0], []⟩) (base := (World.laidAll Tryz.prog os Rows.xmlBackUptoRow.laid).heap.size) (by kernel_rfl)).2,
      OpenSpec.preRow_of_cond 8 (x := ([.nil], [], [])) (by kernel_rfl) (by kernel_rfl) (fun k hk => by cases hk; kernel_rfl) (by kernel_rfl) (by rw [MakeChecks.laidMetH_plain _ _ _ (by kernel_rfl)]; exact laidMet_laidAll _ (by kernel_rfl) (by kernel_rfl)),
      by simp only [Assume.holds]; exact ⟨by simp, by simp, fun _ => Modest.zero, by simp, by simp⟩⟩ ?_
  intro W base args ds gs before hval hW _ hcond _ _ hsh _
  have hW0 := hW
  obtain ⟨_, _, hA0, hV, _, _, _⟩ := hW0
  obtain ⟨rfl, rfl⟩ := trodVars_none hV
  have hA : DataW.TrodAll enc Tryz.prog W 0 (fun _ => true) true Tryz.f4.params.toList args.toList ds _ := hA0
  rw [Tryz.params4] at hA
  have hds : Rows.xmlBackSpec.fn H ds = { results := [.lit (.bool true)], args := ds } := by
    obtain ⟨v0, d0, rfl, rfl, h0⟩ := trodAll_one hA
    rfl
  refine (xmlBack_calls H enc W base args ds [] before hval hW hcond hsh).mono fun e W' ⟨he, hb⟩ => ?_
  subst he
  exact ⟨_, rfl, post_true rfl (by kernel_rfl) (by kernel_rfl) hds hW hb⟩
theorem xmlBack_said : Rows.XmlBackUptoSaid :=
  OpenClaim.holds_of_cond 4 Tryz.f4 rfl rfl rfl rfl rfl rfl rfl ⟨rfl, rfl, rfl, rfl, rfl⟩ rfl rfl rfl rfl rfl (by kernel_rfl) Tryz.func4 (by kernel_rfl)
    (of_decide_eq_true (by kernel_rfl)) (by unfold Func.isWrapper; first | (rw [if_pos (by decide +kernel)]; kernel_rfl) | (rw [if_neg (by decide +kernel)]; exact ⟨rfl, rfl⟩))
    (fun os started H enc _ F => by rw [OpenClaim.pre_eq_preRow]; exact xmlBack_lifted os started H enc F)
theorem xmlBack_holds : Rows.XmlBackUptoCardSaid :=
  Claim7.holds_tied_plain_at .later [] _ _ _ _ xmlBack_said (fun _ h => by cases h) (by kernel_rfl) (fun _ h => by cases h) xmlBackUpto_row_tie rfl ⟨rfl, rfl⟩ (by kernel_rfl) rfl
    (fun f fn hf hfn => by
      obtain rfl : f = 4 := Option.some.inj ((show Tryz.prog.funcNamed "roster/rosterlaw13.XmlBack" = some 4 by kernel_rfl).symm.trans hf) |>.symm
      obtain rfl : fn = Tryz.f4 := (Option.some.inj (Tryz.func4.symm.trans hfn)).symm
      exact ⟨by kernel_rfl, fun j t ht => by
        rw [Tryz.params4] at ht
        have hmem : t ∈ [22] := by simpa using Array.mem_of_getElem? ht
        have hall : ([22].all fun u => !Tryz.prog.wantsStandIn u) = true := by kernel_rfl
        exact (show Tryz.prog.wantsStandIn t = false by simpa using List.all_eq_true.1 hall t hmem)⟩)
    (by kernel_rfl)
#print axioms xmlBack_holds
end Go.Proofs.YtffcapkjfmkkaaaGreatDoor
