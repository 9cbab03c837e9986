/- THE STATEMENT XmlBlanks (rosterlaw13), second form, proved of the given program: for every list of elements, together of at most 1048576 values and letters, and every number that chooses the blanks, blanks between the elements and at the end of what is printed play no part in what is parsed, and the examples hold; the arguments read as they did. The row lists two tables of unicode.utf8; the card ties them to the text of the program. -/
import Derived.Test.YtffcapkjfmkkaaaGreatDoorQ7
import Derived.Test.YtffcapkjfmkkaaaGreatDoorZL6
namespace Go.Proofs.YtffcapkjfmkkaaaGreatDoor
open Go.ChangeShapes Go.WideShapes Go.ChangeAt Go.RowKit Go.ChangeMaps
set_option maxRecDepth 100000 in
theorem xmlBlanks_calls (H : Type) (enc : TypeId × Value → H) (W : World) (base : Nat) (args : Array Value) (ds gs : List (DataW H)) (before : List MemPlace)
    (hval0 : ∀ (j : Nat) t v, Tryz.f6.params[j]? = some t → args[j]? = some v → Value.okWide Tryz.prog W .any base t v)
    (hW : DataW.Whole enc Tryz.prog Tryz.f6.params.toList Rows.xmlBlanksSpec.vars false W args.toList ds gs before) (hcond : ∀ k, (Rows.OpenSpec.upto Rows.xmlBlanksSpec).cond = some k → k H (ds ++ gs) = true) (hsh : W.ShapedOpen Tryz.prog) :
    Calls Tryz.prog 6 args W fun e W' => e = .returned (.bool true) ∧ Below W.heap.size W W' := by
  have hval : ∀ (j : Nat) t v, Tryz.f6.params[j]? = some t → args[j]? = some v → Value.okWide Tryz.prog W .any base t v := hval0
  obtain ⟨p, q, hA0, hV, rfl, _, _⟩ := hW
  have hA : DataW.TrodAll enc Tryz.prog W 0 (fun _ => true) true Tryz.f6.params.toList args.toList ds p := hA0
  rw [Tryz.params6] at hA hval
  obtain ⟨rfl, rfl⟩ := trodVars_none hV
  obtain ⟨v0, v1, d0, d1, p0, p1, rfl, rfl, rfl, h0, h1⟩ := trodAll_two hA
  obtain ⟨m, hm⟩ := max_cell W hsh
  obtain ⟨fuel0, hf0⟩ := h0
  obtain ⟨u0, ns0, hc0, hr0, hco0⟩ := open_nods hf0
  obtain ⟨A0, L0, C0, rfl⟩ := okWide_slice Tryz.underlying22 (hval 0 22 v0 rfl rfl)
  obtain rfl : u0 = .slice A0 L0 C0 := by simpa [Value.cells] using hc0.symm
  have hbk : Rows.uptoBulkAll [d0, d1] ≤ 1048576 := of_decide_eq_true (by have := hcond _ rfl; rw [List.append_nil] at this; exact this)
  simp only [Rows.uptoBulkAll] at hbk
  obtain ⟨n1, rfl, rfl, rfl, hn1⟩ := open_int Tryz.underlying37 (hval 1 37 v1 rfl rfl) h1
  exact xmlBlanks_walk _ ns0 n1 W m hm hr0 (by simp only at hco0; omega) hn1
set_option maxRecDepth 100000 in
theorem xmlBlanks_lifted (os : Os) (started : os.Started) (H : Type) (enc : TypeId × Value → H) (F : Stop.Interp) :
    ReturnsInHanded {} Tryz.checked os 6 .any ((Rows.OpenSpec.upto Rows.xmlBlanksSpec).preRow enc Tryz.prog Tryz.f6 Rows.xmlBlanksUptoRow.domain false Rows.xmlBlanksUptoRow.laid) (((Rows.OpenSpec.upto Rows.xmlBlanksSpec).at F).post enc Tryz.prog Tryz.f6 false true false false) := by
  refine returnsInHanded_of_row (C := Tryz.checked) (s := (Rows.OpenSpec.upto Rows.xmlBlanksSpec)) ownNone started (by kernel_rfl) Tryz.func6
    ⟨World.laidAll Tryz.prog os Rows.xmlBlanksUptoRow.laid, fun _ _ => 0, ⟨#[], #[.slice none 0 0, .int .u64 0], []⟩, World.laidAll_os _ _ _, World.shaped_of_ZipB (by kernel_rfl) (by kernel_rfl), rfl,
      (Input.okWide_of_okWideB (f := 6) (i := ⟨#[], #[.slice none 0 0, .int .u64 0], []⟩) (base := (World.laidAll Tryz.prog os Rows.xmlBlanksUptoRow.laid).heap.size) (by kernel_rfl)).2,
      OpenSpec.preRow_of_cond 8 (x := ([.nil, .lit (.int .u64 0)], [], [])) (by kernel_rfl) (by kernel_rfl) (fun k hk => by cases hk; kernel_rfl) (by kernel_rfl) (by rw [MakeChecks.laidMetH_plain _ _ _ (by kernel_rfl)]; exact laidMet_laidAll _ (by kernel_rfl) (by kernel_rfl)),
      by simp only [Assume.holds]; exact ⟨by simp, by simp, fun _ => Modest.zero, by simp, by simp⟩⟩ ?_
  intro W base args ds gs before hval hW _ hcond _ _ hsh _
  have hW0 := hW
  obtain ⟨_, _, hA0, hV, _, _, _⟩ := hW0
  obtain ⟨rfl, rfl⟩ := trodVars_none hV
  have hA : DataW.TrodAll enc Tryz.prog W 0 (fun _ => true) true Tryz.f6.params.toList args.toList ds _ := hA0
  rw [Tryz.params6] at hA
  have hds : Rows.xmlBlanksSpec.fn H ds = { results := [.lit (.bool true)], args := ds } := by
    obtain ⟨v0, v1, d0, d1, p0, p1, rfl, rfl, rfl, h0, h1⟩ := trodAll_two hA
    rfl
  refine (xmlBlanks_calls H enc W base args ds [] before hval hW hcond hsh).mono fun e W' ⟨he, hb⟩ => ?_
  subst he
  exact ⟨_, rfl, post_true rfl (by kernel_rfl) (by kernel_rfl) hds hW hb⟩
theorem xmlBlanks_said : Rows.XmlBlanksUptoSaid :=
  OpenClaim.holds_of_cond 6 Tryz.f6 rfl rfl rfl rfl rfl rfl rfl ⟨rfl, rfl, rfl, rfl, rfl⟩ rfl rfl rfl rfl rfl (by kernel_rfl) Tryz.func6 (by kernel_rfl)
    (of_decide_eq_true (by kernel_rfl)) (by unfold Func.isWrapper; first | (rw [if_pos (by decide +kernel)]; kernel_rfl) | (rw [if_neg (by decide +kernel)]; exact ⟨rfl, rfl⟩))
    (fun os started H enc _ F => by rw [OpenClaim.pre_eq_preRow]; exact xmlBlanks_lifted os started H enc F)
theorem xmlBlanks_holds : Rows.XmlBlanksUptoCardSaid :=
  Claim7.holds_tied_plain_at .later [] _ _ _ _ xmlBlanks_said (fun _ h => by cases h) (by kernel_rfl) (fun _ h => by cases h) xmlBlanksUpto_row_tie rfl ⟨rfl, rfl⟩ (by kernel_rfl) rfl
    (fun f fn hf hfn => by
      obtain rfl : f = 6 := Option.some.inj ((show Tryz.prog.funcNamed "roster/rosterlaw13.XmlBlanks" = some 6 by kernel_rfl).symm.trans hf) |>.symm
      obtain rfl : fn = Tryz.f6 := (Option.some.inj (Tryz.func6.symm.trans hfn)).symm
      exact ⟨by kernel_rfl, fun j t ht => by
        rw [Tryz.params6] at ht
        have hmem : t ∈ [22, 37] := by simpa using Array.mem_of_getElem? ht
        have hall : ([22, 37].all fun u => !Tryz.prog.wantsStandIn u) = true := by kernel_rfl
        exact (show Tryz.prog.wantsStandIn t = false by simpa using List.all_eq_true.1 hall t hmem)⟩)
    (by kernel_rfl)
#print axioms xmlBlanks_holds
end Go.Proofs.YtffcapkjfmkkaaaGreatDoor
