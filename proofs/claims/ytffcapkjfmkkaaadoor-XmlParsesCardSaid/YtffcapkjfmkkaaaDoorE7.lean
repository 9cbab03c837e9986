/- plain. -/
import Derived.Test.YtffcapkjfmkkaaaDoorE6
namespace Go.Proofs.YtffcapkjfmkkaaaDoor
open Go.RowKit
abbrev Bld (w : World) (B b : Nat) (out : Bs) : Prop := Lib.IsBuilder 76 5 B b (Lib.byteCells out) w
theorem ent_bad (ok : Bool) (n : Bs) : (!ok || decide (Lib.index entT (32 :: (n ++ [32])) < 0) || decide (0 ≤ Lib.indexByte n 32) || n.isEmpty) = !(ok && decide (entK n < 5)) := by
  cases ok
  · simp
  · by_cases hn : 32 ∈ n
    · have h5 : ¬ entK n < 5 := fun h => by
        have he := N_entK n h
        have hw : ∀ k, k < 5 → 32 ∉ entN k := by decide
        rw [he] at hn; exact hw _ h hn
      have : 0 ≤ Lib.indexByte n 32 := by
        by_cases h : Lib.indexByte n 32 = -1
        · obtain ⟨j, hj⟩ := List.mem_iff_getElem?.1 hn
          exact absurd hj (Lib.indexByte_none h j)
        · have := Lib.indexByte_ge n 32; omega
      simp [this, h5]
    · by_cases h0 : n = []
      · subst h0
        simp [entK, entN]
      · rw [table_index n hn h0]
        have hi : ¬ 0 ≤ Lib.indexByte n 32 := fun h => by
          obtain ⟨o, ho⟩ : ∃ o : Nat, Lib.indexByte n 32 = o := ⟨(Lib.indexByte n 32).toNat, by omega⟩
          exact hn (List.mem_iff_getElem?.2 ⟨o, (Lib.indexByte_some ho).1⟩)
        cases n with
        | nil => exact absurd rfl h0
        | cons c l => simp [hi]
theorem builder_below {T e : TypeId} {B b : Nat} {p : Value} {bs : List Value} {w w' : World} (h : Lib.BuilderAt T e B b p bs w) (hb : Below w.heap.size w w') : Lib.BuilderAt T e B b p bs w' := by
  have hl := h.lt
  obtain ⟨hB, v, hk, hown, hne⟩ := h
  refine ⟨hB, v, (hb.block _ hl).trans hk, hown.kept (below_grown hb) ?_, hne⟩
  cases v.ownBlock <;> simp
def PlainPost (w : World) (s : ByteArray) (e : Ending) (w' : World) : Prop :=
  (match plainS s.data.toList with | none => e = gaveUp | some t => e = .returned (.string ⟨t.toArray⟩)) ∧ Below w.heap.size w w'
set_option maxRecDepth 100000 in
set_option maxHeartbeats 8000000 in
theorem plain_walk (rb : Nat) (s : ByteArray) (m : Int) (w : World) (hs : s.size ≤ 4096) (hm : w.cell? ⟨0, 0, none⟩ = some (.int .i64 m)) :
    Calls Tryd.prog 36 #[.pointer (some ⟨rb, 0, none⟩), .string s] w (PlainPost w s) := by
  have hmm := @run_makeMap Tryd.prog
  have HMM := Lib.hid hm
  clear hm
  go_enter Tryd.func36, Tryd.ntmps36
  go_upto_block 0 with (fail)
  go_cut [1, 6, 7, 8, 9, 10] (fun _ _ _ _ _ _ wr => ∃ out : Bs, readB s.data.toList = some out ∧ Bld wr w.heap.size w.heap.size out ∧ Below w.heap.size w wr ∧ out.length ≤ s.size)
  case first =>
    go_wp2_with fail
    go_loopw [1, 6, 7, 8, 9, 10] (fun v _ _ _ _ _ wr => ∃ (t : ByteArray) (out : Bs), v = .string t ∧ readB s.data.toList = (readB t.data.toList).map (out ++ ·) ∧ Bld wr w.heap.size w.heap.size out ∧ Below w.heap.size w wr ∧ out.length + t.size ≤ s.size) (fun v _ _ _ _ _ _ => strLen v)
    case atStart =>
      refine ⟨s, [], rfl, by cases readB s.data.toList <;> rfl, Lib.fresh_isBuilder _ _ w, Below.alloc (Below.refl _ _) (Nat.le_refl _) _, by simp⟩
    case round =>
      obtain ⟨t, out, rfl, ht, hbd, hb, hlen⟩ := hrel
      have HT := Lib.hid ht
      have HBD := Lib.hid hbd
      have HB := Lib.hid hb
      clear ht hbd hb
      by_cases h0 : 0 < t.size
      · have he := isEmpty_false t h0
        have HX := Lib.hid (fun w => strings_IndexByte t 38 w)
        go_wp2_with fail
        generalize hix : Lib.indexByte t.data.toList 38 = ix
        have HIX := Lib.hid hix
        refine (HX.out wr).mono ?_
        rintro e w1 ⟨rfl, hw1⟩
        subst hw1
        rw [show (38 : Int).toNat.toUInt8 = 38 from rfl, hix]
        clear hix
        have hge := Lib.indexByte_ge t.data.toList 38
        rw [HIX.out] at hge
        by_cases hneg : ix = -1
        · subst hneg
          go_wp2_with fail
          refine (bString w.heap.size w.heap.size (Lib.byteCells out) t w1 HBD.out (by rw [Lib.byteCells_length]; omega) HB.out.size).mono ?_
          rintro e w2 ⟨rfl, hbd2, hb2⟩
          have HBD2 := Lib.hid hbd2
          have HB2 := Lib.hid hb2
          clear hbd2 hb2
          go_wp2_with fail
          go_meet
          refine ⟨out ++ t.data.toList, ?_, ?_, HB.out.trans HB2.out, by rw [List.length_append, size_list]; omega⟩
          · rw [HT.out, readB_plain]
            · rfl
            · intro hmem
              obtain ⟨j, hj⟩ := List.mem_iff_getElem?.1 hmem
              exact Lib.indexByte_none HIX.out j hj
          · refine .inr ?_
            have := HBD2.out
            rwa [show Lib.byteCells (out ++ t.data.toList) = Lib.byteCells out ++ Lib.strCells t from by simp [Lib.byteCells, Lib.strCells]]
        · obtain ⟨k, rfl⟩ : ∃ k : Nat, ix = k := ⟨ix.toNat, by omega⟩
          have hz : decide ((k : Int) < 0) = false := by simp
          have hsm := Lib.indexByte_some HIX.out
          have hk : k < t.size := by
            have := (List.getElem?_eq_some_iff.1 hsm.1).1
            rwa [size_list] at this
          have hk38 : t[k] = 38 := by
            have := hsm.1
            rw [List.getElem?_eq_getElem (by rw [size_list]; exact hk)] at this
            injection this
          have HK38 := Lib.hid hk38
          have HSM := Lib.hid hsm.2
          clear hk38 hsm
          go_wp2_with fail
          refine (bString w.heap.size w.heap.size (Lib.byteCells out) _ w1 HBD.out (by rw [Lib.byteCells_length, ByteArray.size_extract]; omega) HB.out.size).mono ?_
          rintro e w2 ⟨rfl, hbd2, hb2⟩
          have HBD2 := Lib.hid hbd2
          have HB2 := Lib.hid (HB.out.trans hb2)
          clear hbd2 hb2
          go_wp2_with fail
          have HPL : Hid ((t.extract (k + 1) t.size).data.toList = t.data.toList.drop (k + 1)) := by
            show _ = _; rw [Lib.extract_data, List.take_of_length_le (by rw [List.length_drop, size_list]; exact Nat.le_refl _)]
          refine (strings_Cut _ _ m w2 (by rw [ByteArray.size_extract]; omega) (cell_keep HB2.out HMM.out)).mono ?_
          rintro e w3 ⟨rfl, hd3⟩
          have HB3 : Hid (Below w.heap.size w w3) := Dr.below hd3 HB2.out
          have HBD3 : Hid (Lib.BuilderAt 76 5 w.heap.size w.heap.size (.pointer (some ⟨w.heap.size, 0, none⟩)) (Lib.byteCells out ++ Lib.strCells (t.extract 0 k)) w3) := by
            obtain ⟨n3, rfl⟩ := hd3; exact HBD2.out
          clear hd3
          rw [HPL.out]
          generalize hcut : Lib.cut (t.data.toList.drop (k + 1)) (⟨#[59]⟩ : ByteArray).data.toList = cc
          have HCUT := Lib.hid hcut
          clear hcut
          obtain ⟨name, rest, ok⟩ := cc
          have hnl : name.length ≤ 4096 := by
            have h1 : name = (Lib.cut (t.data.toList.drop (k + 1)) (⟨#[59]⟩ : ByteArray).data.toList).1 := by rw [HCUT.out]
            have h2 : (Lib.cut (t.data.toList.drop (k + 1)) (⟨#[59]⟩ : ByteArray).data.toList).1.length ≤ (t.data.toList.drop (k + 1)).length := by
              unfold Lib.cut; split
              · exact List.length_take_le' _ _
              · exact Nat.le_refl _
            rw [List.length_drop, size_list] at h2
            rw [h1]; omega
          have z1 : ¬ 9223372036854775807 < 1 + name.length := by omega
          have z2 : ¬ 9223372036854775807 < 1 + name.length + 1 := by omega
          go_wp2_with fail
          refine (strings_Index ⟨#[32, 97, 109, 112, 32, 108, 116, 32, 103, 116, 32, 113, 117, 111, 116, 32, 97, 112, 111, 115, 32]⟩ _ m w3 (by decide) (cell_keep HB3.out HMM.out)).mono ?_
          rintro e w4 ⟨rfl, rfl⟩
          have HBAD := Lib.hid (ent_bad ok name)
          generalize hiv : Lib.index (⟨#[32, 97, 109, 112, 32, 108, 116, 32, 103, 116, 32, 113, 117, 111, 116, 32, 97, 112, 111, 115, 32]⟩ : ByteArray).data.toList ((⟨#[32]⟩ : ByteArray) ++ ⟨name.toArray⟩ ++ ⟨#[32]⟩).data.toList = iv
          have HIV := Lib.hid hiv
          clear hiv
          have HBQ : Hid ((!ok || decide (iv < 0) || decide (0 ≤ Lib.indexByte name 32) || name.isEmpty) = !(entOK (t.data.toList.drop (k + 1)))) := by
            show _ = _
            have h1 : entOK (t.data.toList.drop (k + 1)) = (ok && decide (entK name < 5)) := by
              have := HCUT.out
              unfold entOK
              rw [show ([59] : Bs) = (⟨#[59]⟩ : ByteArray).data.toList from rfl, this]
            rw [h1, ← HBAD.out, ← HIV.out]
            congr 3
          have hsplit : t.data.toList = t.data.toList.take k ++ 38 :: t.data.toList.drop (k + 1) := by
            conv => lhs; rw [← List.take_append_drop k t.data.toList, drop_cons t k hk, HK38.out]
          have hpre : (38 : UInt8) ∉ t.data.toList.take k := by
            intro hmem
            obtain ⟨j, hj⟩ := List.mem_iff_getElem?.1 hmem
            rw [List.getElem?_take] at hj
            split at hj
            · rename_i hjk; exact HSM.out j hjk hj
            · cases hj
          have HRB : Hid (readB t.data.toList = (readB (38 :: t.data.toList.drop (k + 1))).map (t.data.toList.take k ++ ·)) := by
            show _ = _
            conv => lhs; rw [hsplit]
            exact readB_pre _ _ hpre
          clear hsplit hpre
          have HNO : Hid (entOK (t.data.toList.drop (k + 1)) = false → plainS s.data.toList = none) := fun h => by
            unfold plainS
            rw [HT.out, HRB.out, readB_bad _ h]; rfl
          have HFAIL : Hid ((!ok || decide (iv < 0) || decide (0 ≤ Lib.indexByte name 32) || name.isEmpty) = true → ∀ w', Below w.heap.size w w' → PlainPost w s gaveUp w') := fun h w' hb => by
            unfold PlainPost
            have : entOK (t.data.toList.drop (k + 1)) = false := by
              have := HBQ.out.symm.trans h
              simpa using this
            rw [HNO.out this]; exact ⟨rfl, hb⟩
          cases ok
          · go_wp2_with fail
            refine (fail_walk rb _).mono ?_
            rintro e w5 ⟨rfl, rfl⟩
            go_wp2
            exact ⟨rfl, HFAIL.out (by simp) _ HB3.out⟩
          · by_cases hiv0 : iv < 0
            · have zi : decide (iv < 0) = true := decide_eq_true hiv0
              have HZI := Lib.hid zi
              clear hiv0
              go_wp2_with fail
              refine (fail_walk rb _).mono ?_
              rintro e w5 ⟨rfl, rfl⟩
              go_wp2
              exact ⟨rfl, HFAIL.out (by rw [HZI.out]; simp) _ HB3.out⟩
            · have zi : decide (iv < 0) = false := decide_eq_false hiv0
              have HZI := Lib.hid zi
              clear hiv0
              go_wp2_with fail
              refine (strings_Contains_one _ 32 _).mono ?_
              rintro e w5 ⟨rfl, rfl⟩
              generalize hcb : decide (0 ≤ Lib.indexByte (⟨name.toArray⟩ : ByteArray).data.toList 32) = cb
              have HCB : Hid (decide (0 ≤ Lib.indexByte name 32) = cb) := hcb
              clear hcb
              cases cb
              · cases hne : name.isEmpty
                · have HNE := Lib.hid hne
                  have HOK : Hid (entOK (t.data.toList.drop (k + 1)) = true) := by
                    show _ = _
                    have := HBQ.out
                    rw [HZI.out, HCB.out, HNE.out] at this
                    simpa using this.symm
                  obtain ⟨m1, m2, m3, m4, m5, r1, r2, r3, r4, r5, hlk, hbm⟩ := ent_map w5
                  have r1' : (Instr.mapUpdate 85 (.map (some w5.heap.size)) (.string ⟨#[97, 109, 112]⟩) (.int .u8 38)).run Tryd.prog (w5.alloc (.map #[] 0)) = .ok () m1 := r1
                  have r2' : (Instr.mapUpdate 85 (.map (some w5.heap.size)) (.string ⟨#[108, 116]⟩) (.int .u8 60)).run Tryd.prog m1 = .ok () m2 := r2
                  have r3' : (Instr.mapUpdate 85 (.map (some w5.heap.size)) (.string ⟨#[103, 116]⟩) (.int .u8 62)).run Tryd.prog m2 = .ok () m3 := r3
                  have r4' : (Instr.mapUpdate 85 (.map (some w5.heap.size)) (.string ⟨#[113, 117, 111, 116]⟩) (.int .u8 34)).run Tryd.prog m3 = .ok () m4 := r4
                  have r5' : (Instr.mapUpdate 85 (.map (some w5.heap.size)) (.string ⟨#[97, 112, 111, 115]⟩) (.int .u8 39)).run Tryd.prog m4 = .ok () m5 := r5
                  have HBM := Lib.hid hbm
                  have HLK := Lib.hid hlk
                  clear r1 r2 r3 r4 r5 hlk hbm
                  have hk5 : entK name < 5 := by
                    have h1 := HOK.out
                    have h2 := HCUT.out
                    unfold entOK at h1
                    rw [show ([59] : Bs) = (⟨#[59]⟩ : ByteArray).data.toList from rfl, h2] at h1
                    simpa using h1
                  have hlk' : (Instr.lookup 85 (.map (some w5.heap.size)) (.string ⟨name.toArray⟩) false).run Tryd.prog m5 = .ok (.int .u8 (entC (entK name)).toNat) m5 := by
                    have h1 := HLK.out _ hk5
                    unfold entS entV at h1
                    rw [← N_entK name hk5] at h1
                    exact h1
                  have HLK2 := Lib.hid hlk'
                  clear hlk'
                  generalize hcc : ((entC (entK name)).toNat : Int) = cc at HLK2
                  have HCC := Lib.hid hcc
                  have hlk2 := HLK2.out
                  clear hcc
                  have HBD5 := Lib.hid (builder_below HBD3.out HBM.out)
                  have HB5 : Hid (Below w.heap.size w m5) := HB3.out.trans (HBM.out.mono HB3.out.size)
                  go_wp2_with fail
                  refine (bByte w.heap.size w.heap.size _ _ m5 (.inr HBD5.out) (by rw [List.length_append, Lib.byteCells_length, Lib.strCells_length, ByteArray.size_extract]; omega) HB5.out.size).mono ?_
                  rintro e w6 ⟨rfl, hbd6, hb6⟩
                  have HBD6 := Lib.hid hbd6
                  have HB6 := Lib.hid (HB5.out.trans hb6)
                  clear hbd6 hb6
                  go_wp2_with fail
                  have HC2 : Hid (Lib.cut (t.data.toList.drop (k + 1)) [59] = (name, rest, true)) := by
                    show _ = _; exact HCUT.out
                  have HRL : rest.length + k + 3 ≤ t.size := by
                    have h1 := ent_of_cut (t.data.toList.drop (k + 1)) (entK name) hk5 (by rw [HC2.out]) (by rw [HC2.out]; exact N_entK name hk5)
                    rw [HC2.out] at h1
                    have h2 := congrArg List.length h1
                    rw [List.length_append, List.length_drop, size_list] at h2
                    have h3 : ∀ j, j < 5 → 2 ≤ (entL j).length := by decide
                    have := h3 _ hk5
                    simp only at h2
                    omega
                  have HRD : Hid (readB s.data.toList = (readB (⟨rest.toArray⟩ : ByteArray).data.toList).map ((out ++ t.data.toList.take k ++ [entC (entK name)]) ++ ·)) := by
                    show _ = _
                    rw [HT.out, HRB.out, readB_ent _ HOK.out, HC2.out]
                    show _ = (readB rest).map _
                    cases readB rest with
                    | none => rfl
                    | some x => simp
                  go_roundw
                  case measure =>
                    show (⟨rest.toArray⟩ : ByteArray).size < t.size
                    have : (⟨rest.toArray⟩ : ByteArray).size = rest.length := by rw [← size_list]
                    omega
                  case rel =>
                    refine ⟨_, out ++ t.data.toList.take k ++ [entC (entK name)], rfl, HRD.out, .inr ?_, HB6.out, ?_⟩
                    · have h1 := HBD6.out
                      have h2 := HCC.out
                      rw [show Lib.byteCells (out ++ t.data.toList.take k ++ [entC (entK name)]) = Lib.byteCells out ++ Lib.strCells (t.extract 0 k) ++ [.int .u8 cc] from by
                        rw [← h2]; simp [Lib.byteCells, Lib.strCells]]
                      exact h1
                    · have : (⟨rest.toArray⟩ : ByteArray).size = rest.length := by rw [← size_list]
                      simp only [List.length_append, List.length_take, size_list, List.length_cons, List.length_nil]
                      omega
                · have HNE := Lib.hid hne
                  go_wp2_with fail
                  refine (fail_walk rb _).mono ?_
                  rintro e w5 ⟨rfl, rfl⟩
                  go_wp2
                  exact ⟨rfl, HFAIL.out (by rw [HNE.out]; simp) _ HB3.out⟩
              · go_wp2_with fail
                refine (fail_walk rb _).mono ?_
                rintro e w5 ⟨rfl, rfl⟩
                go_wp2
                exact ⟨rfl, HFAIL.out (by rw [HCB.out]; simp) _ HB3.out⟩
      · have he := isEmpty_true t h0
        go_wp2_with fail
        go_meet
        refine ⟨out, ?_, HBD.out, HB.out, by omega⟩
        have : t.data.toList = [] := List.eq_nil_of_length_eq_zero (by rw [size_list]; omega)
        rw [HT.out, this, show readB [] = some [] from by rw [readB]]; simp
  case rest =>
    obtain ⟨out, ho, hbd, hb, hlen⟩ := hcut
    have HO := Lib.hid ho
    have HB := Lib.hid hb
    clear ho hb
    have hbf := Lib.IsBuilderF.of hbd
    have HBF := Lib.hid hbf
    clear hbd hbf
    go_wp2_with fail
    refine (Builder_String_any_f w.heap.size w.heap.size out wc HBF.out HB.out.size).mono ?_
    rintro e w1 ⟨rfl, hf1, hb1⟩
    have HF1 := Lib.hid hf1
    have HB1 := Lib.hid (HB.out.trans hb1)
    clear hf1 hb1
    cases hsg : signsB out with
    | false =>
      have HSG := Lib.hid hsg
      go_wp2_with fail
      refine (signs_val out _ (by unfold maxLen; omega) _ HSG.out).mono ?_
      clear hsg
      rintro e w2 ⟨rfl, hd2⟩
      have HB2 := Lib.hid (Dr.below hd2 HB1.out)
      go_wp2_with fail
      refine (fail_walk rb _).mono ?_
      rintro e w3 ⟨rfl, rfl⟩
      go_wp2
      have hp : plainS s.data.toList = none := by unfold plainS; rw [HO.out]; simp only []; rw [HSG.out]; rfl
      unfold PlainPost
      rw [hp]
      exact ⟨rfl, rfl, HB2.out⟩
    | true =>
      have HSG := Lib.hid hsg
      go_wp2_with fail
      refine (signs_val out _ (by unfold maxLen; omega) _ HSG.out).mono ?_
      clear hsg
      rintro e w2 ⟨rfl, hd2⟩
      have HB2 := Lib.hid (Dr.below hd2 HB1.out)
      have HF2 : Hid (Lib.IsBuilderF 76 5 w.heap.size w.heap.size (Lib.byteCells out) w2) := by
        obtain ⟨n2, rfl⟩ := hd2; exact HF1.out
      clear hd2
      go_wp2_with fail
      refine (Builder_String_any_f w.heap.size w.heap.size out w2 HF2.out HB2.out.size).mono ?_
      rintro e w3 ⟨rfl, hf3, hb3⟩
      have HB3 := Lib.hid (HB2.out.trans hb3)
      clear hf3 hb3
      go_wp2_with fail
      go_ret
      have hp : plainS s.data.toList = some out := by unfold plainS; rw [HO.out]; simp only []; rw [HSG.out]; rfl
      unfold PlainPost
      rw [hp]
      exact ⟨rfl, HB3.out⟩
end Go.Proofs.YtffcapkjfmkkaaaDoor
