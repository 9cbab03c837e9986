/- Which attributes and elements may be, as the reference has it. -/
import Derived.Test.YtffcapkjfmkkaaaDoorB
namespace Go.Proofs.YtffcapkjfmkkaaaDoor
open Go.RowKit
def attrOK (pre : List Par) (p : Par) : Bool := nameB p.name && p.has && signsB p.value && !(pre.any fun q => q.name == p.name)
def attrsA : List Par → List Par → Bool
  | _, [] => true
  | pre, p :: l => attrOK pre p && attrsA (pre ++ [p]) l
def attrsB (l : List Par) : Bool := decide (l.length ≤ 16) && attrsA [] l
theorem attrsA_at (ps : List Par) (k : Nat) (h : k < ps.length) : attrsA (ps.take k) (ps.drop k) = (attrOK (ps.take k) ps[k] && attrsA (ps.take (k + 1)) (ps.drop (k + 1))) := by
  rw [List.drop_eq_getElem_cons h, attrsA, List.take_succ_eq_append_getElem h]
def nmEq (a b : Par) : Bool := a.name == b.name
theorem any_snoc (ps : List Par) (j : Nat) (h : j < ps.length) (p : Par) : ((ps.take (j + 1)).any fun q => q.name == p.name) = (((ps.take j).any fun q => q.name == p.name) || nmEq ps[j] p) := by
  rw [List.take_succ_eq_append_getElem h, List.any_append]; simp [nmEq]
theorem rName_val (l : Bs) (w : World) (hs : l.length ≤ maxLen) (b : Bool) (h : nameB l = b) :
    Calls Tryd.prog 25 #[.string ⟨l.toArray⟩] w fun e w' => e = .returned (.bool b) ∧ Dr w w' := by
  subst h; exact rName_walk ⟨l.toArray⟩ w hs
theorem rSigns_val (l : Bs) (w : World) (hs : l.length ≤ maxLen) (b : Bool) (h : signsB l = b) :
    Calls Tryd.prog 27 #[.string ⟨l.toArray⟩] w fun e w' => e = .returned (.bool b) ∧ Dr w w' := by
  subst h; exact rSigns_walk ⟨l.toArray⟩ w hs
def noDup (ps : List Par) (j : Nat) (p : Par) : Bool := !((ps.take j).any fun q => q.name == p.name)
set_option maxHeartbeats 2000000 in
theorem rattrs_walk (u : Value) (ps : List Par) (w : World) (hp : RPar w u ps) :
    Calls Tryd.prog 26 #[u] w fun e w' => e = .returned (.bool (attrsB ps)) ∧ Dr w w' := by
  have hp0 := hp
  obtain ⟨A, c, rfl, -, hm, -⟩ := hp
  by_cases hl : ps.length ≤ 16
  · have HL : Hid (attrsB ps = attrsA [] ps) := by show _ = _; unfold attrsB; simp [hl]
    go_enter Tryd.func26, Tryd.ntmps26
    go_wp2
    go_loopw [3] (fun i wr => ∃ k : Nat, k ≤ ps.length ∧ i = .int .i64 k ∧ attrsA [] ps = attrsA (ps.take k) (ps.drop k) ∧ Dr w wr) (fun i _ => ps.length - (intOf i).toNat)
    case atStart => exact ⟨0, by omega, rfl, rfl, Dr.refl w⟩
    case round =>
      obtain ⟨k, hk, rfl, ht, hd⟩ := hrel
      have HT := Lib.hid ht
      clear ht
      by_cases hlt : k < ps.length
      · have HA := Lib.hid (attrsA_at ps k hlt)
        obtain ⟨a, rfl, a0, a1, a2, n1, n2⟩ := (hp0.keep hd.below0).at_ k hlt
        have HN := Lib.hid n1
        have HV := Lib.hid n2
        clear n1 n2
        have ret0 : attrOK (ps.take k) ps[k] = false → ∀ w', Dr w w' → (Ending.returned (.bool false) = .returned (.bool (attrsB ps)) ∧ Dr w w') := fun h w' h' => ⟨ret_bool (by rw [HL.out, HT.out, HA.out, h]; rfl), h'⟩
        have HR := Lib.hid ret0
        clear ret0
        by_cases h1 : nameB ps[k].name = true
        · by_cases h2 : ps[k].has = true
          · by_cases h3 : signsB ps[k].value = true
            · have H1 := Lib.hid h1; have H2 := Lib.hid h2; have H3 := Lib.hid h3
              clear h1 h2 h3
              rw [H2.out] at a2
              go_wp2_with fail
              refine (rName_val _ _ HN.out _ H1.out).mono ?_
              rintro e w' ⟨rfl, m1, rfl⟩
              go_wp2_with fail
              refine (rSigns_val _ _ HV.out _ H3.out).mono ?_
              rintro e w' ⟨rfl, m2, rfl⟩
              go_wp2_with fail
              have hd1 : Dr w (wr.drewN (m1 + m2)) := hd.drewN _
              generalize wr.drewN (m1 + m2) = wq at *
              clear a0 a1 a2
              go_loopw [4] (fun v w2 => ∃ j : Nat, j ≤ k ∧ v = .int .i64 j ∧ noDup ps j ps[k] = true ∧ Dr w w2) (fun v _ => k - (intOf v).toNat)
              case atStart => exact ⟨0, by omega, rfl, rfl, hd1⟩
              case round =>
                obtain ⟨j, hj, rfl, ht2, hd2⟩ := hrel
                have HJ := Lib.hid ht2
                clear ht2
                by_cases hjk : j < k
                · have hjl : j < ps.length := by omega
                  obtain ⟨b, hb', b0, -⟩ := (hp0.keep hd2.below0).at_ j hjl
                  obtain ⟨b', hb'', c0, -⟩ := (hp0.keep hd2.below0).at_ k hlt
                  cases hb'; cases hb''
                  have HS := Lib.hid (any_snoc ps j hjl ps[k])
                  by_cases he : (ps[j].name == ps[k].name) = true
                  · have HE := Lib.hid he
                    go_wp2
                    go_quiet (fail)
                    go_wp2
                    go_ret
                    refine HR.out ?_ _ (hd2.drewN _)
                    have hmem : ((ps.take k).any fun q => q.name == ps[k].name) = true := by
                      rw [List.any_eq_true]
                      exact ⟨ps[j], List.mem_take_iff_getElem.2 ⟨j, by omega, rfl⟩, HE.out⟩
                    simp [attrOK, hmem]
                  · have he : (ps[j].name == ps[k].name) = false := by simpa using he
                    have HE := Lib.hid he
                    go_wp2
                    go_quiet (fail)
                    go_wp2
                    refine ⟨⟨j + 1, by omega, by go_num, ?_, hd2.drewN _⟩, by simp [intOf]; omega⟩
                    have := HJ.out
                    unfold noDup at this ⊢
                    rw [HS.out, nmEq, HE.out]; simpa using this
                · obtain rfl : j = k := by omega
                  go_wp2
                  refine ⟨⟨j + 1, by omega, by go_num, ?_, hd2⟩, by simp [intOf]; omega⟩
                  rw [HT.out, HA.out]
                  have : attrOK (ps.take j) ps[j] = true := by
                    unfold attrOK; rw [H1.out, H2.out, H3.out]; have := HJ.out; unfold noDup at this; simpa using this
                  rw [this]; rfl
            · have h3 : signsB ps[k].value = false := by simpa using h3
              have H1 := Lib.hid h1; have H2 := Lib.hid h2; have H3 := Lib.hid h3
              clear h1 h2 h3
              rw [H2.out] at a2
              go_wp2_with fail
              refine (rName_val _ _ HN.out _ H1.out).mono ?_
              rintro e w' ⟨rfl, m1, rfl⟩
              go_wp2_with fail
              refine (rSigns_val _ _ HV.out _ H3.out).mono ?_
              rintro e w' ⟨rfl, m2, rfl⟩
              go_wp2_with fail
              go_ret
              exact HR.out (by simp [attrOK, H3.out]) _ (hd.drewN _)
          · have h2 : ps[k].has = false := by simpa using h2
            have H1 := Lib.hid h1; have H2 := Lib.hid h2
            clear h1 h2
            rw [H2.out] at a2
            go_wp2_with fail
            refine (rName_val _ _ HN.out _ H1.out).mono ?_
            rintro e w' ⟨rfl, m1, rfl⟩
            go_wp2_with fail
            go_ret
            exact HR.out (by simp [attrOK, H2.out]) _ (hd.drewN _)
        · have h1 : nameB ps[k].name = false := by simpa using h1
          have H1 := Lib.hid h1
          clear h1
          go_wp2_with fail
          refine (rName_val _ _ HN.out _ H1.out).mono ?_
          rintro e w' ⟨rfl, m1, rfl⟩
          go_wp2_with fail
          go_ret
          exact HR.out (by simp [attrOK, H1.out]) _ (hd.drewN _)
      · obtain rfl : k = ps.length := by omega
        go_wp2
        go_ret
        exact ⟨ret_bool (by rw [HL.out, HT.out]; simp [attrsA]), hd⟩
  · have HL : Hid (attrsB ps = false) := by show _ = _; unfold attrsB; simp [hl]
    go_enter Tryd.func26, Tryd.ntmps26
    go_wp2
    go_ret
    exact ⟨ret_bool HL.out.symm, Dr.refl w⟩
end Go.Proofs.YtffcapkjfmkkaaaDoor
