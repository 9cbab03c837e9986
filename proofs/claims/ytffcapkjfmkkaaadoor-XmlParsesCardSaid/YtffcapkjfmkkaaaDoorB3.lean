/- Which elements may be a document, as the reference has it. -/
import Derived.Test.YtffcapkjfmkkaaaDoorB2
import Derived.IntWalk
namespace Go.Proofs.YtffcapkjfmkkaaaDoor
open Go.RowKit
def elemOK (n : Nod) : Bool := decide (n.deep < 8) && nameB n.name && attrsB n.attrs && signsB n.text && decide (trimB n.text = n.text)
/-- b behind a: its depth; a's text. -/
def pairD (a b : Nod) : Bool := decide (1 ≤ b.deep) && decide (b.deep ≤ a.deep + 1)
def pairT (a b : Nod) : Bool := !(decide (b.deep > a.deep) && decide (a.text ≠ []))
def chainB : List Nod → Bool
  | [] => true
  | [a] => elemOK a
  | a :: b :: l => elemOK a && (pairT a b && (pairD a b && chainB (b :: l)))
def checkB (l : List Nod) : Bool := decide (1 ≤ l.length) && decide (l.length ≤ 200) && decide ((l.head?.map Nod.deep) = some 0) && chainB l
def chkI (b : Bool) : Int := if b then 0 else 130
def gateD (ns : List Nod) (k : Nat) : Bool := if h : 0 < k ∧ k < ns.length then pairD (ns[k - 1]'(by omega)) (ns[k]'h.2) else true
def gateT (ns : List Nod) (k : Nat) : Bool := if h : k + 1 < ns.length then pairT (ns[k]'(by omega)) (ns[k + 1]'h) else true
theorem chain_at (ns : List Nod) (k : Nat) (h : k < ns.length) : chainB (ns.drop k) = (elemOK ns[k] && (gateT ns k && (gateD ns (k + 1) && chainB (ns.drop (k + 1))))) := by
  rw [List.drop_eq_getElem_cons h]
  by_cases h1 : k + 1 < ns.length
  · rw [List.drop_eq_getElem_cons h1, chainB, gateT, dif_pos h1, gateD, dif_pos ⟨by omega, h1⟩]; rfl
  · rw [List.drop_eq_nil_of_le (by omega), chainB, gateT, dif_neg h1, gateD, dif_neg (by omega)]; simp [chainB]
theorem rattrs_val (u : Value) (ps : List Par) (w : World) (hp : RPar w u ps) (b : Bool) (h : attrsB ps = b) :
    Calls Tryd.prog 26 #[u] w fun e w' => e = .returned (.bool b) ∧ Dr w w' := by
  subst h; exact rattrs_walk u ps w hp
theorem rTrim_val (l : Bs) (w : World) (hs : l.length ≤ maxLen) (t : Bs) (h : trimB l = t) :
    Calls Tryd.prog 28 #[.string ⟨l.toArray⟩] w fun e w' => e = .returned (.string ⟨t.toArray⟩) ∧ Dr w w' := by
  subst h; exact rTrim_walk ⟨l.toArray⟩ w hs
theorem addr_zero (a : Addr) : a.add 0 = a := by
  unfold Addr.add; split <;> (cases a; simp_all)
def nodRow (n : Nod) (va : Value) : Obj := .cells #[.int .i64 n.deep, .string ⟨n.name.toArray⟩, va, .string ⟨n.text.toArray⟩] 40
set_option maxRecDepth 100000 in
set_option maxHeartbeats 16000000 in
theorem rCheck_walk (u : Value) (ns : List Nod) (w : World) (hp : RNod w u ns) :
    Calls Tryd.prog 13 #[u] w fun e w' => e = .returned (.int .i64 (chkI (checkB ns))) ∧ Below w.heap.size w w' := by
  have hp0 := hp
  obtain ⟨A, c, rfl, -, hm, -⟩ := hp
  by_cases h1 : 1 ≤ ns.length
  · by_cases h2 : ns.length ≤ 200
    · obtain ⟨a, va, rfl, a0, -⟩ := hp0.at_ 0 h1
      have az : w.cell? a = some (.int .i64 ns[0].deep) := by
        have : a.add (0 * 4) = a := by rw [Nat.zero_mul]; exact addr_zero a
        rwa [this] at a0
      by_cases h0 : ns[0].deep = 0
      · have HC : Hid (checkB ns = chainB ns) := by
          show _ = _; unfold checkB; rw [List.head?_eq_getElem?, List.getElem?_eq_getElem h1]; simp [h1, h2, h0]
        have e0 : (ns[0].deep != 0) = false := by simp [h0]
        have zl1 : decide ((ns.length : Int) < 1) = false := by simp; omega
        have zl2 : decide (200 < (ns.length : Int)) = false := by simp; omega
        have H0 := Lib.hid h0
        clear h0
        go_enter Tryd.func13, Tryd.ntmps13
        go_wp2
        go_loopw [3] (fun i wr => ∃ k : Nat, k ≤ ns.length ∧ i = .int .i64 k ∧ chainB ns = (gateD ns k && chainB (ns.drop k)) ∧ (∀ j (hj : j < ns.length), j + 1 = k → 0 ≤ ns[j].deep ∧ ns[j].deep < 8) ∧ Below w.heap.size w wr) (fun i _ => ns.length - (intOf i).toNat)
        case atStart => exact ⟨0, by omega, rfl, by simp [gateD], fun j hj e => by omega, Below.refl _ _⟩
        case round =>
          obtain ⟨k, hk, rfl, ht, hpv, hb⟩ := hrel
          have HT := Lib.hid ht
          have HPV := Lib.hid hpv
          clear ht hpv a0 az e0
          by_cases hlt : k < ns.length
          · have HA := Lib.hid (chain_at ns k hlt)
            obtain ⟨a', vk, ha', k0, k1, k2, hatt, k3, n1, n2⟩ := (hp0.keep hb).at_ k hlt
            cases ha'
            have hatt0 := hatt
            obtain ⟨A2, c2, rfl, -⟩ := hatt
            have HN := Lib.hid n1
            have HX := Lib.hid n2
            clear n1 n2
            have hret : (gateD ns k && elemOK ns[k]) = false → Hid (Ending.returned (.int .i64 130) = .returned (.int .i64 (chkI (checkB ns)))) := fun h => by
              have h5 : chainB ns = false := by
                rw [HT.out, HA.out]
                cases hg : gateD ns k <;> cases hh : elemOK ns[k] <;> simp_all
              exact ret_int (by rw [HC.out, h5]; rfl)
            have HRET := Lib.hid hret
            clear hret
            go_upto_region 7 with (fail)
            go_cut [79] (fun v w2 => v = .bool (!(gateD ns k && elemOK ns[k])) ∧ Dr (wr.alloc (nodRow ns[k] (.slice A2 ns[k].attrs.length c2))) w2)
            case first =>
              have hkeep : ∀ m, Below wr.heap.size wr ((wr.alloc (nodRow ns[k] (.slice A2 ns[k].attrs.length c2))).drewN m) := fun m => Dr.below ⟨m, rfl⟩ ((Below.refl _ _).alloc (Nat.le_refl _) _)
              have HK : Hid (∀ m, RPar ((wr.alloc (nodRow ns[k] (.slice A2 ns[k].attrs.length c2))).drewN m) (.slice A2 ns[k].attrs.length c2) ns[k].attrs) := fun m => hatt0.keep (hkeep m)
              have c0 := new_cell wr #[.int .i64 ns[k].deep, .string ⟨ns[k].name.toArray⟩, (.slice A2 ns[k].attrs.length c2), .string ⟨ns[k].text.toArray⟩] 40
              clear hkeep
              rcases Nat.eq_zero_or_pos k with hk0 | hk0
              · have hk1 : k ≤ 0 := by omega
                clear hk0
                have hzn : decide (0 < k) = false := by simp; omega
                have hz : decide ((k : Int) > 0) = false := by simp; omega
                have HG : Hid (gateD ns k = true) := by show _ = _; unfold gateD; rw [dif_neg (by omega)]
                by_cases d8 : ns[k].deep < 8
                · have z8 : decide (8 ≤ ns[k].deep) = false := by simp; omega
                  by_cases b1 : nameB ns[k].name = true
                  · have HNM := Lib.hid b1
                    clear b1
                    by_cases b2 : attrsB ns[k].attrs = true
                    · have HAT := Lib.hid b2
                      clear b2
                      by_cases b3 : signsB ns[k].text = true
                      · have HSG := Lib.hid b3
                        clear b3
                        by_cases b4 : trimB ns[k].text = ns[k].text
                        · have HTR := Lib.hid b4
                          have b5 : (ns[k].text == ns[k].text) = true := by simp
                          clear b4
                          have HF : Hid ((gateD ns k && elemOK ns[k]) = true) := by show _ = _; simp [HG.out, elemOK, HNM.out, HAT.out, HSG.out, HTR.out, d8]
                          go_quiet ((first | (go_at_call 25; exact Calls.quiet_of (rName_val _ _ HN.out _ HNM.out)) | (go_at_call 26; exact Calls.quiet_of (rattrs_val _ _ _ (HK.out _) _ HAT.out)) | (go_at_call 27; exact Calls.quiet_of (rSigns_val _ _ HX.out _ HSG.out)) | (go_at_call 28; exact Calls.quiet_of (rTrim_val _ _ HX.out _ HTR.out))))
                          (try go_wp2_with fail)
                          go_meet
                          exact ⟨by rw [HF.out]; rfl, ⟨_, rfl⟩⟩
                        · have HTR : Hid (trimB ns[k].text = trimB ns[k].text) := rfl
                          have b5 : (trimB ns[k].text == ns[k].text) = false := by simp [b4]
                          have HB4 := Lib.hid b4
                          clear b4
                          have HF : Hid ((gateD ns k && elemOK ns[k]) = false) := by show _ = _; simp [elemOK, HB4.out]
                          go_quiet ((first | (go_at_call 25; exact Calls.quiet_of (rName_val _ _ HN.out _ HNM.out)) | (go_at_call 26; exact Calls.quiet_of (rattrs_val _ _ _ (HK.out _) _ HAT.out)) | (go_at_call 27; exact Calls.quiet_of (rSigns_val _ _ HX.out _ HSG.out)) | (go_at_call 28; exact Calls.quiet_of (rTrim_val _ _ HX.out _ HTR.out))))
                          (try go_wp2_with fail)
                          go_meet
                          exact ⟨by rw [HF.out]; rfl, ⟨_, rfl⟩⟩
                      · have b3 : signsB ns[k].text = false := by simpa using b3
                        have HSG := Lib.hid b3
                        clear b3
                        have HF : Hid ((gateD ns k && elemOK ns[k]) = false) := by show _ = _; simp [elemOK, HSG.out]
                        go_quiet ((first | (go_at_call 25; exact Calls.quiet_of (rName_val _ _ HN.out _ HNM.out)) | (go_at_call 26; exact Calls.quiet_of (rattrs_val _ _ _ (HK.out _) _ HAT.out)) | (go_at_call 27; exact Calls.quiet_of (rSigns_val _ _ HX.out _ HSG.out)) | (go_at_call 28; exact Calls.quiet_of (rTrim_val _ _ HX.out _ HTR.out))))
                        (try go_wp2_with fail)
                        go_meet
                        exact ⟨by rw [HF.out]; rfl, ⟨_, rfl⟩⟩
                    · have b2 : attrsB ns[k].attrs = false := by simpa using b2
                      have HAT := Lib.hid b2
                      clear b2
                      have HF : Hid ((gateD ns k && elemOK ns[k]) = false) := by show _ = _; simp [elemOK, HAT.out]
                      go_quiet ((first | (go_at_call 25; exact Calls.quiet_of (rName_val _ _ HN.out _ HNM.out)) | (go_at_call 26; exact Calls.quiet_of (rattrs_val _ _ _ (HK.out _) _ HAT.out)) | (go_at_call 27; exact Calls.quiet_of (rSigns_val _ _ HX.out _ HSG.out)) | (go_at_call 28; exact Calls.quiet_of (rTrim_val _ _ HX.out _ HTR.out))))
                      (try go_wp2_with fail)
                      go_meet
                      exact ⟨by rw [HF.out]; rfl, ⟨_, rfl⟩⟩
                  · have b1 : nameB ns[k].name = false := by simpa using b1
                    have HNM := Lib.hid b1
                    clear b1
                    have HF : Hid ((gateD ns k && elemOK ns[k]) = false) := by show _ = _; simp [elemOK, HNM.out]
                    go_quiet ((first | (go_at_call 25; exact Calls.quiet_of (rName_val _ _ HN.out _ HNM.out)) | (go_at_call 26; exact Calls.quiet_of (rattrs_val _ _ _ (HK.out _) _ HAT.out)) | (go_at_call 27; exact Calls.quiet_of (rSigns_val _ _ HX.out _ HSG.out)) | (go_at_call 28; exact Calls.quiet_of (rTrim_val _ _ HX.out _ HTR.out))))
                    (try go_wp2_with fail)
                    go_meet
                    exact ⟨by rw [HF.out]; rfl, ⟨_, rfl⟩⟩
                · have z8 : decide (8 ≤ ns[k].deep) = true := by simp; omega
                  have HF : Hid ((gateD ns k && elemOK ns[k]) = false) := by show _ = _; simp [elemOK, d8]
                  go_quiet ((first | (go_at_call 25; exact Calls.quiet_of (rName_val _ _ HN.out _ HNM.out)) | (go_at_call 26; exact Calls.quiet_of (rattrs_val _ _ _ (HK.out _) _ HAT.out)) | (go_at_call 27; exact Calls.quiet_of (rSigns_val _ _ HX.out _ HSG.out)) | (go_at_call 28; exact Calls.quiet_of (rTrim_val _ _ HX.out _ HTR.out))))
                  (try go_wp2_with fail)
                  go_meet
                  exact ⟨by rw [HF.out]; rfl, ⟨_, rfl⟩⟩
              · have hz : decide ((k : Int) > 0) = true := by simp; omega
                have hp1 : k - 1 < ns.length := by omega
                obtain ⟨a2, v2, ha2, p0, -⟩ := (hp0.keep hb).at_ (k - 1) hp1
                cases ha2
                have p1 := cell_keep ((Below.refl wr.heap.size wr).alloc (Nat.le_refl _) (nodRow ns[k] (.slice A2 ns[k].attrs.length c2))) p0
                have hpb := HPV.out (k - 1) hp1 (by omega)
                have HGD : Hid (gateD ns k = pairD ns[k - 1] ns[k]) := by show _ = _; unfold gateD; rw [dif_pos ⟨hk0, hlt⟩]
                unfold nodRow at p1
                clear p0
                by_cases d1 : 1 ≤ ns[k].deep
                · have z1 : decide (ns[k].deep < 1) = false := by simp; omega
                  have w1 : IntKind.i64.wrap (ns[k - 1].deep + 1) = ns[k - 1].deep + 1 := IntWalk.i64_in _ (by omega)
                  by_cases d2 : ns[k].deep ≤ ns[k - 1].deep + 1
                  · have z2 : decide (ns[k - 1].deep + 1 < ns[k].deep) = false := by simp; omega
                    have HG : Hid (gateD ns k = true) := by show _ = _; rw [HGD.out]; simp [pairD, d1, d2]
                    by_cases d8 : ns[k].deep < 8
                    · have z8 : decide (8 ≤ ns[k].deep) = false := by simp; omega
                      by_cases b1 : nameB ns[k].name = true
                      · have HNM := Lib.hid b1
                        clear b1
                        by_cases b2 : attrsB ns[k].attrs = true
                        · have HAT := Lib.hid b2
                          clear b2
                          by_cases b3 : signsB ns[k].text = true
                          · have HSG := Lib.hid b3
                            clear b3
                            by_cases b4 : trimB ns[k].text = ns[k].text
                            · have HTR := Lib.hid b4
                              have b5 : (ns[k].text == ns[k].text) = true := by simp
                              clear b4
                              have HF : Hid ((gateD ns k && elemOK ns[k]) = true) := by show _ = _; simp [HG.out, elemOK, HNM.out, HAT.out, HSG.out, HTR.out, d8]
                              go_quiet ((first | (go_at_call 25; exact Calls.quiet_of (rName_val _ _ HN.out _ HNM.out)) | (go_at_call 26; exact Calls.quiet_of (rattrs_val _ _ _ (HK.out _) _ HAT.out)) | (go_at_call 27; exact Calls.quiet_of (rSigns_val _ _ HX.out _ HSG.out)) | (go_at_call 28; exact Calls.quiet_of (rTrim_val _ _ HX.out _ HTR.out))))
                              (try go_wp2_with fail)
                              go_meet
                              exact ⟨by rw [HF.out]; rfl, ⟨_, rfl⟩⟩
                            · have HTR : Hid (trimB ns[k].text = trimB ns[k].text) := rfl
                              have b5 : (trimB ns[k].text == ns[k].text) = false := by simp [b4]
                              have HB4 := Lib.hid b4
                              clear b4
                              have HF : Hid ((gateD ns k && elemOK ns[k]) = false) := by show _ = _; simp [elemOK, HB4.out]
                              go_quiet ((first | (go_at_call 25; exact Calls.quiet_of (rName_val _ _ HN.out _ HNM.out)) | (go_at_call 26; exact Calls.quiet_of (rattrs_val _ _ _ (HK.out _) _ HAT.out)) | (go_at_call 27; exact Calls.quiet_of (rSigns_val _ _ HX.out _ HSG.out)) | (go_at_call 28; exact Calls.quiet_of (rTrim_val _ _ HX.out _ HTR.out))))
                              (try go_wp2_with fail)
                              go_meet
                              exact ⟨by rw [HF.out]; rfl, ⟨_, rfl⟩⟩
                          · have b3 : signsB ns[k].text = false := by simpa using b3
                            have HSG := Lib.hid b3
                            clear b3
                            have HF : Hid ((gateD ns k && elemOK ns[k]) = false) := by show _ = _; simp [elemOK, HSG.out]
                            go_quiet ((first | (go_at_call 25; exact Calls.quiet_of (rName_val _ _ HN.out _ HNM.out)) | (go_at_call 26; exact Calls.quiet_of (rattrs_val _ _ _ (HK.out _) _ HAT.out)) | (go_at_call 27; exact Calls.quiet_of (rSigns_val _ _ HX.out _ HSG.out)) | (go_at_call 28; exact Calls.quiet_of (rTrim_val _ _ HX.out _ HTR.out))))
                            (try go_wp2_with fail)
                            go_meet
                            exact ⟨by rw [HF.out]; rfl, ⟨_, rfl⟩⟩
                        · have b2 : attrsB ns[k].attrs = false := by simpa using b2
                          have HAT := Lib.hid b2
                          clear b2
                          have HF : Hid ((gateD ns k && elemOK ns[k]) = false) := by show _ = _; simp [elemOK, HAT.out]
                          go_quiet ((first | (go_at_call 25; exact Calls.quiet_of (rName_val _ _ HN.out _ HNM.out)) | (go_at_call 26; exact Calls.quiet_of (rattrs_val _ _ _ (HK.out _) _ HAT.out)) | (go_at_call 27; exact Calls.quiet_of (rSigns_val _ _ HX.out _ HSG.out)) | (go_at_call 28; exact Calls.quiet_of (rTrim_val _ _ HX.out _ HTR.out))))
                          (try go_wp2_with fail)
                          go_meet
                          exact ⟨by rw [HF.out]; rfl, ⟨_, rfl⟩⟩
                      · have b1 : nameB ns[k].name = false := by simpa using b1
                        have HNM := Lib.hid b1
                        clear b1
                        have HF : Hid ((gateD ns k && elemOK ns[k]) = false) := by show _ = _; simp [elemOK, HNM.out]
                        go_quiet ((first | (go_at_call 25; exact Calls.quiet_of (rName_val _ _ HN.out _ HNM.out)) | (go_at_call 26; exact Calls.quiet_of (rattrs_val _ _ _ (HK.out _) _ HAT.out)) | (go_at_call 27; exact Calls.quiet_of (rSigns_val _ _ HX.out _ HSG.out)) | (go_at_call 28; exact Calls.quiet_of (rTrim_val _ _ HX.out _ HTR.out))))
                        (try go_wp2_with fail)
                        go_meet
                        exact ⟨by rw [HF.out]; rfl, ⟨_, rfl⟩⟩
                    · have z8 : decide (8 ≤ ns[k].deep) = true := by simp; omega
                      have HF : Hid ((gateD ns k && elemOK ns[k]) = false) := by show _ = _; simp [elemOK, d8]
                      go_quiet ((first | (go_at_call 25; exact Calls.quiet_of (rName_val _ _ HN.out _ HNM.out)) | (go_at_call 26; exact Calls.quiet_of (rattrs_val _ _ _ (HK.out _) _ HAT.out)) | (go_at_call 27; exact Calls.quiet_of (rSigns_val _ _ HX.out _ HSG.out)) | (go_at_call 28; exact Calls.quiet_of (rTrim_val _ _ HX.out _ HTR.out))))
                      (try go_wp2_with fail)
                      go_meet
                      exact ⟨by rw [HF.out]; rfl, ⟨_, rfl⟩⟩
                  · have z2 : decide (ns[k - 1].deep + 1 < ns[k].deep) = true := by simp; omega
                    have HF : Hid ((gateD ns k && elemOK ns[k]) = false) := by show _ = _; rw [HGD.out]; simp [pairD, d2]
                    go_quiet ((first | (go_at_call 25; exact Calls.quiet_of (rName_val _ _ HN.out _ HNM.out)) | (go_at_call 26; exact Calls.quiet_of (rattrs_val _ _ _ (HK.out _) _ HAT.out)) | (go_at_call 27; exact Calls.quiet_of (rSigns_val _ _ HX.out _ HSG.out)) | (go_at_call 28; exact Calls.quiet_of (rTrim_val _ _ HX.out _ HTR.out))))
                    (try go_wp2_with fail)
                    go_meet
                    exact ⟨by rw [HF.out]; rfl, ⟨_, rfl⟩⟩
                · have z1 : decide (ns[k].deep < 1) = true := by simp; omega
                  have HF : Hid ((gateD ns k && elemOK ns[k]) = false) := by show _ = _; rw [HGD.out]; simp [pairD, d1]
                  go_quiet ((first | (go_at_call 25; exact Calls.quiet_of (rName_val _ _ HN.out _ HNM.out)) | (go_at_call 26; exact Calls.quiet_of (rattrs_val _ _ _ (HK.out _) _ HAT.out)) | (go_at_call 27; exact Calls.quiet_of (rSigns_val _ _ HX.out _ HSG.out)) | (go_at_call 28; exact Calls.quiet_of (rTrim_val _ _ HX.out _ HTR.out))))
                  (try go_wp2_with fail)
                  go_meet
                  exact ⟨by rw [HF.out]; rfl, ⟨_, rfl⟩⟩
            case rest =>
              obtain ⟨hv, n, rfl⟩ := hcut
              subst hv
              have HBW : Hid (∀ m, Below w.heap.size w ((wr.alloc (nodRow ns[k] (.slice A2 ns[k].attrs.length c2))).drewN m)) := fun m => Dr.below ⟨m, rfl⟩ (hb.alloc hb.size _)
              have c0 := new_cell wr #[.int .i64 ns[k].deep, .string ⟨ns[k].name.toArray⟩, (.slice A2 ns[k].attrs.length c2), .string ⟨ns[k].text.toArray⟩] 40
              have hnr : nodRow ns[k] (.slice A2 ns[k].attrs.length c2) = .cells #[.int .i64 ns[k].deep, .string ⟨ns[k].name.toArray⟩, (.slice A2 ns[k].attrs.length c2), .string ⟨ns[k].text.toArray⟩] 40 := rfl
              rw [hnr]
              have HNR := Lib.hid hnr
              clear hnr
              by_cases hok : (gateD ns k && elemOK ns[k]) = true
              · have HOK := Lib.hid hok
                rw [hok]
                clear hok
                have H8 : Hid (0 ≤ ns[k].deep ∧ ns[k].deep < 8) := by
                  have h := HOK.out
                  rw [Bool.and_eq_true] at h
                  have h8 : ns[k].deep < 8 := by have := h.2; unfold elemOK at this; simp at this; exact this.1.1.1.1
                  refine ⟨?_, h8⟩
                  rcases Nat.eq_zero_or_pos k with hk0 | hk0
                  · subst hk0; have := H0.out; omega
                  · have hg := h.1; unfold gateD at hg; rw [dif_pos ⟨hk0, hlt⟩] at hg; unfold pairD at hg; simp at hg; omega
                have HNX : Hid (gateT ns k = true → chainB ns = (gateD ns (k + 1) && chainB (ns.drop (k + 1)))) := fun ht => by
                  have h := HOK.out
                  rw [Bool.and_eq_true] at h
                  rw [HT.out, HA.out, h.1, h.2, ht]; simp
                have HGT : Hid (gateT ns k = (if h : k + 1 < ns.length then pairT ns[k] ns[k + 1] else true)) := rfl
                have hround : gateT ns k = true → ∀ m, Hid ((∃ k_1, k_1 ≤ ns.length ∧ Value.int IntKind.i64 (↑k + 1) = Value.int IntKind.i64 ↑k_1 ∧ chainB ns = (gateD ns k_1 && chainB (ns.drop k_1)) ∧ (∀ j (hj : j < ns.length), j + 1 = k_1 → 0 ≤ ns[j].deep ∧ ns[j].deep < 8) ∧ Below w.heap.size w ((wr.alloc (nodRow ns[k] (.slice A2 ns[k].attrs.length c2))).drewN m))) := fun ht m =>
                  ⟨k + 1, by omega, by go_num, HNX.out ht, fun j hj e => by obtain rfl : j = k := by omega
                                                                            exact H8.out, HBW.out m⟩
                have HRD := Lib.hid hround
                clear hround
                by_cases hn : k + 1 < ns.length
                · have hz : decide ((k : Int) + 1 < (ns.length : Int)) = true := by simp; omega
                  obtain ⟨a3, v3, ha3, q0, -⟩ := (hp0.keep hb).at_ (k + 1) hn
                  cases ha3
                  have q1 := cell_keep ((Below.refl wr.heap.size wr).alloc (Nat.le_refl _) (nodRow ns[k] (.slice A2 ns[k].attrs.length c2))) q0
                  rw [HNR.out] at q1
                  clear q0
                  have HGT2 : Hid (gateT ns k = pairT ns[k] ns[k + 1]) := by show _ = _; rw [HGT.out, dif_pos hn]
                  by_cases hdp : ns[k].deep < ns[k + 1].deep
                  · have zd : decide (ns[k].deep < ns[k + 1].deep) = true := by simp; omega
                    by_cases hte : ns[k].text = []
                    · have HG : Hid (gateT ns k = true) := by show _ = _; rw [HGT2.out]; simp [pairT, hte]
                      have zt : ns[k].text.isEmpty = true := by simp [hte]
                      have zt2 : (ns[k].text == []) = true := by simp [hte]
                      clear hte
                      go_wp2
                      go_quiet (fail)
                      go_wp2
                      exact ⟨HRD.out HG.out _, by simp [intOf]; omega⟩
                    · have HG : Hid (gateT ns k = false) := by show _ = _; rw [HGT2.out]; simp [pairT, hte, hdp]
                      have zt : ns[k].text.isEmpty = false := by simpa using hte
                      have zt2 : (ns[k].text == []) = false := by simpa using hte
                      have HTE := Lib.hid hte
                      clear hte
                      go_wp2
                      go_quiet (fail)
                      go_wp2
                      go_ret
                      refine ⟨ret_int ?_, by rw [World.drewN_drewN]; exact HBW.out _⟩
                      have h := HOK.out
                      rw [Bool.and_eq_true] at h
                      rw [HC.out, HT.out, HA.out, h.1, h.2, HG.out]; rfl
                  · have zd : decide (ns[k].deep < ns[k + 1].deep) = false := by simp; omega
                    have HG : Hid (gateT ns k = true) := by show _ = _; rw [HGT2.out]; simp [pairT, hdp]
                    go_wp2
                    go_quiet (fail)
                    go_wp2
                    exact ⟨HRD.out HG.out _, by simp [intOf]; omega⟩
                · have hz : decide ((k : Int) + 1 < (ns.length : Int)) = false := by simp; omega
                  have HG : Hid (gateT ns k = true) := by show _ = _; rw [HGT.out, dif_neg hn]
                  go_wp2
                  go_quiet (fail)
                  go_wp2
                  exact ⟨HRD.out HG.out _, by simp [intOf]; omega⟩
              · have hok : (gateD ns k && elemOK ns[k]) = false := by simpa using hok
                have HR := HRET.out hok
                rw [hok]
                clear hok
                go_wp2
                go_ret
                exact ⟨HR.out, HBW.out n⟩
          · obtain rfl : k = ns.length := by omega
            go_wp2
            go_ret
            refine ⟨ret_int ?_, hb⟩
            rw [HC.out, HT.out]; simp [gateD, chainB, chkI]
      · have HC : Hid (checkB ns = false) := by
          show _ = _; unfold checkB; rw [List.head?_eq_getElem?, List.getElem?_eq_getElem h1]; simp [h0]
        have e0 : (ns[0].deep != 0) = true := by simp [h0]
        clear h0
        go_enter Tryd.func13, Tryd.ntmps13
        go_wp2
        go_ret
        exact ⟨ret_int (by rw [HC.out]; rfl), Below.refl _ _⟩
    · have HC : Hid (checkB ns = false) := by show _ = _; unfold checkB; simp [h2]
      go_enter Tryd.func13, Tryd.ntmps13
      go_wp2
      go_ret
      exact ⟨ret_int (by rw [HC.out]; rfl), Below.refl _ _⟩
  · have HC : Hid (checkB ns = false) := by show _ = _; unfold checkB; simp [h1]
    go_enter Tryd.func13, Tryd.ntmps13
    go_wp2
    go_ret
    exact ⟨ret_int (by rw [HC.out]; rfl), Below.refl _ _⟩
end Go.Proofs.YtffcapkjfmkkaaaDoor
