/- XmlTexts: the statement's own function. -/
import Derived.Test.YtffcapkjfmkkaaaGreatDoorZN
namespace Go.Proofs.YtffcapkjfmkkaaaGreatDoor
open Go.RowKit
theorem trimR_fix (l : Bs) : trimR (trimR l) = trimR l := by
  unfold trimR
  rw [List.reverse_reverse]
  congr 1
  cases h : dropW blankB l.reverse with
  | nil => rfl
  | cons c r => rw [dropW, if_neg (by rw [dropW_head h]; decide)]
theorem dropW_last {p : UInt8 → Bool} (l : Bs) (c : UInt8) (h : p c = false) : dropW p (l ++ [c]) ≠ [] ∧ ∃ r, dropW p (l ++ [c]) = r ++ [c] := by
  induction l with
  | nil => simp [dropW, h]
  | cons x l ih =>
    rw [List.cons_append, dropW]
    split
    · exact ih
    · exact ⟨by simp, x :: l, rfl⟩
theorem dropW_trimR (l : Bs) (h : dropW blankB l = l) : dropW blankB (trimR l) = trimR l := by
  cases l with
  | nil => rfl
  | cons c l =>
    have hc : blankB c = false := dropW_head h
    have e : (c :: l).reverse = l.reverse ++ [c] := by simp
    obtain ⟨-, r, hr⟩ := dropW_last l.reverse c hc
    unfold trimR
    rw [e, hr]
    simp [dropW, hc]
theorem dropW_idem (l : Bs) : dropW blankB (dropW blankB l) = dropW blankB l := by
  cases h : dropW blankB l with
  | nil => rfl
  | cons c r => rw [dropW, if_neg (by rw [dropW_head h]; decide)]
theorem trimB_fix (l : Bs) : trimB (trimB l) = trimB l := by
  unfold trimB
  rw [dropW_trimR _ (dropW_idem l), trimR_fix]
def texN (t v : Bs) : Nod := ⟨0, [97], [⟨[98], v, true⟩], t⟩
theorem tex_check (t v : Bs) (ht : signsB t = true) (hv : signsB v = true) (htr : trimB t = t) : checkB [texN t v] = true := by
  have hn : nameB [97] = true := by decide
  have hn2 : nameB [98] = true := by decide
  simp [checkB, texN, chainB, elemOK, attrsB, attrsA, attrOK, hn, hn2, ht, hv, htr]
theorem tex_len (t v : Bs) : (prB [texN t v]).length ≤ 100 + 6 * t.length + 6 * v.length := by
  have h := ((wr_len 3).1 [texN t v]).1
  simp only [costs, costN, costPs, costP, texN, List.length_cons, List.length_nil] at h
  have e : prologB.length = 39 := rfl
  have e2 : prB [texN t v] = prologB ++ (wrE 3 [texN t v]).1 := rfl
  rw [e2, List.length_append]
  simp only [texN]
  omega
theorem tex_reads (w : World) (t v : Bs) (b1 b2 : Nat) (ht : t.length ≤ 4096) (hv : v.length ≤ 4096) (h1 : w.heap[b1]? = some (.cells #[.string ⟨#[98]⟩, .string ⟨v.toArray⟩, .bool true] 43 (0, 0)))
    (h2 : w.heap[b2]? = some (.cells #[.int .i64 0, .string ⟨#[97]⟩, .slice (some ⟨b1, 0, none⟩) 1 1, .string ⟨t.toArray⟩] 46 (0, 0))) :
    RNod w (.slice (some ⟨b2, 0, none⟩) 1 1) [texN t v] := by
  have hp : RPar w (.slice (some ⟨b1, 0, none⟩) 1 1) [⟨[98], v, true⟩] := by
    refine ⟨_, 1, rfl, Nat.le_refl _, by simp, fun j hj => ⟨_, rfl, ?_⟩⟩
    have : j = 0 := by simpa using hj
    subst this
    rw [addr_add]
    exact ⟨blk_cell h1 0, blk_cell h1 1, blk_cell h1 2, by show 1 ≤ maxLen; unfold maxLen; omega, by show v.length ≤ maxLen; unfold maxLen; omega⟩
  refine ⟨_, 1, rfl, Nat.le_refl _, by simp, fun j hj => ?_⟩
  have : j = 0 := by simpa using hj
  subst this
  refine ⟨_, .slice (some ⟨b1, 0, none⟩) 1 1, rfl, ?_⟩
  rw [addr_add]
  exact ⟨blk_cell h2 0, blk_cell h2 1, blk_cell h2 2, hp, blk_cell h2 3, by show 1 ≤ maxLen; unfold maxLen; omega, by show t.length ≤ maxLen; unfold maxLen; omega⟩
theorem rSigns_b (l : Bs) (w : World) (hs : l.length ≤ maxLen) (b : Bool) (h : signsB l = b) :
    Calls Tryz.prog 18 #[.string ⟨l.toArray⟩] w fun e w' => e = .returned (.bool b) ∧ Below w.heap.size w w' :=
  (rSigns_val l w hs b h).mono fun _ _ ⟨h, hd⟩ => ⟨h, hd.below0⟩
set_option maxRecDepth 100000 in
set_option maxHeartbeats 4000000 in
theorem xmlTexts_walk (s v : Bs) (w : World) (m : Int) (hm : Mx w m) (hs : s.length ≤ 140737488351232) (hv : v.length ≤ 140737488351232) :
    Calls Tryz.prog 7 #[.string ⟨s.toArray⟩, .string ⟨v.toArray⟩] w fun e w' => e = .returned (.bool true) ∧ Below w.heap.size w w' := by
  have HM := Lib.hid hm
  clear hm
  by_cases hl : 600 < s.length + v.length
  · have hl2 : (600 : Int) < (s.length : Int) + (v.length : Int) := by omega
    go_enter Tryz.func7, Tryz.ntmps7
    go_wp2_with fail
    refine (awake_walk w m HM.out).mono ?_
    rintro e w2 ⟨rfl, hb2⟩
    have HB2 := Lib.hid hb2
    clear hb2
    go_wp2_with fail
    go_ret
    exact ⟨rfl, HB2.out⟩
  · have hl2 : ¬ (600 : Int) < (s.length : Int) + (v.length : Int) := by omega
    have hsm : s.length ≤ 600 := by omega
    have hvm : v.length ≤ 600 := by omega
    have HSM := Lib.hid (show s.length ≤ maxLen by unfold maxLen; omega)
    have HVM := Lib.hid (show v.length ≤ maxLen by unfold maxLen; omega)
    go_enter Tryz.func7, Tryz.ntmps7
    go_wp2_with fail
    cases hss : signsB s with
    | false =>
      refine (rSigns_b s w HSM.out false hss).mono ?_
      clear hss
      rintro e w1 ⟨rfl, hb1⟩
      have HB1 := Lib.hid hb1
      clear hb1
      go_wp2_with fail
      refine (awake_walk w1 m (cell_keep HB1.out HM.out)).mono ?_
      rintro e w2 ⟨rfl, hb2⟩
      have HB2 := Lib.hid (HB1.out.trans (hb2.mono HB1.out.size))
      clear hb2
      go_wp2_with fail
      go_ret
      exact ⟨rfl, HB2.out⟩
    | true =>
      refine (rSigns_b s w HSM.out true hss).mono ?_
      have HSS := Lib.hid hss
      clear hss
      rintro e w1 ⟨rfl, hb1⟩
      have HB1 := Lib.hid hb1
      clear hb1
      go_wp2_with fail
      cases hvv : signsB v with
      | false =>
        refine (rSigns_b v w1 HVM.out false hvv).mono ?_
        clear hvv
        rintro e w2 ⟨rfl, hb2⟩
        have HB2 := Lib.hid (HB1.out.trans (hb2.mono HB1.out.size))
        clear hb2
        go_wp2_with fail
        refine (awake_walk w2 m (cell_keep HB2.out HM.out)).mono ?_
        rintro e w3 ⟨rfl, hb3⟩
        have HB3 := Lib.hid (HB2.out.trans (hb3.mono HB2.out.size))
        clear hb3
        go_wp2_with fail
        go_ret
        exact ⟨rfl, HB3.out⟩
      | true =>
        refine (rSigns_b v w1 HVM.out true hvv).mono ?_
        have HVV := Lib.hid hvv
        clear hvv
        rintro e w2 ⟨rfl, hb2⟩
        have HB2 := Lib.hid (HB1.out.trans (hb2.mono HB1.out.size))
        clear hb2
        go_wp2_with fail
        obtain ⟨t, ht⟩ : ∃ t, trimB s = t := ⟨_, rfl⟩
        have htl := trimB_le2 s
        rw [ht] at htl
        have HTR := Lib.hid (show trimB t = t by rw [← ht]; exact trimB_fix s)
        have HTS := Lib.hid (show signsB t = true by rw [← ht, signs_trim]; exact HSS.out)
        refine (rTrim_val s w2 HSM.out t ht).mono ?_
        clear ht
        rintro e w3 ⟨rfl, hd3⟩
        have HB3 := Lib.hid (HB2.out.trans (hd3.below0.mono HB2.out.size))
        clear hd3
        go_wp2_with fail
        have hbb : Below w3.heap.size w3 ((w3.alloc (.cells #[.string ⟨#[98]⟩, .string ⟨v.toArray⟩, .bool true] 43)).alloc (.cells #[.int .i64 0, .string ⟨#[97]⟩, .slice (some ⟨w3.heap.size, 0, none⟩) 1 1, .string ⟨t.toArray⟩] 46)) :=
          ((Below.refl _ _).alloc (Nat.le_refl _) _).alloc (by simp) _
        have hrd := tex_reads ((w3.alloc (.cells #[.string ⟨#[98]⟩, .string ⟨v.toArray⟩, .bool true] 43)).alloc (.cells #[.int .i64 0, .string ⟨#[97]⟩, .slice (some ⟨w3.heap.size, 0, none⟩) 1 1, .string ⟨t.toArray⟩] 46)) t v w3.heap.size (w3.heap.size + 1) (by omega) (by omega)
          (heap_alloc2_old w3 _ _) (heap_alloc2_new w3 _ _)
        have HB4 := Lib.hid (HB3.out.trans (hbb.mono HB3.out.size))
        have hco : costs [texN t v] ≤ 6291456 := by simp [costs, costN, costPs, costP, texN]; omega
        have hck := tex_check t v HTS.out HVV.out HTR.out
        have htl2 := tex_len t v
        have HCK := Lib.hid hck
        have HD := Lib.hid (doc_back0 _ hck (by omega))
        have hl4 : (prB [texN t v]).length ≤ 4096 := by omega
        refine (pPrint_walk _ [texN t v] _ hrd (attrs_len hco) (fun _ => by omega)).mono ?_
        intro e w4 hpr
        obtain ⟨rfl, hb4⟩ := print_ok hpr HCK.out
        have HB5 := Lib.hid (HB4.out.trans (hb4.mono HB4.out.size))
        clear hpr hb4 hrd hbb hco hck htl2
        obtain ⟨T, hT⟩ : ∃ T, prB [texN t v] = T := ⟨_, rfl⟩
        rw [hT] at hl4 HD ⊢
        clear hT
        go_wp2_with fail
        refine (pParse_walk ⟨T.toArray⟩ w4 m (cell_keep HB5.out HM.out)).mono ?_
        intro e w5 hdp
        obtain ⟨vr, rfl, hr, hb5⟩ := parse_bs hdp hl4 HD.out
        have HB6 := Lib.hid (HB5.out.trans (hb5.mono HB5.out.size))
        have HR := Lib.hid hr
        clear hdp hb5
        obtain ⟨A, c, rfl, -, -⟩ := id hr
        obtain ⟨a, va, rfl, k0, k1, k2, hpa, k3, -⟩ := hr.at_ 0 (by simp)
        have HPA := Lib.hid hpa
        clear hr hpa
        have hlen1 : [texN t v].length = 1 := rfl
        rw [hlen1] at HR ⊢
        clear hlen1
        change w5.cell? _ = some (.int .i64 0) at k0
        change w5.cell? _ = some (.string ⟨#[97]⟩) at k1
        change w5.cell? _ = some (.string ⟨t.toArray⟩) at k3
        rw [Nat.zero_mul, addr_zero] at k0 k1 k2 k3
        go_wp2_with fail
        refine (pAttr_walk 0 ⟨#[97]⟩ ⟨t.toArray⟩ [98] va [⟨[98], v, true⟩] w5 HPA.out).mono ?_
        rintro e w6 ⟨rfl, hb6⟩
        have hg : attrGet [⟨[98], v, true⟩] [98] = (v, true) := rfl
        rw [hg]
        have HB7 := Lib.hid (HB6.out.trans (hb6.mono HB6.out.size))
        have g3 := cell_keep hb6 k3
        clear hg hb6 k0 k1 k2 k3
        go_wp2_with fail
        refine (awake_walk w6 m (cell_keep HB7.out HM.out)).mono ?_
        rintro e w7 ⟨rfl, hb7⟩
        have HB8 := Lib.hid (HB7.out.trans (hb7.mono HB7.out.size))
        clear hb7
        go_wp2_with fail
        go_ret
        exact ⟨rfl, HB8.out⟩
end Go.Proofs.YtffcapkjfmkkaaaGreatDoor
