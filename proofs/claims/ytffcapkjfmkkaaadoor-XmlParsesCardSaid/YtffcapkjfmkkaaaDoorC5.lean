/- The document of a text, as the reference reads it. -/
import Derived.Test.YtffcapkjfmkkaaaDoorC4
namespace Go.Proofs.YtffcapkjfmkkaaaDoor
open Go.RowKit
def pre5 : Bs := [60, 63, 120, 109, 108]
/-- What stands behind the prolog; none: it is broken. -/
def prologS (s : Bs) : Option Bs :=
  if s.take 5 = pre5 then pre2 63 62 (dropW (notIn [63]) (s.drop 5)) else some s
def docS (s : Bs) : Option (List Nod) :=
  match prologS s with
  | none => none
  | some s1 =>
    match elemS 9000 (dropW blankB s1) 0 0 with
    | none => none
    | some (ms, r) => if dropW blankB r = [] ∧ checkB ms = true then some ms else none
def DocPost (w : World) (s : ByteArray) (e : Ending) (w' : World) : Prop :=
  Below w.heap.size w w' ∧
  if 4096 < s.size then e = .returned (.tuple #[.slice none 0 0, .int .i64 2])
  else match docS s.data.toList with
    | none => e = .returned (.tuple #[.slice none 0 0, .int .i64 130])
    | some ms => ∃ v, e = .returned (.tuple #[v, .int .i64 0]) ∧ RNod w' v ms
theorem grown_none {w w' : World} (h : w.grownBy w' none) : Below w.heap.size w w' := ⟨h.os, h.tape, h.output, h.size, fun k hk => h.block k hk (by simp)⟩
theorem rCheck_val (u : Value) (ns : List Nod) (w : World) (hp : RNod w u ns) (b : Bool) (h : checkB ns = b) :
    Calls Tryd.prog 13 #[u] w fun e w' => e = .returned (.int .i64 (chkI b)) ∧ Below w.heap.size w w' := by
  subst h; exact rCheck_walk u ns w hp
set_option maxRecDepth 100000 in
set_option maxHeartbeats 8000000 in
theorem rParse_walk (s : ByteArray) (w : World) (hs : s.size ≤ maxLen) :
    Calls Tryd.prog 5 #[.string s] w (DocPost w s) := by
  unfold maxLen at hs
  by_cases hl : 4096 < s.size
  · have HL := Lib.hid hl
    go_enter Tryd.func5, Tryd.ntmps5
    go_wp2
    go_ret2
    unfold DocPost
    rw [if_pos HL.out]
    exact ⟨Below.refl _ _, rfl⟩
  · have HL := Lib.hid hl
    have hs4 : s.size ≤ 4096 := by omega
    have HM : Hid (s.size ≤ maxLen) := by show _ ≤ _; unfold maxLen; omega
    go_enter Tryd.func5, Tryd.ntmps5
    have hnone : docS s.data.toList = none → ∀ w', Below w.heap.size w w' → DocPost w s (.returned (.tuple #[.slice none 0 0, .int .i64 130])) w' := fun h w' hb => by
      unfold DocPost; rw [if_neg HL.out, h]; exact ⟨hb, rfl⟩
    have HNONE := Lib.hid hnone
    have H5 : Hid (isB s.data.toList 0 pre5 = (s.data.toList.take 5 == pre5)) := rfl
    clear hnone
    go_wp2_with fail
    generalize hb5 : (s.data.toList.take 5 == pre5) = b5 at H5
    have HB5 := Lib.hid hb5
    clear hb5
    refine (is_val _ _ _ 0 rfl _ (by omega) (by omega) (by decide) pre5 rfl _ H5.out).mono ?_
    rintro e w' ⟨rfl, rfl⟩
    go_upto_if 11 with (fail)
    go_cut [4] (fun av wr => ∃ k : Nat, av = .int .i64 k ∧ k ≤ s.size ∧ prologS s.data.toList = some (s.data.toList.drop k) ∧ Dr w wr)
    case first =>
      cases b5
      · go_wp2_with fail
        go_meet
        exact ⟨0, rfl, by omega, by unfold prologS; rw [if_neg (by have := HB5.out; simpa using this)]; rfl, Dr.refl _⟩
      · have hpre : s.data.toList.take 5 = pre5 := by have := HB5.out; simpa using this
        have h5 : 5 ≤ s.size := by
          have := congrArg List.length hpre
          rw [List.length_take, size_list] at this
          unfold pre5 at this; simp at this; omega
        have HPS : Hid (prologS s.data.toList = pre2 63 62 (s.data.toList.drop (posW (notIn [63]) s.data.toList 5))) := by
          show _ = _
          unfold prologS; rw [if_pos hpre, posW_drop _ _ _ (by rw [size_list]; exact h5)]
        clear hpre
        generalize hp : posW (notIn [63]) s.data.toList 5 = p at HPS
        have hple : p ≤ s.size := by
          have := posW_le (notIn [63]) s.data.toList 5 (by rw [size_list]; exact h5)
          rw [size_list] at this; omega
        have HP := Lib.hid hp
        clear hp
        have HQ : Hid (isB s.data.toList p [63, 62] = (pre2 63 62 (s.data.toList.drop p)).isSome) := by
          show _ = _; unfold isB; rw [← pre2_take]; rfl
        go_wp2_with fail
        refine (upto_val _ _ _ 5 rfl _ HM.out h5 (by decide) [63] rfl _ HP.out).mono ?_
        rintro e w' ⟨rfl, n, rfl⟩
        go_wp2_with fail
        generalize hq : pre2 63 62 (s.data.toList.drop p) = q at HQ HPS
        have HQ2 := Lib.hid hq
        clear hq
        refine (is_val _ _ _ p rfl _ (by omega) hple (by decide) [63, 62] rfl _ HQ.out).mono ?_
        rintro e w' ⟨rfl, rfl⟩
        cases q with
        | none =>
          have hd : docS s.data.toList = none := by unfold docS; rw [HPS.out]
          have HD := Lib.hid hd
          clear hd
          go_wp2_with fail
          go_ret2
          exact HNONE.out HD.out _ (Dr.below0 ⟨_, rfl⟩)
        | some r =>
          have hlen := pre2_len HQ2.out
          rw [List.length_drop, size_list] at hlen
          have hr : r = s.data.toList.drop (p + 2) := by
            have h2 := HQ2.out
            rw [drop_cons s p (by omega), drop_cons s (p + 1) (by omega)] at h2
            unfold pre2 at h2; simp at h2; exact h2.2.symm
          have HR := Lib.hid hr
          clear hr
          go_wp2_with fail
          go_meet
          exact ⟨p + 2, by simp, by omega, by rw [HPS.out, HR.out], ⟨_, rfl⟩⟩
    case rest =>
      obtain ⟨k, rfl, hk, hps, hdr⟩ := hcut
      have HPS := Lib.hid hps
      clear hps
      have HE : Hid (docS s.data.toList = match elemS 9000 (s.data.toList.drop (posW blankB s.data.toList k)) 0 0 with
          | none => none
          | some (ms, r) => if dropW blankB r = [] ∧ checkB ms = true then some ms else none) := by
        show _ = _
        unfold docS; rw [HPS.out, posW_drop _ _ _ (by rw [size_list]; exact hk)]
      generalize hp : posW blankB s.data.toList k = p at HE
      have hple : p ≤ s.size := by
        have := posW_le blankB s.data.toList k (by rw [size_list]; exact hk)
        rw [size_list] at this; omega
      have HP := Lib.hid hp
      clear hp
      go_wp2_with fail
      refine (over_val _ _ k rfl _ HM.out hk _ HP.out).mono ?_
      rintro e w1 ⟨rfl, hd1⟩
      have hd2 := hdr.trans hd1
      clear hd1
      go_wp2_with fail
      refine ((elem_cont 9000).1 s p _ 0 (.slice none 0 0) [] w1.heap.size w1 rfl hs4 hple (by omega) (by omega) (by omega) (ONod.nil _ _) (Nat.le_refl _) (by simp)).mono ?_
      rintro e w2 hep
      unfold ElPost at hep
      rw [show ([] : List Nod).length = 0 from rfl] at hep
      cases hes : elemS 9000 (s.data.toList.drop p) 0 0 with
      | none =>
        rw [hes] at hep
        obtain ⟨hg, rfl⟩ := hep
        have HN := Lib.hid (HE.out.trans (by rw [hes]))
        have HB := Lib.hid (hd2.below0.trans ((grown_none hg).mono hd2.below0.size))
        clear hes hg
        go_wp2_with fail
        go_ret2
        exact HNONE.out HN.out _ HB.out
      | some mr =>
        obtain ⟨ms, r⟩ := mr
        rw [hes] at hep
        obtain ⟨hg, l', i', rfl, hi', hdr', hon, -⟩ := hep
        have HE2 := Lib.hid (HE.out.trans (by rw [hes]))
        have HB := Lib.hid (hd2.below0.trans ((grown_none hg).mono hd2.below0.size))
        have HDR := Lib.hid hdr'
        clear hes hg hdr'
        have hq0 : (decide ((i' : Int) < 0)) = false := by simp
        go_wp2_with fail
        have HDW : Hid (s.data.toList.drop (posW blankB s.data.toList i') = dropW blankB r) := by
          show _ = _; rw [← HDR.out, posW_drop _ _ _ (by rw [size_list]; exact hi')]
        generalize hp2 : posW blankB s.data.toList i' = p2 at HDW
        have hp2le : p2 ≤ s.size := by
          have := posW_le blankB s.data.toList i' (by rw [size_list]; exact hi')
          rw [size_list] at this; omega
        have HP2 := Lib.hid hp2
        clear hp2
        refine (over_val _ _ i' rfl _ HM.out hi' _ HP2.out).mono ?_
        rintro e w3 ⟨rfl, hd3⟩
        have HB3 := Lib.hid (hd3.below HB.out)
        have HON3 := Lib.hid (hon.below hd3.below0)
        clear hd3 hon
        by_cases hlt : p2 < s.size
        · have hne : dropW blankB r ≠ [] := by
            rw [← HDW.out, drop_cons s p2 hlt]; simp
          have HN := Lib.hid (HE2.out.trans (if_neg (fun hh => hne hh.1)))
          clear hne
          go_wp2_with fail
          go_ret2
          exact HNONE.out HN.out _ HB3.out
        · have hnil : dropW blankB r = [] := by rw [← HDW.out, drop_all s p2 (by omega)]
          have HNIL := Lib.hid hnil
          clear hnil
          go_wp2_with fail
          generalize hb : checkB ms = b
          have HBB := Lib.hid hb
          refine (rCheck_val _ ms _ HON3.out.reads b hb).mono ?_
          clear hb
          rintro e w4 ⟨rfl, hb4⟩
          have HB4 := Lib.hid (HB3.out.trans (hb4.mono HB3.out.size))
          have HON4 := Lib.hid (HON3.out.below hb4)
          clear hb4
          cases b
          · have HN := Lib.hid (HE2.out.trans (if_neg (fun hh => by have := HBB.out.symm.trans hh.2; cases this)))
            go_wp2_with fail
            go_ret2
            exact HNONE.out HN.out _ HB4.out
          · have HS := Lib.hid (HE2.out.trans (if_pos ⟨HNIL.out, HBB.out⟩))
            go_wp2_with fail
            go_ret2
            unfold DocPost
            rw [if_neg HL.out, HS.out]
            exact ⟨HB4.out, _, rfl, HON4.out.reads⟩
end Go.Proofs.YtffcapkjfmkkaaaDoor
