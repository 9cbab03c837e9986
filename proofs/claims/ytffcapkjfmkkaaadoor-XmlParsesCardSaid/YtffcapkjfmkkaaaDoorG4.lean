/- The chapter's examples; the statement's own function. -/
import Derived.Test.YtffcapkjfmkkaaaDoorG3
namespace Go.Proofs.YtffcapkjfmkkaaaDoor
open Go.RowKit
def ex1 : Bs := [60, 97, 32, 98, 61, 39, 49, 39, 62, 32, 60, 99, 47, 62, 120, 60, 47, 97, 62]
def ex2 : Bs := [60, 97, 32, 98, 61, 39, 49, 39, 62, 32, 60, 99, 62, 120, 32, 38, 108, 116, 59, 32, 121, 32, 60, 47, 99, 62, 60, 47, 97, 62]
def exN : List Nod := [⟨0, [97], [⟨[98], [49], true⟩], []⟩, ⟨1, [99], [], [120, 32, 60, 32, 121]⟩]
set_option maxRecDepth 100000 in
theorem el1 : elemS 9000 ex1 0 0 = some ([⟨0, [97], [⟨[98], [49], true⟩], [120]⟩, ⟨1, [99], [], []⟩], []) := by
  simp [ex1, elemS, contS, kidsS, closeS, attrsS, attrS, dropW, takeW, blankB, hasB, notIn, pre1, pre2, readB, fndE, entL, entC, trimB, trimR]
set_option maxRecDepth 100000 in
theorem el2 : elemS 9000 ex2 0 0 = some (exN, []) := by
  simp [ex2, exN, elemS, contS, kidsS, closeS, attrsS, attrS, dropW, takeW, blankB, hasB, notIn, pre1, pre2, readB, fndE, entL, entC, trimB, trimR]
theorem doc1 : docS ex1 = none := by
  unfold docS
  rw [show prologS ex1 = some ex1 from rfl]
  simp only []
  rw [show dropW blankB ex1 = ex1 from rfl, el1]
  decide
theorem doc2 : docS ex2 = some exN := by
  unfold docS
  rw [show prologS ex2 = some ex2 from rfl]
  simp only []
  rw [show dropW blankB ex2 = ex2 from rfl, el2]
  decide
def litPar : Array Value := #[.string ⟨#[98]⟩, .string ⟨#[49]⟩, .bool true]
theorem ex_reads (w : World) (b1 b2 : Nat) (h1 : w.heap[b1]? = some (.cells litPar 43 (0, 0)))
    (h2 : w.heap[b2]? = some (.cells #[.int .i64 0, .string ⟨#[97]⟩, .slice (some ⟨b1, 0, none⟩) 1 1, .string ⟨#[]⟩, .int .i64 1, .string ⟨#[99]⟩, .slice none 0 0, .string ⟨#[120, 32, 60, 32, 121]⟩] 40 (0, 0))) :
    RNod w (.slice (some ⟨b2, 0, none⟩) 2 2) exN := by
  have hp : RPar w (.slice (some ⟨b1, 0, none⟩) 1 1) [⟨[98], [49], true⟩] := by
    refine ⟨_, 1, rfl, Nat.le_refl _, by decide, fun j hj => ⟨_, rfl, ?_⟩⟩
    have : j = 0 := by simpa using hj
    subst this
    rw [addr_add]
    exact ⟨blk_cell h1 0, blk_cell h1 1, blk_cell h1 2, by show 1 ≤ maxLen; unfold maxLen; omega, by show 1 ≤ maxLen; unfold maxLen; omega⟩
  have hq : RPar w (.slice none 0 0) [] := ⟨none, 0, rfl, by simp, by simp, fun j hj => by simp at hj⟩
  refine ⟨_, 2, rfl, Nat.le_refl _, by decide, fun j hj => ?_⟩
  have hj2 : j < 2 := hj
  match j, hj2 with
  | 0, _ =>
    refine ⟨_, .slice (some ⟨b1, 0, none⟩) 1 1, rfl, ?_⟩
    rw [addr_add]
    exact ⟨blk_cell h2 0, blk_cell h2 1, blk_cell h2 2, hp, blk_cell h2 3, by show 1 ≤ maxLen; unfold maxLen; omega, by show 0 ≤ maxLen; omega⟩
  | 1, _ =>
    refine ⟨_, .slice none 0 0, rfl, ?_⟩
    rw [addr_add]
    exact ⟨blk_cell h2 4, blk_cell h2 5, blk_cell h2 6, hq, blk_cell h2 7, by show 1 ≤ maxLen; unfold maxLen; omega, by show 5 ≤ maxLen; unfold maxLen; omega⟩
set_option maxRecDepth 100000 in
set_option maxHeartbeats 4000000 in
theorem awake_walk (w : World) (m : Int) (hm : Mx w m) :
    Calls Tryd.prog 7 #[] w fun e w' => e = .returned (.bool true) ∧ Below w.heap.size w w' := by
  have HM := Lib.hid hm
  clear hm
  have HD1 := Lib.hid doc1
  have HD2 := Lib.hid doc2
  go_enter Tryd.func7, Tryd.ntmps7
  go_wp2_with fail
  refine (pParse_walk ⟨ex1.toArray⟩ w m HM.out).mono ?_
  rintro e w1 ⟨hb1, he⟩
  rw [if_neg (by rw [← size_list]; decide), show (⟨ex1.toArray⟩ : ByteArray).data.toList = ex1 from rfl, HD1.out] at he
  subst he
  have HB1 := Lib.hid hb1
  clear hb1
  go_wp2_with fail
  refine (pParse_walk ⟨ex2.toArray⟩ w1 m (cell_keep HB1.out HM.out)).mono ?_
  rintro e w2 ⟨hb2, he⟩
  rw [if_neg (by rw [← size_list]; decide), show (⟨ex2.toArray⟩ : ByteArray).data.toList = ex2 from rfl, HD2.out] at he
  obtain ⟨v, rfl, hr⟩ := he
  have HB2 : Hid (Below w.heap.size w w2) := HB1.out.trans (hb2.mono HB1.out.size)
  have HR := Lib.hid hr
  clear hb2 hr
  go_wp2_with fail
  have hbb : Below w2.heap.size w2 ((w2.alloc (.cells #[.string ⟨#[98]⟩, .string ⟨#[49]⟩, .bool true] 43)).alloc (.cells #[.int .i64 0, .string ⟨#[97]⟩, .slice (some ⟨w2.heap.size, 0, none⟩) 1 1, .string ⟨#[]⟩, .int .i64 1, .string ⟨#[99]⟩, .slice none 0 0, .string ⟨#[120, 32, 60, 32, 121]⟩] 40)) :=
    ((Below.refl _ _).alloc (Nat.le_refl _) _).alloc (by simp) _
  have hlit := ex_reads ((w2.alloc (.cells #[.string ⟨#[98]⟩, .string ⟨#[49]⟩, .bool true] 43)).alloc (.cells #[.int .i64 0, .string ⟨#[97]⟩, .slice (some ⟨w2.heap.size, 0, none⟩) 1 1, .string ⟨#[]⟩, .int .i64 1, .string ⟨#[99]⟩, .slice none 0 0, .string ⟨#[120, 32, 60, 32, 121]⟩] 40)) w2.heap.size (w2.heap.size + 1)
    (heap_alloc2_old w2 _ _) (heap_alloc2_new w2 _ _)
  have HBB := Lib.hid hbb
  refine (rSame_walk v _ exN exN _ (HR.out.keep hbb) hlit).mono ?_
  clear hbb hlit
  rintro e w3 ⟨rfl, hd3⟩
  have HB3 := Lib.hid (Dr.below hd3 (HB2.out.trans (HBB.out.mono HB2.out.size)))
  have hdec : decide (exN = exN) = true := by simp
  go_wp2_with fail
  go_ret
  exact ⟨rfl, HB3.out⟩
/-- The statement's function. -/
theorem xp_walk (s : ByteArray) (w : World) (m : Int) (hm : Mx w m) (hs : s.size ≤ maxLen) :
    Calls Tryd.prog 3 #[.string s] w fun e w' => e = .returned (.bool true) ∧ Below w.heap.size w w' := by
  have HM := Lib.hid hm
  have HS := Lib.hid hs
  clear hm hs
  go_enter Tryd.func3, Tryd.ntmps3
  go_wp2_with fail
  refine (pParse_walk s w m HM.out).mono ?_
  rintro e w1 ⟨hb1, he1⟩
  have HB1 := Lib.hid hb1
  have HM1 := Lib.hid (cell_keep hb1 HM.out)
  clear hb1
  have key : ∃ (u : Value) (k : Int) (ms : List Nod), e = .returned (.tuple #[u, .int .i64 k]) ∧ RNod w1 u ms ∧ ∀ (w' : World) (e' : Ending) (w2 : World), DocPost w' s e' w2 → ∃ u2, e' = .returned (.tuple #[u2, .int .i64 k]) ∧ RNod w2 u2 ms := by
    have hnil : ∀ w, RNod w (.slice none 0 0) [] := fun w => ⟨none, 0, rfl, by simp, by simp, fun j hj => by simp at hj⟩
    by_cases hl : 4096 < s.size
    · rw [if_pos hl] at he1
      refine ⟨_, _, [], he1, hnil _, fun w' e' w2 h => ?_⟩
      have h2 := h.2
      rw [if_pos hl] at h2
      exact ⟨_, h2, hnil _⟩
    · rw [if_neg hl] at he1
      cases hd : docS s.data.toList with
      | none =>
        rw [hd] at he1
        refine ⟨_, _, [], he1, hnil _, fun w' e' w2 h => ?_⟩
        have h2 := h.2
        rw [if_neg hl, hd] at h2
        exact ⟨_, h2, hnil _⟩
      | some ms =>
        rw [hd] at he1
        obtain ⟨v, he1, hr⟩ := he1
        refine ⟨_, _, ms, he1, hr, fun w' e' w2 h => ?_⟩
        have h2 := h.2
        rw [if_neg hl, hd] at h2
        obtain ⟨v2, h3, hr2⟩ := h2
        exact ⟨_, h3, hr2⟩
  clear he1
  obtain ⟨u, k, ms, rfl, hru, hk⟩ := key
  have HRU := Lib.hid hru
  have HK := Lib.hid hk
  clear hru hk
  go_wp2_with fail
  refine (rParse_walk s w1 HS.out).mono ?_
  rintro e w2 hdp
  obtain ⟨u2, rfl, hru2⟩ := HK.out _ _ _ hdp
  have HRU2 := Lib.hid hru2
  have HB2 : Hid (Below w.heap.size w w2) := HB1.out.trans (hdp.1.mono HB1.out.size)
  have HRU1 := Lib.hid (HRU.out.keep hdp.1)
  have HM2 := Lib.hid (cell_keep hdp.1 HM1.out)
  clear hru2 hdp
  go_wp2_with fail
  refine (rSame_walk u u2 ms ms w2 HRU1.out HRU2.out).mono ?_
  rintro e w3 ⟨rfl, hd3⟩
  have HB3 := Lib.hid (Dr.below hd3 HB2.out)
  have HM3 := Lib.hid (cell_keep hd3.below0 HM2.out)
  clear hd3
  have hdec : decide (ms = ms) = true := by simp
  have hkk : (k == k) = true := by simp
  go_wp2_with fail
  refine (awake_walk w3 m HM3.out).mono ?_
  rintro e w4 ⟨rfl, hb4⟩
  have HB4 := Lib.hid (HB3.out.trans (hb4.mono HB3.out.size))
  clear hb4
  go_wp2_with fail
  go_ret
  exact ⟨rfl, HB4.out⟩
end Go.Proofs.YtffcapkjfmkkaaaDoor
