/- An attribute, as the reference reads it. -/
import Derived.Test.YtffcapkjfmkkaaaDoorA4
import Derived.Deep.DeepCutAuto
import Derived.Deep.CutBlock
namespace Go.Proofs.YtffcapkjfmkkaaaDoor
open Go.RowKit
structure Par where
  name : Bs
  value : Bs
  has : Bool
  deriving DecidableEq
def parV (p : Par) : Value := .agg #[.string ⟨p.name.toArray⟩, .string ⟨p.value.toArray⟩, .bool p.has]
def takeW (p : UInt8 → Bool) (l : Bs) : Bs := l.take (l.length - (dropW p l).length)
/-- An attribute ahead, and what is left. -/
def attrS (l : Bs) : Option (Par × Bs) :=
  match dropW (notIn [61]) l with
  | [] => none
  | _ :: l1 =>
    match dropW blankB l1 with
    | [] => none
    | q :: l2 =>
      if q = 34 ∨ q = 39 then
        match dropW (notIn [q, 60]) l2 with
        | [] => none
        | c :: rest =>
          if c = q then
            match readB (takeW (notIn [q, 60]) l2) with
            | none => none
            | some v => some (⟨trimR (takeW (notIn [61]) l), v, true⟩, rest)
          else none
      else none
def attrV (n : Nat) : Option (Par × Bs) → Value
  | none => .tuple #[.agg #[.string ⟨#[]⟩, .string ⟨#[]⟩, .bool false], .int .i64 (-1)]
  | some (p, rest) => .tuple #[parV p, .int .i64 ((n - rest.length : Nat) : Int)]

theorem upto_val (s t : ByteArray) (v : Int) (i : Nat) (hv : v = i) (w : World) (hs : s.size ≤ maxLen) (hi : i ≤ s.size) (htl : t.size ≤ maxLen) (T : Bs) (hT : t.data.toList = T) (p : Nat) (h : posW (notIn T) s.data.toList i = p) :
    Calls Tryd.prog 10 #[.string s, .int .i64 v, .string t] w fun e w' => e = .returned (.int .i64 p) ∧ Dr w w' := by
  subst h hv hT; exact upto_walk s t i w hs hi htl
theorem over_val (s : ByteArray) (v : Int) (i : Nat) (hv : v = i) (w : World) (hs : s.size ≤ maxLen) (hi : i ≤ s.size) (p : Nat) (h : posW blankB s.data.toList i = p) :
    Calls Tryd.prog 12 #[.string s, .int .i64 v] w fun e w' => e = .returned (.int .i64 p) ∧ Dr w w' := by
  subst h hv; exact over_walk s i w hs hi
theorem is_val (s t : ByteArray) (v : Int) (i : Nat) (hv : v = i) (w : World) (hs : s.size ≤ 9223372036854770000) (hi : i ≤ s.size) (htl : t.size ≤ 5000) (T : Bs) (hT : t.data.toList = T) (b : Bool) (h : isB s.data.toList i T = b) :
    Calls Tryd.prog 9 #[.string s, .int .i64 v, .string t] w fun e w' => e = .returned (.bool b) ∧ w = w' := by
  subst h hv hT; exact is_walk s t i w hs hi htl
/-- Where the bytes of a kind end: at the end, or ahead of one. -/
theorem posW_cases (p : UInt8 → Bool) (s : ByteArray) (i : Nat) (h : i ≤ s.size) :
    (dropW p (s.data.toList.drop i) = [] ∧ posW p s.data.toList i = s.size) ∨
    (∃ (k : Nat) (hk : k < s.size), i ≤ k ∧ posW p s.data.toList i = k ∧ dropW p (s.data.toList.drop i) = s[k] :: s.data.toList.drop (k + 1) ∧ takeW p (s.data.toList.drop i) = (s.extract i k).data.toList) := by
  have h1 := posW_le p s.data.toList i (by rw [size_list]; exact h)
  have h2 := posW_drop p s.data.toList i (by rw [size_list]; exact h)
  rw [size_list] at h1
  rcases Nat.lt_or_ge (posW p s.data.toList i) s.size with hlt | hge
  · refine .inr ⟨posW p s.data.toList i, hlt, h1.1, rfl, by rw [← h2, drop_cons s _ hlt], ?_⟩
    unfold takeW
    rw [← h2, Lib.extract_data, List.length_drop, List.length_drop, size_list]
    congr 1; omega
  · have he : posW p s.data.toList i = s.size := by omega
    exact .inl ⟨by rw [← h2, he]; exact drop_all s _ (Nat.le_refl _), he⟩

theorem isB_one (s : ByteArray) (k : Nat) (h : k < s.size) (q : UInt8) : isB s.data.toList k [q] = decide (s[k] = q) := by
  unfold isB; rw [drop_cons s k h]; by_cases e : s[k] = q <;> simp [e]
theorem isB_end (s : ByteArray) (q : UInt8) : isB s.data.toList s.size [q] = false := by
  unfold isB; rw [drop_all s _ (Nat.le_refl _)]; rfl
theorem quote_list (s : ByteArray) (k : Nat) (h : k < s.size) : (s.extract k (k + 1)).data.toList = [s[k]] := by
  rw [Lib.extract_data, drop_cons s k h, show k + 1 - k = 1 from by omega]; rfl
theorem quote_lt (s : ByteArray) (k : Nat) (h : k < s.size) : (s.extract k (k + 1) ++ ⟨#[60]⟩ : ByteArray).data.toList = [s[k], 60] := by
  rw [Joins.data_append, quote_list s k h]; rfl
theorem frozen0 {w : World} {b : Nat} {cs : Array Value} {T : TypeId} (hb : w.heap[b]? = some (.cells cs T (0, 0))) (j : Nat) : w.frozen? ⟨b, j, none⟩ = false := by
  simp [World.frozen?, hb]
def strLen : Value → Nat | .string r => r.size | _ => 0
set_option maxHeartbeats 4000000 in
theorem rattribute_walk (s : ByteArray) (i : Nat) (w : World) (hs : s.size ≤ 4096) (hi : i ≤ s.size) :
    Calls Tryd.prog 23 #[.string s, .int .i64 i] w fun e w' => e = .returned (attrV s.size (attrS (s.data.toList.drop i))) ∧ Below w.heap.size w w' := by
  have hm : s.size ≤ maxLen := by unfold maxLen; omega
  have HM := Lib.hid hm; clear hm
  have HB0 : Hid (Below w.heap.size w (w.alloc (.cells #[.string ⟨#[]⟩, .string ⟨#[]⟩, .bool false] 43))) := (Below.refl _ _).alloc (Nat.le_refl _) _
  rcases posW_cases (notIn [61]) s i hi with ⟨hA, hp⟩ | ⟨k1, hk1, hle1, hp, hA, hT⟩
  · have HA := Lib.hid (show attrS (s.data.toList.drop i) = none by unfold attrS; rw [hA])
    clear hA
    have HP := Lib.hid hp; clear hp
    go_enter Tryd.func23, Tryd.ntmps23
    go_wp2_with fail
    refine (upto_val _ _ _ i rfl _ HM.out hi (by decide) [61] rfl _ HP.out).mono ?_
    rintro e w' ⟨rfl, n1, rfl⟩
    go_wp2
    refine bodyPost_ret (v := attrV s.size none) (by simp [results, Tryd.results23, go_sem, attrV]) rfl ⟨by rw [HA.out], ?_⟩
    exact (Dr.below ⟨_, rfl⟩ HB0.out).setCell (Nat.le_refl _) _ |>.setCell (Nat.le_refl _) _ |>.setCell (Nat.le_refl _) _
  · have HP := Lib.hid hp; clear hp
    have hq1 : ((k1 : Int) == (s.size : Int)) = false := by rw [beq_eq_false_iff_ne]; omega
    go_enter Tryd.func23, Tryd.ntmps23
    go_wp2_with fail
    refine (upto_val _ _ _ i rfl _ HM.out hi (by decide) [61] rfl _ HP.out).mono ?_
    rintro e w' ⟨rfl, n1, rfl⟩
    go_upto_block 0 with (fail)
    go_cut [7] (fun v wr => ∃ r : ByteArray, r.size ≤ k1 - i ∧ v = .string r ∧ trimR (s.extract i k1).data.toList = r.data.toList ∧ Dr (w.alloc (.cells #[.string ⟨#[]⟩, .string ⟨#[]⟩, .bool false] 43)) wr)
    case first =>
      go_wp2_with fail
      go_loopw [7] (fun v wr => ∃ r : ByteArray, r.size ≤ k1 - i ∧ v = .string r ∧ trimR (s.extract i k1).data.toList = trimR r.data.toList ∧ Dr (w.alloc (.cells #[.string ⟨#[]⟩, .string ⟨#[]⟩, .bool false] 43)) wr) (fun v _ => strLen v)
      case atStart => exact ⟨s.extract i k1, by rw [ByteArray.size_extract]; omega, rfl, rfl, ⟨_, rfl⟩⟩
      case round =>
        obtain ⟨r, hk2, rfl, ht, hd⟩ := hrel
        have HR := Lib.hid ht
        clear ht
        by_cases hlr : 0 < r.size
        · have HD2 := Lib.hid (snoc_of r hlr)
          have HB2 : Hid (hasB [32, 9, 13, 10] r[r.size - 1] = blankB r[r.size - 1]) := rfl
          have h1 : r.size - 1 < r.size := by omega
          by_cases hb2 : hasB [32, 9, 13, 10] r[r.size - 1] = true
          · go_wp2_with (go_at_call 22; refine (Has_walk _ _ _ (by decide)).mono ?_; rintro e w' ⟨rfl, rfl⟩)
            refine ⟨⟨r.extract 0 (r.size - 1), by simp [ByteArray.size_extract]; omega, rfl, by rw [HR.out, HD2.out, trimR_snoc, ← HB2.out, if_pos hb2], hd⟩, by simp [strLen, ByteArray.size_extract]; omega⟩
          · have hb2 : hasB [32, 9, 13, 10] r[r.size - 1] = false := by simpa using hb2
            go_wp2_with (go_at_call 22; refine (Has_walk _ _ _ (by decide)).mono ?_; rintro e w' ⟨rfl, rfl⟩)
            go_meet
            exact ⟨r, hk2, rfl, by rw [HR.out, HD2.out, trimR_snoc, ← HB2.out, hb2, if_neg (by simp)], hd⟩
        · go_wp2_with fail
          go_meet
          have h0 : r.data.toList = [] := List.eq_nil_of_length_eq_zero (by rw [size_list]; omega)
          exact ⟨r, hk2, rfl, by rw [HR.out, h0]; rfl, hd⟩
    case rest =>
      obtain ⟨r, hk2, rfl, ht, hd⟩ := hcut
      have HR := Lib.hid ht
      clear ht
      obtain ⟨n2, rfl⟩ := hd
      have HA := Lib.hid hA
      have HT := Lib.hid hT
      clear hA hT
      rcases posW_cases blankB s (k1 + 1) (by omega) with ⟨hA2, hp2⟩ | ⟨k2, hk2', hle2, hp2, hA2, -⟩
      · have HE := Lib.hid (show attrS (s.data.toList.drop i) = none by unfold attrS; rw [HA.out]; simp only; rw [hA2])
        have HP2 := Lib.hid hp2
        clear hp2 hA2
        go_wp2_with fail
        refine (over_val _ _ (k1 + 1) (by omega) _ HM.out (by omega) _ HP2.out).mono ?_
        rintro e w' ⟨rfl, n3, rfl⟩
        go_wp2
        refine bodyPost_ret (v := attrV s.size none) (by simp [results, Tryd.results23, go_sem, attrV]) rfl ⟨by rw [HE.out], ?_⟩
        exact (Dr.below ⟨_, rfl⟩ HB0.out).setCell (Nat.le_refl _) _ |>.setCell (Nat.le_refl _) _ |>.setCell (Nat.le_refl _) _
      · have HA2 := Lib.hid hA2
        have HP2 := Lib.hid hp2
        clear hp2 hA2
        by_cases hq : s[k2] = 34 ∨ s[k2] = 39
        · have HQ := Lib.hid hq
          have e3 : ((k2 : Int) == (s.size : Int)) = false := by rw [beq_eq_false_iff_ne]; omega
          have HQL := Lib.hid (quote_list s k2 hk2')
          have HQT := Lib.hid (quote_lt s k2 hk2')
          have hw : (((s[k2].toNat : Int) != 34) = false) ∨ (((s[k2].toNat : Int) != 34) = true ∧ ((s[k2].toNat : Int) != 39) = false) := by
            by_cases h : s[k2] = 34
            · exact .inl (u8x_false 34 34 rfl h)
            · exact .inr ⟨u8x_true 34 34 rfl h, u8x_false 39 39 rfl (hq.resolve_left h)⟩
          clear hq
          have hcs := posW_cases (notIn [s[k2], 60]) s (k2 + 1) (by omega)
          have HE0 := Lib.hid (show attrS (s.data.toList.drop i) = (match dropW (notIn [s[k2], 60]) (s.data.toList.drop (k2 + 1)) with
              | [] => none
              | c :: rest =>
                if c = s[k2] then
                  match readB (takeW (notIn [s[k2], 60]) (s.data.toList.drop (k2 + 1))) with
                  | none => none
                  | some v => some (⟨r.data.toList, v, true⟩, rest)
                else none) by unfold attrS; rw [HA.out]; simp only; rw [HA2.out]; simp only; rw [if_pos HQ.out, HT.out, HR.out])
          have H3 : Hid (isB s.data.toList s.size [s[k2]] = false) := isB_end s s[k2]
          rcases hw with e1 | ⟨e1, e2⟩
          all_goals
            go_wp2_with fail
            refine (over_val _ _ (k1 + 1) (by omega) _ HM.out (by omega) _ HP2.out).mono ?_
            rintro e w' ⟨rfl, n3, rfl⟩
            go_wp2_with fail
            rcases hcs with ⟨hA3, hp3⟩ | ⟨k3, hk3, hle3, hp3, hA3, hT3⟩
            · have HE := Lib.hid (show attrS (s.data.toList.drop i) = none by rw [HE0.out, hA3])
              have HP3 := Lib.hid hp3
              clear hp3 hA3
              refine (upto_val _ _ _ (k2 + 1) (by omega) _ HM.out (by omega) (by rw [← size_list, HQT.out]; unfold maxLen; simp) _ HQT.out _ HP3.out).mono ?_
              rintro e w' ⟨rfl, n4, rfl⟩
              go_wp2_with fail
              refine (is_val _ _ _ s.size rfl _ (by omega) (by omega) (by rw [ByteArray.size_extract]; omega) _ HQL.out _ H3.out).mono ?_
              rintro e w' ⟨rfl, rfl⟩
              go_wp2_with fail
              refine bodyPost_ret (v := attrV s.size none) (by simp [results, Tryd.results23, go_sem, attrV]) rfl ⟨by rw [HE.out], ?_⟩
              exact (Dr.below ⟨_, rfl⟩ HB0.out).setCell (Nat.le_refl _) _ |>.setCell (Nat.le_refl _) _ |>.setCell (Nat.le_refl _) _
            · have HP3 := Lib.hid hp3
              have HA3 := Lib.hid hA3
              have HT3 := Lib.hid hT3
              clear hp3 hA3 hT3
              have H4 := Lib.hid (isB_one s k3 hk3 s[k2])
              refine (upto_val _ _ _ (k2 + 1) (by omega) _ HM.out (by omega) (by rw [← size_list, HQT.out]; unfold maxLen; simp) _ HQT.out _ HP3.out).mono ?_
              rintro e w' ⟨rfl, n4, rfl⟩
              go_wp2_with fail
              by_cases hc : s[k3] = s[k2]
              · refine (is_val _ _ _ k3 rfl _ (by omega) (by omega) (by rw [ByteArray.size_extract]; omega) _ HQL.out true (by rw [H4.out]; simpa using hc)).mono ?_
                rintro e w' ⟨rfl, rfl⟩
                go_wp2_with fail
                have hsz : (s.extract (k2 + 1) k3).size ≤ 4096 := by rw [ByteArray.size_extract]; omega
                have HZ := Lib.hid hsz
                clear hsz
                refine (rRead_walk _ _ HZ.out).mono ?_
                rintro e w5 ⟨rfl, hb5⟩
                have hh : w5.heap[w.heap.size]? = some (.cells #[.string ⟨#[]⟩, .string ⟨#[]⟩, .bool false] 43 (0, 0)) := by
                  rw [hb5.block _ (by simp)]; simpa using heap_alloc_new w _
                have c0 := blk_cell hh 0
                have c1 := blk_cell hh 1
                have c2 := blk_cell hh 2
                have f0 := frozen0 hh 0
                have f1 := frozen0 hh 1
                have f2 := frozen0 hh 2
                have hlt5 : w.heap.size < w5.heap.size := by
                  rcases Nat.lt_or_ge w.heap.size w5.heap.size with h | h
                  · exact h
                  · rw [Array.getElem?_eq_none h] at hh; cases hh
                simp at c0 c1 c2
                have HB5 : Hid (Below w.heap.size w w5) := (Dr.below ⟨n2 + n3 + n4, rfl⟩ HB0.out).trans (hb5.mono (by simp))
                clear hh
                cases hrd : readB (s.extract (k2 + 1) k3).data.toList with
                | none =>
                  have HE := Lib.hid (show attrS (s.data.toList.drop i) = none by rw [HE0.out, HA3.out]; simp only; rw [if_pos hc, HT3.out, hrd])
                  clear hrd
                  simp only [optS]
                  go_wp2_with fail
                  refine bodyPost_ret (v := attrV s.size none) (by simp [results, Tryd.results23, go_sem, attrV, *]) rfl ⟨by rw [HE.out], ?_⟩
                  exact HB5.out.setCell (Nat.le_refl _) _ |>.setCell (Nat.le_refl _) _ |>.setCell (Nat.le_refl _) _
                | some v =>
                  have HE := Lib.hid (show attrS (s.data.toList.drop i) = some (⟨r.data.toList, v, true⟩, s.data.toList.drop (k3 + 1)) by rw [HE0.out, HA3.out]; simp only; rw [if_pos hc, HT3.out, hrd])
                  clear hrd
                  simp only [optS]
                  go_wp2_with fail
                  refine bodyPost_ret (v := attrV s.size (some (⟨r.data.toList, v, true⟩, s.data.toList.drop (k3 + 1)))) (by simp [results, Tryd.results23, go_sem, attrV, parV, size_list, *]; omega) rfl ⟨by rw [HE.out], ?_⟩
                  exact HB5.out.setCell (Nat.le_refl _) _ |>.setCell (Nat.le_refl _) _ |>.setCell (Nat.le_refl _) _
              · have HE := Lib.hid (show attrS (s.data.toList.drop i) = none by rw [HE0.out, HA3.out]; simp only; rw [if_neg hc])
                refine (is_val _ _ _ k3 rfl _ (by omega) (by omega) (by rw [ByteArray.size_extract]; omega) _ HQL.out false (by rw [H4.out]; simpa using hc)).mono ?_
                rintro e w' ⟨rfl, rfl⟩
                go_wp2_with fail
                refine bodyPost_ret (v := attrV s.size none) (by simp [results, Tryd.results23, go_sem, attrV]) rfl ⟨by rw [HE.out], ?_⟩
                exact (Dr.below ⟨_, rfl⟩ HB0.out).setCell (Nat.le_refl _) _ |>.setCell (Nat.le_refl _) _ |>.setCell (Nat.le_refl _) _
        · have HE := Lib.hid (show attrS (s.data.toList.drop i) = none by unfold attrS; rw [HA.out]; simp only; rw [HA2.out]; simp only; rw [if_neg hq])
          have e1 := u8x_true 34 34 rfl (fun h => hq (.inl h))
          have e2 := u8x_true 39 39 rfl (fun h => hq (.inr h))
          have e3 : ((k2 : Int) == (s.size : Int)) = false := by rw [beq_eq_false_iff_ne]; omega
          clear hq
          go_wp2_with fail
          refine (over_val _ _ (k1 + 1) (by omega) _ HM.out (by omega) _ HP2.out).mono ?_
          rintro e w' ⟨rfl, n3, rfl⟩
          go_wp2
          refine bodyPost_ret (v := attrV s.size none) (by simp [results, Tryd.results23, go_sem, attrV]) rfl ⟨by rw [HE.out], ?_⟩
          exact (Dr.below ⟨_, rfl⟩ HB0.out).setCell (Nat.le_refl _) _ |>.setCell (Nat.le_refl _) _ |>.setCell (Nat.le_refl _) _
end Go.Proofs.YtffcapkjfmkkaaaDoor
