/- Names, signs and blanks, as the references have them. -/
import Derived.Test.YtffcapkjfmkkaaaDoorA2
namespace Go.Proofs.YtffcapkjfmkkaaaDoor
open Go.RowKit
def alphaB (c : UInt8) : Bool := (decide (65 ≤ c.toNat) && decide (c.toNat ≤ 90)) || (decide (97 ≤ c.toNat) && decide (c.toNat ≤ 122))
def digitB (c : UInt8) : Bool := decide (48 ≤ c.toNat) && decide (c.toNat ≤ 57)
theorem and_alnum : ∀ c : UInt8, (Go.bits .and .i64 (classB c) 3 == 0) = !(alphaB c || digitB c) := all_u8 (by decide +kernel)
theorem and_alpha : ∀ c : UInt8, Go.bits .and .i64 (classB c) 2 = if alphaB c then 2 else 0 := all_u8 (by decide +kernel)
theorem and_digit : ∀ c : UInt8, Go.bits .and .i64 (classB c) 1 = if digitB c then 1 else 0 := all_u8 (by decide +kernel)
/-- One byte of a name: the first, another. -/
def nm1 (first : Bool) (c : UInt8) : Bool := (alphaB c || ((c.toNat : Int) == 95)) || (!first && (digitB c || hasB [45, 46, 58] c))
def nmAll : Bool → Bs → Bool
  | _, [] => true
  | f, c :: l => nm1 f c && nmAll false l
def nameB (l : Bs) : Bool := nmAll true l && decide (1 ≤ l.length) && decide (l.length ≤ 64)
set_option maxHeartbeats 400000 in
theorem rName_walk (s : ByteArray) (w : World) (hs : s.size ≤ maxLen) :
    Calls Tryd.prog 25 #[.string s] w fun e w' => e = .returned (.bool (nameB s.data.toList)) ∧ Dr w w' := by
  unfold maxLen at hs
  go_enter Tryd.func25, Tryd.ntmps25
  go_wp2
  go_loopw [3] (fun i wr => ∃ k : Nat, k ≤ s.size ∧ i = .int .i64 k ∧ nmAll true s.data.toList = nmAll (decide (k = 0)) (s.data.toList.drop k) ∧ Dr w wr) (fun i _ => s.size - (intOf i).toNat)
  case atStart => exact ⟨0, by omega, rfl, rfl, Dr.refl w⟩
  case round =>
    obtain ⟨k, hk, rfl, ht, hd⟩ := hrel
    have HT := Lib.hid ht
    clear ht
    by_cases hlt : k < s.size
    · have HD := Lib.hid (drop_cons s k hlt)
      have ha := and_alpha s[k]
      have hg := and_digit s[k]
      go_wp2_with (first | (go_at_call 41; refine (rClass_walk _ _).mono ?_; rintro e w' ⟨rfl, rfl⟩) | (go_at_call 22; refine (Has_walk _ _ _ (by decide)).mono ?_; rintro e w' ⟨rfl, rfl⟩))
      all_goals first
        | (refine ⟨⟨k + 1, by omega, by go_num, ?_, hd⟩, by simp [intOf]; omega⟩
           rw [HT.out, HD.out, nmAll]
           have hn : nm1 (decide (k = 0)) s[k] = true := by unfold nm1; simp_all
           rw [hn]; simp)
        | (subst_vars
           refine ⟨⟨0 + 1, by omega, by go_num, ?_, hd⟩, by simp [intOf]; omega⟩
           rw [HT.out, HD.out, nmAll]
           have hn : nm1 (decide (0 = 0)) s[0] = true := by unfold nm1; simp_all
           rw [hn]; simp)
        | (go_ret
           refine ⟨ret_bool ?_, hd⟩
           unfold nameB
           rw [HT.out, HD.out, nmAll]
           have hn : nm1 (decide (k = 0)) s[k] = false := by unfold nm1; simp_all
           rw [hn]; simp)
    · have HD := Lib.hid (drop_all s k (by omega))
      go_wp2
      all_goals
        go_ret
        refine ⟨ret_bool ?_, hd⟩
        unfold nameB
        rw [HT.out, HD.out, nmAll, size_list]
        rw [Bool.eq_iff_iff]; simp; omega

/-! ### Signs, blanks -/
def blankB (c : UInt8) : Bool := hasB [32, 9, 13, 10] c
def sign1 (c : UInt8) : Bool := blankB c || !(decide ((c.toNat : Int) < 32) || ((c.toNat : Int) == 127))
def signsB : Bs → Bool
  | [] => true
  | c :: l => sign1 c && signsB l
set_option maxHeartbeats 400000 in
theorem rSigns_walk (s : ByteArray) (w : World) (hs : s.size ≤ maxLen) :
    Calls Tryd.prog 27 #[.string s] w fun e w' => e = .returned (.bool (signsB s.data.toList)) ∧ Dr w w' := by
  unfold maxLen at hs
  go_enter Tryd.func27, Tryd.ntmps27
  go_wp2
  go_loopw [3] (fun i wr => ∃ k : Nat, k ≤ s.size ∧ i = .int .i64 k ∧ signsB s.data.toList = signsB (s.data.toList.drop k) ∧ Dr w wr) (fun i _ => s.size - (intOf i).toNat)
  case atStart => exact ⟨0, by omega, rfl, rfl, Dr.refl w⟩
  case round =>
    obtain ⟨k, hk, rfl, ht, hd⟩ := hrel
    have HT := Lib.hid ht
    clear ht
    by_cases hlt : k < s.size
    · have HD := Lib.hid (drop_cons s k hlt)
      have HB : Hid (hasB [32, 9, 13, 10] s[k] = blankB s[k]) := rfl
      go_wp2_with (go_at_call 22; refine (Has_walk _ _ _ (by decide)).mono ?_; rintro e w' ⟨rfl, rfl⟩)
      all_goals first
        | (refine ⟨⟨k + 1, by omega, by go_num, ?_, hd⟩, by simp [intOf]; omega⟩
           rw [HT.out, HD.out, signsB]
           have hn : sign1 s[k] = true := by unfold sign1; rw [← HB.out]; first | (simp_all; done) | (simp_all; omega)
           rw [hn]; simp)
        | (go_ret
           refine ⟨ret_bool ?_, hd⟩
           rw [HT.out, HD.out, signsB]
           have hn : sign1 s[k] = false := by unfold sign1; rw [← HB.out]; first | (simp_all; done) | (simp_all; omega)
           rw [hn]; simp)
    · have HD := Lib.hid (drop_all s k (by omega))
      go_wp2
      go_ret
      exact ⟨ret_bool (by rw [HT.out, HD.out]; rfl), hd⟩

/-- What is left behind the first bytes of a kind. -/
def dropW (p : UInt8 → Bool) : Bs → Bs
  | [] => []
  | c :: l => if p c then dropW p l else c :: l
/-- The place, from i on, at which the bytes of a kind end. -/
def posW (p : UInt8 → Bool) (l : Bs) (i : Nat) : Nat := l.length - (dropW p (l.drop i)).length
theorem dropW_len (p : UInt8 → Bool) (l : Bs) : (dropW p l).length ≤ l.length := by
  induction l with
  | nil => exact Nat.le_refl _
  | cons c l ih => unfold dropW; split <;> simp; omega
theorem dropW_drop (p : UInt8 → Bool) (l : Bs) : dropW p l = l.drop (l.length - (dropW p l).length) := by
  induction l with
  | nil => rfl
  | cons c l ih =>
    have := dropW_len p l
    unfold dropW; split
    · rw [show (c :: l).length - (dropW p l).length = (l.length - (dropW p l).length) + 1 from by simp; omega, List.drop_succ_cons]; exact ih
    · simp
theorem posW_drop (p : UInt8 → Bool) (l : Bs) (i : Nat) (h : i ≤ l.length) : l.drop (posW p l i) = dropW p (l.drop i) := by
  have h1 := dropW_len p (l.drop i)
  have h2 := dropW_drop p (l.drop i)
  rw [List.length_drop] at h1 h2
  rw [List.drop_drop] at h2
  unfold posW
  rw [h2]; congr 1; rw [← h2]; omega
theorem posW_le (p : UInt8 → Bool) (l : Bs) (i : Nat) (h : i ≤ l.length) : i ≤ posW p l i ∧ posW p l i ≤ l.length := by
  have h1 := dropW_len p (l.drop i)
  rw [List.length_drop] at h1
  unfold posW; omega
theorem posW_here (p : UInt8 → Bool) (l : Bs) (i k : Nat) (hk : k ≤ l.length) (h : dropW p (l.drop i) = l.drop k) : posW p l i = k := by
  unfold posW; rw [h, List.length_drop]; omega

set_option maxHeartbeats 400000 in
/-- over: the first place that is no blank. -/
theorem over_walk (s : ByteArray) (i : Nat) (w : World) (hs : s.size ≤ maxLen) (hi : i ≤ s.size) :
    Calls Tryd.prog 12 #[.string s, .int .i64 i] w fun e w' => e = .returned (.int .i64 (posW blankB s.data.toList i)) ∧ Dr w w' := by
  unfold maxLen at hs
  go_enter Tryd.func12, Tryd.ntmps12
  go_wp2
  go_loopw [1] (fun v wr => ∃ k : Nat, k ≤ s.size ∧ v = .int .i64 k ∧ dropW blankB (s.data.toList.drop i) = dropW blankB (s.data.toList.drop k) ∧ Dr w wr) (fun v _ => s.size - (intOf v).toNat)
  case atStart => exact ⟨i, hi, rfl, rfl, Dr.refl w⟩
  case round =>
    obtain ⟨k, hk, rfl, ht, hd⟩ := hrel
    have HT := Lib.hid ht
    have HP := Lib.hid (posW_here blankB s.data.toList i k (by rw [size_list]; exact hk))
    clear ht
    by_cases hlt : k < s.size
    · have HD := Lib.hid (drop_cons s k hlt)
      have HB : Hid (hasB [32, 9, 13, 10] s[k] = blankB s[k]) := rfl
      go_wp2_with (go_at_call 22; refine (Has_walk _ _ _ (by decide)).mono ?_; rintro e w' ⟨rfl, rfl⟩)
      all_goals first
        | (refine ⟨⟨k + 1, by omega, by go_num, ?_, hd⟩, by simp [intOf]; omega⟩
           have hb : hasB [32, 9, 13, 10] s[k] = true := by assumption
           rw [HT.out, HD.out, dropW, ← HB.out, if_pos hb])
        | (go_ret
           have hb : hasB [32, 9, 13, 10] s[k] = false := by simp_all
           exact ⟨ret_int (by rw [HP.out (by rw [HT.out, HD.out, dropW, ← HB.out, hb]; rfl)]), hd⟩)
    · have HD := Lib.hid (drop_all s k (by omega))
      go_wp2
      go_ret
      exact ⟨ret_int (by rw [HP.out (by rw [HT.out, HD.out]; rfl)]), hd⟩

/-- No sign of a text. -/
def notIn (t : Bs) (c : UInt8) : Bool := !(hasB t c)
set_option maxHeartbeats 400000 in
/-- upto: where the first of some signs stands. -/
theorem upto_walk (s t : ByteArray) (i : Nat) (w : World) (hs : s.size ≤ maxLen) (hi : i ≤ s.size) (htl : t.size ≤ maxLen) :
    Calls Tryd.prog 10 #[.string s, .int .i64 i, .string t] w fun e w' => e = .returned (.int .i64 (posW (notIn t.data.toList) s.data.toList i)) ∧ Dr w w' := by
  unfold maxLen at hs
  go_enter Tryd.func10, Tryd.ntmps10
  go_wp2
  go_loopw [1] (fun v wr => ∃ k : Nat, k ≤ s.size ∧ v = .int .i64 k ∧ dropW (notIn t.data.toList) (s.data.toList.drop i) = dropW (notIn t.data.toList) (s.data.toList.drop k) ∧ Dr w wr) (fun v _ => s.size - (intOf v).toNat)
  case atStart => exact ⟨i, hi, rfl, rfl, Dr.refl w⟩
  case round =>
    obtain ⟨k, hk, rfl, ht, hd⟩ := hrel
    have HT := Lib.hid ht
    have HP := Lib.hid (posW_here (notIn t.data.toList) s.data.toList i k (by rw [size_list]; exact hk))
    clear ht
    by_cases hlt : k < s.size
    · have HD := Lib.hid (drop_cons s k hlt)
      have HB : Hid (notIn t.data.toList s[k] = !(hasB t.data.toList s[k])) := rfl
      go_wp2_with (go_at_call 22; refine (Has_walk _ _ _ htl).mono ?_; rintro e w' ⟨rfl, rfl⟩)
      all_goals first
        | (refine ⟨⟨k + 1, by omega, by go_num, ?_, hd⟩, by simp [intOf]; omega⟩
           have hb : hasB t.data.toList s[k] = false := by simp_all
           rw [HT.out, HD.out, dropW, HB.out, hb]; rfl)
        | (go_ret
           have hb : hasB t.data.toList s[k] = true := by simp_all
           exact ⟨ret_int (by rw [HP.out (by rw [HT.out, HD.out, dropW, HB.out, hb]; rfl)]), hd⟩)
    · have HD := Lib.hid (drop_all s k (by omega))
      go_wp2
      go_ret
      exact ⟨ret_int (by rw [HP.out (by rw [HT.out, HD.out]; rfl)]), hd⟩

/-- is: does a text stand at a place? -/
def isB (l : Bs) (i : Nat) (t : Bs) : Bool := (l.drop i).take t.length == t
set_option maxHeartbeats 400000 in
theorem is_walk (s t : ByteArray) (i : Nat) (w : World) (hs : s.size ≤ 9223372036854770000) (hi : i ≤ s.size) (htl : t.size ≤ 5000) :
    Calls Tryd.prog 9 #[.string s, .int .i64 i, .string t] w fun e w' => e = .returned (.bool (isB s.data.toList i t.data.toList)) ∧ w = w' := by
  by_cases h : i + t.size ≤ s.size
  · go_enter Tryd.func9, Tryd.ntmps9
    go_wp2
    go_ret
    refine ⟨ret_bool ?_, rfl⟩
    unfold isB
    rw [Lib.toList_data, Lib.toList_data, Lib.extract_data, show i + t.size - i = t.data.toList.length from by rw [size_list]; omega]
  · go_enter Tryd.func9, Tryd.ntmps9
    go_wp2
    go_ret
    refine ⟨ret_bool ?_, rfl⟩
    unfold isB
    symm; rw [beq_eq_false_iff_ne]
    intro e
    have := congrArg List.length e
    rw [List.length_take, List.length_drop, size_list, size_list] at this
    omega

/-- Without blanks at the end; at both ends. -/
def trimR (l : Bs) : Bs := (dropW blankB l.reverse).reverse
def trimB (l : Bs) : Bs := trimR (dropW blankB l)
theorem trimR_snoc (l : Bs) (c : UInt8) : trimR (l ++ [c]) = if blankB c then trimR l else l ++ [c] := by
  unfold trimR; rw [List.reverse_append]; simp only [List.reverse_cons, List.reverse_nil, List.nil_append, List.cons_append]
  rw [dropW]; split
  · rfl
  · simp
theorem snoc_of (t : ByteArray) (h : 0 < t.size) : t.data.toList = (t.extract 0 (t.size - 1)).data.toList ++ [t[t.size - 1]] := by
  have h2 := take_snoc t (t.size - 1) (by omega)
  rw [show t.size - 1 + 1 = t.size from by omega, List.take_of_length_le (by rw [size_list]; exact Nat.le_refl _)] at h2
  rw [h2, Lib.extract_data]; simp
theorem cons_of (t : ByteArray) (h : 0 < t.size) : t.data.toList = t[0] :: (t.extract 1 t.size).data.toList := by
  have := drop_cons t 0 h
  rw [Lib.extract_data, List.take_of_length_le (by rw [List.length_drop, size_list]; omega)]
  exact this
set_option maxHeartbeats 400000 in
theorem rTrim_walk (s : ByteArray) (w : World) (hs : s.size ≤ maxLen) :
    Calls Tryd.prog 28 #[.string s] w fun e w' => e = .returned (.string ⟨(trimB s.data.toList).toArray⟩) ∧ Dr w w' := by
  unfold maxLen at hs
  go_enter Tryd.func28, Tryd.ntmps28
  go_wp2
  go_loopw [0] (fun v wr => ∃ t : ByteArray, t.size ≤ s.size ∧ v = .string t ∧ dropW blankB s.data.toList = dropW blankB t.data.toList ∧ Dr w wr) (fun v _ => match v with | .string t => t.size | _ => 0)
  case atStart => exact ⟨s, Nat.le_refl _, rfl, rfl, Dr.refl w⟩
  case round =>
    obtain ⟨t, hk, rfl, ht, hd⟩ := hrel
    have HT := Lib.hid ht
    clear ht
    by_cases hlt : 0 < t.size
    · have HD := Lib.hid (cons_of t hlt)
      have HB : Hid (hasB [32, 9, 13, 10] t[0] = blankB t[0]) := rfl
      by_cases hb : hasB [32, 9, 13, 10] t[0] = true
      · go_wp2_with (go_at_call 22; refine (Has_walk _ _ _ (by decide)).mono ?_; rintro e w' ⟨rfl, rfl⟩)
        refine ⟨⟨t.extract 1 t.size, by simp [ByteArray.size_extract]; omega, rfl, by rw [HT.out, HD.out, dropW, ← HB.out, if_pos hb], hd⟩, by simp [ByteArray.size_extract]; omega⟩
      · have hb : hasB [32, 9, 13, 10] t[0] = false := by simpa using hb
        have HE : Hid (dropW blankB s.data.toList = t.data.toList) := by
          show _ = _; rw [HT.out, HD.out, dropW, ← HB.out, hb]; rfl
        clear HT HD HB
        go_wp2_with (go_at_call 22; refine (Has_walk _ _ _ (by decide)).mono ?_; rintro e w' ⟨rfl, rfl⟩)
        go_loopw [0] (fun v wr => ∃ r : ByteArray, r.size ≤ t.size ∧ v = .string r ∧ trimR t.data.toList = trimR r.data.toList ∧ Dr w wr) (fun v _ => match v with | .string r => r.size | _ => 0)
        case atStart => exact ⟨t, Nat.le_refl _, rfl, rfl, hd⟩
        case round =>
          obtain ⟨r, hk2, rfl, ht, hd2⟩ := hrel
          have HR := Lib.hid ht
          clear ht
          have HF : Hid (trimB s.data.toList = trimR r.data.toList) := by show _ = _; unfold trimB; rw [HE.out, HR.out]
          by_cases hlr : 0 < r.size
          · have HD2 := Lib.hid (snoc_of r hlr)
            have HB2 : Hid (hasB [32, 9, 13, 10] r[r.size - 1] = blankB r[r.size - 1]) := rfl
            have h1 : r.size - 1 < r.size := by omega
            by_cases hb2 : hasB [32, 9, 13, 10] r[r.size - 1] = true
            · go_wp2_with (go_at_call 22; refine (Has_walk _ _ _ (by decide)).mono ?_; rintro e w' ⟨rfl, rfl⟩)
              refine ⟨⟨r.extract 0 (r.size - 1), by simp [ByteArray.size_extract]; omega, rfl, by rw [HR.out, HD2.out, trimR_snoc, ← HB2.out, if_pos hb2], hd2⟩, by simp [ByteArray.size_extract]; omega⟩
            · have hb2 : hasB [32, 9, 13, 10] r[r.size - 1] = false := by simpa using hb2
              go_wp2_with (go_at_call 22; refine (Has_walk _ _ _ (by decide)).mono ?_; rintro e w' ⟨rfl, rfl⟩)
              go_ret
              refine ⟨ret_bs ?_, hd2⟩
              rw [HF.out, HD2.out, trimR_snoc, ← HB2.out, hb2, if_neg (by simp), ← HD2.out]
          · go_wp2
            go_ret
            refine ⟨ret_bs ?_, hd2⟩
            have h0 : r.data.toList = [] := List.eq_nil_of_length_eq_zero (by rw [size_list]; omega)
            rw [HF.out, h0]; rfl
    · have HE : Hid (dropW blankB s.data.toList = t.data.toList) := by
        have h0 : t.data.toList = [] := List.eq_nil_of_length_eq_zero (by rw [size_list]; omega)
        show _ = _; rw [HT.out, h0]; rfl
      clear HT
      go_wp2
      go_loopw [0] (fun v wr => ∃ r : ByteArray, r.size ≤ t.size ∧ v = .string r ∧ trimR t.data.toList = trimR r.data.toList ∧ Dr w wr) (fun v _ => match v with | .string r => r.size | _ => 0)
      case atStart => exact ⟨t, Nat.le_refl _, rfl, rfl, hd⟩
      case round =>
        obtain ⟨r, hk2, rfl, ht, hd2⟩ := hrel
        have HR := Lib.hid ht
        clear ht
        have HF : Hid (trimB s.data.toList = trimR r.data.toList) := by show _ = _; unfold trimB; rw [HE.out, HR.out]
        have hlr : ¬ 0 < r.size := by omega
        · go_wp2
          go_ret
          refine ⟨ret_bs ?_, hd2⟩
          have h0 : r.data.toList = [] := List.eq_nil_of_length_eq_zero (by rw [size_list]; omega)
          rw [HF.out, h0]; rfl
end Go.Proofs.YtffcapkjfmkkaaaDoor
