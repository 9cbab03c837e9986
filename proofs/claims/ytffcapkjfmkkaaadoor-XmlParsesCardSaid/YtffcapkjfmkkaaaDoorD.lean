/- One byte among a few (strings.ContainsAny); a name, as the program has it. -/
import Derived.Test.YtffcapkjfmkkaaaDoorC5
import Derived.Test.YtffcapkjfmkkaaaDoorS
import Derived.Lib.TrimUEq
import Derived.Lib.OthersKept
namespace Go.Proofs.YtffcapkjfmkkaaaDoor
open Go.RowKit
theorem decode_one (s : ByteArray) (h : s.size = 1) (ha : 128 ≤ (s[0]'(by omega)).toNat) : Utf8.decode s 0 = (65533, 1) := by
  rw [Lib.decode_N]
  refine Lib.decodeN_alone _ _ _ _ _ ?_ (.inl (by rw [size_list]; omega))
  rw [List.getD_eq_getElem?_getD, List.getElem?_eq_getElem (by rw [size_list]; omega), get_list s 0 (by omega)]
  exact ha
set_option maxRecDepth 100000 in
set_option maxHeartbeats 2000000 in
theorem indexRune_bad (s : ByteArray) (w : World) (ha : ∀ (i : Nat) (h : i < s.size), (s[i]'h).toNat < 128) :
    Calls Tryd.prog 72 #[.string s, .int .i32 65533] w fun e w' => e = .returned (.int .i64 (-1)) ∧ Below w.heap.size w w' := by
  have HA := Lib.hid ha
  clear ha
  go_enter Tryd.func72, Tryd.ntmps72
  go_wp2
  go_loopg [5, 6] s.size (fun g _ _ wx => ∃ i : Nat, i + g = s.size ∧ wx = w.iter s i)
  case atStart => exact ⟨0, by omega, rfl⟩
  case round =>
    obtain ⟨i, hig, rfl⟩ := hrel
    cases gk with
    | zero =>
      obtain rfl : i = s.size := by omega
      have hnx := run_next_end (P := Tryd.prog) w s s.size
      go_wp2
      go_ret
      exact ⟨rfl, Below.alloc (Below.refl _ _) (Nat.le_refl _) _⟩
    | succ g =>
      have hi : i < s.size := by omega
      have hnx := fun ty => run_next_ascii (P := Tryd.prog) w s i ty hi (HA.out i hi)
      have h5 : (((s[i]'hi).toNat : Int) == 65533) = false := by
        have := HA.out i hi
        rw [beq_eq_false_iff_ne]; omega
      go_wp2
      go_roundg g
      case measure => omega
      case rel => exact ⟨i + 1, by omega, rfl⟩
def nameMid : Bs := [95, 45, 46, 58]
theorem mid_ascii : ∀ (i : Nat) (h : i < (⟨nameMid.toArray⟩ : ByteArray).size), ((⟨nameMid.toArray⟩ : ByteArray)[i]'h).toNat < 128 := by decide
theorem mid_any : ∀ c : UInt8, Lib.containsAny [c] nameMid = hasB nameMid c := all_u8 (by decide +kernel)
theorem mid_high : ∀ c : UInt8, 128 ≤ c.toNat → hasB nameMid c = false := all_u8 (by decide +kernel)
set_option maxRecDepth 100000 in
set_option maxHeartbeats 2000000 in
theorem indexAny_high (s : ByteArray) (w : World) (h1 : s.size = 1) (ha : 128 ≤ (s[0]'(by omega)).toNat) :
    Calls Tryd.prog 70 #[.string s, .string ⟨nameMid.toArray⟩] w fun e w' => e = .returned (.int .i64 (-1)) ∧ Below w.heap.size w w' := by
  have hd := decode_one s h1 ha
  have h8 : decide ((8 : Int) < (s.size : Int)) = false := decide_eq_false (by omega)
  have H1 := Lib.hid h1
  have HD := Lib.hid hd
  have h0 : 0 < s.size := by omega
  have h9 : ¬ 1 < s.size := by omega
  clear h1 hd ha
  go_enter Tryd.func70, Tryd.ntmps70
  go_wp2_with (go_at_call 79; refine (strings_shouldUseASCIISet _ _).mono ?_; rintro e w' ⟨rfl, hw⟩; rw [hw, h8])
  go_loopg [9, 10] s.size (fun g _ _ wx => ∃ i : Nat, i + g = 1 ∧ wx.heap[w.heap.size]? = some (.stringIter s i) ∧ Below w.heap.size w wx)
  case atStart => exact ⟨0, by have := H1.out; omega, World.iter_heap w s 0, Below.alloc (Below.refl _ _) (Nat.le_refl _) _⟩
  case round =>
    obtain ⟨i, hig, hk, hb⟩ := hrel
    have HK := Lib.hid hk
    clear hk
    cases gk with
    | zero =>
      obtain rfl : i = 1 := by omega
      have hx := fun ty => Lib.run_next_end_at (P := Tryd.prog) wr w.heap.size s 1 ty HK.out h9
      go_wp2
      go_ret
      exact ⟨rfl, hb⟩
    | succ g =>
      obtain rfl : i = 0 := by omega
      have hn0 := fun ty => Lib.run_next_any_at (P := Tryd.prog) wr w.heap.size s 0 ty HK.out h0
      rw [HD.out] at hn0
      go_wp2_with fail
      refine (indexRune_bad _ _ mid_ascii).mono ?_
      rintro e w' ⟨rfl, hb2⟩
      go_wp2
      go_roundg g
      case measure => omega
      case rel =>
        have hlt : w.heap.size < wr.heap.size := (Array.getElem?_eq_some_iff.1 HK.out).1
        refine ⟨1, by omega, ?_, (Lib.below_iterAt hb (Nat.le_refl _) s 1).trans (hb2.mono (by rw [Lib.iterAt_size]; exact hb.size))⟩
        rw [hb2.block _ (by rw [Lib.iterAt_size]; exact hlt)]
        exact Lib.iterAt_heap wr _ s 0 1 HK.out
theorem mid_list (j : Nat) (b : UInt8) (h : nameMid[j]? = some b) : b.toNat < 128 :=
  (by decide : ∀ b ∈ nameMid, b.toNat < 128) b (List.mem_of_getElem? h)
theorem containsAny_one (s : ByteArray) (c : UInt8) (w : World) (h : s.data.toList = [c]) :
    Calls Tryd.prog 60 #[.string s, .string ⟨nameMid.toArray⟩] w fun e w' => e = .returned (.bool (hasB nameMid c)) ∧ Below w.heap.size w w' := by
  have h1 : s.size = 1 := by rw [← size_list, h]; rfl
  have hc : s[0]'(by omega) = c := by
    have := drop_cons s 0 (by omega)
    rw [List.drop_zero, h] at this; injection this with this _; exact this.symm
  by_cases ha : c.toNat < 128
  · refine (strings_ContainsAny_laid s ⟨nameMid.toArray⟩ w (by omega) (by decide) ?_ mid_list).mono ?_
    · rw [h]; intro j b hb
      cases j with
      | zero => simp at hb; subst hb; exact ha
      | succ j => simp at hb
    · rintro e w' ⟨rfl, hb⟩
      refine ⟨?_, hb⟩
      rw [h]; exact ret_bool (mid_any c)
  · have ha' : 128 ≤ c.toNat := by omega
    have hm := mid_high c ha'
    have HI := Lib.hid (fun w => indexAny_high s w h1 (by rw [hc]; exact ha'))
    have HM := Lib.hid hm
    clear hm h ha ha' hc h1
    go_enter Tryd.func60, Tryd.ntmps60
    go_wp2_with fail
    refine (HI.out _).mono ?_
    rintro e w' ⟨rfl, hb⟩
    go_wp2
    go_ret
    exact ⟨by rw [HM.out]; rfl, hb⟩
theorem nm1_mid (c : UInt8) : nm1 false c = ((alphaB c || digitB c) || hasB nameMid c) := by
  have h : hasB nameMid c = (((c.toNat : Int) == 95) || hasB [45, 46, 58] c) := all_u8 (p := fun c => hasB nameMid c = (((c.toNat : Int) == 95) || hasB [45, 46, 58] c)) (by decide +kernel) c
  rw [h]; unfold nm1
  cases alphaB c <;> cases digitB c <;> cases ((c.toNat : Int) == 95) <;> cases hasB [45, 46, 58] c <;> rfl
theorem nmAll_first (c : UInt8) (l : Bs) (h : nm1 true c = true) : nmAll true (c :: l) = nmAll false (c :: l) := by
  unfold nmAll
  have : nm1 false c = true := by
    unfold nm1 at *; simp at h ⊢; exact .inl h
  rw [h, this]
theorem isEmpty_false (s : ByteArray) (h : 0 < s.size) : s.toList.isEmpty = false := by
  rw [Lib.toList_data]
  cases e : s.data.toList with
  | nil => have := size_list s; rw [e] at this; simp at this; omega
  | cons _ _ => rfl
theorem isEmpty_true (s : ByteArray) (h : ¬ 0 < s.size) : s.toList.isEmpty = true := by
  rw [Lib.toList_data]
  have : s.data.toList = [] := List.eq_nil_of_length_eq_zero (by rw [size_list]; omega)
  rw [this]; rfl
set_option maxHeartbeats 2000000 in
theorem Name_walk (s : ByteArray) (w : World) (hs : s.size ≤ maxLen) :
    Calls Tryd.prog 37 #[.string s] w fun e w' => e = .returned (.bool (nameB s.data.toList)) ∧ Below w.heap.size w w' := by
  unfold maxLen at hs
  by_cases h0 : 0 < s.size
  · have he := isEmpty_false s h0
    by_cases h64 : 64 < s.size
    · have h64' : decide ((64 : Int) < (s.size : Int)) = true := decide_eq_true (by omega)
      have HN : Hid (nameB s.data.toList = false) := by
        show _ = _; unfold nameB; rw [size_list, show decide (s.size ≤ 64) = false from decide_eq_false (by omega)]; simp
      go_enter Tryd.func37, Tryd.ntmps37
      go_wp2
      go_ret
      exact ⟨ret_bool HN.out.symm, Below.refl _ _⟩
    · have h64' : decide ((64 : Int) < (s.size : Int)) = false := decide_eq_false (by omega)
      have HN : Hid (nameB s.data.toList = nmAll true s.data.toList) := by
        show _ = _; unfold nameB; rw [size_list, show decide (s.size ≤ 64) = true from decide_eq_true (by omega), show decide (1 ≤ s.size) = true from decide_eq_true h0]; simp
      have HD := Lib.hid (show s.data.toList = s[0] :: s.data.toList.drop 1 from drop_cons s 0 h0)
      have ha := and_alpha s[0]
      by_cases hf : nm1 true s[0] = true
      · have HF := Lib.hid hf
        have HN2 : Hid (nameB s.data.toList = nmAll false s.data.toList) := by
          show _ = _; rw [HN.out, HD.out, nmAll_first _ _ HF.out]
        have hor : alphaB s[0] = true ∨ (alphaB s[0] = false ∧ ((s[0].toNat : Int) != 95) = false) := by
          unfold nm1 at hf
          cases hal : alphaB s[0]
          · rw [hal] at hf; simp at hf; exact .inr ⟨rfl, by simp [hf]⟩
          · exact .inl rfl
        clear hf
        rcases hor with hal | ⟨hal, h95⟩
        all_goals
          rw [hal] at ha
          simp only [if_true, Bool.false_eq_true, if_false] at ha
          clear hal
          go_enter Tryd.func37, Tryd.ntmps37
          go_wp2_with ((go_at_call 59; refine (Class_walk _ _).mono ?_; rintro e w' ⟨rfl, rfl⟩))
          go_loopw [26, 3, 4] (fun i _ _ wr => ∃ k : Nat, k ≤ s.size ∧ i = .int .i64 k ∧ nmAll false s.data.toList = nmAll false (s.data.toList.drop k) ∧ Below w.heap.size w wr) (fun i _ _ _ => s.size - (intOf i).toNat)
          case atStart => exact ⟨0, by omega, rfl, rfl, Below.refl _ _⟩
          case round =>
            obtain ⟨k, hk, rfl, ht, hd⟩ := hrel
            have HT := Lib.hid ht
            clear ht
            by_cases hlt : k < s.size
            · have HD2 := Lib.hid (drop_cons s k hlt)
              have hal := and_alnum s[k]
              have HX : Hid ((s.extract k (k + 1)).data.toList = [s[k]]) := quote_list s k hlt
              cases han : (alphaB s[k] || digitB s[k])
              · rw [han] at hal
                cases hm : hasB nameMid s[k]
                · have HQ : Hid (nm1 false s[k] = false) := by show _ = _; rw [nm1_mid, han, hm]; rfl
                  have HM := Lib.hid hm
                  clear han hm
                  go_wp2_with (first | (go_at_call 59; refine (Class_walk _ _).mono ?_; rintro e w' ⟨rfl, rfl⟩) | (go_at_call 60; refine (containsAny_one _ s[k] _ HX.out).mono ?_; rintro e w' ⟨rfl, hb⟩; rw [HM.out]))
                  go_ret
                  exact ⟨ret_bool (by rw [HN2.out, HT.out, HD2.out, nmAll, HQ.out]; rfl), hd.trans (hb.mono hd.size)⟩
                · have HQ : Hid (nm1 false s[k] = true) := by show _ = _; rw [nm1_mid, han, hm]; rfl
                  have HM := Lib.hid hm
                  clear han hm
                  go_wp2_with (first | (go_at_call 59; refine (Class_walk _ _).mono ?_; rintro e w' ⟨rfl, rfl⟩) | (go_at_call 60; refine (containsAny_one _ s[k] _ HX.out).mono ?_; rintro e w' ⟨rfl, hb⟩; rw [HM.out]))
                  exact ⟨⟨k + 1, by omega, by go_num, by rw [HT.out, HD2.out, nmAll, HQ.out, Bool.true_and], hd.trans (hb.mono hd.size)⟩, by simp [intOf]; omega⟩
              · rw [han] at hal
                have HQ : Hid (nm1 false s[k] = true) := by show _ = _; rw [nm1_mid, han]; rfl
                clear han
                go_wp2_with ((go_at_call 59; refine (Class_walk _ _).mono ?_; rintro e w' ⟨rfl, rfl⟩))
                exact ⟨⟨k + 1, by omega, by go_num, by rw [HT.out, HD2.out, nmAll, HQ.out, Bool.true_and], hd⟩, by simp [intOf]; omega⟩
            · have HD2 := Lib.hid (drop_all s k (by omega))
              go_wp2
              go_ret
              exact ⟨ret_bool (by rw [HN2.out, HT.out, HD2.out]; rfl), hd⟩
      · have hf' : nm1 true s[0] = false := by simpa using hf
        have HN2 : Hid (nameB s.data.toList = false) := by
          show _ = _; rw [HN.out, HD.out, nmAll, hf']; rfl
        have hal : alphaB s[0] = false ∧ ((s[0].toNat : Int) != 95) = true := by
          unfold nm1 at hf'; simp at hf'; exact ⟨hf'.1, by simp [hf'.2]⟩
        obtain ⟨hal, h95⟩ := hal
        rw [hal] at ha
        simp only [Bool.false_eq_true, if_false] at ha
        clear hal hf hf'
        go_enter Tryd.func37, Tryd.ntmps37
        go_wp2_with ((go_at_call 59; refine (Class_walk _ _).mono ?_; rintro e w' ⟨rfl, rfl⟩))
        go_ret
        exact ⟨ret_bool HN2.out.symm, Below.refl _ _⟩
  · have he := isEmpty_true s h0
    have HN : Hid (nameB s.data.toList = false) := by
      show _ = _; unfold nameB; rw [size_list, show decide (1 ≤ s.size) = false from decide_eq_false (by omega)]; simp
    go_enter Tryd.func37, Tryd.ntmps37
    go_wp2
    go_ret
    exact ⟨ret_bool HN.out.symm, Below.refl _ _⟩
end Go.Proofs.YtffcapkjfmkkaaaDoor
