/- Where one of a few bytes first stands (anyAt, a range over runes); until. -/
import Derived.Test.YtffcapkjfmkkaaaDoorE
namespace Go.Proofs.YtffcapkjfmkkaaaDoor
open Go.RowKit
theorem get_D (s : ByteArray) (j : Nat) (h : j < s.size) : s.data.toList.getD j 0 = s[j] := by
  rw [List.getD_eq_getElem?_getD, List.getElem?_eq_getElem (by rw [size_list]; exact h), get_list s j h]; rfl
/-- A byte from 128 on: what it begins is high throughout. -/
theorem dec_high (s : ByteArray) (p : Nat) (h : p < s.size) (hi : 128 ≤ s[p].toNat) :
    128 ≤ (Utf8.decode s p).1 ∧ 1 ≤ (Utf8.decode s p).2 ∧ p + (Utf8.decode s p).2 ≤ s.size ∧ ∀ j (hj : j < s.size), p ≤ j → j < p + (Utf8.decode s p).2 → 128 ≤ s[j].toNat := by
  have h1 := decode_high s p h hi
  refine ⟨h1.1, h1.2, ?_⟩
  have key : ∀ n b0 b1 b2 b3 : Nat, 1 ≤ n → (Lib.decodeN n b0 b1 b2 b3).2 ≤ n ∧ (2 ≤ (Lib.decodeN n b0 b1 b2 b3).2 → 128 ≤ b1) ∧ (3 ≤ (Lib.decodeN n b0 b1 b2 b3).2 → 128 ≤ b2) ∧ (4 ≤ (Lib.decodeN n b0 b1 b2 b3).2 → 128 ≤ b3) ∧ (Lib.decodeN n b0 b1 b2 b3).2 ≤ 4 := by
    intro n b0 b1 b2 b3 hn
    unfold Lib.decodeN
    repeat' split
    all_goals (refine ⟨?_, ?_, ?_, ?_, ?_⟩ <;> simp <;> omega)
  have hk := key (s.data.toList.length - p) (s.data.toList.getD p 0).toNat (s.data.toList.getD (p + 1) 0).toNat (s.data.toList.getD (p + 2) 0).toNat (s.data.toList.getD (p + 3) 0).toNat (by rw [size_list]; omega)
  rw [← Lib.decode_N, size_list] at hk
  refine ⟨by omega, fun j hj hpj hjn => ?_⟩
  obtain ⟨k1, k2, k3, k4, k5⟩ := hk
  have : j = p ∨ j = p + 1 ∨ j = p + 2 ∨ j = p + 3 := by omega
  rcases this with rfl | rfl | rfl | rfl
  · exact hi
  · have := k2 (by omega); rwa [get_D s _ hj] at this
  · have := k3 (by omega); rwa [get_D s _ hj] at this
  · have := k4 (by omega); rwa [get_D s _ hj] at this
theorem hasB_high (T : Bs) (hT : ∀ b ∈ T, b.toNat < 128) (c : UInt8) (hc : 128 ≤ c.toNat) : hasB T c = false := by
  rw [hasB_iff]; simp; intro hm; have := hT c hm; omega
theorem dropW_skip (f : UInt8 → Bool) (s : ByteArray) (n p : Nat) (h : p + n ≤ s.size) (hj : ∀ j (hj : j < s.size), p ≤ j → j < p + n → f s[j] = true) : dropW f (s.data.toList.drop p) = dropW f (s.data.toList.drop (p + n)) := by
  induction n generalizing p with
  | zero => rfl
  | succ n ih =>
    rw [drop_cons s p (by omega), dropW, if_pos (hj p (by omega) (by omega) (by omega)), ih (p + 1) (by omega) (fun j hj' h1 h2 => hj j hj' (by omega) (by omega))]
    rw [show p + 1 + n = p + (n + 1) from by omega]
def anyI (T : Bs) (l : Bs) : Int := if posW (notIn T) l 0 < l.length then (posW (notIn T) l 0 : Nat) else -1
/-- The iterator in block k moves on. -/
theorem next_some (w : World) (k : Nat) (s : ByteArray) (p : Nat) (hk : w.heap[k]? = some (.stringIter s p)) (h : p < s.size) :
    ∃ (w1 : World) (c : Nat) (n : Nat), (∀ ty, (Instr.next (.pointer (some ⟨k, 0, none⟩)) true ty).run Tryd.prog w = .ok (.tuple #[.bool true, .int .i64 p, .int .i32 c]) w1) ∧ w1.heap[k]? = some (.stringIter s (p + n)) ∧
      (∀ B a, Below B a w → B ≤ k → Below B a w1) ∧ (∀ j, j ≠ k → w1.heap[j]? = w.heap[j]?) ∧ w1.heap.size = w.heap.size ∧ 1 ≤ n ∧ p + n ≤ s.size ∧
      ((s[p].toNat < 128 ∧ c = s[p].toNat ∧ n = 1) ∨ (128 ≤ s[p].toNat ∧ 128 ≤ c ∧ ∀ j (hj : j < s.size), p ≤ j → j < p + n → 128 ≤ s[j].toNat)) := by
  refine ⟨_, _, _, fun ty => Lib.run_next_any_at (P := Tryd.prog) w k s p ty hk h, Lib.iterAt_heap w k s p _ hk, fun B a hb hB => Lib.below_iterAt hb hB _ _, fun j hj => Lib.iterAt_other w k j s _ hj, Lib.iterAt_size _ _ _ _, ?_⟩
  by_cases hi : s[p].toNat < 128
  · rw [decode_ascii s p h hi]; exact ⟨by simp, by omega, .inl ⟨hi, rfl, rfl⟩⟩
  · have := dec_high s p h (by omega)
    exact ⟨this.2.1, this.2.2.1, .inr ⟨by omega, this.1, this.2.2.2⟩⟩
set_option maxHeartbeats 4000000 in
theorem anyAt_walk (s t : ByteArray) (w : World) (hT : ∀ b ∈ t.data.toList, b.toNat < 128) :
    Calls Tryd.prog 30 #[.string s, .string t] w fun e w' => e = .returned (.int .i64 (anyI t.data.toList s.data.toList)) ∧ Below w.heap.size w w' := by
  have HTT := Lib.hid hT
  clear hT
  go_enter Tryd.func30, Tryd.ntmps30
  go_wp2
  go_loopg [5, 6, 8] s.size (fun g _ _ _ wx => ∃ p : Nat, p + g = s.size ∧ wx.heap[w.heap.size]? = some (.stringIter s p) ∧ dropW (notIn t.data.toList) s.data.toList = dropW (notIn t.data.toList) (s.data.toList.drop p) ∧ Below w.heap.size w wx)
  case atStart => exact ⟨0, by omega, World.iter_heap w s 0, rfl, Below.alloc (Below.refl _ _) (Nat.le_refl _) _⟩
  case round =>
    obtain ⟨p, hpg, hk, ht, hb⟩ := hrel
    have HK := Lib.hid hk
    have HT := Lib.hid ht
    have HB := Lib.hid hb
    clear hk ht hb
    cases gk with
    | zero =>
      obtain rfl : p = s.size := by omega
      have hx := fun ty => Lib.run_next_end_at (P := Tryd.prog) wr w.heap.size s s.size ty HK.out (by omega)
      go_wp2
      go_ret
      refine ⟨ret_int ?_, HB.out⟩
      unfold anyI posW
      rw [List.drop_zero, HT.out, drop_all s s.size (Nat.le_refl _)]; simp [dropW]
    | succ g =>
      have hp : p < s.size := by omega
      obtain ⟨w1, c, n, hnx, hk1, hbl, hoth, hsz, hn1, hn2, hc⟩ := next_some wr w.heap.size s p HK.out hp
      have HK1 := Lib.hid hk1
      have HB1 := Lib.hid (hbl _ _ HB.out (Nat.le_refl _))
      have HC := Lib.hid hc
      clear hk1 hbl hoth hsz hc
      go_wp2
      go_loopg [8] t.size (fun g2 _ wx => ∃ j : Nat, j + g2 = t.size ∧ wx.heap[w1.heap.size]? = some (.stringIter t j) ∧ wx.heap[w.heap.size]? = some (.stringIter s (p + n)) ∧ hasB t.data.toList s[p] = hasB (t.data.toList.drop j) s[p] ∧ Below w.heap.size w wx)
      case atStart =>
        have hl1 : w.heap.size < w1.heap.size := (Array.getElem?_eq_some_iff.1 HK1.out).1
        exact ⟨0, by omega, World.iter_heap w1 t 0, (Below.heap_alloc w1 _ _ hl1).trans HK1.out, rfl, Below.alloc HB1.out (Nat.le_of_lt hl1) _⟩
      case round =>
        obtain ⟨j, hjg, hkj, hks, hh, hb2⟩ := hrel
        have HKJ := Lib.hid hkj
        have HKS := Lib.hid hks
        have HH := Lib.hid hh
        have HB2 := Lib.hid hb2
        have hl1 : w.heap.size < w1.heap.size := (Array.getElem?_eq_some_iff.1 HK1.out).1
        clear hkj hks hh hb2
        cases gk with
        | zero =>
          obtain rfl : j = t.size := by omega
          have hx := fun ty => Lib.run_next_end_at (P := Tryd.prog) wr w1.heap.size t t.size ty HKJ.out (by omega)
          have hin : hasB t.data.toList s[p] = false := by rw [HH.out, drop_all t t.size (Nat.le_refl _)]; rfl
          have HIN := Lib.hid hin
          clear hin
          go_wp2
          go_roundg (s.size - (p + n))
          case measure => omega
          case rel =>
            refine ⟨p + n, by omega, HKS.out, ?_, HB2.out⟩
            rw [HT.out]
            refine dropW_skip _ s n p hn2 (fun q hq h1 h2 => ?_)
            unfold notIn
            rcases HC.out with ⟨-, -, rfl⟩ | ⟨-, -, h3⟩
            · obtain rfl : q = p := by omega
              rw [HIN.out]; rfl
            · rw [hasB_high _ HTT.out _ (h3 q hq h1 h2)]; rfl
        | succ g2 =>
          have hj : j < t.size := by omega
          obtain ⟨w2, c2, n2, hnx2, hk2, hbl2, hoth2, hsz2, hm1, hm2, hc2⟩ := next_some wr w1.heap.size t j HKJ.out hj
          have hta : t[j].toNat < 128 := HTT.out _ (by rw [← get_list t j hj]; exact List.getElem_mem _)
          rcases hc2 with ⟨-, hc2, rfl⟩ | ⟨hx, -⟩
          · have HK2 := Lib.hid hk2
            have HB3 := Lib.hid (hbl2 _ _ HB2.out (Nat.le_of_lt hl1))
            have HS2 : Hid (w2.heap[w.heap.size]? = some (.stringIter s (p + n))) := (hoth2 _ (by omega)).trans HKS.out
            have HDT := Lib.hid (drop_cons t j hj)
            have HC2 := Lib.hid hc2
            clear hk2 hbl2 hoth2 hsz2 hc2
            by_cases he : s[p] = t[j]
            · have hcc : ((c : Int) == (c2 : Int)) = true := by
                have := HC2.out
                rcases HC.out with ⟨-, h1, -⟩ | ⟨h1, -⟩
                · rw [h1, this, he]; simp
                · rw [he] at h1; omega
              have HE := Lib.hid he
              clear he
              go_wp2
              go_ret
              refine ⟨ret_int ?_, HB3.out⟩
              have hin : hasB t.data.toList s[p] = true := by rw [HH.out, HDT.out, hasB, if_pos HE.out.symm]
              have hpos : posW (notIn t.data.toList) s.data.toList 0 = p := by
                unfold posW
                rw [List.drop_zero, HT.out, drop_cons s p hp, dropW, if_neg (by unfold notIn; rw [hin]; simp), List.length_cons, List.length_drop, size_list]; omega
              unfold anyI; rw [hpos, size_list, if_pos hp]
            · have hcc : ((c : Int) == (c2 : Int)) = false := by
                have h2 := HC2.out
                rw [beq_eq_false_iff_ne]
                rcases HC.out with ⟨-, h1, -⟩ | ⟨-, h1, -⟩
                · intro e; apply he; apply UInt8.toNat.inj; omega
                · omega
              have HE := Lib.hid he
              clear he
              go_wp2
              go_roundg g2
              case measure => omega
              case rel => exact ⟨j + 1, by omega, HK2.out, HS2.out, by rw [HH.out, HDT.out, hasB, if_neg (fun e => HE.out e.symm)], HB3.out⟩
          · omega
end Go.Proofs.YtffcapkjfmkkaaaDoor
