/- What a value or a text stands for, as the reference reads it. -/
import Derived.Test.YtffcapkjfmkkaaaDoorA3
import Derived.Lib.SmallJoins
namespace Go.Proofs.YtffcapkjfmkkaaaDoor
open Go.RowKit
/-- The five names with their semicolons. -/
def entL : Nat → Bs
  | 0 => [97, 109, 112, 59]
  | 1 => [108, 116, 59]
  | 2 => [103, 116, 59]
  | 3 => [113, 117, 111, 116, 59]
  | _ => [97, 112, 111, 115, 59]
def entA (k : Nat) : ByteArray := ⟨(entL k).toArray⟩
def entC : Nat → UInt8
  | 0 => 38
  | 1 => 60
  | 2 => 62
  | 3 => 34
  | _ => 39
/-- Which of the first k names stands ahead (the last of them), or -1. -/
def fndE (l : Bs) : Nat → Int
  | 0 => -1
  | k + 1 => if l.take (entL k).length == entL k then (k : Int) else fndE l k
theorem fndE_lt (l : Bs) (k : Nat) : -1 ≤ fndE l k ∧ fndE l k < k := by
  induction k with
  | zero => unfold fndE; omega
  | succ k ih => unfold fndE; split <;> omega
theorem entL_pos (k : Nat) : 0 < (entL k).length ∧ (entL k).length ≤ 5 := by
  unfold entL; split <;> simp
theorem fndE_at (l : Bs) (k n : Nat) (h : fndE l k = n) : l.take (entL n).length = entL n := by
  induction k with
  | zero => unfold fndE at h; omega
  | succ k ih =>
    unfold fndE at h; split at h
    · rename_i hb
      have : n = k := by omega
      subst this; simpa using hb
    · exact ih h
/-- What a text stands for. -/
def readB : Bs → Option Bs
  | [] => some []
  | c :: l =>
    if c = 38 then
      if fndE l 5 < 0 then none else (readB (l.drop (entL (fndE l 5).toNat).length)).map (entC (fndE l 5).toNat :: ·)
    else (readB l).map (c :: ·)
termination_by l => l.length
decreasing_by all_goals simp; try omega
def optS : Option Bs → Value
  | none => .tuple #[.string ⟨#[]⟩, .bool false]
  | some l => .tuple #[.string ⟨l.toArray⟩, .bool true]
theorem map_app (o : Option Bs) (a : Bs) (c : UInt8) : (o.map (c :: ·)).map (a ++ ·) = o.map ((a ++ [c]) ++ ·) := by
  cases o <;> simp
theorem map_nil (o : Option Bs) : o.map ((⟨#[]⟩ : ByteArray).data.toList ++ ·) = o := by cases o <;> rfl
theorem extract_one (f : Nat) (h : f < 5) : ((⟨#[38, 60, 62, 34, 39]⟩ : ByteArray).extract f (f + 1)).data.toList = [entC f] := by
  match f, h with
  | 0, _ => rfl
  | 1, _ => rfl
  | 2, _ => rfl
  | 3, _ => rfl
  | 4, _ => rfl
def entRow : Obj := .cells #[.string ⟨#[97, 109, 112, 59]⟩, .string ⟨#[108, 116, 59]⟩, .string ⟨#[103, 116, 59]⟩, .string ⟨#[113, 117, 111, 116, 59]⟩, .string ⟨#[97, 112, 111, 115, 59]⟩] 9
theorem entCell (w : World) (k : Nat) (h : k < 5) : (w.alloc entRow).cell? ⟨w.heap.size, k, none⟩ = some (.string (entA k)) := by
  unfold entRow; rw [new_cell]
  match k, h with
  | 0, _ => rfl
  | 1, _ => rfl
  | 2, _ => rfl
  | 3, _ => rfl
  | 4, _ => rfl
theorem entA_size (k : Nat) : (entA k).size = (entL k).length := rfl

set_option maxHeartbeats 1000000 in
theorem rRead_walk (s : ByteArray) (w : World) (hs : s.size ≤ 4096) :
    Calls Tryd.prog 40 #[.string s] w fun e w' => e = .returned (optS (readB s.data.toList)) ∧ Below w.heap.size w w' := by
  have E0 : Hid ((w.alloc (.cells #[.string ⟨#[97, 109, 112, 59]⟩, .string ⟨#[108, 116, 59]⟩, .string ⟨#[103, 116, 59]⟩, .string ⟨#[113, 117, 111, 116, 59]⟩, .string ⟨#[97, 112, 111, 115, 59]⟩] 9)) = w.alloc entRow) := rfl
  go_enter Tryd.func40, Tryd.ntmps40
  go_wp2
  rw [E0.out]
  go_loopw [5, 6] (fun o v wr => ∃ (i : Nat) (out : ByteArray), i ≤ s.size ∧ v = .int .i64 i ∧ o = .string out ∧ out.size ≤ i ∧ readB s.data.toList = (readB (s.data.toList.drop i)).map (out.data.toList ++ ·) ∧ Dr (w.alloc entRow) wr) (fun _ v _ => s.size - (intOf v).toNat)
  case atStart => exact ⟨0, ⟨#[]⟩, by omega, rfl, rfl, Nat.zero_le _, (map_nil _).symm, Dr.refl _⟩
  case round =>
    obtain ⟨i, out, hi, rfl, rfl, ho, ht, hd⟩ := hrel
    have HT := Lib.hid ht
    clear ht
    have HB : Below w.heap.size w wr := hd.below ((Below.refl _ _).alloc (Nat.le_refl _) _)
    by_cases hlt : i < s.size
    · have HD := Lib.hid (drop_cons s i hlt)
      by_cases hc : s[i] = 38
      · have hc' := u8x_false 38 38 rfl hc
        have HC := Lib.hid hc
        clear hc
        have HB0 := (Below.refl w.heap.size w).alloc (Nat.le_refl _) entRow
        obtain ⟨n, rfl⟩ := hd
        have hl : (s.data.toList.drop (i + 1)).length = s.size - (i + 1) := by rw [List.length_drop, size_list]
        have HL := Lib.hid hl
        clear hl
        go_wp2
        go_loopw [7, 8] (fun f v wr => ∃ k : Nat, k ≤ 5 ∧ v = .int .i64 k ∧ f = .int .i64 (fndE (s.data.toList.drop (i + 1)) k) ∧ Dr (w.alloc entRow) wr) (fun _ v _ => 5 - (intOf v).toNat)
        case atStart => exact ⟨0, by omega, rfl, rfl, ⟨n, rfl⟩⟩
        case round =>
          obtain ⟨k, hk, rfl, rfl, hd⟩ := hrel
          have hd0 := hd
          obtain ⟨m, rfl⟩ := hd
          by_cases hk5 : k < 5
          · have hcell := entCell w k hk5
            have HF := Lib.hid (show fndE (s.data.toList.drop (i + 1)) (k + 1) = (if (s.data.toList.drop (i + 1)).take (entL k).length == entL k then (k : Int) else fndE (s.data.toList.drop (i + 1)) k) from rfl)
            have hp := entL_pos k
            rw [← entA_size] at hp
            by_cases hfit : i + 1 + (entA k).size ≤ s.size
            · have hz : decide ((i : Int) + 1 + ((entA k).size : Int) ≤ (s.size : Int)) = true := by simp; omega
              have HX : Hid (((s.extract (i + 1) (i + 1 + (entA k).size)).toList == (entA k).toList) = ((s.data.toList.drop (i + 1)).take (entL k).length == entL k)) := by
                show (_ == _) = (_ == _)
                rw [Lib.toList_data, Lib.toList_data, Lib.extract_data, show i + 1 + (entA k).size - (i + 1) = (entL k).length from by rw [← entA_size]; omega]; rfl
              go_wp2
              go_quiet (fail)
              go_wp2
              · have hq : ((s.extract (i + 1) (i + 1 + (entA k).size)).toList == (entA k).toList) = true := by assumption
                have hq' := HX.out.symm.trans hq
                refine ⟨⟨k + 1, by omega, by go_num, by rw [HF.out, if_pos hq'], ⟨m + nq, rfl⟩⟩, by simp [intOf]; omega⟩
              · have hq : ((s.extract (i + 1) (i + 1 + (entA k).size)).toList == (entA k).toList) = false := by assumption
                have hq' := HX.out.symm.trans hq
                refine ⟨⟨k + 1, by omega, by go_num, by rw [HF.out, hq', if_neg (by simp)], ⟨m + nq, rfl⟩⟩, by simp [intOf]; omega⟩
            · have hz : decide ((i : Int) + 1 + ((entA k).size : Int) ≤ (s.size : Int)) = false := by simp; omega
              go_wp2
              have hq' : ((s.data.toList.drop (i + 1)).take (entL k).length == entL k) = false := by
                rw [beq_eq_false_iff_ne]; intro e
                have := congrArg List.length e
                rw [List.length_take, HL.out, ← entA_size] at this
                omega
              have HQ := Lib.hid hq'
              clear hq'
              go_quiet (fail)
              go_wp2
              refine ⟨⟨k + 1, by omega, by go_num, by rw [HF.out, HQ.out, if_neg (by simp)], ⟨m + nq, rfl⟩⟩, by simp [intOf]; omega⟩
          · obtain rfl : k = 5 := by omega
            have hr := fndE_lt (s.data.toList.drop (i + 1)) 5
            by_cases hneg : fndE (s.data.toList.drop (i + 1)) 5 < 0
            · go_wp2
              go_ret2
              refine ⟨?_, hd0.below HB0⟩
              rw [HT.out, HD.out, HC.out, readB, if_pos rfl, if_pos hneg]; rfl
            · obtain ⟨f, hf⟩ : ∃ f : Nat, fndE (s.data.toList.drop (i + 1)) 5 = f := ⟨(fndE (s.data.toList.drop (i + 1)) 5).toNat, by omega⟩
              have hf5 : f < 5 := by omega
              have hcell := entCell w f hf5
              have HA := Lib.hid (fndE_at _ _ _ hf)
              have hle : i + 1 + (entA f).size ≤ s.size := by
                have := congrArg List.length HA.out
                rw [List.length_take, HL.out] at this
                rw [entA_size]; have := entL_pos f; omega
              have HR := Lib.hid (show ¬ fndE (s.data.toList.drop (i + 1)) 5 < 0 from hneg)
              have HG := Lib.hid hf
              clear hneg hr
              have hp := entL_pos f
              rw [← entA_size] at hp
              go_wp2
              refine ⟨⟨i + 1 + (entA f).size, out ++ (⟨#[38, 60, 62, 34, 39]⟩ : ByteArray).extract f (f + 1), hle, by go_num, rfl, ?_, ?_, ⟨m, rfl⟩⟩, by simp [intOf]; omega⟩
              · rw [ByteArray.size_append, ByteArray.size_extract]; omega
              · rw [HT.out, HD.out, HC.out, readB, if_pos rfl, if_neg HR.out, map_app, Joins.data_append, extract_one f hf5, HG.out]
                simp [entA_size]
      · have hc' := u8x_true 38 38 rfl hc
        go_wp2
        refine ⟨⟨i + 1, out ++ s.extract i (i + 1), by omega, by go_num, rfl, ?_, ?_, hd⟩, by simp [intOf]; omega⟩
        · rw [ByteArray.size_append, ByteArray.size_extract]; omega
        · rw [HT.out, HD.out, readB, if_neg hc, map_app, Joins.data_append, Lib.extract_data, HD.out]; simp
    · have hn : s.data.toList.drop i = [] := drop_all s i (by omega)
      have HN := Lib.hid hn
      clear hn
      go_wp2
      go_ret2
      refine ⟨?_, HB⟩
      rw [HT.out, HN.out, readB]; simp [optS]
end Go.Proofs.YtffcapkjfmkkaaaDoor
