/- until. -/
import Derived.Test.YtffcapkjfmkkaaaDoorE2
namespace Go.Proofs.YtffcapkjfmkkaaaDoor
open Go.RowKit
/-- What until hands back, and where the reader stands then. -/
def UntilPost (w : World) (rb : Nat) (s : Bs) (T : Bs) (l : Value) (e : Ending) (w' : World) : Prop :=
  match dropW (notIn T) s with
  | [] => e = gaveUp ∧ Below w.heap.size w w'
  | c :: r => e = .returned (.string ⟨(takeW (notIn T) s).toArray⟩) ∧ Stp w rb (c :: r) l w'
theorem bytes_drop (s : ByteArray) (k : Nat) : (⟨(s.data.toList.drop k).toArray⟩ : ByteArray) = s.extract k s.size := by
  have : (s.extract k s.size).data.toList = s.data.toList.drop k := by
    rw [Lib.extract_data, List.take_of_length_le (by rw [List.length_drop, size_list]; exact Nat.le_refl _)]
  rw [← this]
theorem anyAt_val (s t : ByteArray) (w : World) (T : Bs) (hT : t.data.toList = T) (ha : ∀ b ∈ T, b.toNat < 128) (v : Int) (h : anyI T s.data.toList = v) :
    Calls Tryd.prog 30 #[.string s, .string t] w fun e w' => e = .returned (.int .i64 v) ∧ Below w.heap.size w w' := by
  subst hT h; exact anyAt_walk s t w ha
set_option maxHeartbeats 2000000 in
theorem until_walk (rb : Nat) (s t : ByteArray) (l : Value) (w : World) (hr : Rd w rb s l) (T : Bs) (hT : t.data.toList = T) (ha : ∀ b ∈ T, b.toNat < 128) (hs : s.size ≤ 9223372036854775807) :
    Calls Tryd.prog 17 #[.pointer (some ⟨rb, 0, none⟩), .string t] w (UntilPost w rb s.data.toList T l) := by
  have h0 := hr.s
  have h1 := hr.f
  rcases posW_cases (notIn T) s 0 (by omega) with ⟨hA, hp⟩ | ⟨k, hk, -, hp, hA, hTk⟩
  · rw [List.drop_zero] at hA
    have HV : anyI T s.data.toList = -1 := by unfold anyI; rw [hp, size_list, if_neg (by omega)]
    have HP : Hid (∀ w', Below w.heap.size w w' → UntilPost w rb s.data.toList T l gaveUp w') := fun w' h => by unfold UntilPost; rw [hA]; exact ⟨rfl, h⟩
    clear hA hp
    go_enter Tryd.func17, Tryd.ntmps17
    go_wp2_with fail
    refine (anyAt_val s t _ T hT ha _ HV).mono ?_
    clear HV
    rintro e w1 ⟨rfl, hb⟩
    have HB := Lib.hid hb
    go_wp2_with fail
    refine (fail_walk rb _).mono ?_
    rintro e w2 ⟨rfl, rfl⟩
    go_wp2
    exact ⟨rfl, HP.out _ HB.out⟩
  · rw [List.drop_zero] at hA hTk
    have HV : anyI T s.data.toList = k := by unfold anyI; rw [hp, size_list, if_pos hk]
    have HP : Hid (∀ w', Stp w rb (s.data.toList.drop k) l w' → UntilPost w rb s.data.toList T l (.returned (.string (s.extract 0 k))) w') := fun w' h => by
      unfold UntilPost; rw [hA, hTk]
      rw [drop_cons s k hk] at h
      exact ⟨rfl, h⟩
    clear hA hp hTk
    go_enter Tryd.func17, Tryd.ntmps17
    go_wp2_with fail
    refine (anyAt_val s t _ T hT ha _ HV).mono ?_
    clear HV
    rintro e w1 ⟨rfl, hb⟩
    have HB := Lib.hid hb
    have g0 := (hr.below hb).s
    have g1 := (hr.below hb).f
    have hz : decide ((k : Int) < 0) = false := by simp
    go_wp2_with fail
    go_ret
    refine HP.out _ ?_
    have := hr.stp_below HB.out (s.data.toList.drop k)
    rw [bytes_drop] at this
    exact this
end Go.Proofs.YtffcapkjfmkkaaaDoor
