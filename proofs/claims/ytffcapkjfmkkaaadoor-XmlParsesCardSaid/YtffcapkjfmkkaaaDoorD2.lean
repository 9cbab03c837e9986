/- Signs, as the program has them. -/
import Derived.Test.YtffcapkjfmkkaaaDoorD
namespace Go.Proofs.YtffcapkjfmkkaaaDoor
open Go.RowKit
def signRows : List (List Bool × Bool) := [([true, true, true, true, false], false), ([true, false, true, true, false], true), ([true, true, false, true, false], true), ([true, true, true, false, false], true), ([false, true, true, true, true], false), ([false, true, true, true, false], true)]
theorem sign_rows : ∀ c : UInt8, ([decide ((c.toNat : Int) < 32), ((c.toNat : Int) != 9), ((c.toNat : Int) != 13), ((c.toNat : Int) != 10), ((c.toNat : Int) == 127)], sign1 c) ∈ signRows := all_u8 (by decide +kernel)
set_option maxHeartbeats 2000000 in
theorem signs_walk (s : ByteArray) (w : World) (hs : s.size ≤ maxLen) :
    Calls Tryd.prog 39 #[.string s] w fun e w' => e = .returned (.bool (signsB s.data.toList)) ∧ Dr w w' := by
  unfold maxLen at hs
  go_enter Tryd.func39, Tryd.ntmps39
  go_wp2
  go_loopw [7, 3, 4] (fun i _ _ wr => ∃ k : Nat, k ≤ s.size ∧ i = .int .i64 k ∧ signsB s.data.toList = signsB (s.data.toList.drop k) ∧ Dr w wr) (fun i _ _ _ => s.size - (intOf i).toNat)
  case atStart => exact ⟨0, by omega, rfl, rfl, Dr.refl w⟩
  case round =>
    obtain ⟨k, hk, rfl, ht, hd⟩ := hrel
    have HT := Lib.hid ht
    clear ht
    by_cases hlt : k < s.size
    · have HD := Lib.hid (drop_cons s k hlt)
      have hm := sign_rows s[k]
      unfold signRows at hm
      simp only [List.mem_cons, Prod.mk.injEq, List.not_mem_nil, or_false, List.cons.injEq, and_true] at hm
      rcases hm with ⟨⟨h1, h2, h3, h4, h5⟩, hv⟩ | ⟨⟨h1, h2, h3, h4, h5⟩, hv⟩ | ⟨⟨h1, h2, h3, h4, h5⟩, hv⟩ | ⟨⟨h1, h2, h3, h4, h5⟩, hv⟩ | ⟨⟨h1, h2, h3, h4, h5⟩, hv⟩ | ⟨⟨h1, h2, h3, h4, h5⟩, hv⟩
      all_goals
        have HV := Lib.hid hv
        clear hv
        go_wp2
        first
          | exact ⟨⟨k + 1, by omega, by go_num, by rw [HT.out, HD.out, signsB, HV.out, Bool.true_and], hd⟩, by simp [intOf]; omega⟩
          | (go_ret
             exact ⟨ret_bool (by rw [HT.out, HD.out, signsB, HV.out]; rfl), hd⟩)
    · have HD := Lib.hid (drop_all s k (by omega))
      go_wp2
      go_ret
      exact ⟨ret_bool (by rw [HT.out, HD.out]; rfl), hd⟩
end Go.Proofs.YtffcapkjfmkkaaaDoor
