/- rosterref01.Class, and the references' small functions on texts. -/
import Derived.Test.YtffcapkjfmkkaaaDoorA
namespace Go.Proofs.YtffcapkjfmkkaaaDoor
open Go.RowKit
theorem all_u8 {p : UInt8 → Prop} (h : ∀ n, n < 256 → p (UInt8.ofNat n)) (c : UInt8) : p c := by
  have := h c.toNat c.toNat_lt
  rwa [UInt8.ofNat_toNat] at this
def sDig : Bs := [48, 49, 50, 51, 52, 53, 54, 55, 56, 57]
def sLet : Bs := [97, 98, 99, 100, 101, 102, 103, 104, 105, 106, 107, 108, 109, 110, 111, 112, 113, 114, 115, 116, 117, 118, 119, 120, 121, 122, 65, 66, 67, 68, 69, 70, 71, 72, 73, 74, 75, 76, 77, 78, 79, 80, 81, 82, 83, 84, 85, 86, 87, 88, 89, 90]
def sHex : Bs := [48, 49, 50, 51, 52, 53, 54, 55, 56, 57, 97, 98, 99, 100, 101, 102, 65, 66, 67, 68, 69, 70]
def sTok : Bs := [48, 49, 50, 51, 52, 53, 54, 55, 56, 57, 97, 98, 99, 100, 101, 102, 103, 104, 105, 106, 107, 108, 109, 110, 111, 112, 113, 114, 115, 116, 117, 118, 119, 120, 121, 122, 65, 66, 67, 68, 69, 70, 71, 72, 73, 74, 75, 76, 77, 78, 79, 80, 81, 82, 83, 84, 85, 86, 87, 88, 89, 90, 45, 46, 33, 37, 42, 95, 43, 96, 39, 126]
def sPla : Bs := [48, 49, 50, 51, 52, 53, 54, 55, 56, 57, 97, 98, 99, 100, 101, 102, 103, 104, 105, 106, 107, 108, 109, 110, 111, 112, 113, 114, 115, 116, 117, 118, 119, 120, 121, 122, 65, 66, 67, 68, 69, 70, 71, 72, 73, 74, 75, 76, 77, 78, 79, 80, 81, 82, 83, 84, 85, 86, 87, 88, 89, 90, 45, 95, 46, 33, 126, 42, 39, 40, 41]
def sHos : Bs := [48, 49, 50, 51, 52, 53, 54, 55, 56, 57, 97, 98, 99, 100, 101, 102, 103, 104, 105, 106, 107, 108, 109, 110, 111, 112, 113, 114, 115, 116, 117, 118, 119, 120, 121, 122, 65, 66, 67, 68, 69, 70, 71, 72, 73, 74, 75, 76, 77, 78, 79, 80, 81, 82, 83, 84, 85, 86, 87, 88, 89, 90, 45, 46]
/-- What the six texts have of a byte. -/
def classRows : List (List Bool × Int) := [([false, false, false, false, false, false, false, false], 0), ([false, false, false, false, false, false, false, true], 32), ([false, false, false, false, false, false, true, false], 32), ([false, false, false, true, true, false, false, false], 24), ([false, false, false, true, false, false, false, false], 8), ([false, false, false, false, true, false, false, false], 16), ([false, false, false, true, true, true, false, false], 88), ([true, false, true, true, true, true, false, false], 93), ([false, true, true, true, true, true, false, false], 94), ([false, true, false, true, true, true, false, false], 90)]
theorem class_rows : ∀ c : UInt8, ([hasB sDig c, hasB sLet c, hasB sHex c, hasB sTok c, hasB sPla c, hasB sHos c, ((c.toNat : Int) == 32), ((c.toNat : Int) == 9)], classB c) ∈ classRows := all_u8 (by decide +kernel)
theorem has_val (s : ByteArray) (c : UInt8) (w : World) (hs : s.size ≤ maxLen) (b : Bool) (h : hasB s.data.toList c = b) :
    Calls Tryd.prog 61 #[.string s, .int .u8 c.toNat] w fun e w' => e = .returned (.bool b) ∧ w = w' := by
  subst h; exact has_walk s c w hs

set_option maxHeartbeats 2000000 in
theorem rClass_walk (c : UInt8) (w : World) :
    Calls Tryd.prog 41 #[.int .u8 c.toNat] w fun e w' => e = .returned (.int .i64 (classB c)) ∧ w = w' := by
  have hm := class_rows c
  unfold classRows at hm
  simp only [List.mem_cons, Prod.mk.injEq, List.not_mem_nil, or_false, List.cons.injEq, and_true] at hm
  rcases hm with ⟨⟨h1, h2, h3, h4, h5, h6, h7, h8⟩, hv⟩ | ⟨⟨h1, h2, h3, h4, h5, h6, h7, h8⟩, hv⟩ | ⟨⟨h1, h2, h3, h4, h5, h6, h7, h8⟩, hv⟩ | ⟨⟨h1, h2, h3, h4, h5, h6, h7, h8⟩, hv⟩ | ⟨⟨h1, h2, h3, h4, h5, h6, h7, h8⟩, hv⟩ | ⟨⟨h1, h2, h3, h4, h5, h6, h7, h8⟩, hv⟩ | ⟨⟨h1, h2, h3, h4, h5, h6, h7, h8⟩, hv⟩ | ⟨⟨h1, h2, h3, h4, h5, h6, h7, h8⟩, hv⟩ | ⟨⟨h1, h2, h3, h4, h5, h6, h7, h8⟩, hv⟩ | ⟨⟨h1, h2, h3, h4, h5, h6, h7, h8⟩, hv⟩
  all_goals
    have HV := Lib.hid hv
    clear hv
    go_enter Tryd.func41, Tryd.ntmps41
    go_wp2_with fail
    refine (has_val _ _ _ (by decide) _ h1).mono ?_
    rintro e w' ⟨rfl, rfl⟩
    go_wp2_with fail
    refine (has_val _ _ _ (by decide) _ h2).mono ?_
    rintro e w' ⟨rfl, rfl⟩
    go_wp2_with fail
    refine (has_val _ _ _ (by decide) _ h3).mono ?_
    rintro e w' ⟨rfl, rfl⟩
    go_wp2_with fail
    refine (has_val _ _ _ (by decide) _ h4).mono ?_
    rintro e w' ⟨rfl, rfl⟩
    go_wp2_with fail
    refine (has_val _ _ _ (by decide) _ h5).mono ?_
    rintro e w' ⟨rfl, rfl⟩
    go_wp2_with fail
    refine (has_val _ _ _ (by decide) _ h6).mono ?_
    rintro e w' ⟨rfl, rfl⟩
    go_wp2_with fail
    go_ret
    exact ⟨ret_int HV.out.symm, rfl⟩
end Go.Proofs.YtffcapkjfmkkaaaDoor
