/- Lemmas for the statements of this seat, part 1: contracts of functions of the program and of the references, and plain facts on lists of bytes. -/
import Derived.Test.YtffcapkjfmkkaaaGreatDoorProg
import Derived.WalkKit
import Derived.WalkSpells
import Derived.WalkLawsBesides
import Derived.Deep.QuietTactic
import Derived.BigQuiet
import Derived.Outline
import Derived.Lib.Hide
import Derived.Lib.Strings
import Derived.Lib.SmallJoins
import Derived.Deep.DeepCutAuto
import Derived.Deep.CutBlock
import Derived.Laws.StructEq
import Derived.IntWalk
import Derived.Maps.AppendAt
import Derived.Deep.AppendLies
namespace Go.Proofs.YtffcapkjfmkkaaaGreatDoor
open Go.RowKit

abbrev Bs := List UInt8
/-- A world of the same memory: some orders have been drawn. -/
def Dr (w w' : World) : Prop := ∃ n, w' = w.drewN n
theorem Dr.refl (w : World) : Dr w w := ⟨0, rfl⟩
theorem Dr.trans {a b c : World} (h : Dr a b) (k : Dr b c) : Dr a c := by
  obtain ⟨n, rfl⟩ := h; obtain ⟨m, rfl⟩ := k; exact ⟨n + m, by rw [World.drewN_drewN]⟩
theorem Dr.drewN {a b : World} (h : Dr a b) (n : Nat) : Dr a (b.drewN n) := h.trans ⟨n, rfl⟩
theorem Dr.drew {a b : World} (h : Dr a b) : Dr a b.drew := h.trans ⟨1, rfl⟩

theorem Dr.below {w a b : World} (h : Dr a b) (k : Below w.heap.size w a) : Below w.heap.size w b := by
  obtain ⟨n, rfl⟩ := h; exact ⟨k.os, k.tape, k.output, k.size, k.block⟩
theorem Dr.below0 {a b : World} (h : Dr a b) : Below a.heap.size a b := h.below (Below.refl _ _)
theorem bt_lt (s : ByteArray) (k : Nat) (h : k < s.size) : (s[k].toNat : Int) < 256 := by have := s[k].toNat_lt; omega
theorem size_list (s : ByteArray) : s.data.toList.length = s.size := rfl
theorem get_list (s : ByteArray) (k : Nat) (h : k < s.size) : s.data.toList[k]'(by rw [size_list]; exact h) = s[k] := rfl
theorem take_snoc (s : ByteArray) (k : Nat) (h : k < s.size) : s.data.toList.take (k + 1) = s.data.toList.take k ++ [s[k]] := by
  rw [List.take_succ_eq_append_getElem (by rw [size_list]; exact h)]; rfl
theorem drop_cons (s : ByteArray) (k : Nat) (h : k < s.size) : s.data.toList.drop k = s[k] :: s.data.toList.drop (k + 1) := by
  rw [List.drop_eq_getElem_cons (by rw [size_list]; exact h)]; rfl
theorem drop_all (s : ByteArray) (k : Nat) (h : s.size ≤ k) : s.data.toList.drop k = [] := List.drop_eq_nil_of_le (by rw [size_list]; exact h)

theorem blk_cell {w : World} {b : Nat} {cs : Array Value} {T : TypeId} {fr : Nat × Nat} (hb : w.heap[b]? = some (.cells cs T fr)) (j : Nat) : w.cell? ⟨b, j, none⟩ = cs[j]? := by
  simp [World.cell?, hb]
theorem new_cell (w : World) (cs : Array Value) (T : TypeId) (j : Nat) : (w.alloc (.cells cs T)).cell? ⟨w.heap.size, j, none⟩ = cs[j]? := blk_cell (by simpa using heap_alloc_new w _) j
theorem u8_eq_true {a b : UInt8} (h : a = b) : ((a.toNat : Int) == (b.toNat : Int)) = true := by rw [h]; simp
theorem u8_eq_false {a b : UInt8} (h : ¬ a = b) : ((a.toNat : Int) == (b.toNat : Int)) = false := by
  simp; intro h'; exact h (UInt8.toNat.inj (by omega))
theorem u8n_true {a : UInt8} (b : UInt8) (n : Int) (hn : (b.toNat : Int) = n) (h : a = b) : ((a.toNat : Int) == n) = true := by rw [← hn]; exact u8_eq_true h
theorem u8n_false {a : UInt8} (b : UInt8) (n : Int) (hn : (b.toNat : Int) = n) (h : ¬ a = b) : ((a.toNat : Int) == n) = false := by rw [← hn]; exact u8_eq_false h
theorem u8x_false {a : UInt8} (b : UInt8) (n : Int) (hn : (b.toNat : Int) = n) (h : a = b) : ((a.toNat : Int) != n) = false := by rw [bne, u8n_true b n hn h]; rfl
theorem u8x_true {a : UInt8} (b : UInt8) (n : Int) (hn : (b.toNat : Int) = n) (h : ¬ a = b) : ((a.toNat : Int) != n) = true := by rw [bne, u8n_false b n hn h]; rfl
theorem ret_bool {a b : Bool} (h : a = b) : Ending.returned (.bool a) = .returned (.bool b) := by rw [h]
theorem ret_int {k : IntKind} {a b : Int} (h : a = b) : Ending.returned (.int k a) = .returned (.int k b) := by rw [h]
theorem ret_str {a b : Bs} (h : a = b) : Ending.returned (.string ⟨a.toArray⟩) = .returned (.string ⟨b.toArray⟩) := by rw [h]

theorem ret_bs {s : ByteArray} {l : Bs} (h : s.data.toList = l) : Ending.returned (.string s) = .returned (.string ⟨l.toArray⟩) := by subst h; rfl

/-- has: does a byte stand in a text? -/
def hasB : Bs → UInt8 → Bool
  | [], _ => false
  | x :: l, c => if x = c then true else hasB l c
theorem hasB_iff (l : Bs) (c : UInt8) : hasB l c = decide (c ∈ l) := by
  induction l with
  | nil => rfl
  | cons x l ih =>
    unfold hasB
    by_cases h : x = c
    · simp [h]
    · rw [if_neg h, ih]; have : ¬ c = x := fun e => h e.symm
      simp [this]

set_option maxHeartbeats 400000 in
theorem has_walk (s : ByteArray) (c : UInt8) (w : World) (hs : s.size ≤ maxLen) :
    Calls Tryz.prog 47 #[.string s, .int .u8 c.toNat] w fun e w' => e = .returned (.bool (hasB s.data.toList c)) ∧ w = w' := by
  unfold maxLen at hs
  go_enter Tryz.func47, Tryz.ntmps47
  go_wp2
  go_loop [5] (fun i => ∃ k : Nat, k ≤ s.size ∧ i = .int .i64 k ∧ hasB s.data.toList c = hasB (s.data.toList.drop k) c) (fun i => s.size - (intOf i).toNat)
  case atStart => exact ⟨0, by omega, rfl, rfl⟩
  case round =>
    obtain ⟨k, hk, rfl, ht⟩ := hrel
    have HT := Lib.hid ht
    clear ht
    by_cases hlt : k < s.size
    · have HD := Lib.hid (drop_cons s k hlt)
      by_cases hc : s[k] = c
      · have hc' := u8_eq_true hc
        have HC := Lib.hid hc
        clear hc
        go_wp2
        go_ret
        exact ⟨ret_bool (by rw [HT.out, HD.out, hasB, if_pos HC.out]), rfl⟩
      · have hc' := u8_eq_false hc
        go_wp2
        go_round
        case rel => exact ⟨k + 1, by omega, by go_num, by rw [HT.out, HD.out, hasB, if_neg hc]⟩
        case measure => simp [intOf]; omega
    · have HD := Lib.hid (drop_all s k (by omega))
      go_wp2
      go_ret
      exact ⟨ret_bool (by rw [HT.out, HD.out]; rfl), rfl⟩
set_option maxHeartbeats 400000 in
theorem Has_walk (s : ByteArray) (c : UInt8) (w : World) (hs : s.size ≤ maxLen) :
    Calls Tryz.prog 32 #[.string s, .int .u8 c.toNat] w fun e w' => e = .returned (.bool (hasB s.data.toList c)) ∧ w = w' := by
  unfold maxLen at hs
  go_enter Tryz.func32, Tryz.ntmps32
  go_wp2
  go_loop [5] (fun i => ∃ k : Nat, k ≤ s.size ∧ i = .int .i64 k ∧ hasB s.data.toList c = hasB (s.data.toList.drop k) c) (fun i => s.size - (intOf i).toNat)
  case atStart => exact ⟨0, by omega, rfl, rfl⟩
  case round =>
    obtain ⟨k, hk, rfl, ht⟩ := hrel
    have HT := Lib.hid ht
    clear ht
    by_cases hlt : k < s.size
    · have HD := Lib.hid (drop_cons s k hlt)
      by_cases hc : s[k] = c
      · have hc' := u8_eq_true hc
        have HC := Lib.hid hc
        clear hc
        go_wp2
        go_ret
        exact ⟨ret_bool (by rw [HT.out, HD.out, hasB, if_pos HC.out]), rfl⟩
      · have hc' := u8_eq_false hc
        go_wp2
        go_round
        case rel => exact ⟨k + 1, by omega, by go_num, by rw [HT.out, HD.out, hasB, if_neg hc]⟩
        case measure => simp [intOf]; omega
    · have HD := Lib.hid (drop_all s k (by omega))
      go_wp2
      go_ret
      exact ⟨ret_bool (by rw [HT.out, HD.out]; rfl), rfl⟩

/-- scan.Class. -/
def classI (c d : Int) : Int :=
  if 48 ≤ c ∧ c ≤ 57 then 93
  else if 97 ≤ d ∧ d ≤ 102 then 94
  else if 97 ≤ d ∧ d ≤ 122 then 90
  else if c = 45 ∨ c = 46 then 88
  else if c = 33 ∨ c = 42 ∨ c = 95 ∨ c = 126 ∨ c = 39 then 24
  else if c = 37 ∨ c = 43 ∨ c = 96 then 8
  else if c = 40 ∨ c = 41 then 16
  else if c = 32 ∨ c = 9 then 32 else 0
def classB (c : UInt8) : Int := classI c.toNat (Go.bits .or .u8 c.toNat 32)

set_option maxHeartbeats 2000000 in
theorem Class_walk (c : UInt8) (w : World) :
    Calls Tryz.prog 29 #[.int .u8 c.toNat] w fun e w' => e = .returned (.int .i64 (classB c)) ∧ w = w' := by
  have hc := c.toNat_lt
  have E : Hid (classB c = classI c.toNat (Go.bits .or .u8 c.toNat 32)) := rfl
  go_enter Tryz.func29, Tryz.ntmps29
  generalize (c.toNat : Int) = x at *
  go_wp2
  all_goals
    go_ret
    simp only [beq_iff_eq, beq_eq_false_iff_ne, ne_eq] at *
    first | exact ⟨ret_int (by rw [E.out, classI]; repeat (first | rfl | (exfalso; omega) | rw [if_pos (by omega)] | rw [if_neg (by omega)])), rfl⟩ | exact ⟨ret_int (by rw [E.out, classI]; repeat (first | rfl | (exfalso; omega) | rw [if_pos (by omega)] | rw [if_neg (by omega)])), trivial⟩
end Go.Proofs.YtffcapkjfmkkaaaGreatDoor
namespace Go.Proofs.YtffcapkjfmkkaaaGreatDoor
open Go.RowKit
theorem all_u8 {p : UInt8 → Prop} (h : ∀ n, n < 256 → p (UInt8.ofNat n)) (c : UInt8) : p c := by
  have := h c.toNat c.toNat_lt
  rwa [UInt8.ofNat_toNat] at this
def sDig : Bs := [48, 49, 50, 51, 52, 53, 54, 55, 56, 57]
def sLet : Bs := [97, 98, 99, 100, 101, 102, 103, 104, 105, 106, 107, 108, 109, 110, 111, 112, 113, 114, 115, 116, 117, 118, 119, 120, 121, 122, 65, 66, 67, 68, 69, 70, 71, 72, 73, 74, 75, 76, 77, 78, 79, 80, 81, 82, 83, 84, 85, 86, 87, 88, 89, 90]
def sHex : Bs := [48, 49, 50, 51, 52, 53, 54, 55, 56, 57, 97, 98, 99, 100, 101, 102, 65, 66, 67, 68, 69, 70]
def sTok : Bs := [48, 49, 50, 51, 52, 53, 54, 55, 56, 57, 97, 98, 99, 100, 101, 102, 103, 104, 105, 106, 107, 108, 109, 110, 111, 112, 113, 114, 115, 116, 117, 118, 119, 120, 121, 122, 65, 66, 67, 68, 69, 70, 71, 72, 73, 74, 75, 76, 77, 78, 79, 80, 81, 82, 83, 84, 85, 86, 87, 88, 89, 90, 45, 46, 33, 37, 42, 95, 43, 96, 39, 126]
def sPla : Bs := [48, 49, 50, 51, 52, 53, 54, 55, 56, 57, 97, 98, 99, 100, 101, 102, 103, 104, 105, 106, 107, 108, 109, 110, 111, 112, 113, 114, 115, 116, 117, 118, 119, 120, 121, 122, 65, 66, 67, 68, 69, 70, 71, 72, 73, 74, 75, 76, 77, 78, 79, 80, 81, 82, 83, 84, 85, 86, 87, 88, 89, 90, 45, 95, 46, 33, 126, 42, 39, 40, 41]
def sHos : Bs := [48, 49, 50, 51, 52, 53, 54, 55, 56, 57, 97, 98, 99, 100, 101, 102, 103, 104, 105, 106, 107, 108, 109, 110, 111, 112, 113, 114, 115, 116, 117, 118, 119, 120, 121, 122, 65, 66, 67, 68, 69, 70, 71, 72, 73, 74, 75, 76, 77, 78, 79, 80, 81, 82, 83, 84, 85, 86, 87, 88, 89, 90, 45, 46]
/-- What the six texts have of a byte. -/
def classRows : List (List Bool × Int) := [([false, false, false, false, false, false, false, false], 0), ([false, false, false, false, false, false, false, true], 32), ([false, false, false, false, false, false, true, false], 32), ([false, false, false, true, true, false, false, false], 24), ([false, false, false, true, false, false, false, false], 8), ([false, false, false, false, true, false, false, false], 16), ([false, false, false, true, true, true, false, false], 88), ([true, false, true, true, true, true, false, false], 93), ([false, true, true, true, true, true, false, false], 94), ([false, true, false, true, true, true, false, false], 90)]
theorem class_rows : ∀ c : UInt8, ([hasB sDig c, hasB sLet c, hasB sHex c, hasB sTok c, hasB sPla c, hasB sHos c, ((c.toNat : Int) == 32), ((c.toNat : Int) == 9)], classB c) ∈ classRows := all_u8 (by decide +kernel)
theorem has_val (s : ByteArray) (c : UInt8) (w : World) (hs : s.size ≤ maxLen) (b : Bool) (h : hasB s.data.toList c = b) :
    Calls Tryz.prog 47 #[.string s, .int .u8 c.toNat] w fun e w' => e = .returned (.bool b) ∧ w = w' := by
  subst h; exact has_walk s c w hs

set_option maxHeartbeats 2000000 in
theorem rClass_walk (c : UInt8) (w : World) :
    Calls Tryz.prog 31 #[.int .u8 c.toNat] w fun e w' => e = .returned (.int .i64 (classB c)) ∧ w = w' := by
  have hm := class_rows c
  unfold classRows at hm
  simp only [List.mem_cons, Prod.mk.injEq, List.not_mem_nil, or_false, List.cons.injEq, and_true] at hm
  rcases hm with ⟨⟨h1, h2, h3, h4, h5, h6, h7, h8⟩, hv⟩ | ⟨⟨h1, h2, h3, h4, h5, h6, h7, h8⟩, hv⟩ | ⟨⟨h1, h2, h3, h4, h5, h6, h7, h8⟩, hv⟩ | ⟨⟨h1, h2, h3, h4, h5, h6, h7, h8⟩, hv⟩ | ⟨⟨h1, h2, h3, h4, h5, h6, h7, h8⟩, hv⟩ | ⟨⟨h1, h2, h3, h4, h5, h6, h7, h8⟩, hv⟩ | ⟨⟨h1, h2, h3, h4, h5, h6, h7, h8⟩, hv⟩ | ⟨⟨h1, h2, h3, h4, h5, h6, h7, h8⟩, hv⟩ | ⟨⟨h1, h2, h3, h4, h5, h6, h7, h8⟩, hv⟩ | ⟨⟨h1, h2, h3, h4, h5, h6, h7, h8⟩, hv⟩
  all_goals
    have HV := Lib.hid hv
    clear hv
    go_enter Tryz.func31, Tryz.ntmps31
    go_wp2_with fail
    refine (has_val _ _ _ (by decide) _ h1).mono ?_
    rintro e w' ⟨rfl, rfl⟩
    go_wp2_with fail
    refine (has_val _ _ _ (by decide) _ h2).mono ?_
    rintro e w' ⟨rfl, rfl⟩
    go_wp2_with fail
    refine (has_val _ _ _ (by decide) _ h3).mono ?_
    rintro e w' ⟨rfl, rfl⟩
    go_wp2_with fail
    refine (has_val _ _ _ (by decide) _ h4).mono ?_
    rintro e w' ⟨rfl, rfl⟩
    go_wp2_with fail
    refine (has_val _ _ _ (by decide) _ h5).mono ?_
    rintro e w' ⟨rfl, rfl⟩
    go_wp2_with fail
    refine (has_val _ _ _ (by decide) _ h6).mono ?_
    rintro e w' ⟨rfl, rfl⟩
    go_wp2_with fail
    go_ret
    exact ⟨ret_int HV.out.symm, rfl⟩
end Go.Proofs.YtffcapkjfmkkaaaGreatDoor
namespace Go.Proofs.YtffcapkjfmkkaaaGreatDoor
open Go.RowKit
def alphaB (c : UInt8) : Bool := (decide (65 ≤ c.toNat) && decide (c.toNat ≤ 90)) || (decide (97 ≤ c.toNat) && decide (c.toNat ≤ 122))
def digitB (c : UInt8) : Bool := decide (48 ≤ c.toNat) && decide (c.toNat ≤ 57)
theorem and_alnum : ∀ c : UInt8, (Go.bits .and .i64 (classB c) 3 == 0) = !(alphaB c || digitB c) := all_u8 (by decide +kernel)
theorem and_alpha : ∀ c : UInt8, Go.bits .and .i64 (classB c) 2 = if alphaB c then 2 else 0 := all_u8 (by decide +kernel)
theorem and_digit : ∀ c : UInt8, Go.bits .and .i64 (classB c) 1 = if digitB c then 1 else 0 := all_u8 (by decide +kernel)
/-- One byte of a name: the first, another. -/
def nm1 (first : Bool) (c : UInt8) : Bool := (alphaB c || ((c.toNat : Int) == 95)) || (!first && (digitB c || hasB [45, 46, 58] c))
def nmAll : Bool → Bs → Bool
  | _, [] => true
  | f, c :: l => nm1 f c && nmAll false l
def nameB (l : Bs) : Bool := nmAll true l && decide (1 ≤ l.length) && decide (l.length ≤ 64)
set_option maxHeartbeats 400000 in
theorem rName_walk (s : ByteArray) (w : World) (hs : s.size ≤ maxLen) :
    Calls Tryz.prog 15 #[.string s] w fun e w' => e = .returned (.bool (nameB s.data.toList)) ∧ Dr w w' := by
  unfold maxLen at hs
  go_enter Tryz.func15, Tryz.ntmps15
  go_wp2
  go_loopw [3] (fun i wr => ∃ k : Nat, k ≤ s.size ∧ i = .int .i64 k ∧ nmAll true s.data.toList = nmAll (decide (k = 0)) (s.data.toList.drop k) ∧ Dr w wr) (fun i _ => s.size - (intOf i).toNat)
  case atStart => exact ⟨0, by omega, rfl, rfl, Dr.refl w⟩
  case round =>
    obtain ⟨k, hk, rfl, ht, hd⟩ := hrel
    have HT := Lib.hid ht
    clear ht
    by_cases hlt : k < s.size
    · have HD := Lib.hid (drop_cons s k hlt)
      have ha := and_alpha s[k]
      have hg := and_digit s[k]
      go_wp2_with (first | (go_at_call 31; refine (rClass_walk _ _).mono ?_; rintro e w' ⟨rfl, rfl⟩) | (go_at_call 32; refine (Has_walk _ _ _ (by decide)).mono ?_; rintro e w' ⟨rfl, rfl⟩))
      all_goals first
        | (refine ⟨⟨k + 1, by omega, by go_num, ?_, hd⟩, by simp [intOf]; omega⟩
           rw [HT.out, HD.out, nmAll]
           have hn : nm1 (decide (k = 0)) s[k] = true := by unfold nm1; simp_all
           rw [hn]; simp)
        | (subst_vars
           refine ⟨⟨0 + 1, by omega, by go_num, ?_, hd⟩, by simp [intOf]; omega⟩
           rw [HT.out, HD.out, nmAll]
           have hn : nm1 (decide (0 = 0)) s[0] = true := by unfold nm1; simp_all
           rw [hn]; simp)
        | (go_ret
           refine ⟨ret_bool ?_, hd⟩
           unfold nameB
           rw [HT.out, HD.out, nmAll]
           have hn : nm1 (decide (k = 0)) s[k] = false := by unfold nm1; simp_all
           rw [hn]; simp)
    · have HD := Lib.hid (drop_all s k (by omega))
      go_wp2
      all_goals
        go_ret
        refine ⟨ret_bool ?_, hd⟩
        unfold nameB
        rw [HT.out, HD.out, nmAll, size_list]
        rw [Bool.eq_iff_iff]; simp; omega

/-! ### Signs, blanks -/
def blankB (c : UInt8) : Bool := hasB [32, 9, 13, 10] c
def sign1 (c : UInt8) : Bool := blankB c || !(decide ((c.toNat : Int) < 32) || ((c.toNat : Int) == 127))
def signsB : Bs → Bool
  | [] => true
  | c :: l => sign1 c && signsB l
set_option maxHeartbeats 400000 in
theorem rSigns_walk (s : ByteArray) (w : World) (hs : s.size ≤ maxLen) :
    Calls Tryz.prog 18 #[.string s] w fun e w' => e = .returned (.bool (signsB s.data.toList)) ∧ Dr w w' := by
  unfold maxLen at hs
  go_enter Tryz.func18, Tryz.ntmps18
  go_wp2
  go_loopw [3] (fun i wr => ∃ k : Nat, k ≤ s.size ∧ i = .int .i64 k ∧ signsB s.data.toList = signsB (s.data.toList.drop k) ∧ Dr w wr) (fun i _ => s.size - (intOf i).toNat)
  case atStart => exact ⟨0, by omega, rfl, rfl, Dr.refl w⟩
  case round =>
    obtain ⟨k, hk, rfl, ht, hd⟩ := hrel
    have HT := Lib.hid ht
    clear ht
    by_cases hlt : k < s.size
    · have HD := Lib.hid (drop_cons s k hlt)
      have HB : Hid (hasB [32, 9, 13, 10] s[k] = blankB s[k]) := rfl
      go_wp2_with (go_at_call 32; refine (Has_walk _ _ _ (by decide)).mono ?_; rintro e w' ⟨rfl, rfl⟩)
      all_goals first
        | (refine ⟨⟨k + 1, by omega, by go_num, ?_, hd⟩, by simp [intOf]; omega⟩
           rw [HT.out, HD.out, signsB]
           have hn : sign1 s[k] = true := by unfold sign1; rw [← HB.out]; first | (simp_all; done) | (simp_all; omega)
           rw [hn]; simp)
        | (go_ret
           refine ⟨ret_bool ?_, hd⟩
           rw [HT.out, HD.out, signsB]
           have hn : sign1 s[k] = false := by unfold sign1; rw [← HB.out]; first | (simp_all; done) | (simp_all; omega)
           rw [hn]; simp)
    · have HD := Lib.hid (drop_all s k (by omega))
      go_wp2
      go_ret
      exact ⟨ret_bool (by rw [HT.out, HD.out]; rfl), hd⟩

/-- What is left behind the first bytes of a kind. -/
def dropW (p : UInt8 → Bool) : Bs → Bs
  | [] => []
  | c :: l => if p c then dropW p l else c :: l
/-- The place, from i on, at which the bytes of a kind end. -/
def posW (p : UInt8 → Bool) (l : Bs) (i : Nat) : Nat := l.length - (dropW p (l.drop i)).length
theorem dropW_len (p : UInt8 → Bool) (l : Bs) : (dropW p l).length ≤ l.length := by
  induction l with
  | nil => exact Nat.le_refl _
  | cons c l ih => unfold dropW; split <;> simp; omega
theorem dropW_drop (p : UInt8 → Bool) (l : Bs) : dropW p l = l.drop (l.length - (dropW p l).length) := by
  induction l with
  | nil => rfl
  | cons c l ih =>
    have := dropW_len p l
    unfold dropW; split
    · rw [show (c :: l).length - (dropW p l).length = (l.length - (dropW p l).length) + 1 from by simp; omega, List.drop_succ_cons]; exact ih
    · simp
theorem posW_drop (p : UInt8 → Bool) (l : Bs) (i : Nat) (h : i ≤ l.length) : l.drop (posW p l i) = dropW p (l.drop i) := by
  have h1 := dropW_len p (l.drop i)
  have h2 := dropW_drop p (l.drop i)
  rw [List.length_drop] at h1 h2
  rw [List.drop_drop] at h2
  unfold posW
  rw [h2]; congr 1; rw [← h2]; omega
theorem posW_le (p : UInt8 → Bool) (l : Bs) (i : Nat) (h : i ≤ l.length) : i ≤ posW p l i ∧ posW p l i ≤ l.length := by
  have h1 := dropW_len p (l.drop i)
  rw [List.length_drop] at h1
  unfold posW; omega
theorem posW_here (p : UInt8 → Bool) (l : Bs) (i k : Nat) (hk : k ≤ l.length) (h : dropW p (l.drop i) = l.drop k) : posW p l i = k := by
  unfold posW; rw [h, List.length_drop]; omega

/-- No sign of a text. -/
def notIn (t : Bs) (c : UInt8) : Bool := !(hasB t c)
/-- is: does a text stand at a place? -/
def isB (l : Bs) (i : Nat) (t : Bs) : Bool := (l.drop i).take t.length == t
/-- Without blanks at the end; at both ends. -/
def trimR (l : Bs) : Bs := (dropW blankB l.reverse).reverse
def trimB (l : Bs) : Bs := trimR (dropW blankB l)
theorem trimR_snoc (l : Bs) (c : UInt8) : trimR (l ++ [c]) = if blankB c then trimR l else l ++ [c] := by
  unfold trimR; rw [List.reverse_append]; simp only [List.reverse_cons, List.reverse_nil, List.nil_append, List.cons_append]
  rw [dropW]; split
  · rfl
  · simp
theorem snoc_of (t : ByteArray) (h : 0 < t.size) : t.data.toList = (t.extract 0 (t.size - 1)).data.toList ++ [t[t.size - 1]] := by
  have h2 := take_snoc t (t.size - 1) (by omega)
  rw [show t.size - 1 + 1 = t.size from by omega, List.take_of_length_le (by rw [size_list]; exact Nat.le_refl _)] at h2
  rw [h2, Lib.extract_data]; simp
theorem cons_of (t : ByteArray) (h : 0 < t.size) : t.data.toList = t[0] :: (t.extract 1 t.size).data.toList := by
  have := drop_cons t 0 h
  rw [Lib.extract_data, List.take_of_length_le (by rw [List.length_drop, size_list]; omega)]
  exact this
set_option maxHeartbeats 400000 in
theorem rTrim_walk (s : ByteArray) (w : World) (hs : s.size ≤ maxLen) :
    Calls Tryz.prog 19 #[.string s] w fun e w' => e = .returned (.string ⟨(trimB s.data.toList).toArray⟩) ∧ Dr w w' := by
  unfold maxLen at hs
  go_enter Tryz.func19, Tryz.ntmps19
  go_wp2
  go_loopw [0] (fun v wr => ∃ t : ByteArray, t.size ≤ s.size ∧ v = .string t ∧ dropW blankB s.data.toList = dropW blankB t.data.toList ∧ Dr w wr) (fun v _ => match v with | .string t => t.size | _ => 0)
  case atStart => exact ⟨s, Nat.le_refl _, rfl, rfl, Dr.refl w⟩
  case round =>
    obtain ⟨t, hk, rfl, ht, hd⟩ := hrel
    have HT := Lib.hid ht
    clear ht
    by_cases hlt : 0 < t.size
    · have HD := Lib.hid (cons_of t hlt)
      have HB : Hid (hasB [32, 9, 13, 10] t[0] = blankB t[0]) := rfl
      by_cases hb : hasB [32, 9, 13, 10] t[0] = true
      · go_wp2_with (go_at_call 32; refine (Has_walk _ _ _ (by decide)).mono ?_; rintro e w' ⟨rfl, rfl⟩)
        refine ⟨⟨t.extract 1 t.size, by simp [ByteArray.size_extract]; omega, rfl, by rw [HT.out, HD.out, dropW, ← HB.out, if_pos hb], hd⟩, by simp [ByteArray.size_extract]; omega⟩
      · have hb : hasB [32, 9, 13, 10] t[0] = false := by simpa using hb
        have HE : Hid (dropW blankB s.data.toList = t.data.toList) := by
          show _ = _; rw [HT.out, HD.out, dropW, ← HB.out, hb]; rfl
        clear HT HD HB
        go_wp2_with (go_at_call 32; refine (Has_walk _ _ _ (by decide)).mono ?_; rintro e w' ⟨rfl, rfl⟩)
        go_loopw [0] (fun v wr => ∃ r : ByteArray, r.size ≤ t.size ∧ v = .string r ∧ trimR t.data.toList = trimR r.data.toList ∧ Dr w wr) (fun v _ => match v with | .string r => r.size | _ => 0)
        case atStart => exact ⟨t, Nat.le_refl _, rfl, rfl, hd⟩
        case round =>
          obtain ⟨r, hk2, rfl, ht, hd2⟩ := hrel
          have HR := Lib.hid ht
          clear ht
          have HF : Hid (trimB s.data.toList = trimR r.data.toList) := by show _ = _; unfold trimB; rw [HE.out, HR.out]
          by_cases hlr : 0 < r.size
          · have HD2 := Lib.hid (snoc_of r hlr)
            have HB2 : Hid (hasB [32, 9, 13, 10] r[r.size - 1] = blankB r[r.size - 1]) := rfl
            have h1 : r.size - 1 < r.size := by omega
            by_cases hb2 : hasB [32, 9, 13, 10] r[r.size - 1] = true
            · go_wp2_with (go_at_call 32; refine (Has_walk _ _ _ (by decide)).mono ?_; rintro e w' ⟨rfl, rfl⟩)
              refine ⟨⟨r.extract 0 (r.size - 1), by simp [ByteArray.size_extract]; omega, rfl, by rw [HR.out, HD2.out, trimR_snoc, ← HB2.out, if_pos hb2], hd2⟩, by simp [ByteArray.size_extract]; omega⟩
            · have hb2 : hasB [32, 9, 13, 10] r[r.size - 1] = false := by simpa using hb2
              go_wp2_with (go_at_call 32; refine (Has_walk _ _ _ (by decide)).mono ?_; rintro e w' ⟨rfl, rfl⟩)
              go_ret
              refine ⟨ret_bs ?_, hd2⟩
              rw [HF.out, HD2.out, trimR_snoc, ← HB2.out, hb2, if_neg (by simp), ← HD2.out]
          · go_wp2
            go_ret
            refine ⟨ret_bs ?_, hd2⟩
            have h0 : r.data.toList = [] := List.eq_nil_of_length_eq_zero (by rw [size_list]; omega)
            rw [HF.out, h0]; rfl
    · have HE : Hid (dropW blankB s.data.toList = t.data.toList) := by
        have h0 : t.data.toList = [] := List.eq_nil_of_length_eq_zero (by rw [size_list]; omega)
        show _ = _; rw [HT.out, h0]; rfl
      clear HT
      go_wp2
      go_loopw [0] (fun v wr => ∃ r : ByteArray, r.size ≤ t.size ∧ v = .string r ∧ trimR t.data.toList = trimR r.data.toList ∧ Dr w wr) (fun v _ => match v with | .string r => r.size | _ => 0)
      case atStart => exact ⟨t, Nat.le_refl _, rfl, rfl, hd⟩
      case round =>
        obtain ⟨r, hk2, rfl, ht, hd2⟩ := hrel
        have HR := Lib.hid ht
        clear ht
        have HF : Hid (trimB s.data.toList = trimR r.data.toList) := by show _ = _; unfold trimB; rw [HE.out, HR.out]
        have hlr : ¬ 0 < r.size := by omega
        · go_wp2
          go_ret
          refine ⟨ret_bs ?_, hd2⟩
          have h0 : r.data.toList = [] := List.eq_nil_of_length_eq_zero (by rw [size_list]; omega)
          rw [HF.out, h0]; rfl
end Go.Proofs.YtffcapkjfmkkaaaGreatDoor
namespace Go.Proofs.YtffcapkjfmkkaaaGreatDoor
open Go.RowKit
/-- The five names with their semicolons. -/
def entL : Nat → Bs
  | 0 => [97, 109, 112, 59]
  | 1 => [108, 116, 59]
  | 2 => [103, 116, 59]
  | 3 => [113, 117, 111, 116, 59]
  | _ => [97, 112, 111, 115, 59]
def entA (k : Nat) : ByteArray := ⟨(entL k).toArray⟩
def entC : Nat → UInt8
  | 0 => 38
  | 1 => 60
  | 2 => 62
  | 3 => 34
  | _ => 39
/-- Which of the first k names stands ahead (the last of them), or -1. -/
def fndE (l : Bs) : Nat → Int
  | 0 => -1
  | k + 1 => if l.take (entL k).length == entL k then (k : Int) else fndE l k
theorem fndE_lt (l : Bs) (k : Nat) : -1 ≤ fndE l k ∧ fndE l k < k := by
  induction k with
  | zero => unfold fndE; omega
  | succ k ih => unfold fndE; split <;> omega
theorem entL_pos (k : Nat) : 0 < (entL k).length ∧ (entL k).length ≤ 5 := by
  unfold entL; split <;> simp
theorem fndE_at (l : Bs) (k n : Nat) (h : fndE l k = n) : l.take (entL n).length = entL n := by
  induction k with
  | zero => unfold fndE at h; omega
  | succ k ih =>
    unfold fndE at h; split at h
    · rename_i hb
      have : n = k := by omega
      subst this; simpa using hb
    · exact ih h
/-- What a text stands for. -/
def readB : Bs → Option Bs
  | [] => some []
  | c :: l =>
    if c = 38 then
      if fndE l 5 < 0 then none else (readB (l.drop (entL (fndE l 5).toNat).length)).map (entC (fndE l 5).toNat :: ·)
    else (readB l).map (c :: ·)
termination_by l => l.length
decreasing_by all_goals simp; try omega
def optS : Option Bs → Value
  | none => .tuple #[.string ⟨#[]⟩, .bool false]
  | some l => .tuple #[.string ⟨l.toArray⟩, .bool true]
theorem map_app (o : Option Bs) (a : Bs) (c : UInt8) : (o.map (c :: ·)).map (a ++ ·) = o.map ((a ++ [c]) ++ ·) := by
  cases o <;> simp
theorem map_nil (o : Option Bs) : o.map ((⟨#[]⟩ : ByteArray).data.toList ++ ·) = o := by cases o <;> rfl
theorem extract_one (f : Nat) (h : f < 5) : ((⟨#[38, 60, 62, 34, 39]⟩ : ByteArray).extract f (f + 1)).data.toList = [entC f] := by
  match f, h with
  | 0, _ => rfl
  | 1, _ => rfl
  | 2, _ => rfl
  | 3, _ => rfl
  | 4, _ => rfl
def entRow : Obj := .cells #[.string ⟨#[97, 109, 112, 59]⟩, .string ⟨#[108, 116, 59]⟩, .string ⟨#[103, 116, 59]⟩, .string ⟨#[113, 117, 111, 116, 59]⟩, .string ⟨#[97, 112, 111, 115, 59]⟩] 9
theorem entCell (w : World) (k : Nat) (h : k < 5) : (w.alloc entRow).cell? ⟨w.heap.size, k, none⟩ = some (.string (entA k)) := by
  unfold entRow; rw [new_cell]
  match k, h with
  | 0, _ => rfl
  | 1, _ => rfl
  | 2, _ => rfl
  | 3, _ => rfl
  | 4, _ => rfl
theorem entA_size (k : Nat) : (entA k).size = (entL k).length := rfl

end Go.Proofs.YtffcapkjfmkkaaaGreatDoor
namespace Go.Proofs.YtffcapkjfmkkaaaGreatDoor
open Go.RowKit
structure Par where
  name : Bs
  value : Bs
  has : Bool
  deriving DecidableEq
def parV (p : Par) : Value := .agg #[.string ⟨p.name.toArray⟩, .string ⟨p.value.toArray⟩, .bool p.has]
def takeW (p : UInt8 → Bool) (l : Bs) : Bs := l.take (l.length - (dropW p l).length)
/-- An attribute ahead, and what is left. -/
def attrS (l : Bs) : Option (Par × Bs) :=
  match dropW (notIn [61]) l with
  | [] => none
  | _ :: l1 =>
    match dropW blankB l1 with
    | [] => none
    | q :: l2 =>
      if q = 34 ∨ q = 39 then
        match dropW (notIn [q, 60]) l2 with
        | [] => none
        | c :: rest =>
          if c = q then
            match readB (takeW (notIn [q, 60]) l2) with
            | none => none
            | some v => some (⟨trimR (takeW (notIn [61]) l), v, true⟩, rest)
          else none
      else none
def attrV (n : Nat) : Option (Par × Bs) → Value
  | none => .tuple #[.agg #[.string ⟨#[]⟩, .string ⟨#[]⟩, .bool false], .int .i64 (-1)]
  | some (p, rest) => .tuple #[parV p, .int .i64 ((n - rest.length : Nat) : Int)]

/-- Where the bytes of a kind end: at the end, or ahead of one. -/
theorem posW_cases (p : UInt8 → Bool) (s : ByteArray) (i : Nat) (h : i ≤ s.size) :
    (dropW p (s.data.toList.drop i) = [] ∧ posW p s.data.toList i = s.size) ∨
    (∃ (k : Nat) (hk : k < s.size), i ≤ k ∧ posW p s.data.toList i = k ∧ dropW p (s.data.toList.drop i) = s[k] :: s.data.toList.drop (k + 1) ∧ takeW p (s.data.toList.drop i) = (s.extract i k).data.toList) := by
  have h1 := posW_le p s.data.toList i (by rw [size_list]; exact h)
  have h2 := posW_drop p s.data.toList i (by rw [size_list]; exact h)
  rw [size_list] at h1
  rcases Nat.lt_or_ge (posW p s.data.toList i) s.size with hlt | hge
  · refine .inr ⟨posW p s.data.toList i, hlt, h1.1, rfl, by rw [← h2, drop_cons s _ hlt], ?_⟩
    unfold takeW
    rw [← h2, Lib.extract_data, List.length_drop, List.length_drop, size_list]
    congr 1; omega
  · have he : posW p s.data.toList i = s.size := by omega
    exact .inl ⟨by rw [← h2, he]; exact drop_all s _ (Nat.le_refl _), he⟩

theorem isB_one (s : ByteArray) (k : Nat) (h : k < s.size) (q : UInt8) : isB s.data.toList k [q] = decide (s[k] = q) := by
  unfold isB; rw [drop_cons s k h]; by_cases e : s[k] = q <;> simp [e]
theorem isB_end (s : ByteArray) (q : UInt8) : isB s.data.toList s.size [q] = false := by
  unfold isB; rw [drop_all s _ (Nat.le_refl _)]; rfl
theorem quote_list (s : ByteArray) (k : Nat) (h : k < s.size) : (s.extract k (k + 1)).data.toList = [s[k]] := by
  rw [Lib.extract_data, drop_cons s k h, show k + 1 - k = 1 from by omega]; rfl
theorem quote_lt (s : ByteArray) (k : Nat) (h : k < s.size) : (s.extract k (k + 1) ++ ⟨#[60]⟩ : ByteArray).data.toList = [s[k], 60] := by
  rw [Joins.data_append, quote_list s k h]; rfl
theorem frozen0 {w : World} {b : Nat} {cs : Array Value} {T : TypeId} (hb : w.heap[b]? = some (.cells cs T (0, 0))) (j : Nat) : w.frozen? ⟨b, j, none⟩ = false := by
  simp [World.frozen?, hb]
def strLen : Value → Nat | .string r => r.size | _ => 0
end Go.Proofs.YtffcapkjfmkkaaaGreatDoor
namespace Go.Proofs.YtffcapkjfmkkaaaGreatDoor
open Go.RowKit
theorem fieldsPar : Tryz.prog.underlying 43 = some (.struct (Tryz.prog.fieldsOf 43)) := by kernel_rfl
theorem stoodPar : Tryz.prog.stoodInHeld 43 = false := by kernel_rfl
theorem guardPar : Tryz.prog.eqGuardType Tryz.prog.depth 43 = false := by kernel_rfl
def parEq (a b : Par) : Bool := decide (a = b)
theorem neq_par (p q : Par) (w : World) : (binOp .neq 43 (.agg #[.string ⟨p.name.toArray⟩, .string ⟨p.value.toArray⟩, .bool p.has]) (.agg #[.string ⟨q.name.toArray⟩, .string ⟨q.value.toArray⟩, .bool q.has])).run Tryz.prog w = .ok (.bool (!parEq p q)) w := by
  rw [run_neq_struct, run_equalIn_struct w 9999 _ _ _ fieldsPar stoodPar]
  simp [Op.eqFields, go_sem]
  obtain ⟨a, b, c⟩ := p
  obtain ⟨a', b', c'⟩ := q
  simp only [parEq, Par.mk.injEq]
  by_cases h1 : a = a' <;> by_cases h2 : b = b' <;> by_cases h3 : c = c' <;> simp [h1, h2, h3]

theorem dr2 (w : World) (n m : Nat) : Dr w ((w.drewN n).drewN m) := ⟨_, World.drewN_drewN ..⟩

structure Nod where
  deep : Int
  name : Bs
  attrs : List Par
  text : Bs
  deriving DecidableEq

/-- A slice that reads as a list of attributes. -/
def RPar (w : World) (v : Value) (ps : List Par) : Prop :=
  ∃ A c, v = .slice A ps.length c ∧ ps.length ≤ c ∧ ps.length ≤ 9223372036854775807 ∧ ∀ j (h : j < ps.length), ∃ a, A = some a ∧
    w.cell? (a.add (j * 3)) = some (.string ⟨ps[j].name.toArray⟩) ∧
    w.cell? ⟨(a.add (j * 3)).block, (a.add (j * 3)).off + 1, none⟩ = some (.string ⟨ps[j].value.toArray⟩) ∧
    w.cell? ⟨(a.add (j * 3)).block, (a.add (j * 3)).off + 2, none⟩ = some (.bool ps[j].has) ∧ ps[j].name.length ≤ maxLen ∧ ps[j].value.length ≤ maxLen
/-- A slice that reads as a list of elements. -/
def RNod (w : World) (v : Value) (ns : List Nod) : Prop :=
  ∃ A c, v = .slice A ns.length c ∧ ns.length ≤ c ∧ ns.length ≤ 9223372036854775807 ∧ ∀ j (h : j < ns.length), ∃ a va, A = some a ∧
    w.cell? (a.add (j * 4)) = some (.int .i64 ns[j].deep) ∧
    w.cell? ⟨(a.add (j * 4)).block, (a.add (j * 4)).off + 1, none⟩ = some (.string ⟨ns[j].name.toArray⟩) ∧
    w.cell? ⟨(a.add (j * 4)).block, (a.add (j * 4)).off + 2, none⟩ = some va ∧ RPar w va ns[j].attrs ∧
    w.cell? ⟨(a.add (j * 4)).block, (a.add (j * 4)).off + 3, none⟩ = some (.string ⟨ns[j].text.toArray⟩) ∧ ns[j].name.length ≤ maxLen ∧ ns[j].text.length ≤ maxLen
theorem cell_keep {w w' : World} (hb : Below w.heap.size w w') {a : Addr} {v : Value} (h : w.cell? a = some v) : w'.cell? a = some v :=
  (hb.cell (World.block_lt_of_cell? w a h)).trans h
theorem RPar.keep {w w' : World} {v : Value} {ps : List Par} (h : RPar w v ps) (hb : Below w.heap.size w w') : RPar w' v ps := by
  obtain ⟨A, c, hv, hc, hm, hj⟩ := h
  refine ⟨A, c, hv, hc, hm, fun j h => ?_⟩
  obtain ⟨a, ha, h0, h1, h2, h3⟩ := hj j h
  exact ⟨a, ha, cell_keep hb h0, cell_keep hb h1, cell_keep hb h2, h3⟩
theorem RNod.keep {w w' : World} {v : Value} {ns : List Nod} (h : RNod w v ns) (hb : Below w.heap.size w w') : RNod w' v ns := by
  obtain ⟨A, c, hv, hc, hm, hj⟩ := h
  refine ⟨A, c, hv, hc, hm, fun j h => ?_⟩
  obtain ⟨a, va, ha, h0, h1, h2, h3, h4, h5⟩ := hj j h
  exact ⟨a, va, ha, cell_keep hb h0, cell_keep hb h1, cell_keep hb h2, h3.keep hb, cell_keep hb h4, h5⟩
theorem RPar.at_ {w : World} {A : Option Addr} {n c : Nat} {ps : List Par} (h : RPar w (.slice A n c) ps) (j : Nat) (hj : j < ps.length) : ∃ a, A = some a ∧
    w.cell? (a.add (j * 3)) = some (.string ⟨ps[j].name.toArray⟩) ∧
    w.cell? ⟨(a.add (j * 3)).block, (a.add (j * 3)).off + 1, none⟩ = some (.string ⟨ps[j].value.toArray⟩) ∧
    w.cell? ⟨(a.add (j * 3)).block, (a.add (j * 3)).off + 2, none⟩ = some (.bool ps[j].has) ∧ ps[j].name.length ≤ maxLen ∧ ps[j].value.length ≤ maxLen := by
  obtain ⟨A', c', hv, -, -, h⟩ := h
  cases hv; exact h j hj
theorem RNod.at_ {w : World} {A : Option Addr} {n c : Nat} {ns : List Nod} (h : RNod w (.slice A n c) ns) (j : Nat) (hj : j < ns.length) : ∃ a va, A = some a ∧
    w.cell? (a.add (j * 4)) = some (.int .i64 ns[j].deep) ∧
    w.cell? ⟨(a.add (j * 4)).block, (a.add (j * 4)).off + 1, none⟩ = some (.string ⟨ns[j].name.toArray⟩) ∧
    w.cell? ⟨(a.add (j * 4)).block, (a.add (j * 4)).off + 2, none⟩ = some va ∧ RPar w va ns[j].attrs ∧
    w.cell? ⟨(a.add (j * 4)).block, (a.add (j * 4)).off + 3, none⟩ = some (.string ⟨ns[j].text.toArray⟩) ∧ ns[j].name.length ≤ maxLen ∧ ns[j].text.length ≤ maxLen := by
  obtain ⟨A', c', hv, -, -, h⟩ := h
  cases hv; exact h j hj
def eqL (ps qs : List Par) (k : Nat) : Bool := (ps.take k == qs.take k)
set_option maxHeartbeats 1000000 in
/-- Lists: the same parameters? -/
theorem rLists_walk (u v : Value) (ps qs : List Par) (w : World) (hp : RPar w u ps) (hq : RPar w v qs) :
    Calls Tryz.prog 34 #[u, v] w fun e w' => e = .returned (.bool (decide (ps = qs))) ∧ Dr w w' := by
  obtain ⟨A, c, rfl, -, hmp, hp⟩ := hp
  obtain ⟨B, d, rfl, -, hmq, hq⟩ := hq
  by_cases hl : ps.length = qs.length
  · have HL := Lib.hid hl
    have hl0 : ((ps.length : Int) != (qs.length : Int)) = false := by simp; omega
    have hll : ps.length ≤ qs.length ∧ qs.length ≤ ps.length := by omega
    clear hl
    go_enter Tryz.func34, Tryz.ntmps34
    go_wp2
    go_loopw [5] (fun i wr => ∃ k : Nat, k ≤ ps.length ∧ i = .int .i64 k ∧ ps.take k = qs.take k ∧ Dr w wr) (fun i _ => ps.length - (intOf i).toNat)
    case atStart => exact ⟨0, by omega, rfl, rfl, Dr.refl w⟩
    case round =>
      obtain ⟨k, hk, rfl, ht, n, rfl⟩ := hrel
      have HT := Lib.hid ht
      clear ht
      by_cases hlt : k < ps.length
      · obtain ⟨a, rfl, a0, a1, a2, -⟩ := hp k hlt
        have hltq : k < qs.length := by omega
        obtain ⟨b, rfl, b0, b1, b2, -⟩ := hq k hltq
        have hn := neq_par ps[k] qs[k]
        have HS : Hid (ps.take (k + 1) = ps.take k ++ [ps[k]] ∧ qs.take (k + 1) = qs.take k ++ [qs[k]]) :=
          ⟨List.take_succ_eq_append_getElem hlt, List.take_succ_eq_append_getElem hltq⟩
        by_cases he : parEq ps[k] qs[k] = true
        · have HE := Lib.hid he
          go_wp2
          go_quiet (fail)
          go_wp2
          refine ⟨⟨k + 1, by omega, by go_num, ?_, ⟨_, rfl⟩⟩, by simp [intOf]; omega⟩
          rw [HS.out.1, HS.out.2, HT.out, show ps[k] = qs[k] from by simpa [parEq] using HE.out]
        · have he : parEq ps[k] qs[k] = false := by simpa using he
          have HE := Lib.hid he
          go_wp2
          go_quiet (fail)
          go_wp2
          go_ret
          refine ⟨ret_bool ?_, dr2 ..⟩
          symm; rw [decide_eq_false_iff_not]
          intro e; subst e
          have := HE.out
          simp [parEq] at this
      · obtain rfl : k = ps.length := by omega
        go_wp2
        go_ret
        refine ⟨ret_bool ?_, ⟨n, rfl⟩⟩
        have h1 := HT.out
        rw [List.take_of_length_le (Nat.le_refl _), List.take_of_length_le (by omega)] at h1
        simp [h1]
  · have hl0 : ((ps.length : Int) != (qs.length : Int)) = true := by simp; omega
    have HN : Hid (¬ ps = qs) := fun e => hl (by rw [e])
    go_enter Tryz.func34, Tryz.ntmps34
    go_wp2
    go_ret
    exact ⟨ret_bool (by simp [HN.out]), Dr.refl w⟩

/-- The same elements? -/
def nodEq (a b : Nod) : Bool := decide (a = b)
set_option maxHeartbeats 4000000 in
/-- Same: the same elements? -/
theorem rSame_walk (u v : Value) (ps qs : List Nod) (w : World) (hp : RNod w u ps) (hq : RNod w v qs) :
    Calls Tryz.prog 17 #[u, v] w fun e w' => e = .returned (.bool (decide (ps = qs))) ∧ Dr w w' := by
  have hp0 := hp
  have hq0 := hq
  obtain ⟨A, c, rfl, -, hmp, -⟩ := hp
  obtain ⟨B, d, rfl, -, hmq, -⟩ := hq
  by_cases hl : ps.length = qs.length
  · have HL := Lib.hid hl
    have hl0 : ((ps.length : Int) != (qs.length : Int)) = false := by simp; omega
    have hll : ps.length ≤ qs.length ∧ qs.length ≤ ps.length := by omega
    clear hl
    go_enter Tryz.func17, Tryz.ntmps17
    go_wp2
    go_loopw [5] (fun i wr => ∃ k : Nat, k ≤ ps.length ∧ i = .int .i64 k ∧ ps.take k = qs.take k ∧ Dr w wr) (fun i _ => ps.length - (intOf i).toNat)
    case atStart => exact ⟨0, by omega, rfl, rfl, Dr.refl w⟩
    case round =>
      obtain ⟨k, hk, rfl, ht, hd⟩ := hrel
      have HT := Lib.hid ht
      clear ht
      by_cases hlt : k < ps.length
      · obtain ⟨a, va, rfl, a0, a1, a2, a3, a4, -⟩ := (hp0.keep hd.below0).at_ k hlt
        have hltq : k < qs.length := by omega
        obtain ⟨b, vb, rfl, b0, b1, b2, b3, b4, -⟩ := (hq0.keep hd.below0).at_ k hltq
        have HS : Hid (ps.take (k + 1) = ps.take k ++ [ps[k]] ∧ qs.take (k + 1) = qs.take k ++ [qs[k]]) :=
          ⟨List.take_succ_eq_append_getElem hlt, List.take_succ_eq_append_getElem hltq⟩
        by_cases h1 : ps[k].deep = qs[k].deep
        · have e1 : (ps[k].deep != qs[k].deep) = false := by simp [h1]
          by_cases h2 : ps[k].name = qs[k].name
          · have e2 : (ps[k].name == qs[k].name) = true := by simp [h2]
            by_cases h4 : ps[k].text = qs[k].text
            · have e4 : (ps[k].text == qs[k].text) = true := by simp [h4]
              by_cases h3 : ps[k].attrs = qs[k].attrs
              · have HE : Hid (ps[k] = qs[k]) := by
                  show _ = _
                  cases hx : ps[k]; cases hy : qs[k]; simp only [hx, hy] at h1 h2 h3 h4; subst h1 h2 h3 h4; rfl
                have hc3 : ∀ w', Calls Tryz.prog 34 #[va, vb] (wr.drewN w') fun e w'' => e = .returned (.bool true) ∧ Dr (wr.drewN w') w'' := fun w' => by
                  have := rLists_walk va vb ps[k].attrs qs[k].attrs (wr.drewN w') (a3.keep (Dr.below0 ⟨w', rfl⟩)) (b3.keep (Dr.below0 ⟨w', rfl⟩))
                  rwa [show decide (ps[k].attrs = qs[k].attrs) = true from by simp [h3]] at this
                have HC := Lib.hid hc3
                clear h1 h2 h3 h4 hc3
                go_wp2
                go_quiet ((go_at_call 34; exact Calls.quiet_of (HC.out _)))
                go_wp2
                refine ⟨⟨k + 1, by omega, by go_num, ?_, hd.drewN _⟩, by simp [intOf]; omega⟩
                rw [HS.out.1, HS.out.2, HT.out, HE.out]
              · have hc3 : ∀ w', Calls Tryz.prog 34 #[va, vb] (wr.drewN w') fun e w'' => e = .returned (.bool false) ∧ Dr (wr.drewN w') w'' := fun w' => by
                  have := rLists_walk va vb ps[k].attrs qs[k].attrs (wr.drewN w') (a3.keep (Dr.below0 ⟨w', rfl⟩)) (b3.keep (Dr.below0 ⟨w', rfl⟩))
                  rwa [show decide (ps[k].attrs = qs[k].attrs) = false from by simp [h3]] at this
                have HC := Lib.hid hc3
                clear h1 h2 h4 hc3
                have HE := Lib.hid h3
                clear h3
                go_wp2
                go_quiet ((go_at_call 34; exact Calls.quiet_of (HC.out _)))
                go_wp2
                go_ret
                refine ⟨ret_bool ?_, hd.drewN _⟩
                symm; rw [decide_eq_false_iff_not]
                intro e; subst e
                exact HE.out rfl
            · have e4 : (ps[k].text == qs[k].text) = false := by simp [h4]
              clear h1 h2
              have HE := Lib.hid h4
              clear h4
              go_wp2
              go_quiet (fail)
              go_wp2
              go_ret
              refine ⟨ret_bool ?_, hd.drewN _⟩
              symm; rw [decide_eq_false_iff_not]
              intro e; subst e
              exact HE.out rfl
          · have e2 : (ps[k].name == qs[k].name) = false := by simp [h2]
            clear h1
            have HE := Lib.hid h2
            clear h2
            go_wp2
            go_quiet (fail)
            go_wp2
            go_ret
            refine ⟨ret_bool ?_, hd.drewN _⟩
            symm; rw [decide_eq_false_iff_not]
            intro e; subst e
            exact HE.out rfl
        · have e1 : (ps[k].deep != qs[k].deep) = true := by simp [h1]
          have HE := Lib.hid h1
          clear h1
          go_wp2
          go_quiet (fail)
          go_wp2
          go_ret
          refine ⟨ret_bool ?_, hd.drewN _⟩
          symm; rw [decide_eq_false_iff_not]
          intro e; subst e
          exact HE.out rfl
      · obtain rfl : k = ps.length := by omega
        go_wp2
        go_ret
        refine ⟨ret_bool ?_, hd⟩
        have h1 := HT.out
        rw [List.take_of_length_le (Nat.le_refl _), List.take_of_length_le (by omega)] at h1
        simp [h1]
  · have hl0 : ((ps.length : Int) != (qs.length : Int)) = true := by simp; omega
    have HN : Hid (¬ ps = qs) := fun e => hl (by rw [e])
    go_enter Tryz.func17, Tryz.ntmps17
    go_wp2
    go_ret
    exact ⟨ret_bool (by simp [HN.out]), Dr.refl w⟩
end Go.Proofs.YtffcapkjfmkkaaaGreatDoor
namespace Go.Proofs.YtffcapkjfmkkaaaGreatDoor
open Go.RowKit
def attrOK (pre : List Par) (p : Par) : Bool := nameB p.name && p.has && signsB p.value && !(pre.any fun q => q.name == p.name)
def attrsA : List Par → List Par → Bool
  | _, [] => true
  | pre, p :: l => attrOK pre p && attrsA (pre ++ [p]) l
def attrsB (l : List Par) : Bool := decide (l.length ≤ 16) && attrsA [] l
theorem attrsA_at (ps : List Par) (k : Nat) (h : k < ps.length) : attrsA (ps.take k) (ps.drop k) = (attrOK (ps.take k) ps[k] && attrsA (ps.take (k + 1)) (ps.drop (k + 1))) := by
  rw [List.drop_eq_getElem_cons h, attrsA, List.take_succ_eq_append_getElem h]
def nmEq (a b : Par) : Bool := a.name == b.name
theorem any_snoc (ps : List Par) (j : Nat) (h : j < ps.length) (p : Par) : ((ps.take (j + 1)).any fun q => q.name == p.name) = (((ps.take j).any fun q => q.name == p.name) || nmEq ps[j] p) := by
  rw [List.take_succ_eq_append_getElem h, List.any_append]; simp [nmEq]
theorem rName_val (l : Bs) (w : World) (hs : l.length ≤ maxLen) (b : Bool) (h : nameB l = b) :
    Calls Tryz.prog 15 #[.string ⟨l.toArray⟩] w fun e w' => e = .returned (.bool b) ∧ Dr w w' := by
  subst h; exact rName_walk ⟨l.toArray⟩ w hs
theorem rSigns_val (l : Bs) (w : World) (hs : l.length ≤ maxLen) (b : Bool) (h : signsB l = b) :
    Calls Tryz.prog 18 #[.string ⟨l.toArray⟩] w fun e w' => e = .returned (.bool b) ∧ Dr w w' := by
  subst h; exact rSigns_walk ⟨l.toArray⟩ w hs
def noDup (ps : List Par) (j : Nat) (p : Par) : Bool := !((ps.take j).any fun q => q.name == p.name)
set_option maxHeartbeats 2000000 in
theorem rattrs_walk (u : Value) (ps : List Par) (w : World) (hp : RPar w u ps) :
    Calls Tryz.prog 28 #[u] w fun e w' => e = .returned (.bool (attrsB ps)) ∧ Dr w w' := by
  have hp0 := hp
  obtain ⟨A, c, rfl, -, hm, -⟩ := hp
  by_cases hl : ps.length ≤ 16
  · have HL : Hid (attrsB ps = attrsA [] ps) := by show _ = _; unfold attrsB; simp [hl]
    go_enter Tryz.func28, Tryz.ntmps28
    go_wp2
    go_loopw [3] (fun i wr => ∃ k : Nat, k ≤ ps.length ∧ i = .int .i64 k ∧ attrsA [] ps = attrsA (ps.take k) (ps.drop k) ∧ Dr w wr) (fun i _ => ps.length - (intOf i).toNat)
    case atStart => exact ⟨0, by omega, rfl, rfl, Dr.refl w⟩
    case round =>
      obtain ⟨k, hk, rfl, ht, hd⟩ := hrel
      have HT := Lib.hid ht
      clear ht
      by_cases hlt : k < ps.length
      · have HA := Lib.hid (attrsA_at ps k hlt)
        obtain ⟨a, rfl, a0, a1, a2, n1, n2⟩ := (hp0.keep hd.below0).at_ k hlt
        have HN := Lib.hid n1
        have HV := Lib.hid n2
        clear n1 n2
        have ret0 : attrOK (ps.take k) ps[k] = false → ∀ w', Dr w w' → (Ending.returned (.bool false) = .returned (.bool (attrsB ps)) ∧ Dr w w') := fun h w' h' => ⟨ret_bool (by rw [HL.out, HT.out, HA.out, h]; rfl), h'⟩
        have HR := Lib.hid ret0
        clear ret0
        by_cases h1 : nameB ps[k].name = true
        · by_cases h2 : ps[k].has = true
          · by_cases h3 : signsB ps[k].value = true
            · have H1 := Lib.hid h1; have H2 := Lib.hid h2; have H3 := Lib.hid h3
              clear h1 h2 h3
              rw [H2.out] at a2
              go_wp2_with fail
              refine (rName_val _ _ HN.out _ H1.out).mono ?_
              rintro e w' ⟨rfl, m1, rfl⟩
              go_wp2_with fail
              refine (rSigns_val _ _ HV.out _ H3.out).mono ?_
              rintro e w' ⟨rfl, m2, rfl⟩
              go_wp2_with fail
              have hd1 : Dr w (wr.drewN (m1 + m2)) := hd.drewN _
              generalize wr.drewN (m1 + m2) = wq at *
              clear a0 a1 a2
              go_loopw [4] (fun v w2 => ∃ j : Nat, j ≤ k ∧ v = .int .i64 j ∧ noDup ps j ps[k] = true ∧ Dr w w2) (fun v _ => k - (intOf v).toNat)
              case atStart => exact ⟨0, by omega, rfl, rfl, hd1⟩
              case round =>
                obtain ⟨j, hj, rfl, ht2, hd2⟩ := hrel
                have HJ := Lib.hid ht2
                clear ht2
                by_cases hjk : j < k
                · have hjl : j < ps.length := by omega
                  obtain ⟨b, hb', b0, -⟩ := (hp0.keep hd2.below0).at_ j hjl
                  obtain ⟨b', hb'', c0, -⟩ := (hp0.keep hd2.below0).at_ k hlt
                  cases hb'; cases hb''
                  have HS := Lib.hid (any_snoc ps j hjl ps[k])
                  by_cases he : (ps[j].name == ps[k].name) = true
                  · have HE := Lib.hid he
                    go_wp2
                    go_quiet (fail)
                    go_wp2
                    go_ret
                    refine HR.out ?_ _ (hd2.drewN _)
                    have hmem : ((ps.take k).any fun q => q.name == ps[k].name) = true := by
                      rw [List.any_eq_true]
                      exact ⟨ps[j], List.mem_take_iff_getElem.2 ⟨j, by omega, rfl⟩, HE.out⟩
                    simp [attrOK, hmem]
                  · have he : (ps[j].name == ps[k].name) = false := by simpa using he
                    have HE := Lib.hid he
                    go_wp2
                    go_quiet (fail)
                    go_wp2
                    refine ⟨⟨j + 1, by omega, by go_num, ?_, hd2.drewN _⟩, by simp [intOf]; omega⟩
                    have := HJ.out
                    unfold noDup at this ⊢
                    rw [HS.out, nmEq, HE.out]; simpa using this
                · obtain rfl : j = k := by omega
                  go_wp2
                  refine ⟨⟨j + 1, by omega, by go_num, ?_, hd2⟩, by simp [intOf]; omega⟩
                  rw [HT.out, HA.out]
                  have : attrOK (ps.take j) ps[j] = true := by
                    unfold attrOK; rw [H1.out, H2.out, H3.out]; have := HJ.out; unfold noDup at this; simpa using this
                  rw [this]; rfl
            · have h3 : signsB ps[k].value = false := by simpa using h3
              have H1 := Lib.hid h1; have H2 := Lib.hid h2; have H3 := Lib.hid h3
              clear h1 h2 h3
              rw [H2.out] at a2
              go_wp2_with fail
              refine (rName_val _ _ HN.out _ H1.out).mono ?_
              rintro e w' ⟨rfl, m1, rfl⟩
              go_wp2_with fail
              refine (rSigns_val _ _ HV.out _ H3.out).mono ?_
              rintro e w' ⟨rfl, m2, rfl⟩
              go_wp2_with fail
              go_ret
              exact HR.out (by simp [attrOK, H3.out]) _ (hd.drewN _)
          · have h2 : ps[k].has = false := by simpa using h2
            have H1 := Lib.hid h1; have H2 := Lib.hid h2
            clear h1 h2
            rw [H2.out] at a2
            go_wp2_with fail
            refine (rName_val _ _ HN.out _ H1.out).mono ?_
            rintro e w' ⟨rfl, m1, rfl⟩
            go_wp2_with fail
            go_ret
            exact HR.out (by simp [attrOK, H2.out]) _ (hd.drewN _)
        · have h1 : nameB ps[k].name = false := by simpa using h1
          have H1 := Lib.hid h1
          clear h1
          go_wp2_with fail
          refine (rName_val _ _ HN.out _ H1.out).mono ?_
          rintro e w' ⟨rfl, m1, rfl⟩
          go_wp2_with fail
          go_ret
          exact HR.out (by simp [attrOK, H1.out]) _ (hd.drewN _)
      · obtain rfl : k = ps.length := by omega
        go_wp2
        go_ret
        exact ⟨ret_bool (by rw [HL.out, HT.out]; simp [attrsA]), hd⟩
  · have HL : Hid (attrsB ps = false) := by show _ = _; unfold attrsB; simp [hl]
    go_enter Tryz.func28, Tryz.ntmps28
    go_wp2
    go_ret
    exact ⟨ret_bool HL.out.symm, Dr.refl w⟩
end Go.Proofs.YtffcapkjfmkkaaaGreatDoor
namespace Go.Proofs.YtffcapkjfmkkaaaGreatDoor
open Go.RowKit
def elemOK (n : Nod) : Bool := decide (n.deep < 8) && nameB n.name && attrsB n.attrs && signsB n.text && decide (trimB n.text = n.text)
/-- b behind a: its depth; a's text. -/
def pairD (a b : Nod) : Bool := decide (1 ≤ b.deep) && decide (b.deep ≤ a.deep + 1)
def pairT (a b : Nod) : Bool := !(decide (b.deep > a.deep) && decide (a.text ≠ []))
def chainB : List Nod → Bool
  | [] => true
  | [a] => elemOK a
  | a :: b :: l => elemOK a && (pairT a b && (pairD a b && chainB (b :: l)))
def checkB (l : List Nod) : Bool := decide (1 ≤ l.length) && decide (l.length ≤ 200) && decide ((l.head?.map Nod.deep) = some 0) && chainB l
def chkI (b : Bool) : Int := if b then 0 else 130
def gateD (ns : List Nod) (k : Nat) : Bool := if h : 0 < k ∧ k < ns.length then pairD (ns[k - 1]'(by omega)) (ns[k]'h.2) else true
def gateT (ns : List Nod) (k : Nat) : Bool := if h : k + 1 < ns.length then pairT (ns[k]'(by omega)) (ns[k + 1]'h) else true
theorem chain_at (ns : List Nod) (k : Nat) (h : k < ns.length) : chainB (ns.drop k) = (elemOK ns[k] && (gateT ns k && (gateD ns (k + 1) && chainB (ns.drop (k + 1))))) := by
  rw [List.drop_eq_getElem_cons h]
  by_cases h1 : k + 1 < ns.length
  · rw [List.drop_eq_getElem_cons h1, chainB, gateT, dif_pos h1, gateD, dif_pos ⟨by omega, h1⟩]; rfl
  · rw [List.drop_eq_nil_of_le (by omega), chainB, gateT, dif_neg h1, gateD, dif_neg (by omega)]; simp [chainB]
theorem rattrs_val (u : Value) (ps : List Par) (w : World) (hp : RPar w u ps) (b : Bool) (h : attrsB ps = b) :
    Calls Tryz.prog 28 #[u] w fun e w' => e = .returned (.bool b) ∧ Dr w w' := by
  subst h; exact rattrs_walk u ps w hp
theorem rTrim_val (l : Bs) (w : World) (hs : l.length ≤ maxLen) (t : Bs) (h : trimB l = t) :
    Calls Tryz.prog 19 #[.string ⟨l.toArray⟩] w fun e w' => e = .returned (.string ⟨t.toArray⟩) ∧ Dr w w' := by
  subst h; exact rTrim_walk ⟨l.toArray⟩ w hs
theorem addr_zero (a : Addr) : a.add 0 = a := by
  unfold Addr.add; split <;> (cases a; simp_all)
def nodRow (n : Nod) (va : Value) : Obj := .cells #[.int .i64 n.deep, .string ⟨n.name.toArray⟩, va, .string ⟨n.text.toArray⟩] 46
set_option maxRecDepth 100000 in
set_option maxHeartbeats 16000000 in
theorem rCheck_walk (u : Value) (ns : List Nod) (w : World) (hp : RNod w u ns) :
    Calls Tryz.prog 13 #[u] w fun e w' => e = .returned (.int .i64 (chkI (checkB ns))) ∧ Below w.heap.size w w' := by
  have hp0 := hp
  obtain ⟨A, c, rfl, -, hm, -⟩ := hp
  by_cases h1 : 1 ≤ ns.length
  · by_cases h2 : ns.length ≤ 200
    · obtain ⟨a, va, rfl, a0, -⟩ := hp0.at_ 0 h1
      have az : w.cell? a = some (.int .i64 ns[0].deep) := by
        have : a.add (0 * 4) = a := by rw [Nat.zero_mul]; exact addr_zero a
        rwa [this] at a0
      by_cases h0 : ns[0].deep = 0
      · have HC : Hid (checkB ns = chainB ns) := by
          show _ = _; unfold checkB; rw [List.head?_eq_getElem?, List.getElem?_eq_getElem h1]; simp [h1, h2, h0]
        have e0 : (ns[0].deep != 0) = false := by simp [h0]
        have zl1 : decide ((ns.length : Int) < 1) = false := by simp; omega
        have zl2 : decide (200 < (ns.length : Int)) = false := by simp; omega
        have H0 := Lib.hid h0
        clear h0
        go_enter Tryz.func13, Tryz.ntmps13
        go_wp2
        go_loopw [3] (fun i wr => ∃ k : Nat, k ≤ ns.length ∧ i = .int .i64 k ∧ chainB ns = (gateD ns k && chainB (ns.drop k)) ∧ (∀ j (hj : j < ns.length), j + 1 = k → 0 ≤ ns[j].deep ∧ ns[j].deep < 8) ∧ Below w.heap.size w wr) (fun i _ => ns.length - (intOf i).toNat)
        case atStart => exact ⟨0, by omega, rfl, by simp [gateD], fun j hj e => by omega, Below.refl _ _⟩
        case round =>
          obtain ⟨k, hk, rfl, ht, hpv, hb⟩ := hrel
          have HT := Lib.hid ht
          have HPV := Lib.hid hpv
          clear ht hpv a0 az e0
          by_cases hlt : k < ns.length
          · have HA := Lib.hid (chain_at ns k hlt)
            obtain ⟨a', vk, ha', k0, k1, k2, hatt, k3, n1, n2⟩ := (hp0.keep hb).at_ k hlt
            cases ha'
            have hatt0 := hatt
            obtain ⟨A2, c2, rfl, -⟩ := hatt
            have HN := Lib.hid n1
            have HX := Lib.hid n2
            clear n1 n2
            have hret : (gateD ns k && elemOK ns[k]) = false → Hid (Ending.returned (.int .i64 130) = .returned (.int .i64 (chkI (checkB ns)))) := fun h => by
              have h5 : chainB ns = false := by
                rw [HT.out, HA.out]
                cases hg : gateD ns k <;> cases hh : elemOK ns[k] <;> simp_all
              exact ret_int (by rw [HC.out, h5]; rfl)
            have HRET := Lib.hid hret
            clear hret
            go_upto_region 7 with (fail)
            go_cut [79] (fun v w2 => v = .bool (!(gateD ns k && elemOK ns[k])) ∧ Dr (wr.alloc (nodRow ns[k] (.slice A2 ns[k].attrs.length c2))) w2)
            case first =>
              have hkeep : ∀ m, Below wr.heap.size wr ((wr.alloc (nodRow ns[k] (.slice A2 ns[k].attrs.length c2))).drewN m) := fun m => Dr.below ⟨m, rfl⟩ ((Below.refl _ _).alloc (Nat.le_refl _) _)
              have HK : Hid (∀ m, RPar ((wr.alloc (nodRow ns[k] (.slice A2 ns[k].attrs.length c2))).drewN m) (.slice A2 ns[k].attrs.length c2) ns[k].attrs) := fun m => hatt0.keep (hkeep m)
              have c0 := new_cell wr #[.int .i64 ns[k].deep, .string ⟨ns[k].name.toArray⟩, (.slice A2 ns[k].attrs.length c2), .string ⟨ns[k].text.toArray⟩] 46
              clear hkeep
              rcases Nat.eq_zero_or_pos k with hk0 | hk0
              · have hk1 : k ≤ 0 := by omega
                clear hk0
                have hzn : decide (0 < k) = false := by simp; omega
                have hz : decide ((k : Int) > 0) = false := by simp; omega
                have HG : Hid (gateD ns k = true) := by show _ = _; unfold gateD; rw [dif_neg (by omega)]
                by_cases d8 : ns[k].deep < 8
                · have z8 : decide (8 ≤ ns[k].deep) = false := by simp; omega
                  by_cases b1 : nameB ns[k].name = true
                  · have HNM := Lib.hid b1
                    clear b1
                    by_cases b2 : attrsB ns[k].attrs = true
                    · have HAT := Lib.hid b2
                      clear b2
                      by_cases b3 : signsB ns[k].text = true
                      · have HSG := Lib.hid b3
                        clear b3
                        by_cases b4 : trimB ns[k].text = ns[k].text
                        · have HTR := Lib.hid b4
                          have b5 : (ns[k].text == ns[k].text) = true := by simp
                          clear b4
                          have HF : Hid ((gateD ns k && elemOK ns[k]) = true) := by show _ = _; simp [HG.out, elemOK, HNM.out, HAT.out, HSG.out, HTR.out, d8]
                          go_quiet ((first | (go_at_call 15; exact Calls.quiet_of (rName_val _ _ HN.out _ HNM.out)) | (go_at_call 28; exact Calls.quiet_of (rattrs_val _ _ _ (HK.out _) _ HAT.out)) | (go_at_call 18; exact Calls.quiet_of (rSigns_val _ _ HX.out _ HSG.out)) | (go_at_call 19; exact Calls.quiet_of (rTrim_val _ _ HX.out _ HTR.out))))
                          (try go_wp2_with fail)
                          go_meet
                          exact ⟨by rw [HF.out]; rfl, ⟨_, rfl⟩⟩
                        · have HTR : Hid (trimB ns[k].text = trimB ns[k].text) := rfl
                          have b5 : (trimB ns[k].text == ns[k].text) = false := by simp [b4]
                          have HB4 := Lib.hid b4
                          clear b4
                          have HF : Hid ((gateD ns k && elemOK ns[k]) = false) := by show _ = _; simp [elemOK, HB4.out]
                          go_quiet ((first | (go_at_call 15; exact Calls.quiet_of (rName_val _ _ HN.out _ HNM.out)) | (go_at_call 28; exact Calls.quiet_of (rattrs_val _ _ _ (HK.out _) _ HAT.out)) | (go_at_call 18; exact Calls.quiet_of (rSigns_val _ _ HX.out _ HSG.out)) | (go_at_call 19; exact Calls.quiet_of (rTrim_val _ _ HX.out _ HTR.out))))
                          (try go_wp2_with fail)
                          go_meet
                          exact ⟨by rw [HF.out]; rfl, ⟨_, rfl⟩⟩
                      · have b3 : signsB ns[k].text = false := by simpa using b3
                        have HSG := Lib.hid b3
                        clear b3
                        have HF : Hid ((gateD ns k && elemOK ns[k]) = false) := by show _ = _; simp [elemOK, HSG.out]
                        go_quiet ((first | (go_at_call 15; exact Calls.quiet_of (rName_val _ _ HN.out _ HNM.out)) | (go_at_call 28; exact Calls.quiet_of (rattrs_val _ _ _ (HK.out _) _ HAT.out)) | (go_at_call 18; exact Calls.quiet_of (rSigns_val _ _ HX.out _ HSG.out)) | (go_at_call 19; exact Calls.quiet_of (rTrim_val _ _ HX.out _ HTR.out))))
                        (try go_wp2_with fail)
                        go_meet
                        exact ⟨by rw [HF.out]; rfl, ⟨_, rfl⟩⟩
                    · have b2 : attrsB ns[k].attrs = false := by simpa using b2
                      have HAT := Lib.hid b2
                      clear b2
                      have HF : Hid ((gateD ns k && elemOK ns[k]) = false) := by show _ = _; simp [elemOK, HAT.out]
                      go_quiet ((first | (go_at_call 15; exact Calls.quiet_of (rName_val _ _ HN.out _ HNM.out)) | (go_at_call 28; exact Calls.quiet_of (rattrs_val _ _ _ (HK.out _) _ HAT.out)) | (go_at_call 18; exact Calls.quiet_of (rSigns_val _ _ HX.out _ HSG.out)) | (go_at_call 19; exact Calls.quiet_of (rTrim_val _ _ HX.out _ HTR.out))))
                      (try go_wp2_with fail)
                      go_meet
                      exact ⟨by rw [HF.out]; rfl, ⟨_, rfl⟩⟩
                  · have b1 : nameB ns[k].name = false := by simpa using b1
                    have HNM := Lib.hid b1
                    clear b1
                    have HF : Hid ((gateD ns k && elemOK ns[k]) = false) := by show _ = _; simp [elemOK, HNM.out]
                    go_quiet ((first | (go_at_call 15; exact Calls.quiet_of (rName_val _ _ HN.out _ HNM.out)) | (go_at_call 28; exact Calls.quiet_of (rattrs_val _ _ _ (HK.out _) _ HAT.out)) | (go_at_call 18; exact Calls.quiet_of (rSigns_val _ _ HX.out _ HSG.out)) | (go_at_call 19; exact Calls.quiet_of (rTrim_val _ _ HX.out _ HTR.out))))
                    (try go_wp2_with fail)
                    go_meet
                    exact ⟨by rw [HF.out]; rfl, ⟨_, rfl⟩⟩
                · have z8 : decide (8 ≤ ns[k].deep) = true := by simp; omega
                  have HF : Hid ((gateD ns k && elemOK ns[k]) = false) := by show _ = _; simp [elemOK, d8]
                  go_quiet ((first | (go_at_call 15; exact Calls.quiet_of (rName_val _ _ HN.out _ HNM.out)) | (go_at_call 28; exact Calls.quiet_of (rattrs_val _ _ _ (HK.out _) _ HAT.out)) | (go_at_call 18; exact Calls.quiet_of (rSigns_val _ _ HX.out _ HSG.out)) | (go_at_call 19; exact Calls.quiet_of (rTrim_val _ _ HX.out _ HTR.out))))
                  (try go_wp2_with fail)
                  go_meet
                  exact ⟨by rw [HF.out]; rfl, ⟨_, rfl⟩⟩
              · have hz : decide ((k : Int) > 0) = true := by simp; omega
                have hp1 : k - 1 < ns.length := by omega
                obtain ⟨a2, v2, ha2, p0, -⟩ := (hp0.keep hb).at_ (k - 1) hp1
                cases ha2
                have p1 := cell_keep ((Below.refl wr.heap.size wr).alloc (Nat.le_refl _) (nodRow ns[k] (.slice A2 ns[k].attrs.length c2))) p0
                have hpb := HPV.out (k - 1) hp1 (by omega)
                have HGD : Hid (gateD ns k = pairD ns[k - 1] ns[k]) := by show _ = _; unfold gateD; rw [dif_pos ⟨hk0, hlt⟩]
                unfold nodRow at p1
                clear p0
                by_cases d1 : 1 ≤ ns[k].deep
                · have z1 : decide (ns[k].deep < 1) = false := by simp; omega
                  have w1 : IntKind.i64.wrap (ns[k - 1].deep + 1) = ns[k - 1].deep + 1 := IntWalk.i64_in _ (by omega)
                  by_cases d2 : ns[k].deep ≤ ns[k - 1].deep + 1
                  · have z2 : decide (ns[k - 1].deep + 1 < ns[k].deep) = false := by simp; omega
                    have HG : Hid (gateD ns k = true) := by show _ = _; rw [HGD.out]; simp [pairD, d1, d2]
                    by_cases d8 : ns[k].deep < 8
                    · have z8 : decide (8 ≤ ns[k].deep) = false := by simp; omega
                      by_cases b1 : nameB ns[k].name = true
                      · have HNM := Lib.hid b1
                        clear b1
                        by_cases b2 : attrsB ns[k].attrs = true
                        · have HAT := Lib.hid b2
                          clear b2
                          by_cases b3 : signsB ns[k].text = true
                          · have HSG := Lib.hid b3
                            clear b3
                            by_cases b4 : trimB ns[k].text = ns[k].text
                            · have HTR := Lib.hid b4
                              have b5 : (ns[k].text == ns[k].text) = true := by simp
                              clear b4
                              have HF : Hid ((gateD ns k && elemOK ns[k]) = true) := by show _ = _; simp [HG.out, elemOK, HNM.out, HAT.out, HSG.out, HTR.out, d8]
                              go_quiet ((first | (go_at_call 15; exact Calls.quiet_of (rName_val _ _ HN.out _ HNM.out)) | (go_at_call 28; exact Calls.quiet_of (rattrs_val _ _ _ (HK.out _) _ HAT.out)) | (go_at_call 18; exact Calls.quiet_of (rSigns_val _ _ HX.out _ HSG.out)) | (go_at_call 19; exact Calls.quiet_of (rTrim_val _ _ HX.out _ HTR.out))))
                              (try go_wp2_with fail)
                              go_meet
                              exact ⟨by rw [HF.out]; rfl, ⟨_, rfl⟩⟩
                            · have HTR : Hid (trimB ns[k].text = trimB ns[k].text) := rfl
                              have b5 : (trimB ns[k].text == ns[k].text) = false := by simp [b4]
                              have HB4 := Lib.hid b4
                              clear b4
                              have HF : Hid ((gateD ns k && elemOK ns[k]) = false) := by show _ = _; simp [elemOK, HB4.out]
                              go_quiet ((first | (go_at_call 15; exact Calls.quiet_of (rName_val _ _ HN.out _ HNM.out)) | (go_at_call 28; exact Calls.quiet_of (rattrs_val _ _ _ (HK.out _) _ HAT.out)) | (go_at_call 18; exact Calls.quiet_of (rSigns_val _ _ HX.out _ HSG.out)) | (go_at_call 19; exact Calls.quiet_of (rTrim_val _ _ HX.out _ HTR.out))))
                              (try go_wp2_with fail)
                              go_meet
                              exact ⟨by rw [HF.out]; rfl, ⟨_, rfl⟩⟩
                          · have b3 : signsB ns[k].text = false := by simpa using b3
                            have HSG := Lib.hid b3
                            clear b3
                            have HF : Hid ((gateD ns k && elemOK ns[k]) = false) := by show _ = _; simp [elemOK, HSG.out]
                            go_quiet ((first | (go_at_call 15; exact Calls.quiet_of (rName_val _ _ HN.out _ HNM.out)) | (go_at_call 28; exact Calls.quiet_of (rattrs_val _ _ _ (HK.out _) _ HAT.out)) | (go_at_call 18; exact Calls.quiet_of (rSigns_val _ _ HX.out _ HSG.out)) | (go_at_call 19; exact Calls.quiet_of (rTrim_val _ _ HX.out _ HTR.out))))
                            (try go_wp2_with fail)
                            go_meet
                            exact ⟨by rw [HF.out]; rfl, ⟨_, rfl⟩⟩
                        · have b2 : attrsB ns[k].attrs = false := by simpa using b2
                          have HAT := Lib.hid b2
                          clear b2
                          have HF : Hid ((gateD ns k && elemOK ns[k]) = false) := by show _ = _; simp [elemOK, HAT.out]
                          go_quiet ((first | (go_at_call 15; exact Calls.quiet_of (rName_val _ _ HN.out _ HNM.out)) | (go_at_call 28; exact Calls.quiet_of (rattrs_val _ _ _ (HK.out _) _ HAT.out)) | (go_at_call 18; exact Calls.quiet_of (rSigns_val _ _ HX.out _ HSG.out)) | (go_at_call 19; exact Calls.quiet_of (rTrim_val _ _ HX.out _ HTR.out))))
                          (try go_wp2_with fail)
                          go_meet
                          exact ⟨by rw [HF.out]; rfl, ⟨_, rfl⟩⟩
                      · have b1 : nameB ns[k].name = false := by simpa using b1
                        have HNM := Lib.hid b1
                        clear b1
                        have HF : Hid ((gateD ns k && elemOK ns[k]) = false) := by show _ = _; simp [elemOK, HNM.out]
                        go_quiet ((first | (go_at_call 15; exact Calls.quiet_of (rName_val _ _ HN.out _ HNM.out)) | (go_at_call 28; exact Calls.quiet_of (rattrs_val _ _ _ (HK.out _) _ HAT.out)) | (go_at_call 18; exact Calls.quiet_of (rSigns_val _ _ HX.out _ HSG.out)) | (go_at_call 19; exact Calls.quiet_of (rTrim_val _ _ HX.out _ HTR.out))))
                        (try go_wp2_with fail)
                        go_meet
                        exact ⟨by rw [HF.out]; rfl, ⟨_, rfl⟩⟩
                    · have z8 : decide (8 ≤ ns[k].deep) = true := by simp; omega
                      have HF : Hid ((gateD ns k && elemOK ns[k]) = false) := by show _ = _; simp [elemOK, d8]
                      go_quiet ((first | (go_at_call 15; exact Calls.quiet_of (rName_val _ _ HN.out _ HNM.out)) | (go_at_call 28; exact Calls.quiet_of (rattrs_val _ _ _ (HK.out _) _ HAT.out)) | (go_at_call 18; exact Calls.quiet_of (rSigns_val _ _ HX.out _ HSG.out)) | (go_at_call 19; exact Calls.quiet_of (rTrim_val _ _ HX.out _ HTR.out))))
                      (try go_wp2_with fail)
                      go_meet
                      exact ⟨by rw [HF.out]; rfl, ⟨_, rfl⟩⟩
                  · have z2 : decide (ns[k - 1].deep + 1 < ns[k].deep) = true := by simp; omega
                    have HF : Hid ((gateD ns k && elemOK ns[k]) = false) := by show _ = _; rw [HGD.out]; simp [pairD, d2]
                    go_quiet ((first | (go_at_call 15; exact Calls.quiet_of (rName_val _ _ HN.out _ HNM.out)) | (go_at_call 28; exact Calls.quiet_of (rattrs_val _ _ _ (HK.out _) _ HAT.out)) | (go_at_call 18; exact Calls.quiet_of (rSigns_val _ _ HX.out _ HSG.out)) | (go_at_call 19; exact Calls.quiet_of (rTrim_val _ _ HX.out _ HTR.out))))
                    (try go_wp2_with fail)
                    go_meet
                    exact ⟨by rw [HF.out]; rfl, ⟨_, rfl⟩⟩
                · have z1 : decide (ns[k].deep < 1) = true := by simp; omega
                  have HF : Hid ((gateD ns k && elemOK ns[k]) = false) := by show _ = _; rw [HGD.out]; simp [pairD, d1]
                  go_quiet ((first | (go_at_call 15; exact Calls.quiet_of (rName_val _ _ HN.out _ HNM.out)) | (go_at_call 28; exact Calls.quiet_of (rattrs_val _ _ _ (HK.out _) _ HAT.out)) | (go_at_call 18; exact Calls.quiet_of (rSigns_val _ _ HX.out _ HSG.out)) | (go_at_call 19; exact Calls.quiet_of (rTrim_val _ _ HX.out _ HTR.out))))
                  (try go_wp2_with fail)
                  go_meet
                  exact ⟨by rw [HF.out]; rfl, ⟨_, rfl⟩⟩
            case rest =>
              obtain ⟨hv, n, rfl⟩ := hcut
              subst hv
              have HBW : Hid (∀ m, Below w.heap.size w ((wr.alloc (nodRow ns[k] (.slice A2 ns[k].attrs.length c2))).drewN m)) := fun m => Dr.below ⟨m, rfl⟩ (hb.alloc hb.size _)
              have c0 := new_cell wr #[.int .i64 ns[k].deep, .string ⟨ns[k].name.toArray⟩, (.slice A2 ns[k].attrs.length c2), .string ⟨ns[k].text.toArray⟩] 46
              have hnr : nodRow ns[k] (.slice A2 ns[k].attrs.length c2) = .cells #[.int .i64 ns[k].deep, .string ⟨ns[k].name.toArray⟩, (.slice A2 ns[k].attrs.length c2), .string ⟨ns[k].text.toArray⟩] 46 := rfl
              rw [hnr]
              have HNR := Lib.hid hnr
              clear hnr
              by_cases hok : (gateD ns k && elemOK ns[k]) = true
              · have HOK := Lib.hid hok
                rw [hok]
                clear hok
                have H8 : Hid (0 ≤ ns[k].deep ∧ ns[k].deep < 8) := by
                  have h := HOK.out
                  rw [Bool.and_eq_true] at h
                  have h8 : ns[k].deep < 8 := by have := h.2; unfold elemOK at this; simp at this; exact this.1.1.1.1
                  refine ⟨?_, h8⟩
                  rcases Nat.eq_zero_or_pos k with hk0 | hk0
                  · subst hk0; have := H0.out; omega
                  · have hg := h.1; unfold gateD at hg; rw [dif_pos ⟨hk0, hlt⟩] at hg; unfold pairD at hg; simp at hg; omega
                have HNX : Hid (gateT ns k = true → chainB ns = (gateD ns (k + 1) && chainB (ns.drop (k + 1)))) := fun ht => by
                  have h := HOK.out
                  rw [Bool.and_eq_true] at h
                  rw [HT.out, HA.out, h.1, h.2, ht]; simp
                have HGT : Hid (gateT ns k = (if h : k + 1 < ns.length then pairT ns[k] ns[k + 1] else true)) := rfl
                have hround : gateT ns k = true → ∀ m, Hid ((∃ k_1, k_1 ≤ ns.length ∧ Value.int IntKind.i64 (↑k + 1) = Value.int IntKind.i64 ↑k_1 ∧ chainB ns = (gateD ns k_1 && chainB (ns.drop k_1)) ∧ (∀ j (hj : j < ns.length), j + 1 = k_1 → 0 ≤ ns[j].deep ∧ ns[j].deep < 8) ∧ Below w.heap.size w ((wr.alloc (nodRow ns[k] (.slice A2 ns[k].attrs.length c2))).drewN m))) := fun ht m =>
                  ⟨k + 1, by omega, by go_num, HNX.out ht, fun j hj e => by obtain rfl : j = k := by omega
                                                                            exact H8.out, HBW.out m⟩
                have HRD := Lib.hid hround
                clear hround
                by_cases hn : k + 1 < ns.length
                · have hz : decide ((k : Int) + 1 < (ns.length : Int)) = true := by simp; omega
                  obtain ⟨a3, v3, ha3, q0, -⟩ := (hp0.keep hb).at_ (k + 1) hn
                  cases ha3
                  have q1 := cell_keep ((Below.refl wr.heap.size wr).alloc (Nat.le_refl _) (nodRow ns[k] (.slice A2 ns[k].attrs.length c2))) q0
                  rw [HNR.out] at q1
                  clear q0
                  have HGT2 : Hid (gateT ns k = pairT ns[k] ns[k + 1]) := by show _ = _; rw [HGT.out, dif_pos hn]
                  by_cases hdp : ns[k].deep < ns[k + 1].deep
                  · have zd : decide (ns[k].deep < ns[k + 1].deep) = true := by simp; omega
                    by_cases hte : ns[k].text = []
                    · have HG : Hid (gateT ns k = true) := by show _ = _; rw [HGT2.out]; simp [pairT, hte]
                      have zt : ns[k].text.isEmpty = true := by simp [hte]
                      have zt2 : (ns[k].text == []) = true := by simp [hte]
                      clear hte
                      go_wp2
                      go_quiet (fail)
                      go_wp2
                      exact ⟨HRD.out HG.out _, by simp [intOf]; omega⟩
                    · have HG : Hid (gateT ns k = false) := by show _ = _; rw [HGT2.out]; simp [pairT, hte, hdp]
                      have zt : ns[k].text.isEmpty = false := by simpa using hte
                      have zt2 : (ns[k].text == []) = false := by simpa using hte
                      have HTE := Lib.hid hte
                      clear hte
                      go_wp2
                      go_quiet (fail)
                      go_wp2
                      go_ret
                      refine ⟨ret_int ?_, by rw [World.drewN_drewN]; exact HBW.out _⟩
                      have h := HOK.out
                      rw [Bool.and_eq_true] at h
                      rw [HC.out, HT.out, HA.out, h.1, h.2, HG.out]; rfl
                  · have zd : decide (ns[k].deep < ns[k + 1].deep) = false := by simp; omega
                    have HG : Hid (gateT ns k = true) := by show _ = _; rw [HGT2.out]; simp [pairT, hdp]
                    go_wp2
                    go_quiet (fail)
                    go_wp2
                    exact ⟨HRD.out HG.out _, by simp [intOf]; omega⟩
                · have hz : decide ((k : Int) + 1 < (ns.length : Int)) = false := by simp; omega
                  have HG : Hid (gateT ns k = true) := by show _ = _; rw [HGT.out, dif_neg hn]
                  go_wp2
                  go_quiet (fail)
                  go_wp2
                  exact ⟨HRD.out HG.out _, by simp [intOf]; omega⟩
              · have hok : (gateD ns k && elemOK ns[k]) = false := by simpa using hok
                have HR := HRET.out hok
                rw [hok]
                clear hok
                go_wp2
                go_ret
                exact ⟨HR.out, HBW.out n⟩
          · obtain rfl : k = ns.length := by omega
            go_wp2
            go_ret
            refine ⟨ret_int ?_, hb⟩
            rw [HC.out, HT.out]; simp [gateD, chainB, chkI]
      · have HC : Hid (checkB ns = false) := by
          show _ = _; unfold checkB; rw [List.head?_eq_getElem?, List.getElem?_eq_getElem h1]; simp [h0]
        have e0 : (ns[0].deep != 0) = true := by simp [h0]
        clear h0
        go_enter Tryz.func13, Tryz.ntmps13
        go_wp2
        go_ret
        exact ⟨ret_int (by rw [HC.out]; rfl), Below.refl _ _⟩
    · have HC : Hid (checkB ns = false) := by show _ = _; unfold checkB; simp [h2]
      go_enter Tryz.func13, Tryz.ntmps13
      go_wp2
      go_ret
      exact ⟨ret_int (by rw [HC.out]; rfl), Below.refl _ _⟩
  · have HC : Hid (checkB ns = false) := by show _ = _; unfold checkB; simp [h1]
    go_enter Tryz.func13, Tryz.ntmps13
    go_wp2
    go_ret
    exact ⟨ret_int (by rw [HC.out]; rfl), Below.refl _ _⟩
end Go.Proofs.YtffcapkjfmkkaaaGreatDoor
namespace Go.Proofs.YtffcapkjfmkkaaaGreatDoor
open Go.RowKit
/-- The attributes behind a name; what is left begins with / or >, or is empty. -/
def attrsS : Nat → Bs → List Par → Option (List Par × Bs)
  | 0, _, _ => none
  | f + 1, s, acc =>
    match dropW blankB s with
    | [] => some (acc, [])
    | c :: r =>
      if c = 47 ∨ c = 62 then some (acc, c :: r)
      else if (c :: r).length = s.length then none
      else match attrS (c :: r) with
        | none => none
        | some (p, rest) => attrsS f rest (acc ++ [p])
def pre2 (a b : UInt8) : Bs → Option Bs
  | c :: d :: r => if c = a ∧ d = b then some r else none
  | _ => none
def pre1 (a : UInt8) : Bs → Option Bs
  | c :: r => if c = a then some r else none
  | _ => none
/-- Behind an element's name at its end. -/
def closeS (n : Nod) (text : Bs) (kids : List Nod) (rest : Bs) : Option (List Nod × Bs) :=
  if rest.take (2 + n.name.length) = 60 :: 47 :: n.name then
    match readB (trimB text), pre1 62 (dropW blankB (rest.drop (2 + n.name.length))) with
    | some t, some r => some ({ n with text := trimB t } :: kids, r)
    | _, _ => none
  else none
mutual
/-- An element ahead, and what is left. -/
def elemS : Nat → Bs → Int → Nat → Option (List Nod × Bs)
  | 0, _, _, _ => none
  | f + 1, s, deep, cnt =>
    if 8 ≤ deep ∨ 200 ≤ cnt then none
    else match pre1 60 s with
      | none => none
      | some s1 =>
        match dropW (notIn [47, 62, 32, 9, 13, 10]) s1 with
        | [] => none
        | c :: r =>
          match attrsS (s1.length + 1) (c :: r) [] with
          | none => none
          | some (ps, s3) =>
            match pre2 47 62 s3 with
            | some s4 => some ([⟨deep, takeW (notIn [47, 62, 32, 9, 13, 10]) s1, ps, []⟩], s4)
            | none =>
              match pre1 62 s3 with
              | none => none
              | some s4 => contS f s4 ⟨deep, takeW (notIn [47, 62, 32, 9, 13, 10]) s1, ps, []⟩ cnt
/-- What stands in an element, and its end. -/
def contS : Nat → Bs → Nod → Nat → Option (List Nod × Bs)
  | 0, _, _, _ => none
  | f + 1, s, n, cnt =>
    match kidsS f s [] (n.deep + 1) (cnt + 1) [] with
    | none => none
    | some (text, kids, rest) => closeS n text kids rest
/-- Texts and elements by turns, up to </. -/
def kidsS : Nat → Bs → Bs → Int → Nat → List Nod → Option (Bs × List Nod × Bs)
  | 0, _, _, _, _, _ => none
  | f + 1, s, text, deep, cnt, kids =>
    match dropW (notIn [60]) s with
    | [] => none
    | c :: r =>
      match pre2 60 47 (c :: r) with
      | some _ => some (text ++ takeW (notIn [60]) s, kids, c :: r)
      | none =>
        match elemS f (c :: r) deep cnt with
        | none => none
        | some (ms, rest) => kidsS f rest (text ++ takeW (notIn [60]) s) deep (cnt + ms.length) (kids ++ ms)
end
theorem dropW_head {p : UInt8 → Bool} {l r : Bs} {c : UInt8} (h : dropW p l = c :: r) : p c = false := by
  induction l with
  | nil => cases h
  | cons x l ih =>
    unfold dropW at h; split at h
    · exact ih h
    · cases h; rename_i hx; simpa using hx
theorem notIn_one {a c : UInt8} (h : notIn [a] c = false) : c = a := by
  unfold notIn at h; simp [hasB] at h; exact h.symm
theorem pre2_take (a b : UInt8) (l : Bs) : (l.take 2 == [a, b]) = (pre2 a b l).isSome := by
  unfold pre2
  match l with
  | [] => rfl
  | [x] => simp
  | x :: y :: r => by_cases h1 : x = a <;> by_cases h2 : y = b <;> simp [h1, h2]
theorem pre1_take (a : UInt8) (l : Bs) : (l.take 1 == [a]) = (pre1 a l).isSome := by
  unfold pre1
  match l with
  | [] => rfl
  | x :: r => by_cases h1 : x = a <;> simp [h1]
theorem attrS_len {l : Bs} {p : Par} {rest : Bs} (h : attrS l = some (p, rest)) : rest.length + 2 ≤ l.length := by
  unfold attrS at h
  split at h
  · cases h
  · rename_i c l1 h1
    split at h
    · cases h
    · rename_i q l2 h2
      split at h
      · split at h
        · cases h
        · rename_i c' r' h3
          split at h
          · split at h
            · cases h
            · cases h
              have a1 := dropW_len (notIn [61]) l
              have a2 := dropW_len blankB l1
              have a3 := dropW_len (notIn [q, 60]) l2
              rw [h1] at a1; rw [h2] at a2; rw [h3] at a3
              simp at a1 a2 a3
              omega
          · cases h
      · cases h
theorem attrsS_len : ∀ (f : Nat) (s : Bs) (acc ps : List Par) (rest : Bs), attrsS f s acc = some (ps, rest) → rest.length ≤ s.length := by
  intro f
  induction f with
  | zero => intro s acc ps rest h; cases h
  | succ f ih =>
    intro s acc ps rest h
    have a1 := dropW_len blankB s
    unfold attrsS at h
    split at h
    · cases h; simp
    · rename_i c r h1
      rw [h1] at a1
      split at h
      · cases h; exact a1
      · split at h
        · cases h
        · split at h
          · cases h
          · rename_i p r2 h2
            have := ih _ _ _ _ h
            have := attrS_len h2
            omega
theorem pre1_len {a : UInt8} {s r : Bs} (h : pre1 a s = some r) : s.length = r.length + 1 := by
  unfold pre1 at h; split at h
  · split at h <;> cases h; simp
  · cases h
theorem pre2_len {a b : UInt8} {s r : Bs} (h : pre2 a b s = some r) : s.length = r.length + 2 := by
  unfold pre2 at h; split at h
  · split at h <;> cases h; simp
  · cases h
theorem closeS_len {n : Nod} {text : Bs} {kids : List Nod} {rest : Bs} {ms : List Nod} {r : Bs} (h : closeS n text kids rest = some (ms, r)) : r.length ≤ rest.length := by
  unfold closeS at h; split at h
  · split at h
    · rename_i t r' h1 h2
      cases h
      have := pre1_len h2
      have := dropW_len blankB (rest.drop (2 + n.name.length))
      have := List.length_drop (l := rest) (i := 2 + n.name.length)
      omega
    · cases h
  · cases h
theorem all_len (f : Nat) : (∀ s deep cnt ms r, elemS f s deep cnt = some (ms, r) → r.length < s.length) ∧ (∀ s n cnt ms r, contS f s n cnt = some (ms, r) → r.length ≤ s.length) ∧
    (∀ s text deep cnt kids t ks r, kidsS f s text deep cnt kids = some (t, ks, r) → r.length ≤ s.length) := by
  induction f with
  | zero => exact ⟨fun _ _ _ _ _ h => by simp [elemS] at h, fun _ _ _ _ _ h => by simp [contS] at h, fun _ _ _ _ _ _ _ _ h => by simp [kidsS] at h⟩
  | succ f ih =>
    refine ⟨fun s deep cnt ms r h => ?_, fun s n cnt ms r h => ?_, fun s text deep cnt kids t ks r h => ?_⟩
    · rw [elemS] at h
      split at h
      · cases h
      · split at h
        · cases h
        · rename_i s1 h1
          have e1 := pre1_len h1
          split at h
          · cases h
          · rename_i c r0 h2
            have e2 := dropW_len (notIn [47, 62, 32, 9, 13, 10]) s1
            rw [h2] at e2
            split at h
            · cases h
            · rename_i ps s3 h3
              have e3 := attrsS_len _ _ _ _ _ h3
              split at h
              · rename_i s4 h4
                cases h
                have := pre2_len h4
                omega
              · split at h
                · cases h
                · rename_i s4 h4
                  have := pre1_len h4
                  have := ih.2.1 _ _ _ _ _ h
                  omega
    · rw [contS] at h
      split at h
      · cases h
      · rename_i text kids rest h1
        have := ih.2.2 _ _ _ _ _ _ _ _ h1
        have := closeS_len h
        omega
    · rw [kidsS] at h
      split at h
      · cases h
      · rename_i c r0 h1
        have e1 := dropW_len (notIn [60]) s
        rw [h1] at e1
        split at h
        · cases h; exact e1
        · split at h
          · cases h
          · rename_i ms rest h2
            have := ih.1 _ _ _ _ _ h2
            have := ih.2.2 _ _ _ _ _ _ _ _ h
            omega
end Go.Proofs.YtffcapkjfmkkaaaGreatDoor
namespace Go.Proofs.YtffcapkjfmkkaaaGreatDoor
open Go.RowKit
def parCells (p : Par) : List Value := [.string ⟨p.name.toArray⟩, .string ⟨p.value.toArray⟩, .bool p.has]
def nodCells (x : Nod × Value) : List Value := [.int .i64 x.1.deep, .string ⟨x.1.name.toArray⟩, x.2, .string ⟨x.1.text.toArray⟩]
def OPar (w : World) (B : Nat) (v : Value) (ps : List Par) : Prop :=
  w.ownsRow B 43 3 v ps.length (ps.flatMap parCells) ∧ ∀ p ∈ ps, p.name.length ≤ 4096 ∧ p.value.length ≤ 4096
def ONod (w : World) (B : Nat) (v : Value) (ns : List Nod) : Prop :=
  (∃ xs : List (Nod × Value), xs.map Prod.fst = ns ∧ w.ownsRow B 46 4 v ns.length (xs.flatMap nodCells) ∧ ∀ x ∈ xs, OPar w B x.2 x.1.attrs) ∧
    ∀ n ∈ ns, n.name.length ≤ 4096 ∧ n.text.length ≤ 4096
theorem OPar.nil (w : World) (B : Nat) : OPar w B (.slice none 0 0) [] := ⟨World.ownsRow_nil .., by simp⟩
theorem ONod.nil (w : World) (B : Nat) : ONod w B (.slice none 0 0) [] := ⟨⟨[], rfl, World.ownsRow_nil .., by simp⟩, by simp⟩
theorem own_at {w : World} {B e size n : Nat} {v : Value} {xs : List Value} (h : w.ownsRow B e size v n xs) {k : Nat} (hk : v.ownBlock = some k) : ∃ cs, w.heap[k]? = some (.cells cs e (0, 0)) := by
  rcases h.2 with ⟨rfl, _⟩ | ⟨g, cap, cur, rfl, _, hh, _⟩
  · simp [Value.ownBlock] at hk
  · have : g = k := by simpa [Value.ownBlock] using hk
    subst this; exact ⟨cur, hh⟩
/-- The row that is written, if there is one, is none of attributes. -/
def NotPar (w : World) (row : Option Nat) : Prop := ∀ k, row = some k → ∃ cs t fr, w.heap[k]? = some (.cells cs t fr) ∧ t ≠ 43
theorem NotPar.none (w : World) : NotPar w none := fun _ h => by cases h
theorem OPar.grown {w w' : World} {B : Nat} {v : Value} {ps : List Par} (h : OPar w B v ps) {row : Option Nat} (hg : w.grownBy w' row) (hr : NotPar w row) : OPar w' B v ps := by
  refine ⟨h.1.kept hg ?_, h.2⟩
  cases hv : v.ownBlock with
  | none => exact .inl rfl
  | some k =>
    refine .inr fun e => ?_
    obtain ⟨cs, hc⟩ := own_at h.1 hv
    obtain ⟨cs', t, fr, hc', hne⟩ := hr k e.symm
    rw [hc] at hc'
    injection hc' with hc'
    injection hc' with _ ht
    exact hne ht.symm
theorem ONod.grown {w w' : World} {B : Nat} {v : Value} {ns : List Nod} (h : ONod w B v ns) {row : Option Nat} (hg : w.grownBy w' row) (hr : NotPar w row) (hv : v.ownBlock = none ∨ v.ownBlock ≠ row) : ONod w' B v ns := by
  obtain ⟨⟨xs, h1, h2, h3⟩, h4⟩ := h
  exact ⟨⟨xs, h1, h2.kept hg hv, fun x hx => (h3 x hx).grown hg hr⟩, h4⟩
theorem below_grown {w w' : World} (h : Below w.heap.size w w') : w.grownBy w' none := ⟨h.os, h.tape, h.output, h.size, fun i hi _ => h.block i hi⟩
theorem OPar.below {w w' : World} {B : Nat} {v : Value} {ps : List Par} (h : OPar w B v ps) (hb : Below w.heap.size w w') : OPar w' B v ps := h.grown (below_grown hb) (NotPar.none w)
theorem ONod.below {w w' : World} {B : Nat} {v : Value} {ns : List Nod} (h : ONod w B v ns) (hb : Below w.heap.size w w') : ONod w' B v ns := by
  refine h.grown (below_grown hb) (NotPar.none w) ?_
  cases v.ownBlock <;> simp
theorem OPar.mono {w : World} {B B' : Nat} {v : Value} {ps : List Par} (h : OPar w B v ps) (hb : B' ≤ B) : OPar w B' v ps := by
  refine ⟨⟨h.1.1, ?_⟩, h.2⟩
  rcases h.1.2 with h' | ⟨g, cap, cur, hv, hB, r⟩
  · exact .inl h'
  · exact .inr ⟨g, cap, cur, hv, by omega, r⟩
theorem ONod.notPar {w : World} {B : Nat} {v : Value} {ns : List Nod} (h : ONod w B v ns) : NotPar w v.ownBlock := fun k hk => by
  obtain ⟨⟨xs, h1, h2, h3⟩, h4⟩ := h
  obtain ⟨cs, hc⟩ := own_at h2 hk
  exact ⟨cs, _, _, hc, by decide⟩
theorem flat_len {α : Type} (f : α → List Value) (m : Nat) (hf : ∀ x, (f x).length = m) (xs : List α) : (xs.flatMap f).length = xs.length * m := by
  induction xs with
  | nil => simp
  | cons x xs ih => simp [List.flatMap_cons, hf, ih, Nat.succ_mul]; omega
theorem flat_get {α : Type} (f : α → List Value) (m : Nat) (hf : ∀ x, (f x).length = m) (xs : List α) (i j : Nat) (hi : i < xs.length) (hj : j < m) : (xs.flatMap f)[i * m + j]? = (f xs[i])[j]? := by
  induction xs generalizing i with
  | nil => simp at hi
  | cons x xs ih =>
    rw [List.flatMap_cons]
    cases i with
    | zero => rw [Nat.zero_mul, Nat.zero_add, List.getElem?_append_left (by rw [hf]; exact hj)]; rfl
    | succ i =>
      rw [List.getElem?_append_right (by rw [hf, Nat.succ_mul]; omega), hf, show (i + 1) * m + j - m = i * m + j from by rw [Nat.succ_mul]; omega]
      exact ih i (by simpa using hi)
theorem addr_add (g j : Nat) : (⟨g, 0, none⟩ : Addr).add j = ⟨g, j, none⟩ := by unfold Addr.add; split <;> simp_all
theorem OPar.reads {w : World} {B : Nat} {v : Value} {ps : List Par} (h : OPar w B v ps) : RPar w v ps := by
  obtain ⟨h1, h2⟩ := h
  rcases h1.2 with ⟨rfl, h0⟩ | ⟨g, cap, cur, hv, hB, hh, hn, hm, hs, ht⟩
  · have : ps = [] := List.eq_nil_of_length_eq_zero h0
    subst this
    exact ⟨none, 0, rfl, by simp, by simp, fun j hj => by simp at hj⟩
  · refine ⟨_, cap, hv, hn, by unfold maxLen at hm; omega, fun j hj => ⟨_, rfl, ?_⟩⟩
    have key : ∀ i, i < 3 → w.cell? ⟨g, j * 3 + i, none⟩ = (parCells ps[j])[i]? := fun i hi => by
      have := h1.cells (g := g) (by rw [hv]; rfl) (j * 3 + i)
      rw [flat_get parCells 3 (fun _ => rfl) ps j i hj hi] at this
      cases hx : (parCells ps[j])[i]? with
      | none => simp [parCells] at hx; omega
      | some u => have := this u hx; rwa [addr_add] at this
    have k0 := key 0 (by omega)
    have k1 := key 1 (by omega)
    have k2 := key 2 (by omega)
    have hb := h2 ps[j] (List.getElem_mem hj)
    rw [addr_add]
    unfold maxLen
    exact ⟨k0, k1, k2, by omega, by omega⟩
theorem ONod.reads {w : World} {B : Nat} {v : Value} {ns : List Nod} (h : ONod w B v ns) : RNod w v ns := by
  obtain ⟨⟨xs, rfl, h1, h3⟩, h2⟩ := h
  rcases h1.2 with ⟨rfl, h0⟩ | ⟨g, cap, cur, hv, hB, hh, hn, hm, hs, ht⟩
  · have : xs = [] := by simpa using h0
    subst this
    exact ⟨none, 0, rfl, by simp, by simp, fun j hj => by simp at hj⟩
  · refine ⟨_, cap, hv, hn, by unfold maxLen at hm; omega, fun j hj => ?_⟩
    have hjx : j < xs.length := by simpa using hj
    have key : ∀ i, i < 4 → w.cell? ⟨g, j * 4 + i, none⟩ = (nodCells xs[j])[i]? := fun i hi => by
      have := h1.cells (g := g) (by rw [hv]; rfl) (j * 4 + i)
      rw [flat_get nodCells 4 (fun _ => rfl) xs j i hjx hi] at this
      cases hx : (nodCells xs[j])[i]? with
      | none => simp [nodCells] at hx; omega
      | some u => have := this u hx; rwa [addr_add] at this
    have k0 := key 0 (by omega)
    have k1 := key 1 (by omega)
    have k2 := key 2 (by omega)
    have k3 := key 3 (by omega)
    have hb := h2 _ (List.getElem_mem hj)
    refine ⟨_, xs[j].2, rfl, ?_⟩
    rw [addr_add]
    rw [List.getElem_map] at hb ⊢
    unfold maxLen
    exact ⟨k0, k1, k2, (h3 _ (List.getElem_mem hjx)).reads, k3, by omega, by omega⟩
/-- Behind an append of one element. -/
theorem ONod.appended {w w' : World} {B : Nat} {v v' : Value} {ns : List Nod} (h : ONod w B v ns) (xs : List (Nod × Value)) (h1 : xs.map Prod.fst = ns) (h3 : ∀ x ∈ xs, OPar w B x.2 x.1.attrs)
    (n : Nod) (va : Value) (ha : OPar w B va n.attrs) (hn : n.name.length ≤ 4096 ∧ n.text.length ≤ 4096)
    (hg : w.grownBy w' v.ownBlock) (ho : w'.ownsRow B 46 4 v' (ns.length + 1) (xs.flatMap nodCells ++ nodCells (n, va))) : ONod w' B v' (ns ++ [n]) := by
  have hnp := h.notPar
  obtain ⟨-, h4⟩ := h
  refine ⟨⟨xs ++ [(n, va)], by simp [h1], ?_, ?_⟩, ?_⟩
  · rw [List.flatMap_append]; simpa using ho
  · intro x hx
    rcases List.mem_append.1 hx with hx | hx
    · exact (h3 x hx).grown hg hnp
    · simp at hx; subst hx; exact ha.grown hg hnp
  · intro m hm
    rcases List.mem_append.1 hm with hm | hm
    · exact h4 m hm
    · simp at hm; subst hm; exact hn
theorem OPar.appended {w w' : World} {B : Nat} {v v' : Value} {ps : List Par} (h : OPar w B v ps) (p : Par) (hp : p.name.length ≤ 4096 ∧ p.value.length ≤ 4096)
    (ho : w'.ownsRow B 43 3 v' (ps.length + 1) (ps.flatMap parCells ++ parCells p)) : OPar w' B v' (ps ++ [p]) := by
  refine ⟨?_, ?_⟩
  · rw [List.flatMap_append]; simpa using ho
  · intro m hm
    rcases List.mem_append.1 hm with hm | hm
    · exact h.2 m hm
    · simp at hm; subst hm; exact hp
theorem flat_set (xs : List (Nod × Value)) (k : Nat) (hk : k < xs.length) (t : Bs) : (xs.flatMap nodCells).set (k * 4 + 3) (.string ⟨t.toArray⟩) = (xs.set k ({ xs[k].1 with text := t }, xs[k].2)).flatMap nodCells := by
  induction xs generalizing k with
  | nil => simp at hk
  | cons x xs ih =>
    cases k with
    | zero => simp [List.flatMap_cons, nodCells]
    | succ k =>
      rw [List.flatMap_cons, List.set_append, if_neg (by simp [nodCells]; omega)]
      simp only [List.set_cons_succ, List.flatMap_cons, List.getElem_cons_succ]
      rw [show (k + 1) * 4 + 3 - (nodCells x).length = k * 4 + 3 from by simp [nodCells]; omega, ih k (by simpa using hk)]
theorem ONod.stored {w : World} {B g n cap : Nat} {ns : List Nod} (h : ONod w B (.slice (some ⟨g, 0, none⟩) n cap) ns) (k : Nat) (hk : k < ns.length) (t : Bs) (ht : t.length ≤ 4096) :
    ONod (w.setCell ⟨g, k * 4 + 3, none⟩ (.string ⟨t.toArray⟩)) B (.slice (some ⟨g, 0, none⟩) n cap) (ns.set k { ns[k] with text := t }) ∧ w.grownBy (w.setCell ⟨g, k * 4 + 3, none⟩ (.string ⟨t.toArray⟩)) (some g) := by
  have hnp := h.notPar
  obtain ⟨⟨xs, rfl, h2, h3⟩, h4⟩ := h
  have hn : n = (xs.map Prod.fst).length := by
    rcases h2.2 with ⟨hv, _⟩ | ⟨g', cap', cur, hv, _⟩
    · cases hv
    · injection hv
  subst hn
  have hkx : k < xs.length := by simpa using hk
  obtain ⟨s1, s2⟩ := h2.stored (k * 4 + 3) (.string ⟨t.toArray⟩)
  refine ⟨⟨⟨xs.set k ({ xs[k].1 with text := t }, xs[k].2), ?_, ?_, ?_⟩, ?_⟩, s2⟩
  · rw [List.map_set, List.getElem_map]
  · rw [List.length_set, ← flat_set xs k hkx]; exact s1
  · intro x hx
    rcases List.mem_or_eq_of_mem_set hx with hx | hx
    · exact (h3 x hx).grown s2 hnp
    · subst hx; exact (h3 xs[k] (List.getElem_mem hkx)).grown s2 hnp
  · intro m hm
    rcases List.mem_or_eq_of_mem_set hm with hm | hm
    · exact h4 m hm
    · subst hm; exact ⟨(h4 _ (List.getElem_mem hk)).1, ht⟩
end Go.Proofs.YtffcapkjfmkkaaaGreatDoor
namespace Go.Proofs.YtffcapkjfmkkaaaGreatDoor
open Go.RowKit
theorem infoNod : (Tryz.prog.info? 46).map (fun i => (i.zero, i.size, i.bytes)) = some (some (.agg #[.int .i64 0, .string ⟨#[]⟩, .slice none 0 0, .string ⟨#[]⟩]), 4, 64) := by kernel_rfl
theorem infoPar : (Tryz.prog.info? 43).map (fun i => (i.zero, i.size, i.bytes)) = some (some (.agg #[.string ⟨#[]⟩, .string ⟨#[]⟩, .bool false]), 3, 40) := by kernel_rfl
theorem readB_len : ∀ (k : Nat) (l t : Bs), l.length ≤ k → readB l = some t → t.length ≤ l.length := by
  intro k
  induction k with
  | zero => intro l t hk h; have : l = [] := List.eq_nil_of_length_eq_zero (by omega); subst this; rw [readB] at h; cases h; simp
  | succ k ih =>
    intro l t hk h
    cases l with
    | nil => rw [readB] at h; cases h; simp
    | cons c l =>
      rw [readB] at h
      split at h
      · split at h
        · cases h
        · rename_i hneg
          cases hr : readB (l.drop (entL (fndE l 5).toNat).length) with
          | none => rw [hr] at h; cases h
          | some r =>
            rw [hr] at h; cases h
            have := ih _ _ (by rw [List.length_drop]; simp at hk; omega) hr
            rw [List.length_drop] at this
            simp; omega
      · cases hr : readB l with
        | none => rw [hr] at h; cases h
        | some r => rw [hr] at h; cases h; have := ih _ _ (by simpa using hk) hr; simp; omega
theorem trimB_len (l : Bs) : (trimB l).length ≤ l.length := by
  unfold trimB trimR
  have := dropW_len blankB l
  have := dropW_len blankB (dropW blankB l).reverse
  simp at *; omega
theorem all_cnt (f : Nat) : (∀ s deep cnt ms r, elemS f s deep cnt = some (ms, r) → cnt + ms.length ≤ 200) ∧ (∀ s n cnt ms r, cnt < 200 → contS f s n cnt = some (ms, r) → cnt + ms.length ≤ 200) ∧
    (∀ s text deep cnt kids t ks r, cnt ≤ 200 → kidsS f s text deep cnt kids = some (t, ks, r) → cnt + ks.length ≤ 200 + kids.length) := by
  induction f with
  | zero => exact ⟨fun _ _ _ _ _ h => by simp [elemS] at h, fun _ _ _ _ _ _ h => by simp [contS] at h, fun _ _ _ _ _ _ _ _ _ h => by simp [kidsS] at h⟩
  | succ f ih =>
    refine ⟨fun s deep cnt ms r h => ?_, fun s n cnt ms r hc h => ?_, fun s text deep cnt kids t ks r hc h => ?_⟩
    · rw [elemS] at h
      split at h
      · cases h
      · split at h
        · cases h
        · split at h
          · cases h
          · split at h
            · cases h
            · split at h
              · cases h; simp; omega
              · split at h
                · cases h
                · exact ih.2.1 _ _ _ _ _ (by omega) h
    · rw [contS] at h
      split at h
      · cases h
      · rename_i text kids rest h1
        have := ih.2.2 _ _ _ _ _ _ _ _ (by omega) h1
        unfold closeS at h
        split at h
        · split at h
          · cases h; simp at *; omega
          · cases h
        · cases h
    · rw [kidsS] at h
      split at h
      · cases h
      · split at h
        · cases h; omega
        · split at h
          · cases h
          · rename_i ms rest h2
            have := ih.1 _ _ _ _ _ h2
            have := ih.2.2 _ _ _ _ _ _ _ _ this h
            simp at this; omega
/-- Where a list that was appended to lies: where it lay, or in a new block. -/
def AtB (w : World) (l l' : Value) : Prop := l'.ownBlock = l.ownBlock ∨ l'.ownBlock = none ∨ ∃ b, l'.ownBlock = some b ∧ w.heap.size ≤ b
theorem grown_chain {w w1 w2 : World} {l l' : Value} (h1 : w.grownBy w1 l.ownBlock) (h2 : w1.grownBy w2 l'.ownBlock) (ha : AtB w l l') : w.grownBy w2 l.ownBlock :=
  ⟨h2.os.trans h1.os, h2.tape.trans h1.tape, h2.output.trans h1.output, Nat.le_trans h1.size h2.size, fun k hk hne => by
    rw [h2.block k (Nat.lt_of_lt_of_le hk h1.size) ?_, h1.block k hk hne]
    rcases ha with e | e | ⟨b, e, hb⟩
    · rw [e]; exact hne
    · rw [e]; simp
    · rw [e]; intro e'; injection e' with e'; omega⟩
theorem grown_below {w w1 w2 : World} {row : Option Nat} (h1 : w.grownBy w1 row) (h2 : Below w1.heap.size w1 w2) : w.grownBy w2 row :=
  ⟨h2.os.trans h1.os, h2.tape.trans h1.tape, h2.output.trans h1.output, Nat.le_trans h1.size h2.size, fun k hk hne => by
    rw [h2.block k (Nat.lt_of_lt_of_le hk h1.size), h1.block k hk hne]⟩
theorem below_then {w w1 w2 : World} {row : Option Nat} (h1 : Below w.heap.size w w1) (h2 : w1.grownBy w2 row) : w.grownBy w2 row :=
  ⟨h2.os.trans h1.os, h2.tape.trans h1.tape, h2.output.trans h1.output, Nat.le_trans h1.size h2.size, fun k hk hne => by
    rw [h2.block k (Nat.lt_of_lt_of_le hk h1.size) hne, h1.block k hk]⟩
theorem AtB.trans {w w1 : World} {a b c : Value} (h1 : AtB w a b) (h2 : AtB w1 b c) (hs : w.heap.size ≤ w1.heap.size) : AtB w a c := by
  rcases h2 with e | e | ⟨k, e, hk⟩
  · rcases h1 with e1 | e1 | ⟨k, e1, hk⟩
    · exact .inl (e.trans e1)
    · exact .inr (.inl (e.trans e1))
    · exact .inr (.inr ⟨k, e.trans e1, hk⟩)
  · exact .inr (.inl e)
  · exact .inr (.inr ⟨k, e, by omega⟩)
theorem own_lt {w : World} {B e size n : Nat} {v : Value} {xs : List Value} (h : w.ownsRow B e size v n xs) (k : Nat) (hk : v.ownBlock = some k) : k < w.heap.size := (h.lt k hk).2
theorem AtB.ne {w : World} {l l' : Value} {k : Nat} (h : AtB w l l') (h1 : l.ownBlock ≠ some k) (h2 : k < w.heap.size) : l'.ownBlock ≠ some k := by
  rcases h with e | e | ⟨b, e, hb⟩
  · rw [e]; exact h1
  · rw [e]; simp
  · rw [e]; intro e'; injection e' with e'; omega
theorem append_step {w w0 w1 : World} {B : Nat} {l l1 : Value} {ns : List Nod} (hno : ONod w B l ns) (xs : List (Nod × Value)) (hx1 : xs.map Prod.fst = ns) (hx3 : ∀ x ∈ xs, OPar w B x.2 x.1.attrs)
    (hb : Below w.heap.size w w0) (n : Nod) (va : Value) (ha : OPar w0 B va n.attrs) (hn : n.name.length ≤ 4096 ∧ n.text.length ≤ 4096)
    (ho : w1.ownsRow B 46 4 l1 (ns.length + 1) (xs.flatMap nodCells ++ nodCells (n, va))) (hg : w0.grownBy w1 l.ownBlock) (hat : l1.ownBlock = l.ownBlock ∨ l1.ownBlock = some w0.heap.size) :
    ONod w1 B l1 (ns ++ [n]) ∧ w.grownBy w1 l.ownBlock ∧ AtB w l l1 ∧ ∀ b, w.heap.size ≤ b → b < w0.heap.size → w1.heap[b]? = w0.heap[b]? ∧ l1.ownBlock ≠ some b := by
  have hlt : ∀ k, l.ownBlock = some k → k < w.heap.size := fun k hk => by
    obtain ⟨⟨ys, y1, y2, y3⟩, y4⟩ := hno
    exact own_lt y2 k hk
  refine ⟨(hno.below hb).appended xs hx1 (fun x hx => (hx3 x hx).below hb) n va ha hn hg ho, below_then hb hg, ?_, fun b h1 h2 => ⟨hg.block b h2 ?_, ?_⟩⟩
  · rcases hat with e | e
    · exact .inl e
    · exact .inr (.inr ⟨_, e, hb.size⟩)
  · intro e; have := hlt b e.symm; omega
  · rcases hat with e | e
    · rw [e]; intro e'; have := hlt b e'; omega
    · rw [e]; intro e'; injection e' with e'; omega
/-- Inside content's loop. -/
structure KRel (s : ByteArray) (f i : Nat) (n : Nod) (B : Nat) (l : Value) (ns : List Nod) (w : World) (box : Obj) (k : Nat) (out : ByteArray) (l' : Value) (wr : World) (g : Nat) (kids : List Nod) : Prop where
  eq : kidsS f (s.data.toList.drop i) [] (n.deep + 1) (ns.length + 1) [] = kidsS g (s.data.toList.drop k) out.data.toList (n.deep + 1) (ns.length + 1 + kids.length) kids
  fuel : 2 * (s.size - k) + 2 ≤ g
  gf : g ≤ f
  le : k ≤ s.size
  out : out.size ≤ k
  own : ONod wr B l' (ns ++ n :: kids)
  at_ : AtB w l l'
  ne : l'.ownBlock ≠ some w.heap.size
  grown : w.grownBy wr l.ownBlock
  box : wr.heap[w.heap.size]? = some box
  len : ns.length + 1 + kids.length ≤ 200
def ElPost (w : World) (B : Nat) (s : ByteArray) (l : Value) (ns : List Nod) (o : Option (List Nod × Bs)) (e : Ending) (w' : World) : Prop :=
  w.grownBy w' l.ownBlock ∧
  match o with
  | none => e = .returned (.tuple #[.slice none 0 0, .int .i64 (-1)])
  | some (ms, r) => ∃ (l' : Value) (i : Nat), e = .returned (.tuple #[l', .int .i64 i]) ∧ i ≤ s.size ∧ s.data.toList.drop i = r ∧ ONod w' B l' (ns ++ ms) ∧ AtB w l l'
theorem own_slice {w : World} {B e size n : Nat} {v : Value} {xs : List Value} (h : w.ownsRow B e size v n xs) : ∃ A c, v = .slice A n c := by
  rcases h.2 with ⟨rfl, rfl⟩ | ⟨g, cap, cur, rfl, _⟩
  · exact ⟨none, 0, rfl⟩
  · exact ⟨_, cap, rfl⟩
end Go.Proofs.YtffcapkjfmkkaaaGreatDoor
