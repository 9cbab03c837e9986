/- Byte classes and scans over strings: what the small functions of the program and of the references compute. -/
import Derived.Test.YtffcapkjfmkkaaaDoorProg
import Derived.WalkKit
import Derived.WalkSpells
import Derived.WalkLawsBesides
import Derived.Deep.QuietTactic
import Derived.BigQuiet
import Derived.Outline
import Derived.Lib.Hide
import Derived.Lib.Strings
namespace Go.Proofs.YtffcapkjfmkkaaaDoor
open Go.RowKit

abbrev Bs := List UInt8
/-- A world of the same memory: some orders have been drawn. -/
def Dr (w w' : World) : Prop := ∃ n, w' = w.drewN n
theorem Dr.refl (w : World) : Dr w w := ⟨0, rfl⟩
theorem Dr.trans {a b c : World} (h : Dr a b) (k : Dr b c) : Dr a c := by
  obtain ⟨n, rfl⟩ := h; obtain ⟨m, rfl⟩ := k; exact ⟨n + m, by rw [World.drewN_drewN]⟩
theorem Dr.drewN {a b : World} (h : Dr a b) (n : Nat) : Dr a (b.drewN n) := h.trans ⟨n, rfl⟩
theorem Dr.drew {a b : World} (h : Dr a b) : Dr a b.drew := h.trans ⟨1, rfl⟩

theorem Dr.below {w a b : World} (h : Dr a b) (k : Below w.heap.size w a) : Below w.heap.size w b := by
  obtain ⟨n, rfl⟩ := h; exact ⟨k.os, k.tape, k.output, k.size, k.block⟩
theorem Dr.below0 {a b : World} (h : Dr a b) : Below a.heap.size a b := h.below (Below.refl _ _)
theorem bt_lt (s : ByteArray) (k : Nat) (h : k < s.size) : (s[k].toNat : Int) < 256 := by have := s[k].toNat_lt; omega
theorem size_list (s : ByteArray) : s.data.toList.length = s.size := rfl
theorem get_list (s : ByteArray) (k : Nat) (h : k < s.size) : s.data.toList[k]'(by rw [size_list]; exact h) = s[k] := rfl
theorem take_snoc (s : ByteArray) (k : Nat) (h : k < s.size) : s.data.toList.take (k + 1) = s.data.toList.take k ++ [s[k]] := by
  rw [List.take_succ_eq_append_getElem (by rw [size_list]; exact h)]; rfl
theorem drop_cons (s : ByteArray) (k : Nat) (h : k < s.size) : s.data.toList.drop k = s[k] :: s.data.toList.drop (k + 1) := by
  rw [List.drop_eq_getElem_cons (by rw [size_list]; exact h)]; rfl
theorem drop_all (s : ByteArray) (k : Nat) (h : s.size ≤ k) : s.data.toList.drop k = [] := List.drop_eq_nil_of_le (by rw [size_list]; exact h)

theorem blk_cell {w : World} {b : Nat} {cs : Array Value} {T : TypeId} {fr : Nat × Nat} (hb : w.heap[b]? = some (.cells cs T fr)) (j : Nat) : w.cell? ⟨b, j, none⟩ = cs[j]? := by
  simp [World.cell?, hb]
theorem new_cell (w : World) (cs : Array Value) (T : TypeId) (j : Nat) : (w.alloc (.cells cs T)).cell? ⟨w.heap.size, j, none⟩ = cs[j]? := blk_cell (by simpa using heap_alloc_new w _) j
theorem u8_eq_true {a b : UInt8} (h : a = b) : ((a.toNat : Int) == (b.toNat : Int)) = true := by rw [h]; simp
theorem u8_eq_false {a b : UInt8} (h : ¬ a = b) : ((a.toNat : Int) == (b.toNat : Int)) = false := by
  simp; intro h'; exact h (UInt8.toNat.inj (by omega))
theorem u8n_true {a : UInt8} (b : UInt8) (n : Int) (hn : (b.toNat : Int) = n) (h : a = b) : ((a.toNat : Int) == n) = true := by rw [← hn]; exact u8_eq_true h
theorem u8n_false {a : UInt8} (b : UInt8) (n : Int) (hn : (b.toNat : Int) = n) (h : ¬ a = b) : ((a.toNat : Int) == n) = false := by rw [← hn]; exact u8_eq_false h
theorem u8x_false {a : UInt8} (b : UInt8) (n : Int) (hn : (b.toNat : Int) = n) (h : a = b) : ((a.toNat : Int) != n) = false := by rw [bne, u8n_true b n hn h]; rfl
theorem u8x_true {a : UInt8} (b : UInt8) (n : Int) (hn : (b.toNat : Int) = n) (h : ¬ a = b) : ((a.toNat : Int) != n) = true := by rw [bne, u8n_false b n hn h]; rfl
theorem ret_bool {a b : Bool} (h : a = b) : Ending.returned (.bool a) = .returned (.bool b) := by rw [h]
theorem ret_int {k : IntKind} {a b : Int} (h : a = b) : Ending.returned (.int k a) = .returned (.int k b) := by rw [h]
theorem ret_str {a b : Bs} (h : a = b) : Ending.returned (.string ⟨a.toArray⟩) = .returned (.string ⟨b.toArray⟩) := by rw [h]

theorem ret_bs {s : ByteArray} {l : Bs} (h : s.data.toList = l) : Ending.returned (.string s) = .returned (.string ⟨l.toArray⟩) := by subst h; rfl

/-- has: does a byte stand in a text? -/
def hasB : Bs → UInt8 → Bool
  | [], _ => false
  | x :: l, c => if x = c then true else hasB l c
theorem hasB_iff (l : Bs) (c : UInt8) : hasB l c = decide (c ∈ l) := by
  induction l with
  | nil => rfl
  | cons x l ih =>
    unfold hasB
    by_cases h : x = c
    · simp [h]
    · rw [if_neg h, ih]; have : ¬ c = x := fun e => h e.symm
      simp [this]

set_option maxHeartbeats 400000 in
theorem has_walk (s : ByteArray) (c : UInt8) (w : World) (hs : s.size ≤ maxLen) :
    Calls Tryd.prog 61 #[.string s, .int .u8 c.toNat] w fun e w' => e = .returned (.bool (hasB s.data.toList c)) ∧ w = w' := by
  unfold maxLen at hs
  go_enter Tryd.func61, Tryd.ntmps61
  go_wp2
  go_loop [5] (fun i => ∃ k : Nat, k ≤ s.size ∧ i = .int .i64 k ∧ hasB s.data.toList c = hasB (s.data.toList.drop k) c) (fun i => s.size - (intOf i).toNat)
  case atStart => exact ⟨0, by omega, rfl, rfl⟩
  case round =>
    obtain ⟨k, hk, rfl, ht⟩ := hrel
    have HT := Lib.hid ht
    clear ht
    by_cases hlt : k < s.size
    · have HD := Lib.hid (drop_cons s k hlt)
      by_cases hc : s[k] = c
      · have hc' := u8_eq_true hc
        have HC := Lib.hid hc
        clear hc
        go_wp2
        go_ret
        exact ⟨ret_bool (by rw [HT.out, HD.out, hasB, if_pos HC.out]), rfl⟩
      · have hc' := u8_eq_false hc
        go_wp2
        go_round
        case rel => exact ⟨k + 1, by omega, by go_num, by rw [HT.out, HD.out, hasB, if_neg hc]⟩
        case measure => simp [intOf]; omega
    · have HD := Lib.hid (drop_all s k (by omega))
      go_wp2
      go_ret
      exact ⟨ret_bool (by rw [HT.out, HD.out]; rfl), rfl⟩
set_option maxHeartbeats 400000 in
theorem Has_walk (s : ByteArray) (c : UInt8) (w : World) (hs : s.size ≤ maxLen) :
    Calls Tryd.prog 22 #[.string s, .int .u8 c.toNat] w fun e w' => e = .returned (.bool (hasB s.data.toList c)) ∧ w = w' := by
  unfold maxLen at hs
  go_enter Tryd.func22, Tryd.ntmps22
  go_wp2
  go_loop [5] (fun i => ∃ k : Nat, k ≤ s.size ∧ i = .int .i64 k ∧ hasB s.data.toList c = hasB (s.data.toList.drop k) c) (fun i => s.size - (intOf i).toNat)
  case atStart => exact ⟨0, by omega, rfl, rfl⟩
  case round =>
    obtain ⟨k, hk, rfl, ht⟩ := hrel
    have HT := Lib.hid ht
    clear ht
    by_cases hlt : k < s.size
    · have HD := Lib.hid (drop_cons s k hlt)
      by_cases hc : s[k] = c
      · have hc' := u8_eq_true hc
        have HC := Lib.hid hc
        clear hc
        go_wp2
        go_ret
        exact ⟨ret_bool (by rw [HT.out, HD.out, hasB, if_pos HC.out]), rfl⟩
      · have hc' := u8_eq_false hc
        go_wp2
        go_round
        case rel => exact ⟨k + 1, by omega, by go_num, by rw [HT.out, HD.out, hasB, if_neg hc]⟩
        case measure => simp [intOf]; omega
    · have HD := Lib.hid (drop_all s k (by omega))
      go_wp2
      go_ret
      exact ⟨ret_bool (by rw [HT.out, HD.out]; rfl), rfl⟩

/-- scan.Class. -/
def classI (c d : Int) : Int :=
  if 48 ≤ c ∧ c ≤ 57 then 93
  else if 97 ≤ d ∧ d ≤ 102 then 94
  else if 97 ≤ d ∧ d ≤ 122 then 90
  else if c = 45 ∨ c = 46 then 88
  else if c = 33 ∨ c = 42 ∨ c = 95 ∨ c = 126 ∨ c = 39 then 24
  else if c = 37 ∨ c = 43 ∨ c = 96 then 8
  else if c = 40 ∨ c = 41 then 16
  else if c = 32 ∨ c = 9 then 32 else 0
def classB (c : UInt8) : Int := classI c.toNat (Go.bits .or .u8 c.toNat 32)

set_option maxHeartbeats 2000000 in
theorem Class_walk (c : UInt8) (w : World) :
    Calls Tryd.prog 59 #[.int .u8 c.toNat] w fun e w' => e = .returned (.int .i64 (classB c)) ∧ w = w' := by
  have hc := c.toNat_lt
  have E : Hid (classB c = classI c.toNat (Go.bits .or .u8 c.toNat 32)) := rfl
  go_enter Tryd.func59, Tryd.ntmps59
  generalize (c.toNat : Int) = x at *
  go_wp2
  all_goals
    go_ret
    simp only [beq_iff_eq, beq_eq_false_iff_ne, ne_eq] at *
    first | exact ⟨ret_int (by rw [E.out, classI]; repeat (first | rfl | (exfalso; omega) | rw [if_pos (by omega)] | rw [if_neg (by omega)])), rfl⟩ | exact ⟨ret_int (by rw [E.out, classI]; repeat (first | rfl | (exfalso; omega) | rw [if_pos (by omega)] | rw [if_neg (by omega)])), trivial⟩
end Go.Proofs.YtffcapkjfmkkaaaDoor
