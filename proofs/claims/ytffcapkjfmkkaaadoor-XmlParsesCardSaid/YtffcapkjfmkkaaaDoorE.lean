/- The reader: may, fail, take, blank. -/
import Derived.Test.YtffcapkjfmkkaaaDoorD4
namespace Go.Proofs.YtffcapkjfmkkaaaDoor
open Go.RowKit
/-- The reader stands at s, and has read l. -/
def Rd (w : World) (rb : Nat) (s : ByteArray) (l : Value) : Prop := w.heap[rb]? = some (.cells #[.string s, l] 48 (0, 0))
theorem Rd.set {w : World} {rb : Nat} {s : ByteArray} {l : Value} (h : Rd w rb s l) (s' : ByteArray) : Rd (w.setCell ⟨rb, 0, none⟩ (.string s')) rb s' l := by
  have := setCell_same h 0 (.string s')
  exact this
theorem Rd.s {w : World} {rb : Nat} {s : ByteArray} {l : Value} (h : Rd w rb s l) : w.cell? ⟨rb, 0, none⟩ = some (.string s) := blk_cell h 0
theorem Rd.l {w : World} {rb : Nat} {s : ByteArray} {l : Value} (h : Rd w rb s l) : w.cell? ⟨rb, 1, none⟩ = some l := blk_cell h 1
theorem Rd.f {w : World} {rb : Nat} {s : ByteArray} {l : Value} (h : Rd w rb s l) : w.frozen? ⟨rb, 0, none⟩ = false := frozen0 h 0
/-- What the reader gives up with. -/
abbrev gaveUp : Ending := .panicked [{ v := .iface 45 (.agg #[]), recovered := false }]
theorem fail_walk (rb : Nat) (w : World) :
    Calls Tryd.prog 31 #[.pointer (some ⟨rb, 0, none⟩)] w fun e w' => e = gaveUp ∧ w' = w := by
  go_enter Tryd.func31, Tryd.ntmps31
  go_wp2
  exact ⟨rfl, rfl, rfl⟩
/-- A step of the reader: it stands at r then; nothing else that was there is turned. -/
def Stp (w : World) (rb : Nat) (r : Bs) (l : Value) (w' : World) : Prop := Rd w' rb ⟨r.toArray⟩ l ∧ w.grownBy w' (some rb)
theorem Rd.lt {w : World} {rb : Nat} {s : ByteArray} {l : Value} (h : Rd w rb s l) : rb < w.heap.size := (Array.getElem?_eq_some_iff.1 h).1
theorem Rd.below {w w' : World} {rb : Nat} {s : ByteArray} {l : Value} (h : Rd w rb s l) (hb : Below w.heap.size w w') : Rd w' rb s l := (hb.block _ h.lt).trans h
theorem Rd.stp {w : World} {rb : Nat} {s : ByteArray} {l : Value} (h : Rd w rb s l) (r : Bs) : Stp w rb r l (w.setCell ⟨rb, 0, none⟩ (.string ⟨r.toArray⟩)) := ⟨h.set _, setCell_grown _ _ _ _⟩
theorem Rd.stp_below {w w1 : World} {rb : Nat} {s : ByteArray} {l : Value} (h : Rd w rb s l) (hb : Below w.heap.size w w1) (r : Bs) : Stp w rb r l (w1.setCell ⟨rb, 0, none⟩ (.string ⟨r.toArray⟩)) :=
  ⟨(h.below hb).set _, below_then hb (setCell_grown _ _ _ _)⟩
theorem Stp.trans {w w1 w2 : World} {rb : Nat} {r r2 : Bs} {l : Value} (h : Stp w rb r l w1) (k : Stp w1 rb r2 l w2) : Stp w rb r2 l w2 := ⟨k.1, h.2.trans k.2⟩
theorem may_walk (rb : Nat) (s t : ByteArray) (l : Value) (w : World) (hr : Rd w rb s l) :
    Calls Tryd.prog 16 #[.pointer (some ⟨rb, 0, none⟩), .string t] w fun e w' => e = .returned (.bool (Lib.hasPrefix s.data.toList t.data.toList)) ∧
      Stp w rb (Lib.trimPrefix s.data.toList t.data.toList) l w' := by
  have h0 := hr.s
  have h1 := hr.f
  go_enter Tryd.func16, Tryd.ntmps16
  go_wp2_with (go_at_call 29; refine (strings_CutPrefix _ _ _).mono ?_; rintro e w' ⟨rfl, rfl⟩)
  go_ret
  exact ⟨rfl, Rd.stp (by assumption) _⟩
theorem may_val (rb : Nat) (s t : ByteArray) (l : Value) (w : World) (hr : Rd w rb s l) (T : Bs) (hT : t.data.toList = T) (b : Bool) (h : Lib.hasPrefix s.data.toList T = b) :
    Calls Tryd.prog 16 #[.pointer (some ⟨rb, 0, none⟩), .string t] w fun e w' => e = .returned (.bool b) ∧
      Stp w rb (if b then s.data.toList.drop T.length else s.data.toList) l w' := by
  subst hT h
  refine (may_walk rb s t l w hr).mono ?_
  rintro e w' ⟨rfl, h⟩
  exact ⟨rfl, h⟩
theorem take_walk (rb : Nat) (s t : ByteArray) (l : Value) (w : World) (hr : Rd w rb s l) (T : Bs) (hT : t.data.toList = T) (b : Bool) (h : Lib.hasPrefix s.data.toList T = b) :
    Calls Tryd.prog 18 #[.pointer (some ⟨rb, 0, none⟩), .string t] w fun e w' => (if b then e = .returned (.tuple #[]) else e = gaveUp) ∧
      Stp w rb (if b then s.data.toList.drop T.length else s.data.toList) l w' := by
  go_enter Tryd.func18, Tryd.ntmps18
  go_wp2_with fail
  refine (may_val rb s t l w hr T hT b h).mono ?_
  rintro e w' ⟨rfl, hst⟩
  cases b
  · go_wp2_with fail
    refine (fail_walk rb _).mono ?_
    rintro e w2 ⟨rfl, rfl⟩
    go_wp2
    exact ⟨rfl, rfl, hst⟩
  · go_wp2_with fail
    refine bodyPost_end (v := .tuple #[]) (by simp [results, Tryd.results18, go_sem]) rfl ⟨rfl, ?_⟩
    simpa using hst
theorem trimL_S (l : Bs) : Lib.trimLeftS l blanks4 = dropW blankB l := by
  unfold Lib.trimLeftS
  have : (fun x => blanks4.contains x) = blankB := funext fun c => (blank_contains c).symm
  rw [this, dropW_while]
theorem blank_walk (rb : Nat) (s : ByteArray) (l : Value) (w : World) (hr : Rd w rb s l) :
    Calls Tryd.prog 19 #[.pointer (some ⟨rb, 0, none⟩)] w fun e w' => e = .returned (.tuple #[]) ∧ Stp w rb (dropW blankB s.data.toList) l w' := by
  have h0 := hr.s
  have h1 := hr.f
  go_enter Tryd.func19, Tryd.ntmps19
  go_wp2_with fail
  refine (strings_TrimLeft_laid _ _ _ (by decide) blanks_ascii).mono ?_
  rintro e w1 ⟨rfl, hb⟩
  have g1 := (hr.below hb).f
  have g0 := (hr.below hb).s
  have HB := Lib.hid hb
  go_wp2_with fail
  refine bodyPost_end (v := .tuple #[]) (by simp [results, Tryd.results19, go_sem]) rfl ⟨rfl, ?_⟩
  have := hr.stp_below HB.out (dropW blankB s.data.toList)
  rw [← trimL_S] at *
  exact this
end Go.Proofs.YtffcapkjfmkkaaaDoor
