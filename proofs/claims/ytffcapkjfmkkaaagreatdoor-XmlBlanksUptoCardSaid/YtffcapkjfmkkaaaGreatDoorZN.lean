/- xml.Attr: an element's attribute. -/
import Derived.Test.YtffcapkjfmkkaaaGreatDoorZL3
namespace Go.Proofs.YtffcapkjfmkkaaaGreatDoor
open Go.RowKit
def attrGet : List Par → Bs → Bs × Bool
  | [], _ => ([], false)
  | p :: l, n => if p.name = n then (p.value, true) else attrGet l n
theorem attrGet_at (ps : List Par) (j : Nat) (h : j < ps.length) (n : Bs) : attrGet (ps.drop j) n = if ps[j].name = n then (ps[j].value, true) else attrGet (ps.drop (j + 1)) n := by
  rw [List.drop_eq_getElem_cons h, attrGet]
def AttrP (w : World) (ps : List Par) (n : Bs) (e : Ending) (w' : World) : Prop := e = .returned (.tuple #[.string ⟨(attrGet ps n).1.toArray⟩, .bool (attrGet ps n).2]) ∧ Below w.heap.size w w'
set_option maxRecDepth 100000 in
set_option maxHeartbeats 2000000 in
theorem pAttr_walk (d : Int) (nm tx : ByteArray) (key : Bs) (va : Value) (ps : List Par) (w : World) (hp : RPar w va ps) :
    Calls Tryz.prog 20 #[.agg #[.int .i64 d, .string nm, va, .string tx], .string ⟨key.toArray⟩] w (AttrP w ps key) := by
  have HP := Lib.hid hp
  obtain ⟨A, c, rfl, -, hm, -⟩ := hp
  go_enter Tryz.func20, Tryz.ntmps20
  go_wp2_with fail
  go_loopw [11] (fun i wr => ∃ j : Nat, j ≤ ps.length ∧ i = .int .i64 j ∧ attrGet ps key = attrGet (ps.drop j) key ∧ Below w.heap.size w wr) (fun i _ => ps.length - (intOf i).toNat)
  case atStart => exact ⟨0, Nat.zero_le _, rfl, rfl, (Below.refl _ _).alloc (Nat.le_refl _) _⟩
  case round =>
    obtain ⟨j, hj, rfl, ht, hb⟩ := hrel
    have HT := Lib.hid ht
    have HB := Lib.hid hb
    clear ht
    by_cases hlt : j < ps.length
    · obtain ⟨a, rfl, p0, p1, p2, -⟩ := (HP.out.keep hb).at_ j hlt
      have hg := attrGet_at ps j hlt key
      clear hb
      generalize ps[j] = p at *
      by_cases he : p.name = key
      · rw [if_pos he] at hg
        have HG := Lib.hid (HT.out.trans hg)
        rw [he] at p0
        clear hg he
        go_wp2_with fail
        go_ret2
        unfold AttrP
        rw [HG.out]
        exact ⟨rfl, HB.out.alloc HB.out.size _⟩
      · rw [if_neg he] at hg
        have HG := Lib.hid (HT.out.trans hg)
        have hk : (p.name == key) = false := by simpa using he
        clear hg he
        go_wp2_with fail
        exact ⟨⟨j + 1, by omega, by go_num, HG.out, HB.out.alloc HB.out.size _⟩, by simp [intOf]; omega⟩
    · obtain rfl : j = ps.length := by omega
      clear hb
      go_wp2_with fail
      go_ret2
      unfold AttrP
      rw [HT.out, List.drop_eq_nil_of_le (Nat.le_refl _)]
      exact ⟨rfl, HB.out⟩
end Go.Proofs.YtffcapkjfmkkaaaGreatDoor
