/- XmlBack, XmlOnce: the statements' own functions. -/
import Derived.Test.YtffcapkjfmkkaaaGreatDoorQ7
import Derived.Test.YtffcapkjfmkkaaaGreatDoorZZ
namespace Go.Proofs.YtffcapkjfmkkaaaGreatDoor
open Go.RowKit
theorem same_self (u v : Value) (ns : List Nod) (w : World) (h1 : RNod w u ns) (h2 : RNod w v ns) :
    Calls Tryz.prog 17 #[u, v] w fun e w' => e = .returned (.bool true) ∧ Below w.heap.size w w' :=
  (rSame_walk u v ns ns w h1 h2).mono fun e w' ⟨h, hd⟩ => ⟨h.trans (by simp), hd.below0⟩
theorem parse_ok {w w' : World} {s : ByteArray} {e : Ending} {ms : List Nod} (h : DocPost w s e w') (hs : s.size ≤ 4096) (hd : docS s.data.toList = some ms) : ∃ v, e = .returned (.tuple #[v, .int .i64 0]) ∧ RNod w' v ms ∧ Below w.heap.size w w' := by
  obtain ⟨hb, he⟩ := h
  rw [if_neg (by omega), hd] at he
  obtain ⟨v, h1, h2⟩ := he
  exact ⟨v, h1, h2, hb⟩
theorem parse_bs {w w' : World} {l : Bs} {e : Ending} {ms : List Nod} (h : DocPost w ⟨l.toArray⟩ e w') (hs : l.length ≤ 4096) (hd : docS l = some ms) : ∃ v, e = .returned (.tuple #[v, .int .i64 0]) ∧ RNod w' v ms ∧ Below w.heap.size w w' :=
  parse_ok h hs hd
theorem print_ok {w w' : World} {ns : List Nod} {e : Ending} (h : PrPost w ns e w') (hc : checkB ns = true) : e = .returned (.tuple #[.string ⟨(prB ns).toArray⟩, .int .i64 0]) ∧ Below w.heap.size w w' := by
  obtain ⟨h1, h2⟩ := h
  rw [if_pos hc] at h1
  exact ⟨h1, h2⟩
theorem print_no {w w' : World} {ns : List Nod} {e : Ending} (h : PrPost w ns e w') (hc : checkB ns = false) : e = .returned (.tuple #[.string ⟨#[]⟩, .int .i64 130]) ∧ Below w.heap.size w w' := by
  obtain ⟨h1, h2⟩ := h
  rw [if_neg (by rw [hc]; decide)] at h1
  exact ⟨h1, h2⟩
set_option maxRecDepth 100000 in
set_option maxHeartbeats 4000000 in
theorem xmlBack_walk (u : Value) (ns : List Nod) (w : World) (m : Int) (hm : Mx w m) (hp : RNod w u ns) (hc : costs ns ≤ 6291456) :
    Calls Tryz.prog 4 #[u] w fun e w' => e = .returned (.bool true) ∧ Below w.heap.size w w' := by
  have HM := Lib.hid hm
  have HP := Lib.hid hp
  have HC := Lib.hid hc
  clear hm hp hc
  go_enter Tryz.func4, Tryz.ntmps4
  go_wp2_with fail
  refine (pPrint_walk u ns w HP.out (attrs_len HC.out) (fun _ => by have := HC.out; omega)).mono ?_
  intro e w1 hpr
  cases hcb : checkB ns with
  | false =>
    obtain ⟨rfl, hb1⟩ := print_no hpr hcb
    have HB1 := Lib.hid hb1
    clear hpr hb1 hcb
    go_wp2_with fail
    refine (awake_walk w1 m (cell_keep HB1.out HM.out)).mono ?_
    rintro e w2 ⟨rfl, hb2⟩
    have HB2 := Lib.hid (HB1.out.trans (hb2.mono HB1.out.size))
    clear hb2
    go_wp2_with fail
    go_ret
    exact ⟨rfl, HB2.out⟩
  | true =>
    obtain ⟨rfl, hb1⟩ := print_ok hpr hcb
    have HB1 := Lib.hid hb1
    have HCB := Lib.hid hcb
    clear hpr hb1 hcb
    by_cases hl : 4096 < (prB ns).length
    · obtain ⟨T, hT⟩ : ∃ T, prB ns = T := ⟨_, rfl⟩
      rw [hT] at hl ⊢
      clear hT
      go_wp2_with fail
      refine (awake_walk w1 m (cell_keep HB1.out HM.out)).mono ?_
      rintro e w2 ⟨rfl, hb2⟩
      have HB2 := Lib.hid (HB1.out.trans (hb2.mono HB1.out.size))
      clear hb2
      go_wp2_with fail
      go_ret
      exact ⟨rfl, HB2.out⟩
    · have HD := Lib.hid (doc_back0 ns HCB.out (by omega))
      have hl2 : (prB ns).length ≤ 4096 := by omega
      obtain ⟨T, hT⟩ : ∃ T, prB ns = T := ⟨_, rfl⟩
      rw [hT] at hl hl2 HD ⊢
      clear hT
      go_wp2_with fail
      refine (pParse_walk ⟨T.toArray⟩ w1 m (cell_keep HB1.out HM.out)).mono ?_
      intro e w2 hdp
      obtain ⟨v, rfl, hr, hb2⟩ := parse_bs hdp hl2 HD.out
      have HB2 := Lib.hid (HB1.out.trans (hb2.mono HB1.out.size))
      have HR := Lib.hid hr
      clear hdp hr hb2
      go_wp2_with fail
      refine (same_self u v ns w2 (HP.out.keep HB2.out) HR.out).mono ?_
      rintro e w3 ⟨rfl, hb3⟩
      have HB3 := Lib.hid (HB2.out.trans (hb3.mono HB2.out.size))
      clear hb3
      go_wp2_with fail
      refine (awake_walk w3 m (cell_keep HB3.out HM.out)).mono ?_
      rintro e w4 ⟨rfl, hb4⟩
      have HB4 := Lib.hid (HB3.out.trans (hb4.mono HB3.out.size))
      clear hb4
      go_wp2_with fail
      go_ret
      exact ⟨rfl, HB4.out⟩
/-- What Parse gives. -/
theorem parse_any {w w' : World} {s : ByteArray} {e : Ending} (h : DocPost w s e w') : (∃ k : Int, (k = 2 ∨ k = 130) ∧ e = .returned (.tuple #[.slice none 0 0, .int .i64 k]) ∧ Below w.heap.size w w') ∨ (∃ v ms, s.size ≤ 4096 ∧ docS s.data.toList = some ms ∧ e = .returned (.tuple #[v, .int .i64 0]) ∧ RNod w' v ms ∧ Below w.heap.size w w') := by
  by_cases hl : 4096 < s.size
  · obtain ⟨hb, he⟩ := h
    rw [if_pos hl] at he
    exact .inl ⟨2, .inl rfl, he, hb⟩
  · cases hd : docS s.data.toList with
    | none =>
      obtain ⟨hb, he⟩ := h
      rw [if_neg hl, hd] at he
      exact .inl ⟨130, .inr rfl, he, hb⟩
    | some ms =>
      obtain ⟨v, h1, h2, h3⟩ := parse_ok h (by omega) hd
      exact .inr ⟨v, ms, by omega, rfl, h1, h2, h3⟩
set_option maxRecDepth 100000 in
set_option maxHeartbeats 4000000 in
theorem xmlOnce_walk (s : ByteArray) (w : World) (m : Int) (hm : Mx w m) :
    Calls Tryz.prog 5 #[.string s] w fun e w' => e = .returned (.bool true) ∧ Below w.heap.size w w' := by
  have HM := Lib.hid hm
  clear hm
  go_enter Tryz.func5, Tryz.ntmps5
  go_wp2_with fail
  refine (pParse_walk s w m HM.out).mono ?_
  intro e w1 hdp
  rcases parse_any hdp with ⟨k, hk, rfl, hb1⟩ | ⟨v, ms, hs, hd, rfl, hr, hb1⟩
  · have HB1 := Lib.hid hb1
    have hk0 : (k != 0) = true := by rcases hk with rfl | rfl <;> rfl
    have hk1 : ¬ k = 0 := by rcases hk with rfl | rfl <;> decide
    clear hdp hb1 hk
    go_wp2_with fail
    refine (awake_walk w1 m (cell_keep HB1.out HM.out)).mono ?_
    rintro e w2 ⟨rfl, hb2⟩
    have HB2 := Lib.hid (HB1.out.trans (hb2.mono HB1.out.size))
    clear hb2
    go_wp2_with fail
    go_ret
    exact ⟨rfl, HB2.out⟩
  · have HB1 := Lib.hid hb1
    have HR1 := Lib.hid hr
    have hf := docS_facts hd
    have hcost : costs ms ≤ 6291456 := by
      have := hf.2
      rw [size_list] at this; omega
    have HC := Lib.hid hcost
    have HCB := Lib.hid hf.1
    have hmp : 0 < ms.length := by have := (check_facts hf.1).1; omega
    clear hdp hb1 hr hf hcost hd
    go_wp2_with fail
    refine (pPrint_walk v ms w1 HR1.out (attrs_len HC.out) (fun _ => by have := HC.out; omega)).mono ?_
    intro e w2 hpr
    obtain ⟨rfl, hb2⟩ := print_ok hpr HCB.out
    have HB2 := Lib.hid (HB1.out.trans (hb2.mono HB1.out.size))
    have HR2 := Lib.hid (HR1.out.keep hb2)
    clear hpr hb2
    have h0 : chkI true = 0 := rfl
    by_cases hl : 4096 < (prB ms).length
    · obtain ⟨T, hT⟩ : ∃ T, prB ms = T := ⟨_, rfl⟩
      rw [hT] at hl ⊢
      clear hT
      go_wp2_with fail
      refine (pCheck_val v ms w2 HR2.out (attrs_len HC.out) true HCB.out).mono ?_
      rintro e w3 ⟨rfl, hb3⟩
      have HB3 := Lib.hid (HB2.out.trans (hb3.mono HB2.out.size))
      obtain ⟨A, c, rfl, -, hm, -⟩ := HR2.out
      rw [h0]
      clear hb3
      go_wp2_with fail
      refine (awake_walk w3 m (cell_keep HB3.out HM.out)).mono ?_
      rintro e w4 ⟨rfl, hb4⟩
      have HB4 := Lib.hid (HB3.out.trans (hb4.mono HB3.out.size))
      clear hb4
      go_wp2_with fail
      go_ret
      exact ⟨rfl, HB4.out⟩
    · have HD := Lib.hid (doc_back0 ms HCB.out (by omega))
      have hl2 : (prB ms).length ≤ 4096 := by omega
      obtain ⟨T, hT⟩ : ∃ T, prB ms = T := ⟨_, rfl⟩
      rw [hT] at hl hl2 HD ⊢
      clear hT
      go_wp2_with fail
      refine (pCheck_val v ms w2 HR2.out (attrs_len HC.out) true HCB.out).mono ?_
      rintro e w3 ⟨rfl, hb3⟩
      have HB3 := Lib.hid (HB2.out.trans (hb3.mono HB2.out.size))
      have HR3 := Lib.hid (HR2.out.keep hb3)
      obtain ⟨A, c, rfl, -, hm, -⟩ := HR2.out
      rw [h0]
      clear hb3
      go_wp2_with fail
      refine (pParse_walk ⟨T.toArray⟩ w3 m (cell_keep HB3.out HM.out)).mono ?_
      intro e w4 hdp
      obtain ⟨v2, rfl, hr, hb4⟩ := parse_bs hdp hl2 HD.out
      have HB4 := Lib.hid (HB3.out.trans (hb4.mono HB3.out.size))
      have HR4 := Lib.hid hr
      have HR5 := Lib.hid (HR3.out.keep hb4)
      clear hdp hr hb4
      go_wp2_with fail
      refine (same_self _ v2 ms w4 HR5.out HR4.out).mono ?_
      rintro e w5 ⟨rfl, hb5⟩
      have HB5 := Lib.hid (HB4.out.trans (hb5.mono HB4.out.size))
      clear hb5
      go_wp2_with fail
      refine (awake_walk w5 m (cell_keep HB5.out HM.out)).mono ?_
      rintro e w6 ⟨rfl, hb6⟩
      have HB6 := Lib.hid (HB5.out.trans (hb6.mono HB5.out.size))
      clear hb6
      go_wp2_with fail
      go_ret
      exact ⟨rfl, HB6.out⟩
end Go.Proofs.YtffcapkjfmkkaaaGreatDoor
