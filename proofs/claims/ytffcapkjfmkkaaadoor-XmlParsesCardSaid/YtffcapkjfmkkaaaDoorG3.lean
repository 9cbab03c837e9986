/- read: its deferred closure. -/
import Derived.Test.YtffcapkjfmkkaaaDoorG2
import Derived.Test.YtffcapkjfmkkaaaDoorP2
import Derived.Defers
import Derived.Recover
import Derived.Tactics
import Derived.Tactics2
namespace Go.Proofs.YtffcapkjfmkkaaaDoor
open Go.RowKit
set_option maxHeartbeats 2000000 in
theorem rec_idle (p q : Addr) (w : World) :
    CallsD Tryd.prog 15 #[.pointer (some p), .pointer (some q)] .returning w fun e u' w' => e = .returned (.tuple #[]) ∧ u' = .returning ∧ w' = w := by
  refine callsD_of_wpS Tryd.func15 rfl fun c₀ cs hu => ?_
  apply wpS_seq
  apply wpS_region
  simp [wpOpsS, go_sem, recoverD, hu, Tryd.ntmps15, Exit.thenS]
  refine wpS_of_wp ?_
  go_wp2
  cases c₀
  simp_all [bodyPostS, results, Tryd.results15]
theorem assert_wrong (w : World) : (Instr.typeAssert (Value.iface 45 (Value.agg #[])) 20 45 true).run Tryd.prog w = .ok (.tuple #[.agg #[], .bool true]) w := by kernel_rfl
set_option maxRecDepth 100000 in
set_option maxHeartbeats 2000000 in
theorem rec_catch (b1 b2 : Nat) (older : List PanicEntry) (w : World) (h1 : w.heap[b1]? = some (.cells #[.slice none 0 0] 22 (0, 0))) (h2 : w.heap[b2]? = some (.cells #[.bool false] 4 (0, 0))) :
    CallsD Tryd.prog 15 #[.pointer (some ⟨b1, 0, none⟩), .pointer (some ⟨b2, 0, none⟩)] (.panicking ({ v := .iface 45 (.agg #[]), recovered := false } :: older)) w fun e u' w' =>
      e = .returned (.tuple #[]) ∧ u' = .panicking ({ v := .iface 45 (.agg #[]), recovered := true } :: older) ∧ w' = ((w.setCell ⟨b1, 0, none⟩ (.slice none 0 0)).setCell ⟨b2, 0, none⟩ (.bool false)).alloc (.cells #[] 45) := by
  have q1 : (w.alloc (.cells #[] 45)).heap[b1]? = some (.cells #[.slice none 0 0] 22 (0, 0)) := by
    rw [Below.heap_alloc _ _ _ (blk_lt h1)]; exact h1
  have q2 : (w.alloc (.cells #[] 45)).heap[b2]? = some (.cells #[.bool false] 4 (0, 0)) := by
    rw [Below.heap_alloc _ _ _ (blk_lt h2)]; exact h2
  have c1 := blk_cell q1 0
  have c2 := blk_cell q2 0
  have f1 := frozen0 q1 0
  have f2 := frozen0 q2 0
  have hne : ¬ b2 = b1 := fun e => by
    subst e
    rw [h1] at h2; injection h2 with h2; injection h2 with _ h2; revert h2; decide
  have hne2 : ¬ b1 = b2 := fun e => hne e.symm
  have hl1 := blk_lt h1
  have hl2 := blk_lt h2
  have d1 := blk_cell h1 0
  have d2 := blk_cell h2 0
  have e1 := frozen0 h1 0
  have e2 := frozen0 h2 0
  clear q1 q2
  simp at c1 c2 d1 d2
  refine callsD_of_wpS Tryd.func15 rfl fun c₀ cs hu => ?_
  apply wpS_seq
  apply wpS_region
  simp [wpOpsS, go_sem, recoverD, hu, Tryd.ntmps15, Exit.thenS]
  refine wpS_of_wp ?_
  have ha := assert_wrong
  go_wp2
  cases c₀
  simp_all [bodyPostS, results, Tryd.results15]
/-- Inside read: what stands below; its two results' variables; the reader. -/
structure RRl (w wr : World) (m : Int) (y : Bs) (l : Value) : Prop where
  below : Below w.heap.size w wr
  lb : wr.heap[w.heap.size]? = some (.cells #[.slice none 0 0] 22 (0, 0))
  ob : wr.heap[w.heap.size + 1]? = some (.cells #[.bool false] 4 (0, 0))
  rd : Rd wr (w.heap.size + 1 + 1) ⟨y.toArray⟩ l
  mx : Mx wr m
/-- The same without the reader: where it gave up. -/
structure RBl (w wr : World) : Prop where
  below : Below w.heap.size w wr
  lb : wr.heap[w.heap.size]? = some (.cells #[.slice none 0 0] 22 (0, 0))
  ob : wr.heap[w.heap.size + 1]? = some (.cells #[.bool false] 4 (0, 0))
theorem RRl.bad {w wr w' : World} {m : Int} {y : Bs} {l : Value} (h : RRl w wr m y l) (hg : wr.grownBy w' (some (w.heap.size + 1 + 1))) : RBl w w' :=
  ⟨h.below.grown hg h.below.size (fun k hk => by injection hk with hk; omega),
    by rw [hg.block _ (blk_lt h.lb) (by intro e; injection e with e; omega)]; exact h.lb,
    by rw [hg.block _ (blk_lt h.ob) (by intro e; injection e with e; omega)]; exact h.ob⟩
theorem RRl.stp {w wr w' : World} {m : Int} {y y' : Bs} {l : Value} (h : RRl w wr m y l) (hs : Stp wr (w.heap.size + 1 + 1) y' l w') : RRl w w' m y' l :=
  let b := h.bad hs.2
  ⟨b.below, b.lb, b.ob, hs.1, h.mx.stp h.rd hs.2⟩
theorem RRl.badFr {w wr w' : World} {m : Int} {y : Bs} {l : Value} (h : RRl w wr m y l) (hg : Fr wr w' (w.heap.size + 1 + 1) none) : RBl w w' :=
  ⟨⟨hg.os.trans h.below.os, hg.tape.trans h.below.tape, hg.output.trans h.below.output, Nat.le_trans h.below.size hg.size, fun k hk => by
      rw [hg.block k (Nat.lt_of_lt_of_le hk h.below.size) (by omega) (by simp)]; exact h.below.block k hk⟩,
    by rw [hg.block _ (blk_lt h.lb) (by omega) (by simp)]; exact h.lb,
    by rw [hg.block _ (blk_lt h.ob) (by omega) (by simp)]; exact h.ob⟩
def ReadPost (w : World) (s : Bs) (e : Ending) (w' : World) : Prop :=
  Below w.heap.size w w' ∧
  match docP s with
  | none => ∃ v, e = .returned (.tuple #[v, .bool false])
  | some ms => ∃ v, e = .returned (.tuple #[v, .bool true]) ∧ RNod w' v ms
theorem res_read {tmps : Array Value} {w : World} {a b : Addr} {x y : Value} (h2 : tmps.getD 2 undef = .pointer (some a)) (h3 : tmps.getD 3 undef = .pointer (some b)) (c1 : w.cell? a = some x) (c2 : w.cell? b = some y) :
    (results Tryd.f8 tmps).run Tryd.prog w = .ok (.tuple #[x, y]) w := by
  have h2' : tmps[2]?.getD undef = .pointer (some a) := by simpa using h2
  have h3' : tmps[3]?.getD undef = .pointer (some b) := by simpa using h3
  simp [results, Tryd.results8, go_sem, h2', h3', c1, c2]
set_option maxRecDepth 100000 in
theorem door_bad {w w2 : World} {s : Bs} (hb : RBl w w2) (hn : docP s = none) (tmps : Array Value) (h2 : tmps.getD 2 undef = .pointer (some ⟨w.heap.size, 0, none⟩)) (h3 : tmps.getD 3 undef = .pointer (some ⟨w.heap.size + 1, 0, none⟩)) :
    bodyPostD Tryd.prog Tryd.f8 (ReadPost w s) (Exit.panic [{ v := .iface 45 (.agg #[]), recovered := false }])
      { tmps := tmps, defers := [{ target := Target.fn (Fn.func 15) #[.pointer (some ⟨w.heap.size, 0, none⟩), .pointer (some ⟨w.heap.size + 1, 0, none⟩)], args := #[] }] } w2 := by
  refine leaves_cons (f := 15) (args := #[.pointer (some ⟨w.heap.size, 0, none⟩), .pointer (some ⟨w.heap.size + 1, 0, none⟩)]) (by simp) (by simp [go_sem]) ?_
  refine (rec_catch _ _ [] w2 hb.lb hb.ob).mono ?_
  rintro e u' w'' ⟨rfl, rfl, rfl⟩
  have hl := blk_lt hb.lb
  have ho := blk_lt hb.ob
  have k1 := setCell_same hb.lb 0 (.slice none 0 0)
  have k2 : (w2.setCell ⟨w.heap.size, 0, none⟩ (.slice none 0 0)).heap[w.heap.size + 1]? = some (.cells #[.bool false] 4 (0, 0)) := by
    rw [Below.heap_setCell _ _ _ _ (by show w.heap.size + 1 ≠ w.heap.size; omega)]; exact hb.ob
  have k3 := setCell_same k2 0 (.bool false)
  have k4 : ((w2.setCell ⟨w.heap.size, 0, none⟩ (.slice none 0 0)).setCell ⟨w.heap.size + 1, 0, none⟩ (.bool false)).heap[w.heap.size]? = some (.cells #[.slice none 0 0] 22 (0, 0)) := by
    rw [Below.heap_setCell _ _ _ _ (by show w.heap.size ≠ w.heap.size + 1; omega)]; exact k1
  have hbw : Below w.heap.size w (((w2.setCell ⟨w.heap.size, 0, none⟩ (.slice none 0 0)).setCell ⟨w.heap.size + 1, 0, none⟩ (.bool false)).alloc (.cells #[] 45)) :=
    ((hb.below.setCell (p := ⟨w.heap.size, 0, none⟩) (Nat.le_refl _) _).setCell (p := ⟨w.heap.size + 1, 0, none⟩) (by show _ ≤ w.heap.size + 1; omega) _).alloc (by rw [setCell_size, setCell_size]; exact hb.below.size) _
  generalize hw3 : (((w2.setCell ⟨w.heap.size, 0, none⟩ (.slice none 0 0)).setCell ⟨w.heap.size + 1, 0, none⟩ (.bool false)).alloc (.cells #[] 45)) = w3 at *
  have c1 : w3.cell? ⟨w.heap.size, 0, none⟩ = some (.slice none 0 0) := by
    rw [← hw3]; exact cell_keep ((Below.refl _ _).alloc (Nat.le_refl _) _) (blk_cell k4 0)
  have c2 : w3.cell? ⟨w.heap.size + 1, 0, none⟩ = some (.bool false) := by
    rw [← hw3]; exact cell_keep ((Below.refl _ _).alloc (Nat.le_refl _) _) (blk_cell k3 0)
  clear hw3 k1 k2 k3 k4
  have hp : ReadPost w s (.returned (.tuple #[.slice none 0 0, .bool false])) w3 := by
    unfold ReadPost; rw [hn]; exact ⟨hbw, _, rfl⟩
  exact ⟨_, res_read h2 h3 c1 c2, hp⟩
theorem door_good {w w2 : World} {s : Bs} {v : Value} {b : Bool} (tmps : Array Value) (h2 : tmps.getD 2 undef = .pointer (some ⟨w.heap.size, 0, none⟩)) (h3 : tmps.getD 3 undef = .pointer (some ⟨w.heap.size + 1, 0, none⟩))
    (c1 : w2.cell? ⟨w.heap.size, 0, none⟩ = some v) (c2 : w2.cell? ⟨w.heap.size + 1, 0, none⟩ = some (.bool b)) (hp : ReadPost w s (.returned (.tuple #[v, .bool b])) w2) :
    bodyPostD Tryd.prog Tryd.f8 (ReadPost w s) Exit.ret
      { tmps := tmps, defers := [{ target := Target.fn (Fn.func 15) #[.pointer (some ⟨w.heap.size, 0, none⟩), .pointer (some ⟨w.heap.size + 1, 0, none⟩)], args := #[] }] } w2 := by
  refine leaves_cons (f := 15) (args := #[.pointer (some ⟨w.heap.size, 0, none⟩), .pointer (some ⟨w.heap.size + 1, 0, none⟩)]) (by simp) (by simp [go_sem]) ?_
  refine (rec_idle _ _ w2).mono ?_
  rintro e u' w'' ⟨rfl, rfl, rfl⟩
  exact ⟨_, res_read h2 h3 c1 c2, hp⟩
/-- The two results' variables are written. -/
theorem read_fin {w w3 : World} (h : RBl w w3) (v : Value) (b : Bool) :
    ((w3.setCell ⟨w.heap.size, 0, none⟩ v).setCell ⟨w.heap.size + 1, 0, none⟩ (.bool b)).cell? ⟨w.heap.size, 0, none⟩ = some v ∧
    ((w3.setCell ⟨w.heap.size, 0, none⟩ v).setCell ⟨w.heap.size + 1, 0, none⟩ (.bool b)).cell? ⟨w.heap.size + 1, 0, none⟩ = some (.bool b) ∧
    Below w.heap.size w ((w3.setCell ⟨w.heap.size, 0, none⟩ v).setCell ⟨w.heap.size + 1, 0, none⟩ (.bool b)) ∧
    ∀ ms, ONod w3 w.heap.size v ms → RNod ((w3.setCell ⟨w.heap.size, 0, none⟩ v).setCell ⟨w.heap.size + 1, 0, none⟩ (.bool b)) v ms := by
  have k1 := setCell_same h.lb 0 v
  have k2 : (w3.setCell ⟨w.heap.size, 0, none⟩ v).heap[w.heap.size + 1]? = some (.cells #[.bool false] 4 (0, 0)) := by
    rw [Below.heap_setCell _ _ _ _ (by show w.heap.size + 1 ≠ w.heap.size; omega)]; exact h.ob
  have k3 := setCell_same k2 0 (.bool b)
  have k4 : ((w3.setCell ⟨w.heap.size, 0, none⟩ v).setCell ⟨w.heap.size + 1, 0, none⟩ (.bool b)).heap[w.heap.size]? = some (.cells (#[.slice none 0 0].setIfInBounds 0 v) 22 (0, 0)) := by
    rw [Below.heap_setCell _ _ _ _ (by show w.heap.size ≠ w.heap.size + 1; omega)]; exact k1
  refine ⟨blk_cell k4 0, blk_cell k3 0, (h.below.setCell (p := ⟨w.heap.size, 0, none⟩) (Nat.le_refl _) _).setCell (p := ⟨w.heap.size + 1, 0, none⟩) (by show _ ≤ w.heap.size + 1; omega) _, fun ms ho => ?_⟩
  have h1 : ONod (w3.setCell ⟨w.heap.size, 0, none⟩ v) w.heap.size v ms := by
    refine ho.grown (setCell_grown _ _ _ _) (fun k hk => ?_) (.inr fun e => ?_)
    · injection hk with hk; subst hk
      exact ⟨_, _, _, h.lb, by decide⟩
    · obtain ⟨⟨zs, -, hz, -⟩, -⟩ := ho
      obtain ⟨cs, hc⟩ := own_at hz e
      rw [h.lb] at hc; injection hc with hc; injection hc with _ ht; revert ht; decide
  have h2 := h1.grown (setCell_grown (w3.setCell ⟨w.heap.size, 0, none⟩ v) (w.heap.size + 1) 0 (.bool b)) (fun k hk => by
      injection hk with hk; subst hk
      exact ⟨_, _, _, k2, by decide⟩) (.inr fun e => by
      obtain ⟨⟨zs, -, hz, -⟩, -⟩ := h1
      obtain ⟨cs, hc⟩ := own_at hz e
      rw [k2] at hc; injection hc with hc; injection hc with _ ht; revert ht; decide)
  exact h2.reads
set_option maxRecDepth 100000 in
set_option maxHeartbeats 8000000 in
theorem read_walk (s : ByteArray) (w : World) (m : Int) (hs : s.size ≤ 4096) (hm : Mx w m) :
    Calls Tryd.prog 8 #[.string s] w (ReadPost w s.data.toList) := by
  have hmf : ∀ (fn : Fn) (first cap : Array Value) (w : World), (Instr.makeFunc fn first cap).run Tryd.prog w = .ok (.func fn first cap) w := fun _ _ _ _ => rfl
  have HGLT : Hid (0 < w.heap.size) := cell_lt hm
  go_enter_defers Tryd.func8, Tryd.ntmps8
  go_upto_if 10 with (fail)
  have h0 : RRl w (((w.alloc (.cells #[.slice none 0 0] 22)).alloc (.cells #[.bool false] 4)).alloc (.cells #[.string s, .slice none 0 0] 48)) m s.data.toList (.slice none 0 0) := by
    refine ⟨(((Below.refl _ _).alloc (Nat.le_refl _) _).alloc (by simp) _).alloc (by simp; omega) _, ?_, ?_, ?_, ?_⟩
    · rw [Below.heap_alloc _ _ _ (by simp; omega), Below.heap_alloc _ _ _ (by simp)]; exact heap_alloc_new w _
    · rw [Below.heap_alloc _ _ _ (by simp)]
      have := heap_alloc_new (w.alloc (.cells #[.slice none 0 0] 22)) (.cells #[.bool false] 4)
      simpa using this
    · have := heap_alloc_new ((w.alloc (.cells #[.slice none 0 0] 22)).alloc (.cells #[.bool false] 4)) (.cells #[.string s, .slice none 0 0] 48)
      unfold Rd
      rw [← bytes_of]
      simpa using this
    · exact cell_keep ((((Below.refl _ _).alloc (Nat.le_refl _) _).alloc (by simp) _).alloc (by simp; omega) _) hm
  have H0 := Lib.hid h0
  generalize hb5 : Lib.hasPrefix s.data.toList pre5 = b5
  have HB5 := Lib.hid hb5
  refine (may_val (w.heap.size + 1 + 1) s ⟨#[60, 63, 120, 109, 108]⟩ _ _ (by have := h0.rd; rwa [← bytes_of] at this) pre5 rfl b5 hb5).mono ?_
  clear h0 hb5 hm
  generalize (((w.alloc (.cells #[.slice none 0 0] 22)).alloc (.cells #[.bool false] 4)).alloc (.cells #[.string s, .slice none 0 0] 48)) = w0 at *
  rintro e w1 ⟨rfl, hst1⟩
  have HR1 := Lib.hid (H0.out.stp hst1)
  clear hst1
  have hlen5 : pre5.length = 5 := rfl
  go_upto_if 10 with (fail)
  go_cut [11] from 11 to 14 (fun _ wr => ∃ y, prologS s.data.toList = some y ∧ y.length ≤ s.size ∧ RRl w wr m y (.slice none 0 0))
  case first =>
    cases b5
    · have hps : prologS s.data.toList = some s.data.toList := by
        unfold prologS; rw [if_neg]
        intro h
        have := (has_take s.data.toList pre5).2 h
        rw [HB5.out] at this; cases this
      have HPS := Lib.hid hps
      clear hps
      go_wp2_with fail
      go_meet
      exact ⟨_, HPS.out, by rw [size_list]; exact Nat.le_refl _, HR1.out⟩
    · have hps : prologS s.data.toList = pre2 63 62 (dropW (notIn [63]) (s.data.toList.drop 5)) := by
        unfold prologS; rw [if_pos]
        exact (has_take s.data.toList pre5).1 HB5.out
      have HPS := Lib.hid hps
      have HR2 : Hid (RRl w w1 m (s.data.toList.drop 5) (.slice none 0 0)) := HR1.out
      have hl5 : (s.data.toList.drop 5).length ≤ s.size := by rw [List.length_drop, size_list]; omega
      clear hps
      generalize s.data.toList.drop 5 = s5 at *
      go_wp2_with fail
      refine (until_walk (w.heap.size + 1 + 1) ⟨s5.toArray⟩ ⟨#[63]⟩ _ w1 HR2.out.rd [63] rfl (by decide) (by rw [← size_list]; show s5.length ≤ _; omega)).mono ?_
      rintro e w2 hu
      unfold UntilPost at hu
      rw [show (⟨s5.toArray⟩ : ByteArray).data.toList = s5 from rfl] at hu
      have hdl := dropW_len (notIn [63]) s5
      cases hd : dropW (notIn [63]) s5 with
      | nil =>
        rw [hd] at hu
        obtain ⟨rfl, hb⟩ := hu
        have HBAD := Lib.hid (HR2.out.bad (below_grown' hb))
        have HN : Hid (docP s.data.toList = none) := by
          show _ = _; unfold docP; rw [HPS.out, hd]; rfl
        clear hd hb
        go_wp2
        exact door_bad HBAD.out HN.out _ rfl rfl
      | cons c r =>
        rw [hd] at hu hdl
        obtain ⟨rfl, hst2⟩ := hu
        have HR3 := Lib.hid (HR2.out.stp hst2)
        have HPS2 : Hid (prologS s.data.toList = pre2 63 62 (c :: r)) := by
          show _ = _; rw [HPS.out, hd]
        clear hst2 hd
        generalize c :: r = z at *
        go_wp2_with fail
        cases hp : pre2 63 62 z with
        | none =>
          refine (take2_val (w.heap.size + 1 + 1) _ ⟨#[63, 62]⟩ _ w2 HR3.out.rd 63 62 rfl none hp).mono ?_
          have HN : Hid (docP s.data.toList = none) := by
            show _ = _; unfold docP; rw [HPS2.out, hp]
          clear hp
          rintro e w3 ⟨rfl, hg3⟩
          have HBAD := Lib.hid (HR3.out.bad hg3)
          clear hg3
          go_wp2
          exact door_bad HBAD.out HN.out _ rfl rfl
        | some y =>
          refine (take2_val (w.heap.size + 1 + 1) _ ⟨#[63, 62]⟩ _ w2 HR3.out.rd 63 62 rfl (some y) hp).mono ?_
          have HPS3 : Hid (prologS s.data.toList = some y) := by
            show _ = _; rw [HPS2.out, hp]
          have hyl := pre2_len hp
          clear hp
          rintro e w3 ⟨rfl, hst3⟩
          have HR4 := Lib.hid (HR3.out.stp hst3)
          clear hst3
          go_wp2_with fail
          go_meet
          exact ⟨y, HPS3.out, by omega, HR4.out⟩
  case rest =>
    obtain ⟨y, hps, hyl, hr⟩ := hcut
    have HR := Lib.hid hr
    have hy2 := dropW_len blankB y
    have HD : Hid (docP s.data.toList = match elemP 9000 (dropW blankB y) 0 0 with
        | none => none
        | some (ms, r) => if dropW blankB r = [] ∧ checkB ms = true then some ms else none) := by
      show _ = _; unfold docP; rw [hps]; rfl
    clear hps hr
    go_wp2_with fail
    refine (blank_walk (w.heap.size + 1 + 1) ⟨y.toArray⟩ _ wc HR.out.rd).mono ?_
    rintro e w1 ⟨rfl, hst1⟩
    rw [show (⟨y.toArray⟩ : ByteArray).data.toList = y from rfl] at hst1
    have HR1' := Lib.hid (HR.out.stp hst1)
    clear hst1
    generalize dropW blankB y = y1 at *
    have hmax : w.heap.size ≤ w1.heap.size := HR1'.out.below.size
    have hpos : 0 < w.heap.size := HGLT.out
    go_wp2_with fail
    refine (element_all 9000 (w.heap.size + 1 + 1) ⟨y1.toArray⟩ 0 (.slice none 0 0) [] w.heap.size w1 m HR1'.out.rd HR1'.out.mx hpos hmax (by rw [← size_list]; show y1.length ≤ _; omega) (by rw [← size_list]; show 2 * y1.length + 1 ≤ _; omega) (by omega) (by omega) (ONod.nil _ _) (by simp)).mono ?_
    rintro e w2 hel
    unfold ElP at hel
    rw [show (⟨y1.toArray⟩ : ByteArray).data.toList = y1 from rfl, show ([] : List Nod).length = 0 from rfl] at hel
    obtain ⟨hf2, hel⟩ := hel
    cases hev : elemP 9000 y1 0 0 with
    | none =>
      rw [hev] at hel
      subst hel
      have HN : Hid (docP s.data.toList = none) := by
        show _ = _; rw [HD.out, hev]
      have HBAD := Lib.hid (HR1'.out.badFr hf2)
      clear hev hf2
      go_wp2
      exact door_bad HBAD.out HN.out _ rfl rfl
    | some mr =>
      obtain ⟨ms, r⟩ := mr
      rw [hev] at hel
      obtain ⟨rfl, l2, hr2, ho2, ha2⟩ := hel
      have hml := elemP_len hev
      have HAT := Lib.hid (elemP_attrs hev)
      have HD2 : Hid (docP s.data.toList = if dropW blankB r = [] ∧ checkB ms = true then some ms else none) := by
        show _ = _; rw [HD.out, hev]
      have hb2 := HR1'.out.badFr hf2
      have HB2 := Lib.hid hb2
      have hm2 : Mx w2 m := hf2.cell (by show 0 ≠ w.heap.size + 1 + 1; have := HGLT.out; omega) (by simp [Value.ownBlock]) HR1'.out.mx
      have HR2 : Hid (RRl w w2 m r l2) := ⟨hb2.below, hb2.lb, hb2.ob, hr2, hm2⟩
      have HO2 : Hid (ONod w2 w.heap.size l2 ms) := ho2
      clear hev hf2 hr2 ho2 ha2 hb2 hm2
      go_wp2_with fail
      refine (blank_walk (w.heap.size + 1 + 1) ⟨r.toArray⟩ _ w2 HR2.out.rd).mono ?_
      rintro e w3 ⟨rfl, hst3⟩
      rw [show (⟨r.toArray⟩ : ByteArray).data.toList = r from rfl] at hst3
      have HR3 := Lib.hid (HR2.out.stp hst3)
      have HO3 := Lib.hid (HO2.out.stp HR2.out.rd hst3.2)
      clear hst3
      generalize dropW blankB r = y3 at *
      have k0 := HR3.out.rd.s
      have k1 := HR3.out.rd.l
      have q1 := blk_cell HR3.out.lb 0
      have q2 := blk_cell HR3.out.ob 0
      have z1 := frozen0 HR3.out.lb 0
      have z2 := frozen0 HR3.out.ob 0
      simp at q1 q2
      obtain ⟨A2, c2, hl2⟩ : ∃ A2 c2, l2 = .slice A2 ms.length c2 := by
        obtain ⟨⟨zs, -, hz, -⟩, -⟩ := HO3.out
        obtain ⟨A1, c1, e⟩ := own_slice hz
        exact ⟨A1, c1, e⟩
      subst hl2
      go_upto_region 9 with (fail)
      have g1 : ¬ w.heap.size + 1 + 1 = w.heap.size := by omega
      have g2 : ¬ w.heap.size + 1 + 1 = w.heap.size + 1 := by omega
      have g3 : ¬ w.heap.size = w.heap.size + 1 + 1 := by omega
      have g4 : ¬ w.heap.size + 1 = w.heap.size + 1 + 1 := by omega
      have g5 : ¬ w.heap.size = w.heap.size + 1 := by omega
      have g6 : ¬ w.heap.size + 1 = w.heap.size := by omega
      cases y3 with
      | nil =>
        have hrn := (HO3.out.below (Below.refl _ _).drew).reads
        have HRN := Lib.hid hrn
        clear hrn
        generalize hcb : checkB ms = cb at *
        have HCB := Lib.hid hcb
        have hpl : ∀ n ∈ ms, n.attrs.length < maxLen := fun n hn => by
          have := HAT.out n hn
          unfold maxLen; omega
        have HPL := Lib.hid hpl
        clear hcb hpl
        have HCK : Hid (∀ v, RNod v (.slice A2 ms.length c2) ms → Calls Tryd.prog 21 #[.slice A2 ms.length c2] v fun e v' => e = .returned (.int .i64 (chkI cb)) ∧ Below v.heap.size v v') := fun v hv => by
            rw [← HCB.out]; exact Check_walk _ ms v hv HPL.out
        cases cb
        · have HCK2 : Hid (∀ v, RNod v (.slice A2 ms.length c2) ms → Calls Tryd.prog 21 #[.slice A2 ms.length c2] v fun e v' => e = .returned (.int .i64 130) ∧ Below v.heap.size v v') := HCK.out
          go_region_held3 (fun w' => w'.cell? ⟨w.heap.size + 1 + 1, 0, none⟩ = some (.string ⟨#[]⟩) ∧ w'.cell? ⟨w.heap.size + 1 + 1, 1, none⟩ = some (.slice A2 ms.length c2)) (go_keep) (first
            | (go_at_call 21; refine (HCK2.out _ HRN.out).mono ?_; rintro e w4 ⟨rfl, hb4⟩; have kk0 := cell_keep hb4 (show w3.drew.cell? _ = _ from k0); have kk1 := cell_keep hb4 (show w3.drew.cell? _ = _ from k1); have HB4 := Lib.hid (RRl.bad HR3.out ⟨hb4.os, hb4.tape, hb4.output, hb4.size, fun k hk _ => hb4.block k hk⟩); have HO4 := Lib.hid ((HO3.out.below (Below.refl _ _).drew).below hb4); have l1 := blk_cell HB4.out.lb 0; have l2 := blk_cell HB4.out.ob 0; have l3 := frozen0 HB4.out.lb 0; have l4 := frozen0 HB4.out.ob 0; clear hb4; dsimp only))
          all_goals go_wp2_with fail
          all_goals
            have HN : docP s.data.toList = none := by
              rw [HD2.out]; simp
            have hfin := read_fin HB4.out (.slice A2 ms.length c2) false
            refine door_good (v := .slice A2 ms.length c2) (b := false) _ rfl rfl hfin.1 hfin.2.1 ?_
            unfold ReadPost
            rw [HN]
            exact ⟨⟨hfin.2.2.1.os, hfin.2.2.1.tape, hfin.2.2.1.output, hfin.2.2.1.size, hfin.2.2.1.block⟩, _, rfl⟩
        · have HCK2 : Hid (∀ v, RNod v (.slice A2 ms.length c2) ms → Calls Tryd.prog 21 #[.slice A2 ms.length c2] v fun e v' => e = .returned (.int .i64 0) ∧ Below v.heap.size v v') := HCK.out
          go_region_held3 (fun w' => w'.cell? ⟨w.heap.size + 1 + 1, 0, none⟩ = some (.string ⟨#[]⟩) ∧ w'.cell? ⟨w.heap.size + 1 + 1, 1, none⟩ = some (.slice A2 ms.length c2)) (go_keep) (first
            | (go_at_call 21; refine (HCK2.out _ HRN.out).mono ?_; rintro e w4 ⟨rfl, hb4⟩; have kk0 := cell_keep hb4 (show w3.drew.cell? _ = _ from k0); have kk1 := cell_keep hb4 (show w3.drew.cell? _ = _ from k1); have HB4 := Lib.hid (RRl.bad HR3.out ⟨hb4.os, hb4.tape, hb4.output, hb4.size, fun k hk _ => hb4.block k hk⟩); have HO4 := Lib.hid ((HO3.out.below (Below.refl _ _).drew).below hb4); have l1 := blk_cell HB4.out.lb 0; have l2 := blk_cell HB4.out.ob 0; have l3 := frozen0 HB4.out.lb 0; have l4 := frozen0 HB4.out.ob 0; clear hb4; dsimp only))
          all_goals go_wp2_with fail
          all_goals
            have HN : docP s.data.toList = some ms := by
              rw [HD2.out]; simp
            have hfin := read_fin HB4.out (.slice A2 ms.length c2) true
            refine door_good (v := .slice A2 ms.length c2) (b := true) _ rfl rfl hfin.1 hfin.2.1 ?_
            unfold ReadPost
            rw [HN]
            exact ⟨⟨hfin.2.2.1.os, hfin.2.2.1.tape, hfin.2.2.1.output, hfin.2.2.1.size, hfin.2.2.1.block⟩, _, rfl, hfin.2.2.2 ms HO4.out⟩
      | cons c3 r3 =>
        have HN : Hid (docP s.data.toList = none) := by
          show _ = _; rw [HD2.out]; exact if_neg (fun h => by cases h.1)
        refine wp_region_noPanic ?_
        first
          | go_region_with (fail)
          | skip
        all_goals refine NoPanic.normal ?_
        all_goals go_wp2_with fail
        all_goals
          have hfin := read_fin ⟨HR3.out.below, HR3.out.lb, HR3.out.ob⟩ (.slice A2 ms.length c2) false
          refine door_good (v := .slice A2 ms.length c2) (b := false) _ rfl rfl hfin.1 hfin.2.1 ?_
          unfold ReadPost
          rw [HN.out]
          exact ⟨⟨hfin.2.2.1.os, hfin.2.2.1.tape, hfin.2.2.1.output, hfin.2.2.1.size, hfin.2.2.1.block⟩, _, rfl⟩
/-- What the program's Parse answers. -/
theorem pParse_walk (s : ByteArray) (w : World) (m : Int) (hm : Mx w m) :
    Calls Tryd.prog 4 #[.string s] w (DocPost w s) := by
  by_cases hl : 4096 < s.size
  · have HL := Lib.hid hl
    go_enter Tryd.func4, Tryd.ntmps4
    go_wp2
    go_ret2
    unfold DocPost
    rw [if_pos HL.out]
    exact ⟨Below.refl _ _, rfl⟩
  · have HL := Lib.hid hl
    have HRW := Lib.hid (read_walk s w m (by omega) hm)
    go_enter Tryd.func4, Tryd.ntmps4
    go_wp2_with fail
    refine HRW.out.mono ?_
    rintro e w1 ⟨hb, hp⟩
    have HB := Lib.hid hb
    clear hb
    cases hd : docP s.data.toList with
    | none =>
      rw [hd] at hp
      obtain ⟨v, rfl⟩ := hp
      have HD := Lib.hid ((docP_eq s.data.toList).symm.trans hd)
      clear hd
      go_wp2_with fail
      go_ret2
      unfold DocPost
      rw [if_neg HL.out, HD.out]
      exact ⟨HB.out, rfl⟩
    | some ms =>
      rw [hd] at hp
      obtain ⟨v, rfl, hr⟩ := hp
      have HD := Lib.hid ((docP_eq s.data.toList).symm.trans hd)
      have HR := Lib.hid hr
      clear hd hr
      go_wp2_with fail
      go_ret2
      unfold DocPost
      rw [if_neg HL.out, HD.out]
      exact ⟨HB.out, _, rfl, HR.out⟩
end Go.Proofs.YtffcapkjfmkkaaaDoor
