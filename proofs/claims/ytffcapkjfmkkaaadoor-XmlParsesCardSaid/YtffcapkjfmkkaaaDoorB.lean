/- Lists of attributes and of elements in memory: how they read, and how they are owned. -/
import Derived.Test.YtffcapkjfmkkaaaDoorA5
import Derived.Laws.StructEq
namespace Go.Proofs.YtffcapkjfmkkaaaDoor
open Go.RowKit
theorem fieldsPar : Tryd.prog.underlying 43 = some (.struct (Tryd.prog.fieldsOf 43)) := by kernel_rfl
theorem stoodPar : Tryd.prog.stoodInHeld 43 = false := by kernel_rfl
theorem guardPar : Tryd.prog.eqGuardType Tryd.prog.depth 43 = false := by kernel_rfl
def parEq (a b : Par) : Bool := decide (a = b)
theorem neq_par (p q : Par) (w : World) : (binOp .neq 43 (.agg #[.string ⟨p.name.toArray⟩, .string ⟨p.value.toArray⟩, .bool p.has]) (.agg #[.string ⟨q.name.toArray⟩, .string ⟨q.value.toArray⟩, .bool q.has])).run Tryd.prog w = .ok (.bool (!parEq p q)) w := by
  rw [run_neq_struct, run_equalIn_struct w 9999 _ _ _ fieldsPar stoodPar]
  simp [Op.eqFields, go_sem]
  obtain ⟨a, b, c⟩ := p
  obtain ⟨a', b', c'⟩ := q
  simp only [parEq, Par.mk.injEq]
  by_cases h1 : a = a' <;> by_cases h2 : b = b' <;> by_cases h3 : c = c' <;> simp [h1, h2, h3]

theorem dr2 (w : World) (n m : Nat) : Dr w ((w.drewN n).drewN m) := ⟨_, World.drewN_drewN ..⟩

structure Nod where
  deep : Int
  name : Bs
  attrs : List Par
  text : Bs
  deriving DecidableEq

/-- A slice that reads as a list of attributes. -/
def RPar (w : World) (v : Value) (ps : List Par) : Prop :=
  ∃ A c, v = .slice A ps.length c ∧ ps.length ≤ c ∧ ps.length ≤ 9223372036854775807 ∧ ∀ j (h : j < ps.length), ∃ a, A = some a ∧
    w.cell? (a.add (j * 3)) = some (.string ⟨ps[j].name.toArray⟩) ∧
    w.cell? ⟨(a.add (j * 3)).block, (a.add (j * 3)).off + 1, none⟩ = some (.string ⟨ps[j].value.toArray⟩) ∧
    w.cell? ⟨(a.add (j * 3)).block, (a.add (j * 3)).off + 2, none⟩ = some (.bool ps[j].has) ∧ ps[j].name.length ≤ maxLen ∧ ps[j].value.length ≤ maxLen
/-- A slice that reads as a list of elements. -/
def RNod (w : World) (v : Value) (ns : List Nod) : Prop :=
  ∃ A c, v = .slice A ns.length c ∧ ns.length ≤ c ∧ ns.length ≤ 9223372036854775807 ∧ ∀ j (h : j < ns.length), ∃ a va, A = some a ∧
    w.cell? (a.add (j * 4)) = some (.int .i64 ns[j].deep) ∧
    w.cell? ⟨(a.add (j * 4)).block, (a.add (j * 4)).off + 1, none⟩ = some (.string ⟨ns[j].name.toArray⟩) ∧
    w.cell? ⟨(a.add (j * 4)).block, (a.add (j * 4)).off + 2, none⟩ = some va ∧ RPar w va ns[j].attrs ∧
    w.cell? ⟨(a.add (j * 4)).block, (a.add (j * 4)).off + 3, none⟩ = some (.string ⟨ns[j].text.toArray⟩) ∧ ns[j].name.length ≤ maxLen ∧ ns[j].text.length ≤ maxLen
theorem cell_keep {w w' : World} (hb : Below w.heap.size w w') {a : Addr} {v : Value} (h : w.cell? a = some v) : w'.cell? a = some v :=
  (hb.cell (World.block_lt_of_cell? w a h)).trans h
theorem RPar.keep {w w' : World} {v : Value} {ps : List Par} (h : RPar w v ps) (hb : Below w.heap.size w w') : RPar w' v ps := by
  obtain ⟨A, c, hv, hc, hm, hj⟩ := h
  refine ⟨A, c, hv, hc, hm, fun j h => ?_⟩
  obtain ⟨a, ha, h0, h1, h2, h3⟩ := hj j h
  exact ⟨a, ha, cell_keep hb h0, cell_keep hb h1, cell_keep hb h2, h3⟩
theorem RNod.keep {w w' : World} {v : Value} {ns : List Nod} (h : RNod w v ns) (hb : Below w.heap.size w w') : RNod w' v ns := by
  obtain ⟨A, c, hv, hc, hm, hj⟩ := h
  refine ⟨A, c, hv, hc, hm, fun j h => ?_⟩
  obtain ⟨a, va, ha, h0, h1, h2, h3, h4, h5⟩ := hj j h
  exact ⟨a, va, ha, cell_keep hb h0, cell_keep hb h1, cell_keep hb h2, h3.keep hb, cell_keep hb h4, h5⟩
theorem RPar.at_ {w : World} {A : Option Addr} {n c : Nat} {ps : List Par} (h : RPar w (.slice A n c) ps) (j : Nat) (hj : j < ps.length) : ∃ a, A = some a ∧
    w.cell? (a.add (j * 3)) = some (.string ⟨ps[j].name.toArray⟩) ∧
    w.cell? ⟨(a.add (j * 3)).block, (a.add (j * 3)).off + 1, none⟩ = some (.string ⟨ps[j].value.toArray⟩) ∧
    w.cell? ⟨(a.add (j * 3)).block, (a.add (j * 3)).off + 2, none⟩ = some (.bool ps[j].has) ∧ ps[j].name.length ≤ maxLen ∧ ps[j].value.length ≤ maxLen := by
  obtain ⟨A', c', hv, -, -, h⟩ := h
  cases hv; exact h j hj
theorem RNod.at_ {w : World} {A : Option Addr} {n c : Nat} {ns : List Nod} (h : RNod w (.slice A n c) ns) (j : Nat) (hj : j < ns.length) : ∃ a va, A = some a ∧
    w.cell? (a.add (j * 4)) = some (.int .i64 ns[j].deep) ∧
    w.cell? ⟨(a.add (j * 4)).block, (a.add (j * 4)).off + 1, none⟩ = some (.string ⟨ns[j].name.toArray⟩) ∧
    w.cell? ⟨(a.add (j * 4)).block, (a.add (j * 4)).off + 2, none⟩ = some va ∧ RPar w va ns[j].attrs ∧
    w.cell? ⟨(a.add (j * 4)).block, (a.add (j * 4)).off + 3, none⟩ = some (.string ⟨ns[j].text.toArray⟩) ∧ ns[j].name.length ≤ maxLen ∧ ns[j].text.length ≤ maxLen := by
  obtain ⟨A', c', hv, -, -, h⟩ := h
  cases hv; exact h j hj
def eqL (ps qs : List Par) (k : Nat) : Bool := (ps.take k == qs.take k)
set_option maxHeartbeats 1000000 in
/-- Lists: the same parameters? -/
theorem rLists_walk (u v : Value) (ps qs : List Par) (w : World) (hp : RPar w u ps) (hq : RPar w v qs) :
    Calls Tryd.prog 14 #[u, v] w fun e w' => e = .returned (.bool (decide (ps = qs))) ∧ Dr w w' := by
  obtain ⟨A, c, rfl, -, hmp, hp⟩ := hp
  obtain ⟨B, d, rfl, -, hmq, hq⟩ := hq
  by_cases hl : ps.length = qs.length
  · have HL := Lib.hid hl
    have hl0 : ((ps.length : Int) != (qs.length : Int)) = false := by simp; omega
    have hll : ps.length ≤ qs.length ∧ qs.length ≤ ps.length := by omega
    clear hl
    go_enter Tryd.func14, Tryd.ntmps14
    go_wp2
    go_loopw [5] (fun i wr => ∃ k : Nat, k ≤ ps.length ∧ i = .int .i64 k ∧ ps.take k = qs.take k ∧ Dr w wr) (fun i _ => ps.length - (intOf i).toNat)
    case atStart => exact ⟨0, by omega, rfl, rfl, Dr.refl w⟩
    case round =>
      obtain ⟨k, hk, rfl, ht, n, rfl⟩ := hrel
      have HT := Lib.hid ht
      clear ht
      by_cases hlt : k < ps.length
      · obtain ⟨a, rfl, a0, a1, a2, -⟩ := hp k hlt
        have hltq : k < qs.length := by omega
        obtain ⟨b, rfl, b0, b1, b2, -⟩ := hq k hltq
        have hn := neq_par ps[k] qs[k]
        have HS : Hid (ps.take (k + 1) = ps.take k ++ [ps[k]] ∧ qs.take (k + 1) = qs.take k ++ [qs[k]]) :=
          ⟨List.take_succ_eq_append_getElem hlt, List.take_succ_eq_append_getElem hltq⟩
        by_cases he : parEq ps[k] qs[k] = true
        · have HE := Lib.hid he
          go_wp2
          go_quiet (fail)
          go_wp2
          refine ⟨⟨k + 1, by omega, by go_num, ?_, ⟨_, rfl⟩⟩, by simp [intOf]; omega⟩
          rw [HS.out.1, HS.out.2, HT.out, show ps[k] = qs[k] from by simpa [parEq] using HE.out]
        · have he : parEq ps[k] qs[k] = false := by simpa using he
          have HE := Lib.hid he
          go_wp2
          go_quiet (fail)
          go_wp2
          go_ret
          refine ⟨ret_bool ?_, dr2 ..⟩
          symm; rw [decide_eq_false_iff_not]
          intro e; subst e
          have := HE.out
          simp [parEq] at this
      · obtain rfl : k = ps.length := by omega
        go_wp2
        go_ret
        refine ⟨ret_bool ?_, ⟨n, rfl⟩⟩
        have h1 := HT.out
        rw [List.take_of_length_le (Nat.le_refl _), List.take_of_length_le (by omega)] at h1
        simp [h1]
  · have hl0 : ((ps.length : Int) != (qs.length : Int)) = true := by simp; omega
    have HN : Hid (¬ ps = qs) := fun e => hl (by rw [e])
    go_enter Tryd.func14, Tryd.ntmps14
    go_wp2
    go_ret
    exact ⟨ret_bool (by simp [HN.out]), Dr.refl w⟩

/-- The same elements? -/
def nodEq (a b : Nod) : Bool := decide (a = b)
set_option maxHeartbeats 4000000 in
/-- Same: the same elements? -/
theorem rSame_walk (u v : Value) (ps qs : List Nod) (w : World) (hp : RNod w u ps) (hq : RNod w v qs) :
    Calls Tryd.prog 6 #[u, v] w fun e w' => e = .returned (.bool (decide (ps = qs))) ∧ Dr w w' := by
  have hp0 := hp
  have hq0 := hq
  obtain ⟨A, c, rfl, -, hmp, -⟩ := hp
  obtain ⟨B, d, rfl, -, hmq, -⟩ := hq
  by_cases hl : ps.length = qs.length
  · have HL := Lib.hid hl
    have hl0 : ((ps.length : Int) != (qs.length : Int)) = false := by simp; omega
    have hll : ps.length ≤ qs.length ∧ qs.length ≤ ps.length := by omega
    clear hl
    go_enter Tryd.func6, Tryd.ntmps6
    go_wp2
    go_loopw [5] (fun i wr => ∃ k : Nat, k ≤ ps.length ∧ i = .int .i64 k ∧ ps.take k = qs.take k ∧ Dr w wr) (fun i _ => ps.length - (intOf i).toNat)
    case atStart => exact ⟨0, by omega, rfl, rfl, Dr.refl w⟩
    case round =>
      obtain ⟨k, hk, rfl, ht, hd⟩ := hrel
      have HT := Lib.hid ht
      clear ht
      by_cases hlt : k < ps.length
      · obtain ⟨a, va, rfl, a0, a1, a2, a3, a4, -⟩ := (hp0.keep hd.below0).at_ k hlt
        have hltq : k < qs.length := by omega
        obtain ⟨b, vb, rfl, b0, b1, b2, b3, b4, -⟩ := (hq0.keep hd.below0).at_ k hltq
        have HS : Hid (ps.take (k + 1) = ps.take k ++ [ps[k]] ∧ qs.take (k + 1) = qs.take k ++ [qs[k]]) :=
          ⟨List.take_succ_eq_append_getElem hlt, List.take_succ_eq_append_getElem hltq⟩
        by_cases h1 : ps[k].deep = qs[k].deep
        · have e1 : (ps[k].deep != qs[k].deep) = false := by simp [h1]
          by_cases h2 : ps[k].name = qs[k].name
          · have e2 : (ps[k].name == qs[k].name) = true := by simp [h2]
            by_cases h4 : ps[k].text = qs[k].text
            · have e4 : (ps[k].text == qs[k].text) = true := by simp [h4]
              by_cases h3 : ps[k].attrs = qs[k].attrs
              · have HE : Hid (ps[k] = qs[k]) := by
                  show _ = _
                  cases hx : ps[k]; cases hy : qs[k]; simp only [hx, hy] at h1 h2 h3 h4; subst h1 h2 h3 h4; rfl
                have hc3 : ∀ w', Calls Tryd.prog 14 #[va, vb] (wr.drewN w') fun e w'' => e = .returned (.bool true) ∧ Dr (wr.drewN w') w'' := fun w' => by
                  have := rLists_walk va vb ps[k].attrs qs[k].attrs (wr.drewN w') (a3.keep (Dr.below0 ⟨w', rfl⟩)) (b3.keep (Dr.below0 ⟨w', rfl⟩))
                  rwa [show decide (ps[k].attrs = qs[k].attrs) = true from by simp [h3]] at this
                have HC := Lib.hid hc3
                clear h1 h2 h3 h4 hc3
                go_wp2
                go_quiet ((go_at_call 14; exact Calls.quiet_of (HC.out _)))
                go_wp2
                refine ⟨⟨k + 1, by omega, by go_num, ?_, hd.drewN _⟩, by simp [intOf]; omega⟩
                rw [HS.out.1, HS.out.2, HT.out, HE.out]
              · have hc3 : ∀ w', Calls Tryd.prog 14 #[va, vb] (wr.drewN w') fun e w'' => e = .returned (.bool false) ∧ Dr (wr.drewN w') w'' := fun w' => by
                  have := rLists_walk va vb ps[k].attrs qs[k].attrs (wr.drewN w') (a3.keep (Dr.below0 ⟨w', rfl⟩)) (b3.keep (Dr.below0 ⟨w', rfl⟩))
                  rwa [show decide (ps[k].attrs = qs[k].attrs) = false from by simp [h3]] at this
                have HC := Lib.hid hc3
                clear h1 h2 h4 hc3
                have HE := Lib.hid h3
                clear h3
                go_wp2
                go_quiet ((go_at_call 14; exact Calls.quiet_of (HC.out _)))
                go_wp2
                go_ret
                refine ⟨ret_bool ?_, hd.drewN _⟩
                symm; rw [decide_eq_false_iff_not]
                intro e; subst e
                exact HE.out rfl
            · have e4 : (ps[k].text == qs[k].text) = false := by simp [h4]
              clear h1 h2
              have HE := Lib.hid h4
              clear h4
              go_wp2
              go_quiet (fail)
              go_wp2
              go_ret
              refine ⟨ret_bool ?_, hd.drewN _⟩
              symm; rw [decide_eq_false_iff_not]
              intro e; subst e
              exact HE.out rfl
          · have e2 : (ps[k].name == qs[k].name) = false := by simp [h2]
            clear h1
            have HE := Lib.hid h2
            clear h2
            go_wp2
            go_quiet (fail)
            go_wp2
            go_ret
            refine ⟨ret_bool ?_, hd.drewN _⟩
            symm; rw [decide_eq_false_iff_not]
            intro e; subst e
            exact HE.out rfl
        · have e1 : (ps[k].deep != qs[k].deep) = true := by simp [h1]
          have HE := Lib.hid h1
          clear h1
          go_wp2
          go_quiet (fail)
          go_wp2
          go_ret
          refine ⟨ret_bool ?_, hd.drewN _⟩
          symm; rw [decide_eq_false_iff_not]
          intro e; subst e
          exact HE.out rfl
      · obtain rfl : k = ps.length := by omega
        go_wp2
        go_ret
        refine ⟨ret_bool ?_, hd⟩
        have h1 := HT.out
        rw [List.take_of_length_le (Nat.le_refl _), List.take_of_length_le (by omega)] at h1
        simp [h1]
  · have hl0 : ((ps.length : Int) != (qs.length : Int)) = true := by simp; omega
    have HN : Hid (¬ ps = qs) := fun e => hl (by rw [e])
    go_enter Tryd.func6, Tryd.ntmps6
    go_wp2
    go_ret
    exact ⟨ret_bool (by simp [HN.out]), Dr.refl w⟩
end Go.Proofs.YtffcapkjfmkkaaaDoor
