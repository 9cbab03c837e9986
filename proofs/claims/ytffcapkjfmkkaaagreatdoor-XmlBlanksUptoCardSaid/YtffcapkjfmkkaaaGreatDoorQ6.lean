/- Lemmas for the statements of this seat, part 6: contracts of functions of the program and of the references, and plain facts on lists of bytes. -/
import Derived.Test.YtffcapkjfmkkaaaGreatDoorQ5
import Derived.Deep.WholeRow
import Derived.Laws.IdiomStrings
import Derived.Lib.ConvBytes
import Derived.Test.YtffcapkjfmkkaaaGreatDoorQ2
import Derived.Laws.CopyOwn
import Derived.Lib.BufferWrite
namespace Go.Proofs.YtffcapkjfmkkaaaGreatDoor
open Go.RowKit
theorem infoStr : (Tryz.prog.info? 9).map (fun i => (i.zero, i.size, i.bytes)) = some (some (.string ⟨#[]⟩), 1, 16) := by kernel_rfl
/-- The eight texts that escape hands to NewReplacer. -/
def oldB : Nat → Bs
  | 0 => [38] | 1 => [38, 97, 109, 112, 59] | 2 => [60] | 3 => [38, 108, 116, 59] | 4 => [62] | 5 => [38, 103, 116, 59] | 6 => [34] | _ => [38, 113, 117, 111, 116, 59]
def oldV (j : Nat) : Value := .string ⟨(oldB j).toArray⟩
/-- The replacer's block, not yet built; its list of texts. -/
structure RNew (w : World) (b ob cap : Nat) : Prop where
  r : w.cell? ⟨b, 4, none⟩ = some (.slice (some ⟨ob, 0, none⟩) 8 cap)
  o : ∀ j, j < 8 → w.cell? ⟨ob, j, none⟩ = some (oldV j)
/-- The table's cells, its list of texts being v. -/
noncomputable def tab0 (v : Value) : Array Value := (Tryz.zeroCells134.toList.set 256 v).toArray
theorem zcAll : Tryz.zeroCells134.all (·.oneCell') = true := by kernel_rfl
theorem tabSize : (Tryz.prog.info? 134).map (·.size) = some 257 := by kernel_rfl
theorem tab0_size (v : Value) : (tab0 v).size = 257 := by
  unfold tab0
  have : Tryz.zeroCells134.toList.length = 257 := by
    rw [Array.length_toList]; exact Tryz.zeroCells134_size
  simp only [List.size_toArray, List.length_set, this]
theorem tab0_one (v : Value) (h : v.oneCell' = true) : (tab0 v).all (·.oneCell') = true := by
  have h0 := zcAll
  rw [Array.all_eq_true'] at h0 ⊢
  intro x hx
  unfold tab0 at hx
  rw [List.mem_toArray] at hx
  rcases List.mem_or_eq_of_mem_set hx with hx | rfl
  · exact h0 x (by simpa using hx)
  · exact h
theorem store_tab (w0 : World) (v : Value) (h : v.oneCell' = true) :
    (storeCells ⟨w0.heap.size, 0, none⟩ (Tryz.zeroCells134.toList.set 256 v)).run Tryz.prog (w0.alloc (.cells Tryz.zeroCells134 134)) = .ok () (w0.alloc (.cells (tab0 v) 134)) := by
  have := run_storeCells_new (P := Tryz.prog) w0 134 Tryz.zeroCells134 (tab0 v) (by rw [tab0_size]; exact tabSize) (by rw [tab0_size]; exact Tryz.zeroCells134_size) (tab0_one v h)
  rw [show (tab0 v).toList = Tryz.zeroCells134.toList.set 256 v from rfl] at this
  exact this
theorem zcNil : Tryz.zeroCells134.toList.take 256 = List.replicate 256 (.slice none 0 0) := by kernel_rfl
theorem tab0_nil (v : Value) (c : Nat) (h : c < 256) : (tab0 v)[c]? = some (.slice none 0 0) := by
  have h1 : (Tryz.zeroCells134.toList.take 256)[c]? = some (.slice none 0 0) := by
    rw [zcNil, List.getElem?_replicate, if_pos h]
  rw [List.getElem?_take, if_pos h] at h1
  unfold tab0
  rw [List.getElem?_toArray, List.getElem?_set_ne (by omega)]; exact h1
theorem tab0_last (v : Value) : (tab0 v)[256]? = some v := by
  have hs : 256 < Tryz.zeroCells134.toList.length := by
    rw [Array.length_toList, Tryz.zeroCells134_size]; decide
  unfold tab0
  rw [List.getElem?_toArray, List.getElem?_set_self hs]
theorem eq_nil (w : World) : (binOp .eql 51 (.slice none 0 0) (.slice none 0 0)).run Tryz.prog w = .ok (.bool true) w := by kernel_rfl
/-- The sign that is replaced; what stands for it. -/
def chr : Nat → UInt8
  | 0 => 38 | 1 => 60 | 2 => 62 | _ => 34
theorem old_chr (j : Nat) (h : j < 4) : oldB (2 * j) = [chr j] := by
  match j, h with
  | 0, _ => rfl
  | 1, _ => rfl
  | 2, _ => rfl
  | 3, _ => rfl
theorem old_esc (j : Nat) (h : j < 4) : oldB (2 * j + 1) = esc1 (chr j) := by
  match j, h with
  | 0, _ => rfl
  | 1, _ => rfl
  | 2, _ => rfl
  | 3, _ => rfl
/-- A row of bytes at a new block. -/
def Row (w0 w : World) (v : Value) (l : Bs) : Prop := ∃ g cap cs fr, v = .slice (some ⟨g, 0, none⟩) l.length cap ∧ w0.heap.size ≤ g ∧ w.heap[g]? = some (.cells cs 5 fr) ∧ cs.toList.take l.length = Lib.byteCells l
/-- The table, the last 4 - k signs being in it. -/
structure Tb (w wr : World) (tb k : Nat) : Prop where
  below : Below w.heap.size w wr
  ge : w.heap.size ≤ tb
  cs : ∃ cs : Array Value, wr.heap[tb]? = some (.cells cs 134 (0, 0)) ∧ cs.size = 257 ∧
    (∀ j, k ≤ j → j < 4 → ∃ v, cs[(chr j).toNat]? = some v ∧ Row w wr v (esc1 (chr j))) ∧
    (∀ c : UInt8, (∀ j, k ≤ j → j < 4 → c ≠ chr j) → cs[c.toNat]? = some (.slice none 0 0)) ∧
    ∃ v, cs[256]? = some v ∧ wr.ownsRow w.heap.size 9 1 v (4 - k) (((List.range (4 - k)).map fun i => .string ⟨#[chr (3 - i)]⟩))
theorem Row.keep {w0 w w' : World} {v : Value} {l : Bs} (h : Row w0 w v l) (hk : ∀ g cs fr, w0.heap.size ≤ g → w.heap[g]? = some (.cells cs 5 fr) → w'.heap[g]? = w.heap[g]?) : Row w0 w' v l := by
  obtain ⟨g, cap, cs, fr, h1, h2, h3, h4⟩ := h
  exact ⟨g, cap, cs, fr, h1, h2, by rw [hk g cs fr h2 h3]; exact h3, h4⟩
theorem Row.new (w0 w : World) (l : Bs) (cap : Nat) (h : w0.heap.size ≤ w.heap.size) : Row w0 (Lib.bytesWorld w 5 ⟨l.toArray⟩) (.slice (some ⟨w.heap.size, 0, none⟩) l.length cap) l :=
  ⟨_, _, _, _, rfl, h, Lib.bytesWorld_at_new _ _ _, by
    rw [Lib.bytesCells, Array.toList_append, List.take_append_of_le_length (by simp)]
    rw [List.take_of_length_le (by simp)]
    simp [Lib.byteCells]⟩
theorem chr_inj : ∀ j, j < 4 → ∀ i, i < 4 → chr j = chr i → j = i := by decide
theorem tb_next {w wr w7 : World} {tb j g7 cap7 : Nat} {cs : Array Value} {v : Value} {oA oB : Obj} {c : UInt8} (hj : j < 4) (hc : c = chr j)
    (hbel : Below w.heap.size w wr) (hge : w.heap.size ≤ tb) (hheap : wr.heap[tb]? = some (.cells cs 134 (0, 0))) (hsz : cs.size = 257)
    (hin : ∀ i, j + 1 ≤ i → i < 4 → ∃ v, cs[(chr i).toNat]? = some v ∧ Row w wr v (esc1 (chr i)))
    (hout : ∀ c : UInt8, (∀ i, j + 1 ≤ i → i < 4 → c ≠ chr i) → cs[c.toNat]? = some (.slice none 0 0))
    (hown : wr.ownsRow w.heap.size 9 1 v (4 - (j + 1)) (((List.range (4 - (j + 1))).map fun i => .string ⟨#[chr (3 - i)]⟩)))
    (hgrow : ((wr.alloc oA).alloc oB).grownBy w7 v.ownBlock)
    (hown7 : w7.ownsRow w.heap.size 9 1 (.slice (some ⟨g7, 0, none⟩) (3 - j + 1) cap7) (3 - j + 1) (((List.range (3 - j)).map fun i => .string ⟨#[chr (3 - i)]⟩) ++ [.string ⟨#[c]⟩]))
    (hb7 : w7.heap[tb]? = some (.cells cs 134 (0, 0))) (cap : Nat) :
    Tb w ((Lib.bytesWorld (w7.setCell ⟨tb, 256, none⟩ (.slice (some ⟨g7, 0, none⟩) (3 - j + 1) cap7)) 5 ⟨(esc1 (chr j)).toArray⟩).setCell ⟨tb, c.toNat, none⟩ (.slice (some ⟨w7.heap.size, 0, none⟩) (esc1 (chr j)).length cap)) tb j := by
  subst hc
  have htb7 : tb < w7.heap.size := (Array.getElem?_eq_some_iff.1 hb7).1
  have hb7' : Below w.heap.size w w7 := by
    refine ((hbel.alloc hbel.size oA).alloc (Nat.le_trans hbel.size (by simp)) oB).grown hgrow (Nat.le_trans hbel.size (by simp; omega)) ?_
    exact fun k hk => (hown.lt k hk).1
  have h8 := setCell_same hb7 256 (.slice (some ⟨g7, 0, none⟩) (3 - j + 1) cap7)
  have hs8 : (w7.setCell ⟨tb, 256, none⟩ (.slice (some ⟨g7, 0, none⟩) (3 - j + 1) cap7)).heap.size = w7.heap.size := setCell_size ..
  have hB8 : Below w.heap.size w (w7.setCell ⟨tb, 256, none⟩ (.slice (some ⟨g7, 0, none⟩) (3 - j + 1) cap7)) := hb7'.setCell (p := ⟨tb, 256, none⟩) hge _
  have hother8 : ∀ k, k ≠ tb → (w7.setCell ⟨tb, 256, none⟩ (.slice (some ⟨g7, 0, none⟩) (3 - j + 1) cap7)).heap[k]? = w7.heap[k]? := fun k hk => Below.heap_setCell _ _ _ _ hk
  have hown8 : (w7.setCell ⟨tb, 256, none⟩ (.slice (some ⟨g7, 0, none⟩) (3 - j + 1) cap7)).ownsRow w.heap.size 9 1 (.slice (some ⟨g7, 0, none⟩) (3 - j + 1) cap7) (3 - j + 1) (((List.range (3 - j)).map fun i => .string ⟨#[chr (3 - i)]⟩) ++ [.string ⟨#[chr j]⟩]) := by
    refine hown7.kept (setCell_grown _ _ _ _) (.inr fun e => ?_)
    obtain ⟨cs', h'⟩ := own_at hown7 e
    rw [hb7] at h'; injection h' with h'; injection h' with _ ht; revert ht; decide
  generalize hw8 : (w7.setCell ⟨tb, 256, none⟩ (.slice (some ⟨g7, 0, none⟩) (3 - j + 1) cap7)) = w8 at *
  have htb8 : tb < w8.heap.size := by omega
  have h9 := Lib.bytesWorld_at_old w8 5 ⟨(esc1 (chr j)).toArray⟩ tb htb8
  rw [h8] at h9
  have hB9 : Below w8.heap.size w8 (Lib.bytesWorld w8 5 ⟨(esc1 (chr j)).toArray⟩) :=
    ⟨rfl, rfl, rfl, by rw [Lib.bytesWorld_size]; omega, fun k hk => Lib.bytesWorld_at_old _ _ _ _ hk⟩
  have hB9' : Below w.heap.size w (Lib.bytesWorld w8 5 ⟨(esc1 (chr j)).toArray⟩) := hB8.trans (hB9.mono hB8.size)
  have hrow := Row.new w w8 (esc1 (chr j)) cap hB8.size
  rw [hs8] at hrow
  have hown9 := hown8.kept (below_grown hB9) (Classical.em _)
  generalize hw9 : Lib.bytesWorld w8 5 ⟨(esc1 (chr j)).toArray⟩ = w9 at *
  have h10 := setCell_same h9 (chr j).toNat (.slice (some ⟨w7.heap.size, 0, none⟩) (esc1 (chr j)).length cap)
  have ho10 : ∀ k, k ≠ tb → (w9.setCell ⟨tb, (chr j).toNat, none⟩ (.slice (some ⟨w7.heap.size, 0, none⟩) (esc1 (chr j)).length cap)).heap[k]? = w9.heap[k]? := fun k hk => Below.heap_setCell _ _ _ _ hk
  have hlt := (chr j).toNat_lt
  refine ⟨hB9'.setCell (p := ⟨tb, (chr j).toNat, none⟩) hge _, hge, _, h10, by simpa using hsz, ?_, ?_, ?_⟩
  · intro i h1 h2
    rcases Nat.lt_or_ge j i with h | h
    · obtain ⟨v', g1, g2⟩ := hin i h h2
      have hne : chr i ≠ chr j := fun e => by have := chr_inj i h2 j hj e; omega
      have hne' : (chr j).toNat ≠ (chr i).toNat := fun e => hne (UInt8.toNat_inj.1 e.symm)
      refine ⟨v', ?_, ?_⟩
      · rw [Array.getElem?_setIfInBounds_ne hne', Array.getElem?_setIfInBounds_ne (by have := (chr i).toNat_lt; omega)]; exact g1
      · refine g2.keep fun g cs' fr hg hh => ?_
        have n1 : g ≠ tb := fun e => by
          subst e; rw [hheap] at hh; injection hh with hh; injection hh with _ ht; revert ht; decide
        have n2 : some g ≠ v.ownBlock := fun e => by
          obtain ⟨cs'', h'⟩ := own_at hown e.symm
          rw [hh] at h'; injection h' with h'; injection h' with _ ht; revert ht; decide
        have hgl : g < wr.heap.size := (Array.getElem?_eq_some_iff.1 hh).1
        have hg8 : g < w8.heap.size := by have := hgrow.size; simp at this; omega
        rw [ho10 g n1, hB9.block g hg8, hother8 g n1, hgrow.block g (by simp; omega) n2, Below.heap_alloc _ _ _ (by simp; omega), Below.heap_alloc _ _ _ hgl]
    · have : i = j := by omega
      subst this
      refine ⟨.slice (some ⟨w7.heap.size, 0, none⟩) (esc1 (chr i)).length cap, ?_, ?_⟩
      · rw [Array.getElem?_setIfInBounds_self_of_lt (by simp; omega)]
      · refine hrow.keep fun g cs' fr hg hh => ho10 g fun e => ?_
        subst e; rw [h9] at hh; injection hh with hh; injection hh with _ ht; revert ht; decide
  · intro c hc
    have hne : c ≠ chr j := hc j (Nat.le_refl _) hj
    have hne' : (chr j).toNat ≠ c.toNat := fun e => hne (UInt8.toNat_inj.1 e.symm)
    rw [Array.getElem?_setIfInBounds_ne hne', Array.getElem?_setIfInBounds_ne (by have := c.toNat_lt; omega)]
    exact hout c fun i h1 h2 => hc i (by omega) h2
  · refine ⟨.slice (some ⟨g7, 0, none⟩) (3 - j + 1) cap7, ?_, ?_⟩
    · rw [Array.getElem?_setIfInBounds_ne (by omega), Array.getElem?_setIfInBounds_self_of_lt (by omega)]
    · have e1 : 4 - j = 3 - j + 1 := by omega
      have e2 : 3 - (3 - j) = j := by omega
      rw [e1, List.range_succ, List.map_append, List.map_cons, List.map_nil, e2]
      refine hown9.kept (setCell_grown _ _ _ _) (.inr fun e => ?_)
      obtain ⟨cs', h'⟩ := own_at hown9 e
      rw [h9] at h'; injection h' with h'; injection h' with _ ht; revert ht; decide
set_option maxRecDepth 100000 in
set_option maxHeartbeats 8000000 in
theorem build_walk (b ob cap : Nat) (w : World) (h : RNew w b ob cap) :
    Calls Tryz.prog 72 #[.pointer (some ⟨b, 0, none⟩)] w fun e w' => ∃ tb, e = .returned (.iface 135 (.pointer (some ⟨tb, 0, none⟩))) ∧ Tb w w' tb 0 := by
  have c4 := h.r
  have HO := Lib.hid h.o
  go_enter Tryz.func72, Tryz.ntmps72
  go_upto_block 0 with (fail)
  go_cut [4, 5] (fun a _ wr => a = .bool false ∧ wr = w)
  case first =>
    go_wp2_with fail
    go_loopw [4, 5] (fun a i wr => ∃ k : Nat, k ≤ 4 ∧ i = .int .i64 (2 * k : Nat) ∧ a = .bool (decide (k = 0)) ∧ wr = w) (fun _ i _ => 8 - (intOf i).toNat)
    case atStart => exact ⟨0, by omega, rfl, rfl, rfl⟩
    case round =>
      obtain ⟨k, hk, rfl, rfl, rfl⟩ := hrel
      have hk5 : k = 0 ∨ k = 1 ∨ k = 2 ∨ k = 3 ∨ k = 4 := by omega
      rcases hk5 with rfl | rfl | rfl | rfl | rfl
      · have a0 := HO.out 0 (by omega)
        have a1 := HO.out 1 (by omega)
        simp only [oldV, oldB] at a0 a1
        go_wp2_with fail
        exact ⟨⟨1, by omega, rfl, rfl, trivial⟩, by decide⟩
      · have a0 := HO.out 2 (by omega)
        have a1 := HO.out 3 (by omega)
        simp only [oldV, oldB] at a0 a1
        go_wp2_with fail
        exact ⟨⟨2, by omega, rfl, rfl, trivial⟩, by decide⟩
      · have a0 := HO.out 4 (by omega)
        have a1 := HO.out 5 (by omega)
        simp only [oldV, oldB] at a0 a1
        go_wp2_with fail
        exact ⟨⟨3, by omega, rfl, rfl, trivial⟩, by decide⟩
      · have a0 := HO.out 6 (by omega)
        have a1 := HO.out 7 (by omega)
        simp only [oldV, oldB] at a0 a1
        go_wp2_with fail
        exact ⟨⟨4, by omega, rfl, rfl, trivial⟩, by decide⟩
      · go_wp2_with fail
        go_meet
        exact ⟨rfl, rfl⟩
  case rest =>
    obtain ⟨rfl, rfl⟩ := hcut
    obtain ⟨iS, hiS, hzS0, hzS1, hzS2⟩ := info_parts infoStr
    go_upto_block 6 with (at_make; refine wpList_make_own _ rfl _ _ 38 rfl wc.heap.size 9 iS (.string ⟨#[]⟩) 1 Tryz.underlying38 hiS hzS0 hzS1 .i64 .i64 _ 4 rfl rfl (by rfl) (by rw [hzS2]; decide) (by decide) (Nat.le_refl _) ?_; intro w0 hown0 hgrow0; have hst := store_tab w0 (.slice (some ⟨wc.heap.size, 0, none⟩) 0 4) rfl)
    have htb : Tb wc (w0.alloc (.cells (tab0 (.slice (some ⟨wc.heap.size, 0, none⟩) 0 4)) 134)) w0.heap.size 4 := by
      have hb0 : Below wc.heap.size wc w0 := grown_none hgrow0
      refine ⟨hb0.alloc hb0.size _, hb0.size, tab0 _, heap_alloc_new w0 _, tab0_size _, fun j h1 h2 => by omega, fun c _ => tab0_nil _ _ (by have := c.toNat_lt; omega), _, tab0_last _, ?_⟩
      exact hown0.alloc _
    have HTB := Lib.hid htb
    have hw0 := hgrow0.size
    clear hst hown0 hgrow0 htb
    generalize w0.alloc (.cells (tab0 (.slice (some ⟨wc.heap.size, 0, none⟩) 0 4)) 134) = w1 at *
    generalize w0.heap.size = tb at *
    go_cut [12] (fun _ wr => Tb wc wr tb 0)
    case first =>
      go_wp2_with fail
      go_loopw [12, 13, 14] (fun i _ _ wr => ∃ k : Nat, k ≤ 4 ∧ i = .int .i64 (2 * k - 2 : Int) ∧ Tb wc wr tb k) (fun i _ _ _ => (intOf i + 2).toNat)
      case atStart => exact ⟨4, by omega, rfl, HTB.out⟩
      case round =>
        obtain ⟨k, hk, rfl, ht⟩ := hrel
        have HT := Lib.hid ht
        clear ht
        by_cases hk0 : k = 0
        · subst hk0
          go_wp2_with fail
          go_meet
          exact HT.out
        · obtain ⟨j, rfl⟩ : ∃ j, k = j + 1 := ⟨k - 1, by omega⟩
          have hj4 : j < 4 := by omega
          have o1 := cell_keep HT.out.below (HO.out (2 * j) (by omega))
          have o2 := cell_keep HT.out.below (HO.out (2 * j + 1) (by omega))
          unfold oldV at o1 o2
          rw [old_chr j hj4] at o1
          rw [old_esc j hj4] at o2
          obtain ⟨sb, hsb, hs1, hs0⟩ : ∃ (sb : ByteArray), (⟨[chr j].toArray⟩ : ByteArray) = sb ∧ sb.size = 1 ∧ ∀ h : 0 < sb.size, sb[0] = chr j := ⟨_, rfl, rfl, fun _ => rfl⟩
          rw [hsb] at o1
          have hs1' : 0 < sb.size := by omega
          have e2j : (2 * ((j + 1 : Nat) : Int) - 2) = ((2 * j : Nat) : Int) := by omega
          have hlt8 : 2 * j < 8 := by omega
          have hlt9 : 2 * j + 1 < 8 := by omega
          have hcs := HT.out.cs
          have hck : ∀ i, j + 1 ≤ i → i < 4 → chr j ≠ chr i := by
            have : ∀ j, j < 4 → ∀ i, i < 4 → j + 1 ≤ i → chr j ≠ chr i := by decide
            exact fun i h1 h2 => this j hj4 i h2 h1
          obtain ⟨cs, hheap, hsz, hin, hout, v, hv, hown⟩ := hcs
          have hnil := hout (chr j) hck
          have t1 : wr.cell? ⟨tb, sb[0].toNat, none⟩ = some (.slice none 0 0) := by rw [blk_cell hheap, hs0 hs1']; exact hnil
          have tz1 := frozen0 hheap sb[0].toNat
          have tz2 := frozen0 hheap 256
          have hcb : (sb[0].toNat : Int) < 256 := by have := sb[0].toNat_lt; omega
          have HS0 := Lib.hid (hs0 hs1')
          have t2 : wr.cell? ⟨tb, 256, none⟩ = some v := by rw [blk_cell hheap]; exact hv
          have hc256 : (chr j).toNat < 256 := by have := (chr j).toNat_lt; omega
          have HIN := Lib.hid hin
          have HOUT := Lib.hid hout
          have HOWN := Lib.hid hown
          have HHEAP := Lib.hid hheap
          have HSZ := Lib.hid hsz
          clear hck hnil hv hin hout hown hheap hsz hs0 hsb
          rw [e2j]
          have hen := eq_nil
          have hcv : (convert 51 9 (.slice (some ⟨wr.heap.size, 0, none⟩) 1 1)).run Tryz.prog (wr.alloc (.cells #[.int .u8 sb[0].toNat] 5)) = .ok (.string ⟨#[sb[0]]⟩) (wr.alloc (.cells #[.int .u8 sb[0].toNat] 5)) :=
            run_convert_bytes_back (wr.alloc (.cells #[.int .u8 sb[0].toNat] 5)) 51 9 5 ⟨wr.heap.size, 0, none⟩ 1 [sb[0]] Tryz.underlying51 Tryz.underlying5 Tryz.underlying9 (fun i hi => by
              have : i = 0 := by simpa using hi
              subst this
              rw [addr_add, blk_cell (heap_alloc_new wr _)]; rfl)
          go_wp2_with (at_builtin; refine wpList_append_lies _ rfl _ _ 38 rfl wc.heap.size 9 iS _ 1 16 Tryz.underlying38 hiS hzS0 hzS1 hzS2 rfl (by decide) v (4 - (j + 1)) _ rfl ((HOWN.out.alloc _).alloc _) ⟨wr.heap.size + 1, 0, none⟩ 1 1 [.string ⟨#[sb[0]]⟩] rfl rfl ?c1 ?c2 (by decide) ?c3 ?c4 ?c5 _ rfl ?_)
          case c1 => exact fun i u hi => World.news_of_block (heap_alloc2_new wr _ _) i u hi
          case c2 => intro u hu; simp at hu; subst hu; rfl
          case c3 => unfold maxLen; omega
          case c4 => omega
          case c5 => have := HT.out.below.size; simp; omega
          intro g7 cap7 w7 hown7 hgrow7 hat7 hlt7
          have htb2 := (Array.getElem?_eq_some_iff.1 HHEAP.out).1
          have hvne : v.ownBlock ≠ some tb := fun e => by
            obtain ⟨cs', hc⟩ := own_at HOWN.out e
            rw [HHEAP.out] at hc; injection hc with hc; injection hc with _ ht; revert ht; decide
          have hb7 : w7.heap[tb]? = some (.cells cs 134 (0, 0)) := by
            rw [hgrow7.block tb (by simp; omega) (fun e => hvne e.symm), Below.heap_alloc _ _ _ (by simp; omega), Below.heap_alloc _ _ _ htb2]; exact HHEAP.out
          have hb8 := setCell_same hb7 256 (.slice (some ⟨g7, 0, none⟩) (3 - j + 1) cap7)
          have q1 := blk_cell hb7 256
          have q2 := frozen0 hb7 256
          rw [show cs[256]? = some v from by rw [← blk_cell HHEAP.out 256]; exact t2] at q1
          have hcv2 := Lib.run_convert_string_bytes (P := Tryz.prog) (w7.setCell ⟨tb, 256, none⟩ (.slice (some ⟨g7, 0, none⟩) (3 - j + 1) cap7)) 9 51 5 ⟨(esc1 (chr j)).toArray⟩ Tryz.underlying9 Tryz.underlying51 Tryz.underlying5
          have hx9 := Lib.bytesWorld_at_old (w7.setCell ⟨tb, 256, none⟩ (.slice (some ⟨g7, 0, none⟩) (3 - j + 1) cap7)) 5 ⟨(esc1 (chr j)).toArray⟩ tb (by rw [setCell_size]; exact (Array.getElem?_eq_some_iff.1 hb7).1)
          rw [hb8] at hx9
          have r1 := blk_cell hx9 sb[0].toNat
          have r2 := frozen0 hx9 sb[0].toNat
          have hcc : (cs.setIfInBounds 256 (.slice (some ⟨g7, 0, none⟩) (3 - j + 1) cap7))[sb[0].toNat]? = some (.slice none 0 0) := by
            rw [Array.getElem?_setIfInBounds_ne (by omega), ← blk_cell HHEAP.out]; exact t1
          rw [hcc] at r1
          go_wp2_with fail
          case roundEnd =>
            refine ⟨⟨j, by omega, rfl, ?_⟩, ?_⟩
            · exact tb_next hj4 HS0.out HT.out.below HT.out.ge HHEAP.out HSZ.out HIN.out HOUT.out HOWN.out hgrow7 hown7 hb7 _
            · simp only [intOf]; omega
    case rest =>
      have HT := Lib.hid hcut
      clear hcut
      go_wp2_with fail
      refine bodyPost_ret (v := .iface 135 (.pointer (some ⟨tb, 0, none⟩))) (by simp [results, Tryz.results72, go_sem]) rfl ?_
      exact ⟨tb, rfl, HT.out⟩
end Go.Proofs.YtffcapkjfmkkaaaGreatDoor
namespace Go.Proofs.YtffcapkjfmkkaaaGreatDoor
open Go.RowKit
/-- The table, behind a block. -/
structure Tbl (B : Nat) (w : World) (tb : Nat) : Prop where
  ge : B ≤ tb
  cs : ∃ cs : Array Value, w.heap[tb]? = some (.cells cs 134 (0, 0)) ∧ cs.size = 257 ∧
    (∀ j, j < 4 → ∃ g cap rs fr, cs[(chr j).toNat]? = some (.slice (some ⟨g, 0, none⟩) (esc1 (chr j)).length cap) ∧ B ≤ g ∧ w.heap[g]? = some (.cells rs 5 fr) ∧ rs.toList.take (esc1 (chr j)).length = Lib.byteCells (esc1 (chr j))) ∧
    (∀ c : UInt8, (∀ j, j < 4 → c ≠ chr j) → cs[c.toNat]? = some (.slice none 0 0)) ∧
    ∃ v, cs[256]? = some v ∧ w.ownsRow B 9 1 v 4 [.string ⟨#[34]⟩, .string ⟨#[62]⟩, .string ⟨#[60]⟩, .string ⟨#[38]⟩]
theorem Tb.tbl {w wr : World} {tb : Nat} (h : Tb w wr tb 0) : Tbl w.heap.size wr tb := by
  obtain ⟨cs, h1, h2, h3, h4, v, h5, h6⟩ := h.cs
  refine ⟨h.ge, cs, h1, h2, fun j hj => ?_, fun c hc => h4 c fun j _ hj => hc j hj, v, h5, h6⟩
  obtain ⟨v, g1, g, cap, rs, fr, rfl, g3, g4, g5⟩ := h3 j (Nat.zero_le _) hj
  exact ⟨g, cap, rs, fr, g1, g3, g4, g5⟩
theorem Tbl.drew {B : Nat} {w : World} {tb : Nat} (h : Tbl B w tb) : Tbl B w.drew tb := ⟨h.ge, h.cs⟩
theorem Tbl.mono {B B' : Nat} {w : World} {tb : Nat} (h : Tbl B w tb) (hb : B' ≤ B) : Tbl B' w tb := by
  obtain ⟨cs, h1, h2, h3, h4, v, h5, h6⟩ := h.cs
  refine ⟨Nat.le_trans hb h.ge, cs, h1, h2, fun j hj => ?_, h4, v, h5, h6.1, h6.2.imp id fun ⟨g, cap, cur, k1, k2, k3⟩ => ⟨g, cap, cur, k1, Nat.le_trans hb k2, k3⟩⟩
  obtain ⟨g, cap, rs, fr, g1, g3, g4, g5⟩ := h3 j hj
  exact ⟨g, cap, rs, fr, g1, Nat.le_trans hb g3, g4, g5⟩
theorem Tbl.setCell {B : Nat} {w : World} {tb b : Nat} {c0 : Array Value} {fr0 : Nat × Nat} (h : Tbl B w tb) (hb : w.heap[b]? = some (.cells c0 102 fr0)) (j : Nat) (u : Value) : Tbl B (w.setCell ⟨b, j, none⟩ u) tb := by
  obtain ⟨cs, h1, h2, h3, h4, v, h5, h6⟩ := h.cs
  have ho : ∀ k, k ≠ b → (w.setCell ⟨b, j, none⟩ u).heap[k]? = w.heap[k]? := fun k hk => Below.heap_setCell _ _ _ _ hk
  have nb : tb ≠ b := fun e => by subst e; rw [h1] at hb; injection hb with hb; injection hb with _ ht; revert ht; decide
  refine ⟨h.ge, cs, by rw [ho tb nb]; exact h1, h2, fun j hj => ?_, h4, v, h5, h6.kept (setCell_grown _ _ _ _) (.inr fun e => ?_)⟩
  · obtain ⟨g, cap, rs, fr, g1, g3, g4, g5⟩ := h3 j hj
    have ng : g ≠ b := fun e => by subst e; rw [g4] at hb; injection hb with hb; injection hb with _ ht; revert ht; decide
    exact ⟨g, cap, rs, fr, g1, g3, by rw [ho g ng]; exact g4, g5⟩
  · obtain ⟨cs', h'⟩ := own_at h6 e
    rw [hb] at h'; injection h' with h'; injection h' with _ ht; revert ht; decide
theorem Tbl.below {B : Nat} {w w' : World} {tb : Nat} (h : Tbl B w tb) (hb : Below w.heap.size w w') : Tbl B w' tb := by
  obtain ⟨cs, h1, h2, h3, h4, v, h5, h6⟩ := h.cs
  refine ⟨h.ge, cs, by rw [hb.block _ (Array.getElem?_eq_some_iff.1 h1).1]; exact h1, h2, fun j hj => ?_, h4, v, h5, h6.kept (below_grown hb) (Classical.em _)⟩
  obtain ⟨g, cap, rs, fr, g1, g3, g4, g5⟩ := h3 j hj
  exact ⟨g, cap, rs, fr, g1, g3, by rw [hb.block _ (Array.getElem?_eq_some_iff.1 g4).1]; exact g4, g5⟩
/-- The replacer's block. -/
def RBk (w : World) (b : Nat) (d m : Int) (x l : Value) : Prop := w.heap[b]? = some (.cells #[.int .u32 d, .int .i32 m, .int .u32 0, x, l] 102 (0, 0))
theorem RBk.c {w : World} {b : Nat} {d m : Int} {x l : Value} (h : RBk w b d m x l) (j : Nat) : w.cell? ⟨b, j, none⟩ = #[.int .u32 d, .int .i32 m, .int .u32 0, x, l][j]? := blk_cell h j
theorem RBk.f {w : World} {b : Nat} {d m : Int} {x l : Value} (h : RBk w b d m x l) (j : Nat) : w.frozen? ⟨b, j, none⟩ = false := frozen0 h j
theorem RBk.s0 {w : World} {b : Nat} {d m d' : Int} {x l : Value} (h : RBk w b d m x l) : RBk (w.setCell ⟨b, 0, none⟩ (.int .u32 d')) b d' m x l := setCell_same h 0 _
theorem RBk.s1 {w : World} {b : Nat} {d m m' : Int} {x l : Value} (h : RBk w b d m x l) : RBk (w.setCell ⟨b, 1, none⟩ (.int .i32 m')) b d m' x l := setCell_same h 1 _
theorem RBk.s3 {w : World} {b : Nat} {d m : Int} {x x' l : Value} (h : RBk w b d m x l) : RBk (w.setCell ⟨b, 3, none⟩ x') b d m x' l := setCell_same h 3 _
theorem RBk.s4 {w : World} {b : Nat} {d m : Int} {x l l' : Value} (h : RBk w b d m x l) : RBk (w.setCell ⟨b, 4, none⟩ l') b d m x l' := setCell_same h 4 _
theorem RBk.lt {w : World} {b : Nat} {d m : Int} {x l : Value} (h : RBk w b d m x l) : b < w.heap.size := (Array.getElem?_eq_some_iff.1 h).1
theorem RBk.drew {w : World} {b : Nat} {d m : Int} {x l : Value} (h : RBk w b d m x l) : RBk w.drew b d m x l := h
theorem RBk.below {w w' : World} {b : Nat} {d m : Int} {x l : Value} (h : RBk w b d m x l) (hb : Below w.heap.size w w') : RBk w' b d m x l := by unfold RBk; rw [hb.block _ h.lt]; exact h
/-- What the table is called. -/
def tabV (tb : Nat) : Value := .iface 135 (.pointer (some ⟨tb, 0, none⟩))
theorem buildOnce_walk (b ob cap : Nat) (d m : Int) (w : World) (h : RBk w b d m .nilIface (.slice (some ⟨ob, 0, none⟩) 8 cap)) (ho : ∀ j, j < 8 → w.cell? ⟨ob, j, none⟩ = some (oldV j)) :
    Calls Tryz.prog 56 #[.pointer (some ⟨b, 0, none⟩)] w fun e w' => e = .returned (.tuple #[]) ∧
      ∃ tb w1, Tb w w1 tb 0 ∧ w' = (w1.setCell ⟨b, 3, none⟩ (tabV tb)).setCell ⟨b, 4, none⟩ (.slice none 0 0) := by
  have HO := Lib.hid ho
  go_enter Tryz.func56, Tryz.ntmps56
  go_wp2_with (go_at_call 72; refine (build_walk b ob cap _ ⟨by rw [h.c]; rfl, HO.out⟩).mono ?_; rintro e w1 ⟨tb, rfl, hT⟩; have r1 := h.below hT.below; have c3 := r1.c 3; have c4 := r1.c 4; have f3 := r1.f 3; have f4 := r1.f 4; have HT := Lib.hid hT; clear hT r1)
  go_end0
  exact ⟨rfl, tb, w1, HT.out, rfl⟩
set_option maxRecDepth 100000 in
set_option maxHeartbeats 1600000 in
theorem slow_walk (b ob cap : Nat) (w : World) (h : RBk w b 0 0 .nilIface (.slice (some ⟨ob, 0, none⟩) 8 cap)) (hob : ob ≠ b) (ho : ∀ j, j < 8 → w.cell? ⟨ob, j, none⟩ = some (oldV j)) :
    Calls Tryz.prog 71 #[.pointer (some ⟨b, 0, none⟩), .func (.func 56) #[.pointer (some ⟨b, 0, none⟩)] #[]] w fun e w' => e = .returned (.tuple #[]) ∧
      ∃ tb w1, Tb (w.setCell ⟨b, 1, none⟩ (.int .i32 1)) w1 tb 0 ∧ w' = ((((w1.setCell ⟨b, 3, none⟩ (tabV tb)).setCell ⟨b, 4, none⟩ (.slice none 0 0)).drew.setCell ⟨b, 0, none⟩ (.int .u32 1)).setCell ⟨b, 1, none⟩ (.int .i32 0)) := by
  have HO := Lib.hid ho
  have h1 := h.s1 (m' := 1)
  have hl := run_call_load (P := Tryz.prog) Tryz.func86 (by kernel_rfl) (by kernel_rfl) (by kernel_rfl) .u32 (by kernel_rfl) (w := w.setCell ⟨b, 1, none⟩ (.int .i32 1)) (a := ⟨b, 0, none⟩) (x := 0) (by rw [h1.c]; rfl)
  have hnot : ∀ (x : Bool) (w : World), (Op.unary .not (.bool x)).run Tryz.prog w = .ok (.bool (!x)) w := fun _ _ => rfl
  have H := Lib.hid h
  have H1 := Lib.hid h1
  clear h h1 ho
  go_enter_defers Tryz.func71, Tryz.ntmps71
  go_wp2_with (first
    | (go_at_call 87; refine (lock_free ⟨b, 1, none⟩ _ (by rw [H.out.c]; rfl) (H.out.f 1)).mono ?_; rintro e w' ⟨rfl, rfl⟩)
    | (go_at_call 70; go_in)
    | (go_at_call 56; refine (buildOnce_walk b ob cap 0 1 _ H1.out (fun j hj => by rw [World.cell?_setCell_other _ _ _ _ (fun e => hob (congrArg Addr.block e).symm)]; exact HO.out j hj)).mono ?_; rintro e w' ⟨rfl, tb, w1, hT, rfl⟩; have HT := Lib.hid hT; clear hT))
  have r1 := H1.out.below HT.out.below
  have r4 := (r1.s3 (x' := tabV tb)).s4 (l' := .slice none 0 0)
  have r5 := r4.drew.s0 (d' := 1)
  refine leaves_cons (f := 89) (args := #[.pointer (some ⟨b, 0, none⟩), .bool true]) (by simp) (by simp [go_sem]) ?_
  refine (store_deferred ⟨b, 0, none⟩ (.int .u32 0) .returning _ (by rw [r4.c]; rfl) (r4.f 0)).mono ?_
  rintro e u' w'' ⟨rfl, rfl, rfl⟩
  refine leaves_cons (f := 88) (args := #[.pointer (some ⟨b, 1, none⟩)]) (by simp [settle]) (by simp [go_sem]) ?_
  refine (unlock_deferred ⟨b, 1, none⟩ _ _ (by rw [r5.c]; rfl) (r5.f 1)).mono ?_
  rintro e u' w'' ⟨rfl, rfl, rfl⟩
  have hfin : ∃ tb' w1', Tb (w.setCell ⟨b, 1, none⟩ (.int .i32 1)) w1' tb' 0 ∧ ((((w1.setCell ⟨b, 3, none⟩ (tabV tb)).setCell ⟨b, 4, none⟩ (.slice none 0 0)).drew.setCell ⟨b, 0, none⟩ (.int .u32 1)).setCell ⟨b, 1, none⟩ (.int .i32 0)) = ((((w1'.setCell ⟨b, 3, none⟩ (tabV tb')).setCell ⟨b, 4, none⟩ (.slice none 0 0)).drew.setCell ⟨b, 0, none⟩ (.int .u32 1)).setCell ⟨b, 1, none⟩ (.int .i32 0)) := ⟨tb, w1, HT.out, rfl⟩
  generalize ((((w1.setCell ⟨b, 3, none⟩ (tabV tb)).setCell ⟨b, 4, none⟩ (.slice none 0 0)).drew.setCell ⟨b, 0, none⟩ (.int .u32 1)).setCell ⟨b, 1, none⟩ (.int .i32 0)) = wz at *
  simp [Leaves, settle, results, Tryz.results71]
  exact hfin
theorem do_walk (b ob cap : Nat) (w : World) (h : RBk w b 0 0 .nilIface (.slice (some ⟨ob, 0, none⟩) 8 cap)) (hob : ob ≠ b) (ho : ∀ j, j < 8 → w.cell? ⟨ob, j, none⟩ = some (oldV j)) :
    Calls Tryz.prog 55 #[.pointer (some ⟨b, 0, none⟩), .func (.func 56) #[.pointer (some ⟨b, 0, none⟩)] #[]] w fun e w' => e = .returned (.tuple #[]) ∧
      ∃ tb w1, Tb (w.setCell ⟨b, 1, none⟩ (.int .i32 1)) w1 tb 0 ∧ w' = ((((w1.setCell ⟨b, 3, none⟩ (tabV tb)).setCell ⟨b, 4, none⟩ (.slice none 0 0)).drew.setCell ⟨b, 0, none⟩ (.int .u32 1)).setCell ⟨b, 1, none⟩ (.int .i32 0)) := by
  have hl := run_call_load (P := Tryz.prog) Tryz.func86 (by kernel_rfl) (by kernel_rfl) (by kernel_rfl) .u32 (by kernel_rfl) (w := w) (a := ⟨b, 0, none⟩) (x := 0) (by rw [h.c]; rfl)
  have hnot : ∀ (x : Bool) (w : World), (Op.unary .not (.bool x)).run Tryz.prog w = .ok (.bool (!x)) w := fun _ _ => rfl
  have HO := Lib.hid ho
  have H := Lib.hid h
  clear h ho
  go_enter Tryz.func55, Tryz.ntmps55
  go_wp2_with (first
    | (go_at_call 71; refine (slow_walk b ob cap _ H.out hob HO.out).mono ?_; rintro e w' ⟨rfl, hP⟩)
    | (go_at_call 70; go_in))
  go_end0
  exact ⟨rfl, hP⟩
end Go.Proofs.YtffcapkjfmkkaaaGreatDoor
namespace Go.Proofs.YtffcapkjfmkkaaaGreatDoor
open Go.RowKit
def olds : List Value := [oldV 0, oldV 1, oldV 2, oldV 3, oldV 4, oldV 5, oldV 6, oldV 7]
theorem olds_get (j : Nat) (h : j < 8) : olds[j]? = some (oldV j) := by
  have : ∀ j, j < 8 → olds[j]? = some (oldV j) := by
    intro j h
    match j, h with
    | 0, _ => rfl
    | 1, _ => rfl
    | 2, _ => rfl
    | 3, _ => rfl
    | 4, _ => rfl
    | 5, _ => rfl
    | 6, _ => rfl
    | 7, _ => rfl
  exact this j h
set_option maxRecDepth 100000 in
theorem newReplacer_walk (oa : Nat) (w : World) (h : ∀ j, j < 8 → w.cell? ⟨oa, j, none⟩ = some (oldV j)) :
    Calls Tryz.prog 36 #[.slice (some ⟨oa, 0, none⟩) 8 8] w fun e w' => Below w.heap.size w w' ∧ ∃ b ob cap, w.heap.size ≤ b ∧ w.heap.size ≤ ob ∧ ob ≠ b ∧ e = .returned (.pointer (some ⟨b, 0, none⟩)) ∧
      RBk w' b 0 0 .nilIface (.slice (some ⟨ob, 0, none⟩) 8 cap) ∧ ∀ j, j < 8 → w'.cell? ⟨ob, j, none⟩ = some (oldV j) := by
  have H := Lib.hid h
  clear h
  obtain ⟨iS, hiS, hzS0, hzS1, hzS2⟩ := info_parts infoStr
  go_enter Tryz.func36, Tryz.ntmps36
  go_wp2_with (at_builtin; refine wpList_append_lies _ rfl _ _ 38 rfl w.heap.size 9 iS _ 1 16 Tryz.underlying38 hiS hzS0 hzS1 hzS2 rfl (by decide) (.slice none 0 0) 0 [] rfl (World.ownsRow_nil _ _ _ _) ⟨oa, 0, none⟩ 8 8 olds rfl rfl ?c1 ?c2 (by decide) ?c3 ?c4 ?c5 _ rfl ?_)
  case c1 =>
    intro j u hu
    have hj : j < 8 := (List.getElem?_eq_some_iff.1 hu).1
    rw [olds_get j hj] at hu
    rw [addr_add]
    rw [H.out j hj]; exact hu
  case c2 => intro u hu; simp [olds] at hu; rcases hu with rfl | rfl | rfl | rfl | rfl | rfl | rfl | rfl <;> rfl
  case c3 => unfold maxLen; omega
  case c4 => omega
  case c5 => exact Nat.le_refl _
  intro g7 cap7 w7 hown7 hgrow7 hat7 hlt7
  have hb7 := grown_none hgrow7
  have hg7 := (hown7.lt g7 rfl).1
  have hc7 := hown7.cells rfl
  have HB7 := Lib.hid hb7
  clear hown7 hgrow7 hat7
  go_wp2_with fail
  refine bodyPost_ret (v := .pointer (some ⟨w7.heap.size, 0, none⟩)) (by simp [results, Tryz.results36, go_sem]) rfl ?_
  refine ⟨HB7.out.alloc HB7.out.size _, w7.heap.size, HB7.out.size, g7, hg7, by omega, rfl, ⟨cap7, heap_alloc_new w7 _⟩, fun j hj => ?_⟩
  rw [World.cell?_alloc_past _ _ _ hlt7]
  have := hc7 j (oldV j) (by simpa using olds_get j hj)
  rw [addr_add] at this
  exact this
end Go.Proofs.YtffcapkjfmkkaaaGreatDoor
namespace Go.Proofs.YtffcapkjfmkkaaaGreatDoor
open Go.RowKit
/-- A sign that is written otherwise. -/
def spB (c : UInt8) : Bool := c == 38 || c == 60 || c == 62 || c == 34
def hasSp (l : Bs) : Bool := l.any spB
theorem spB_false {c : UInt8} (h : spB c = false) : esc1 c = [c] ∧ ∀ j, j < 4 → c ≠ chr j := by
  simp [spB] at h
  obtain ⟨⟨⟨h1, h2⟩, h3⟩, h4⟩ := h
  refine ⟨by simp [esc1, h1, h2, h3, h4], fun j hj => ?_⟩
  match j, hj with
  | 0, _ => exact h1
  | 1, _ => exact h2
  | 2, _ => exact h3
  | 3, _ => exact h4
theorem spB_true {c : UInt8} (h : spB c = true) : ∃ j, j < 4 ∧ c = chr j := by
  simp [spB] at h
  rcases h with ((rfl | rfl) | rfl) | rfl
  · exact ⟨0, by omega, rfl⟩
  · exact ⟨1, by omega, rfl⟩
  · exact ⟨2, by omega, rfl⟩
  · exact ⟨3, by omega, rfl⟩
theorem esc_none {l : Bs} (h : hasSp l = false) : escB l = l := by
  induction l with
  | nil => rfl
  | cons c l ih =>
    simp [hasSp] at h
    rw [escB, (spB_false h.1).1, ih (by simpa [hasSp] using h.2)]; rfl
theorem Tbl.at {B : Nat} {w : World} {tb : Nat} (h : Tbl B w tb) (c : UInt8) :
    (spB c = false ∧ w.cell? ⟨tb, c.toNat, none⟩ = some (.slice none 0 0)) ∨
    (spB c = true ∧ ∃ g cap, w.cell? ⟨tb, c.toNat, none⟩ = some (.slice (some ⟨g, 0, none⟩) (esc1 c).length cap) ∧ g < w.heap.size ∧ ∀ j u, (Lib.byteCells (esc1 c))[j]? = some u → w.cell? ⟨g, j, none⟩ = some u) := by
  obtain ⟨cs, h1, h2, h3, h4, v, h5, h6⟩ := h.cs
  by_cases hs : spB c = true
  · obtain ⟨j, hj, rfl⟩ := spB_true hs
    obtain ⟨g, cap, rs, fr, g1, g2, g3, g4⟩ := h3 j hj
    refine .inr ⟨hs, g, cap, by rw [blk_cell h1]; exact g1, (Array.getElem?_eq_some_iff.1 g3).1, fun i u hu => ?_⟩
    rw [blk_cell g3, ← Array.getElem?_toList]
    rw [← g4, List.getElem?_take] at hu
    split at hu
    · exact hu
    · cases hu
  · have hs' : spB c = false := by simpa using hs
    exact .inl ⟨hs', by rw [blk_cell h1]; exact h4 c (spB_false hs').2⟩
theorem Tbl.list {B : Nat} {w : World} {tb : Nat} (h : Tbl B w tb) : ∃ g cap, w.cell? ⟨tb, 256, none⟩ = some (.slice (some ⟨g, 0, none⟩) 4 cap) ∧ ∀ k, k < 4 → w.cell? ⟨g, k, none⟩ = some (.string ⟨#[chr (3 - k)]⟩) := by
  obtain ⟨cs, h1, h2, h3, h4, v, h5, h6⟩ := h.cs
  obtain ⟨hl, ⟨rfl, h0⟩ | ⟨g, cap, cur, rfl, hg, hh, k1, k2, k3, k4⟩⟩ := h6
  · cases h0
  · refine ⟨g, cap, by rw [blk_cell h1]; exact h5, fun k hk => ?_⟩
    rw [blk_cell hh, ← Array.getElem?_toList]
    have : (cur.toList.take (4 * 1))[k]? = some (.string ⟨#[chr (3 - k)]⟩) := by
      rw [k4]
      match k, hk with
      | 0, _ => rfl
      | 1, _ => rfl
      | 2, _ => rfl
      | 3, _ => rfl
    rw [List.getElem?_take, if_pos (by omega)] at this
    exact this
theorem ne_nil (w : World) : (binOp .neq 51 (.slice none 0 0) (.slice none 0 0)).run Tryz.prog w = .ok (.bool false) w := by kernel_rfl
theorem ne_some (a : Addr) (l c : Nat) (w : World) : (binOp .neq 51 (.slice (some a) l c) (.slice none 0 0)).run Tryz.prog w = .ok (.bool true) w := by kernel_rfl
/-- How many of a sign, taken by the length of what stands for it. -/
def gain (l : Bs) (c : UInt8) : Nat := Lib.countByte l c * ((esc1 c).length - 1)
def gains (l : Bs) : Nat → Nat
  | 0 => 0
  | k + 1 => gains l k + gain l (chr (3 - k))
def flags (l : Bs) : Nat → Bool
  | 0 => false
  | k + 1 => flags l k || decide (Lib.countByte l (chr (3 - k)) ≠ 0)
theorem esc_gains (l : Bs) : (escB l).length = l.length + gains l 4 := by
  induction l with
  | nil => rfl
  | cons c l ih =>
    have hg : gains (c :: l) 4 = gains l 4 + ((esc1 c).length - 1) := by
      simp only [gains, gain, Lib.countByte, chr, List.count_cons]
      by_cases h1 : c = 38
      · subst h1; simp [esc1]; omega
      by_cases h2 : c = 60
      · subst h2; simp [esc1]; omega
      by_cases h3 : c = 62
      · subst h3; simp [esc1]; omega
      by_cases h4 : c = 34
      · subst h4; simp [esc1]; omega
      · simp [esc1, h1, h2, h3, h4]
    have := esc1_len c
    rw [escB, List.length_append, ih, hg, List.length_cons]; omega
theorem flags_has (l : Bs) : flags l 4 = hasSp l := by
  induction l with
  | nil => rfl
  | cons c l ih =>
    have e : hasSp (c :: l) = (spB c || hasSp l) := rfl
    rw [e, ← ih]
    simp only [flags, Lib.countByte, chr, List.count_cons]
    by_cases h1 : c = 38
    · subst h1; simp [spB]
    by_cases h2 : c = 60
    · subst h2; simp [spB]
    by_cases h3 : c = 62
    · subst h3; simp [spB]
    by_cases h4 : c = 34
    · subst h4; simp [spB]
    · simp [spB, h1, h2, h3, h4]
theorem gain_le (l : Bs) (c : UInt8) : gain l c ≤ 5 * l.length := by
  have h1 := esc1_len c
  have h2 : Lib.countByte l c ≤ l.length := List.count_le_length
  unfold gain
  calc Lib.countByte l c * ((esc1 c).length - 1) ≤ l.length * 5 := Nat.mul_le_mul h2 (by omega)
    _ = _ := Nat.mul_comm _ _
theorem gains_le (l : Bs) (k : Nat) : gains l k ≤ 5 * l.length * k := by
  induction k with
  | zero => simp [gains]
  | succ k ih => have := gain_le l (chr (3 - k)); rw [gains, Nat.mul_succ]; omega
theorem gains_zero {l : Bs} (h : flags l 4 = false) : gains l 4 = 0 := by
  have := esc_gains l
  rw [esc_none (by rw [← flags_has]; exact h)] at this; omega
end Go.Proofs.YtffcapkjfmkkaaaGreatDoor
namespace Go.Proofs.YtffcapkjfmkkaaaGreatDoor
open Go.RowKit
/-- The first half's answer: how long the text will be; is there anything to write otherwise? -/
def RepM (w : World) (s : ByteArray) (n a : Value) (wr : World) : Prop := n = .int .i64 (escB s.data.toList).length ∧ a = .bool (hasSp s.data.toList) ∧ Dr w wr
theorem splice_take {α : Type} (L : List α) (off : Nat) (cs : List α) (h : off ≤ L.length) : (splice L off cs).take (off + cs.length) = L.take off ++ cs := by
  unfold splice
  have h1 : (L.take off).length = off := by rw [List.length_take]; omega
  rw [← List.append_assoc, List.take_append_of_le_length (by rw [List.length_append, h1]; omega), List.take_of_length_le (by rw [List.length_append, h1]; omega)]
/-- What is written so far. -/
structure Bf (w wr : World) (g n : Nat) (l : Bs) : Prop where
  b : Below w.heap.size w wr
  c : ∃ cur : List Value, wr.heap[g]? = some (.cells cur.toArray 5 (0, 0)) ∧ cur.length = n ∧ cur.take l.length = Lib.byteCells l
set_option maxRecDepth 100000 in
set_option maxHeartbeats 8000000 in
theorem tabReplace_walk (B tb : Nat) (s : ByteArray) (w : World) (h : Tbl B w tb) (hs : s.size ≤ 100000000) :
    Calls Tryz.prog 148 #[.pointer (some ⟨tb, 0, none⟩), .string s] w fun e w' => e = .returned (.string ⟨(escB s.data.toList).toArray⟩) ∧ Below w.heap.size w w' := by
  have H := Lib.hid h
  clear h
  obtain ⟨tg, tcap, ht256, htl⟩ := H.out.list
  have HTL := Lib.hid htl
  clear htl
  go_enter Tryz.func148, Tryz.ntmps148
  go_upto_if 26 with (fail)
  go_cut [5, 6, 7, 8, 9, 10, 11] (fun n a _ _ _ _ _ wr => RepM w s n a wr)
  case first =>
    by_cases hlong : 32 ≤ s.size
    · have hlong' : (32 : Int) ≤ s.size := by omega
      go_wp2_with fail
      rw [show decide ((32 : Int) ≤ s.size) = true from decide_eq_true hlong']
      go_loopw [5, 6, 8, 9, 32] (fun n a _ _ i wr => ∃ k : Nat, k ≤ 4 ∧ i = .int .i64 (k : Nat) ∧ n = .int .i64 (s.size + gains s.data.toList k : Nat) ∧ a = .bool (flags s.data.toList k) ∧ Dr w wr) (fun _ _ _ _ i _ => 4 - (intOf i).toNat)
      case atStart => exact ⟨0, by omega, rfl, rfl, rfl, Dr.refl w⟩
      case round =>
        obtain ⟨k, hk, rfl, rfl, rfl, hdr⟩ := hrel
        by_cases hk4 : k < 4
        · have hB := hdr.below0
          have tl := cell_keep hB (HTL.out k hk4)
          obtain ⟨sb, hsb, hs1, hs0⟩ : ∃ (sb : ByteArray), (⟨#[chr (3 - k)]⟩ : ByteArray) = sb ∧ sb.size = 1 ∧ ∀ h : 0 < sb.size, sb[0] = chr (3 - k) := ⟨_, rfl, rfl, fun _ => rfl⟩
          have hcnt : ∀ w, Calls Tryz.prog 150 #[.string s, .string sb] w fun e w' => e = .returned (.int .i64 (Lib.countByte s.data.toList (chr (3 - k)))) ∧ w' = w := by
            rw [← hsb]; exact fun w => YtffcapkjfmkkaaaGreatDoor.strings_Count_one s (chr (3 - k)) w
          rw [hsb] at tl
          clear hsb
          have hs1' : 0 < sb.size := by omega
          have hcb : (sb[0].toNat : Int) < 256 := by have := sb[0].toNat_lt; omega
          rcases (H.out.below hB).at (chr (3 - k)) with ⟨hf, _⟩ | ⟨_, g, cap, hc, _, _⟩
          · exfalso
            have : ∀ k, k < 4 → spB (chr (3 - k)) = true := by decide
            rw [this k hk4] at hf; cases hf
          · rw [← hs0 hs1'] at hc
            have hL := esc1_len (chr (3 - k))
            rw [← hs0 hs1'] at hL
            have hq : Lib.countByte s.data.toList (chr (3 - k)) ≤ s.size := List.count_le_length
            have hg1 : gains s.data.toList (k + 1) = gains s.data.toList k + Lib.countByte s.data.toList (chr (3 - k)) * ((esc1 sb[0]).length - 1) := by rw [hs0 hs1']; rfl
            have hf1 : flags s.data.toList (k + 1) = (flags s.data.toList k || decide (Lib.countByte s.data.toList (chr (3 - k)) ≠ 0)) := rfl
            have hgb := gains_le s.data.toList k
            have hgb2 : 5 * s.data.toList.length * k ≤ 5 * s.data.toList.length * 4 := Nat.mul_le_mul_left _ (by omega)
            rw [size_list] at hgb hgb2
            have hmul : Lib.countByte s.data.toList (chr (3 - k)) * ((esc1 sb[0]).length - 1) ≤ s.size * 5 := Nat.mul_le_mul hq (by omega)
            have hmi : (Lib.countByte s.data.toList (chr (3 - k)) : Int) * ((esc1 sb[0]).length - (1 : Int)) = ((Lib.countByte s.data.toList (chr (3 - k)) * ((esc1 sb[0]).length - 1) : Nat) : Int) := by
              rw [Int.natCast_mul, Int.natCast_sub hL.2]; rfl
            have HG1 := Lib.hid hg1
            have HF1 := Lib.hid hf1
            have HCN := Lib.hid hcnt
            have HDR := Lib.hid hdr
            clear hg1 hf1 hcnt hs0 hdr hB
            generalize Lib.countByte s.data.toList (chr (3 - k)) = q at *
            generalize (esc1 sb[0]).length = L at *
            generalize q * (L - 1) = m at *
            by_cases hq0 : q = 0
            · subst hq0
              go_wp2_with (go_at_call 150; refine (HCN.out _).mono ?_; rintro e w' ⟨rfl, rfl⟩)
              go_roundw
              case measure => simp only [intOf]; omega
              case rel =>
                refine ⟨k + 1, by omega, rfl, ?_, ?_, HDR.out⟩
                · rw [HG1.out]; simp at hmi; congr 1; omega
                · rw [HF1.out]; simp
            · go_wp2_with (go_at_call 150; refine (HCN.out _).mono ?_; rintro e w' ⟨rfl, rfl⟩)
              go_quiet (fail)
              go_wp2_with fail
              go_roundw
              case measure => simp only [intOf]; omega
              case rel =>
                refine ⟨k + 1, by omega, rfl, ?_, ?_, HDR.out.drewN _⟩
                · rw [HG1.out]; congr 1; omega
                · rw [HF1.out]; simp [hq0]
        · obtain rfl : k = 4 := by omega
          go_wp2_with fail
          go_meet
          exact ⟨by rw [esc_gains, size_list], by rw [flags_has], hdr⟩
    · have hlong' : ¬ (32 : Int) ≤ s.size := by omega
      go_wp2_with fail
      go_loopw [5, 6, 10, 11] (fun n a i _ wr => ∃ k : Nat, k ≤ s.size ∧ i = .int .i64 (k : Nat) ∧ n = .int .i64 (s.size - k + (escB (s.data.toList.take k)).length : Nat) ∧ a = .bool (hasSp (s.data.toList.take k)) ∧ Dr w wr) (fun _ _ i _ _ => s.size - (intOf i).toNat)
      case atStart => exact ⟨0, by omega, rfl, by simp [escB], by simp [hasSp], Dr.refl w⟩
      case round =>
        obtain ⟨k, hk, rfl, rfl, rfl, hdr⟩ := hrel
        by_cases hlt : k < s.size
        · have hB := hdr.below0
          have hcb : (s[k].toNat : Int) < 256 := by have := s[k].toNat_lt; omega
          have hlt' : (k : Int) < s.size := by omega
          have hnn := ne_nil
          have hns := ne_some
          have HE := Lib.hid (take_snoc s k hlt)
          have hel : (escB (s.data.toList.take (k + 1))).length = (escB (s.data.toList.take k)).length + (esc1 s[k]).length := by rw [HE.out, escB_app]; simp [escB]
          have hsp : hasSp (s.data.toList.take (k + 1)) = (hasSp (s.data.toList.take k) || spB s[k]) := by rw [HE.out]; simp [hasSp]
          have hle := escB_len (s.data.toList.take k)
          have hle2 : (s.data.toList.take k).length ≤ k := by rw [List.length_take]; omega
          have HEL := Lib.hid hel
          have HSP := Lib.hid hsp
          have HDR := Lib.hid hdr
          have hL := esc1_len s[k]
          rcases (H.out.below hB).at s[k] with ⟨hf, hc⟩ | ⟨hf, g, cap, hc, _, _⟩
          · have HF := Lib.hid hf
            have e1 := (spB_false hf).1
            clear hel hsp hdr hB hf
            go_wp2_with fail
            refine ⟨⟨k + 1, by omega, rfl, ?_, ?_, HDR.out⟩, by simp [intOf]; omega⟩
            · rw [HEL.out, e1]; simp only [List.length_singleton]; congr 1; omega
            · rw [HSP.out, HF.out, Bool.or_false]
          · have HF := Lib.hid hf
            clear hel hsp hdr hB hf
            generalize hL0 : (esc1 s[k]).length = L at *
            go_wp2_with fail
            refine ⟨⟨k + 1, by omega, rfl, ?_, ?_, HDR.out⟩, by simp [intOf]; omega⟩
            · rw [HEL.out]; congr 1; omega
            · rw [HSP.out, HF.out, Bool.or_true]
        · obtain rfl : k = s.size := by omega
          go_wp2_with fail
          go_meet
          have e : s.data.toList.take s.size = s.data.toList := List.take_of_length_le (by rw [size_list]; omega)
          rw [e]
          exact ⟨by congr 1; omega, rfl, hdr⟩
  case rest =>
    obtain ⟨rfl, rfl, hdr⟩ := hcut
    have H2 := Lib.hid (H.out.below hdr.below0)
    have HB := Lib.hid hdr.below0
    clear hdr H HTL ht256
    by_cases hany : hasSp s.data.toList = false
    · have HA := Lib.hid hany
      rw [hany]
      clear hany
      go_wp2_with fail
      refine bodyPost_ret (v := .string s) (by simp [results, Tryz.results148, go_sem]) rfl ?_
      exact ⟨by rw [esc_none HA.out], HB.out⟩
    · have hany : hasSp s.data.toList = true := by simpa using hany
      rw [hany]
      clear hany
      have hel := escB_len s.data.toList
      rw [size_list] at hel
      have hLn : (escB s.data.toList).length = (escB s.data.toList).length := rfl
      generalize hLn' : (escB s.data.toList).length = Ln at *
      obtain ⟨iU, hiU, hzU0, hzU1, hzU2⟩ := info_parts infoU8
      have hone : (Tryz.prog.info? 5).map (·.size) = some 1 := by rw [hiU]; simp [hzU1]
      go_upto_region 22 with (at_make; refine wpList_make_full _ rfl _ _ 51 rfl wc.heap.size 5 iU (.int .u8 0) 1 Tryz.underlying51 hiU hzU0 hzU1 .i64 .i64 _ _ Ln rfl rfl rfl rfl (by rw [hzU2]; omega) (by unfold maxLen; omega) (Nat.le_refl _) ?_; intro w3 hown3 hgrow3)
      have hcur : ∃ cur : List Value, w3.heap[wc.heap.size]? = some (.cells cur.toArray 5 (0, 0)) ∧ cur.length = Ln := by
        obtain ⟨-, ⟨h1, -⟩ | ⟨g, cap, cur, h1, h2, h3, h4, h5, h6, h7⟩⟩ := hown3
        · cases h1
        · injection h1 with h1 h1' h1''
          injection h1 with h1
          injection h1 with h1
          subst h1; subst h1''
          exact ⟨cur.toList, by simpa using h3, by simpa using h6⟩
      have HC := Lib.hid hcur
      have HB3 := Lib.hid (grown_none hgrow3)
      clear hown3 hgrow3 hcur
      go_wp2_with fail
      go_loopw [13, 14, 15] (fun n i _ wr => ∃ k : Nat, k ≤ s.size ∧ i = .int .i64 (k : Nat) ∧ n = .int .i64 ((escB (s.data.toList.take k)).length : Nat) ∧ Bf wc wr wc.heap.size Ln (escB (s.data.toList.take k))) (fun _ i _ _ => s.size - (intOf i).toNat)
      case atStart =>
        obtain ⟨cur, h1, h2⟩ := HC.out
        exact ⟨0, by omega, rfl, rfl, HB3.out, cur, h1, h2, rfl⟩
      case round =>
        obtain ⟨k, hk, rfl, rfl, hbf⟩ := hrel
        by_cases hlt : k < s.size
        · have hB := hbf.b
          obtain ⟨cur, hg, hcl, htk⟩ := hbf.c
          have hcb : (s[k].toNat : Int) < 256 := by have := s[k].toNat_lt; omega
          have hlt' : (k : Int) < s.size := by omega
          have hnn := ne_nil
          have hns := ne_some
          have HE := Lib.hid (take_snoc s k hlt)
          have hnx : escB (s.data.toList.take (k + 1)) = escB (s.data.toList.take k) ++ esc1 s[k] := by rw [HE.out, escB_app]; simp [escB]
          have hle : (escB (s.data.toList.take (k + 1))).length ≤ Ln := by
            rw [← hLn']
            conv => rhs; rw [← List.take_append_drop (k + 1) s.data.toList]
            rw [escB_app, List.length_append]; omega
          have hL := esc1_len s[k]
          have hle2 : (escB (s.data.toList.take k)).length + (esc1 s[k]).length ≤ Ln := by rw [hnx, List.length_append] at hle; exact hle
          have HNX := Lib.hid hnx
          clear hnx hle
          have HTK := Lib.hid htk
          have HCL := Lib.hid hcl
          have HG := Lib.hid hg
          have HBW := Lib.hid hB
          have htab := (H2.out.below hB).at s[k]
          clear htk hbf hcl
          generalize hoff : (escB (s.data.toList.take k)).length = off at *
          have hz := frozen0 hg off
          have hc0 := blk_cell hg off
          rw [List.getElem?_toArray, List.getElem?_eq_getElem (by rw [HCL.out]; omega)] at hc0
          rcases htab with ⟨hf, hc⟩ | ⟨hf, g, cap, hc, hgl, hgc⟩
          · have e1 := (spB_false hf).1
            have e1l : (esc1 s[k]).length = 1 := by rw [e1]; rfl
            have HE1 := Lib.hid e1
            clear hf e1 hg hB
            go_wp2_with fail
            refine ⟨⟨k + 1, by omega, rfl, ?_, ?_⟩, by simp only [intOf]; omega⟩
            · rw [HNX.out, List.length_append, hoff, e1l]; rfl
            · refine ⟨HBW.out.setCell (p := ⟨wc.heap.size, off, none⟩) (Nat.le_refl _) _, cur.set off (.int .u8 s[k].toNat), ?_, by simpa using HCL.out, ?_⟩
              · have := setCell_same HG.out off (.int .u8 s[k].toNat)
                rw [this]; simp
              · rw [HNX.out, HE1.out, List.length_append, hoff, List.length_singleton]
                rw [Lib.byteCells_append, ← HTK.out]
                have hlen : off < cur.length := by rw [HCL.out]; omega
                rw [List.take_succ_eq_append_getElem (by simpa using hlen), List.getElem_set_self, List.take_set_of_le (Nat.le_refl _)]
                rfl
          · have HGC := Lib.hid hgc
            clear hf hgc hg hB hc0
            generalize hL0 : (esc1 s[k]).length = L at *
            go_wp2_with fail
            have hone1 := Lib.byteCells_one (esc1 s[k])
            have hcsl : (Lib.byteCells (esc1 s[k])).length = L := by rw [Lib.byteCells_length, hL0]
            have hcopy : ∀ w1 : World, Below wr.heap.size wr w1 → w1.heap[wc.heap.size]? = some (.cells cur.toArray 5 (0, 0)) ∧ (∀ j v, (Lib.byteCells (esc1 s[k]))[j]? = some v → w1.cell? ((⟨g, 0, none⟩ : Addr).add j) = some v) ∧ Below wc.heap.size wc w1 := fun w1 hb1 =>
              ⟨by rw [hb1.block _ (Array.getElem?_eq_some_iff.1 HG.out).1]; exact HG.out, fun j v hv => by rw [addr_add]; exact cell_keep hb1 (HGC.out j v hv), HBW.out.trans (hb1.mono HBW.out.size)⟩
            have HCP := Lib.hid hcopy
            have HO1 := Lib.hid hone1
            have HCS := Lib.hid hcsl
            clear hcopy hone1 hcsl
            generalize hcs0 : Lib.byteCells (esc1 s[k]) = cs at *
            have HCS0 := Lib.hid hcs0
            clear hcs0
            have hol : off ≤ Ln := by omega
            have hon : ¬ Ln = off := by omega
            have hr := run_copy_row (P := Tryz.prog) wr.drew 51 51 3 5 wc.heap.size off (Ln - off) (Ln - off) ⟨g, 0, none⟩ L cap cur.toArray 5 cs Tryz.underlying51 hone (HCP.out _ (Dr.below0 ⟨1, rfl⟩)).1 (by rw [HCS.out]; exact (Nat.min_eq_left (by omega)).symm) (HCP.out _ (Dr.below0 ⟨1, rfl⟩)).2.1 (by rw [HCS.out]; simp [HCL.out]; exact hle2) HO1.out
            rw [HCS.out] at hr
            have h4 : ∃ w4, (Builtin.copy_ #[51, 51] 3 #[.slice (some ⟨wc.heap.size, off, none⟩) (Ln - off) (Ln - off), .slice (some ⟨g, 0, none⟩) L cap]).run Tryz.prog wr.drew = .ok (.int .i64 (L : Int)) w4 ∧ w4.heap[wc.heap.size]? = some (.cells (splice cur off cs).toArray 5 (0, 0)) ∧ Below wc.heap.size wc w4 := by
              refine ⟨_, hr, ?_, below_setRow (HCP.out _ (Dr.below0 ⟨1, rfl⟩)).2.2 (Nat.le_refl _) _⟩
              rw [setRow_heap wr.drew wc.heap.size _ _ 5 _ (HCP.out _ (Dr.below0 ⟨1, rfl⟩)).1]
              simp [splice, HCS.out]
            clear hr
            obtain ⟨w4, hr, hg4, hb4⟩ := h4
            have HG4 := Lib.hid hg4
            clear hg4
            go_region_law (fail)
            go_wp2_with fail
            refine ⟨⟨k + 1, by omega, rfl, ?_, hb4, _, HG4.out, ?_, ?_⟩, by simp only [intOf]; omega⟩
            · rw [HNX.out, List.length_append, hoff, hL0]; congr 1
            · rw [length_splice _ _ _ (by rw [HCS.out, HCL.out]; exact hle2), HCL.out]
            · rw [HNX.out, List.length_append, hoff, hL0, ← HCS.out, splice_take _ _ _ (by rw [HCL.out]; exact hol), HTK.out, Lib.byteCells_append, HCS0.out]
        · obtain rfl : k = s.size := by omega
          have hB := hbf.b
          obtain ⟨cur, hg, hcl, htk⟩ := hbf.c
          have e : s.data.toList.take s.size = s.data.toList := List.take_of_length_le (by rw [size_list]; omega)
          rw [e, hLn'] at htk
          have hcv : (convert 51 9 (.slice (some ⟨wc.heap.size, 0, none⟩) (escB s.data.toList).length Ln)).run Tryz.prog wr = .ok (.string ⟨(escB s.data.toList).toArray⟩) wr :=
            run_convert_bytes_back wr 51 9 5 ⟨wc.heap.size, 0, none⟩ Ln (escB s.data.toList) Tryz.underlying51 Tryz.underlying5 Tryz.underlying9 (fun j hj => by
              rw [hLn'] at hj
              rw [addr_add, blk_cell hg, List.getElem?_toArray]
              have : (cur.take Ln)[j]? = some (.int .u8 ((escB s.data.toList)[j]'(by rw [hLn']; exact hj)).toNat) := by
                rw [htk]; simp [Lib.byteCells, hLn', hj]
              rw [List.getElem?_take, if_pos hj] at this
              exact this)
          rw [hLn'] at hcv
          have HBW := Lib.hid hB
          clear hB hbf htk hg hcl
          go_wp2_with fail
          refine bodyPost_ret (v := .string ⟨(escB s.data.toList).toArray⟩) (by simp [results, Tryz.results148, go_sem]) rfl ?_
          exact ⟨rfl, HB.out.trans (HBW.out.mono HB.out.size)⟩
end Go.Proofs.YtffcapkjfmkkaaaGreatDoor
namespace Go.Proofs.YtffcapkjfmkkaaaGreatDoor
open Go.RowKit
/-- Behind Do: the block, the table, what has turned. -/
structure Dn (w w' : World) (b tb : Nat) : Prop where
  r : RBk w' b 1 0 (tabV tb) (.slice none 0 0)
  t : Tbl w.heap.size w' tb
  b : Below b w w'
theorem dn_of {w w1 w' : World} {b tb : Nat} {x l : Value} (h : RBk w b 0 0 x l) (hT : Tb (w.setCell ⟨b, 1, none⟩ (.int .i32 1)) w1 tb 0)
    (hw : w' = ((((w1.setCell ⟨b, 3, none⟩ (tabV tb)).setCell ⟨b, 4, none⟩ (.slice none 0 0)).drew.setCell ⟨b, 0, none⟩ (.int .u32 1)).setCell ⟨b, 1, none⟩ (.int .i32 0))) : Dn w w' b tb := by
  have h1 := h.s1 (m' := 1)
  have r1 := h1.below hT.below
  have hsz : (w.setCell ⟨b, 1, none⟩ (.int .i32 1)).heap.size = w.heap.size := setCell_size ..
  have t1 := hT.tbl
  rw [hsz] at t1
  have r2 := r1.s3 (x' := tabV tb)
  have r3 := r2.s4 (l' := .slice none 0 0)
  have r4 := r3.drew.s0 (d' := 1)
  have r5 := r4.s1 (m' := 0)
  subst hw
  refine ⟨r5, ((((t1.setCell r1 3 _).setCell r2 4 _).drew.setCell r3.drew 0 _).setCell r4 1 _), ?_⟩
  have b0 : Below b w (w.setCell ⟨b, 1, none⟩ (.int .i32 1)) := (Below.refl b w).setCell (p := ⟨b, 1, none⟩) (Nat.le_refl _) _
  have b1 : Below b w w1 := b0.trans (hT.below.mono (by rw [hsz]; have := h.lt; omega))
  exact (((b1.setCell (p := ⟨b, 3, none⟩) (Nat.le_refl _) _).setCell (p := ⟨b, 4, none⟩) (Nat.le_refl _) _).drew.setCell (p := ⟨b, 0, none⟩) (Nat.le_refl _) _).setCell (p := ⟨b, 1, none⟩) (Nat.le_refl _) _
theorem meth_tab (n : Nat) (a : Addr) (w : World) : (method (n + 1) 135 (.pointer (some a)) "Replace").run Tryz.prog w = .ok (148, .pointer (some a)) w := by kernel_rfl
set_option maxRecDepth 100000 in
theorem replace_walk (b ob cap : Nat) (s : ByteArray) (w : World) (h : RBk w b 0 0 .nilIface (.slice (some ⟨ob, 0, none⟩) 8 cap)) (hob : ob ≠ b) (ho : ∀ j, j < 8 → w.cell? ⟨ob, j, none⟩ = some (oldV j)) (hs : s.size ≤ 100000000) :
    Calls Tryz.prog 37 #[.pointer (some ⟨b, 0, none⟩), .string s] w fun e w' => e = .returned (.string ⟨(escB s.data.toList).toArray⟩) ∧ Below b w w' := by
  have HO := Lib.hid ho
  have H := Lib.hid h
  clear h ho
  have hm := meth_tab
  go_enter Tryz.func37, Tryz.ntmps37
  go_wp2_with (first
    | (go_at_call 148; refine (tabReplace_walk _ tb s _ HD.out.t hs).mono ?_; rintro e w2 ⟨rfl, hb2⟩; have HB2 := Lib.hid hb2; clear hb2)
    | go_at_call 55; refine (do_walk b ob cap _ H.out hob HO.out).mono ?_; rintro e w' ⟨rfl, tb, w1, hT, hw⟩; have hd := dn_of H.out hT hw; have c3 := hd.r.c 3; unfold tabV at c3; simp at c3; have HD := Lib.hid hd; clear hT hw hd)
  refine bodyPost_ret (v := .string ⟨(escB s.data.toList).toArray⟩) (by simp [results, Tryz.results37, go_sem]) rfl ?_
  exact ⟨rfl, HD.out.b.trans (HB2.out.mono (Nat.le_trans (Nat.le_of_lt H.out.lt) HD.out.b.size))⟩
set_option maxRecDepth 100000 in
theorem escape_walk (s : ByteArray) (w : World) (hs : s.size ≤ 100000000) :
    Calls Tryz.prog 22 #[.string s] w fun e w' => e = .returned (.string ⟨(escB s.data.toList).toArray⟩) ∧ Below w.heap.size w w' := by
  go_enter Tryz.func22, Tryz.ntmps22
  go_wp2_with (first
    | (go_at_call 36
       have ho : ∀ j, j < 8 → (w.alloc (.cells #[oldV 0, oldV 1, oldV 2, oldV 3, oldV 4, oldV 5, oldV 6, oldV 7] 9)).cell? ⟨w.heap.size, j, none⟩ = some (oldV j) := fun j hj => by rw [new_cell, ← Array.getElem?_toList]; exact olds_get j hj
       have hb0 : Below w.heap.size w (w.alloc (.cells #[oldV 0, oldV 1, oldV 2, oldV 3, oldV 4, oldV 5, oldV 6, oldV 7] 9)) := (Below.refl _ w).alloc (Nat.le_refl _) _
       refine (newReplacer_walk w.heap.size _ ho).mono ?_
       rintro e w2 ⟨hb2, b, ob, cap, g1, g2, hob, rfl, hr, hc⟩
       have HB2 := Lib.hid (hb0.trans (hb2.mono hb0.size)); have HR := Lib.hid hr; have HC := Lib.hid hc
       have HG := Lib.hid (Nat.le_trans hb0.size g1)
       clear ho hb0 hb2 hr hc g1 g2)
    | (go_at_call 37
       refine (replace_walk b ob cap s _ HR.out hob HC.out hs).mono ?_
       rintro e w3 ⟨rfl, hb3⟩
       have HB3 := Lib.hid hb3
       clear hb3))
  refine bodyPost_ret (v := .string ⟨(escB s.data.toList).toArray⟩) (by simp [results, Tryz.results22, go_sem]) rfl ?_
  exact ⟨rfl, HB2.out.trans (HB3.out.mono HG.out)⟩
end Go.Proofs.YtffcapkjfmkkaaaGreatDoor
namespace Go.Proofs.YtffcapkjfmkkaaaGreatDoor
open Go.RowKit
def closeB (n : Bs) : Bs := 60 :: 47 :: (n ++ [62])
def clo : List Bs → Bs
  | [] => []
  | t :: r => closeB t ++ clo r
def leafB (n : Nod) : List Nod → Bool
  | [] => decide (n.text = [])
  | m :: _ => decide (n.text = []) && decide (m.deep ≤ n.deep)
/-- What is written; the names that are open, the last first. -/
def prS : List Nod → List Bs → Bs
  | [], st => clo st
  | n :: l, st => clo (st.take (st.length - n.deep.toNat)) ++ (openB n ++ (if leafB n l = true then 47 :: 62 :: prS l (st.drop (st.length - n.deep.toNat)) else 62 :: (escB n.text ++ prS l (n.name :: st.drop (st.length - n.deep.toNat)))))
def coreS (n : Nod) (l : List Nod) (st : List Bs) : Bs := openB n ++ (if leafB n l = true then 47 :: 62 :: prS l st else 62 :: (escB n.text ++ prS l (n.name :: st)))
def okC : List Nod → Prop
  | [] => True
  | n :: l => 0 ≤ n.deep ∧ (∀ m r, l = m :: r → m.deep ≤ n.deep + 1 ∧ (n.deep < m.deep → n.text = [])) ∧ okC l
def hdLe (d : Int) (l : List Nod) : Prop := ∀ m r, l = m :: r → m.deep ≤ d
theorem okC_app (t r : List Nod) (h : okC (t ++ r)) : okC r := by
  induction t with
  | nil => exact h
  | cons a t ih => exact ih h.2.2
theorem okC_suffix {l r : List Nod} (h : okC l) (hs : r <:+ l) : okC r := by
  obtain ⟨t, rfl⟩ := hs; exact okC_app t r h
theorem fin1_ne (n : Nod) (ins : Bs) : fin1 n ins ≠ [] := by
  unfold fin1 openB; split <;> simp
theorem wrK_ge (f : Nat) : ∀ d l acc, acc.length ≤ (wrK f d l acc).1.length := by
  induction f with
  | zero => intro d l acc; simp [wrK]
  | succ f ih =>
    intro d l acc
    cases l with
    | nil => simp [wrK]
    | cons m l =>
      rw [wrK]
      split
      · have := ih d (wrE f (m :: l)).2 (acc ++ (wrE f (m :: l)).1)
        rw [List.length_append] at this; omega
      · exact Nat.le_refl _
theorem escB_ne {l : Bs} (h : l ≠ []) : escB l ≠ [] := by
  cases l with
  | nil => exact absurd rfl h
  | cons c l =>
    rw [escB]
    have := esc1_len c
    intro he
    have : (esc1 c ++ escB l).length = 0 := by rw [he]; rfl
    rw [List.length_append] at this; omega
theorem core_pop (m : Nod) (r : List Nod) (st : List Bs) (h : st.length = m.deep.toNat) : prS (m :: r) st = coreS m r st := by
  rw [prS, h, Nat.sub_self]; rfl
theorem wr_prS (f : Nat) :
    (∀ n l st, 2 * (l.length + 1) ≤ f → okC (n :: l) → st.length = n.deep.toNat → coreS n l st = (wrE f (n :: l)).1 ++ prS (wrE f (n :: l)).2 st ∧ hdLe n.deep (wrE f (n :: l)).2) ∧
    (∀ d l acc name st, 2 * l.length + 1 ≤ f → okC l → 0 ≤ d → hdLe (d + 1) l → st.length = d.toNat → acc ++ prS l (name :: st) = (wrK f d l acc).1 ++ (closeB name ++ prS (wrK f d l acc).2 st) ∧ hdLe d (wrK f d l acc).2) := by
  induction f with
  | zero => exact ⟨fun n l st h => by omega, fun d l acc name st h => by omega⟩
  | succ f ih =>
    refine ⟨fun n l st hf hok hst => ?_, fun d l acc name st hf hok hd hh hst => ?_⟩
    · rw [wrE]
      have hB := ih.2 n.deep l (escB n.text) n.name st (by omega) hok.2.2 hok.1 (fun m r e => (hok.2.1 m r e).1) hst
      refine ⟨?_, hB.2⟩
      unfold coreS
      by_cases hl : leafB n l = true
      · rw [if_pos hl]
        obtain ⟨f', rfl⟩ : ∃ f', f = f' + 1 := ⟨f - 1, by omega⟩
        have ht : n.text = [] := by cases l <;> simp [leafB] at hl <;> first | exact hl | exact hl.1
        have hk : wrK (f' + 1) n.deep l (escB n.text) = ([], l) := by
          rw [ht]
          cases l with
          | nil => simp [wrK, escB]
          | cons m r =>
            simp [leafB] at hl
            rw [wrK, if_neg (by omega)]; rfl
        rw [hk]
        simp [fin1]
      · rw [if_neg hl]
        have hne : (wrK f n.deep l (escB n.text)).1 ≠ [] := by
          intro he
          have hge := wrK_ge f n.deep l (escB n.text)
          rw [he] at hge
          have h0 : escB n.text = [] := List.eq_nil_of_length_eq_zero (by simpa using hge)
          have ht : n.text = [] := by
            by_cases hh : n.text = []
            · exact hh
            · exact absurd h0 (escB_ne hh)
          cases l with
          | nil => simp [leafB, ht] at hl
          | cons m r =>
            simp [leafB, ht] at hl
            obtain ⟨f', rfl⟩ : ∃ f', f = f' + 2 := ⟨f - 2, by simp at hf; omega⟩
            rw [wrK, if_pos (by omega)] at he
            have hge2 := wrK_ge (f' + 1) n.deep (wrE (f' + 1) (m :: r)).2 (escB n.text ++ (wrE (f' + 1) (m :: r)).1)
            rw [he, List.length_append] at hge2
            have : (wrE (f' + 1) (m :: r)).1 ≠ [] := by rw [wrE]; exact fin1_ne _ _
            have := List.length_pos_iff.2 this
            rw [List.length_nil] at hge2; omega
        unfold fin1
        rw [if_neg hne]
        have e := hB.1
        unfold closeB at e
        rw [List.append_assoc, e]; simp
    · cases l with
      | nil =>
        rw [wrK]
        exact ⟨rfl, fun m r e => by cases e⟩
      | cons m r =>
        rw [wrK]
        have hm0 : 0 ≤ m.deep := hok.1
        by_cases hlt : d < m.deep
        · rw [if_pos hlt]
          have hmd : m.deep = d + 1 := by have := hh m r rfl; omega
          have hA := ih.1 m r (name :: st) (by simp at hf; omega) hok (by rw [List.length_cons, hst]; omega)
          have hsuf : (wrE f (m :: r)).2 <:+ r := by
            obtain ⟨f', rfl⟩ : ∃ f', f = f' + 1 := ⟨f - 1, by simp at hf; omega⟩
            exact wrE_rest f' m r
          have hl := hsuf.length_le
          have hB := ih.2 d (wrE f (m :: r)).2 (acc ++ (wrE f (m :: r)).1) name st (by simp at hf; omega) (okC_suffix hok.2.2 hsuf) hd (fun m' r' e => by have := hA.2 m' r' e; omega) hst
          rw [core_pop m r (name :: st) (by rw [List.length_cons, hst]; omega), hA.1]
          rw [← List.append_assoc]
          exact hB
        · rw [if_neg hlt]
          refine ⟨?_, fun m' r' e => by cases e; omega⟩
          congr 1
          rw [prS, prS]
          have e1 : (name :: st).length - m.deep.toNat = (st.length - m.deep.toNat) + 1 := by rw [List.length_cons, hst]; omega
          rw [e1, List.take_succ_cons, List.drop_succ_cons, clo, List.append_assoc]
theorem okC_of {l : List Nod} (h : chainB l = true) (h0 : ∀ m r, l = m :: r → 0 ≤ m.deep) : okC l := by
  induction l with
  | nil => trivial
  | cons a l ih =>
    cases l with
    | nil => exact ⟨h0 a [] rfl, (fun m r e => nomatch e), trivial⟩
    | cons b l =>
      simp only [chainB, Bool.and_eq_true] at h
      obtain ⟨h1, h2, h3, h4⟩ := h
      simp [pairD] at h3
      refine ⟨h0 a _ rfl, fun m r e => ?_, ih h4 fun m r e => by cases e; omega⟩
      cases e
      refine ⟨h3.2, fun hlt => ?_⟩
      simp [pairT] at h2
      rcases h2 with h2 | h2
      · omega
      · exact h2
theorem chain_deep {a : Nod} {l : List Nod} (h : chainB (a :: l) = true) : ∀ x ∈ l, 1 ≤ x.deep := by
  induction l generalizing a with
  | nil => intro x hx; cases hx
  | cons b l ih =>
    simp only [chainB, Bool.and_eq_true] at h
    obtain ⟨h1, h2, h3, h4⟩ := h
    simp [pairD] at h3
    intro x hx
    rcases List.mem_cons.1 hx with rfl | hx
    · exact h3.1
    · exact ih h4 x hx
theorem prS_all (ns : List Nod) (h : checkB ns = true) : prS ns [] = (wrE (2 * ns.length + 1) ns).1 := by
  unfold checkB at h
  simp only [Bool.and_eq_true, decide_eq_true_eq] at h
  obtain ⟨⟨⟨h1, h2⟩, h3⟩, h4⟩ := h
  cases ns with
  | nil => simp at h1
  | cons n l =>
    simp at h3
    have hok : okC (n :: l) := okC_of h4 fun m r e => by cases e; omega
    have hA := (wr_prS (2 * (n :: l).length + 1)).1 n l [] (by simp) hok (by rw [h3]; rfl)
    rw [core_pop n l [] (by rw [h3]; rfl), hA.1]
    have hsuf := wrE_rest (2 * (n :: l).length) n l
    have hr : (wrE (2 * (n :: l).length + 1) (n :: l)).2 = [] := by
      cases hx : (wrE (2 * (n :: l).length + 1) (n :: l)).2 with
      | nil => rfl
      | cons m r =>
        have g1 := hA.2 m r hx
        rw [hx] at hsuf
        have g2 := chain_deep h4 m (hsuf.subset (List.mem_cons_self ..))
        omega
    rw [hr, prS, clo, List.append_nil]
end Go.Proofs.YtffcapkjfmkkaaaGreatDoor
namespace Go.Proofs.YtffcapkjfmkkaaaGreatDoor
open Go.RowKit
/-- Blocks of other types than the builder's and its row's are as they were. -/
def Kp (w w' : World) : Prop := ∀ (k : Nat) (cs : Array Value) (T : TypeId) (fr : Nat × Nat), w.heap[k]? = some (.cells cs T fr) → T ≠ 5 → T ≠ 53 → w'.heap[k]? = w.heap[k]?
theorem Kp.refl (w : World) : Kp w w := fun _ _ _ _ _ _ _ => rfl
theorem Kp.trans {a b c : World} (h : Kp a b) (k : Kp b c) : Kp a c := fun i cs T fr hi h1 h2 => by
  have e := h i cs T fr hi h1 h2
  rw [k i cs T fr (by rw [e]; exact hi) h1 h2, e]
theorem Kp.below {w w' : World} (h : Below w.heap.size w w') : Kp w w' := fun i _ _ _ hi _ _ => h.block i (Array.getElem?_eq_some_iff.1 hi).1
theorem Kp.set {w : World} {b : Nat} {c0 : Array Value} {fr0 : Nat × Nat} (hb : w.heap[b]? = some (.cells c0 53 fr0)) (j : Nat) (u : Value) : Kp w (w.setCell ⟨b, j, none⟩ u) := fun i cs T fr hi h1 h2 =>
  Below.heap_setCell _ _ _ _ fun e => by
    have e : i = b := e
    subst e; rw [hb] at hi; injection hi with hi; injection hi with _ ht; exact h2 ht.symm
theorem Kp.grown {w w' : World} {B n : Nat} {v : Value} {xs : List Value} (hg : w.grownBy w' v.ownBlock) (ho : w.ownsRow B 5 1 v n xs) : Kp w w' := fun i cs T fr hi h1 _ =>
  hg.block i (Array.getElem?_eq_some_iff.1 hi).1 fun e => by
    obtain ⟨cs', h'⟩ := own_at ho e.symm
    rw [hi] at h'; injection h' with h'; injection h' with _ ht; exact h1 ht
abbrev Bdr (B b : Nat) (l : Bs) (w : World) : Prop := Lib.IsBuilder 53 5 B b (Lib.byteCells l) w
theorem bCheck2 (B b : Nat) (bs : List Value) (w : World) (h : Lib.IsBuilder 53 5 B b bs w) :
    Calls Tryz.prog 35 #[.pointer (some ⟨b, 0, none⟩)] w fun e w' => e = .returned (.tuple #[]) ∧ (Lib.BuilderAt 53 5 B b (.pointer (some ⟨b, 0, none⟩)) bs w' ∧ Below B w w' ∧ w'.heap.size = w.heap.size ∧ Kp w w') := by
  rcases h with h | h
  · refine (bCheck_fresh b w h.cell0 h.shape h.frozen0).mono ?_
    rintro e w' ⟨rfl, rfl⟩
    obtain ⟨v, hb, -⟩ := h.2
    exact ⟨rfl, h.used _, (Below.refl B w).setCell (p := ⟨b, 0, none⟩) h.1 _, setCell_size .., Kp.set hb 0 _⟩
  · refine (bCheck_used b w h.cell0).mono ?_
    rintro e w' ⟨rfl, rfl⟩
    exact ⟨rfl, h, Below.refl B _, rfl, Kp.refl _⟩
set_option maxHeartbeats 2000000 in
set_option maxRecDepth 100000 in
theorem bString2 (B b : Nat) (l t : Bs) (w : World) (h : Bdr B b l w) (hlen : l.length + t.length ≤ 140737488355328) (hBw : B ≤ w.heap.size) :
    Calls Tryz.prog 21 #[.pointer (some ⟨b, 0, none⟩), .string ⟨t.toArray⟩] w fun e w' => e = .returned (.tuple #[.int .i64 t.length, .nilIface]) ∧ Bdr B b (l ++ t) w' ∧ Below B w w' ∧ Kp w w' := by
  obtain ⟨i0, hi, hz0, hz1, hz2⟩ := info_parts infoU8
  have hll : (Lib.byteCells l).length = l.length := Lib.byteCells_length l
  obtain ⟨s, hs, hs1⟩ : ∃ s : ByteArray, (⟨t.toArray⟩ : ByteArray) = s ∧ s.size = t.length := ⟨_, rfl, rfl⟩
  rw [hs]
  go_enter Tryz.func21, Tryz.ntmps21
  go_wp2_with (go_at_call 35; refine (bCheck2 B b _ _ h).mono ?_)
  rintro e w1 ⟨rfl, h1, hb1, hsz1, hk1⟩
  obtain ⟨hB, v, hbk, hown, hne⟩ := h1
  have c0 : w1.cell? ⟨b, 0, none⟩ = some (.pointer (some ⟨b, 0, none⟩)) := by rw [Lib.cell_of_heap hbk]; rfl
  have c1 : w1.cell? ⟨b, 1, none⟩ = some v := by rw [Lib.cell_of_heap hbk]; rfl
  have HK1 := Lib.hid hk1
  clear hk1
  go_wp2_with (at_builtin; refine Lib.wpList_append_own_string _ rfl _ _ 51 9 rfl B 5 i0 Tryz.underlying51 Tryz.underlying9 hi hz0 hz1 hz2 _ _ _ rfl hown s rfl ?c3 ?c4 ?c5 ?_)
  case c3 => rw [hll]; unfold maxLen; omega
  case c4 => rw [hll]; omega
  case c5 => have := hb1.size; omega
  intro v' w2 hown' hgrow _
  have hlt : b < w1.heap.size := by
    rcases Nat.lt_or_ge b w1.heap.size with h' | h'
    · exact h'
    · simp [Array.getElem?_eq_none h'] at hbk
  have hb2 : w2.heap[b]? = some (.cells #[.pointer (some ⟨b, 0, none⟩), v] 53 (0, 0)) := by
    rw [hgrow.block b hlt (fun e => hne e.symm)]
    exact hbk
  have d0 : w2.cell? ⟨b, 0, none⟩ = some (.pointer (some ⟨b, 0, none⟩)) := by rw [Lib.cell_of_heap hb2]; rfl
  have d1 : w2.cell? ⟨b, 1, none⟩ = some v := by rw [Lib.cell_of_heap hb2]; rfl
  have f1 : w2.frozen? ⟨b, 1, none⟩ = false := Lib.frozen_of_heap hb2 1
  have HK2 := Lib.hid ((HK1.out.trans (Kp.grown hgrow hown)))
  obtain ⟨ao, n', cap, rfl⟩ : ∃ ao n' cap, v' = .slice ao n' cap := by
    rcases hown'.2 with ⟨hv, _⟩ | ⟨g, cap, cur, hv, _⟩
    · exact ⟨_, _, _, hv⟩
    · exact ⟨_, _, _, hv⟩
  go_wp2
  go_ret2
  refine ⟨rfl, .inr ?_, ?_, ?_⟩
  · refine Lib.BuilderAt.put (T := 53) (e := 5) hB hb2 (bs' := Lib.byteCells (l ++ t)) ?_ (by decide)
    have e1 : Lib.byteCells (l ++ t) = Lib.byteCells l ++ Lib.strCells s := by rw [← hs, Lib.byteCells_append]; rfl
    rw [e1]
    simpa [Lib.strCells_length, hll, hs1] using hown'
  · exact (hb1.grown hgrow (by have := hb1.size; omega) (fun k hk => (hown.lt k hk).1)).setCell (p := ⟨b, 1, none⟩) hB _
  · exact HK2.out.trans (Kp.set hb2 1 _)
end Go.Proofs.YtffcapkjfmkkaaaGreatDoor
namespace Go.Proofs.YtffcapkjfmkkaaaGreatDoor
open Go.RowKit
def strV (t : Bs) : Value := .string ⟨t.toArray⟩
theorem row_keep {w w' : World} {B n size : Nat} {e : TypeId} {v : Value} {xs : List Value} (h : w.ownsRow B e size v n xs) (hk : ∀ (g : Nat) (cs : Array Value), w.heap[g]? = some (.cells cs e (0, 0)) → w'.heap[g]? = w.heap[g]?) : w'.ownsRow B e size v n xs := by
  refine ⟨h.1, h.2.imp id ?_⟩
  rintro ⟨g, cap, cur, k1, k2, k3, k4⟩
  exact ⟨g, cap, cur, k1, k2, by rw [hk g cur k3]; exact k3, k4⟩
/-- The builder and the names that are open. -/
structure Pr (w wr : World) (bb : Nat) (ov : Value) (out : Bs) (st : List Bs) : Prop where
  b : Below w.heap.size w wr
  d : Bdr w.heap.size bb out wr
  o : wr.ownsRow w.heap.size 9 1 ov st.length (st.reverse.map strV)
theorem Bdr.keep {B b : Nat} {l : Bs} {w w' : World} (h : Bdr B b l w) (hk : ∀ (g : Nat) (cs : Array Value) (T : TypeId), T = 5 ∨ T = 53 → w.heap[g]? = some (.cells cs T (0, 0)) → w'.heap[g]? = w.heap[g]?) : Bdr B b l w' := by
  have key : ∀ p, Lib.BuilderAt 53 5 B b p (Lib.byteCells l) w → Lib.BuilderAt 53 5 B b p (Lib.byteCells l) w' := by
    rintro p ⟨hB, v, hb, ho, hn⟩
    exact ⟨hB, v, by rw [hk _ _ _ (.inr rfl) hb]; exact hb, row_keep ho fun g cs hg => hk g cs _ (.inl rfl) hg, hn⟩
  exact h.imp (key _) (key _)
theorem Pr.below {w wr w2 : World} {bb : Nat} {ov : Value} {out : Bs} {st : List Bs} (h : Pr w wr bb ov out st) (hb : Below wr.heap.size wr w2) : Pr w w2 bb ov out st :=
  ⟨h.b.trans (hb.mono h.b.size), h.d.keep fun g _ _ _ hg => hb.block g (Array.getElem?_eq_some_iff.1 hg).1, row_keep h.o fun g _ hg => hb.block g (Array.getElem?_eq_some_iff.1 hg).1⟩
theorem Pr.write {w wr w2 : World} {bb : Nat} {ov : Value} {out out2 : Bs} {st : List Bs} (h : Pr w wr bb ov out st) (hd : Bdr w.heap.size bb out2 w2) (hb : Below w.heap.size wr w2) (hk : Kp wr w2) : Pr w w2 bb ov out2 st :=
  ⟨h.b.trans hb, hd, row_keep h.o fun g cs hg => hk g cs _ _ hg (by decide) (by decide)⟩
theorem Pr.push {w wr w2 : World} {bb g cap : Nat} {ov : Value} {out t : Bs} {st : List Bs} (h : Pr w wr bb ov out st) (hg : wr.grownBy w2 ov.ownBlock) (ho : w2.ownsRow w.heap.size 9 1 (.slice (some ⟨g, 0, none⟩) (st.length + 1) cap) (st.length + 1) (st.reverse.map strV ++ [strV t])) : Pr w w2 bb (.slice (some ⟨g, 0, none⟩) (st.length + 1) cap) out (t :: st) := by
  refine ⟨h.b.grown hg h.b.size fun k hk => (h.o.lt k hk).1, h.d.keep fun g cs T hT hgg => hg.block g (Array.getElem?_eq_some_iff.1 hgg).1 fun e => ?_, by simpa using ho⟩
  obtain ⟨cs', h'⟩ := own_at h.o e.symm
  rw [hgg] at h'; injection h' with h'; injection h' with _ ht
  subst ht
  rcases hT with hT | hT <;> revert hT <;> decide
/-- The last name that is open, and the rest. -/
theorem Pr.top {w wr : World} {bb : Nat} {ov : Value} {out t : Bs} {st : List Bs} (h : Pr w wr bb ov out (t :: st)) : ∃ g cap, ov = .slice (some ⟨g, 0, none⟩) (st.length + 1) cap ∧ st.length + 1 ≤ cap ∧ wr.cell? ⟨g, st.length, none⟩ = some (strV t) ∧ Pr w wr bb (.slice (some ⟨g, 0, none⟩) st.length cap) out st := by
  obtain ⟨h1, h2, h3⟩ := h
  obtain ⟨hl, ⟨rfl, h0⟩ | ⟨g, cap, cur, rfl, hg, hh, k1, k2, k3, k4⟩⟩ := h3
  · simp at h0
  · simp only [List.length_cons, Nat.mul_one] at *
    refine ⟨g, cap, rfl, k1, ?_, h1, h2, by simp, .inr ⟨g, cap, cur, rfl, hg, hh, by omega, k2, by simpa using k3, ?_⟩⟩
    · rw [blk_cell hh, ← Array.getElem?_toList]
      have : (cur.toList.take (st.length + 1))[st.length]? = some (strV t) := by
        rw [k4]; simp
      rw [List.getElem?_take, if_pos (by omega)] at this
      exact this
    · have e := congrArg (List.take st.length) k4
      rw [List.take_take, Nat.min_eq_left (by omega)] at e
      rw [Nat.mul_one, e, List.reverse_cons, List.map_append, List.take_append_of_le_length (by simp), List.take_of_length_le (by simp)]
theorem Pr.len {w wr : World} {bb : Nat} {ov : Value} {out : Bs} {st : List Bs} (h : Pr w wr bb ov out st) : ∃ a cap, ov = .slice a st.length cap := by
  obtain ⟨hl, ⟨rfl, h0⟩ | ⟨g, cap, cur, rfl, -⟩⟩ := h.o
  · exact ⟨none, 0, by rw [h0]⟩
  · exact ⟨_, _, rfl⟩
/-- The names that are open, by their places. -/
theorem Pr.at_ {w wr : World} {bb g n cap : Nat} {out : Bs} {st : List Bs} (h : Pr w wr bb (.slice (some ⟨g, 0, none⟩) n cap) out st) (i : Nat) (hi : i < st.length) : wr.cell? ⟨g, st.length - 1 - i, none⟩ = some (strV st[i]) := by
  obtain ⟨hl, ⟨h1, h0⟩ | ⟨g', cap', cur, h1, hg, hh, k1, k2, k3, k4⟩⟩ := h.o
  · cases h1
  · injection h1 with h1 h2 h3
    injection h1 with h1; injection h1 with h1; subst h1
    rw [blk_cell hh, ← Array.getElem?_toList]
    have : (cur.toList.take (st.length * 1))[st.length - 1 - i]? = some (strV st[i]) := by
      rw [k4, List.getElem?_map, List.getElem?_reverse (by omega), show st.length - 1 - (st.length - 1 - i) = i from by omega, List.getElem?_eq_getElem hi]; rfl
    rw [List.getElem?_take, if_pos (by omega)] at this
    exact this
theorem bString3 (B b : Nat) (l t : Bs) (s : ByteArray) (w : World) (hs : s.data.toList = t) (h : Bdr B b l w) (hlen : l.length + t.length ≤ 140737488355328) (hBw : B ≤ w.heap.size) :
    Calls Tryz.prog 21 #[.pointer (some ⟨b, 0, none⟩), .string s] w fun e w' => e = .returned (.tuple #[.int .i64 t.length, .nilIface]) ∧ Bdr B b (l ++ t) w' ∧ Below B w w' ∧ Kp w w' := by
  have e : s = ⟨t.toArray⟩ := by subst hs; simp
  rw [e]
  exact bString2 B b l t w h hlen hBw
theorem Pr.put (bb : Nat) (t : Bs) (s : ByteArray) {w wr : World} {ov : Value} {out : Bs} {st : List Bs} (hs : s.data.toList = t) (h : Pr w wr bb ov out st) (hlen : out.length + t.length ≤ 140737488355328) :
    Calls Tryz.prog 21 #[.pointer (some ⟨bb, 0, none⟩), .string s] wr fun e w' => e = .returned (.tuple #[.int .i64 t.length, .nilIface]) ∧ Pr w w' bb ov (out ++ t) st ∧ Below w.heap.size wr w' ∧ Kp wr w' := by
  refine (bString3 w.heap.size bb out t s wr hs h.d hlen h.b.size).mono ?_
  rintro e w' ⟨rfl, hd, hb, hk⟩
  exact ⟨rfl, h.write hd hb hk, hb, hk⟩
/-- What is still to write at an element: the names that close, then the element. -/
def toGo (n : Nod) (l : List Nod) (st : List Bs) : Bs := clo (st.take (st.length - n.deep.toNat)) ++ coreS n l (st.drop (st.length - n.deep.toNat))
theorem prS_cons (n : Nod) (l : List Nod) (st : List Bs) : prS (n :: l) st = toGo n l st := rfl
theorem toGo_pop (n : Nod) (l : List Nod) (t : Bs) (st : List Bs) (h : n.deep.toNat < st.length + 1) : toGo n l (t :: st) = closeB t ++ toGo n l st := by
  unfold toGo
  have e1 : (t :: st).length - n.deep.toNat = (st.length - n.deep.toNat) + 1 := by rw [List.length_cons]; omega
  rw [e1, List.take_succ_cons, List.drop_succ_cons, clo, List.append_assoc]
theorem toGo_at (n : Nod) (l : List Nod) (st : List Bs) (h : st.length ≤ n.deep.toNat) : toGo n l st = coreS n l st := by
  unfold toGo
  rw [Nat.sub_eq_zero_of_le h]; rfl
theorem prS_len (ns : List Nod) (h : checkB ns = true) : (prologB ++ prS ns []).length ≤ 39 + costs ns := by
  rw [prS_all ns h, List.length_append]
  have := ((wr_len (2 * ns.length + 1)).1 ns).1
  have e : prologB.length = 39 := rfl
  omega
end Go.Proofs.YtffcapkjfmkkaaaGreatDoor
namespace Go.Proofs.YtffcapkjfmkkaaaGreatDoor
open Go.RowKit
theorem pCheck_val (u : Value) (ns : List Nod) (w : World) (hp : RNod w u ns) (hpl : ∀ n ∈ ns, n.attrs.length < maxLen) (b : Bool) (h : checkB ns = b) :
    Calls Tryz.prog 12 #[u] w fun e w' => e = .returned (.int .i64 (chkI b)) ∧ Below w.heap.size w w' := by
  subst h; exact Check_walk u ns w hp hpl
theorem check_facts {ns : List Nod} (h : checkB ns = true) : 1 ≤ ns.length ∧ ns.length ≤ 200 ∧ okC ns ∧ ∀ k (hk : k < ns.length), 0 ≤ ns[k].deep ∧ ns[k].deep < 8 ∧ ns[k].attrs.length ≤ 16 := by
  unfold checkB at h
  simp only [Bool.and_eq_true, decide_eq_true_eq] at h
  obtain ⟨⟨⟨h1, h2⟩, h3⟩, h4⟩ := h
  have hh : ∀ m r, ns = m :: r → 0 ≤ m.deep := fun m r e => by subst e; simp at h3; omega
  have hel : ∀ l : List Nod, chainB l = true → ∀ k (hk : k < l.length), elemOK l[k] = true := by
    intro l hl
    induction l with
    | nil => intro k hk; simp at hk
    | cons a l ih =>
      have hc : elemOK a = true ∧ chainB l = true := by
        cases l with
        | nil => exact ⟨by simpa [chainB] using hl, rfl⟩
        | cons b l => simp only [chainB, Bool.and_eq_true] at hl; exact ⟨hl.1, hl.2.2.2⟩
      intro k hk
      cases k with
      | zero => exact hc.1
      | succ k => exact ih hc.2 k (by simpa using hk)
  have hd : ∀ l : List Nod, okC l → ∀ k (hk : k < l.length), 0 ≤ l[k].deep := by
    intro l hl
    induction l with
    | nil => intro k hk; simp at hk
    | cons a l ih =>
      intro k hk
      cases k with
      | zero => exact hl.1
      | succ k => exact ih hl.2.2 k (by simpa using hk)
  refine ⟨h1, h2, okC_of h4 hh, fun k hk => ⟨hd ns (okC_of h4 hh) k hk, ?_⟩⟩
  have he := hel ns h4 k hk
  simp only [elemOK, Bool.and_eq_true, decide_eq_true_eq] at he
  have ha := he.1.1.2
  simp only [attrsB, Bool.and_eq_true, decide_eq_true_eq] at ha
  exact ⟨he.1.1.1.1, ha.1⟩
theorem nod_cell0 {w : World} {nb : Nat} {n : Nod} {va : Value} (h : w.heap[nb]? = some (nodRow n va)) : w.cell? ⟨nb, 0, none⟩ = some (.int .i64 n.deep) := blk_cell h 0
theorem nod_cell1 {w : World} {nb : Nat} {n : Nod} {va : Value} (h : w.heap[nb]? = some (nodRow n va)) : w.cell? ⟨nb, 1, none⟩ = some (.string ⟨n.name.toArray⟩) := blk_cell h 1
theorem nod_cell2' {w : World} {nb : Nat} {n : Nod} {va : Value} (h : w.heap[nb]? = some (nodRow n va)) : w.cell? ⟨nb, 2, none⟩ = some va := blk_cell h 2
theorem nod_cell3 {w : World} {nb : Nat} {n : Nod} {va : Value} (h : w.heap[nb]? = some (nodRow n va)) : w.cell? ⟨nb, 3, none⟩ = some (.string ⟨n.text.toArray⟩) := blk_cell h 3
theorem closeB_cat (t : Bs) : ((⟨#[60, 47]⟩ : ByteArray) ++ ⟨t.toArray⟩ ++ ⟨#[62]⟩).data.toList = closeB t := by
  rw [Joins.data_append, Joins.data_append]; rfl
theorem open_cat (t : Bs) : ((⟨#[60]⟩ : ByteArray) ++ ⟨t.toArray⟩).data.toList = 60 :: t := by
  rw [Joins.data_append]; rfl
def sliceLen : Value → Nat
  | .slice _ n _ => n
  | _ => 0
def findBlk (n : Nat) : Code → Option Code
  | .block m c => if m = n then some (.block m c) else findBlk n c
  | .loop c => findBlk n c
  | .seq a b => match findBlk n a with
    | some c => some c
    | none => findBlk n b
  | .scope c => findBlk n c
  | .cond _ a b => match findBlk n a with
    | some c => some c
    | none => findBlk n b
  | _ => none
/-- A block of Print's code, by its number. -/
noncomputable def pBlk (n : Nat) : Code := (Tryz.f10.body.bind (findBlk n)).getD .skip
end Go.Proofs.YtffcapkjfmkkaaaGreatDoor
namespace Go.Proofs.YtffcapkjfmkkaaaGreatDoor
open Go.RowKit
set_option maxRecDepth 100000 in
set_option maxHeartbeats 4000000 in
theorem pop_piece (s0 s1 s2 s3 s4 s6 s7 s9 s10 s11 s12 s13 s14 s15 s16 s17 s18 s19 s20 s21 s22 s23 s24 s25 s26 s27 s28 s29 s30 s31 s32 s33 s34 s35 s36 s37 s38 s39 s40 s41 s42 s43 s44 s45 s46 s47 s48 s49 s50 s51 s52 s53 s54 s55 s56 s57 s58 s59 s60 s61 s62 s63 s64 s65 s66 s67 s68 s69 s70 s71 s72 s73 s74 s75 s76 s77 s78 s79 s80 s81 s82 s83 s84 s85 s86 s87 s88 s89 s90 s91 s92 s93 s94 s95 s96 s97 s98 s99 s100 s101 s102 s103 s104 s105 s106 s107 s108 s109 s110 s111 s112 s113 : Value) (Q : Exit → Act → World → Prop) (w wr : World) (bb nb : Nat) (n : Nod) (va : Value) (l : List Nod) (T out : Bs) (st : List Bs) (k : Nat)
    (hd : 0 ≤ n.deep) (hT : T.length ≤ 500000039) (hpr : Pr w wr bb s6 out st) (ht : T = out ++ toGo n l st) (hsk : st.length ≤ k) (hk : k ≤ 200) (hnb : wr.heap[nb]? = some (nodRow n va))
    (hQ : ∀ (u6 u25 u26 u27 u28 u29 u30 u31 u32 u33 u34 u35 u36 u37 u38 u39 u40 u41 u42 u43 : Value) (w' : World) (out : Bs) (st : List Bs), Pr w w' bb u6 out st → T = out ++ coreS n l st → st.length ≤ n.deep.toNat → st.length ≤ k → w'.heap[nb]? = some (nodRow n va) → Q .normal ⟨#[s0, s1, s2, s3, s4, .pointer (some ⟨bb, 0, none⟩), u6, s7, .pointer (some ⟨nb, 0, none⟩), s9, s10, s11, s12, s13, s14, s15, s16, s17, s18, s19, s20, s21, s22, s23, s24, u25, u26, u27, u28, u29, u30, u31, u32, u33, u34, u35, u36, u37, u38, u39, u40, u41, u42, u43, s44, s45, s46, s47, s48, s49, s50, s51, s52, s53, s54, s55, s56, s57, s58, s59, s60, s61, s62, s63, s64, s65, s66, s67, s68, s69, s70, s71, s72, s73, s74, s75, s76, s77, s78, s79, s80, s81, s82, s83, s84, s85, s86, s87, s88, s89, s90, s91, s92, s93, s94, s95, s96, s97, s98, s99, s100, s101, s102, s103, s104, s105, s106, s107, s108, s109, s110, s111, s112, s113], []⟩ w') :
    Code.wp Tryz.prog (pBlk 2) Q ⟨#[s0, s1, s2, s3, s4, .pointer (some ⟨bb, 0, none⟩), s6, s7, .pointer (some ⟨nb, 0, none⟩), s9, s10, s11, s12, s13, s14, s15, s16, s17, s18, s19, s20, s21, s22, s23, s24, s25, s26, s27, s28, s29, s30, s31, s32, s33, s34, s35, s36, s37, s38, s39, s40, s41, s42, s43, s44, s45, s46, s47, s48, s49, s50, s51, s52, s53, s54, s55, s56, s57, s58, s59, s60, s61, s62, s63, s64, s65, s66, s67, s68, s69, s70, s71, s72, s73, s74, s75, s76, s77, s78, s79, s80, s81, s82, s83, s84, s85, s86, s87, s88, s89, s90, s91, s92, s93, s94, s95, s96, s97, s98, s99, s100, s101, s102, s103, s104, s105, s106, s107, s108, s109, s110, s111, s112, s113], []⟩ wr := by
  have HQ := Lib.hid hQ
  have HPR := Lib.hid hpr
  have HT := Lib.hid ht
  have HNB := Lib.hid hnb
  clear hQ hpr ht hnb
  conv => arg 2; whnf
  go_wp2_with fail
  go_loopw [6] (fun o w2 => ∃ (out : Bs) (st : List Bs), Pr w w2 bb o out st ∧ T = out ++ toGo n l st ∧ st.length ≤ k ∧ w2.heap[nb]? = some (nodRow n va)) (fun o _ => sliceLen o)
  case atStart => exact ⟨out, st, HPR.out, HT.out, hsk, HNB.out⟩
  case round =>
    obtain ⟨out, st, hpr, ht, hsk, hnb⟩ := hrel
    have c0 := nod_cell0 hnb
    have HT3 := Lib.hid ht
    have HPR4 := Lib.hid hpr
    have HNB4 := Lib.hid hnb
    clear ht hpr hnb
    by_cases hpop : n.deep < st.length
    · obtain ⟨t, st', rfl⟩ : ∃ t st', st = t :: st' := by
        cases st with
        | nil => simp at hpop; omega
        | cons t st' => exact ⟨t, st', rfl⟩
      rw [List.length_cons] at hpop
      have hlen := congrArg List.length HT3.out
      rw [toGo_pop _ _ _ _ (by omega), List.length_append, List.length_append] at hlen
      have HT4 := Lib.hid (HT3.out.trans (by rw [toGo_pop _ _ _ _ (by omega), ← List.append_assoc]))
      obtain ⟨g, cap, rfl, hcap, hcell, hpr5⟩ := HPR4.out.top
      unfold strV at hcell
      have hpop' : n.deep < (st'.length : Int) + 1 := by omega
      have HPR5 := Lib.hid hpr5
      rw [List.length_cons] at hsk
      have hclo : (closeB t).length = t.length + 3 := by simp [closeB]
      have z1 : ¬ 9223372036854775807 < 2 + t.length := by omega
      have z2 : ¬ 9223372036854775807 < 2 + t.length + 1 := by omega
      have HL := Lib.hid (show out.length + (closeB t).length ≤ 140737488355328 by omega)
      have hcap2 : st'.length ≤ cap := by omega
      have HSK := Lib.hid (show st'.length ≤ k by omega)
      have hw64 : wrap64 (st'.length : Int) = st'.length := IntWalk.wrap64_in _ (by omega)
      clear hpr5 hlen
      go_wp2_with (go_at_call 21; refine (Pr.put bb (closeB t) _ (closeB_cat t) HPR5.out HL.out).mono ?_; rintro e w5 ⟨rfl, hp6, hb6, hk6⟩; have HPR6 := Lib.hid hp6; have HNB6 := Lib.hid ((hk6 _ _ _ _ HNB4.out (by decide) (by decide)).trans HNB4.out); clear hp6 hb6 hk6)
      exact ⟨⟨_, _, HPR6.out, HT4.out, HSK.out, HNB6.out⟩, Nat.lt_succ_self _⟩
    · obtain ⟨a3, cap3, rfl⟩ := HPR4.out.len
      go_wp2_with fail
      exact HQ.out _ _ _ _ _ _ _ _ _ _ _ _ _ _ _ _ _ _ _ _ _ _ _ HPR4.out (by rw [← toGo_at _ _ _ (by omega)]; exact HT3.out) (by omega) hsk HNB4.out
end Go.Proofs.YtffcapkjfmkkaaaGreatDoor
namespace Go.Proofs.YtffcapkjfmkkaaaGreatDoor
open Go.RowKit
theorem attr_cat (p : Par) : ((⟨#[32]⟩ : ByteArray) ++ ⟨p.name.toArray⟩ ++ ⟨#[61, 34]⟩ ++ ⟨(escB p.value).toArray⟩ ++ ⟨#[34]⟩).data.toList = attrO p := by
  simp only [Joins.data_append]
  simp [attrO]
set_option maxRecDepth 100000 in
set_option maxHeartbeats 4000000 in
theorem attr_piece (s0 s1 s2 s3 s4 s6 s7 s9 s10 s11 s12 s13 s14 s15 s16 s17 s18 s19 s20 s21 s22 s23 s24 s25 s26 s27 s28 s29 s30 s31 s32 s33 s34 s35 s36 s37 s38 s39 s40 s41 s42 s43 s44 s45 s46 s47 s48 s52 s53 s54 s55 s56 s57 s58 s59 s60 s61 s62 s63 s64 s65 s66 s67 s68 s69 s70 s71 s72 s73 s74 s75 s76 s77 s78 s79 s80 s81 s82 s83 s84 s85 s86 s87 s88 s89 s90 s91 s92 s93 s94 s95 s96 s97 s98 s99 s100 s101 s102 s103 s104 s105 s106 s107 s108 s109 s110 s111 s112 s113 : Value) (Q : Exit → Act → World → Prop) (w wr : World) (bb nb : Nat) (n : Nod) (va : Value) (A2 : Option Addr) (c2 : Nat) (out : Bs) (st : List Bs)
    (hpa : RPar w (.slice A2 n.attrs.length c2) n.attrs) (hal : n.attrs.length ≤ 16) (hco : costPs n.attrs ≤ 500000000) (hlen : (out ++ attrsO n.attrs).length ≤ 500000039) (hpr : Pr w wr bb s6 out st) (hnb : wr.heap[nb]? = some (nodRow n va))
    (hQ : ∀ (u10 u51 u52 u53 u54 u55 u56 u57 u58 u59 u60 u61 u62 u63 u64 u65 : Value) (w' : World), Pr w w' bb s6 (out ++ attrsO n.attrs) st → w'.heap[nb]? = some (nodRow n va) → Q .normal ⟨#[s0, s1, s2, s3, s4, .pointer (some ⟨bb, 0, none⟩), s6, s7, .pointer (some ⟨nb, 0, none⟩), s9, u10, s11, s12, s13, s14, s15, s16, s17, s18, s19, s20, s21, s22, s23, s24, s25, s26, s27, s28, s29, s30, s31, s32, s33, s34, s35, s36, s37, s38, s39, s40, s41, s42, s43, s44, s45, s46, s47, s48, .slice A2 n.attrs.length c2, .int .i64 n.attrs.length, u51, u52, u53, u54, u55, u56, u57, u58, u59, u60, u61, u62, u63, u64, u65, s66, s67, s68, s69, s70, s71, s72, s73, s74, s75, s76, s77, s78, s79, s80, s81, s82, s83, s84, s85, s86, s87, s88, s89, s90, s91, s92, s93, s94, s95, s96, s97, s98, s99, s100, s101, s102, s103, s104, s105, s106, s107, s108, s109, s110, s111, s112, s113], []⟩ w') :
    Code.wp Tryz.prog (pBlk 4) Q ⟨#[s0, s1, s2, s3, s4, .pointer (some ⟨bb, 0, none⟩), s6, s7, .pointer (some ⟨nb, 0, none⟩), s9, s10, s11, s12, s13, s14, s15, s16, s17, s18, s19, s20, s21, s22, s23, s24, s25, s26, s27, s28, s29, s30, s31, s32, s33, s34, s35, s36, s37, s38, s39, s40, s41, s42, s43, s44, s45, s46, s47, s48, .slice A2 n.attrs.length c2, .int .i64 n.attrs.length, .int .i64 0, s52, s53, s54, s55, s56, s57, s58, s59, s60, s61, s62, s63, s64, s65, s66, s67, s68, s69, s70, s71, s72, s73, s74, s75, s76, s77, s78, s79, s80, s81, s82, s83, s84, s85, s86, s87, s88, s89, s90, s91, s92, s93, s94, s95, s96, s97, s98, s99, s100, s101, s102, s103, s104, s105, s106, s107, s108, s109, s110, s111, s112, s113], []⟩ wr := by
  have HQ := Lib.hid hQ
  have HPA := Lib.hid hpa
  have HPR := Lib.hid hpr
  have HNB := Lib.hid hnb
  have HLE := Lib.hid hlen
  have HCO := Lib.hid hco
  clear hQ hpr hnb hpa hlen hco
  conv => arg 2; whnf
  go_wp2_with fail
  go_loopw [51] (fun i w2 => ∃ j : Nat, j ≤ n.attrs.length ∧ i = .int .i64 j ∧ Pr w w2 bb s6 (out ++ attrsO (n.attrs.take j)) st ∧ w2.heap[nb]? = some (nodRow n va)) (fun i _ => n.attrs.length - (intOf i).toNat)
  case atStart => exact ⟨0, Nat.zero_le _, rfl, by rw [List.take_zero, attrsO, List.append_nil]; exact HPR.out, HNB.out⟩
  case round =>
    obtain ⟨j, hj, rfl, hpr, hnb⟩ := hrel
    by_cases hlt : j < n.attrs.length
    · obtain ⟨a, rfl, p0, p1, p2, n1, n2⟩ := (HPA.out.keep hpr.b).at_ j hlt
      have HPR2 := Lib.hid hpr
      have HNB2 := Lib.hid hnb
      clear hpr hnb
      go_upto_region 17 with (fail)
      have hpr3 : Pr w (wr.alloc (parO n.attrs[j])) bb s6 (out ++ attrsO (n.attrs.take j)) st := HPR2.out.below ((Below.refl _ _).alloc (Nat.le_refl _) _)
      have hnb3 : (wr.alloc (parO n.attrs[j])).heap[nb]? = some (nodRow n va) := by rw [((Below.refl wr.heap.size wr).alloc (Nat.le_refl _) (parO n.attrs[j])).block nb (Array.getElem?_eq_some_iff.1 HNB2.out).1]; exact HNB2.out
      have hpb : (wr.alloc (parO n.attrs[j])).heap[wr.heap.size]? = some (parO n.attrs[j]) := heap_alloc_new wr _
      have HPR3 := Lib.hid hpr3
      have HNB3 := Lib.hid hnb3
      clear hpr3 hnb3 p0 p1 p2
      change Code.wp _ _ _ _ (wr.alloc (parO n.attrs[j]))
      generalize wr.alloc (parO n.attrs[j]) = w3 at *
      generalize wr.heap.size = pb at *
      have HAT := Lib.hid (attrsO_take n.attrs j hlt)
      have hcj := costPs_at n.attrs j hlt
      have hle := HLE.out
      have hac := attrsO_cost n.attrs (j + 1)
      rw [HAT.out] at hac
      have hco := HCO.out
      unfold costP at hcj
      generalize n.attrs[j] = p at *
      have q0 : w3.cell? ⟨pb, 0, none⟩ = some (.string ⟨p.name.toArray⟩) := blk_cell hpb 0
      have q1 : w3.cell? ⟨pb, 1, none⟩ = some (.string ⟨p.value.toArray⟩) := blk_cell hpb 1
      have HPB := Lib.hid hpb
      have hel := escB_len p.value
      have hao : (attrO p).length = p.name.length + (escB p.value).length + 4 := by simp [attrO]; omega
      rw [List.length_append] at hle hac
      have HV := Lib.hid (show (⟨p.value.toArray⟩ : ByteArray).size ≤ 100000000 by rw [← size_list]; show p.value.length ≤ _; omega)
      have hpre := attrsO_cost n.attrs j
      have HL := Lib.hid (show (out ++ attrsO (n.attrs.take j)).length + (attrO p).length ≤ 140737488355328 by rw [List.length_append]; omega)
      have z1 : ¬ 9223372036854775807 < 1 + p.name.length := by omega
      have z2 : ¬ 9223372036854775807 < 1 + p.name.length + 2 := by omega
      have z3 : ¬ 9223372036854775807 < 1 + p.name.length + 2 + (escB p.value).length := by omega
      have z4 : ¬ 9223372036854775807 < 1 + p.name.length + 2 + (escB p.value).length + 1 := by omega
      clear hcj hle hac hco hel hao hpre hpb
      go_region_held3 (fun w' => w'.cell? ⟨pb, 0, none⟩ = some (.string ⟨p.name.toArray⟩) ∧ w'.cell? ⟨pb, 1, none⟩ = some (.string ⟨p.value.toArray⟩)) (go_keep) (first
        | (go_at_call 22; refine (escape_walk ⟨p.value.toArray⟩ _ HV.out).mono ?_; rintro e w4 ⟨rfl, hb4⟩; have kk0 := cell_keep hb4 (show w3.drew.cell? _ = _ from q0); have kk1 := cell_keep hb4 (show w3.drew.cell? _ = _ from q1); have HPR4 := Lib.hid ((HPR3.out.below (Below.refl _ _).drew).below hb4); have HNB4 := Lib.hid ((hb4.block nb (Array.getElem?_eq_some_iff.1 (show w3.drew.heap[nb]? = _ from HNB3.out)).1).trans (show w3.drew.heap[nb]? = _ from HNB3.out)); have HPB4 := Lib.hid ((hb4.block pb (Array.getElem?_eq_some_iff.1 (show w3.drew.heap[pb]? = _ from HPB.out)).1).trans (show w3.drew.heap[pb]? = _ from HPB.out)); clear hb4; dsimp only)
        | (go_at_call 21; refine (Pr.put bb (attrO p) _ (attr_cat p) HPR4.out HL.out).mono ?_; rintro e w5 ⟨rfl, hp6, hb6, hk6⟩; have HPR6 := Lib.hid hp6; have HNB6 := Lib.hid ((hk6 _ _ _ _ HNB4.out (by decide) (by decide)).trans HNB4.out); have hpb5 := (hk6 _ _ _ _ HPB4.out (by decide) (by decide)).trans HPB4.out; have kk2 : w5.cell? ⟨pb, 0, none⟩ = some (.string ⟨p.name.toArray⟩) := blk_cell hpb5 0; have kk3 : w5.cell? ⟨pb, 1, none⟩ = some (.string ⟨p.value.toArray⟩) := blk_cell hpb5 1; clear hp6 hb6 hk6 hpb5; dsimp only))
      go_wp2_with fail
      exact ⟨⟨j + 1, by omega, by go_num, by rw [HAT.out, ← List.append_assoc]; exact HPR6.out, HNB6.out⟩, by simp [intOf]; omega⟩
    · obtain rfl : j = n.attrs.length := by omega
      rw [List.take_length] at hpr
      have HPR2 := Lib.hid hpr
      have HNB2 := Lib.hid hnb
      clear hpr hnb
      go_wp2_with fail
      exact HQ.out _ _ _ _ _ _ _ _ _ _ _ _ _ _ _ _ _ HPR2.out HNB2.out
end Go.Proofs.YtffcapkjfmkkaaaGreatDoor
namespace Go.Proofs.YtffcapkjfmkkaaaGreatDoor
open Go.RowKit
theorem text_cat (t : Bs) : ((⟨#[62]⟩ : ByteArray) ++ ⟨(escB t).toArray⟩).data.toList = 62 :: escB t := by
  rw [Joins.data_append]; rfl
theorem Pr.push2 {w wr w2 : World} {bb : Nat} {ov v2 : Value} {out t : Bs} {st : List Bs} (h : Pr w wr bb ov out st) (hg : wr.grownBy w2 ov.ownBlock) (ho : w2.ownsRow w.heap.size 9 1 v2 (st.length + 1) (st.reverse.map strV ++ [strV t])) : Pr w w2 bb v2 out (t :: st) := by
  obtain ⟨g, cap, rfl⟩ : ∃ g cap, v2 = .slice (some ⟨g, 0, none⟩) (st.length + 1) cap := by
    rcases ho.2 with ⟨_, h0⟩ | ⟨g, cap, cur, hv, _⟩
    · omega
    · exact ⟨g, cap, hv⟩
  exact h.push hg ho
set_option maxRecDepth 100000 in
set_option maxHeartbeats 4000000 in
theorem round_piece (s1 s2 s3 s4 s6 s7 s8 s9 s10 s11 s12 s13 s14 s15 s16 s17 s19 s21 s22 s23 s24 s25 s26 s27 s28 s29 s30 s31 s32 s33 s34 s35 s36 s37 s38 s39 s40 s41 s42 s43 s44 s45 s46 s47 s48 s49 s50 s51 s52 s53 s54 s55 s56 s57 s58 s59 s60 s61 s62 s63 s64 s65 s66 s67 s68 s69 s70 s71 s72 s73 s74 s75 s76 s77 s78 s79 s80 s81 s82 s83 s84 s85 s86 s87 s88 s89 s90 s91 s92 s93 s94 s95 s96 s97 s98 s99 s100 s101 s102 s103 s104 s105 s106 s107 s108 s109 s110 s111 s112 s113 : Value) (Q : Exit → Act → World → Prop) (w wr : World) (bb : Nat) (A : Option Addr) (c : Nat) (ns : List Nod) (T out : Bs) (st : List Bs) (k : Nat) (hlt : k < ns.length)
    (hp : RNod w (.slice A ns.length c) ns) (hF : ∀ k (hk : k < ns.length), 0 ≤ ns[k].deep ∧ ns[k].deep < 8 ∧ ns[k].attrs.length ≤ 16) (h200 : ns.length ≤ 200) (hco : costs ns ≤ 500000000)
    (hT : T.length ≤ 500000039) (hpr : Pr w wr bb s6 out st) (ht : T = out ++ prS (ns.drop k) st) (hsk : st.length ≤ k)
    (hQ : ∀ (u6 u7 u8 u10 u22 u23 u24 u25 u26 u27 u28 u29 u30 u31 u32 u33 u34 u35 u36 u37 u38 u39 u40 u41 u42 u43 u44 u45 u46 u47 u48 u49 u50 u51 u52 u53 u54 u55 u56 u57 u58 u59 u60 u61 u62 u63 u64 u65 u66 u67 u68 u69 u70 u71 u72 u73 u74 u75 u76 u77 u78 u79 u80 u81 u82 u83 u84 u85 u86 u87 u88 u89 u90 u91 u92 u93 u94 u95 u96 u97 : Value) (w' : World) (out : Bs) (st : List Bs), Pr w w' bb u6 out st → T = out ++ prS (ns.drop (k + 1)) st → st.length ≤ k + 1 → Q .normal ⟨#[.slice A ns.length c, s1, s2, s3, s4, .pointer (some ⟨bb, 0, none⟩), u6, u7, u8, s9, u10, s11, s12, s13, s14, s15, s16, s17, .slice A ns.length c, s19, .int .i64 k, s21, u22, u23, u24, u25, u26, u27, u28, u29, u30, u31, u32, u33, u34, u35, u36, u37, u38, u39, u40, u41, u42, u43, u44, u45, u46, u47, u48, u49, u50, u51, u52, u53, u54, u55, u56, u57, u58, u59, u60, u61, u62, u63, u64, u65, u66, u67, u68, u69, u70, u71, u72, u73, u74, u75, u76, u77, u78, u79, u80, u81, u82, u83, u84, u85, u86, u87, u88, u89, u90, u91, u92, u93, u94, u95, u96, u97, s98, s99, s100, s101, s102, s103, s104, s105, s106, s107, s108, s109, s110, s111, s112, s113], []⟩ w') :
    Code.wp Tryz.prog (pBlk 1) Q ⟨#[.slice A ns.length c, s1, s2, s3, s4, .pointer (some ⟨bb, 0, none⟩), s6, s7, s8, s9, s10, s11, s12, s13, s14, s15, s16, s17, .slice A ns.length c, s19, .int .i64 k, s21, s22, s23, s24, s25, s26, s27, s28, s29, s30, s31, s32, s33, s34, s35, s36, s37, s38, s39, s40, s41, s42, s43, s44, s45, s46, s47, s48, s49, s50, s51, s52, s53, s54, s55, s56, s57, s58, s59, s60, s61, s62, s63, s64, s65, s66, s67, s68, s69, s70, s71, s72, s73, s74, s75, s76, s77, s78, s79, s80, s81, s82, s83, s84, s85, s86, s87, s88, s89, s90, s91, s92, s93, s94, s95, s96, s97, s98, s99, s100, s101, s102, s103, s104, s105, s106, s107, s108, s109, s110, s111, s112, s113], []⟩ wr := by
  have HQ := Lib.hid hQ
  have HP := Lib.hid hp
  have HCO := Lib.hid (costs_at ns k hlt)
  rw [List.drop_eq_getElem_cons hlt, prS_cons] at ht
  obtain ⟨a', vk, ha', k0, k1, k2, hatt, k3, n1, n2⟩ := (hp.keep hpr.b).at_ k hlt
  obtain ⟨a2, vk2, ha2, -, -, k22, hatt2, -⟩ := hp.at_ k hlt
  cases ha'
  cases ha2
  have hvk := cell_keep hpr.b k22
  rw [k2] at hvk
  injection hvk with hvk
  subst hvk
  have hfk := hF k hlt
  obtain ⟨A2, c2, rfl, -⟩ := hatt
  have HAT := Lib.hid hatt2
  have HT := Lib.hid ht
  have HPR := Lib.hid hpr
  have HF := Lib.hid hF
  have HTL := Lib.hid hT
  clear ht hpr hQ hp hatt2 k22 hF
  conv => arg 2; whnf
  go_upto_block 2 with (fail)
  have hpr3 : Pr w (wr.alloc (nodRow ns[k] (.slice A2 ns[k].attrs.length c2))) bb s6 out st := HPR.out.below ((Below.refl _ _).alloc (Nat.le_refl _) _)
  have hnb : (wr.alloc (nodRow ns[k] (.slice A2 ns[k].attrs.length c2))).heap[wr.heap.size]? = some (nodRow ns[k] (.slice A2 ns[k].attrs.length c2)) := heap_alloc_new wr _
  change Code.wp _ _ _ _ (wr.alloc (nodRow ns[k] (.slice A2 ns[k].attrs.length c2)))
  generalize wr.alloc (nodRow ns[k] (.slice A2 ns[k].attrs.length c2)) = wn at *
  generalize wr.heap.size = nb at *
  refine pop_piece _ _ _ _ _ _ _ _ _ _ _ _ _ _ _ _ _ _ _ _ _ _ _ _ _ _ _ _ _ _ _ _ _ _ _ _ _ _ _ _ _ _ _ _ _ _ _ _ _ _ _ _ _ _ _ _ _ _ _ _ _ _ _ _ _ _ _ _ _ _ _ _ _ _ _ _ _ _ _ _ _ _ _ _ _ _ _ _ _ _ _ _ _ _ _ _ _ _ _ _ _ _ _ _ _ _ _ _ _ _ _ _ _ w wn bb nb ns[k] _ (ns.drop (k + 1)) T out st k hfk.1 HTL.out hpr3 HT.out hsk (by omega) hnb ?_
  clear hpr3 hnb HPR HT k0 k1 k2 k3
  intro u6 u25 u26 u27 u28 u29 u30 u31 u32 u33 u34 u35 u36 u37 u38 u39 u40 u41 u42 u43 w4 out st hpr ht hsd hsk hnb
  have HPR := Lib.hid hpr
  have HT := Lib.hid ht
  have HNB := Lib.hid hnb
  have c1 := nod_cell1 hnb
  have hlen := congrArg List.length ht
  unfold coreS openB at hlen
  simp only [List.length_append, List.length_cons] at hlen
  have z1 : ¬ 9223372036854775807 < 1 + ns[k].name.length := by omega
  have HL := Lib.hid (show out.length + (60 :: ns[k].name).length ≤ 140737488355328 by rw [List.length_cons]; omega)
  have HL2 := Lib.hid (show (out ++ (60 :: ns[k].name) ++ attrsO ns[k].attrs).length ≤ 500000039 by simp only [List.length_append, List.length_cons]; omega)
  clear hpr ht hnb hlen
  go_upto_block 4 with (go_at_call 21; refine (Pr.put bb (60 :: ns[k].name) _ (open_cat _) HPR.out HL.out).mono ?_; rintro e w5 ⟨rfl, hp6, hb6, hk6⟩; have HPR6 := Lib.hid hp6; have HNB6 := Lib.hid ((hk6 _ _ _ _ HNB.out (by decide) (by decide)).trans HNB.out); have c2x := nod_cell2' HNB6.out; clear hp6 hb6 hk6)
  refine attr_piece _ _ _ _ _ _ _ _ _ _ _ _ _ _ _ _ _ _ _ _ _ _ _ _ _ _ _ _ _ _ _ _ _ _ _ _ _ _ _ _ _ _ _ _ _ _ _ _ _ _ _ _ _ _ _ _ _ _ _ _ _ _ _ _ _ _ _ _ _ _ _ _ _ _ _ _ _ _ _ _ _ _ _ _ _ _ _ _ _ _ _ _ _ _ _ _ _ _ _ _ _ _ _ _ _ _ _ _ _ _ w w5 bb nb ns[k] _ A2 c2 (out ++ (60 :: ns[k].name)) st HAT.out hfk.2.2 (by have := HCO.out; unfold costN at this; omega) HL2.out HPR6.out HNB6.out ?_
  clear HPR HNB HPR6 HNB6 c1 c2x z1 HL HL2
  intro u10 u51 u52 u53 u54 u55 u56 u57 u58 u59 u60 u61 u62 u63 u64 u65 w6 hpr hnb
  have HPR := Lib.hid hpr
  have HNB := Lib.hid hnb
  clear hpr hnb
  go_upto_region 19 with (fail)
  have HN := Lib.hid (show RNod w6 (.slice (some a') ns.length c) ns from HP.out.keep HPR.out.b)
  have hwk : IntKind.i64.wrap ((k : Int) + 1) = (k : Int) + 1 := IntWalk.i64_in _ (by omega)
  have hk0 : (0 : Int) ≤ (k : Int) + 1 := by omega
  have hkn : ((k : Int) + 1).toNat = k + 1 := by omega
  have HW := Lib.hid (And.intro hwk (And.intro hk0 hkn))
  clear hwk hk0 hkn
  have hl : leafB ns[k] (ns.drop (k + 1)) = (decide (ns[k].text = []) && (if h : k + 1 < ns.length then decide (ns[k + 1].deep ≤ ns[k].deep) else true)) := by
    by_cases h : k + 1 < ns.length
    · rw [List.drop_eq_getElem_cons h, leafB, dif_pos h]
    · rw [List.drop_eq_nil_of_le (by omega), leafB, dif_neg h, Bool.and_true]
  have HLF := Lib.hid hl
  clear hl
  have hTT := HT.out
  have hTL := congrArg List.length hTT
  have HLL := Lib.hid (show (out ++ (60 :: ns[k].name) ++ attrsO ns[k].attrs).length + 2 ≤ 140737488355328 by
    unfold coreS openB at hTL
    simp only [List.length_append, List.length_cons] at hTL ⊢; omega)
  clear hTT hTL
  generalize ns[k] = n at *
  obtain ⟨nd, nn, na, nt⟩ := n
  dsimp only at *
  have c3 := nod_cell3 HNB.out
  have c0 := nod_cell0 HNB.out
  dsimp only at c3 c0
  cases nt with
  | nil =>
    by_cases hend : k + 1 < ns.length
    · obtain ⟨a2, v2, ha2, m0, -⟩ := HN.out.at_ (k + 1) hend
      cases ha2
      by_cases hdp : ns[k + 1].deep ≤ nd
      · have HLT : Hid (leafB ⟨nd, nn, na, []⟩ (ns.drop (k + 1)) = true) := by
          show _ = _; rw [HLF.out, dif_pos hend]; simpa using hdp
        have hb1 : ((k : Int) + 1 == (ns.length : Int)) = false := by simp; omega
        have hb2 : decide (ns[k + 1].deep ≤ nd) = true := by simpa using hdp
        obtain ⟨hwk, hk0, hkn⟩ := HW.out
        obtain ⟨hwk, hk0, hkn⟩ := HW.out
        go_quiet (fail)
        clear hwk hk0 hkn hb1 hb2
        have HPR2 := Lib.hid (show Pr w (w6.drewN nq) bb u6 _ st from HPR.out.below ⟨rfl, rfl, rfl, Nat.le_refl _, fun _ _ => rfl⟩)
        go_wp2_with (go_at_call 21; refine (Pr.put bb [47, 62] _ rfl HPR2.out HLL.out).mono ?_; rintro e w7 ⟨rfl, hp7, -, -⟩; have HPR7 := Lib.hid hp7; clear hp7)
        exact HQ.out _ _ _ _ _ _ _ _ _ _ _ _ _ _ _ _ _ _ _ _ _ _ _ _ _ _ _ _ _ _ _ _ _ _ _ _ _ _ _ _ _ _ _ _ _ _ _ _ _ _ _ _ _ _ _ _ _ _ _ _ _ _ _ _ _ _ _ _ _ _ _ _ _ _ _ _ _ _ _ _ _ _ _ HPR7.out (by have := HT.out; unfold coreS at this; rw [if_pos HLT.out] at this; rw [this]; simp [openB]) (by omega)
      · have HLT : Hid (leafB ⟨nd, nn, na, []⟩ (ns.drop (k + 1)) = false) := by
          show _ = _; rw [HLF.out, dif_pos hend]; simpa using hdp
        have hb1 : ((k : Int) + 1 == (ns.length : Int)) = false := by simp; omega
        have hb2 : decide (ns[k + 1].deep ≤ nd) = false := by simpa using hdp
        have hdp2 : ¬ ns[k + 1].deep ≤ nd := hdp
        obtain ⟨hwk, hk0, hkn⟩ := HW.out
        go_quiet (fail)
        clear hwk hk0 hkn hb1 hb2
        have HPR2 := Lib.hid (show Pr w (w6.drewN nq) bb u6 _ st from HPR.out.below ⟨rfl, rfl, rfl, Nat.le_refl _, fun _ _ => rfl⟩)
        have hTT := HT.out
        unfold coreS at hTT
        rw [if_neg (by rw [HLT.out]; decide)] at hTT
        have HT2 := Lib.hid hTT
        have hlen := congrArg List.length hTT
        unfold openB at hlen
        simp only [List.length_append, List.length_cons] at hlen
        have HV := Lib.hid (show (⟨([] : Bs).toArray⟩ : ByteArray).size ≤ 100000000 by have := HCO.out; unfold costN at this; rw [← size_list]; show ([] : Bs).length ≤ _; dsimp only at this; omega)
        have HL4 := Lib.hid (show (out ++ (60 :: nn) ++ attrsO na).length + (62 :: escB []).length ≤ 140737488355328 by simp only [List.length_append, List.length_cons]; omega)
        have z1 : ¬ 9223372036854775807 < 1 + (escB []).length := by omega
        clear hTT hlen
        obtain ⟨iS, hiS, hzS0, hzS1, hzS2⟩ := info_parts infoStr
        go_wp2_with (first
          | (go_at_call 22; refine (escape_walk ⟨([] : Bs).toArray⟩ _ HV.out).mono ?_; rintro e w7 ⟨rfl, hb7⟩; have HPR3 := Lib.hid (HPR2.out.below hb7); have HNB3 := Lib.hid ((hb7.block nb (Array.getElem?_eq_some_iff.1 (show (w6.drewN nq).heap[nb]? = _ from HNB.out)).1).trans (show (w6.drewN nq).heap[nb]? = _ from HNB.out)); clear hb7)
          | (go_at_call 21; refine (Pr.put bb (62 :: escB []) _ (text_cat []) HPR3.out HL4.out).mono ?_; rintro e w8 ⟨rfl, hp8, -, hk8⟩; have HPR4 := Lib.hid hp8; have HNB4 := Lib.hid ((hk8 _ _ _ _ HNB3.out (by decide) (by decide)).trans HNB3.out); have c1x := nod_cell1 HNB4.out; clear hp8 hk8)
          | (at_builtin; refine wpList_append_own _ rfl _ _ 38 rfl w.heap.size 9 iS (.string ⟨#[]⟩) 1 16 Tryz.underlying38 hiS hzS0 hzS1 hzS2 rfl (by decide) u6 st.length (st.reverse.map strV) rfl (HPR4.out.o.alloc _) ⟨w8.heap.size, 0, none⟩ 1 1 [strV nn] rfl rfl ?c1 ?c2 ?c3 ?c4 ?c5 ?_))
        case c1 =>
          intro j u hj
          match j, hj with
          | 0, hj => simp at hj; subst hj; simp [Addr.add, strV]
        case c2 => intro u hu; simp at hu; subst hu; rfl
        case c3 => unfold maxLen; omega
        case c4 => omega
        case c5 => have := HPR4.out.b.size; simp; omega
        intro v' w9 hown' hgrow _
        have HPR9 := Lib.hid (Pr.push2 (HPR4.out.below ((Below.refl _ _).alloc (Nat.le_refl _) _)) hgrow (by rw [List.map_reverse]; exact hown'))
        clear hown' hgrow c1x
        go_wp2_with fail
        exact HQ.out _ _ _ _ _ _ _ _ _ _ _ _ _ _ _ _ _ _ _ _ _ _ _ _ _ _ _ _ _ _ _ _ _ _ _ _ _ _ _ _ _ _ _ _ _ _ _ _ _ _ _ _ _ _ _ _ _ _ _ _ _ _ _ _ _ _ _ _ _ _ _ _ _ _ _ _ _ _ _ _ _ _ _ HPR9.out (by rw [HT2.out]; simp [openB]) (by rw [List.length_cons]; omega)
    · have HLT : Hid (leafB ⟨nd, nn, na, []⟩ (ns.drop (k + 1)) = true) := by
        show _ = _; rw [HLF.out, dif_neg hend]; rfl
      have hb1 : ((k : Int) + 1 == (ns.length : Int)) = true := by simp; omega
      obtain ⟨hwk, hk0, hkn⟩ := HW.out
      go_quiet (fail)
      clear hwk hk0 hkn hb1
      have HPR2 := Lib.hid (show Pr w (w6.drewN nq) bb u6 _ st from HPR.out.below ⟨rfl, rfl, rfl, Nat.le_refl _, fun _ _ => rfl⟩)
      go_wp2_with (go_at_call 21; refine (Pr.put bb [47, 62] _ rfl HPR2.out HLL.out).mono ?_; rintro e w7 ⟨rfl, hp7, -, -⟩; have HPR7 := Lib.hid hp7; clear hp7)
      exact HQ.out _ _ _ _ _ _ _ _ _ _ _ _ _ _ _ _ _ _ _ _ _ _ _ _ _ _ _ _ _ _ _ _ _ _ _ _ _ _ _ _ _ _ _ _ _ _ _ _ _ _ _ _ _ _ _ _ _ _ _ _ _ _ _ _ _ _ _ _ _ _ _ _ _ _ _ _ _ _ _ _ _ _ _ HPR7.out (by have := HT.out; unfold coreS at this; rw [if_pos HLT.out] at this; rw [this]; simp [openB]) (by omega)
  | cons x r =>
    have HLT : Hid (leafB ⟨nd, nn, na, x :: r⟩ (ns.drop (k + 1)) = false) := by
      show _ = _; rw [HLF.out]; rfl
    obtain ⟨hwk, hk0, hkn⟩ := HW.out
    go_quiet (fail)
    clear hwk hk0 hkn
    have HPR2 := Lib.hid (show Pr w (w6.drewN nq) bb u6 _ st from HPR.out.below ⟨rfl, rfl, rfl, Nat.le_refl _, fun _ _ => rfl⟩)
    have hTT := HT.out
    unfold coreS at hTT
    rw [if_neg (by rw [HLT.out]; decide)] at hTT
    have HT2 := Lib.hid hTT
    have hlen := congrArg List.length hTT
    unfold openB at hlen
    simp only [List.length_append, List.length_cons] at hlen
    have HV := Lib.hid (show (⟨((x :: r) : Bs).toArray⟩ : ByteArray).size ≤ 100000000 by have := HCO.out; unfold costN at this; rw [← size_list]; show ((x :: r) : Bs).length ≤ _; dsimp only at this; omega)
    have HL4 := Lib.hid (show (out ++ (60 :: nn) ++ attrsO na).length + (62 :: escB (x :: r)).length ≤ 140737488355328 by simp only [List.length_append, List.length_cons]; omega)
    have z1 : ¬ 9223372036854775807 < 1 + (escB (x :: r)).length := by omega
    clear hTT hlen
    obtain ⟨iS, hiS, hzS0, hzS1, hzS2⟩ := info_parts infoStr
    go_wp2_with (first
      | (go_at_call 22; refine (escape_walk ⟨((x :: r) : Bs).toArray⟩ _ HV.out).mono ?_; rintro e w7 ⟨rfl, hb7⟩; have HPR3 := Lib.hid (HPR2.out.below hb7); have HNB3 := Lib.hid ((hb7.block nb (Array.getElem?_eq_some_iff.1 (show (w6.drewN nq).heap[nb]? = _ from HNB.out)).1).trans (show (w6.drewN nq).heap[nb]? = _ from HNB.out)); clear hb7)
      | (go_at_call 21; refine (Pr.put bb (62 :: escB (x :: r)) _ (text_cat (x :: r)) HPR3.out HL4.out).mono ?_; rintro e w8 ⟨rfl, hp8, -, hk8⟩; have HPR4 := Lib.hid hp8; have HNB4 := Lib.hid ((hk8 _ _ _ _ HNB3.out (by decide) (by decide)).trans HNB3.out); have c1x := nod_cell1 HNB4.out; clear hp8 hk8)
      | (at_builtin; refine wpList_append_own _ rfl _ _ 38 rfl w.heap.size 9 iS (.string ⟨#[]⟩) 1 16 Tryz.underlying38 hiS hzS0 hzS1 hzS2 rfl (by decide) u6 st.length (st.reverse.map strV) rfl (HPR4.out.o.alloc _) ⟨w8.heap.size, 0, none⟩ 1 1 [strV nn] rfl rfl ?c1 ?c2 ?c3 ?c4 ?c5 ?_))
    case c1 =>
      intro j u hj
      match j, hj with
      | 0, hj => simp at hj; subst hj; simp [Addr.add, strV]
    case c2 => intro u hu; simp at hu; subst hu; rfl
    case c3 => unfold maxLen; omega
    case c4 => omega
    case c5 => have := HPR4.out.b.size; simp; omega
    intro v' w9 hown' hgrow _
    have HPR9 := Lib.hid (Pr.push2 (HPR4.out.below ((Below.refl _ _).alloc (Nat.le_refl _) _)) hgrow (by rw [List.map_reverse]; exact hown'))
    clear hown' hgrow c1x
    go_wp2_with fail
    exact HQ.out _ _ _ _ _ _ _ _ _ _ _ _ _ _ _ _ _ _ _ _ _ _ _ _ _ _ _ _ _ _ _ _ _ _ _ _ _ _ _ _ _ _ _ _ _ _ _ _ _ _ _ _ _ _ _ _ _ _ _ _ _ _ _ _ _ _ _ _ _ _ _ _ _ _ _ _ _ _ _ _ _ _ _ HPR9.out (by rw [HT2.out]; simp [openB]) (by rw [List.length_cons]; omega)
end Go.Proofs.YtffcapkjfmkkaaaGreatDoor
namespace Go.Proofs.YtffcapkjfmkkaaaGreatDoor
open Go.RowKit
theorem clo_len (st : List Bs) (i : Nat) (hi : i < st.length) : (clo (st.take i)).length + st[i].length + 3 ≤ (clo st).length := by
  induction st generalizing i with
  | nil => simp at hi
  | cons t st ih =>
    cases i with
    | zero => simp [clo, closeB]
    | succ i => simp [clo]; have := ih i (by simpa using hi); omega
theorem clo_snoc (st : List Bs) (i : Nat) (hi : i < st.length) : clo (st.take (i + 1)) = clo (st.take i) ++ closeB st[i] := by
  induction st generalizing i with
  | nil => simp at hi
  | cons t st ih =>
    cases i with
    | zero => simp [clo]
    | succ i => simp [clo, ih i (by simpa using hi)]
set_option maxRecDepth 100000 in
set_option maxHeartbeats 4000000 in
theorem close_piece (s0 s1 s2 s3 s4 s7 s8 s9 s10 s12 s13 s14 s15 s16 s17 s18 s19 s20 s21 s22 s23 s24 s25 s26 s27 s28 s29 s30 s31 s32 s33 s34 s35 s36 s37 s38 s39 s40 s41 s42 s43 s44 s45 s46 s47 s48 s49 s50 s51 s52 s53 s54 s55 s56 s57 s58 s59 s60 s61 s62 s63 s64 s65 s66 s67 s68 s69 s70 s71 s72 s73 s74 s75 s76 s77 s78 s79 s80 s81 s82 s83 s84 s85 s86 s87 s88 s89 s90 s91 s92 s93 s94 s95 s96 s97 s98 s99 s100 s101 s102 s103 s104 s105 s106 s107 s108 s109 s110 s111 s112 s113 : Value) (Q : Exit → Act → World → Prop) (w wr : World) (bb n cap : Nat) (a : Option Addr) (T out : Bs) (st : List Bs) (hn : n = st.length)
    (hst : st.length ≤ 200) (hT : T.length ≤ 500000039) (hpr : Pr w wr bb (.slice a n cap) out st) (ht : T = out ++ clo st)
    (hQ : ∀ (u11 u102 u103 u104 u105 u106 u107 u108 u109 u110 u111 u112 : Value) (w' : World), Pr w w' bb (.slice a n cap) T st → Q .normal ⟨#[s0, s1, s2, s3, s4, .pointer (some ⟨bb, 0, none⟩), .slice a n cap, s7, s8, s9, s10, u11, s12, s13, s14, s15, s16, s17, s18, s19, s20, s21, s22, s23, s24, s25, s26, s27, s28, s29, s30, s31, s32, s33, s34, s35, s36, s37, s38, s39, s40, s41, s42, s43, s44, s45, s46, s47, s48, s49, s50, s51, s52, s53, s54, s55, s56, s57, s58, s59, s60, s61, s62, s63, s64, s65, s66, s67, s68, s69, s70, s71, s72, s73, s74, s75, s76, s77, s78, s79, s80, s81, s82, s83, s84, s85, s86, s87, s88, s89, s90, s91, s92, s93, s94, s95, s96, s97, s98, s99, s100, s101, u102, u103, u104, u105, u106, u107, u108, u109, u110, u111, u112, s113], []⟩ w') :
    Code.wp Tryz.prog (pBlk 6) Q ⟨#[s0, s1, s2, s3, s4, .pointer (some ⟨bb, 0, none⟩), .slice a n cap, s7, s8, s9, s10, .int .i64 ((st.length : Int) - 1), s12, s13, s14, s15, s16, s17, s18, s19, s20, s21, s22, s23, s24, s25, s26, s27, s28, s29, s30, s31, s32, s33, s34, s35, s36, s37, s38, s39, s40, s41, s42, s43, s44, s45, s46, s47, s48, s49, s50, s51, s52, s53, s54, s55, s56, s57, s58, s59, s60, s61, s62, s63, s64, s65, s66, s67, s68, s69, s70, s71, s72, s73, s74, s75, s76, s77, s78, s79, s80, s81, s82, s83, s84, s85, s86, s87, s88, s89, s90, s91, s92, s93, s94, s95, s96, s97, s98, s99, s100, s101, s102, s103, s104, s105, s106, s107, s108, s109, s110, s111, s112, s113], []⟩ wr := by
  have HQ := Lib.hid hQ
  have HPR := Lib.hid hpr
  have HT := Lib.hid ht
  have HN := Lib.hid hn
  clear hQ hpr ht hn
  conv => arg 2; whnf
  go_wp2_with fail
  go_loopw [11] (fun i w2 => ∃ j : Nat, j ≤ st.length ∧ i = .int .i64 ((st.length : Int) - 1 - j) ∧ Pr w w2 bb (.slice a n cap) (out ++ clo (st.take j)) st) (fun i _ => (intOf i + 1).toNat)
  case atStart => exact ⟨0, Nat.zero_le _, by simp, by rw [List.take_zero, clo, List.append_nil]; exact HPR.out⟩
  case round =>
    obtain ⟨j, hj, rfl, hpr⟩ := hrel
    by_cases hlt : j < st.length
    · obtain ⟨g, rfl⟩ : ∃ g, a = some ⟨g, 0, none⟩ := by
        rcases hpr.o.2 with ⟨h1, h0⟩ | ⟨g, cap', cur, h1, -⟩
        · omega
        · injection h1 with h1; exact ⟨g, h1⟩
      have hc := hpr.at_ j hlt
      have hlen := congrArg List.length HT.out
      have hcl := clo_len st j hlt
      have hcs := clo_snoc st j hlt
      unfold strV at hc
      have HPR2 := Lib.hid hpr
      have HCS := Lib.hid hcs
      rw [List.length_append] at hlen
      obtain ⟨i, hi⟩ : ∃ i : Nat, st.length - 1 - j = i := ⟨_, rfl⟩
      have e1 : (st.length : Int) - 1 - j = (i : Int) := by omega
      rw [hi] at hc
      rw [e1]
      have HI := Lib.hid (And.intro hi e1)
      have hin : i < n := by have := HN.out; omega
      have hi200 : i ≤ 200 := by omega
      clear hpr hcs hi e1
      have HL := Lib.hid (show (out ++ clo (st.take j)).length + (closeB st[j]).length ≤ 140737488355328 by simp [closeB]; omega)
      have z1 : ¬ 9223372036854775807 < 2 + st[j].length := by omega
      have z2 : ¬ 9223372036854775807 < 2 + st[j].length + 1 := by omega
      clear hlen hcl
      generalize st[j] = t at *
      go_wp2_with (go_at_call 21; refine (Pr.put bb (closeB t) _ (closeB_cat t) HPR2.out HL.out).mono ?_; rintro e w5 ⟨rfl, hp6, hb6, hk6⟩; have HPR6 := Lib.hid hp6; clear hp6 hb6 hk6)
      obtain ⟨hi, e1⟩ := HI.out
      exact ⟨⟨j + 1, by omega, congrArg (Value.int .i64) (by omega), by rw [HCS.out, ← List.append_assoc]; exact HPR6.out⟩, by simp [intOf]⟩
    · obtain rfl : j = st.length := by omega
      rw [List.take_length] at hpr
      have HPR2 := Lib.hid hpr
      clear hpr
      have e0 : (st.length : Int) - 1 - st.length = -1 := by omega
      rw [e0]
      clear e0
      go_wp2_with fail
      exact HQ.out _ _ _ _ _ _ _ _ _ _ _ _ _ (by rw [HT.out]; exact HPR2.out)
end Go.Proofs.YtffcapkjfmkkaaaGreatDoor
