/- An element, as the reference reads it. -/
import Derived.Test.YtffcapkjfmkkaaaDoorC3
import Derived.OneCell
namespace Go.Proofs.YtffcapkjfmkkaaaDoor
open Go.RowKit
def nameEnd : Bs := [47, 62, 32, 9, 13, 10]
theorem attrS_sizes {l : Bs} {p : Par} {r : Bs} (h : attrS l = some (p, r)) : p.name.length ≤ l.length ∧ p.value.length ≤ l.length := by
  unfold attrS at h
  split at h
  · cases h
  · rename_i c l1 h1
    split at h
    · cases h
    · rename_i q l2 h2
      split at h
      · split at h
        · cases h
        · rename_i c' r' h3
          split at h
          · split at h
            · cases h
            · rename_i v hv
              cases h
              have a1 := dropW_len (notIn [61]) l
              have a2 := dropW_len blankB l1
              rw [h1] at a1; rw [h2] at a2
              have hv' := readB_len _ _ _ (Nat.le_refl _) hv
              have b1 : (trimR (takeW (notIn [61]) l)).length ≤ l.length := by
                unfold trimR; rw [List.length_reverse]
                have := dropW_len blankB (takeW (notIn [61]) l).reverse
                rw [List.length_reverse] at this
                unfold takeW at *; rw [List.length_take] at this; omega
              have b2 : (takeW (notIn [q, 60]) l2).length ≤ l2.length := by unfold takeW; rw [List.length_take]; omega
              simp at a1 a2
              exact ⟨b1, by show v.length ≤ _; omega⟩
          · cases h
      · cases h
theorem dropW_suffix (p : UInt8 → Bool) (l : Bs) : dropW p l <:+ l := by
  rw [dropW_drop p l]; exact List.drop_suffix _ _
theorem attrS_suffix {l : Bs} {p : Par} {r : Bs} (h : attrS l = some (p, r)) : r <:+ l := by
  unfold attrS at h
  split at h
  · cases h
  · rename_i c l1 h1
    split at h
    · cases h
    · rename_i q l2 h2
      split at h
      · split at h
        · cases h
        · rename_i c' r' h3
          split at h
          · split at h
            · cases h
            · cases h
              have a1 := dropW_suffix (notIn [61]) l
              have a2 := dropW_suffix blankB l1
              have a3 := dropW_suffix (notIn [q, 60]) l2
              rw [h1] at a1; rw [h2] at a2; rw [h3] at a3
              exact ((List.suffix_cons _ _).trans a3).trans (((List.suffix_cons _ _).trans a2).trans ((List.suffix_cons _ _).trans a1))
          · cases h
      · cases h
theorem attrS_drop {s : Bs} {p : Nat} {q : Par} {r : Bs} (h : attrS (s.drop p) = some (q, r)) : r = s.drop (s.length - r.length) :=
  List.suffix_iff_eq_drop.1 ((attrS_suffix h).trans (List.drop_suffix _ _))
/-- Inside element's loop: what has been read. -/
structure ARel (s : ByteArray) (F t0 : Nat) (w : World) (deep : Int) (name : ByteArray) (p tt : Nat) (va : Value) (wr : World) (g : Nat) (ps : List Par) : Prop where
  eq : attrsS F (s.data.toList.drop t0) [] = attrsS g (s.data.toList.drop tt) ps
  pos : posW blankB s.data.toList tt = p
  fuel : s.size - tt + 1 ≤ g
  le : tt ≤ p
  ge : t0 ≤ tt
  at_le : p ≤ s.size
  own : OPar wr w.heap.size va ps
  box : wr.heap[w.heap.size]? = some (.cells #[.int .i64 deep, .string name, va, .string ⟨#[]⟩] 40 (0, 0))
  below : Below w.heap.size w wr
  len : ps.length ≤ tt
/-- Behind element's loop. -/
structure BRel (s : ByteArray) (F t0 : Nat) (w : World) (deep : Int) (name : ByteArray) (p : Nat) (va : Value) (wr : World) (ps : List Par) : Prop where
  eq : attrsS F (s.data.toList.drop t0) [] = some (ps, s.data.toList.drop p)
  at_le : p ≤ s.size
  ge : t0 ≤ p
  own : OPar wr w.heap.size va ps
  box : wr.heap[w.heap.size]? = some (.cells #[.int .i64 deep, .string name, va, .string ⟨#[]⟩] 40 (0, 0))
  below : Below w.heap.size w wr
def elTail (f : Nat) (deep : Int) (nm : Bs) (cnt : Nat) : Option (List Par × Bs) → Option (List Nod × Bs)
  | none => none
  | some (ps, s3) =>
    match pre2 47 62 s3 with
    | some s4 => some ([⟨deep, nm, ps, []⟩], s4)
    | none =>
      match pre1 62 s3 with
      | none => none
      | some s4 => contS f s4 ⟨deep, nm, ps, []⟩ cnt
theorem elemS_tail {f : Nat} {s s1 r : Bs} {deep : Int} {cnt : Nat} {c : UInt8} (h1 : ¬ (8 ≤ deep ∨ 200 ≤ cnt)) (h2 : pre1 60 s = some s1) (h3 : dropW (notIn nameEnd) s1 = c :: r) :
    elemS (f + 1) s deep cnt = elTail f deep (takeW (notIn nameEnd) s1) cnt (attrsS (s1.length + 1) (c :: r) []) := by
  rw [elemS, if_neg h1, h2]
  unfold nameEnd at *
  simp only
  rw [h3]; simp only
  cases attrsS (s1.length + 1) (c :: r) [] with
  | none => rfl
  | some x =>
    obtain ⟨ps, s3⟩ := x
    simp only [elTail]
    cases pre2 47 62 s3 with
    | some s4 => rfl
    | none => cases pre1 62 s3 <;> rfl
theorem setCell_same {w : World} {b : Nat} {cs : Array Value} {T : TypeId} {fr : Nat × Nat} (hb : w.heap[b]? = some (.cells cs T fr)) (j : Nat) (u : Value) : (w.setCell ⟨b, j, none⟩ u).heap[b]? = some (.cells (cs.setIfInBounds j u) T fr) := by
  simp [World.setCell, Array.getElem?_modify, hb]
theorem setCell_grown (w : World) (b j : Nat) (u : Value) : w.grownBy (w.setCell ⟨b, j, none⟩ u) (some b) :=
  ⟨rfl, rfl, rfl, by simp [World.setCell], fun k _ hk => Below.heap_setCell _ _ _ _ (fun e => hk (by simp [e]))⟩
theorem setCell_size (w : World) (a : Addr) (u : Value) : (w.setCell a u).heap.size = w.heap.size := by simp [World.setCell]
theorem store3 {w : World} {b : Nat} {x0 x1 x2 : Value} {T : TypeId} (hb : w.heap[b]? = some (.cells #[x0, x1, x2] T (0, 0))) (y0 y1 y2 : Value) :
    (((w.setCell ⟨b, 0, none⟩ y0).setCell ⟨b, 1, none⟩ y1).setCell ⟨b, 2, none⟩ y2).heap[b]? = some (.cells #[y0, y1, y2] T (0, 0)) ∧
    w.grownBy (((w.setCell ⟨b, 0, none⟩ y0).setCell ⟨b, 1, none⟩ y1).setCell ⟨b, 2, none⟩ y2) (some b) ∧
    (((w.setCell ⟨b, 0, none⟩ y0).setCell ⟨b, 1, none⟩ y1).setCell ⟨b, 2, none⟩ y2).heap.size = w.heap.size := by
  refine ⟨?_, ?_, by simp⟩
  · have h1 := setCell_same hb 0 y0
    have h2 := setCell_same h1 1 y1
    have h3 := setCell_same h2 2 y2
    rw [h3]; rfl
  · exact ((setCell_grown _ _ _ _).trans (setCell_grown _ _ _ _)).trans (setCell_grown _ _ _ _)
theorem OPar.kept {w w' : World} {B : Nat} {v : Value} {ps : List Par} (h : OPar w B v ps) {row : Option Nat} (hg : w.grownBy w' row) (hne : v.ownBlock = none ∨ v.ownBlock ≠ row) : OPar w' B v ps := ⟨h.1.kept hg hne, h.2⟩
theorem OPar.lt {w : World} {B : Nat} {v : Value} {ps : List Par} (h : OPar w B v ps) (k : Nat) (hk : v.ownBlock = some k) : k < w.heap.size := own_lt h.1 k hk
theorem below_grown' {w w' : World} {row : Option Nat} (h : Below w.heap.size w w') : w.grownBy w' row := ⟨h.os, h.tape, h.output, h.size, fun i hi _ => h.block i hi⟩
set_option maxRecDepth 100000 in
set_option maxHeartbeats 8000000 in
theorem elem_step (f : Nat) (HC : ∀ g, g ≤ f → Cont g) : Elem (f + 1) := by
  intro s i v deep l ns B w hv hs hi hf hd0 hd1 hno hB hlen
  have hno0 := hno
  obtain ⟨⟨xs, hx1, hown, hx3⟩, hx4⟩ := hno
  obtain ⟨A, c, rfl⟩ := own_slice hown
  have hm : s.size ≤ maxLen := by unfold maxLen; omega
  have HM := Lib.hid hm
  clear hm
  subst hv
  by_cases d8 : 8 ≤ deep
  · have HE1 : Hid (elemS (f + 1) (s.data.toList.drop i) deep ns.length = none) := by show _ = _; rw [elemS, if_pos (.inl d8)]
    go_enter Tryd.func11, Tryd.ntmps11
    go_wp2_with fail
    go_ret2
    rw [HE1.out]
    exact ⟨below_grown' (Below.refl _ _), rfl⟩
  · by_cases d2 : 200 ≤ ns.length
    · have HE1 : Hid (elemS (f + 1) (s.data.toList.drop i) deep ns.length = none) := by show _ = _; rw [elemS, if_pos (.inr d2)]
      go_enter Tryd.func11, Tryd.ntmps11
      go_wp2_with fail
      go_ret2
      rw [HE1.out]
      exact ⟨below_grown' (Below.refl _ _), rfl⟩
    · have d2' : decide (200 ≤ (ns.length : Int)) = false := by simp; omega
      cases hp1 : pre1 60 (s.data.toList.drop i) with
      | none =>
        have HE1 : Hid (elemS (f + 1) (s.data.toList.drop i) deep ns.length = none) := by show _ = _; rw [elemS, if_neg (by omega), hp1]
        have HQ : Hid (isB s.data.toList i [60] = false) := by
          show _ = _; unfold isB; show (List.take 1 _ == _) = _; rw [pre1_take, hp1]; rfl
        clear hp1
        go_enter Tryd.func11, Tryd.ntmps11
        go_wp2_with fail
        refine (is_val _ _ _ i rfl _ (by omega) hi (by decide) [60] rfl _ HQ.out).mono ?_
        rintro e w' ⟨rfl, rfl⟩
        go_wp2_with fail
        go_ret2
        rw [HE1.out]
        exact ⟨below_grown' (Below.refl _ _), rfl⟩
      | some s1 =>
        have HQ : Hid (isB s.data.toList i [60] = true) := by
          show _ = _; unfold isB; show (List.take 1 _ == _) = _; rw [pre1_take, hp1]; rfl
        have hl1 := pre1_len hp1
        rw [List.length_drop, size_list] at hl1
        have hs1 : s1 = s.data.toList.drop (i + 1) := by
          rw [drop_cons s i (by omega)] at hp1
          unfold pre1 at hp1; simp at hp1; exact hp1.2.symm
        have HS1 := Lib.hid hs1
        have HP1 := Lib.hid hp1
        have hi1 : i + 1 ≤ s.size := by omega
        clear hs1 hp1
        go_enter Tryd.func11, Tryd.ntmps11
        go_wp2_with fail
        refine (is_val _ _ _ i rfl _ (by omega) hi (by decide) [60] rfl _ HQ.out).mono ?_
        rintro e w' ⟨rfl, rfl⟩
        go_wp2_with fail
        have Hcs := Lib.hid (posW_cases (notIn nameEnd) s (i + 1) hi1)
        rcases Hcs.out with ⟨hA, hp⟩ | ⟨k1, hk1, hle1, hp, hA, hT⟩
        · have HE1 : Hid (elemS (f + 1) (s.data.toList.drop i) deep ns.length = none) := by
            show _ = _; rw [elemS, if_neg (by omega), HP1.out]; simp only; rw [HS1.out]; unfold nameEnd at hA; rw [hA]
          have HP := Lib.hid hp
          clear hA hp
          refine (upto_val _ _ _ (i + 1) (by omega) _ HM.out hi1 (by decide) nameEnd rfl _ HP.out).mono ?_
          rintro e w' ⟨rfl, n1, rfl⟩
          go_wp2_with fail
          go_ret2
          rw [HE1.out]
          exact ⟨below_grown' (Dr.below0 ⟨n1, rfl⟩), rfl⟩
        · have HP := Lib.hid hp; have HA := Lib.hid hA; have HT := Lib.hid hT
          clear hA hp hT
          have e1 : ((k1 : Int) == (s.size : Int)) = false := by rw [beq_eq_false_iff_ne]; omega
          refine (upto_val _ _ _ (i + 1) (by omega) _ HM.out hi1 (by decide) nameEnd rfl _ HP.out).mono ?_
          rintro e w1 ⟨rfl, hd1⟩
          have HD1 := Lib.hid hd1
          have hno1 := hno0.below hd1.below0
          have hB1 : B ≤ w1.heap.size := Nat.le_trans hB hd1.below0.size
          have HNO := Lib.hid hno1
          clear hd1 hno1 hno0 hown hx1 hx3 hx4
          go_wp2_with fail
          have hcs2 := posW_cases blankB s k1 (by omega)
          have hps := posW_le blankB s.data.toList k1 (by rw [size_list]; omega)
          rw [size_list] at hps
          have Hcs2 := Lib.hid hcs2
          clear hcs2
          generalize hpw : posW blankB s.data.toList k1 = p2 at *
          have HPW := Lib.hid hpw
          clear hpw
          refine (over_val _ _ k1 rfl _ HM.out (by omega) _ HPW.out).mono ?_
          rintro e w2 ⟨rfl, n2, rfl⟩
          go_upto_block 0 with (fail)
          have hnl : (s.extract (i + 1) k1).data.toList.length ≤ 4096 := by rw [size_list, ByteArray.size_extract]; omega
          have HNL := Lib.hid hnl
          clear hnl
          have hel : elemS (f + 1) (s.data.toList.drop i) deep ns.length = elTail f deep (s.extract (i + 1) k1).data.toList ns.length (attrsS (s.size - (i + 1) + 1) (s.data.toList.drop k1) []) := by
            have hd : dropW (notIn nameEnd) s1 = s[k1] :: s.data.toList.drop (k1 + 1) := by rw [HS1.out]; exact HA.out
            rw [elemS_tail (by omega) HP1.out hd, ← drop_cons s k1 hk1]
            congr 1
            · rw [HS1.out]; exact HT.out
            · rw [HS1.out, List.length_drop, size_list]
          have HEL := Lib.hid hel
          clear hel
          generalize s.extract (i + 1) k1 = nm at *
          have hfr : Below w1.heap.size w1 (w1.alloc (.cells #[.int .i64 deep, .string nm, .slice none 0 0, .string ⟨#[]⟩] 40)) := (Below.refl _ _).alloc (Nat.le_refl _) _
          have hbx0 : (w1.alloc (.cells #[.int .i64 deep, .string nm, .slice none 0 0, .string ⟨#[]⟩] 40)).heap[w1.heap.size]? = some (.cells #[.int .i64 deep, .string nm, .slice none 0 0, .string ⟨#[]⟩] 40 (0, 0)) := heap_alloc_new w1 _
          have HA0 : Hid (ARel s (s.size - (i + 1) + 1) k1 w1 deep nm p2 k1 (.slice none 0 0) ((w1.alloc (.cells #[.int .i64 deep, .string nm, .slice none 0 0, .string ⟨#[]⟩] 40)).drewN n2) (s.size - (i + 1) + 1) []) :=
            ⟨rfl, HPW.out, by omega, by omega, Nat.le_refl _, by omega, OPar.nil _ _, hbx0, Dr.below ⟨n2, rfl⟩ hfr, by simp⟩
          clear hfr hbx0
          go_cut [1, 10] (fun av tv wr => ∃ (p tt : Nat) (va : Value) (ps : List Par), av = .int .i64 p ∧ tv = .int .i64 tt ∧ BRel s (s.size - (i + 1) + 1) k1 w1 deep nm p va wr ps)
          case first =>
            go_wp2_with fail
            go_loopw [1, 10] (fun av tv wr => ∃ (p tt : Nat) (va : Value) (g : Nat) (ps : List Par), av = .int .i64 p ∧ tv = .int .i64 tt ∧ ARel s (s.size - (i + 1) + 1) k1 w1 deep nm p tt va wr g ps) (fun av _ _ => s.size - (intOf av).toNat)
            case atStart => exact ⟨p2, k1, _, _, [], rfl, rfl, HA0.out⟩
            case round =>
              obtain ⟨p, tt, va, g, ps, rfl, rfl, hr⟩ := hrel
              have hptt := hr.le
              have hps2 := hr.at_le
              have hfu := hr.fuel
              have hpl := hr.len
              obtain ⟨g', hg'⟩ : ∃ g', g = g' + 1 := ⟨g - 1, by omega⟩
              subst hg'
              have HR := Lib.hid hr
              have HDW : Hid (dropW blankB (s.data.toList.drop tt) = s.data.toList.drop p) := by
                show _ = _; rw [← HR.out.pos]; exact (posW_drop _ _ _ (by rw [size_list]; omega)).symm
              clear hr
              have hexit : attrsS (g' + 1) (s.data.toList.drop tt) ps = some (ps, s.data.toList.drop p) → Hid (BRel s (s.size - (i + 1) + 1) k1 w1 deep nm p va wr ps) := fun h =>
                ⟨HR.out.eq.trans h, HR.out.at_le, Nat.le_trans HR.out.ge HR.out.le, HR.out.own, HR.out.box, HR.out.below⟩
              have HEX := Lib.hid hexit
              clear hexit
              by_cases hlt : p < s.size
              · by_cases hc : s[p] = 47
                · have z := u8x_false 47 47 rfl hc
                  have HX := HEX.out (by rw [attrsS, HDW.out, drop_cons s p hlt]; simp only; rw [if_pos (.inl hc)])
                  clear hc
                  go_wp2_with fail
                  go_meet
                  exact ⟨p, tt, va, ps, rfl, rfl, HX.out⟩
                · have z := u8x_true 47 47 rfl hc
                  by_cases hc2 : s[p] = 62
                  · have z2 := u8x_false 62 62 rfl hc2
                    have HX := HEX.out (by rw [attrsS, HDW.out, drop_cons s p hlt]; simp only; rw [if_pos (.inr hc2)])
                    clear hc hc2
                    go_wp2_with fail
                    go_meet
                    exact ⟨p, tt, va, ps, rfl, rfl, HX.out⟩
                  · have z2 := u8x_true 62 62 rfl hc2
                    have HC := Lib.hid (show ¬ (s[p] = 47 ∨ s[p] = 62) from fun h => h.elim hc hc2)
                    clear hc hc2
                    by_cases hpt : p = tt
                    · have HN : Hid (elemS (f + 1) (s.data.toList.drop i) deep ns.length = none) := by
                        show _ = _
                        rw [HEL.out, HR.out.eq, attrsS, HDW.out, drop_cons s p hlt]; simp only
                        rw [if_neg HC.out, ← drop_cons s p hlt, hpt, if_pos rfl]; rfl
                      have HBW : Hid (Below w.heap.size w wr) := by
                        have := HR.out.below; have h0 := HD1.out.below0; exact h0.trans (this.mono h0.size)
                      have e2 : ((p : Int) == (tt : Int)) = true := by rw [hpt]; simp
                      have HPT := Lib.hid hpt
                      clear hpt
                      go_wp2_with fail
                      go_ret2
                      rw [HN.out]
                      exact ⟨below_grown' HBW.out, rfl⟩
                    · have e2 : ((p : Int) == (tt : Int)) = false := by rw [beq_eq_false_iff_ne]; omega
                      have HPT := Lib.hid hpt
                      clear hpt
                      have HNX : Hid (attrsS (g' + 1) (s.data.toList.drop tt) ps = (match attrS (s.data.toList.drop p) with
                          | none => none
                          | some (q, rest) => attrsS g' rest (ps ++ [q]))) := by
                        show _ = _
                        rw [attrsS, HDW.out, drop_cons s p hlt]; simp only
                        rw [if_neg HC.out, ← drop_cons s p hlt, if_neg (by rw [List.length_drop, List.length_drop, size_list]; have := HPT.out; omega)]
                        cases attrS (s.data.toList.drop p) <;> rfl
                      go_wp2_with fail
                      refine (rattribute_walk s p _ hs hps2).mono ?_
                      rintro e w5 ⟨rfl, hb5⟩
                      have hbp : w5.heap[wr.heap.size]? = some (.cells #[.string ⟨#[]⟩, .string ⟨#[]⟩, .bool false] 43 (0, 0)) := by
                        rw [hb5.block _ (by simp)]; exact heap_alloc_new wr _
                      have hsz1 : w1.heap.size < wr.heap.size := by
                        rcases Nat.lt_or_ge w1.heap.size wr.heap.size with h | h
                        · exact h
                        · have := HR.out.box; rw [Array.getElem?_eq_none h] at this; cases this
                      have hsz5 : wr.heap.size < w5.heap.size := by
                        rcases Nat.lt_or_ge wr.heap.size w5.heap.size with h | h
                        · exact h
                        · rw [Array.getElem?_eq_none h] at hbp; cases hbp
                      have hbb : w5.heap[w1.heap.size]? = some (.cells #[.int .i64 deep, .string nm, va, .string ⟨#[]⟩] 40 (0, 0)) := by
                        rw [hb5.block _ (by simp; omega), Below.heap_alloc _ _ _ (by omega)]; exact HR.out.box
                      have c0 := blk_cell hbp 0
                      have c1 := blk_cell hbp 1
                      have c2 := blk_cell hbp 2
                      have f0 := frozen0 hbp 0
                      have f1 := frozen0 hbp 1
                      have f2 := frozen0 hbp 2
                      simp at c0 c1 c2
                      cases hat : attrS (s.data.toList.drop p) with
                      | none =>
                        have HN : Hid (elemS (f + 1) (s.data.toList.drop i) deep ns.length = none) := by
                          show _ = _
                          rw [HEL.out, HR.out.eq, HNX.out, hat]; rfl
                        have HB5 : Hid (Below w.heap.size w w5) := by
                          have h0 := HD1.out.below0
                          have h1 := h0.trans (HR.out.below.mono h0.size)
                          exact (h1.alloc h1.size _).trans (hb5.mono (by have := h1.size; simp; omega))
                        have hwle : w.heap.size ≤ wr.heap.size := by have h0 := HD1.out.below0.size; omega
                        clear hat hbp hbb hb5
                        simp only [attrV]
                        go_wp2_with fail
                        go_ret2
                        rw [HN.out]
                        exact ⟨below_grown' (((HB5.out.setCell (p := ⟨_, 0, none⟩) hwle _).setCell (p := ⟨_, 1, none⟩) hwle _).setCell (p := ⟨_, 2, none⟩) hwle _), rfl⟩
                      | some qr =>
                        obtain ⟨q, rest⟩ := qr
                        have HAT := Lib.hid hat
                        have hql := attrS_len hat
                        have hqz := attrS_sizes hat
                        have HRS := Lib.hid (attrS_drop hat)
                        rw [List.length_drop, size_list] at hql hqz
                        have HNX2 : Hid (attrsS (g' + 1) (s.data.toList.drop tt) ps = attrsS g' rest (ps ++ [q])) := by
                          show _ = _; rw [HNX.out, hat]
                        clear hat HNX
                        simp only [attrV, parV]
                        go_upto_region 13 with (fail)
                        obtain ⟨hp6, hg6, hs6⟩ := store3 hbp (.string ⟨q.name.toArray⟩) (.string ⟨q.value.toArray⟩) (.bool q.has)
                        have hva6 := (((HR.out.own.below ((Below.refl wr.heap.size wr).alloc (Nat.le_refl _) (.cells #[.string ⟨#[]⟩, .string ⟨#[]⟩, .bool false] 43))).below hb5).kept hg6 (by
                          cases hvb : va.ownBlock with
                          | none => exact .inl rfl
                          | some kk => exact .inr (fun e => by injection e with e; have := HR.out.own.lt kk hvb; omega)))
                        have hbb6 := (hg6.block w1.heap.size (by omega) (by simp; omega)).trans hbb
                        have hb6 : Below w1.heap.size w1 (((w5.setCell ⟨wr.heap.size, 0, none⟩ (.string ⟨q.name.toArray⟩)).setCell ⟨wr.heap.size, 1, none⟩ (.string ⟨q.value.toArray⟩)).setCell ⟨wr.heap.size, 2, none⟩ (.bool q.has)) :=
                          (((HR.out.below.alloc (by omega) _).trans (hb5.mono (by simp; omega))).grown hg6 (by omega) (by intro k hk; injection hk with hk; omega))
                        generalize ((w5.setCell ⟨wr.heap.size, 0, none⟩ (.string ⟨q.name.toArray⟩)).setCell ⟨wr.heap.size, 1, none⟩ (.string ⟨q.value.toArray⟩)).setCell ⟨wr.heap.size, 2, none⟩ (.bool q.has) = w6 at *
                        clear c0 c1 c2 f0 f1 f2 hbp hbb hg6 hb5
                        obtain ⟨A4, c4, rfl⟩ := own_slice hva6.1
                        have p0 := blk_cell hp6 0
                        have p1 := blk_cell hp6 1
                        have p2' := blk_cell hp6 2
                        have b2 := blk_cell hbb6 2
                        have fz := frozen0 hbb6 2
                        simp at p0 p1 p2' b2
                        obtain ⟨iP, hiP, hzP0, hzP1, hzP2⟩ := info_parts infoPar
                        have HVA := Lib.hid hva6
                        have HBB := Lib.hid hbb6
                        have HB6 := Lib.hid hb6
                        have hs61 : w1.heap.size < w6.heap.size := by omega
                        have hs6' : wr.heap.size < w6.heap.size := by omega
                        clear hva6 hp6 hbb6 hb6 hs6
                        go_wp2_with (at_builtin; (refine wpList_append_own_at _ rfl _ _ 38 rfl w1.heap.size 43 iP _ 3 40 Tryd.underlying38 hiP hzP0 hzP1 hzP2 rfl (by decide) _ _ _ rfl (HVA.out.1.alloc _) ⟨w6.heap.size, 0, none⟩ 1 1 (parCells q) rfl rfl ?c1 ?c2 ?c3 ?c4 ?c5 ?_))
                        case c1 =>
                          intro j u hj
                          rw [addr_add, new_cell, ← hj]; simp [parCells]
                        case c2 =>
                          intro u hu
                          simp [parCells] at hu
                          rcases hu with rfl | rfl | rfl <;> rfl
                        case c3 => unfold maxLen; omega
                        case c4 => omega
                        case c5 => simp; omega
                        intro va7 w7 hown7 hg7 _ hat7
                        obtain ⟨A7, c7, rfl⟩ := own_slice hown7
                        have hneb : (Value.slice A4 ps.length c4).ownBlock ≠ some w1.heap.size := fun e => by
                          obtain ⟨cs, hc⟩ := own_at HVA.out.1 e
                          rw [HBB.out] at hc; injection hc with hc; injection hc with _ ht; revert ht; decide
                        have hsz7 : w6.heap.size + 1 ≤ w7.heap.size := by have := hg7.size; simpa using this
                        have hbb7 : w7.heap[w1.heap.size]? = some (.cells #[.int .i64 deep, .string nm, .slice A4 ps.length c4, .string ⟨#[]⟩] 40 (0, 0)) := by
                          rw [hg7.block _ (by simp; omega) (fun e => hneb e.symm), Below.heap_alloc _ _ _ hs61]; exact HBB.out
                        have hneb7 : (Value.slice A7 (ps.length + 1) c7).ownBlock ≠ some w1.heap.size := fun e => by
                          obtain ⟨cs, hc⟩ := own_at hown7 e
                          rw [hbb7] at hc; injection hc with hc; injection hc with _ ht; revert ht; decide
                        have hop7 : OPar w7 w1.heap.size (.slice A7 (ps.length + 1) c7) (ps ++ [q]) := HVA.out.appended q (by omega) hown7
                        have hb7 : Below w1.heap.size w1 w7 := (HB6.out.alloc (by omega) _).grown hg7 (by simp; omega) (fun kk hk => (HVA.out.1.lt kk hk).1)
                        have hop8 := hop7.kept (setCell_grown w7 w1.heap.size 2 (.slice A7 (ps.length + 1) c7)) (.inr hneb7)
                        have hbb8 := setCell_same hbb7 2 (.slice A7 (ps.length + 1) c7)
                        have hb8 := hb7.setCell (p := ⟨w1.heap.size, 2, none⟩) (Nat.le_refl _) (.slice A7 (ps.length + 1) c7)
                        have b27 := blk_cell hbb7 2
                        have fz7 := frozen0 hbb7 2
                        simp at b27
                        have HOP8 := Lib.hid hop8
                        have HBB8 := Lib.hid hbb8
                        have HB8 := Lib.hid hb8
                        clear hown7 hg7 hat7 hop7 hbb7 hb7 hop8 hbb8 hb8 hneb hneb7 p0 p1 p2' b2 fz
                        go_wp2_with fail
                        have hpp := posW_le blankB s.data.toList (s.size - rest.length) (by rw [size_list]; omega)
                        rw [size_list] at hpp
                        generalize hpw3 : posW blankB s.data.toList (s.size - rest.length) = p3 at *
                        have HPW3 := Lib.hid hpw3
                        clear hpw3
                        refine (over_val _ _ (s.size - rest.length) rfl _ HM.out (by omega) _ HPW3.out).mono ?_
                        rintro e w9 ⟨rfl, n9, rfl⟩
                        go_wp2_with fail
                        refine ⟨⟨p3, s.size - rest.length, .slice A7 (ps.length + 1) c7, g', ps ++ [q], rfl, rfl, ?_⟩, by simp [intOf]; omega⟩
                        have hln : (ps ++ [q]).length = ps.length + 1 := by simp
                        have hgt := HR.out.ge
                        refine ⟨?_, HPW3.out, by omega, hpp.1, by omega, hpp.2, ?_, ?_, Dr.below ⟨n9, rfl⟩ HB8.out, by omega⟩
                        · rw [HR.out.eq, HNX2.out]
                          have h := HRS.out
                          rw [size_list] at h
                          exact congrArg (fun r => attrsS g' r (ps ++ [q])) h
                        · exact (HOP8.out.below (Dr.below0 ⟨n9, rfl⟩))
                        · exact HBB8.out
              · have HX := HEX.out (by rw [attrsS, HDW.out, drop_all s p (by omega)])
                go_wp2_with fail
                go_meet
                exact ⟨p, tt, va, ps, rfl, rfl, HX.out⟩
          case rest =>
            obtain ⟨p, tt, va, ps, rfl, rfl, hr⟩ := hcut
            have HR := Lib.hid hr
            have hpl := hr.at_le
            have hpk := hr.ge
            clear hr HA0
            obtain ⟨A4, c4, rfl⟩ := own_slice HR.out.own.1
            have b0 := blk_cell HR.out.box 0
            have b1 := blk_cell HR.out.box 1
            have b2 := blk_cell HR.out.box 2
            have b3 := blk_cell HR.out.box 3
            simp at b0 b1 b2 b3
            have HE : Hid (elemS (f + 1) (s.data.toList.drop i) deep ns.length = elTail f deep nm.data.toList ns.length (some (ps, s.data.toList.drop p))) := by
              show _ = _; rw [HEL.out, HR.out.eq]
            have HBW : Hid (Below w.heap.size w wc) := by
              have h0 := HD1.out.below0
              exact h0.trans (HR.out.below.mono h0.size)
            go_wp2_with fail
            cases hp2 : pre2 47 62 (s.data.toList.drop p) with
            | some s4 =>
              have HQ2 : Hid (isB s.data.toList p [47, 62] = true) := by
                show _ = _; unfold isB; show (List.take 2 _ == _) = _; rw [pre2_take, hp2]; rfl
              have HE2 : Hid (elemS (f + 1) (s.data.toList.drop i) deep ns.length = some ([⟨deep, nm.data.toList, ps, []⟩], s4)) := by
                show _ = _; rw [HE.out, elTail, hp2]
              have hl2 := pre2_len hp2
              have HP2 := Lib.hid hp2
              rw [List.length_drop, size_list] at hl2
              clear hp2
              refine (is_val _ _ _ p rfl _ (by omega) hpl (by decide) [47, 62] rfl _ HQ2.out).mono ?_
              rintro e w' ⟨rfl, rfl⟩
              obtain ⟨⟨xs2, hx1, hown, hx3⟩, -⟩ := (HNO.out.below HR.out.below)
              have hno2 := HNO.out.below HR.out.below
              have HNO2 := Lib.hid hno2
              have HX1 := Lib.hid hx1
              have HX3 := Lib.hid hx3
              obtain ⟨i0, hi0, hz0, hz1, hz2⟩ := info_parts infoNod
              have hBc : B ≤ wc.heap.size := Nat.le_trans hB1 HR.out.below.size
              clear hno2 hx1 hx3
              go_wp2_with (at_builtin; refine wpList_append_own_at _ rfl _ _ 22 rfl B 40 i0 _ 4 64 Tryd.underlying22 hi0 hz0 hz1 hz2 rfl (by decide) _ _ _ rfl (hown.alloc _) ⟨wc.heap.size, 0, none⟩ 1 1 (nodCells (⟨deep, nm.data.toList, ps, []⟩, .slice A4 ps.length c4)) rfl rfl ?c1 ?c2 ?c3 ?c4 ?c5 ?_)
              case c1 =>
                intro j u hj
                rw [addr_add, new_cell, ← hj]; simp [nodCells]
              case c2 =>
                intro u hu
                simp [nodCells] at hu
                rcases hu with rfl | rfl | rfl | rfl <;> rfl
              case c3 => unfold maxLen; omega
              case c4 => omega
              case c5 => simp; omega
              intro l1 w7 hown7 hg7 _ hat7
              have hbb : Below wc.heap.size wc (wc.alloc (.cells #[.int .i64 deep, .string nm, .slice A4 ps.length c4, .string ⟨#[]⟩] 40)) := (Below.refl _ _).alloc (Nat.le_refl _) _
              have hst := append_step HNO2.out xs2 HX1.out HX3.out hbb ⟨deep, nm.data.toList, ps, []⟩ _ ((HR.out.own.mono hB1).below hbb) ⟨HNL.out, by simp⟩ hown7 hg7 (by simpa using hat7)
              have HST := Lib.hid hst
              obtain ⟨A7, c7, rfl⟩ := own_slice hown7
              clear hst hown7 hg7 hat7 hbb hown
              go_wp2_with fail
              go_ret2
              rw [HE2.out]
              have hdrop : s.data.toList.drop (p + 2) = s4 := by
                have h := HP2.out
                rw [drop_cons s p (by omega), drop_cons s (p + 1) (by omega)] at h
                unfold pre2 at h; simp at h; exact h.2
              refine ⟨below_then HBW.out HST.out.2.1, _, p + 2, by simp, by omega, hdrop, HST.out.1, ?_⟩
              exact AtB.trans (.inl rfl) HST.out.2.2.1 HBW.out.size
            | none =>
              have HQ2 : Hid (isB s.data.toList p [47, 62] = false) := by
                show _ = _; unfold isB; show (List.take 2 _ == _) = _; rw [pre2_take, hp2]; rfl
              have HP2 := Lib.hid hp2
              clear hp2
              refine (is_val _ _ _ p rfl _ (by omega) hpl (by decide) [47, 62] rfl _ HQ2.out).mono ?_
              rintro e w' ⟨rfl, rfl⟩
              go_wp2_with fail
              cases hp3 : pre1 62 (s.data.toList.drop p) with
              | none =>
                have HQ3 : Hid (isB s.data.toList p [62] = false) := by
                  show _ = _; unfold isB; show (List.take 1 _ == _) = _; rw [pre1_take, hp3]; rfl
                have HE2 : Hid (elemS (f + 1) (s.data.toList.drop i) deep ns.length = none) := by
                  show _ = _; rw [HE.out, elTail, HP2.out]; simp only; rw [hp3]
                clear hp3
                refine (is_val _ _ _ p rfl _ (by omega) hpl (by decide) [62] rfl _ HQ3.out).mono ?_
                rintro e w' ⟨rfl, rfl⟩
                go_wp2_with fail
                go_ret2
                rw [HE2.out]
                exact ⟨below_grown' HBW.out, rfl⟩
              | some s4 =>
                have HQ3 : Hid (isB s.data.toList p [62] = true) := by
                  show _ = _; unfold isB; show (List.take 1 _ == _) = _; rw [pre1_take, hp3]; rfl
                have hl3 := pre1_len hp3
                rw [List.length_drop, size_list] at hl3
                have hs4 : s4 = s.data.toList.drop (p + 1) := by
                  rw [drop_cons s p (by omega)] at hp3
                  unfold pre1 at hp3; simp at hp3; exact hp3.2.symm
                have HE2 : Hid (elemS (f + 1) (s.data.toList.drop i) deep ns.length = contS f (s.data.toList.drop (p + 1)) ⟨deep, nm.data.toList, ps, []⟩ ns.length) := by
                  show _ = _; rw [HE.out, elTail, HP2.out]; simp only; rw [hp3]; simp only; rw [hs4]
                clear hp3 hs4
                refine (is_val _ _ _ p rfl _ (by omega) hpl (by decide) [62] rfl _ HQ3.out).mono ?_
                rintro e w' ⟨rfl, rfl⟩
                go_wp2_with fail
                refine (HC f (Nat.le_refl _) s (p + 1) _ ⟨deep, nm.data.toList, ps, []⟩ (.slice A4 ps.length c4) (.slice A ns.length c) ns B _ (by omega) hs (by omega) (by omega) hd0 (by show deep ≤ 90; omega) (by show nm.data.toList.length ≤ 4096; exact HNL.out) rfl ?_ ?_ ?_ (by omega)).mono ?_
                · exact HR.out.own.mono hB1
                · exact HNO.out.below HR.out.below
                · exact Nat.le_trans hB1 HR.out.below.size
                rintro e w3 hep
                unfold ElPost at hep
                have HE3 := HE2.out
                rw [show ns.length = ns.length from rfl] at hep
                cases hes : contS f (s.data.toList.drop (p + 1)) ⟨deep, nm.data.toList, ps, []⟩ ns.length with
                | none =>
                  rw [hes] at hep HE3
                  obtain ⟨hg3, rfl⟩ := hep
                  have HE4 := Lib.hid HE3
                  have HG3 := Lib.hid hg3
                  clear hes hg3 HE3
                  go_wp2_with fail
                  go_ret2
                  rw [HE4.out]
                  exact ⟨below_then HBW.out HG3.out, rfl⟩
                | some mr =>
                  obtain ⟨ms, r⟩ := mr
                  rw [hes] at hep HE3
                  obtain ⟨hg3, l'', i'', rfl, hi'', hdr, hon, hat''⟩ := hep
                  have HE4 := Lib.hid HE3
                  have HG3 := Lib.hid hg3
                  have HDR := Lib.hid hdr
                  have HON := Lib.hid hon
                  have HAT := Lib.hid hat''
                  clear hes hg3 HE3 hdr hon hat''
                  go_wp2_with fail
                  go_ret2
                  rw [HE4.out]
                  refine ⟨below_then HBW.out HG3.out, l'', i'', rfl, hi'', HDR.out, HON.out, ?_⟩
                  exact (AtB.trans (.inl rfl) HAT.out HBW.out.size)
/-- Elements and what stands in them. -/
theorem elem_cont (f : Nat) : Elem f ∧ Cont f := by
  induction f using Nat.strongRecOn with
  | _ f ih =>
    cases f with
    | zero =>
      exact ⟨fun s i v deep l ns B w hv hs hi hf => by omega, fun s i v n va l ns B w hv hs hi hf => by omega⟩
    | succ f => exact ⟨elem_step f fun g hg => (ih g (by omega)).2, cont_step f fun g hg => (ih g (by omega)).1⟩
end Go.Proofs.YtffcapkjfmkkaaaDoor
