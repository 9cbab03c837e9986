/- Lemmas for the statements of this seat, part 4: contracts of functions of the program and of the references, and plain facts on lists of bytes. -/
import Derived.Test.YtffcapkjfmkkaaaGreatDoorQ3
import Derived.Deep.RegionHeld3
namespace Go.Proofs.YtffcapkjfmkkaaaGreatDoor
open Go.RowKit
/-- The cell of bytealg.MaxLen. -/
abbrev Mx (w : World) (m : Int) : Prop := w.cell? ⟨2, 0, none⟩ = some (.int .i64 m)
theorem Rd.ne0 {w : World} {rb : Nat} {s : ByteArray} {l : Value} {m : Int} (h : Rd w rb s l) (hm : Mx w m) : rb ≠ 2 := fun e => by
  subst e
  have := h.s
  rw [hm] at this
  cases this
theorem cell_lt {w : World} {a : Addr} {v : Value} (h : w.cell? a = some v) : a.block < w.heap.size := by
  rcases Nat.lt_or_ge a.block w.heap.size with h' | h'
  · exact h'
  · simp [World.cell?, Array.getElem?_eq_none h'] at h
theorem grown_cell {w w' : World} {row : Option Nat} (hg : w.grownBy w' row) {a : Addr} {v : Value} (hr : some a.block ≠ row) (h : w.cell? a = some v) : w'.cell? a = some v := by
  rw [World.cell?_of_block (hg.block _ (cell_lt h) hr)]; exact h
theorem Mx.stp {w w' : World} {rb : Nat} {s : ByteArray} {l : Value} {m : Int} (hm : Mx w m) (h : Rd w rb s l) (hg : w.grownBy w' (some rb)) : Mx w' m :=
  grown_cell hg (by have := h.ne0 hm; intro e; injection e with e; exact this e.symm) hm
theorem trimR_S (l : Bs) : Lib.trimRightS l blanks4 = trimR l := by
  unfold Lib.trimRightS trimR
  have : (fun x => blanks4.contains x) = blankB := funext fun c => (blank_contains c).symm
  rw [this, dropW_while]
theorem pre1_has (a : UInt8) (l : Bs) : Lib.hasPrefix l [a] = (pre1 a l).isSome := by
  unfold Lib.hasPrefix pre1
  cases l with
  | nil => rfl
  | cons c l => by_cases h : c = a <;> simp [List.isPrefixOf, h] <;> intro h' <;> exact h h'.symm
theorem pre2_has (a b : UInt8) (l : Bs) : Lib.hasPrefix l [a, b] = (pre2 a b l).isSome := by
  unfold Lib.hasPrefix pre2
  match l with
  | [] => rfl
  | [c] => simp [List.isPrefixOf]
  | c :: d :: l =>
    show _ = (if c = a ∧ d = b then some l else none).isSome
    by_cases h : c = a ∧ d = b
    · rw [if_pos h]; simp [List.isPrefixOf, h.1, h.2]
    · rw [if_neg h]
      simp only [List.isPrefixOf, Bool.and_true, Option.isSome_none, Bool.and_eq_false_iff, beq_eq_false_iff_ne]
      by_cases h1 : c = a
      · exact .inr fun e => h ⟨h1, e.symm⟩
      · exact .inl fun e => h1 e.symm
theorem pre1_drop {a : UInt8} {l r : Bs} (h : pre1 a l = some r) : l.drop 1 = r := by
  unfold pre1 at h; split at h
  · split at h
    · cases h; rfl
    · cases h
  · cases h
theorem pre2_drop {a b : UInt8} {l r : Bs} (h : pre2 a b l = some r) : l.drop 2 = r := by
  unfold pre2 at h; split at h
  · split at h
    · cases h; rfl
    · cases h
  · cases h
/-- What take leaves; what may leaves. -/
def Took (rb : Nat) (l : Value) (w : World) (o : Option Bs) (e : Ending) (w' : World) : Prop :=
  match o with
  | none => e = gaveUp ∧ w.grownBy w' (some rb)
  | some r => e = .returned (.tuple #[]) ∧ Stp w rb r l w'
def Mayed (rb : Nat) (s : ByteArray) (l : Value) (w : World) (o : Option Bs) (e : Ending) (w' : World) : Prop :=
  match o with
  | none => e = .returned (.bool false) ∧ Stp w rb s.data.toList l w'
  | some r => e = .returned (.bool true) ∧ Stp w rb r l w'
/-- take of one sign, of two. -/
theorem take1_val (rb : Nat) (s t : ByteArray) (l : Value) (w : World) (hr : Rd w rb s l) (a : UInt8) (hT : t.data.toList = [a]) (o : Option Bs) (h : pre1 a s.data.toList = o) :
    Calls Tryz.prog 51 #[.pointer (some ⟨rb, 0, none⟩), .string t] w (Took rb l w o) := by
  refine (take_walk rb s t l w hr [a] hT _ rfl).mono ?_
  rintro e w' ⟨he, hst⟩
  rw [pre1_has, h] at he hst
  cases o with
  | none => exact ⟨he, hst.2⟩
  | some r => exact ⟨he, by rw [← pre1_drop h]; exact hst⟩
theorem take2_val (rb : Nat) (s t : ByteArray) (l : Value) (w : World) (hr : Rd w rb s l) (a b : UInt8) (hT : t.data.toList = [a, b]) (o : Option Bs) (h : pre2 a b s.data.toList = o) :
    Calls Tryz.prog 51 #[.pointer (some ⟨rb, 0, none⟩), .string t] w (Took rb l w o) := by
  refine (take_walk rb s t l w hr [a, b] hT _ rfl).mono ?_
  rintro e w' ⟨he, hst⟩
  rw [pre2_has, h] at he hst
  cases o with
  | none => exact ⟨he, hst.2⟩
  | some r => exact ⟨he, by rw [← pre2_drop h]; exact hst⟩
theorem may1_val (rb : Nat) (s t : ByteArray) (l : Value) (w : World) (hr : Rd w rb s l) (a : UInt8) (hT : t.data.toList = [a]) (o : Option Bs) (h : pre1 a s.data.toList = o) :
    Calls Tryz.prog 49 #[.pointer (some ⟨rb, 0, none⟩), .string t] w (Mayed rb s l w o) := by
  refine (may_val rb s t l w hr [a] hT _ rfl).mono ?_
  rintro e w' ⟨he, hst⟩
  rw [pre1_has, h] at he hst
  cases o with
  | none => exact ⟨he, hst⟩
  | some r => exact ⟨he, by rw [← pre1_drop h]; exact hst⟩
theorem may2_val (rb : Nat) (s t : ByteArray) (l : Value) (w : World) (hr : Rd w rb s l) (a b : UInt8) (hT : t.data.toList = [a, b]) (o : Option Bs) (h : pre2 a b s.data.toList = o) :
    Calls Tryz.prog 49 #[.pointer (some ⟨rb, 0, none⟩), .string t] w (Mayed rb s l w o) := by
  refine (may_val rb s t l w hr [a, b] hT _ rfl).mono ?_
  rintro e w' ⟨he, hst⟩
  rw [pre2_has, h] at he hst
  cases o with
  | none => exact ⟨he, hst⟩
  | some r => exact ⟨he, by rw [← pre2_drop h]; exact hst⟩
/-- An attribute's value, behind its quote; from its quote on. -/
def attrU (nm : Bs) (q : UInt8) (l2 : Bs) : Option (Par × Bs) :=
  match dropW (notIn [q, 60]) l2 with
  | [] => none
  | c :: rest =>
    if c = q then
      match readB (takeW (notIn [q, 60]) l2) with
      | none => none
      | some v => some (⟨nm, v, true⟩, rest)
    else none
def attrT (nm : Bs) (l1 : Bs) : Option (Par × Bs) :=
  match dropW blankB l1 with
  | [] => none
  | q :: l2 => if q = 34 ∨ q = 39 then attrU nm q l2 else none
theorem pre1_cons {a : UInt8} {l r : Bs} (h : pre1 a l = some r) : l = a :: r := by
  unfold pre1 at h; split at h
  · split at h
    · rename_i hc; cases h; rw [hc]
    · cases h
  · cases h
theorem attrT_none {nm l1 : Bs} (h1 : pre1 34 (dropW blankB l1) = none) (h2 : pre1 39 (dropW blankB l1) = none) : attrT nm l1 = none := by
  unfold attrT
  cases h : dropW blankB l1 with
  | nil => rfl
  | cons q l2 =>
    rw [h] at h1 h2
    unfold pre1 at h1 h2
    by_cases hq : q = 34
    · simp [hq] at h1
    · by_cases hq2 : q = 39
      · simp [hq2] at h2
      · show (if q = 34 ∨ q = 39 then attrU nm q l2 else none) = none
        rw [if_neg (fun h => h.elim hq hq2)]
theorem attrP_val {s : Bs} {nm : Bs} {q : UInt8} {l2 r : Bs} (h : attrS s = attrU nm q l2) (hd : dropW (notIn [q, 60]) l2 = q :: r) :
    attrP s = match plainS (takeW (notIn [q, 60]) l2) with
      | none => none
      | some t => some (⟨nm, t, true⟩, r) := by
  unfold attrP; rw [h]; unfold attrU plainS; rw [hd]
  simp only [if_true]
  cases readB (takeW (notIn [q, 60]) l2) with
  | none => rfl
  | some t =>
    by_cases hs : signsB t = true
    · simp [goodP, hs]
    · simp [goodP, hs]
theorem attrS_nil {s : Bs} (h : dropW (notIn [61]) s = []) : attrS s = none := by unfold attrS; rw [h]
theorem attrS_tail {s l1 : Bs} {c : UInt8} (h : dropW (notIn [61]) s = c :: l1) : attrS s = attrT (trimR (takeW (notIn [61]) s)) l1 := by
  unfold attrS attrT; rw [h]; rfl
/-- Inside attr: its two variables stand beside the reader. -/
structure ASt (w wr : World) (rb pb : Nat) (nm : Bs) : Prop where
  grown : w.grownBy wr (some rb)
  x : wr.heap[w.heap.size]? = some (.cells #[.string ⟨#[]⟩, .string ⟨#[]⟩, .bool false] 43 (0, 0))
  p : wr.heap[pb]? = some (.cells #[.string ⟨nm.toArray⟩, .string ⟨#[]⟩, .bool true] 43 (0, 0))
  lt : w.heap.size < pb
  lt2 : pb < wr.heap.size
  rlt : rb < w.heap.size
theorem ASt.step {w wr w' : World} {rb pb : Nat} {nm : Bs} (h : ASt w wr rb pb nm) (hg : wr.grownBy w' (some rb)) : ASt w w' rb pb nm := by
  have h1 := h.lt
  have h2 := h.lt2
  have h3 := h.rlt
  refine ⟨h.grown.trans hg, ?_, ?_, h1, Nat.lt_of_lt_of_le h2 hg.size, h3⟩
  · rw [hg.block _ (by omega) (by intro e; injection e with e; omega)]; exact h.x
  · rw [hg.block _ h2 (by intro e; injection e with e; omega)]; exact h.p
theorem grown_set {w w1 : World} {row : Option Nat} (h : w.grownBy w1 row) (a : Addr) (ha : w.heap.size ≤ a.block) (v : Value) : w.grownBy (w1.setCell a v) row :=
  ⟨h.os, h.tape, h.output, by rw [setCell_size]; exact h.size, fun k hk hne => by rw [Below.heap_setCell _ _ _ _ (by omega)]; exact h.block k hk hne⟩
theorem Rd.other {w : World} {rb : Nat} {s : ByteArray} {l : Value} (h : Rd w rb s l) (a : Addr) (ha : rb ≠ a.block) (v : Value) : Rd (w.setCell a v) rb s l := by
  unfold Rd; rw [Below.heap_setCell _ _ _ _ ha]; exact h
def AttrPost (w : World) (rb : Nat) (s : Bs) (l : Value) (e : Ending) (w' : World) : Prop :=
  match attrP s with
  | none => e = gaveUp ∧ w.grownBy w' (some rb)
  | some (p, r) => e = .returned (parV p) ∧ Stp w rb r l w'
set_option maxRecDepth 100000 in
set_option maxHeartbeats 8000000 in
theorem attr_walk (rb : Nat) (s : ByteArray) (l : Value) (m : Int) (w : World) (hr : Rd w rb s l) (hs : s.size ≤ 4096) (hm : Mx w m) :
    Calls Tryz.prog 68 #[.pointer (some ⟨rb, 0, none⟩)] w (AttrPost w rb s.data.toList l) := by
  have HR := Lib.hid hr
  have HM := Lib.hid hm
  have hf0 : attrS s.data.toList = none → ∀ w', w.grownBy w' (some rb) → AttrPost w rb s.data.toList l gaveUp w' := fun h w' hg => by
    unfold AttrPost attrP; rw [h]; exact ⟨rfl, hg⟩
  have HF := Lib.hid hf0
  clear hf0
  go_enter Tryz.func68, Tryz.ntmps68
  go_wp2_with fail
  have hb0 : Below w.heap.size w (w.alloc (.cells #[.string ⟨#[]⟩, .string ⟨#[]⟩, .bool false] 43)) := (Below.refl _ _).alloc (Nat.le_refl _) _
  have hx0 : (w.alloc (.cells #[.string ⟨#[]⟩, .string ⟨#[]⟩, .bool false] 43)).heap[w.heap.size]? = some (.cells #[.string ⟨#[]⟩, .string ⟨#[]⟩, .bool false] 43 (0, 0)) := heap_alloc_new w _
  have hz0 : (w.alloc (.cells #[.string ⟨#[]⟩, .string ⟨#[]⟩, .bool false] 43)).heap.size = w.heap.size + 1 := by simp
  have hlt := HR.out.lt
  refine (until_walk rb s ⟨#[61]⟩ l _ (HR.out.below hb0) [61] rfl (by decide) (by omega)).mono ?_
  generalize (w.alloc (.cells #[.string ⟨#[]⟩, .string ⟨#[]⟩, .bool false] 43)) = w0 at *
  rintro e w1 hu
  unfold UntilPost at hu
  cases hd : dropW (notIn [61]) s.data.toList with
  | nil =>
    rw [hd] at hu
    obtain ⟨rfl, hb⟩ := hu
    have HN : Hid (attrS s.data.toList = none) := by
      exact attrS_nil hd
    have HB := Lib.hid hb
    clear hd hb
    go_wp2
    exact ⟨rfl, HF.out HN.out _ (below_grown' (hb0.trans (HB.out.mono hb0.size)))⟩
  | cons c l1 =>
    rw [hd] at hu
    obtain ⟨rfl, hst⟩ := hu
    have h61 := notIn_one (dropW_head hd)
    subst h61
    have hgr := hst.2
    have HST := Lib.hid hst
    have HD := Lib.hid hd
    clear hd hst
    have HX1 : Hid (w1.heap[w.heap.size]? = some (.cells #[.string ⟨#[]⟩, .string ⟨#[]⟩, .bool false] 43 (0, 0))) := by
      show _ = _
      rw [hgr.block _ (by omega) (by intro e; injection e with e; omega)]; exact hx0
    have HG1 : Hid (w.grownBy w1 (some rb)) := below_then hb0 hgr
    have hz1 := hgr.size
    have HL1 : Hid (l1.length < s.size) := by
      show _ < _
      have := dropW_len (notIn [61]) s.data.toList
      rw [HD.out, size_list] at this
      simp at this; omega
    clear hgr hx0
    go_wp2_with fail
    have htl : (takeW (notIn [61]) s.data.toList).length ≤ 4096 := by
      unfold takeW; rw [List.length_take, size_list]; omega
    have HTL := Lib.hid htl
    refine (strings_TrimRight_laid ⟨(takeW (notIn [61]) s.data.toList).toArray⟩ ⟨blanks4.toArray⟩ w1 (by rw [← size_list]; show List.length (takeW _ _) ≤ _; omega) (by decide) blanks_ascii).mono ?_
    rintro e w2 ⟨rfl, hb2⟩
    rw [show (⟨(Lib.trimRightS (⟨(takeW (notIn [61]) s.data.toList).toArray⟩ : ByteArray).data.toList (⟨blanks4.toArray⟩ : ByteArray).data.toList).toArray⟩ : ByteArray) = ⟨(trimR (takeW (notIn [61]) s.data.toList)).toArray⟩ from congrArg _ (congrArg _ (trimR_S _))]
    generalize hnm : trimR (takeW (notIn [61]) s.data.toList) = nm
    have HNM := Lib.hid hnm
    have hz2 := hb2.size
    have HR2 := Lib.hid (HST.out.1.below hb2)
    have HX2 : Hid (w2.heap[w.heap.size]? = some (.cells #[.string ⟨#[]⟩, .string ⟨#[]⟩, .bool false] 43 (0, 0))) := by
      show _ = _
      rw [hb2.block _ (by omega)]; exact HX1.out
    have HG2 : Hid (w.grownBy w2 (some rb)) := grown_below HG1.out hb2
    clear hnm hb2
    go_wp2_with fail
    have HA3 : Hid (ASt w (w2.alloc (.cells #[.string ⟨nm.toArray⟩, .string ⟨#[]⟩, .bool true] 43)) rb w2.heap.size nm) :=
      ⟨grown_below HG2.out ((Below.refl _ _).alloc (Nat.le_refl _) _), by rw [Below.heap_alloc _ _ _ (by omega)]; exact HX2.out, heap_alloc_new w2 _, by omega, by simp, hlt⟩
    have hr3 : Rd (w2.alloc (.cells #[.string ⟨nm.toArray⟩, .string ⟨#[]⟩, .bool true] 43)) rb ⟨(61 :: l1).toArray⟩ l := HR2.out.below ((Below.refl _ _).alloc (Nat.le_refl _) _)
    refine (take1_val rb _ ⟨#[61]⟩ l _ hr3 61 rfl (some l1) rfl).mono ?_
    rintro e w4 ⟨rfl, hst4⟩
    have HA4 := Lib.hid (HA3.out.step hst4.2)
    have HR4 := Lib.hid hst4.1
    clear hst4 hr3
    go_wp2_with fail
    refine (blank_walk rb _ l w4 HR4.out).mono ?_
    rintro e w5 ⟨rfl, hst5⟩
    have HA5 := Lib.hid (HA4.out.step hst5.2)
    have HR5 := Lib.hid hst5.1
    clear hst5
    have HS1 : Hid (attrS s.data.toList = attrT nm l1) := by
      show _ = _
      rw [← HNM.out]; exact attrS_tail HD.out
    generalize hxx : dropW blankB l1 = xx at HR5
    have HXX := Lib.hid hxx
    clear hxx
    generalize hb34 : Lib.hasPrefix xx [34] = b34
    have H34 := Lib.hid hb34
    have HF2 : Hid (attrT nm l1 = none → ∀ w', w.grownBy w' (some rb) → AttrPost w rb s.data.toList l gaveUp w') := fun h => HF.out (HS1.out.trans h)
    go_upto_if 17 with (fail)
    refine (may_val rb _ ⟨#[34]⟩ l w5 HR5.out [34] rfl b34 hb34).mono ?_
    clear hb34
    rintro e w6 ⟨rfl, hst6⟩
    have HA6 := Lib.hid (HA5.out.step hst6.2)
    have HR6 := Lib.hid hst6.1
    clear hst6
    go_upto_if 17 with (fail)
    go_cut [4] (fun qv wr => ∃ (q : UInt8) (l2 : Bs), (q = 34 ∨ q = 39) ∧ qv = .string ⟨#[q]⟩ ∧ dropW blankB l1 = q :: l2 ∧ Rd wr rb ⟨l2.toArray⟩ l ∧ ASt w wr rb w2.heap.size nm)
    case first =>
      cases b34
      · have hr6 : Rd w6 rb ⟨xx.toArray⟩ l := HR6.out
        have h34 : pre1 34 xx = none := by
          have := H34.out; rw [pre1_has] at this; simpa using this
        have HP34 := Lib.hid h34
        clear h34
        go_wp2_with fail
        cases h39 : pre1 39 xx with
        | none =>
          refine (take1_val rb _ ⟨#[39]⟩ l w6 hr6 39 rfl none h39).mono ?_
          have HP39 := Lib.hid h39
          clear h39
          rintro e w7 ⟨rfl, hg7⟩
          have HG7 := Lib.hid hg7
          clear hg7
          go_wp2
          exact ⟨rfl, HF2.out (attrT_none (by rw [HXX.out]; exact HP34.out) (by rw [HXX.out]; exact HP39.out)) _ (HA6.out.grown.trans HG7.out)⟩
        | some l2 =>
          refine (take1_val rb _ ⟨#[39]⟩ l w6 hr6 39 rfl (some l2) h39).mono ?_
          have HP39 := Lib.hid h39
          clear h39
          rintro e w7 ⟨rfl, hst7⟩
          have HST7 := Lib.hid hst7
          clear hst7
          go_wp2_with fail
          go_meet
          exact ⟨39, l2, .inr rfl, rfl, by rw [HXX.out]; exact pre1_cons HP39.out, HST7.out.1, HA6.out.step HST7.out.2⟩
      · have hr6 : Rd w6 rb ⟨(xx.drop 1).toArray⟩ l := HR6.out
        have HR6' := Lib.hid hr6
        clear hr6
        go_wp2_with fail
        go_meet
        refine ⟨34, xx.drop 1, .inl rfl, rfl, ?_, HR6'.out, HA6.out⟩
        have := H34.out
        rw [pre1_has] at this
        obtain ⟨r, hr⟩ := Option.isSome_iff_exists.1 this
        rw [HXX.out, pre1_drop hr]; exact pre1_cons hr
    case rest =>
      obtain ⟨q, l2, hq, rfl, hx, hr, ha⟩ := hcut
      have HA := Lib.hid ha
      have HRC := Lib.hid hr
      have HX := Lib.hid hx
      have HS2 : Hid (attrS s.data.toList = attrU nm q l2) := by
        show _ = _
        rw [HS1.out]; unfold attrT; rw [hx]; exact if_pos hq
      have hl2 : l2.length ≤ 4096 := by
        have h1 := dropW_len blankB l1
        have := HL1.out
        rw [hx] at h1; simp at h1; omega
      have ha128 : ∀ b ∈ [q, 60], b.toNat < 128 := by
        rcases hq with rfl | rfl <;> decide
      have hT : ((⟨#[q]⟩ : ByteArray) ++ ⟨#[60]⟩).data.toList = [q, 60] := by rw [Joins.data_append]; rfl
      have HHT := Lib.hid hT
      have HF3 : Hid (attrP s.data.toList = none → ∀ w', w.grownBy w' (some rb) → AttrPost w rb s.data.toList l gaveUp w') := fun h w' hg => by
        unfold AttrPost; rw [h]; exact ⟨rfl, hg⟩
      have HF4 : Hid (attrS s.data.toList = none → attrP s.data.toList = none) := fun h => by unfold attrP; rw [h]
      clear ha hr hx hq hT
      go_wp2_with fail
      refine (until_walk rb ⟨l2.toArray⟩ _ l wc HRC.out [q, 60] HHT.out ha128 (by rw [← size_list]; show l2.length ≤ _; omega)).mono ?_
      rintro e w6 hu
      unfold UntilPost at hu
      rw [show (⟨l2.toArray⟩ : ByteArray).data.toList = l2 from rfl] at hu
      cases hd : dropW (notIn [q, 60]) l2 with
      | nil =>
        rw [hd] at hu
        obtain ⟨rfl, hb⟩ := hu
        have HN : Hid (attrS s.data.toList = none) := by
          show _ = _; rw [HS2.out]; unfold attrU; rw [hd]
        have HB := Lib.hid hb
        clear hd hb
        go_wp2
        exact ⟨rfl, HF3.out (HF4.out HN.out) _ (grown_below HA.out.grown HB.out)⟩
      | cons c r =>
        rw [hd] at hu
        obtain ⟨rfl, hst⟩ := hu
        have HA6 := Lib.hid (HA.out.step hst.2)
        have HR6 := Lib.hid hst.1
        have HD2 := Lib.hid hd
        clear hst hd
        go_wp2_with fail
        cases hcq : pre1 q (c :: r) with
        | none =>
          refine (take1_val rb _ ⟨#[q]⟩ l w6 HR6.out q rfl none hcq).mono ?_
          have HN : Hid (attrS s.data.toList = none) := by
            show _ = _; rw [HS2.out]; unfold attrU; rw [HD2.out]
            unfold pre1 at hcq
            show (if c = q then _ else none) = none
            by_cases h : c = q
            · simp [h] at hcq
            · exact if_neg h
          clear hcq
          rintro e w7 ⟨rfl, hg7⟩
          have HG7 := Lib.hid hg7
          clear hg7
          go_wp2
          exact ⟨rfl, HF3.out (HF4.out HN.out) _ (HA6.out.grown.trans HG7.out)⟩
        | some r' =>
          have hc : c = q ∧ r' = r := by
            have := pre1_cons hcq
            injection this with h1 h2
            exact ⟨h1, h2.symm⟩
          obtain ⟨rfl, rfl⟩ := hc
          refine (take1_val rb _ ⟨#[c]⟩ l w6 HR6.out c rfl (some r') hcq).mono ?_
          clear hcq
          rintro e w7 ⟨rfl, hst7⟩
          have HA7 := Lib.hid (HA6.out.step hst7.2)
          have HR7 := Lib.hid hst7.1
          clear hst7
          have HAP := Lib.hid (attrP_val HS2.out HD2.out)
          have htl2 : (takeW (notIn [c, 60]) l2).length ≤ 4096 := by
            unfold takeW; rw [List.length_take]; omega
          generalize takeW (notIn [c, 60]) l2 = v at *
          go_wp2_with fail
          refine (plain_walk rb ⟨v.toArray⟩ m w7 (by rw [← size_list]; exact htl2) (HM.out.stp HR.out HA7.out.grown)).mono ?_
          rintro e w8 hpp
          obtain ⟨hpp, hb8⟩ := hpp
          rw [show (⟨v.toArray⟩ : ByteArray).data.toList = v from rfl] at hpp
          have HB8 := Lib.hid hb8
          clear hb8
          cases hps : plainS v with
          | none =>
            rw [hps] at hpp
            subst hpp
            have HN : Hid (attrP s.data.toList = none) := by
              show _ = _; rw [HAP.out, hps]
            clear hps
            go_wp2
            exact ⟨rfl, HF3.out HN.out _ (grown_below HA7.out.grown HB8.out)⟩
          | some tx =>
            rw [hps] at hpp
            subst hpp
            have HS3 : Hid (attrP s.data.toList = some (⟨nm, tx, true⟩, r')) := by
              show _ = _; rw [HAP.out, hps]
            clear hps
            have HA8 := Lib.hid (HA7.out.step (below_grown' HB8.out))
            have HR8 := Lib.hid (HR7.out.below HB8.out)
            have hp := HA8.out.p
            have hX := HA8.out.x
            have c0 := blk_cell hp 0
            have c1 := blk_cell hp 1
            have c2 := blk_cell hp 2
            have f1 := frozen0 hp 1
            have d0 := blk_cell hX 0
            have d1 := blk_cell hX 1
            have d2 := blk_cell hX 2
            have e0 := frozen0 hX 0
            have e1 := frozen0 hX 1
            have e2 := frozen0 hX 2
            have hne : ¬ w.heap.size = w2.heap.size := by have := HA8.out.lt; omega
            have hne2 : ¬ w2.heap.size = w.heap.size := by have := HA8.out.lt; omega
            have HX8 := Lib.hid hX
            clear hp hX
            simp at c0 c1 c2 d0 d1 d2
            go_wp2_with fail
            have hX2 : (w8.setCell ⟨w2.heap.size, 1, none⟩ (.string ⟨tx.toArray⟩)).heap[w.heap.size]? = some (.cells #[.string ⟨#[]⟩, .string ⟨#[]⟩, .bool false] 43 (0, 0)) := by
              rw [Below.heap_setCell _ _ _ _ (fun e => hne2 e.symm)]; exact HX8.out
            have hs3 := store3 hX2 (.string ⟨nm.toArray⟩) (.string ⟨tx.toArray⟩) (.bool true)
            have hlt2 := HA8.out.lt
            refine bodyPost_ret (v := parV ⟨nm, tx, true⟩) (results_cell_row rfl _ _ w.heap.size 43 #[.string ⟨nm.toArray⟩, .string ⟨tx.toArray⟩, .bool true] (0, 0) _ rfl hs3.1 Tryz.underlying43 rfl (by kernel_rfl)) rfl ?_
            show AttrPost w rb s.data.toList l _ _
            unfold AttrPost; rw [HS3.out]
            refine ⟨rfl, ?_, ?_⟩
            · exact (((HR8.out.other _ (by show rb ≠ w2.heap.size; omega) _).other _ (by show rb ≠ w.heap.size; omega) _).other _ (by show rb ≠ w.heap.size; omega) _).other _ (by show rb ≠ w.heap.size; omega) _
            · exact grown_set (grown_set (grown_set (grown_set HA8.out.grown _ (by show _ ≤ w2.heap.size; omega) _) _ (Nat.le_refl _) _) _ (Nat.le_refl _) _) _ (Nat.le_refl _) _
end Go.Proofs.YtffcapkjfmkkaaaGreatDoor
namespace Go.Proofs.YtffcapkjfmkkaaaGreatDoor
open Go.RowKit
/-- How much the reader has still to read. -/
def rdLen (w : World) (rb : Nat) : Nat :=
  match w.heap[rb]? with
  | some (.cells cs _ _) => (match cs[0]? with | some (Value.string s) => s.size | _ => 0)
  | _ => 0
theorem Rd.len {w : World} {rb : Nat} {s : ByteArray} {l : Value} (h : Rd w rb s l) : rdLen w rb = s.size := by
  unfold rdLen; rw [show w.heap[rb]? = _ from h]; rfl
/-- Nothing that was there has been turned but the reader and the row of its list. -/
structure Fr (w w' : World) (rb : Nat) (row : Option Nat) : Prop where
  os : w'.os = w.os
  tape : w'.tape = w.tape
  output : w'.output = w.output
  size : w.heap.size ≤ w'.heap.size
  block : ∀ k, k < w.heap.size → k ≠ rb → some k ≠ row → w'.heap[k]? = w.heap[k]?
theorem Fr.of {w w' : World} {rb : Nat} {row : Option Nat} (h : w.grownBy w' (some rb)) : Fr w w' rb row :=
  ⟨h.os, h.tape, h.output, h.size, fun k hk h1 _ => h.block k hk (by intro e; injection e with e; exact h1 e)⟩
theorem Fr.ofRow {w w' : World} {rb : Nat} {row : Option Nat} (h : w.grownBy w' row) : Fr w w' rb row :=
  ⟨h.os, h.tape, h.output, h.size, fun k hk _ h2 => h.block k hk h2⟩
theorem Fr.ofBelow {w w' : World} {rb : Nat} {row : Option Nat} (h : Below w.heap.size w w') : Fr w w' rb row := Fr.ofRow (below_grown' h)
theorem Fr.trans {w w1 w2 : World} {rb : Nat} {l l1 : Value} (h1 : Fr w w1 rb l.ownBlock) (h2 : Fr w1 w2 rb l1.ownBlock) (ha : AtB w l l1) : Fr w w2 rb l.ownBlock :=
  ⟨h2.os.trans h1.os, h2.tape.trans h1.tape, h2.output.trans h1.output, Nat.le_trans h1.size h2.size, fun k hk hr hne => by
    rw [h2.block k (Nat.lt_of_lt_of_le hk h1.size) hr ?_, h1.block k hk hr hne]
    rcases ha with e | e | ⟨b, e, hb⟩
    · rw [e]; exact hne
    · rw [e]; simp
    · rw [e]; intro e'; injection e' with e'; omega⟩
theorem Fr.then {w w1 w2 : World} {rb : Nat} {row : Option Nat} (h1 : Fr w w1 rb row) (h2 : w1.grownBy w2 (some rb)) : Fr w w2 rb row :=
  ⟨h2.os.trans h1.os, h2.tape.trans h1.tape, h2.output.trans h1.output, Nat.le_trans h1.size h2.size, fun k hk hr hne => by
    rw [h2.block k (Nat.lt_of_lt_of_le hk h1.size) (by intro e; injection e with e; exact hr e), h1.block k hk hr hne]⟩
theorem Fr.cell {w w' : World} {rb : Nat} {row : Option Nat} (h : Fr w w' rb row) {a : Addr} {v : Value} (h1 : a.block ≠ rb) (h2 : some a.block ≠ row) (hc : w.cell? a = some v) : w'.cell? a = some v := by
  rw [World.cell?_of_block (h.block _ (cell_lt hc) h1 h2)]; exact hc
theorem AtB.refl (w : World) (l : Value) : AtB w l l := .inl rfl
/-- The reader's block is no row. -/
theorem Rd.notPar {w : World} {rb : Nat} {s : ByteArray} {l : Value} (h : Rd w rb s l) : NotPar w (some rb) := fun k hk => by
  injection hk with hk; subst hk
  exact ⟨_, _, _, h, by decide⟩
theorem Rd.notRow {w : World} {rb : Nat} {s : ByteArray} {l v : Value} {B e size n : Nat} {xs : List Value} (h : Rd w rb s l) (hv : w.ownsRow B e size v n xs) (he : e ≠ 83) : v.ownBlock ≠ some rb := fun hk => by
  obtain ⟨cs, hc⟩ := own_at hv hk
  rw [show w.heap[rb]? = _ from h] at hc
  injection hc with hc; injection hc with _ h2
  exact he h2.symm
theorem ONod.notRd {w : World} {rb B : Nat} {s : ByteArray} {l v : Value} {ns : List Nod} (h : ONod w B v ns) (hr : Rd w rb s l) : v.ownBlock ≠ some rb := by
  obtain ⟨⟨xs, -, h2, -⟩, -⟩ := h
  exact hr.notRow h2 (by decide)
theorem OPar.notRd {w : World} {rb B : Nat} {s : ByteArray} {l v : Value} {ps : List Par} (h : OPar w B v ps) (hr : Rd w rb s l) : v.ownBlock ≠ some rb := hr.notRow h.1 (by decide)
theorem ONod.stp {w w' : World} {rb B : Nat} {s : ByteArray} {l v : Value} {ns : List Nod} (h : ONod w B v ns) (hr : Rd w rb s l) (hg : w.grownBy w' (some rb)) : ONod w' B v ns := h.grown hg hr.notPar (.inr (h.notRd hr))
theorem OPar.stp {w w' : World} {rb B : Nat} {s : ByteArray} {l v : Value} {ps : List Par} (h : OPar w B v ps) (hr : Rd w rb s l) (hg : w.grownBy w' (some rb)) : OPar w' B v ps := h.grown hg hr.notPar
/-- One round of the attributes. -/
theorem attrsP_step (g : Nat) (s y : Bs) (ps : List Par) (hy : dropW blankB s = y) : attrsP (g + 1) s ps =
    if Lib.hasPrefix y [47] = true ∨ Lib.hasPrefix y [62] = true then some (ps, y) else if y.length = s.length then none
    else match attrP y with
      | none => none
      | some (p, rest) => attrsP g rest (ps ++ [p]) := by
  subst hy
  rw [attrsP]
  cases dropW blankB s with
  | nil =>
    have h1 : ¬ (Lib.hasPrefix [] [47] = true ∨ Lib.hasPrefix [] [62] = true) := by decide
    rw [if_neg h1]
    show none = _
    by_cases h : ([] : Bs).length = s.length
    · rw [if_pos h]
    · rw [if_neg h]; rfl
  | cons c r =>
    simp only []
    have h1 : (Lib.hasPrefix (c :: r) [47] = true ∨ Lib.hasPrefix (c :: r) [62] = true) ↔ (c = 47 ∨ c = 62) := by
      simp only [Lib.hasPrefix, List.isPrefixOf, Bool.and_true, beq_iff_eq]
      constructor
      · rintro (h | h)
        · exact .inl h.symm
        · exact .inr h.symm
      · rintro (h | h)
        · exact .inl h.symm
        · exact .inr h.symm
    by_cases hc : c = 47 ∨ c = 62
    · rw [if_pos hc, if_pos (h1.2 hc)]
    · rw [if_neg hc, if_neg (fun h => hc (h1.1 h))]
      rfl
theorem attrP_len {l r : Bs} {p : Par} (h : attrP l = some (p, r)) : r.length + 2 ≤ l.length ∧ p.name.length ≤ l.length ∧ p.value.length ≤ l.length := by
  unfold attrP at h
  cases e : attrS l with
  | none => rw [e] at h; cases h
  | some x =>
    obtain ⟨q, r'⟩ := x
    rw [e] at h
    simp only at h
    split at h
    · cases h
      exact ⟨attrS_len e, attrS_sizes e⟩
    · cases h
theorem attrsP_len : ∀ (f : Nat) (s : Bs) (acc ps : List Par) (r : Bs), attrsP f s acc = some (ps, r) → r.length ≤ s.length := by
  intro f
  induction f with
  | zero => intro s acc ps r h; cases h
  | succ f ih =>
    intro s acc ps r h
    have h1 := dropW_len blankB s
    rw [attrsP_step f s _ acc rfl] at h
    split at h
    · cases h; exact h1
    · split at h
      · cases h
      · split at h
        · cases h
        · rename_i p rest hp
          have := ih _ _ _ _ h
          have := (attrP_len hp).1
          omega
/-- Behind the attributes. -/
def elTailP (f : Nat) (deep : Int) (nm : Bs) (cnt : Nat) (o : Option (List Par × Bs)) : Option (List Nod × Bs) :=
  match o with
  | none => none
  | some (ps, s3) =>
    if 8 ≤ deep ∨ 200 ≤ cnt then none
    else match pre2 47 62 s3 with
      | some s4 => some ([⟨deep, nm, ps, []⟩], s4)
      | none =>
        match pre1 62 s3 with
        | none => none
        | some s4 => contP f s4 ⟨deep, nm, ps, []⟩ cnt
theorem elemP_tail {f : Nat} {s s1 r : Bs} {deep : Int} {cnt : Nat} {c : UInt8} (h2 : pre1 60 s = some s1) (h3 : dropW (notIn [47, 62, 32, 9, 13, 10]) s1 = c :: r) :
    elemP (f + 1) s deep cnt = elTailP f deep (takeW (notIn [47, 62, 32, 9, 13, 10]) s1) cnt (attrsP (s1.length + 1) (c :: r) []) := by
  rw [elemP, h2]
  simp only
  rw [h3]; simp only
  cases attrsP (s1.length + 1) (c :: r) [] with
  | none => rfl
  | some x =>
    obtain ⟨ps, s3⟩ := x
    simp only [elTailP]
    split
    · rfl
    · cases pre2 47 62 s3 with
      | some s4 => rfl
      | none => cases pre1 62 s3 <;> rfl
/-- Inside the loop over attributes: F rounds at s0 are g rounds at y. -/
structure ARl (w wr : World) (rb nb : Nat) (F : Nat) (s0 : Bs) (deep : Int) (nm : Bs) (l : Value) (va : Value) (g : Nat) (y : Bs) (ps : List Par) : Prop where
  eq : attrsP F s0 [] = attrsP g y ps
  fuel : y.length < g
  len : ps.length + y.length ≤ 4096
  rd : Rd wr rb ⟨y.toArray⟩ l
  grown : w.grownBy wr (some rb)
  box : wr.heap[nb]? = some (.cells #[.int .i64 deep, .string ⟨nm.toArray⟩, va, .string ⟨#[]⟩] 46 (0, 0))
  nb : w.heap.size ≤ nb
  rlt : rb < w.heap.size
  own : OPar wr w.heap.size va ps
/-- Behind it. -/
structure BRl (w wr : World) (rb nb : Nat) (F : Nat) (s0 : Bs) (deep : Int) (nm : Bs) (l : Value) (va : Value) (y : Bs) (ps : List Par) : Prop where
  eq : attrsP F s0 [] = some (ps, y)
  len : ps.length + y.length ≤ 4096
  rd : Rd wr rb ⟨y.toArray⟩ l
  grown : w.grownBy wr (some rb)
  box : wr.heap[nb]? = some (.cells #[.int .i64 deep, .string ⟨nm.toArray⟩, va, .string ⟨#[]⟩] 46 (0, 0))
  nb : w.heap.size ≤ nb
  rlt : rb < w.heap.size
  own : OPar wr w.heap.size va ps
theorem blk_lt {w : World} {b : Nat} {o : Obj} (h : w.heap[b]? = some o) : b < w.heap.size := (Array.getElem?_eq_some_iff.1 h).1
/-- A step of the reader. -/
theorem ARl.step {w wr w' : World} {rb nb F : Nat} {s0 : Bs} {deep : Int} {nm : Bs} {l va : Value} {g : Nat} {y : Bs} {ps : List Par} (h : ARl w wr rb nb F s0 deep nm l va g y ps) (hg : wr.grownBy w' (some rb)) :
    w.grownBy w' (some rb) ∧ w'.heap[nb]? = some (.cells #[.int .i64 deep, .string ⟨nm.toArray⟩, va, .string ⟨#[]⟩] 46 (0, 0)) ∧ OPar w' w.heap.size va ps :=
  ⟨h.grown.trans hg, by
    have := h.nb; have := h.rlt
    rw [hg.block _ (blk_lt h.box) (by intro e; injection e with e; omega)]; exact h.box, h.own.stp h.rd hg⟩
theorem hpre_val (s t : ByteArray) (w : World) (T : Bs) (hT : t.data.toList = T) (b : Bool) (h : Lib.hasPrefix s.data.toList T = b) :
    Calls Tryz.prog 67 #[.string s, .string t] w fun e w' => e = .returned (.bool b) ∧ w' = w := by
  subst hT h; exact strings_HasPrefix s t w
theorem attr_bad {w w' : World} {rb : Nat} {s : ByteArray} {l : Value} {e : Ending} (h : attrP s.data.toList = none) (hp : AttrPost w.drew rb s.data.toList l e w') : e = gaveUp ∧ w.grownBy w' (some rb) := by
  unfold AttrPost at hp; rw [h] at hp; exact ⟨hp.1, hp.2.os, hp.2.tape, hp.2.output, hp.2.size, hp.2.block⟩
theorem attr_good {w w' : World} {rb : Nat} {s r : ByteArray} {p : Par} {l : Value} {e : Ending} (h : attrP s.data.toList = some (p, r.data.toList)) (hp : AttrPost w.drew rb s.data.toList l e w') : e = .returned (.agg #[.string ⟨p.name.toArray⟩, .string ⟨p.value.toArray⟩, .bool p.has]) ∧ Rd w' rb r l ∧ w.grownBy w' (some rb) := by
  unfold AttrPost at hp; rw [h] at hp; exact ⟨hp.1, hp.2.1, hp.2.2.os, hp.2.2.tape, hp.2.2.output, hp.2.2.size, hp.2.2.block⟩
abbrev nodO (deep : Int) (nm : Bs) (va : Value) : Obj := .cells #[.int .i64 deep, .string ⟨nm.toArray⟩, va, .string ⟨#[]⟩] 46
abbrev parO (q : Par) : Obj := .cells #[.string ⟨q.name.toArray⟩, .string ⟨q.value.toArray⟩, .bool q.has] 43
theorem nod_cell2 {w : World} {nb : Nat} {deep : Int} {nm : Bs} {va : Value} (h : w.heap[nb]? = some (nodO deep nm va)) : w.cell? ⟨nb, 2, none⟩ = some va := blk_cell h 2
theorem nod_fz2 {w : World} {nb : Nat} {deep : Int} {nm : Bs} {va : Value} (h : w.heap[nb]? = some (nodO deep nm va)) : w.frozen? ⟨nb, 2, none⟩ = false := frozen0 h 2
theorem blk_ne {w : World} {nb : Nat} {o : Obj} (h : w.heap[nb]? = some o) : ¬ nb = w.heap.size := by have := blk_lt h; omega
theorem nod_past {w : World} {nb : Nat} {deep : Int} {nm : Bs} {va : Value} (h : w.heap[nb]? = some (nodO deep nm va)) (o : Obj) : (w.alloc o).heap[nb]? = some (nodO deep nm va) := by
  rw [Below.heap_alloc _ _ _ (blk_lt h)]; exact h
theorem carry {w w4 w6 : World} {rb nb B : Nat} {y : ByteArray} {l va : Value} {ps : List Par} {deep : Int} {nm : Bs} (hA : w.grownBy w4 (some rb) ∧ w4.heap[nb]? = some (nodO deep nm va) ∧ OPar w4 B va ps) (hr : Rd w4 rb y l) (hg : w4.grownBy w6 (some rb)) :
    w.grownBy w6 (some rb) ∧ w6.heap[nb]? = some (nodO deep nm va) ∧ OPar w6 B va ps := by
  have hne : some nb ≠ some rb := fun e => by
    injection e with e; subst e
    have h1 : w4.heap[nb]? = some (.cells #[.string y, l] 83 (0, 0)) := hr
    rw [h1] at hA
    have := hA.2.1
    injection this with this; injection this with _ h2
    revert h2; decide
  exact ⟨hA.1.trans hg, (hg.block _ (blk_lt hA.2.1) hne).trans hA.2.1, hA.2.2.stp hr hg⟩
theorem news_par (w6 : World) (q : Par) : ∀ j u, (parCells q)[j]? = some u → (w6.alloc (parO q)).cell? ((⟨w6.heap.size, 0, none⟩ : Addr).add j) = some u := fun j u hj => World.news_of_block (heap_alloc_new w6 _) j u hj
theorem one_par (q : Par) : ∀ u ∈ parCells q, u.oneCell' = true := by
  intro u hu
  simp [parCells] at hu
  rcases hu with rfl | rfl | rfl <;> rfl
theorem alloc_le {n : Nat} {w : World} (o : Obj) (h : n ≤ w.heap.size) : n ≤ (w.alloc o).heap.size := by simp; omega
theorem after_app {w6 w7 : World} {nb B : Nat} {o : Obj} {va : Value} {ps : List Par} {deep : Int} {nm : Bs} (hb : w6.heap[nb]? = some (nodO deep nm va)) (ho : OPar w6 B va ps) (hg : (w6.alloc o).grownBy w7 va.ownBlock) : w7.heap[nb]? = some (nodO deep nm va) := by
  have hne : some nb ≠ va.ownBlock := fun e => by
    obtain ⟨cs, hc⟩ := own_at ho.1 e.symm
    rw [hb] at hc; injection hc with hc; injection hc with _ ht; revert ht; decide
  have := blk_lt hb
  rw [hg.block _ (by simp; omega) hne, Below.heap_alloc _ _ _ this]; exact hb
theorem grown_own {w w1 w2 : World} {row r2 : Option Nat} (h : w.grownBy w1 row) (h2 : w1.grownBy w2 r2) (hr : ∀ k, r2 = some k → w.heap.size ≤ k) : w.grownBy w2 row :=
  ⟨h2.os.trans h.os, h2.tape.trans h.tape, h2.output.trans h.output, Nat.le_trans h.size h2.size, fun k hk hne => by
    rw [h2.block k (Nat.lt_of_lt_of_le hk h.size) (fun e => by have := hr k e.symm; omega)]; exact h.block k hk hne⟩
theorem ARl.next {w wr w6 w7 : World} {rb nb F : Nat} {s0 : Bs} {deep : Int} {nm : Bs} {l va v7 : Value} {g : Nat} {y rest : Bs} {ps : List Par} {q : Par} (h : ARl w wr rb nb F s0 deep nm l va (g + 1) y ps)
    (he : attrsP (g + 1) y ps = attrsP g rest (ps ++ [q])) (hl : rest.length + 2 ≤ y.length) (hq : q.name.length ≤ 4096 ∧ q.value.length ≤ 4096)
    (hc : w.grownBy w6 (some rb) ∧ w6.heap[nb]? = some (nodO deep nm va) ∧ OPar w6 w.heap.size va ps) (hr : Rd w6 rb ⟨rest.toArray⟩ l) (o : Obj)
    (ho : w7.ownsRow w.heap.size 43 3 v7 (ps.length + 1) (ps.flatMap parCells ++ parCells q)) (hg : (w6.alloc o).grownBy w7 va.ownBlock) :
    ARl w (w7.setCell ⟨nb, 2, none⟩ v7) rb nb F s0 deep nm l v7 g rest (ps ++ [q]) := by
  have hfu := h.fuel
  have hlen := h.len
  have hlt := h.rlt
  have hnb := h.nb
  have hrow : ∀ k, va.ownBlock = some k → w.heap.size ≤ k := fun k hk => (hc.2.2.1.lt k hk).1
  have hg1 : w.grownBy (w6.alloc o) (some rb) := grown_below hc.1 ((Below.refl _ _).alloc (Nat.le_refl _) _)
  have hg7 := grown_own hg1 hg hrow
  have hb7 := after_app hc.2.1 hc.2.2 hg
  have hr7 : Rd w7 rb ⟨rest.toArray⟩ l := by
    unfold Rd
    have := hr.lt
    rw [hg.block _ (by simp; omega) (fun e => by have := hrow rb e.symm; omega), Below.heap_alloc _ _ _ this]; exact hr
  have hne : v7.ownBlock ≠ some nb := fun e => by
    obtain ⟨cs, hcc⟩ := own_at ho e
    rw [hb7] at hcc; injection hcc with hcc; injection hcc with _ ht; revert ht; decide
  refine ⟨h.eq.trans he, by omega, by simp; omega, hr7.other _ (by show rb ≠ nb; omega) _, grown_set hg7 _ hnb _, setCell_same hb7 2 v7, hnb, hlt, ?_⟩
  exact (hc.2.2.appended q hq ho).kept (setCell_grown w7 nb 2 v7) (.inr hne)
/-- What an element leaves. -/
def ElP (w : World) (B rb : Nat) (l : Value) (ns : List Nod) (o : Option (List Nod × Bs)) (e : Ending) (w' : World) : Prop :=
  Fr w w' rb l.ownBlock ∧
  match o with
  | none => e = gaveUp
  | some (ms, r) => e = .returned (.tuple #[]) ∧ ∃ l', Rd w' rb ⟨r.toArray⟩ l' ∧ ONod w' B l' (ns ++ ms) ∧ AtB w l l'
def EP (f : Nat) : Prop := ∀ (rb : Nat) (s : ByteArray) (deep : Int) (l : Value) (ns : List Nod) (B : Nat) (w : World) (m : Int), Rd w rb s l → Mx w m → 2 < B → B ≤ w.heap.size → s.size ≤ 4096 → 2 * s.size + 1 ≤ f → 0 ≤ deep → deep ≤ 90 → ONod w B l ns → ns.length ≤ 200 →
  Calls Tryz.prog 53 #[.pointer (some ⟨rb, 0, none⟩), .int .i64 deep] w (ElP w B rb l ns (elemP f s.data.toList deep ns.length))
theorem elemP_len {f : Nat} {s : Bs} {deep : Int} {cnt : Nat} {ms : List Nod} {r : Bs} (h : elemP f s deep cnt = some (ms, r)) : r.length < s.length ∧ cnt + ms.length ≤ 200 := by
  rw [(all_eq f).1] at h
  unfold fil at h
  split at h
  · cases h
  · rename_i ms' r' he
    split at h
    · cases h; exact ⟨(all_len f).1 _ _ _ _ _ he, (all_cnt f).1 _ _ _ _ _ he⟩
    · cases h
/-- What is read of an element's inside, at the end of a text. -/
def kidsQ (g : Nat) (z t : Bs) (deep : Int) (cnt : Nat) (kids : List Nod) : Option (Bs × List Nod × Bs) :=
  match pre2 60 47 z with
  | some _ => some (t, kids, z)
  | none =>
    match elemP g z deep cnt with
    | none => none
    | some (ms, rest) => kidsP g rest t deep (cnt + ms.length) (kids ++ ms)
theorem kidsQ_end {g : Nat} {z t r : Bs} {deep : Int} {cnt : Nat} {kids : List Nod} (h : pre2 60 47 z = some r) : kidsQ g z t deep cnt kids = some (t, kids, z) := by
  unfold kidsQ; rw [h]
theorem kidsQ_none {g : Nat} {z t : Bs} {deep : Int} {cnt : Nat} {kids : List Nod} (h : pre2 60 47 z = none) (he : elemP g z deep cnt = none) : kidsQ g z t deep cnt kids = none := by
  unfold kidsQ; rw [h, he]
theorem kidsQ_some {g : Nat} {z t rest : Bs} {deep : Int} {cnt : Nat} {kids ms : List Nod} (h : pre2 60 47 z = none) (he : elemP g z deep cnt = some (ms, rest)) : kidsQ g z t deep cnt kids = kidsP g rest t deep (cnt + ms.length) (kids ++ ms) := by
  unfold kidsQ; rw [h, he]
theorem kidsP_nil {g : Nat} {s text : Bs} {deep : Int} {cnt : Nat} {kids : List Nod} (h : dropW (notIn [60]) s = []) : kidsP g s text deep cnt kids = none := by
  cases g with
  | zero => rw [kidsP]
  | succ g => rw [kidsP, h]
theorem kidsP_cons {g : Nat} {s text : Bs} {deep : Int} {cnt : Nat} {kids : List Nod} {c : UInt8} {r : Bs} (h : dropW (notIn [60]) s = c :: r) : kidsP (g + 1) s text deep cnt kids = kidsQ g (c :: r) (text ++ takeW (notIn [60]) s) deep cnt kids := by
  rw [kidsP, h]; rfl
theorem takeW_len (p : UInt8 → Bool) (s : Bs) : (takeW p s).length + (dropW p s).length = s.length := by
  unfold takeW
  have := dropW_len p s
  rw [List.length_take]; omega
/-- Behind an element's attributes: its node stands in the reader's list, behind it elements of its inside. -/
structure CRl (w wr : World) (B rb nb : Nat) (m : Int) (l : Value) (deep : Int) (nm : Bs) (va : Value) (y : Bs) (l1 : Value) (n1 : List Nod) : Prop where
  rd : Rd wr rb ⟨y.toArray⟩ l1
  own : ONod wr B l1 n1
  fr : Fr w wr rb l.ownBlock
  at_ : AtB w l l1
  box : wr.heap[nb]? = some (nodO deep nm va)
  nbne : l1.ownBlock ≠ some nb
  mx : Mx wr m
theorem nod_ne_rd {w : World} {nb rb : Nat} {deep : Int} {nm : Bs} {va l : Value} {y : ByteArray} (hb : w.heap[nb]? = some (nodO deep nm va)) (hr : Rd w rb y l) : nb ≠ rb := fun e => by
  subst e
  have h1 : w.heap[nb]? = some (.cells #[.string y, l] 83 (0, 0)) := hr
  rw [h1] at hb
  injection hb with hb; injection hb with _ h2
  revert h2; decide
theorem CRl.stp {w wr w' : World} {B rb nb : Nat} {m : Int} {l : Value} {deep : Int} {nm : Bs} {va : Value} {y y' : Bs} {l1 : Value} {n1 : List Nod} (h : CRl w wr B rb nb m l deep nm va y l1 n1) (hs : Stp wr rb y' l1 w') : CRl w w' B rb nb m l deep nm va y' l1 n1 :=
  ⟨hs.1, h.own.stp h.rd hs.2, h.fr.then hs.2, h.at_, by
    have := nod_ne_rd h.box h.rd
    rw [hs.2.block _ (blk_lt h.box) (by intro e; injection e with e; exact this e)]; exact h.box, h.nbne, h.mx.stp h.rd hs.2⟩
theorem CRl.below {w wr w' : World} {B rb nb : Nat} {m : Int} {l : Value} {deep : Int} {nm : Bs} {va : Value} {y : Bs} {l1 : Value} {n1 : List Nod} (h : CRl w wr B rb nb m l deep nm va y l1 n1) (hs : Below wr.heap.size wr w') : CRl w w' B rb nb m l deep nm va y l1 n1 :=
  h.stp ⟨h.rd.below hs, below_grown' hs⟩
theorem ONod.row {w : World} {B : Nat} {l : Value} {ns : List Nod} (h : ONod w B l ns) (k : Nat) (hk : l.ownBlock = some k) : B ≤ k ∧ k < w.heap.size := by
  obtain ⟨⟨xs, -, h2, -⟩, -⟩ := h
  exact h2.lt k hk
theorem CRl.callee {w wr w' : World} {B rb nb : Nat} {m : Int} {l : Value} {deep : Int} {nm : Bs} {va : Value} {y r : Bs} {l1 l2 : Value} {n1 ms : List Nod} (h : CRl w wr B rb nb m l deep nm va y l1 n1) (hB : 2 < B)
    (hf : Fr wr w' rb l1.ownBlock) (hr : Rd w' rb ⟨r.toArray⟩ l2) (ho : ONod w' B l2 (n1 ++ ms)) (ha : AtB wr l1 l2) : CRl w w' B rb nb m l deep nm va r l2 (n1 ++ ms) :=
  ⟨hr, ho, h.fr.trans hf h.at_, h.at_.trans ha h.fr.size, by
    rw [hf.block _ (blk_lt h.box) (nod_ne_rd h.box h.rd) (fun e => h.nbne e.symm)]; exact h.box, ha.ne h.nbne (blk_lt h.box),
    hf.cell (fun e => h.rd.ne0 h.mx e.symm) (fun e => by have := (h.own.row 2 e.symm).1; omega) h.mx⟩
/-- An element's end, behind its inside. -/
def clos (n : Nod) (o : Option (Bs × List Nod × Bs)) : Option (List Nod × Bs) :=
  match o with
  | none => none
  | some (t, ks, r) => closeP n t ks r
theorem contP_clos (f : Nat) (s : Bs) (n : Nod) (cnt : Nat) : contP (f + 1) s n cnt = clos n (kidsP f s [] (n.deep + 1) (cnt + 1) []) := by
  rw [contP]; unfold clos
  cases kidsP f s [] (n.deep + 1) (cnt + 1) [] with
  | none => rfl
  | some x => obtain ⟨t, ks, r⟩ := x; rfl
/-- At the head of the loop over an element's inside. -/
structure KQl (E0 : Option (List Nod × Bs)) (w wr : World) (B rb nb : Nat) (m : Int) (l : Value) (deep : Int) (nm : Bs) (va : Value) (ns : List Nod) (n : Nod) (f g : Nat) (z t : Bs) (kids : List Nod) (l2 : Value) : Prop where
  eq : E0 = clos n (kidsQ g z t (deep + 1) (ns.length + 1 + kids.length) kids)
  fuel : 2 * z.length + 1 ≤ g
  gf : g ≤ f
  len : t.length + z.length ≤ 4096
  c : CRl w wr B rb nb m l deep nm va z l2 (ns ++ n :: kids)
  cnt : ns.length + 1 + kids.length ≤ 200
/-- Behind it. -/
structure KRl (E0 : Option (List Nod × Bs)) (w wr : World) (B rb nb : Nat) (m : Int) (l : Value) (deep : Int) (nm : Bs) (va : Value) (ns : List Nod) (n : Nod) (z t : Bs) (kids : List Nod) (l2 : Value) : Prop where
  eq : E0 = closeP n t kids z
  len : t.length + z.length ≤ 4096
  c : CRl w wr B rb nb m l deep nm va z l2 (ns ++ n :: kids)
  cnt : ns.length + 1 + kids.length ≤ 200
/-- The node is appended. -/
theorem CRl.start {w wc w7 : World} {B rb nb F : Nat} {m : Int} {s0 : Bs} {deep : Int} {nm : Bs} {l va l1 : Value} {y : Bs} {ps : List Par} {ns : List Nod} {s : ByteArray} (hb : BRl w wc rb nb F s0 deep nm l va y ps) (hB : 2 < B) (hBw : B ≤ w.heap.size)
    (hno : ONod w B l ns) (hrw : Rd w rb s l) (hm : Mx w m) (hnl : nm.length ≤ 4096) (xs : List (Nod × Value)) (h1 : xs.map Prod.fst = ns) (h3 : ∀ x ∈ xs, OPar wc B x.2 x.1.attrs) (o : Obj)
    (ho : w7.ownsRow B 46 4 l1 (ns.length + 1) (xs.flatMap nodCells ++ nodCells (⟨deep, nm, ps, []⟩, va))) (hg : (wc.alloc o).grownBy w7 l.ownBlock) (hat : l1.ownBlock = l.ownBlock ∨ l1.ownBlock = some (wc.alloc o).heap.size) :
    CRl w (w7.setCell ⟨rb, 1, none⟩ l1) B rb nb m l deep nm va y l1 (ns ++ [⟨deep, nm, ps, []⟩]) ∧ Rd w7 rb ⟨y.toArray⟩ l := by
  have hnoc : ONod wc B l ns := hno.stp hrw hb.grown
  have hbb : Below wc.heap.size wc (wc.alloc o) := (Below.refl _ _).alloc (Nat.le_refl _) _
  have hst := append_step hnoc xs h1 h3 hbb ⟨deep, nm, ps, []⟩ va ((hb.own.mono hBw).below hbb) ⟨hnl, by simp⟩ ho hg hat
  have hlt := hb.rlt
  have hnbc := blk_lt hb.box
  have hrow : ∀ k, l.ownBlock = some k → k < w.heap.size := fun k hk => (hno.row k hk).2
  have hnb := hb.nb
  have hrn : l.ownBlock ≠ some rb := hno.notRd hrw
  have hr7 : Rd w7 rb ⟨y.toArray⟩ l := by
    unfold Rd
    rw [hst.2.1.block _ hb.rd.lt (fun e => hrn e.symm)]; exact hb.rd
  have hb7 : w7.heap[nb]? = some (nodO deep nm va) := by
    rw [hst.2.1.block _ hnbc (fun e => by have := hrow nb e.symm; omega)]; exact hb.box
  have hne1 : l1.ownBlock ≠ some nb := by
    refine hst.2.2.1.ne (fun e => by have := hrow nb e; omega) hnbc
  have hsg := setCell_grown w7 rb 1 l1
  refine ⟨⟨?_, hst.1.grown hsg hr7.notPar (.inr (hst.1.notRd hr7)), ?_, ?_, ?_, hne1, ?_⟩, hr7⟩
  · exact setCell_same hr7 1 l1
  · have f1 : Fr w wc rb l.ownBlock := Fr.of hb.grown
    exact ⟨hst.2.1.os.trans f1.os, hst.2.1.tape.trans f1.tape, hst.2.1.output.trans f1.output, by rw [setCell_size]; exact Nat.le_trans f1.size hst.2.1.size, fun k hk h1 h2 => by
      rw [Below.heap_setCell _ _ _ _ h1, hst.2.1.block k (Nat.lt_of_lt_of_le hk f1.size) h2]; exact f1.block k hk h1 h2⟩
  · exact AtB.trans (AtB.refl w l) hst.2.2.1 hb.grown.size
  · rw [Below.heap_setCell _ _ _ _ (nod_ne_rd hb7 hr7)]; exact hb7
  · have hmc : Mx wc m := hm.stp hrw hb.grown
    have h0 : ¬ (2 = rb) := fun e => hrw.ne0 hm e.symm
    have h7 : Mx w7 m := grown_cell hst.2.1 (fun e => by have := (hno.row 2 e.symm).1; omega) hmc
    show (w7.setCell _ _).cell? _ = _
    rw [World.cell?_of_block (Below.heap_setCell _ _ _ _ h0)]; exact h7
theorem bytes_of (s : ByteArray) : s = ⟨s.data.toList.toArray⟩ := by cases s; simp
theorem str_app (a b : Bs) : (⟨a.toArray⟩ : ByteArray) ++ ⟨b.toArray⟩ = ⟨(a ++ b).toArray⟩ := by
  rw [bytes_of ((⟨a.toArray⟩ : ByteArray) ++ ⟨b.toArray⟩), Joins.data_append]
theorem has_take (z T : Bs) : Lib.hasPrefix z T = true ↔ z.take T.length = T := by
  unfold Lib.hasPrefix
  rw [List.isPrefixOf_iff_prefix, List.prefix_iff_eq_take]
  exact eq_comm
/-- Behind an element's name at its end. -/
def closeP2 (n : Nod) (t : Bs) (kids : List Nod) (y : Bs) : Option (List Nod × Bs) :=
  match pre1 62 y with
  | none => none
  | some r =>
    match plainS (trimB t) with
    | none => none
    | some tx => some ({ n with text := trimB tx } :: kids, r)
theorem closeP_yes {n : Nod} {t : Bs} {kids : List Nod} {z : Bs} (h : Lib.hasPrefix z (60 :: 47 :: n.name) = true) : closeP n t kids z = closeP2 n t kids (dropW blankB (z.drop (60 :: 47 :: n.name).length)) := by
  have h1 := (has_take _ _).1 h
  rw [show (60 :: 47 :: n.name).length = 2 + n.name.length from by simp; omega] at *
  unfold closeP
  rw [if_pos h1]; rfl
theorem closeP_no {n : Nod} {t : Bs} {kids : List Nod} {z : Bs} (h : Lib.hasPrefix z (60 :: 47 :: n.name) = false) : closeP n t kids z = none := by
  unfold closeP
  rw [if_neg]
  intro h1
  have := (has_take z (60 :: 47 :: n.name)).2 (by rw [show (60 :: 47 :: n.name).length = 2 + n.name.length from by simp; omega]; exact h1)
  rw [h] at this; cases this
/-- The text is written into the node. -/
theorem CRl.text {w wr : World} {B rb nb : Nat} {m : Int} {l : Value} {deep : Int} {nm : Bs} {va : Value} {y : Bs} {ns : List Nod} {n : Nod} {kids : List Nod} {gb k cap : Nat} (h : CRl w wr B rb nb m l deep nm va y (.slice (some ⟨gb, 0, none⟩) k cap) (ns ++ n :: kids)) (hB : 2 < B) :
    wr.cell? ⟨gb, ns.length * 4 + 3, none⟩ = some (.string ⟨n.text.toArray⟩) ∧ wr.frozen? ⟨gb, ns.length * 4 + 3, none⟩ = false ∧
    ∀ tx : Bs, tx.length ≤ 4096 → CRl w (wr.setCell ⟨gb, ns.length * 4 + 3, none⟩ (.string ⟨tx.toArray⟩)) B rb nb m l deep nm va y (.slice (some ⟨gb, 0, none⟩) k cap) (ns ++ { n with text := tx } :: kids) := by
  have hgb := h.own.row gb rfl
  have hgr : gb ≠ rb := fun e => h.own.notRd h.rd (by rw [← e]; rfl)
  have hgn : nb ≠ gb := fun e => h.nbne (by rw [e]; rfl)
  refine ⟨?_, ?_, fun tx htx => ?_⟩
  · obtain ⟨A', c', hvv, -, -, hr⟩ := h.own.reads
    obtain ⟨a, va, ha, -, -, -, -, h3, -⟩ := hr ns.length (by simp)
    injection hvv with hA' _ _
    rw [← hA'] at ha
    injection ha with ha
    subst ha
    rw [addr_add] at h3
    simpa using h3
  · obtain ⟨⟨zs, -, hz, -⟩, -⟩ := h.own
    have hk : k = (ns ++ n :: kids).length := by
      obtain ⟨A', c', e⟩ := own_slice hz
      injection e
    subst hk
    exact hz.frozenAt _
  · have hst := h.own.stored ns.length (by simp) tx htx
    have hset : (ns ++ n :: kids).set ns.length { (ns ++ n :: kids)[ns.length]'(by simp) with text := tx } = ns ++ { n with text := tx } :: kids := by
      simp
    rw [hset] at hst
    refine ⟨h.rd.other _ (fun e => hgr e.symm) _, hst.1, ?_, h.at_, ?_, h.nbne, ?_⟩
    · have hg : Fr wr _ rb (Value.slice (some ⟨gb, 0, none⟩) k cap).ownBlock := Fr.ofRow hst.2
      exact h.fr.trans hg h.at_
    · rw [Below.heap_setCell _ _ _ _ hgn]; exact h.box
    · show (wr.setCell _ _).cell? _ = _
      rw [World.cell?_of_block (Below.heap_setCell _ _ _ _ (by show 2 ≠ gb; omega))]; exact h.mx
end Go.Proofs.YtffcapkjfmkkaaaGreatDoor
