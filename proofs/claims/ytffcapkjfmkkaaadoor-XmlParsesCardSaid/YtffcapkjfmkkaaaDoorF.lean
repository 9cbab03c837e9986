/- attr: an attribute, as the program reads it. -/
import Derived.Test.YtffcapkjfmkkaaaDoorE7
import Derived.Test.YtffcapkjfmkkaaaDoorP
namespace Go.Proofs.YtffcapkjfmkkaaaDoor
open Go.RowKit
/-- The cell of bytealg.MaxLen. -/
abbrev Mx (w : World) (m : Int) : Prop := w.cell? ⟨0, 0, none⟩ = some (.int .i64 m)
theorem Rd.ne0 {w : World} {rb : Nat} {s : ByteArray} {l : Value} {m : Int} (h : Rd w rb s l) (hm : Mx w m) : rb ≠ 0 := fun e => by
  subst e
  have := h.s
  rw [hm] at this
  cases this
theorem cell_lt {w : World} {a : Addr} {v : Value} (h : w.cell? a = some v) : a.block < w.heap.size := by
  rcases Nat.lt_or_ge a.block w.heap.size with h' | h'
  · exact h'
  · simp [World.cell?, Array.getElem?_eq_none h'] at h
theorem grown_cell {w w' : World} {row : Option Nat} (hg : w.grownBy w' row) {a : Addr} {v : Value} (hr : some a.block ≠ row) (h : w.cell? a = some v) : w'.cell? a = some v := by
  rw [World.cell?_of_block (hg.block _ (cell_lt h) hr)]; exact h
theorem Mx.stp {w w' : World} {rb : Nat} {s : ByteArray} {l : Value} {m : Int} (hm : Mx w m) (h : Rd w rb s l) (hg : w.grownBy w' (some rb)) : Mx w' m :=
  grown_cell hg (by have := h.ne0 hm; intro e; injection e with e; exact this e.symm) hm
theorem trimR_S (l : Bs) : Lib.trimRightS l blanks4 = trimR l := by
  unfold Lib.trimRightS trimR
  have : (fun x => blanks4.contains x) = blankB := funext fun c => (blank_contains c).symm
  rw [this, dropW_while]
theorem pre1_has (a : UInt8) (l : Bs) : Lib.hasPrefix l [a] = (pre1 a l).isSome := by
  unfold Lib.hasPrefix pre1
  cases l with
  | nil => rfl
  | cons c l => by_cases h : c = a <;> simp [List.isPrefixOf, h] <;> intro h' <;> exact h h'.symm
theorem pre2_has (a b : UInt8) (l : Bs) : Lib.hasPrefix l [a, b] = (pre2 a b l).isSome := by
  unfold Lib.hasPrefix pre2
  match l with
  | [] => rfl
  | [c] => simp [List.isPrefixOf]
  | c :: d :: l =>
    show _ = (if c = a ∧ d = b then some l else none).isSome
    by_cases h : c = a ∧ d = b
    · rw [if_pos h]; simp [List.isPrefixOf, h.1, h.2]
    · rw [if_neg h]
      simp only [List.isPrefixOf, Bool.and_true, Option.isSome_none, Bool.and_eq_false_iff, beq_eq_false_iff_ne]
      by_cases h1 : c = a
      · exact .inr fun e => h ⟨h1, e.symm⟩
      · exact .inl fun e => h1 e.symm
theorem pre1_drop {a : UInt8} {l r : Bs} (h : pre1 a l = some r) : l.drop 1 = r := by
  unfold pre1 at h; split at h
  · split at h
    · cases h; rfl
    · cases h
  · cases h
theorem pre2_drop {a b : UInt8} {l r : Bs} (h : pre2 a b l = some r) : l.drop 2 = r := by
  unfold pre2 at h; split at h
  · split at h
    · cases h; rfl
    · cases h
  · cases h
/-- What take leaves; what may leaves. -/
def Took (rb : Nat) (l : Value) (w : World) (o : Option Bs) (e : Ending) (w' : World) : Prop :=
  match o with
  | none => e = gaveUp ∧ w.grownBy w' (some rb)
  | some r => e = .returned (.tuple #[]) ∧ Stp w rb r l w'
def Mayed (rb : Nat) (s : ByteArray) (l : Value) (w : World) (o : Option Bs) (e : Ending) (w' : World) : Prop :=
  match o with
  | none => e = .returned (.bool false) ∧ Stp w rb s.data.toList l w'
  | some r => e = .returned (.bool true) ∧ Stp w rb r l w'
/-- take of one sign, of two. -/
theorem take1_val (rb : Nat) (s t : ByteArray) (l : Value) (w : World) (hr : Rd w rb s l) (a : UInt8) (hT : t.data.toList = [a]) (o : Option Bs) (h : pre1 a s.data.toList = o) :
    Calls Tryd.prog 18 #[.pointer (some ⟨rb, 0, none⟩), .string t] w (Took rb l w o) := by
  refine (take_walk rb s t l w hr [a] hT _ rfl).mono ?_
  rintro e w' ⟨he, hst⟩
  rw [pre1_has, h] at he hst
  cases o with
  | none => exact ⟨he, hst.2⟩
  | some r => exact ⟨he, by rw [← pre1_drop h]; exact hst⟩
theorem take2_val (rb : Nat) (s t : ByteArray) (l : Value) (w : World) (hr : Rd w rb s l) (a b : UInt8) (hT : t.data.toList = [a, b]) (o : Option Bs) (h : pre2 a b s.data.toList = o) :
    Calls Tryd.prog 18 #[.pointer (some ⟨rb, 0, none⟩), .string t] w (Took rb l w o) := by
  refine (take_walk rb s t l w hr [a, b] hT _ rfl).mono ?_
  rintro e w' ⟨he, hst⟩
  rw [pre2_has, h] at he hst
  cases o with
  | none => exact ⟨he, hst.2⟩
  | some r => exact ⟨he, by rw [← pre2_drop h]; exact hst⟩
theorem may1_val (rb : Nat) (s t : ByteArray) (l : Value) (w : World) (hr : Rd w rb s l) (a : UInt8) (hT : t.data.toList = [a]) (o : Option Bs) (h : pre1 a s.data.toList = o) :
    Calls Tryd.prog 16 #[.pointer (some ⟨rb, 0, none⟩), .string t] w (Mayed rb s l w o) := by
  refine (may_val rb s t l w hr [a] hT _ rfl).mono ?_
  rintro e w' ⟨he, hst⟩
  rw [pre1_has, h] at he hst
  cases o with
  | none => exact ⟨he, hst⟩
  | some r => exact ⟨he, by rw [← pre1_drop h]; exact hst⟩
theorem may2_val (rb : Nat) (s t : ByteArray) (l : Value) (w : World) (hr : Rd w rb s l) (a b : UInt8) (hT : t.data.toList = [a, b]) (o : Option Bs) (h : pre2 a b s.data.toList = o) :
    Calls Tryd.prog 16 #[.pointer (some ⟨rb, 0, none⟩), .string t] w (Mayed rb s l w o) := by
  refine (may_val rb s t l w hr [a, b] hT _ rfl).mono ?_
  rintro e w' ⟨he, hst⟩
  rw [pre2_has, h] at he hst
  cases o with
  | none => exact ⟨he, hst⟩
  | some r => exact ⟨he, by rw [← pre2_drop h]; exact hst⟩
/-- An attribute's value, behind its quote; from its quote on. -/
def attrU (nm : Bs) (q : UInt8) (l2 : Bs) : Option (Par × Bs) :=
  match dropW (notIn [q, 60]) l2 with
  | [] => none
  | c :: rest =>
    if c = q then
      match readB (takeW (notIn [q, 60]) l2) with
      | none => none
      | some v => some (⟨nm, v, true⟩, rest)
    else none
def attrT (nm : Bs) (l1 : Bs) : Option (Par × Bs) :=
  match dropW blankB l1 with
  | [] => none
  | q :: l2 => if q = 34 ∨ q = 39 then attrU nm q l2 else none
theorem pre1_cons {a : UInt8} {l r : Bs} (h : pre1 a l = some r) : l = a :: r := by
  unfold pre1 at h; split at h
  · split at h
    · rename_i hc; cases h; rw [hc]
    · cases h
  · cases h
theorem attrT_none {nm l1 : Bs} (h1 : pre1 34 (dropW blankB l1) = none) (h2 : pre1 39 (dropW blankB l1) = none) : attrT nm l1 = none := by
  unfold attrT
  cases h : dropW blankB l1 with
  | nil => rfl
  | cons q l2 =>
    rw [h] at h1 h2
    unfold pre1 at h1 h2
    by_cases hq : q = 34
    · simp [hq] at h1
    · by_cases hq2 : q = 39
      · simp [hq2] at h2
      · show (if q = 34 ∨ q = 39 then attrU nm q l2 else none) = none
        rw [if_neg (fun h => h.elim hq hq2)]
theorem attrP_val {s : Bs} {nm : Bs} {q : UInt8} {l2 r : Bs} (h : attrS s = attrU nm q l2) (hd : dropW (notIn [q, 60]) l2 = q :: r) :
    attrP s = match plainS (takeW (notIn [q, 60]) l2) with
      | none => none
      | some t => some (⟨nm, t, true⟩, r) := by
  unfold attrP; rw [h]; unfold attrU plainS; rw [hd]
  simp only [if_true]
  cases readB (takeW (notIn [q, 60]) l2) with
  | none => rfl
  | some t =>
    by_cases hs : signsB t = true
    · simp [goodP, hs]
    · simp [goodP, hs]
theorem attrS_nil {s : Bs} (h : dropW (notIn [61]) s = []) : attrS s = none := by unfold attrS; rw [h]
theorem attrS_tail {s l1 : Bs} {c : UInt8} (h : dropW (notIn [61]) s = c :: l1) : attrS s = attrT (trimR (takeW (notIn [61]) s)) l1 := by
  unfold attrS attrT; rw [h]; rfl
/-- Inside attr: its two variables stand beside the reader. -/
structure ASt (w wr : World) (rb pb : Nat) (nm : Bs) : Prop where
  grown : w.grownBy wr (some rb)
  x : wr.heap[w.heap.size]? = some (.cells #[.string ⟨#[]⟩, .string ⟨#[]⟩, .bool false] 43 (0, 0))
  p : wr.heap[pb]? = some (.cells #[.string ⟨nm.toArray⟩, .string ⟨#[]⟩, .bool true] 43 (0, 0))
  lt : w.heap.size < pb
  lt2 : pb < wr.heap.size
  rlt : rb < w.heap.size
theorem ASt.step {w wr w' : World} {rb pb : Nat} {nm : Bs} (h : ASt w wr rb pb nm) (hg : wr.grownBy w' (some rb)) : ASt w w' rb pb nm := by
  have h1 := h.lt
  have h2 := h.lt2
  have h3 := h.rlt
  refine ⟨h.grown.trans hg, ?_, ?_, h1, Nat.lt_of_lt_of_le h2 hg.size, h3⟩
  · rw [hg.block _ (by omega) (by intro e; injection e with e; omega)]; exact h.x
  · rw [hg.block _ h2 (by intro e; injection e with e; omega)]; exact h.p
theorem grown_set {w w1 : World} {row : Option Nat} (h : w.grownBy w1 row) (a : Addr) (ha : w.heap.size ≤ a.block) (v : Value) : w.grownBy (w1.setCell a v) row :=
  ⟨h.os, h.tape, h.output, by rw [setCell_size]; exact h.size, fun k hk hne => by rw [Below.heap_setCell _ _ _ _ (by omega)]; exact h.block k hk hne⟩
theorem Rd.other {w : World} {rb : Nat} {s : ByteArray} {l : Value} (h : Rd w rb s l) (a : Addr) (ha : rb ≠ a.block) (v : Value) : Rd (w.setCell a v) rb s l := by
  unfold Rd; rw [Below.heap_setCell _ _ _ _ ha]; exact h
def AttrPost (w : World) (rb : Nat) (s : Bs) (l : Value) (e : Ending) (w' : World) : Prop :=
  match attrP s with
  | none => e = gaveUp ∧ w.grownBy w' (some rb)
  | some (p, r) => e = .returned (parV p) ∧ Stp w rb r l w'
set_option maxRecDepth 100000 in
set_option maxHeartbeats 8000000 in
theorem attr_walk (rb : Nat) (s : ByteArray) (l : Value) (m : Int) (w : World) (hr : Rd w rb s l) (hs : s.size ≤ 4096) (hm : Mx w m) :
    Calls Tryd.prog 34 #[.pointer (some ⟨rb, 0, none⟩)] w (AttrPost w rb s.data.toList l) := by
  have HR := Lib.hid hr
  have HM := Lib.hid hm
  have hf0 : attrS s.data.toList = none → ∀ w', w.grownBy w' (some rb) → AttrPost w rb s.data.toList l gaveUp w' := fun h w' hg => by
    unfold AttrPost attrP; rw [h]; exact ⟨rfl, hg⟩
  have HF := Lib.hid hf0
  clear hf0
  go_enter Tryd.func34, Tryd.ntmps34
  go_wp2_with fail
  have hb0 : Below w.heap.size w (w.alloc (.cells #[.string ⟨#[]⟩, .string ⟨#[]⟩, .bool false] 43)) := (Below.refl _ _).alloc (Nat.le_refl _) _
  have hx0 : (w.alloc (.cells #[.string ⟨#[]⟩, .string ⟨#[]⟩, .bool false] 43)).heap[w.heap.size]? = some (.cells #[.string ⟨#[]⟩, .string ⟨#[]⟩, .bool false] 43 (0, 0)) := heap_alloc_new w _
  have hz0 : (w.alloc (.cells #[.string ⟨#[]⟩, .string ⟨#[]⟩, .bool false] 43)).heap.size = w.heap.size + 1 := by simp
  have hlt := HR.out.lt
  refine (until_walk rb s ⟨#[61]⟩ l _ (HR.out.below hb0) [61] rfl (by decide) (by omega)).mono ?_
  generalize (w.alloc (.cells #[.string ⟨#[]⟩, .string ⟨#[]⟩, .bool false] 43)) = w0 at *
  rintro e w1 hu
  unfold UntilPost at hu
  cases hd : dropW (notIn [61]) s.data.toList with
  | nil =>
    rw [hd] at hu
    obtain ⟨rfl, hb⟩ := hu
    have HN : Hid (attrS s.data.toList = none) := by
      exact attrS_nil hd
    have HB := Lib.hid hb
    clear hd hb
    go_wp2
    exact ⟨rfl, HF.out HN.out _ (below_grown' (hb0.trans (HB.out.mono hb0.size)))⟩
  | cons c l1 =>
    rw [hd] at hu
    obtain ⟨rfl, hst⟩ := hu
    have h61 := notIn_one (dropW_head hd)
    subst h61
    have hgr := hst.2
    have HST := Lib.hid hst
    have HD := Lib.hid hd
    clear hd hst
    have HX1 : Hid (w1.heap[w.heap.size]? = some (.cells #[.string ⟨#[]⟩, .string ⟨#[]⟩, .bool false] 43 (0, 0))) := by
      show _ = _
      rw [hgr.block _ (by omega) (by intro e; injection e with e; omega)]; exact hx0
    have HG1 : Hid (w.grownBy w1 (some rb)) := below_then hb0 hgr
    have hz1 := hgr.size
    have HL1 : Hid (l1.length < s.size) := by
      show _ < _
      have := dropW_len (notIn [61]) s.data.toList
      rw [HD.out, size_list] at this
      simp at this; omega
    clear hgr hx0
    go_wp2_with fail
    have htl : (takeW (notIn [61]) s.data.toList).length ≤ 4096 := by
      unfold takeW; rw [List.length_take, size_list]; omega
    have HTL := Lib.hid htl
    refine (strings_TrimRight_laid ⟨(takeW (notIn [61]) s.data.toList).toArray⟩ ⟨blanks4.toArray⟩ w1 (by rw [← size_list]; show List.length (takeW _ _) ≤ _; omega) (by decide) blanks_ascii).mono ?_
    rintro e w2 ⟨rfl, hb2⟩
    rw [show (⟨(Lib.trimRightS (⟨(takeW (notIn [61]) s.data.toList).toArray⟩ : ByteArray).data.toList (⟨blanks4.toArray⟩ : ByteArray).data.toList).toArray⟩ : ByteArray) = ⟨(trimR (takeW (notIn [61]) s.data.toList)).toArray⟩ from congrArg _ (congrArg _ (trimR_S _))]
    generalize hnm : trimR (takeW (notIn [61]) s.data.toList) = nm
    have HNM := Lib.hid hnm
    have hz2 := hb2.size
    have HR2 := Lib.hid (HST.out.1.below hb2)
    have HX2 : Hid (w2.heap[w.heap.size]? = some (.cells #[.string ⟨#[]⟩, .string ⟨#[]⟩, .bool false] 43 (0, 0))) := by
      show _ = _
      rw [hb2.block _ (by omega)]; exact HX1.out
    have HG2 : Hid (w.grownBy w2 (some rb)) := grown_below HG1.out hb2
    clear hnm hb2
    go_wp2_with fail
    have HA3 : Hid (ASt w (w2.alloc (.cells #[.string ⟨nm.toArray⟩, .string ⟨#[]⟩, .bool true] 43)) rb w2.heap.size nm) :=
      ⟨grown_below HG2.out ((Below.refl _ _).alloc (Nat.le_refl _) _), by rw [Below.heap_alloc _ _ _ (by omega)]; exact HX2.out, heap_alloc_new w2 _, by omega, by simp, hlt⟩
    have hr3 : Rd (w2.alloc (.cells #[.string ⟨nm.toArray⟩, .string ⟨#[]⟩, .bool true] 43)) rb ⟨(61 :: l1).toArray⟩ l := HR2.out.below ((Below.refl _ _).alloc (Nat.le_refl _) _)
    refine (take1_val rb _ ⟨#[61]⟩ l _ hr3 61 rfl (some l1) rfl).mono ?_
    rintro e w4 ⟨rfl, hst4⟩
    have HA4 := Lib.hid (HA3.out.step hst4.2)
    have HR4 := Lib.hid hst4.1
    clear hst4 hr3
    go_wp2_with fail
    refine (blank_walk rb _ l w4 HR4.out).mono ?_
    rintro e w5 ⟨rfl, hst5⟩
    have HA5 := Lib.hid (HA4.out.step hst5.2)
    have HR5 := Lib.hid hst5.1
    clear hst5
    have HS1 : Hid (attrS s.data.toList = attrT nm l1) := by
      show _ = _
      rw [← HNM.out]; exact attrS_tail HD.out
    generalize hxx : dropW blankB l1 = xx at HR5
    have HXX := Lib.hid hxx
    clear hxx
    generalize hb34 : Lib.hasPrefix xx [34] = b34
    have H34 := Lib.hid hb34
    have HF2 : Hid (attrT nm l1 = none → ∀ w', w.grownBy w' (some rb) → AttrPost w rb s.data.toList l gaveUp w') := fun h => HF.out (HS1.out.trans h)
    go_upto_if 17 with (fail)
    refine (may_val rb _ ⟨#[34]⟩ l w5 HR5.out [34] rfl b34 hb34).mono ?_
    clear hb34
    rintro e w6 ⟨rfl, hst6⟩
    have HA6 := Lib.hid (HA5.out.step hst6.2)
    have HR6 := Lib.hid hst6.1
    clear hst6
    go_upto_if 17 with (fail)
    go_cut [4] (fun qv wr => ∃ (q : UInt8) (l2 : Bs), (q = 34 ∨ q = 39) ∧ qv = .string ⟨#[q]⟩ ∧ dropW blankB l1 = q :: l2 ∧ Rd wr rb ⟨l2.toArray⟩ l ∧ ASt w wr rb w2.heap.size nm)
    case first =>
      cases b34
      · have hr6 : Rd w6 rb ⟨xx.toArray⟩ l := HR6.out
        have h34 : pre1 34 xx = none := by
          have := H34.out; rw [pre1_has] at this; simpa using this
        have HP34 := Lib.hid h34
        clear h34
        go_wp2_with fail
        cases h39 : pre1 39 xx with
        | none =>
          refine (take1_val rb _ ⟨#[39]⟩ l w6 hr6 39 rfl none h39).mono ?_
          have HP39 := Lib.hid h39
          clear h39
          rintro e w7 ⟨rfl, hg7⟩
          have HG7 := Lib.hid hg7
          clear hg7
          go_wp2
          exact ⟨rfl, HF2.out (attrT_none (by rw [HXX.out]; exact HP34.out) (by rw [HXX.out]; exact HP39.out)) _ (HA6.out.grown.trans HG7.out)⟩
        | some l2 =>
          refine (take1_val rb _ ⟨#[39]⟩ l w6 hr6 39 rfl (some l2) h39).mono ?_
          have HP39 := Lib.hid h39
          clear h39
          rintro e w7 ⟨rfl, hst7⟩
          have HST7 := Lib.hid hst7
          clear hst7
          go_wp2_with fail
          go_meet
          exact ⟨39, l2, .inr rfl, rfl, by rw [HXX.out]; exact pre1_cons HP39.out, HST7.out.1, HA6.out.step HST7.out.2⟩
      · have hr6 : Rd w6 rb ⟨(xx.drop 1).toArray⟩ l := HR6.out
        have HR6' := Lib.hid hr6
        clear hr6
        go_wp2_with fail
        go_meet
        refine ⟨34, xx.drop 1, .inl rfl, rfl, ?_, HR6'.out, HA6.out⟩
        have := H34.out
        rw [pre1_has] at this
        obtain ⟨r, hr⟩ := Option.isSome_iff_exists.1 this
        rw [HXX.out, pre1_drop hr]; exact pre1_cons hr
    case rest =>
      obtain ⟨q, l2, hq, rfl, hx, hr, ha⟩ := hcut
      have HA := Lib.hid ha
      have HRC := Lib.hid hr
      have HX := Lib.hid hx
      have HS2 : Hid (attrS s.data.toList = attrU nm q l2) := by
        show _ = _
        rw [HS1.out]; unfold attrT; rw [hx]; exact if_pos hq
      have hl2 : l2.length ≤ 4096 := by
        have h1 := dropW_len blankB l1
        have := HL1.out
        rw [hx] at h1; simp at h1; omega
      have ha128 : ∀ b ∈ [q, 60], b.toNat < 128 := by
        rcases hq with rfl | rfl <;> decide
      have hT : ((⟨#[q]⟩ : ByteArray) ++ ⟨#[60]⟩).data.toList = [q, 60] := by rw [Joins.data_append]; rfl
      have HHT := Lib.hid hT
      have HF3 : Hid (attrP s.data.toList = none → ∀ w', w.grownBy w' (some rb) → AttrPost w rb s.data.toList l gaveUp w') := fun h w' hg => by
        unfold AttrPost; rw [h]; exact ⟨rfl, hg⟩
      have HF4 : Hid (attrS s.data.toList = none → attrP s.data.toList = none) := fun h => by unfold attrP; rw [h]
      clear ha hr hx hq hT
      go_wp2_with fail
      refine (until_walk rb ⟨l2.toArray⟩ _ l wc HRC.out [q, 60] HHT.out ha128 (by rw [← size_list]; show l2.length ≤ _; omega)).mono ?_
      rintro e w6 hu
      unfold UntilPost at hu
      rw [show (⟨l2.toArray⟩ : ByteArray).data.toList = l2 from rfl] at hu
      cases hd : dropW (notIn [q, 60]) l2 with
      | nil =>
        rw [hd] at hu
        obtain ⟨rfl, hb⟩ := hu
        have HN : Hid (attrS s.data.toList = none) := by
          show _ = _; rw [HS2.out]; unfold attrU; rw [hd]
        have HB := Lib.hid hb
        clear hd hb
        go_wp2
        exact ⟨rfl, HF3.out (HF4.out HN.out) _ (grown_below HA.out.grown HB.out)⟩
      | cons c r =>
        rw [hd] at hu
        obtain ⟨rfl, hst⟩ := hu
        have HA6 := Lib.hid (HA.out.step hst.2)
        have HR6 := Lib.hid hst.1
        have HD2 := Lib.hid hd
        clear hst hd
        go_wp2_with fail
        cases hcq : pre1 q (c :: r) with
        | none =>
          refine (take1_val rb _ ⟨#[q]⟩ l w6 HR6.out q rfl none hcq).mono ?_
          have HN : Hid (attrS s.data.toList = none) := by
            show _ = _; rw [HS2.out]; unfold attrU; rw [HD2.out]
            unfold pre1 at hcq
            show (if c = q then _ else none) = none
            by_cases h : c = q
            · simp [h] at hcq
            · exact if_neg h
          clear hcq
          rintro e w7 ⟨rfl, hg7⟩
          have HG7 := Lib.hid hg7
          clear hg7
          go_wp2
          exact ⟨rfl, HF3.out (HF4.out HN.out) _ (HA6.out.grown.trans HG7.out)⟩
        | some r' =>
          have hc : c = q ∧ r' = r := by
            have := pre1_cons hcq
            injection this with h1 h2
            exact ⟨h1, h2.symm⟩
          obtain ⟨rfl, rfl⟩ := hc
          refine (take1_val rb _ ⟨#[c]⟩ l w6 HR6.out c rfl (some r') hcq).mono ?_
          clear hcq
          rintro e w7 ⟨rfl, hst7⟩
          have HA7 := Lib.hid (HA6.out.step hst7.2)
          have HR7 := Lib.hid hst7.1
          clear hst7
          have HAP := Lib.hid (attrP_val HS2.out HD2.out)
          have htl2 : (takeW (notIn [c, 60]) l2).length ≤ 4096 := by
            unfold takeW; rw [List.length_take]; omega
          generalize takeW (notIn [c, 60]) l2 = v at *
          go_wp2_with fail
          refine (plain_walk rb ⟨v.toArray⟩ m w7 (by rw [← size_list]; exact htl2) (HM.out.stp HR.out HA7.out.grown)).mono ?_
          rintro e w8 hpp
          obtain ⟨hpp, hb8⟩ := hpp
          rw [show (⟨v.toArray⟩ : ByteArray).data.toList = v from rfl] at hpp
          have HB8 := Lib.hid hb8
          clear hb8
          cases hps : plainS v with
          | none =>
            rw [hps] at hpp
            subst hpp
            have HN : Hid (attrP s.data.toList = none) := by
              show _ = _; rw [HAP.out, hps]
            clear hps
            go_wp2
            exact ⟨rfl, HF3.out HN.out _ (grown_below HA7.out.grown HB8.out)⟩
          | some tx =>
            rw [hps] at hpp
            subst hpp
            have HS3 : Hid (attrP s.data.toList = some (⟨nm, tx, true⟩, r')) := by
              show _ = _; rw [HAP.out, hps]
            clear hps
            have HA8 := Lib.hid (HA7.out.step (below_grown' HB8.out))
            have HR8 := Lib.hid (HR7.out.below HB8.out)
            have hp := HA8.out.p
            have hX := HA8.out.x
            have c0 := blk_cell hp 0
            have c1 := blk_cell hp 1
            have c2 := blk_cell hp 2
            have f1 := frozen0 hp 1
            have d0 := blk_cell hX 0
            have d1 := blk_cell hX 1
            have d2 := blk_cell hX 2
            have e0 := frozen0 hX 0
            have e1 := frozen0 hX 1
            have e2 := frozen0 hX 2
            have hne : ¬ w.heap.size = w2.heap.size := by have := HA8.out.lt; omega
            have hne2 : ¬ w2.heap.size = w.heap.size := by have := HA8.out.lt; omega
            have HX8 := Lib.hid hX
            clear hp hX
            simp at c0 c1 c2 d0 d1 d2
            go_wp2_with fail
            have hX2 : (w8.setCell ⟨w2.heap.size, 1, none⟩ (.string ⟨tx.toArray⟩)).heap[w.heap.size]? = some (.cells #[.string ⟨#[]⟩, .string ⟨#[]⟩, .bool false] 43 (0, 0)) := by
              rw [Below.heap_setCell _ _ _ _ (fun e => hne2 e.symm)]; exact HX8.out
            have hs3 := store3 hX2 (.string ⟨nm.toArray⟩) (.string ⟨tx.toArray⟩) (.bool true)
            have hlt2 := HA8.out.lt
            refine bodyPost_ret (v := parV ⟨nm, tx, true⟩) (results_cell_row rfl _ _ w.heap.size 43 #[.string ⟨nm.toArray⟩, .string ⟨tx.toArray⟩, .bool true] (0, 0) _ rfl hs3.1 Tryd.underlying43 rfl (by kernel_rfl)) rfl ?_
            show AttrPost w rb s.data.toList l _ _
            unfold AttrPost; rw [HS3.out]
            refine ⟨rfl, ?_, ?_⟩
            · exact (((HR8.out.other _ (by show rb ≠ w2.heap.size; omega) _).other _ (by show rb ≠ w.heap.size; omega) _).other _ (by show rb ≠ w.heap.size; omega) _).other _ (by show rb ≠ w.heap.size; omega) _
            · exact grown_set (grown_set (grown_set (grown_set HA8.out.grown _ (by show _ ≤ w2.heap.size; omega) _) _ (Nat.le_refl _) _) _ (Nat.le_refl _) _) _ (Nat.le_refl _) _
end Go.Proofs.YtffcapkjfmkkaaaDoor
