/- element, as the program reads it: frames and relations. -/
import Derived.Test.YtffcapkjfmkkaaaDoorF
import Derived.Deep.RegionHeld3
namespace Go.Proofs.YtffcapkjfmkkaaaDoor
open Go.RowKit
/-- How much the reader has still to read. -/
def rdLen (w : World) (rb : Nat) : Nat :=
  match w.heap[rb]? with
  | some (.cells cs _ _) => (match cs[0]? with | some (Value.string s) => s.size | _ => 0)
  | _ => 0
theorem Rd.len {w : World} {rb : Nat} {s : ByteArray} {l : Value} (h : Rd w rb s l) : rdLen w rb = s.size := by
  unfold rdLen; rw [show w.heap[rb]? = _ from h]; rfl
/-- Nothing that was there has been turned but the reader and the row of its list. -/
structure Fr (w w' : World) (rb : Nat) (row : Option Nat) : Prop where
  os : w'.os = w.os
  tape : w'.tape = w.tape
  output : w'.output = w.output
  size : w.heap.size ≤ w'.heap.size
  block : ∀ k, k < w.heap.size → k ≠ rb → some k ≠ row → w'.heap[k]? = w.heap[k]?
theorem Fr.of {w w' : World} {rb : Nat} {row : Option Nat} (h : w.grownBy w' (some rb)) : Fr w w' rb row :=
  ⟨h.os, h.tape, h.output, h.size, fun k hk h1 _ => h.block k hk (by intro e; injection e with e; exact h1 e)⟩
theorem Fr.ofRow {w w' : World} {rb : Nat} {row : Option Nat} (h : w.grownBy w' row) : Fr w w' rb row :=
  ⟨h.os, h.tape, h.output, h.size, fun k hk _ h2 => h.block k hk h2⟩
theorem Fr.ofBelow {w w' : World} {rb : Nat} {row : Option Nat} (h : Below w.heap.size w w') : Fr w w' rb row := Fr.ofRow (below_grown' h)
theorem Fr.trans {w w1 w2 : World} {rb : Nat} {l l1 : Value} (h1 : Fr w w1 rb l.ownBlock) (h2 : Fr w1 w2 rb l1.ownBlock) (ha : AtB w l l1) : Fr w w2 rb l.ownBlock :=
  ⟨h2.os.trans h1.os, h2.tape.trans h1.tape, h2.output.trans h1.output, Nat.le_trans h1.size h2.size, fun k hk hr hne => by
    rw [h2.block k (Nat.lt_of_lt_of_le hk h1.size) hr ?_, h1.block k hk hr hne]
    rcases ha with e | e | ⟨b, e, hb⟩
    · rw [e]; exact hne
    · rw [e]; simp
    · rw [e]; intro e'; injection e' with e'; omega⟩
theorem Fr.then {w w1 w2 : World} {rb : Nat} {row : Option Nat} (h1 : Fr w w1 rb row) (h2 : w1.grownBy w2 (some rb)) : Fr w w2 rb row :=
  ⟨h2.os.trans h1.os, h2.tape.trans h1.tape, h2.output.trans h1.output, Nat.le_trans h1.size h2.size, fun k hk hr hne => by
    rw [h2.block k (Nat.lt_of_lt_of_le hk h1.size) (by intro e; injection e with e; exact hr e), h1.block k hk hr hne]⟩
theorem Fr.cell {w w' : World} {rb : Nat} {row : Option Nat} (h : Fr w w' rb row) {a : Addr} {v : Value} (h1 : a.block ≠ rb) (h2 : some a.block ≠ row) (hc : w.cell? a = some v) : w'.cell? a = some v := by
  rw [World.cell?_of_block (h.block _ (cell_lt hc) h1 h2)]; exact hc
theorem AtB.refl (w : World) (l : Value) : AtB w l l := .inl rfl
/-- The reader's block is no row. -/
theorem Rd.notPar {w : World} {rb : Nat} {s : ByteArray} {l : Value} (h : Rd w rb s l) : NotPar w (some rb) := fun k hk => by
  injection hk with hk; subst hk
  exact ⟨_, _, _, h, by decide⟩
theorem Rd.notRow {w : World} {rb : Nat} {s : ByteArray} {l v : Value} {B e size n : Nat} {xs : List Value} (h : Rd w rb s l) (hv : w.ownsRow B e size v n xs) (he : e ≠ 48) : v.ownBlock ≠ some rb := fun hk => by
  obtain ⟨cs, hc⟩ := own_at hv hk
  rw [show w.heap[rb]? = _ from h] at hc
  injection hc with hc; injection hc with _ h2
  exact he h2.symm
theorem ONod.notRd {w : World} {rb B : Nat} {s : ByteArray} {l v : Value} {ns : List Nod} (h : ONod w B v ns) (hr : Rd w rb s l) : v.ownBlock ≠ some rb := by
  obtain ⟨⟨xs, -, h2, -⟩, -⟩ := h
  exact hr.notRow h2 (by decide)
theorem OPar.notRd {w : World} {rb B : Nat} {s : ByteArray} {l v : Value} {ps : List Par} (h : OPar w B v ps) (hr : Rd w rb s l) : v.ownBlock ≠ some rb := hr.notRow h.1 (by decide)
theorem ONod.stp {w w' : World} {rb B : Nat} {s : ByteArray} {l v : Value} {ns : List Nod} (h : ONod w B v ns) (hr : Rd w rb s l) (hg : w.grownBy w' (some rb)) : ONod w' B v ns := h.grown hg hr.notPar (.inr (h.notRd hr))
theorem OPar.stp {w w' : World} {rb B : Nat} {s : ByteArray} {l v : Value} {ps : List Par} (h : OPar w B v ps) (hr : Rd w rb s l) (hg : w.grownBy w' (some rb)) : OPar w' B v ps := h.grown hg hr.notPar
/-- One round of the attributes. -/
theorem attrsP_step (g : Nat) (s y : Bs) (ps : List Par) (hy : dropW blankB s = y) : attrsP (g + 1) s ps =
    if Lib.hasPrefix y [47] = true ∨ Lib.hasPrefix y [62] = true then some (ps, y) else if y.length = s.length then none
    else match attrP y with
      | none => none
      | some (p, rest) => attrsP g rest (ps ++ [p]) := by
  subst hy
  rw [attrsP]
  cases dropW blankB s with
  | nil =>
    have h1 : ¬ (Lib.hasPrefix [] [47] = true ∨ Lib.hasPrefix [] [62] = true) := by decide
    rw [if_neg h1]
    show none = _
    by_cases h : ([] : Bs).length = s.length
    · rw [if_pos h]
    · rw [if_neg h]; rfl
  | cons c r =>
    simp only []
    have h1 : (Lib.hasPrefix (c :: r) [47] = true ∨ Lib.hasPrefix (c :: r) [62] = true) ↔ (c = 47 ∨ c = 62) := by
      simp only [Lib.hasPrefix, List.isPrefixOf, Bool.and_true, beq_iff_eq]
      constructor
      · rintro (h | h)
        · exact .inl h.symm
        · exact .inr h.symm
      · rintro (h | h)
        · exact .inl h.symm
        · exact .inr h.symm
    by_cases hc : c = 47 ∨ c = 62
    · rw [if_pos hc, if_pos (h1.2 hc)]
    · rw [if_neg hc, if_neg (fun h => hc (h1.1 h))]
      rfl
theorem attrP_len {l r : Bs} {p : Par} (h : attrP l = some (p, r)) : r.length + 2 ≤ l.length ∧ p.name.length ≤ l.length ∧ p.value.length ≤ l.length := by
  unfold attrP at h
  cases e : attrS l with
  | none => rw [e] at h; cases h
  | some x =>
    obtain ⟨q, r'⟩ := x
    rw [e] at h
    simp only at h
    split at h
    · cases h
      exact ⟨attrS_len e, attrS_sizes e⟩
    · cases h
theorem attrsP_len : ∀ (f : Nat) (s : Bs) (acc ps : List Par) (r : Bs), attrsP f s acc = some (ps, r) → r.length ≤ s.length := by
  intro f
  induction f with
  | zero => intro s acc ps r h; cases h
  | succ f ih =>
    intro s acc ps r h
    have h1 := dropW_len blankB s
    rw [attrsP_step f s _ acc rfl] at h
    split at h
    · cases h; exact h1
    · split at h
      · cases h
      · split at h
        · cases h
        · rename_i p rest hp
          have := ih _ _ _ _ h
          have := (attrP_len hp).1
          omega
/-- Behind the attributes. -/
def elTailP (f : Nat) (deep : Int) (nm : Bs) (cnt : Nat) (o : Option (List Par × Bs)) : Option (List Nod × Bs) :=
  match o with
  | none => none
  | some (ps, s3) =>
    if 8 ≤ deep ∨ 200 ≤ cnt then none
    else match pre2 47 62 s3 with
      | some s4 => some ([⟨deep, nm, ps, []⟩], s4)
      | none =>
        match pre1 62 s3 with
        | none => none
        | some s4 => contP f s4 ⟨deep, nm, ps, []⟩ cnt
theorem elemP_tail {f : Nat} {s s1 r : Bs} {deep : Int} {cnt : Nat} {c : UInt8} (h2 : pre1 60 s = some s1) (h3 : dropW (notIn [47, 62, 32, 9, 13, 10]) s1 = c :: r) :
    elemP (f + 1) s deep cnt = elTailP f deep (takeW (notIn [47, 62, 32, 9, 13, 10]) s1) cnt (attrsP (s1.length + 1) (c :: r) []) := by
  rw [elemP, h2]
  simp only
  rw [h3]; simp only
  cases attrsP (s1.length + 1) (c :: r) [] with
  | none => rfl
  | some x =>
    obtain ⟨ps, s3⟩ := x
    simp only [elTailP]
    split
    · rfl
    · cases pre2 47 62 s3 with
      | some s4 => rfl
      | none => cases pre1 62 s3 <;> rfl
/-- Inside the loop over attributes: F rounds at s0 are g rounds at y. -/
structure ARl (w wr : World) (rb nb : Nat) (F : Nat) (s0 : Bs) (deep : Int) (nm : Bs) (l : Value) (va : Value) (g : Nat) (y : Bs) (ps : List Par) : Prop where
  eq : attrsP F s0 [] = attrsP g y ps
  fuel : y.length < g
  len : ps.length + y.length ≤ 4096
  rd : Rd wr rb ⟨y.toArray⟩ l
  grown : w.grownBy wr (some rb)
  box : wr.heap[nb]? = some (.cells #[.int .i64 deep, .string ⟨nm.toArray⟩, va, .string ⟨#[]⟩] 40 (0, 0))
  nb : w.heap.size ≤ nb
  rlt : rb < w.heap.size
  own : OPar wr w.heap.size va ps
/-- Behind it. -/
structure BRl (w wr : World) (rb nb : Nat) (F : Nat) (s0 : Bs) (deep : Int) (nm : Bs) (l : Value) (va : Value) (y : Bs) (ps : List Par) : Prop where
  eq : attrsP F s0 [] = some (ps, y)
  len : ps.length + y.length ≤ 4096
  rd : Rd wr rb ⟨y.toArray⟩ l
  grown : w.grownBy wr (some rb)
  box : wr.heap[nb]? = some (.cells #[.int .i64 deep, .string ⟨nm.toArray⟩, va, .string ⟨#[]⟩] 40 (0, 0))
  nb : w.heap.size ≤ nb
  rlt : rb < w.heap.size
  own : OPar wr w.heap.size va ps
theorem blk_lt {w : World} {b : Nat} {o : Obj} (h : w.heap[b]? = some o) : b < w.heap.size := (Array.getElem?_eq_some_iff.1 h).1
/-- A step of the reader. -/
theorem ARl.step {w wr w' : World} {rb nb F : Nat} {s0 : Bs} {deep : Int} {nm : Bs} {l va : Value} {g : Nat} {y : Bs} {ps : List Par} (h : ARl w wr rb nb F s0 deep nm l va g y ps) (hg : wr.grownBy w' (some rb)) :
    w.grownBy w' (some rb) ∧ w'.heap[nb]? = some (.cells #[.int .i64 deep, .string ⟨nm.toArray⟩, va, .string ⟨#[]⟩] 40 (0, 0)) ∧ OPar w' w.heap.size va ps :=
  ⟨h.grown.trans hg, by
    have := h.nb; have := h.rlt
    rw [hg.block _ (blk_lt h.box) (by intro e; injection e with e; omega)]; exact h.box, h.own.stp h.rd hg⟩
theorem hpre_val (s t : ByteArray) (w : World) (T : Bs) (hT : t.data.toList = T) (b : Bool) (h : Lib.hasPrefix s.data.toList T = b) :
    Calls Tryd.prog 33 #[.string s, .string t] w fun e w' => e = .returned (.bool b) ∧ w' = w := by
  subst hT h; exact strings_HasPrefix s t w
theorem attr_bad {w w' : World} {rb : Nat} {s : ByteArray} {l : Value} {e : Ending} (h : attrP s.data.toList = none) (hp : AttrPost w.drew rb s.data.toList l e w') : e = gaveUp ∧ w.grownBy w' (some rb) := by
  unfold AttrPost at hp; rw [h] at hp; exact ⟨hp.1, hp.2.os, hp.2.tape, hp.2.output, hp.2.size, hp.2.block⟩
theorem attr_good {w w' : World} {rb : Nat} {s r : ByteArray} {p : Par} {l : Value} {e : Ending} (h : attrP s.data.toList = some (p, r.data.toList)) (hp : AttrPost w.drew rb s.data.toList l e w') : e = .returned (.agg #[.string ⟨p.name.toArray⟩, .string ⟨p.value.toArray⟩, .bool p.has]) ∧ Rd w' rb r l ∧ w.grownBy w' (some rb) := by
  unfold AttrPost at hp; rw [h] at hp; exact ⟨hp.1, hp.2.1, hp.2.2.os, hp.2.2.tape, hp.2.2.output, hp.2.2.size, hp.2.2.block⟩
abbrev nodO (deep : Int) (nm : Bs) (va : Value) : Obj := .cells #[.int .i64 deep, .string ⟨nm.toArray⟩, va, .string ⟨#[]⟩] 40
abbrev parO (q : Par) : Obj := .cells #[.string ⟨q.name.toArray⟩, .string ⟨q.value.toArray⟩, .bool q.has] 43
theorem nod_cell2 {w : World} {nb : Nat} {deep : Int} {nm : Bs} {va : Value} (h : w.heap[nb]? = some (nodO deep nm va)) : w.cell? ⟨nb, 2, none⟩ = some va := blk_cell h 2
theorem nod_fz2 {w : World} {nb : Nat} {deep : Int} {nm : Bs} {va : Value} (h : w.heap[nb]? = some (nodO deep nm va)) : w.frozen? ⟨nb, 2, none⟩ = false := frozen0 h 2
theorem blk_ne {w : World} {nb : Nat} {o : Obj} (h : w.heap[nb]? = some o) : ¬ nb = w.heap.size := by have := blk_lt h; omega
theorem nod_past {w : World} {nb : Nat} {deep : Int} {nm : Bs} {va : Value} (h : w.heap[nb]? = some (nodO deep nm va)) (o : Obj) : (w.alloc o).heap[nb]? = some (nodO deep nm va) := by
  rw [Below.heap_alloc _ _ _ (blk_lt h)]; exact h
theorem carry {w w4 w6 : World} {rb nb B : Nat} {y : ByteArray} {l va : Value} {ps : List Par} {deep : Int} {nm : Bs} (hA : w.grownBy w4 (some rb) ∧ w4.heap[nb]? = some (nodO deep nm va) ∧ OPar w4 B va ps) (hr : Rd w4 rb y l) (hg : w4.grownBy w6 (some rb)) :
    w.grownBy w6 (some rb) ∧ w6.heap[nb]? = some (nodO deep nm va) ∧ OPar w6 B va ps := by
  have hne : some nb ≠ some rb := fun e => by
    injection e with e; subst e
    have h1 : w4.heap[nb]? = some (.cells #[.string y, l] 48 (0, 0)) := hr
    rw [h1] at hA
    have := hA.2.1
    injection this with this; injection this with _ h2
    revert h2; decide
  exact ⟨hA.1.trans hg, (hg.block _ (blk_lt hA.2.1) hne).trans hA.2.1, hA.2.2.stp hr hg⟩
theorem news_par (w6 : World) (q : Par) : ∀ j u, (parCells q)[j]? = some u → (w6.alloc (parO q)).cell? ((⟨w6.heap.size, 0, none⟩ : Addr).add j) = some u := fun j u hj => World.news_of_block (heap_alloc_new w6 _) j u hj
theorem one_par (q : Par) : ∀ u ∈ parCells q, u.oneCell' = true := by
  intro u hu
  simp [parCells] at hu
  rcases hu with rfl | rfl | rfl <;> rfl
theorem alloc_le {n : Nat} {w : World} (o : Obj) (h : n ≤ w.heap.size) : n ≤ (w.alloc o).heap.size := by simp; omega
theorem after_app {w6 w7 : World} {nb B : Nat} {o : Obj} {va : Value} {ps : List Par} {deep : Int} {nm : Bs} (hb : w6.heap[nb]? = some (nodO deep nm va)) (ho : OPar w6 B va ps) (hg : (w6.alloc o).grownBy w7 va.ownBlock) : w7.heap[nb]? = some (nodO deep nm va) := by
  have hne : some nb ≠ va.ownBlock := fun e => by
    obtain ⟨cs, hc⟩ := own_at ho.1 e.symm
    rw [hb] at hc; injection hc with hc; injection hc with _ ht; revert ht; decide
  have := blk_lt hb
  rw [hg.block _ (by simp; omega) hne, Below.heap_alloc _ _ _ this]; exact hb
theorem grown_own {w w1 w2 : World} {row r2 : Option Nat} (h : w.grownBy w1 row) (h2 : w1.grownBy w2 r2) (hr : ∀ k, r2 = some k → w.heap.size ≤ k) : w.grownBy w2 row :=
  ⟨h2.os.trans h.os, h2.tape.trans h.tape, h2.output.trans h.output, Nat.le_trans h.size h2.size, fun k hk hne => by
    rw [h2.block k (Nat.lt_of_lt_of_le hk h.size) (fun e => by have := hr k e.symm; omega)]; exact h.block k hk hne⟩
theorem ARl.next {w wr w6 w7 : World} {rb nb F : Nat} {s0 : Bs} {deep : Int} {nm : Bs} {l va v7 : Value} {g : Nat} {y rest : Bs} {ps : List Par} {q : Par} (h : ARl w wr rb nb F s0 deep nm l va (g + 1) y ps)
    (he : attrsP (g + 1) y ps = attrsP g rest (ps ++ [q])) (hl : rest.length + 2 ≤ y.length) (hq : q.name.length ≤ 4096 ∧ q.value.length ≤ 4096)
    (hc : w.grownBy w6 (some rb) ∧ w6.heap[nb]? = some (nodO deep nm va) ∧ OPar w6 w.heap.size va ps) (hr : Rd w6 rb ⟨rest.toArray⟩ l) (o : Obj)
    (ho : w7.ownsRow w.heap.size 43 3 v7 (ps.length + 1) (ps.flatMap parCells ++ parCells q)) (hg : (w6.alloc o).grownBy w7 va.ownBlock) :
    ARl w (w7.setCell ⟨nb, 2, none⟩ v7) rb nb F s0 deep nm l v7 g rest (ps ++ [q]) := by
  have hfu := h.fuel
  have hlen := h.len
  have hlt := h.rlt
  have hnb := h.nb
  have hrow : ∀ k, va.ownBlock = some k → w.heap.size ≤ k := fun k hk => (hc.2.2.1.lt k hk).1
  have hg1 : w.grownBy (w6.alloc o) (some rb) := grown_below hc.1 ((Below.refl _ _).alloc (Nat.le_refl _) _)
  have hg7 := grown_own hg1 hg hrow
  have hb7 := after_app hc.2.1 hc.2.2 hg
  have hr7 : Rd w7 rb ⟨rest.toArray⟩ l := by
    unfold Rd
    have := hr.lt
    rw [hg.block _ (by simp; omega) (fun e => by have := hrow rb e.symm; omega), Below.heap_alloc _ _ _ this]; exact hr
  have hne : v7.ownBlock ≠ some nb := fun e => by
    obtain ⟨cs, hcc⟩ := own_at ho e
    rw [hb7] at hcc; injection hcc with hcc; injection hcc with _ ht; revert ht; decide
  refine ⟨h.eq.trans he, by omega, by simp; omega, hr7.other _ (by show rb ≠ nb; omega) _, grown_set hg7 _ hnb _, setCell_same hb7 2 v7, hnb, hlt, ?_⟩
  exact (hc.2.2.appended q hq ho).kept (setCell_grown w7 nb 2 v7) (.inr hne)
/-- What an element leaves. -/
def ElP (w : World) (B rb : Nat) (l : Value) (ns : List Nod) (o : Option (List Nod × Bs)) (e : Ending) (w' : World) : Prop :=
  Fr w w' rb l.ownBlock ∧
  match o with
  | none => e = gaveUp
  | some (ms, r) => e = .returned (.tuple #[]) ∧ ∃ l', Rd w' rb ⟨r.toArray⟩ l' ∧ ONod w' B l' (ns ++ ms) ∧ AtB w l l'
def EP (f : Nat) : Prop := ∀ (rb : Nat) (s : ByteArray) (deep : Int) (l : Value) (ns : List Nod) (B : Nat) (w : World) (m : Int), Rd w rb s l → Mx w m → 0 < B → B ≤ w.heap.size → s.size ≤ 4096 → 2 * s.size + 1 ≤ f → 0 ≤ deep → deep ≤ 90 → ONod w B l ns → ns.length ≤ 200 →
  Calls Tryd.prog 20 #[.pointer (some ⟨rb, 0, none⟩), .int .i64 deep] w (ElP w B rb l ns (elemP f s.data.toList deep ns.length))
theorem elemP_len {f : Nat} {s : Bs} {deep : Int} {cnt : Nat} {ms : List Nod} {r : Bs} (h : elemP f s deep cnt = some (ms, r)) : r.length < s.length ∧ cnt + ms.length ≤ 200 := by
  rw [(all_eq f).1] at h
  unfold fil at h
  split at h
  · cases h
  · rename_i ms' r' he
    split at h
    · cases h; exact ⟨(all_len f).1 _ _ _ _ _ he, (all_cnt f).1 _ _ _ _ _ he⟩
    · cases h
/-- What is read of an element's inside, at the end of a text. -/
def kidsQ (g : Nat) (z t : Bs) (deep : Int) (cnt : Nat) (kids : List Nod) : Option (Bs × List Nod × Bs) :=
  match pre2 60 47 z with
  | some _ => some (t, kids, z)
  | none =>
    match elemP g z deep cnt with
    | none => none
    | some (ms, rest) => kidsP g rest t deep (cnt + ms.length) (kids ++ ms)
theorem kidsQ_end {g : Nat} {z t r : Bs} {deep : Int} {cnt : Nat} {kids : List Nod} (h : pre2 60 47 z = some r) : kidsQ g z t deep cnt kids = some (t, kids, z) := by
  unfold kidsQ; rw [h]
theorem kidsQ_none {g : Nat} {z t : Bs} {deep : Int} {cnt : Nat} {kids : List Nod} (h : pre2 60 47 z = none) (he : elemP g z deep cnt = none) : kidsQ g z t deep cnt kids = none := by
  unfold kidsQ; rw [h, he]
theorem kidsQ_some {g : Nat} {z t rest : Bs} {deep : Int} {cnt : Nat} {kids ms : List Nod} (h : pre2 60 47 z = none) (he : elemP g z deep cnt = some (ms, rest)) : kidsQ g z t deep cnt kids = kidsP g rest t deep (cnt + ms.length) (kids ++ ms) := by
  unfold kidsQ; rw [h, he]
theorem kidsP_nil {g : Nat} {s text : Bs} {deep : Int} {cnt : Nat} {kids : List Nod} (h : dropW (notIn [60]) s = []) : kidsP g s text deep cnt kids = none := by
  cases g with
  | zero => rw [kidsP]
  | succ g => rw [kidsP, h]
theorem kidsP_cons {g : Nat} {s text : Bs} {deep : Int} {cnt : Nat} {kids : List Nod} {c : UInt8} {r : Bs} (h : dropW (notIn [60]) s = c :: r) : kidsP (g + 1) s text deep cnt kids = kidsQ g (c :: r) (text ++ takeW (notIn [60]) s) deep cnt kids := by
  rw [kidsP, h]; rfl
theorem takeW_len (p : UInt8 → Bool) (s : Bs) : (takeW p s).length + (dropW p s).length = s.length := by
  unfold takeW
  have := dropW_len p s
  rw [List.length_take]; omega
/-- Behind an element's attributes: its node stands in the reader's list, behind it elements of its inside. -/
structure CRl (w wr : World) (B rb nb : Nat) (m : Int) (l : Value) (deep : Int) (nm : Bs) (va : Value) (y : Bs) (l1 : Value) (n1 : List Nod) : Prop where
  rd : Rd wr rb ⟨y.toArray⟩ l1
  own : ONod wr B l1 n1
  fr : Fr w wr rb l.ownBlock
  at_ : AtB w l l1
  box : wr.heap[nb]? = some (nodO deep nm va)
  nbne : l1.ownBlock ≠ some nb
  mx : Mx wr m
theorem nod_ne_rd {w : World} {nb rb : Nat} {deep : Int} {nm : Bs} {va l : Value} {y : ByteArray} (hb : w.heap[nb]? = some (nodO deep nm va)) (hr : Rd w rb y l) : nb ≠ rb := fun e => by
  subst e
  have h1 : w.heap[nb]? = some (.cells #[.string y, l] 48 (0, 0)) := hr
  rw [h1] at hb
  injection hb with hb; injection hb with _ h2
  revert h2; decide
theorem CRl.stp {w wr w' : World} {B rb nb : Nat} {m : Int} {l : Value} {deep : Int} {nm : Bs} {va : Value} {y y' : Bs} {l1 : Value} {n1 : List Nod} (h : CRl w wr B rb nb m l deep nm va y l1 n1) (hs : Stp wr rb y' l1 w') : CRl w w' B rb nb m l deep nm va y' l1 n1 :=
  ⟨hs.1, h.own.stp h.rd hs.2, h.fr.then hs.2, h.at_, by
    have := nod_ne_rd h.box h.rd
    rw [hs.2.block _ (blk_lt h.box) (by intro e; injection e with e; exact this e)]; exact h.box, h.nbne, h.mx.stp h.rd hs.2⟩
theorem CRl.below {w wr w' : World} {B rb nb : Nat} {m : Int} {l : Value} {deep : Int} {nm : Bs} {va : Value} {y : Bs} {l1 : Value} {n1 : List Nod} (h : CRl w wr B rb nb m l deep nm va y l1 n1) (hs : Below wr.heap.size wr w') : CRl w w' B rb nb m l deep nm va y l1 n1 :=
  h.stp ⟨h.rd.below hs, below_grown' hs⟩
theorem ONod.row {w : World} {B : Nat} {l : Value} {ns : List Nod} (h : ONod w B l ns) (k : Nat) (hk : l.ownBlock = some k) : B ≤ k ∧ k < w.heap.size := by
  obtain ⟨⟨xs, -, h2, -⟩, -⟩ := h
  exact h2.lt k hk
theorem CRl.callee {w wr w' : World} {B rb nb : Nat} {m : Int} {l : Value} {deep : Int} {nm : Bs} {va : Value} {y r : Bs} {l1 l2 : Value} {n1 ms : List Nod} (h : CRl w wr B rb nb m l deep nm va y l1 n1) (hB : 0 < B)
    (hf : Fr wr w' rb l1.ownBlock) (hr : Rd w' rb ⟨r.toArray⟩ l2) (ho : ONod w' B l2 (n1 ++ ms)) (ha : AtB wr l1 l2) : CRl w w' B rb nb m l deep nm va r l2 (n1 ++ ms) :=
  ⟨hr, ho, h.fr.trans hf h.at_, h.at_.trans ha h.fr.size, by
    rw [hf.block _ (blk_lt h.box) (nod_ne_rd h.box h.rd) (fun e => h.nbne e.symm)]; exact h.box, ha.ne h.nbne (blk_lt h.box),
    hf.cell (fun e => h.rd.ne0 h.mx e.symm) (fun e => by have := (h.own.row 0 e.symm).1; omega) h.mx⟩
/-- An element's end, behind its inside. -/
def clos (n : Nod) (o : Option (Bs × List Nod × Bs)) : Option (List Nod × Bs) :=
  match o with
  | none => none
  | some (t, ks, r) => closeP n t ks r
theorem contP_clos (f : Nat) (s : Bs) (n : Nod) (cnt : Nat) : contP (f + 1) s n cnt = clos n (kidsP f s [] (n.deep + 1) (cnt + 1) []) := by
  rw [contP]; unfold clos
  cases kidsP f s [] (n.deep + 1) (cnt + 1) [] with
  | none => rfl
  | some x => obtain ⟨t, ks, r⟩ := x; rfl
/-- At the head of the loop over an element's inside. -/
structure KQl (E0 : Option (List Nod × Bs)) (w wr : World) (B rb nb : Nat) (m : Int) (l : Value) (deep : Int) (nm : Bs) (va : Value) (ns : List Nod) (n : Nod) (f g : Nat) (z t : Bs) (kids : List Nod) (l2 : Value) : Prop where
  eq : E0 = clos n (kidsQ g z t (deep + 1) (ns.length + 1 + kids.length) kids)
  fuel : 2 * z.length + 1 ≤ g
  gf : g ≤ f
  len : t.length + z.length ≤ 4096
  c : CRl w wr B rb nb m l deep nm va z l2 (ns ++ n :: kids)
  cnt : ns.length + 1 + kids.length ≤ 200
/-- Behind it. -/
structure KRl (E0 : Option (List Nod × Bs)) (w wr : World) (B rb nb : Nat) (m : Int) (l : Value) (deep : Int) (nm : Bs) (va : Value) (ns : List Nod) (n : Nod) (z t : Bs) (kids : List Nod) (l2 : Value) : Prop where
  eq : E0 = closeP n t kids z
  len : t.length + z.length ≤ 4096
  c : CRl w wr B rb nb m l deep nm va z l2 (ns ++ n :: kids)
  cnt : ns.length + 1 + kids.length ≤ 200
/-- The node is appended. -/
theorem CRl.start {w wc w7 : World} {B rb nb F : Nat} {m : Int} {s0 : Bs} {deep : Int} {nm : Bs} {l va l1 : Value} {y : Bs} {ps : List Par} {ns : List Nod} {s : ByteArray} (hb : BRl w wc rb nb F s0 deep nm l va y ps) (hB : 0 < B) (hBw : B ≤ w.heap.size)
    (hno : ONod w B l ns) (hrw : Rd w rb s l) (hm : Mx w m) (hnl : nm.length ≤ 4096) (xs : List (Nod × Value)) (h1 : xs.map Prod.fst = ns) (h3 : ∀ x ∈ xs, OPar wc B x.2 x.1.attrs) (o : Obj)
    (ho : w7.ownsRow B 40 4 l1 (ns.length + 1) (xs.flatMap nodCells ++ nodCells (⟨deep, nm, ps, []⟩, va))) (hg : (wc.alloc o).grownBy w7 l.ownBlock) (hat : l1.ownBlock = l.ownBlock ∨ l1.ownBlock = some (wc.alloc o).heap.size) :
    CRl w (w7.setCell ⟨rb, 1, none⟩ l1) B rb nb m l deep nm va y l1 (ns ++ [⟨deep, nm, ps, []⟩]) ∧ Rd w7 rb ⟨y.toArray⟩ l := by
  have hnoc : ONod wc B l ns := hno.stp hrw hb.grown
  have hbb : Below wc.heap.size wc (wc.alloc o) := (Below.refl _ _).alloc (Nat.le_refl _) _
  have hst := append_step hnoc xs h1 h3 hbb ⟨deep, nm, ps, []⟩ va ((hb.own.mono hBw).below hbb) ⟨hnl, by simp⟩ ho hg hat
  have hlt := hb.rlt
  have hnbc := blk_lt hb.box
  have hrow : ∀ k, l.ownBlock = some k → k < w.heap.size := fun k hk => (hno.row k hk).2
  have hnb := hb.nb
  have hrn : l.ownBlock ≠ some rb := hno.notRd hrw
  have hr7 : Rd w7 rb ⟨y.toArray⟩ l := by
    unfold Rd
    rw [hst.2.1.block _ hb.rd.lt (fun e => hrn e.symm)]; exact hb.rd
  have hb7 : w7.heap[nb]? = some (nodO deep nm va) := by
    rw [hst.2.1.block _ hnbc (fun e => by have := hrow nb e.symm; omega)]; exact hb.box
  have hne1 : l1.ownBlock ≠ some nb := by
    refine hst.2.2.1.ne (fun e => by have := hrow nb e; omega) hnbc
  have hsg := setCell_grown w7 rb 1 l1
  refine ⟨⟨?_, hst.1.grown hsg hr7.notPar (.inr (hst.1.notRd hr7)), ?_, ?_, ?_, hne1, ?_⟩, hr7⟩
  · exact setCell_same hr7 1 l1
  · have f1 : Fr w wc rb l.ownBlock := Fr.of hb.grown
    exact ⟨hst.2.1.os.trans f1.os, hst.2.1.tape.trans f1.tape, hst.2.1.output.trans f1.output, by rw [setCell_size]; exact Nat.le_trans f1.size hst.2.1.size, fun k hk h1 h2 => by
      rw [Below.heap_setCell _ _ _ _ h1, hst.2.1.block k (Nat.lt_of_lt_of_le hk f1.size) h2]; exact f1.block k hk h1 h2⟩
  · exact AtB.trans (AtB.refl w l) hst.2.2.1 hb.grown.size
  · rw [Below.heap_setCell _ _ _ _ (nod_ne_rd hb7 hr7)]; exact hb7
  · have hmc : Mx wc m := hm.stp hrw hb.grown
    have h0 : ¬ (0 = rb) := fun e => hrw.ne0 hm e.symm
    have h7 : Mx w7 m := grown_cell hst.2.1 (fun e => by have := (hno.row 0 e.symm).1; omega) hmc
    show (w7.setCell _ _).cell? _ = _
    rw [World.cell?_of_block (Below.heap_setCell _ _ _ _ h0)]; exact h7
theorem bytes_of (s : ByteArray) : s = ⟨s.data.toList.toArray⟩ := by cases s; simp
theorem str_app (a b : Bs) : (⟨a.toArray⟩ : ByteArray) ++ ⟨b.toArray⟩ = ⟨(a ++ b).toArray⟩ := by
  rw [bytes_of ((⟨a.toArray⟩ : ByteArray) ++ ⟨b.toArray⟩), Joins.data_append]
theorem has_take (z T : Bs) : Lib.hasPrefix z T = true ↔ z.take T.length = T := by
  unfold Lib.hasPrefix
  rw [List.isPrefixOf_iff_prefix, List.prefix_iff_eq_take]
  exact eq_comm
/-- Behind an element's name at its end. -/
def closeP2 (n : Nod) (t : Bs) (kids : List Nod) (y : Bs) : Option (List Nod × Bs) :=
  match pre1 62 y with
  | none => none
  | some r =>
    match plainS (trimB t) with
    | none => none
    | some tx => some ({ n with text := trimB tx } :: kids, r)
theorem closeP_yes {n : Nod} {t : Bs} {kids : List Nod} {z : Bs} (h : Lib.hasPrefix z (60 :: 47 :: n.name) = true) : closeP n t kids z = closeP2 n t kids (dropW blankB (z.drop (60 :: 47 :: n.name).length)) := by
  have h1 := (has_take _ _).1 h
  rw [show (60 :: 47 :: n.name).length = 2 + n.name.length from by simp; omega] at *
  unfold closeP
  rw [if_pos h1]; rfl
theorem closeP_no {n : Nod} {t : Bs} {kids : List Nod} {z : Bs} (h : Lib.hasPrefix z (60 :: 47 :: n.name) = false) : closeP n t kids z = none := by
  unfold closeP
  rw [if_neg]
  intro h1
  have := (has_take z (60 :: 47 :: n.name)).2 (by rw [show (60 :: 47 :: n.name).length = 2 + n.name.length from by simp; omega]; exact h1)
  rw [h] at this; cases this
/-- The text is written into the node. -/
theorem CRl.text {w wr : World} {B rb nb : Nat} {m : Int} {l : Value} {deep : Int} {nm : Bs} {va : Value} {y : Bs} {ns : List Nod} {n : Nod} {kids : List Nod} {gb k cap : Nat} (h : CRl w wr B rb nb m l deep nm va y (.slice (some ⟨gb, 0, none⟩) k cap) (ns ++ n :: kids)) (hB : 0 < B) :
    wr.cell? ⟨gb, ns.length * 4 + 3, none⟩ = some (.string ⟨n.text.toArray⟩) ∧ wr.frozen? ⟨gb, ns.length * 4 + 3, none⟩ = false ∧
    ∀ tx : Bs, tx.length ≤ 4096 → CRl w (wr.setCell ⟨gb, ns.length * 4 + 3, none⟩ (.string ⟨tx.toArray⟩)) B rb nb m l deep nm va y (.slice (some ⟨gb, 0, none⟩) k cap) (ns ++ { n with text := tx } :: kids) := by
  have hgb := h.own.row gb rfl
  have hgr : gb ≠ rb := fun e => h.own.notRd h.rd (by rw [← e]; rfl)
  have hgn : nb ≠ gb := fun e => h.nbne (by rw [e]; rfl)
  refine ⟨?_, ?_, fun tx htx => ?_⟩
  · obtain ⟨A', c', hvv, -, -, hr⟩ := h.own.reads
    obtain ⟨a, va, ha, -, -, -, -, h3, -⟩ := hr ns.length (by simp)
    injection hvv with hA' _ _
    rw [← hA'] at ha
    injection ha with ha
    subst ha
    rw [addr_add] at h3
    simpa using h3
  · obtain ⟨⟨zs, -, hz, -⟩, -⟩ := h.own
    have hk : k = (ns ++ n :: kids).length := by
      obtain ⟨A', c', e⟩ := own_slice hz
      injection e
    subst hk
    exact hz.frozenAt _
  · have hst := h.own.stored ns.length (by simp) tx htx
    have hset : (ns ++ n :: kids).set ns.length { (ns ++ n :: kids)[ns.length]'(by simp) with text := tx } = ns ++ { n with text := tx } :: kids := by
      simp
    rw [hset] at hst
    refine ⟨h.rd.other _ (fun e => hgr e.symm) _, hst.1, ?_, h.at_, ?_, h.nbne, ?_⟩
    · have hg : Fr wr _ rb (Value.slice (some ⟨gb, 0, none⟩) k cap).ownBlock := Fr.ofRow hst.2
      exact h.fr.trans hg h.at_
    · rw [Below.heap_setCell _ _ _ _ hgn]; exact h.box
    · show (wr.setCell _ _).cell? _ = _
      rw [World.cell?_of_block (Below.heap_setCell _ _ _ _ (by show 0 ≠ gb; omega))]; exact h.mx
end Go.Proofs.YtffcapkjfmkkaaaDoor
