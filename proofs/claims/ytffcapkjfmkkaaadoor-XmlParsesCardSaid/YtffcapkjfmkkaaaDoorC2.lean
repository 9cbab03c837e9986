/- Lists of attributes and of elements that a call owns: it may append to them, and write a text. -/
import Derived.Test.YtffcapkjfmkkaaaDoorC
import Derived.Maps.AppendAt
import Derived.Deep.AppendLies
namespace Go.Proofs.YtffcapkjfmkkaaaDoor
open Go.RowKit
def parCells (p : Par) : List Value := [.string ⟨p.name.toArray⟩, .string ⟨p.value.toArray⟩, .bool p.has]
def nodCells (x : Nod × Value) : List Value := [.int .i64 x.1.deep, .string ⟨x.1.name.toArray⟩, x.2, .string ⟨x.1.text.toArray⟩]
def OPar (w : World) (B : Nat) (v : Value) (ps : List Par) : Prop :=
  w.ownsRow B 43 3 v ps.length (ps.flatMap parCells) ∧ ∀ p ∈ ps, p.name.length ≤ 4096 ∧ p.value.length ≤ 4096
def ONod (w : World) (B : Nat) (v : Value) (ns : List Nod) : Prop :=
  (∃ xs : List (Nod × Value), xs.map Prod.fst = ns ∧ w.ownsRow B 40 4 v ns.length (xs.flatMap nodCells) ∧ ∀ x ∈ xs, OPar w B x.2 x.1.attrs) ∧
    ∀ n ∈ ns, n.name.length ≤ 4096 ∧ n.text.length ≤ 4096
theorem OPar.nil (w : World) (B : Nat) : OPar w B (.slice none 0 0) [] := ⟨World.ownsRow_nil .., by simp⟩
theorem ONod.nil (w : World) (B : Nat) : ONod w B (.slice none 0 0) [] := ⟨⟨[], rfl, World.ownsRow_nil .., by simp⟩, by simp⟩
theorem own_at {w : World} {B e size n : Nat} {v : Value} {xs : List Value} (h : w.ownsRow B e size v n xs) {k : Nat} (hk : v.ownBlock = some k) : ∃ cs, w.heap[k]? = some (.cells cs e (0, 0)) := by
  rcases h.2 with ⟨rfl, _⟩ | ⟨g, cap, cur, rfl, _, hh, _⟩
  · simp [Value.ownBlock] at hk
  · have : g = k := by simpa [Value.ownBlock] using hk
    subst this; exact ⟨cur, hh⟩
/-- The row that is written, if there is one, is none of attributes. -/
def NotPar (w : World) (row : Option Nat) : Prop := ∀ k, row = some k → ∃ cs t fr, w.heap[k]? = some (.cells cs t fr) ∧ t ≠ 43
theorem NotPar.none (w : World) : NotPar w none := fun _ h => by cases h
theorem OPar.grown {w w' : World} {B : Nat} {v : Value} {ps : List Par} (h : OPar w B v ps) {row : Option Nat} (hg : w.grownBy w' row) (hr : NotPar w row) : OPar w' B v ps := by
  refine ⟨h.1.kept hg ?_, h.2⟩
  cases hv : v.ownBlock with
  | none => exact .inl rfl
  | some k =>
    refine .inr fun e => ?_
    obtain ⟨cs, hc⟩ := own_at h.1 hv
    obtain ⟨cs', t, fr, hc', hne⟩ := hr k e.symm
    rw [hc] at hc'
    injection hc' with hc'
    injection hc' with _ ht
    exact hne ht.symm
theorem ONod.grown {w w' : World} {B : Nat} {v : Value} {ns : List Nod} (h : ONod w B v ns) {row : Option Nat} (hg : w.grownBy w' row) (hr : NotPar w row) (hv : v.ownBlock = none ∨ v.ownBlock ≠ row) : ONod w' B v ns := by
  obtain ⟨⟨xs, h1, h2, h3⟩, h4⟩ := h
  exact ⟨⟨xs, h1, h2.kept hg hv, fun x hx => (h3 x hx).grown hg hr⟩, h4⟩
theorem below_grown {w w' : World} (h : Below w.heap.size w w') : w.grownBy w' none := ⟨h.os, h.tape, h.output, h.size, fun i hi _ => h.block i hi⟩
theorem OPar.below {w w' : World} {B : Nat} {v : Value} {ps : List Par} (h : OPar w B v ps) (hb : Below w.heap.size w w') : OPar w' B v ps := h.grown (below_grown hb) (NotPar.none w)
theorem ONod.below {w w' : World} {B : Nat} {v : Value} {ns : List Nod} (h : ONod w B v ns) (hb : Below w.heap.size w w') : ONod w' B v ns := by
  refine h.grown (below_grown hb) (NotPar.none w) ?_
  cases v.ownBlock <;> simp
theorem OPar.mono {w : World} {B B' : Nat} {v : Value} {ps : List Par} (h : OPar w B v ps) (hb : B' ≤ B) : OPar w B' v ps := by
  refine ⟨⟨h.1.1, ?_⟩, h.2⟩
  rcases h.1.2 with h' | ⟨g, cap, cur, hv, hB, r⟩
  · exact .inl h'
  · exact .inr ⟨g, cap, cur, hv, by omega, r⟩
theorem ONod.notPar {w : World} {B : Nat} {v : Value} {ns : List Nod} (h : ONod w B v ns) : NotPar w v.ownBlock := fun k hk => by
  obtain ⟨⟨xs, h1, h2, h3⟩, h4⟩ := h
  obtain ⟨cs, hc⟩ := own_at h2 hk
  exact ⟨cs, _, _, hc, by decide⟩
theorem flat_len {α : Type} (f : α → List Value) (m : Nat) (hf : ∀ x, (f x).length = m) (xs : List α) : (xs.flatMap f).length = xs.length * m := by
  induction xs with
  | nil => simp
  | cons x xs ih => simp [List.flatMap_cons, hf, ih, Nat.succ_mul]; omega
theorem flat_get {α : Type} (f : α → List Value) (m : Nat) (hf : ∀ x, (f x).length = m) (xs : List α) (i j : Nat) (hi : i < xs.length) (hj : j < m) : (xs.flatMap f)[i * m + j]? = (f xs[i])[j]? := by
  induction xs generalizing i with
  | nil => simp at hi
  | cons x xs ih =>
    rw [List.flatMap_cons]
    cases i with
    | zero => rw [Nat.zero_mul, Nat.zero_add, List.getElem?_append_left (by rw [hf]; exact hj)]; rfl
    | succ i =>
      rw [List.getElem?_append_right (by rw [hf, Nat.succ_mul]; omega), hf, show (i + 1) * m + j - m = i * m + j from by rw [Nat.succ_mul]; omega]
      exact ih i (by simpa using hi)
theorem addr_add (g j : Nat) : (⟨g, 0, none⟩ : Addr).add j = ⟨g, j, none⟩ := by unfold Addr.add; split <;> simp_all
theorem OPar.reads {w : World} {B : Nat} {v : Value} {ps : List Par} (h : OPar w B v ps) : RPar w v ps := by
  obtain ⟨h1, h2⟩ := h
  rcases h1.2 with ⟨rfl, h0⟩ | ⟨g, cap, cur, hv, hB, hh, hn, hm, hs, ht⟩
  · have : ps = [] := List.eq_nil_of_length_eq_zero h0
    subst this
    exact ⟨none, 0, rfl, by simp, by simp, fun j hj => by simp at hj⟩
  · refine ⟨_, cap, hv, hn, by unfold maxLen at hm; omega, fun j hj => ⟨_, rfl, ?_⟩⟩
    have key : ∀ i, i < 3 → w.cell? ⟨g, j * 3 + i, none⟩ = (parCells ps[j])[i]? := fun i hi => by
      have := h1.cells (g := g) (by rw [hv]; rfl) (j * 3 + i)
      rw [flat_get parCells 3 (fun _ => rfl) ps j i hj hi] at this
      cases hx : (parCells ps[j])[i]? with
      | none => simp [parCells] at hx; omega
      | some u => have := this u hx; rwa [addr_add] at this
    have k0 := key 0 (by omega)
    have k1 := key 1 (by omega)
    have k2 := key 2 (by omega)
    have hb := h2 ps[j] (List.getElem_mem hj)
    rw [addr_add]
    unfold maxLen
    exact ⟨k0, k1, k2, by omega, by omega⟩
theorem ONod.reads {w : World} {B : Nat} {v : Value} {ns : List Nod} (h : ONod w B v ns) : RNod w v ns := by
  obtain ⟨⟨xs, rfl, h1, h3⟩, h2⟩ := h
  rcases h1.2 with ⟨rfl, h0⟩ | ⟨g, cap, cur, hv, hB, hh, hn, hm, hs, ht⟩
  · have : xs = [] := by simpa using h0
    subst this
    exact ⟨none, 0, rfl, by simp, by simp, fun j hj => by simp at hj⟩
  · refine ⟨_, cap, hv, hn, by unfold maxLen at hm; omega, fun j hj => ?_⟩
    have hjx : j < xs.length := by simpa using hj
    have key : ∀ i, i < 4 → w.cell? ⟨g, j * 4 + i, none⟩ = (nodCells xs[j])[i]? := fun i hi => by
      have := h1.cells (g := g) (by rw [hv]; rfl) (j * 4 + i)
      rw [flat_get nodCells 4 (fun _ => rfl) xs j i hjx hi] at this
      cases hx : (nodCells xs[j])[i]? with
      | none => simp [nodCells] at hx; omega
      | some u => have := this u hx; rwa [addr_add] at this
    have k0 := key 0 (by omega)
    have k1 := key 1 (by omega)
    have k2 := key 2 (by omega)
    have k3 := key 3 (by omega)
    have hb := h2 _ (List.getElem_mem hj)
    refine ⟨_, xs[j].2, rfl, ?_⟩
    rw [addr_add]
    rw [List.getElem_map] at hb ⊢
    unfold maxLen
    exact ⟨k0, k1, k2, (h3 _ (List.getElem_mem hjx)).reads, k3, by omega, by omega⟩
/-- Behind an append of one element. -/
theorem ONod.appended {w w' : World} {B : Nat} {v v' : Value} {ns : List Nod} (h : ONod w B v ns) (xs : List (Nod × Value)) (h1 : xs.map Prod.fst = ns) (h3 : ∀ x ∈ xs, OPar w B x.2 x.1.attrs)
    (n : Nod) (va : Value) (ha : OPar w B va n.attrs) (hn : n.name.length ≤ 4096 ∧ n.text.length ≤ 4096)
    (hg : w.grownBy w' v.ownBlock) (ho : w'.ownsRow B 40 4 v' (ns.length + 1) (xs.flatMap nodCells ++ nodCells (n, va))) : ONod w' B v' (ns ++ [n]) := by
  have hnp := h.notPar
  obtain ⟨-, h4⟩ := h
  refine ⟨⟨xs ++ [(n, va)], by simp [h1], ?_, ?_⟩, ?_⟩
  · rw [List.flatMap_append]; simpa using ho
  · intro x hx
    rcases List.mem_append.1 hx with hx | hx
    · exact (h3 x hx).grown hg hnp
    · simp at hx; subst hx; exact ha.grown hg hnp
  · intro m hm
    rcases List.mem_append.1 hm with hm | hm
    · exact h4 m hm
    · simp at hm; subst hm; exact hn
theorem OPar.appended {w w' : World} {B : Nat} {v v' : Value} {ps : List Par} (h : OPar w B v ps) (p : Par) (hp : p.name.length ≤ 4096 ∧ p.value.length ≤ 4096)
    (ho : w'.ownsRow B 43 3 v' (ps.length + 1) (ps.flatMap parCells ++ parCells p)) : OPar w' B v' (ps ++ [p]) := by
  refine ⟨?_, ?_⟩
  · rw [List.flatMap_append]; simpa using ho
  · intro m hm
    rcases List.mem_append.1 hm with hm | hm
    · exact h.2 m hm
    · simp at hm; subst hm; exact hp
theorem flat_set (xs : List (Nod × Value)) (k : Nat) (hk : k < xs.length) (t : Bs) : (xs.flatMap nodCells).set (k * 4 + 3) (.string ⟨t.toArray⟩) = (xs.set k ({ xs[k].1 with text := t }, xs[k].2)).flatMap nodCells := by
  induction xs generalizing k with
  | nil => simp at hk
  | cons x xs ih =>
    cases k with
    | zero => simp [List.flatMap_cons, nodCells]
    | succ k =>
      rw [List.flatMap_cons, List.set_append, if_neg (by simp [nodCells]; omega)]
      simp only [List.set_cons_succ, List.flatMap_cons, List.getElem_cons_succ]
      rw [show (k + 1) * 4 + 3 - (nodCells x).length = k * 4 + 3 from by simp [nodCells]; omega, ih k (by simpa using hk)]
theorem ONod.stored {w : World} {B g n cap : Nat} {ns : List Nod} (h : ONod w B (.slice (some ⟨g, 0, none⟩) n cap) ns) (k : Nat) (hk : k < ns.length) (t : Bs) (ht : t.length ≤ 4096) :
    ONod (w.setCell ⟨g, k * 4 + 3, none⟩ (.string ⟨t.toArray⟩)) B (.slice (some ⟨g, 0, none⟩) n cap) (ns.set k { ns[k] with text := t }) ∧ w.grownBy (w.setCell ⟨g, k * 4 + 3, none⟩ (.string ⟨t.toArray⟩)) (some g) := by
  have hnp := h.notPar
  obtain ⟨⟨xs, rfl, h2, h3⟩, h4⟩ := h
  have hn : n = (xs.map Prod.fst).length := by
    rcases h2.2 with ⟨hv, _⟩ | ⟨g', cap', cur, hv, _⟩
    · cases hv
    · injection hv
  subst hn
  have hkx : k < xs.length := by simpa using hk
  obtain ⟨s1, s2⟩ := h2.stored (k * 4 + 3) (.string ⟨t.toArray⟩)
  refine ⟨⟨⟨xs.set k ({ xs[k].1 with text := t }, xs[k].2), ?_, ?_, ?_⟩, ?_⟩, s2⟩
  · rw [List.map_set, List.getElem_map]
  · rw [List.length_set, ← flat_set xs k hkx]; exact s1
  · intro x hx
    rcases List.mem_or_eq_of_mem_set hx with hx | hx
    · exact (h3 x hx).grown s2 hnp
    · subst hx; exact (h3 xs[k] (List.getElem_mem hkx)).grown s2 hnp
  · intro m hm
    rcases List.mem_or_eq_of_mem_set hm with hm | hm
    · exact h4 m hm
    · subst hm; exact ⟨(h4 _ (List.getElem_mem hk)).1, ht⟩
end Go.Proofs.YtffcapkjfmkkaaaDoor
