/- Lemmas for the statements of this seat, part 7: contracts of functions of the program and of the references, and plain facts on lists of bytes. -/
import Derived.Test.YtffcapkjfmkkaaaGreatDoorQ6
import Derived.Test.YtffcapkjfmkkaaaGreatDoorQ5
import Derived.Test.YtffcapkjfmkkaaaGreatDoorRows
import Derived.Deep.Slices
import Derived.Deep.Fields
import Derived.ChangeSame
import Derived.IntWalk
import Derived.Test.YtffcapkjfmkkaaaGreatDoorTie
import Derived.Test.YtffcapkjfmkkaaaGreatDoorCards
import Derived.ProofKit
import Derived.OpenShut
import Derived.LaidMore
import Derived.Lay
import Derived.SevenTiedAt
import Derived.Stop.Joined
import Derived.HandedShaped
import Derived.Shelf.Vars
import Derived.Carry
import Derived.Deep.DeepHandedRow
namespace Go.Proofs.YtffcapkjfmkkaaaGreatDoor
open Go.RowKit
set_option maxRecDepth 100000 in
set_option maxHeartbeats 8000000 in
theorem pPrint_walk (u : Value) (ns : List Nod) (w : World) (hp : RNod w u ns) (hpl : ∀ n ∈ ns, n.attrs.length < maxLen) (hc : checkB ns = true → costs ns ≤ 500000000) :
    Calls Tryz.prog 10 #[u] w (PrPost w ns) := by
  have HP := Lib.hid hp
  cases hb : checkB ns with
  | false =>
    have HB := Lib.hid hb
    go_enter Tryz.func10, Tryz.ntmps10
    go_wp2_with fail
    refine (pCheck_val u ns w HP.out hpl false hb).mono ?_
    clear hb
    rintro e w1 ⟨rfl, hb1⟩
    have HB1 := Lib.hid hb1
    have h130 : chkI false = 130 := rfl
    rw [h130]
    go_wp2_with fail
    go_ret2
    unfold PrPost
    rw [if_neg (by rw [HB.out]; decide)]
    exact ⟨rfl, HB1.out⟩
  | true =>
    have HCO := Lib.hid (hc hb)
    have HF := Lib.hid (check_facts hb)
    have HLE := Lib.hid (prS_len ns hb)
    have HPS := Lib.hid (prS_all ns hb)
    have HB := Lib.hid hb
    have h0 : chkI true = 0 := rfl
    obtain ⟨A, c, rfl, -, hm, -⟩ := HP.out
    have hl200 := HF.out.2.1
    go_enter Tryz.func10, Tryz.ntmps10
    go_wp2_with fail
    refine (pCheck_val _ ns w HP.out hpl true hb).mono ?_
    clear hb
    rintro e w1 ⟨rfl, hb1⟩
    have HB1 := Lib.hid hb1
    rw [h0]
    clear hb1 hc hp
    have hfresh : Bdr w.heap.size w1.heap.size [] (w1.alloc (.cells #[.pointer none, .slice none 0 0] 53)) :=
      .inl ⟨HB1.out.size, .slice none 0 0, heap_alloc_new w1 _, World.ownsRow_nil _ _ _ _, by simp [Value.ownBlock]⟩
    have hba : Below w.heap.size w (w1.alloc (.cells #[.pointer none, .slice none 0 0] 53)) := HB1.out.alloc HB1.out.size _
    go_upto_block 0 with (go_at_call 21; refine (bString2 w.heap.size w1.heap.size [] prologB _ hfresh (by decide) hba.size).mono ?_; rintro e w2 ⟨rfl, hd2, hb2, hk2⟩; have HPR := Lib.hid (Pr.mk (hba.trans hb2) hd2 (World.ownsRow_nil w2 w.heap.size 9 1) : Pr w w2 w1.heap.size (.slice none 0 0) ([] ++ prologB) []); clear hd2 hb2 hk2)
    clear hfresh hba
    rw [List.nil_append] at HPR
    obtain ⟨T, hT⟩ : ∃ T, T = prologB ++ prS ns [] := ⟨_, rfl⟩
    have HT := Lib.hid hT
    have HTL := Lib.hid (show T.length ≤ 500000039 by rw [hT]; have := HLE.out; have := HCO.out; omega)
    clear hT
    generalize w1.heap.size = bb at *
    go_wp2_with fail
    go_loopw [6, 7, 8, 10, 20] (fun o _ _ _ i wr => ∃ (k : Nat) (out : Bs) (st : List Bs), k ≤ ns.length ∧ i = .int .i64 (k : Nat) ∧ Pr w wr bb o out st ∧ T = out ++ prS (ns.drop k) st ∧ st.length ≤ k) (fun _ _ _ _ i _ => ns.length - (intOf i).toNat)
    case atStart => exact ⟨0, prologB, [], by omega, rfl, HPR.out, HT.out, Nat.le_refl _⟩
    case round =>
      obtain ⟨k, out, st, hk, rfl, hpr, ht, hsk⟩ := hrel
      have HPR2 := Lib.hid hpr
      have HT2 := Lib.hid ht
      clear hpr ht HPR
      by_cases hlt : k < ns.length
      · go_upto_block 1 with (fail)
        refine round_piece _ _ _ _ _ _ _ _ _ _ _ _ _ _ _ _ _ _ _ _ _ _ _ _ _ _ _ _ _ _ _ _ _ _ _ _ _ _ _ _ _ _ _ _ _ _ _ _ _ _ _ _ _ _ _ _ _ _ _ _ _ _ _ _ _ _ _ _ _ _ _ _ _ _ _ _ _ _ _ _ _ _ _ _ _ _ _ _ _ _ _ _ _ _ _ _ _ _ _ _ _ _ _ _ _ _ _ _ _ _ _ w wr bb A c ns T out st k hlt HP.out HF.out.2.2.2 hl200 HCO.out HTL.out HPR2.out HT2.out hsk ?_
        clear HPR2 HT2
        intro u6 u7 u8 u10 u22 u23 u24 u25 u26 u27 u28 u29 u30 u31 u32 u33 u34 u35 u36 u37 u38 u39 u40 u41 u42 u43 u44 u45 u46 u47 u48 u49 u50 u51 u52 u53 u54 u55 u56 u57 u58 u59 u60 u61 u62 u63 u64 u65 u66 u67 u68 u69 u70 u71 u72 u73 u74 u75 u76 u77 u78 u79 u80 u81 u82 u83 u84 u85 u86 u87 u88 u89 u90 u91 u92 u93 u94 u95 u96 u97 w4 out st hpr ht hsk
        have HPR2 := Lib.hid hpr
        have HT2 := Lib.hid ht
        clear hpr ht
        go_wp2_with fail
        exact ⟨⟨k + 1, out, st, by omega, by go_num, HPR2.out, HT2.out, hsk⟩, by simp [intOf]; omega⟩
      · obtain rfl : k = ns.length := by omega
        obtain ⟨a, cap, rfl⟩ := HPR2.out.len
        go_upto_block 6 with (fail)
        refine close_piece _ _ _ _ _ _ _ _ _ _ _ _ _ _ _ _ _ _ _ _ _ _ _ _ _ _ _ _ _ _ _ _ _ _ _ _ _ _ _ _ _ _ _ _ _ _ _ _ _ _ _ _ _ _ _ _ _ _ _ _ _ _ _ _ _ _ _ _ _ _ _ _ _ _ _ _ _ _ _ _ _ _ _ _ _ _ _ _ _ _ _ _ _ _ _ _ _ _ _ _ _ _ _ _ _ _ _ _ _ _ _ _ w wr bb st.length cap a T out st rfl (by omega) HTL.out HPR2.out (by have := HT2.out; rwa [List.drop_eq_nil_of_le (Nat.le_refl _), prS] at this) ?_
        clear HPR2 HT2
        intro u11 u102 u103 u104 u105 u106 u107 u108 u109 u110 u111 u112 w4 hpr
        have HPR2 := Lib.hid hpr
        clear hpr
        go_wp2_with fail
        refine (Builder_String_any w.heap.size bb T w4 HPR2.out.d HPR2.out.b.size).mono ?_
        rintro e w5 ⟨rfl, hb5⟩
        have HB5 := Lib.hid (HPR2.out.b.trans hb5)
        clear hb5
        go_wp2_with fail
        go_ret2
        unfold PrPost
        rw [if_pos HB.out]
        refine ⟨?_, HB5.out⟩
        rw [prB, ← HPS.out, ← HT.out]
        rfl
end Go.Proofs.YtffcapkjfmkkaaaGreatDoor
namespace Go.Proofs.YtffcapkjfmkkaaaGreatDoor
open Go.RowKit Go.ChangeShapes Go.WideShapes Go.Deep
section
variable {H : Type} {enc : TypeId × Value → H} {P : Program} {w : World} {base : Nat} {spare : Nat → Bool} {held : Bool}
theorem open_slice_fields {t e : TypeId} {fs : Array Field} {fuel : Nat} {cs : List Value} {x : DataW H × List MemPlace} (ht : P.underlying t = some (.slice e)) (he : P.underlying e = some (.struct fs))
    (hone : oneCellFields P fs = true) (hC : P.cellsOf e = fs.size) (h : DataW.trod enc P w base spare held fuel t cs = some x) :
    (cs = [.slice none 0 0] ∧ x = (.nil, [])) ∨
    ∃ (a : Addr) (len cap m : Nat) (D : Nat → DataW H) (Pl : Nat → List MemPlace), cs = [.slice (some a) len cap] ∧ base ≤ a.block ∧ len ≤ cap ∧ cap ≤ maxLen ∧ m = (if spare a.block then cap else len) ∧
      x = (.slice ((List.range len).map D) ((List.range (m - len)).map fun j => D (len + j)), MemPlace.row a (m * fs.size) ++ (List.range m).flatMap Pl) ∧
      ∀ i, i < m → ∃ (ys : List (DataW H × List MemPlace)) (n : Nat), D i = .agg (ys.map (·.1)) ∧ Pl i = ys.flatMap (·.2) ∧ ys.length = fs.size ∧
        ∀ (j : Nat) (f : Field), fs[j]? = some f → ∃ (v : Value) (y : DataW H × List MemPlace), w.cell? (a.add (i * fs.size + j)) = some v ∧ ys[j]? = some y ∧ DataW.trod enc P w base spare held n f.type [v] = some y := by
  rcases open_slice ht h with h0 | ⟨a, len, cap, m, n, D, Pl, hcs, hb, hl, hm, hmm, hx, hi⟩
  · exact .inl h0
  · refine .inr ⟨a, len, cap, m, D, Pl, hcs, hb, hl, hm, hmm, by rw [hC] at hx; exact hx, fun i him => ?_⟩
    obtain ⟨cs', hc, ht'⟩ := hi i him
    rw [hC] at hc
    obtain ⟨ys, n', hn', hy, hlen, hyl, hf⟩ := DataW.trod_struct he ht'
    obtain ⟨_, hcl, hat⟩ := World.cells?_some hc
    simp only [Prod.mk.injEq] at hy
    refine ⟨ys, n', hy.1, hy.2, hyl, fun j f hj => ?_⟩
    obtain ⟨ho, hk⟩ := hone_of hone j f hj
    have hjl : j < fs.size := (Array.getElem?_eq_some_iff.1 hj).1
    have hcell := hat j hjl
    have hv : cs'[j]? = some (cs'[j]'(by omega)) := List.getElem?_eq_getElem (by omega)
    have h1 := hf j f hj
    rw [ho, hk] at h1
    have hone' : (cs'.drop j).take 1 = [cs'[j]'(by omega)] := by
      rw [List.drop_eq_getElem_cons (by omega)]
      rfl
    rw [hone'] at h1
    have hys : ys[j]? = some (ys[j]'(by omega)) := List.getElem?_eq_getElem (by omega)
    refine ⟨_, _, ?_, hys, h1.trans hys⟩
    rw [← Go.Deep.add_add, hcell, hv]
end
theorem add_fld (a : Addr) (i j : Nat) : a.add (i + (j + 1)) = ⟨(a.add i).block, (a.add i).off + (j + 1), none⟩ := by
  unfold Addr.add
  rw [if_neg (by omega)]
  split
  · subst i; simp
  · simp; omega
theorem costPs_map {H : Type} (L : List Nat) (p : Nat → Par) (D : Nat → DataW H) (h : ∀ j ∈ L, costP (p j) ≤ 6 * Rows.uptoBulk (D j)) : costPs (L.map p) ≤ 6 * Rows.uptoBulkAll (L.map D) := by
  induction L with
  | nil => simp [costPs, Rows.uptoBulkAll]
  | cons j L ih =>
    have := h j (by simp)
    have := ih fun k hk => h k (by simp [hk])
    simp only [List.map_cons, costPs, Rows.uptoBulkAll]; omega
theorem costs_map {H : Type} (L : List Nat) (p : Nat → Nod) (D : Nat → DataW H) (h : ∀ j ∈ L, costN (p j) ≤ 6 * Rows.uptoBulk (D j)) : costs (L.map p) ≤ 6 * Rows.uptoBulkAll (L.map D) := by
  induction L with
  | nil => simp [costs, Rows.uptoBulkAll]
  | cons j L ih =>
    have := h j (by simp)
    have := ih fun k hk => h k (by simp [hk])
    simp only [List.map_cons, costs, Rows.uptoBulkAll]; omega
section
variable {H : Type} {enc : TypeId × Value → H} {W : World}
theorem open_pars {n : Nat} {cs : List Value} {x : DataW H × List MemPlace} (h : DataW.trod enc Tryz.prog W 0 (fun _ => true) true n 44 cs = some x) :
    ∃ v ps, cs = [v] ∧ RPar W v ps ∧ costPs ps ≤ 6 * Rows.uptoBulk x.1 := by
  rcases open_slice_fields Tryz.underlying44 Tryz.underlying43 (by kernel_rfl) (by kernel_rfl) h with ⟨rfl, rfl⟩ | ⟨a, len, cap, m, D, Pl, rfl, -, hl, hm, hmm, rfl, hi⟩
  · exact ⟨_, [], rfl, ⟨none, 0, rfl, by simp, by simp, fun j hj => by simp at hj⟩, by simp [costPs]⟩
  · simp only [if_true] at hmm
    subst hmm
    have each : ∀ i, i < m → ∃ p : Par, (W.cell? (a.add (i * 3)) = some (.string ⟨p.name.toArray⟩) ∧ W.cell? (a.add (i * 3 + 1)) = some (.string ⟨p.value.toArray⟩) ∧ W.cell? (a.add (i * 3 + 2)) = some (.bool p.has) ∧ p.name.length ≤ maxLen ∧ p.value.length ≤ maxLen) ∧ costP p ≤ 6 * Rows.uptoBulk (D i) := by
      intro i him
      obtain ⟨ys, n', hD, -, hyl, hf⟩ := hi i him
      obtain ⟨v0, y0, c0, e0, t0⟩ := hf 0 _ rfl
      obtain ⟨v1, y1, c1, e1, t1⟩ := hf 1 _ rfl
      obtain ⟨v2, y2, c2, e2, t2⟩ := hf 2 _ rfl
      obtain ⟨s0, h0, rfl, hs0⟩ := DataW.trod_string Tryz.underlying9 t0
      obtain ⟨s1, h1, rfl, hs1⟩ := DataW.trod_string Tryz.underlying9 t1
      obtain ⟨b, h2, rfl⟩ := DataW.trod_bool Tryz.underlying4 t2
      injection h0 with h0; subst h0
      injection h1 with h1; subst h1
      injection h2 with h2; subst h2
      match ys, hyl, e0, e1, e2 with
      | [z0, z1, z2], _, e0, e1, e2 =>
        simp at e0 e1 e2
        subst e0; subst e1; subst e2
        refine ⟨⟨s0.data.toList, s1.data.toList, b⟩, ⟨by simpa using c0, by simpa using c1, by simpa using c2, by simpa [size_list] using hs0, by simpa [size_list] using hs1⟩, ?_⟩
        rw [hD]
        simp [Rows.uptoBulk, Rows.uptoBulkAll, costP]; omega
    obtain ⟨p, hp⟩ := @choose_lt Par ⟨⟨[], [], true⟩⟩ _ _ each
    refine ⟨_, (List.range len).map p, rfl, ⟨some a, m, by simp, by simpa using hl, by simp; unfold maxLen at hm; omega, fun j hj => ⟨a, rfl, ?_⟩⟩, ?_⟩
    · have hj' : j < len := by simpa using hj
      obtain ⟨⟨q0, q1, q2, q3, q4⟩, -⟩ := hp j (by omega)
      have e : ((List.range len).map p)[j] = p j := by simp
      rw [e]
      rw [add_fld a (j * 3) 0] at q1
      rw [add_fld a (j * 3) 1] at q2
      exact ⟨q0, q1, q2, q3, q4⟩
    · have := costPs_map (List.range len) p D fun j hj => (hp j (by have := List.mem_range.1 hj; omega)).2
      simp only [Rows.uptoBulk]; omega
theorem open_nods {n : Nat} {cs : List Value} {x : DataW H × List MemPlace} (h : DataW.trod enc Tryz.prog W 0 (fun _ => true) true n 22 cs = some x) :
    ∃ v ns, cs = [v] ∧ RNod W v ns ∧ costs ns ≤ 6 * Rows.uptoBulk x.1 := by
  rcases open_slice_fields Tryz.underlying22 Tryz.underlying46 (by kernel_rfl) (by kernel_rfl) h with ⟨rfl, rfl⟩ | ⟨a, len, cap, m, D, Pl, rfl, -, hl, hm, hmm, rfl, hi⟩
  · exact ⟨_, [], rfl, ⟨none, 0, rfl, by simp, by simp, fun j hj => by simp at hj⟩, by simp [costs]⟩
  · simp only [if_true] at hmm
    subst hmm
    have each : ∀ i, i < m → ∃ p : Nod × Value, (W.cell? (a.add (i * 4)) = some (.int .i64 p.1.deep) ∧ W.cell? (a.add (i * 4 + 1)) = some (.string ⟨p.1.name.toArray⟩) ∧ W.cell? (a.add (i * 4 + 2)) = some p.2 ∧ RPar W p.2 p.1.attrs ∧ W.cell? (a.add (i * 4 + 3)) = some (.string ⟨p.1.text.toArray⟩) ∧ p.1.name.length ≤ maxLen ∧ p.1.text.length ≤ maxLen) ∧ costN p.1 ≤ 6 * Rows.uptoBulk (D i) := by
      intro i him
      obtain ⟨ys, n', hD, -, hyl, hf⟩ := hi i him
      obtain ⟨v0, y0, c0, e0, t0⟩ := hf 0 _ rfl
      obtain ⟨v1, y1, c1, e1, t1⟩ := hf 1 _ rfl
      obtain ⟨v2, y2, c2, e2, t2⟩ := hf 2 _ rfl
      obtain ⟨v3, y3, c3, e3, t3⟩ := hf 3 _ rfl
      obtain ⟨d, h0, rfl, -⟩ := DataW.trod_int Tryz.underlying3 t0
      obtain ⟨s1, h1, rfl, hs1⟩ := DataW.trod_string Tryz.underlying9 t1
      obtain ⟨va, ps, h2, hr, hco⟩ := open_pars t2
      obtain ⟨s3, h3, rfl, hs3⟩ := DataW.trod_string Tryz.underlying9 t3
      injection h0 with h0; subst h0
      injection h1 with h1; subst h1
      injection h2 with h2; subst h2
      injection h3 with h3; subst h3
      match ys, hyl, e0, e1, e2, e3 with
      | [z0, z1, z2, z3], _, e0, e1, e2, e3 =>
        simp at e0 e1 e2 e3
        subst e0; subst e1; subst e2; subst e3
        refine ⟨(⟨d, s1.data.toList, ps, s3.data.toList⟩, v2), ⟨by simpa using c0, by simpa using c1, by simpa using c2, hr, by simpa using c3, by simpa [size_list] using hs1, by simpa [size_list] using hs3⟩, ?_⟩
        rw [hD]
        simp [Rows.uptoBulk, Rows.uptoBulkAll, costN]; omega
    obtain ⟨p, hp⟩ := @choose_lt (Nod × Value) ⟨(⟨0, [], [], []⟩, .nilIface)⟩ _ _ each
    refine ⟨_, (List.range len).map fun j => (p j).1, rfl, ⟨some a, m, by simp, by simpa using hl, by simp; unfold maxLen at hm; omega, fun j hj => ⟨a, (p j).2, rfl, ?_⟩⟩, ?_⟩
    · have hj' : j < len := by simpa using hj
      obtain ⟨⟨q0, q1, q2, q3, q4, q5, q6⟩, -⟩ := hp j (by omega)
      have e : ((List.range len).map fun j => (p j).1)[j] = (p j).1 := by simp
      rw [e]
      rw [add_fld a (j * 4) 0] at q1
      rw [add_fld a (j * 4) 1] at q2
      rw [add_fld a (j * 4) 2] at q4
      exact ⟨q0, q1, q2, q3, q4, q5, q6⟩
    · have := costs_map (List.range len) (fun j => (p j).1) D fun j hj => (hp j (by have := List.mem_range.1 hj; omega)).2
      simp only [Rows.uptoBulk]; omega
end
end Go.Proofs.YtffcapkjfmkkaaaGreatDoor
namespace Go.Proofs.YtffcapkjfmkkaaaGreatDoor
open Go.RowKit
def szP (p : Par) : Nat := 5 + p.name.length + p.value.length
def szPs : List Par → Nat
  | [] => 0
  | p :: l => szP p + szPs l
def szN (n : Nod) : Nat := 5 + n.name.length + n.text.length + szPs n.attrs
def szs : List Nod → Nat
  | [] => 0
  | n :: l => szN n + szs l
theorem szPs_take (l : List Par) (k : Nat) (h : k < l.length) : szPs (l.take (k + 1)) = szPs (l.take k) + szP l[k] := by
  induction l generalizing k with
  | nil => simp at h
  | cons p l ih =>
    cases k with
    | zero => simp [szPs]
    | succ k => simp [szPs, ih k (by simpa using h)]; omega
theorem szs_take (l : List Nod) (k : Nat) (h : k < l.length) : szs (l.take (k + 1)) = szs (l.take k) + szN l[k] := by
  induction l generalizing k with
  | nil => simp at h
  | cons p l ih =>
    cases k with
    | zero => simp [szs]
    | succ k => simp [szs, ih k (by simpa using h)]; omega
theorem szPs_le (l : List Par) : szPs l ≤ 2 * costPs l := by
  induction l with
  | nil => simp [szPs]
  | cons p l ih => simp only [szPs, costPs, szP, costP]; omega
theorem szs_le (l : List Nod) : szs l ≤ 2 * costs l := by
  induction l with
  | nil => simp [szs]
  | cons n l ih => have := szPs_le n.attrs; simp only [szs, costs, szN, costN]; omega
theorem costPs_sz (l : List Par) : costPs l ≤ 6 * szPs l := by
  induction l with
  | nil => simp [costPs]
  | cons p l ih => simp only [szPs, costPs, szP, costP]; omega
theorem costs_sz (l : List Nod) : costs l ≤ 6 * szs l := by
  induction l with
  | nil => simp [costs]
  | cons n l ih => have := costPs_sz n.attrs; simp only [szs, costs, szN, costN]; omega
theorem szPs_mono (l : List Par) (k : Nat) : szPs (l.take k) ≤ szPs l := by
  induction l generalizing k with
  | nil => simp
  | cons p l ih =>
    cases k with
    | zero => simp [szPs]
    | succ k => have := ih k; simp [szPs]; omega
theorem szs_mono (l : List Nod) (k : Nat) : szs (l.take k) ≤ szs l := by
  induction l generalizing k with
  | nil => simp
  | cons p l ih =>
    cases k with
    | zero => simp [szs]
    | succ k => have := ih k; simp [szs]; omega
theorem par_len_cost (l : List Par) : 4 * l.length ≤ costPs l := by
  induction l with
  | nil => simp [costPs]
  | cons p l ih => simp only [costPs, costP, List.length_cons]; omega
theorem nod_len_cost (l : List Nod) : 8 * l.length ≤ costs l := by
  induction l with
  | nil => simp [costs]
  | cons p l ih => simp only [costs, costN, List.length_cons]; omega
def smallB (ns : List Nod) : Bool := decide (szs ns ≤ 5000)
theorem wrap_in (n : Nat) (h : n ≤ 100000000) : IntKind.i64.wrap (n : Int) = (n : Int) := IntWalk.i64_in _ (by omega)
theorem ret_small {ns : List Nod} {n : Nat} (h : n = szs ns) : Ending.returned (.bool (decide ((n : Int) ≤ 5000))) = .returned (.bool (smallB ns)) := by
  subst h; unfold smallB; congr 2; simp only [decide_eq_decide]; omega
set_option maxRecDepth 100000 in
set_option maxHeartbeats 4000000 in
theorem small_walk (u : Value) (ns : List Nod) (w : World) (hp : RNod w u ns) (hc : costs ns ≤ 6291456) :
    Calls Tryz.prog 8 #[u] w fun e w' => e = .returned (.bool (smallB ns)) ∧ Dr w w' := by
  have HP := Lib.hid hp
  have HC := Lib.hid hc
  have hln := nod_len_cost ns
  have hl2 : ns.length ≤ 1000000 := by omega
  clear hln
  obtain ⟨A, c, rfl, -, hm, -⟩ := hp
  clear hm hc
  go_enter Tryz.func8, Tryz.ntmps8
  go_wp2_with fail
  go_loopw [3, 4] (fun n i wr => ∃ k : Nat, k ≤ ns.length ∧ i = .int .i64 k ∧ n = .int .i64 (szs (ns.take k)) ∧ Dr w wr) (fun _ i _ => ns.length - (intOf i).toNat)
  case atStart => exact ⟨0, by omega, rfl, rfl, Dr.refl w⟩
  case round =>
    obtain ⟨k, hk, rfl, rfl, hd⟩ := hrel
    by_cases hlt : k < ns.length
    · have HS := Lib.hid (szs_take ns k hlt)
      have hm1 := szs_mono ns (k + 1)
      have hm2 := szs_le ns
      have hc := HC.out
      have hcn := costs_at ns k hlt
      have hmm := szs_mono ns k
      rw [HS.out] at hm1
      have e1 : szN ns[k] = 5 + ns[k].name.length + ns[k].text.length + szPs ns[k].attrs := rfl
      obtain ⟨a', va, ha', k0, k1, k2, hatt, k3, n1, n2⟩ := (HP.out.keep hd.below0).at_ k hlt
      cases ha'
      have HAT := Lib.hid hatt
      obtain ⟨A2, c2, rfl, -⟩ := hatt
      have hal : ns[k].attrs.length ≤ 2000000 := by
        have := par_len_cost ns[k].attrs
        unfold costN at hcn; omega
      have hb : szs (ns.take k) + szN ns[k] ≤ 100000000 := by omega
      have HB := Lib.hid hb
      rw [e1] at hb
      clear hm1 hm2 hc hcn hmm e1
      generalize szs (ns.take k) = X at *
      have w1 : IntKind.i64.wrap ((X : Int) + 5) = (X : Int) + 5 := IntWalk.i64_in _ (by omega)
      have w2 : IntKind.i64.wrap ((X : Int) + 5 + (ns[k].name.length : Int)) = (X : Int) + 5 + (ns[k].name.length : Int) := IntWalk.i64_in _ (by omega)
      have w3 : IntKind.i64.wrap ((X : Int) + 5 + (ns[k].name.length : Int) + (ns[k].text.length : Int)) = (X : Int) + 5 + (ns[k].name.length : Int) + (ns[k].text.length : Int) := IntWalk.i64_in _ (by omega)
      have HW := Lib.hid (And.intro w1 (And.intro w2 w3))
      clear w1 w2 w3
      go_upto_region 5 with (fail)
      obtain ⟨w1, w2, w3⟩ := HW.out
      go_quiet (fail)
      clear w1 w2 w3 k0 k1 k2 k3
      have hd2 := hd.drewN nq
      generalize wr.drewN nq = wq at *
      clear hd
      obtain ⟨Y, hY⟩ : ∃ Y : Nat, Y = X + 5 + ns[k].name.length + ns[k].text.length := ⟨_, rfl⟩
      have eY : (X : Int) + 5 + (ns[k].name.length : Int) + (ns[k].text.length : Int) = (Y : Int) := by omega
      rw [eY]
      have hYN : Y + szPs ns[k].attrs = X + szN ns[k] := by unfold szN; omega
      have HY := Lib.hid hYN
      have hY2 : Y + szPs ns[k].attrs ≤ 100000000 := by omega
      clear eY hY hYN hb
      go_wp2_with fail
      go_loopw [3, 5] (fun n i w2 => ∃ j : Nat, j ≤ ns[k].attrs.length ∧ i = .int .i64 j ∧ n = .int .i64 (Y + szPs (ns[k].attrs.take j) : Nat) ∧ Dr w w2) (fun _ i _ => ns[k].attrs.length - (intOf i).toNat)
      case atStart => exact ⟨0, by omega, rfl, rfl, hd2⟩
      case round =>
        obtain ⟨j, hj, rfl, rfl, hd3⟩ := hrel
        obtain ⟨a', va, ha', k0, k1, k2, hatt, k3, -⟩ := (HP.out.keep hd3.below0).at_ k hlt
        cases ha'
        obtain ⟨A3, c3, rfl, -⟩ := id hatt
        obtain ⟨Z, hZ⟩ : ∃ Z : Nat, Y + szPs (ns[k].attrs.take j) = Z := ⟨_, rfl⟩
        rw [hZ]
        have hmj := szPs_mono ns[k].attrs j
        have hZb : Z ≤ 100000000 := by omega
        by_cases hjl : j < ns[k].attrs.length
        · obtain ⟨b, hb, p0, p1, p2, -⟩ := hatt.at_ j hjl
          cases hb
          have hst := szPs_take ns[k].attrs j hjl
          have hmj2 := szPs_mono ns[k].attrs (j + 1)
          rw [hst] at hmj2
          unfold szP at hst hmj2
          have hZ2 : Z + (5 + ns[k].attrs[j].name.length + ns[k].attrs[j].value.length) ≤ 100000000 := by omega
          have HN := Lib.hid (show Y + szPs (ns[k].attrs.take (j + 1)) = Z + 5 + ns[k].attrs[j].name.length + ns[k].attrs[j].value.length by omega)
          clear hst hmj2 hZ hmj
          have w1 : IntKind.i64.wrap ((Z : Int) + 5) = (Z : Int) + 5 := IntWalk.i64_in _ (by omega)
          have w2 : IntKind.i64.wrap ((Z : Int) + 5 + (ns[k].attrs[j].name.length : Int)) = (Z : Int) + 5 + (ns[k].attrs[j].name.length : Int) := IntWalk.i64_in _ (by omega)
          have w3 : IntKind.i64.wrap ((Z : Int) + 5 + (ns[k].attrs[j].name.length : Int) + (ns[k].attrs[j].value.length : Int)) = (Z : Int) + 5 + (ns[k].attrs[j].name.length : Int) + (ns[k].attrs[j].value.length : Int) := IntWalk.i64_in _ (by omega)
          have HW := Lib.hid (And.intro w1 (And.intro w2 w3))
          clear w1 w2 w3
          go_upto_region 9 with (fail)
          obtain ⟨w1, w2, w3⟩ := HW.out
          go_quiet (fail)
          clear w1 w2 w3
          go_wp2_with fail
          refine ⟨⟨j + 1, by omega, by go_num, ?_, hd3.drewN nq⟩, by simp [intOf]; omega⟩
          have := HN.out
          exact congrArg (Value.int .i64) (by omega)
        · obtain rfl : j = ns[k].attrs.length := by omega
          rw [List.take_length] at hZ
          have hst : Z = szs (ns.take (k + 1)) := by have := HY.out; have := HS.out; omega
          subst hst
          clear hZ
          go_wp2_with fail
          exact ⟨⟨k + 1, by omega, by go_num, rfl, hd3⟩, by simp [intOf]; omega⟩
    · obtain rfl : k = ns.length := by omega
      have hm2 := szs_le ns
      have hc := HC.out
      go_wp2_with fail
      go_ret
      exact ⟨ret_small rfl, hd⟩
end Go.Proofs.YtffcapkjfmkkaaaGreatDoor
namespace Go.Proofs.YtffcapkjfmkkaaaGreatDoor
open Go.RowKit
theorem small_val (u : Value) (ns : List Nod) (w : World) (hp : RNod w u ns) (hc : costs ns ≤ 6291456) (b : Bool) (h : smallB ns = b) :
    Calls Tryz.prog 8 #[u] w fun e w' => e = .returned (.bool b) ∧ Below w.heap.size w w' := by
  subst h
  exact (small_walk u ns w hp hc).mono fun e w' ⟨h, hd⟩ => ⟨h, hd.below0⟩
theorem attrs_len {ns : List Nod} (hc : costs ns ≤ 6291456) : ∀ n ∈ ns, n.attrs.length < maxLen := by
  intro n hn
  obtain ⟨k, hk, rfl⟩ := List.getElem_of_mem hn
  have h1 := costs_at ns k hk
  have h2 := par_len_cost ns[k].attrs
  unfold costN at h1
  unfold maxLen; omega
/-- What Print gives, of both. -/
theorem print_both {ns : List Nod} {w w' : World} {e : Ending} (h : PrPost w ns e w') : ∃ (t : Bs) (k : Int), e = .returned (.tuple #[.string ⟨t.toArray⟩, .int .i64 k]) ∧ Below w.heap.size w w' ∧ ∀ (v v' : World) (e' : Ending), PrPost v ns e' v' → e' = .returned (.tuple #[.string ⟨t.toArray⟩, .int .i64 k]) ∧ Below v.heap.size v v' := by
  obtain ⟨h1, h2⟩ := h
  by_cases hb : checkB ns = true
  · rw [if_pos hb] at h1
    refine ⟨_, _, h1, h2, fun v v' e' h' => ?_⟩
    obtain ⟨g1, g2⟩ := h'
    rw [if_pos hb] at g1
    exact ⟨g1, g2⟩
  · rw [if_neg hb] at h1
    refine ⟨[], _, h1, h2, fun v v' e' h' => ?_⟩
    obtain ⟨g1, g2⟩ := h'
    rw [if_neg hb] at g1
    exact ⟨g1, g2⟩
set_option maxRecDepth 100000 in
set_option maxHeartbeats 4000000 in
theorem xmlPrints_walk (u : Value) (ns : List Nod) (s : ByteArray) (w : World) (m : Int) (hm : Mx w m) (hp : RNod w u ns) (hc : costs ns ≤ 6291456) (hs : s.size ≤ maxLen) :
    Calls Tryz.prog 3 #[u, .string s] w fun e w' => e = .returned (.bool true) ∧ Below w.heap.size w w' := by
  have HM := Lib.hid hm
  have HP := Lib.hid hp
  have HC := Lib.hid hc
  have HS := Lib.hid hs
  clear hm hp hc hs
  go_enter Tryz.func3, Tryz.ntmps3
  go_wp2_with fail
  cases hb : smallB ns with
  | false =>
    refine (small_val u ns w HP.out HC.out false hb).mono ?_
    clear hb
    rintro e w1 ⟨rfl, hb1⟩
    have HB1 := Lib.hid hb1
    clear hb1
    go_wp2_with fail
    refine (awake_walk w1 m (cell_keep HB1.out HM.out)).mono ?_
    rintro e w2 ⟨rfl, hb2⟩
    have HB2 := Lib.hid (HB1.out.trans (hb2.mono HB1.out.size))
    clear hb2
    go_wp2_with fail
    go_ret
    exact ⟨rfl, HB2.out⟩
  | true =>
    refine (small_val u ns w HP.out HC.out true hb).mono ?_
    clear hb
    rintro e w1 ⟨rfl, hb1⟩
    have HB1 := Lib.hid hb1
    clear hb1
    go_wp2_with fail
    refine (pPrint_walk u ns w1 (HP.out.keep HB1.out) (attrs_len HC.out) (fun _ => by have := HC.out; omega)).mono ?_
    intro e w2 hpr
    obtain ⟨t, k, rfl, hb2, hboth⟩ := print_both hpr
    have HB2 := Lib.hid (HB1.out.trans (hb2.mono HB1.out.size))
    have HBO := Lib.hid hboth
    clear hpr hb2 hboth
    go_wp2_with fail
    refine (rPrint_walk u ns w2 (HP.out.keep HB2.out) (by have := HC.out; omega)).mono ?_
    intro e w3 hpr
    obtain ⟨rfl, hb3⟩ := HBO.out _ _ _ hpr
    have HB3 := Lib.hid (HB2.out.trans (hb3.mono HB2.out.size))
    clear hpr hb3
    go_wp2_with fail
    generalize hcb : checkB ns = cb
    have HCB := Lib.hid hcb
    clear hcb
    refine (pCheck_val u ns w3 (HP.out.keep HB3.out) (attrs_len HC.out) cb HCB.out).mono ?_
    rintro e w4 ⟨rfl, hb4⟩
    have HB4 := Lib.hid (HB3.out.trans (hb4.mono HB3.out.size))
    clear hb4
    generalize hki : chkI cb = ki
    have HKI := Lib.hid hki
    clear hki
    go_wp2_with fail
    refine (rCheck_val2 u ns w4 (HP.out.keep HB4.out) cb HCB.out).mono ?_
    rintro e w5 ⟨rfl, hb5⟩
    have HB5 := Lib.hid (HB4.out.trans (hb5.mono HB4.out.size))
    rw [HKI.out]
    clear hb5
    go_wp2_with fail
    generalize hnb : nameB s.data.toList = nb
    have HN := Lib.hid hnb
    clear hnb
    refine (Name_walk s w5 HS.out).mono ?_
    rintro e w6 ⟨rfl, hb6⟩
    have HB6 := Lib.hid (HB5.out.trans (hb6.mono HB5.out.size))
    rw [HN.out]
    clear hb6
    go_wp2_with fail
    refine (rName_walk s w6 HS.out).mono ?_
    rintro e w7 ⟨rfl, hd7⟩
    have HB7 := Lib.hid (HB6.out.trans (hd7.below0.mono HB6.out.size))
    rw [HN.out]
    clear hd7
    go_wp2_with fail
    refine (awake_walk w7 m (cell_keep HB7.out HM.out)).mono ?_
    rintro e w8 ⟨rfl, hb8⟩
    have HB8 := Lib.hid (HB7.out.trans (hb8.mono HB7.out.size))
    clear hb8
    go_wp2_with fail
    go_ret
    exact ⟨rfl, HB8.out⟩
end Go.Proofs.YtffcapkjfmkkaaaGreatDoor
namespace Go.Proofs.YtffcapkjfmkkaaaGreatDoor
open Go.ChangeShapes Go.WideShapes Go.ChangeAt Go.RowKit Go.ChangeMaps
theorem ownNone : ownKnob Tryz.prog.godebug = none := by kernel_rfl
theorem laidOutYes : laidOutB Tryz.prog = true := by kernel_rfl
theorem max_cell (w : World) (h : w.ShapedOpen Tryz.prog) : ∃ m, Mx w m :=
  cell_of_shapedOpen_int (zero := #[.int .i64 0]) (t := 3) h (of_decide_eq_true (by kernel_rfl)) (by kernel_rfl) rfl (by kernel_rfl) (by kernel_rfl) Tryz.underlying3
def rowedB (P : Program) (ts : List TypeId) : Bool := ts.all fun t => P.readableRec t && decide (t < P.types.size)
section
variable {H : Type} {enc : TypeId × Value → H} {W W' : World}
/-- Arguments read as they did, if nothing old has turned. -/
theorem below_trodAll {P : Program} (hl : laidOutB P = true) (hb : Below W.heap.size W W') : ∀ {ts : List TypeId} {vs : List Value} {ds : List (DataW H)} {ps : List MemPlace}, rowedB P ts = true → (∀ x ∈ ps, x.block < W.heap.size) →
    DataW.TrodAll enc P W 0 (fun _ => true) true ts vs ds ps → DataW.TrodAll enc P W' 0 (fun b => decide (b < W.heap.size)) true ts vs ds ps
  | [], [], [], _, _, _, h => h
  | [], [], _ :: _, _, _, _, h => h.elim
  | [], _ :: _, _, _, _, _, h => h.elim
  | _ :: _, [], _, _, _, _, h => h.elim
  | _ :: _, _ :: _, [], _, _, _, h => h.elim
  | t :: ts, v :: vs, d :: ds, ps, hr, hlt, h => by
    obtain ⟨p, q, h1, h2, rfl⟩ := h
    simp only [rowedB, List.all_cons, Bool.and_eq_true, decide_eq_true_eq] at hr
    exact ⟨p, q, Below.trod hl hr.1.1 hr.1.2 h1 hb (fun x hx => hlt x (by simp [hx])), below_trodAll hl hb (by simpa [rowedB] using hr.2) (fun x hx => hlt x (by simp [hx])) h2, rfl⟩
/-- What a law's contract hands on: true; the arguments as they were. -/
theorem post_true {f : Func} {s : ChangeSpec} {fresh handsOn : Bool} {args : Array Value} {ds gs : List (DataW H)} {before : List MemPlace}
    (hvars : s.vars = []) (hres : f.resultTypes = #[4]) (hpar : rowedB Tryz.prog f.params.toList = true) (hfn : s.fn H ds = { results := [.lit (.bool true)], args := ds })
    (hW : DataW.Whole enc Tryz.prog f.params.toList s.vars false W args.toList ds gs before) (hb : Below W.heap.size W W') :
    s.post enc Tryz.prog f false fresh handsOn false W args (.bool true) W' := by
  have hW' := hW
  obtain ⟨p, q, hA, hV, rfl, _, _⟩ := hW
  rw [hvars] at hV
  obtain ⟨rfl, rfl⟩ := trodVars_none hV
  rw [List.append_nil] at hW'
  have hlt : ∀ x ∈ p, x.block < W.heap.size := fun x hx => by simpa using hW'.lt x hx
  refine ⟨ds, [], p, [], p, [], hW', ?_, ?_, ?_, ?_, fun h => by cases h⟩
  · rw [List.append_nil, hfn, hres]; exact trodAll_mk1 (shut_bool Tryz.underlying4 _)
  · rw [List.append_nil, hfn]; exact below_trodAll laidOutYes hb hpar hlt hA
  · rw [List.append_nil, hfn, hvars]; rfl
  · exact hb.frame _
end
end Go.Proofs.YtffcapkjfmkkaaaGreatDoor
