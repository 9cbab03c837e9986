/- What stands in an element, as the reference reads it. -/
import Derived.Test.YtffcapkjfmkkaaaDoorC2
namespace Go.Proofs.YtffcapkjfmkkaaaDoor
open Go.RowKit
theorem infoNod : (Tryd.prog.info? 40).map (fun i => (i.zero, i.size, i.bytes)) = some (some (.agg #[.int .i64 0, .string ⟨#[]⟩, .slice none 0 0, .string ⟨#[]⟩]), 4, 64) := by kernel_rfl
theorem infoPar : (Tryd.prog.info? 43).map (fun i => (i.zero, i.size, i.bytes)) = some (some (.agg #[.string ⟨#[]⟩, .string ⟨#[]⟩, .bool false]), 3, 40) := by kernel_rfl
theorem readB_len : ∀ (k : Nat) (l t : Bs), l.length ≤ k → readB l = some t → t.length ≤ l.length := by
  intro k
  induction k with
  | zero => intro l t hk h; have : l = [] := List.eq_nil_of_length_eq_zero (by omega); subst this; rw [readB] at h; cases h; simp
  | succ k ih =>
    intro l t hk h
    cases l with
    | nil => rw [readB] at h; cases h; simp
    | cons c l =>
      rw [readB] at h
      split at h
      · split at h
        · cases h
        · rename_i hneg
          cases hr : readB (l.drop (entL (fndE l 5).toNat).length) with
          | none => rw [hr] at h; cases h
          | some r =>
            rw [hr] at h; cases h
            have := ih _ _ (by rw [List.length_drop]; simp at hk; omega) hr
            rw [List.length_drop] at this
            simp; omega
      · cases hr : readB l with
        | none => rw [hr] at h; cases h
        | some r => rw [hr] at h; cases h; have := ih _ _ (by simpa using hk) hr; simp; omega
theorem trimB_len (l : Bs) : (trimB l).length ≤ l.length := by
  unfold trimB trimR
  have := dropW_len blankB l
  have := dropW_len blankB (dropW blankB l).reverse
  simp at *; omega
theorem all_cnt (f : Nat) : (∀ s deep cnt ms r, elemS f s deep cnt = some (ms, r) → cnt + ms.length ≤ 200) ∧ (∀ s n cnt ms r, cnt < 200 → contS f s n cnt = some (ms, r) → cnt + ms.length ≤ 200) ∧
    (∀ s text deep cnt kids t ks r, cnt ≤ 200 → kidsS f s text deep cnt kids = some (t, ks, r) → cnt + ks.length ≤ 200 + kids.length) := by
  induction f with
  | zero => exact ⟨fun _ _ _ _ _ h => by simp [elemS] at h, fun _ _ _ _ _ _ h => by simp [contS] at h, fun _ _ _ _ _ _ _ _ _ h => by simp [kidsS] at h⟩
  | succ f ih =>
    refine ⟨fun s deep cnt ms r h => ?_, fun s n cnt ms r hc h => ?_, fun s text deep cnt kids t ks r hc h => ?_⟩
    · rw [elemS] at h
      split at h
      · cases h
      · split at h
        · cases h
        · split at h
          · cases h
          · split at h
            · cases h
            · split at h
              · cases h; simp; omega
              · split at h
                · cases h
                · exact ih.2.1 _ _ _ _ _ (by omega) h
    · rw [contS] at h
      split at h
      · cases h
      · rename_i text kids rest h1
        have := ih.2.2 _ _ _ _ _ _ _ _ (by omega) h1
        unfold closeS at h
        split at h
        · split at h
          · cases h; simp at *; omega
          · cases h
        · cases h
    · rw [kidsS] at h
      split at h
      · cases h
      · split at h
        · cases h; omega
        · split at h
          · cases h
          · rename_i ms rest h2
            have := ih.1 _ _ _ _ _ h2
            have := ih.2.2 _ _ _ _ _ _ _ _ this h
            simp at this; omega
/-- Where a list that was appended to lies: where it lay, or in a new block. -/
def AtB (w : World) (l l' : Value) : Prop := l'.ownBlock = l.ownBlock ∨ l'.ownBlock = none ∨ ∃ b, l'.ownBlock = some b ∧ w.heap.size ≤ b
theorem grown_chain {w w1 w2 : World} {l l' : Value} (h1 : w.grownBy w1 l.ownBlock) (h2 : w1.grownBy w2 l'.ownBlock) (ha : AtB w l l') : w.grownBy w2 l.ownBlock :=
  ⟨h2.os.trans h1.os, h2.tape.trans h1.tape, h2.output.trans h1.output, Nat.le_trans h1.size h2.size, fun k hk hne => by
    rw [h2.block k (Nat.lt_of_lt_of_le hk h1.size) ?_, h1.block k hk hne]
    rcases ha with e | e | ⟨b, e, hb⟩
    · rw [e]; exact hne
    · rw [e]; simp
    · rw [e]; intro e'; injection e' with e'; omega⟩
theorem grown_below {w w1 w2 : World} {row : Option Nat} (h1 : w.grownBy w1 row) (h2 : Below w1.heap.size w1 w2) : w.grownBy w2 row :=
  ⟨h2.os.trans h1.os, h2.tape.trans h1.tape, h2.output.trans h1.output, Nat.le_trans h1.size h2.size, fun k hk hne => by
    rw [h2.block k (Nat.lt_of_lt_of_le hk h1.size), h1.block k hk hne]⟩
theorem below_then {w w1 w2 : World} {row : Option Nat} (h1 : Below w.heap.size w w1) (h2 : w1.grownBy w2 row) : w.grownBy w2 row :=
  ⟨h2.os.trans h1.os, h2.tape.trans h1.tape, h2.output.trans h1.output, Nat.le_trans h1.size h2.size, fun k hk hne => by
    rw [h2.block k (Nat.lt_of_lt_of_le hk h1.size) hne, h1.block k hk]⟩
theorem AtB.trans {w w1 : World} {a b c : Value} (h1 : AtB w a b) (h2 : AtB w1 b c) (hs : w.heap.size ≤ w1.heap.size) : AtB w a c := by
  rcases h2 with e | e | ⟨k, e, hk⟩
  · rcases h1 with e1 | e1 | ⟨k, e1, hk⟩
    · exact .inl (e.trans e1)
    · exact .inr (.inl (e.trans e1))
    · exact .inr (.inr ⟨k, e.trans e1, hk⟩)
  · exact .inr (.inl e)
  · exact .inr (.inr ⟨k, e, by omega⟩)
theorem own_lt {w : World} {B e size n : Nat} {v : Value} {xs : List Value} (h : w.ownsRow B e size v n xs) (k : Nat) (hk : v.ownBlock = some k) : k < w.heap.size := (h.lt k hk).2
theorem AtB.ne {w : World} {l l' : Value} {k : Nat} (h : AtB w l l') (h1 : l.ownBlock ≠ some k) (h2 : k < w.heap.size) : l'.ownBlock ≠ some k := by
  rcases h with e | e | ⟨b, e, hb⟩
  · rw [e]; exact h1
  · rw [e]; simp
  · rw [e]; intro e'; injection e' with e'; omega
theorem append_step {w w0 w1 : World} {B : Nat} {l l1 : Value} {ns : List Nod} (hno : ONod w B l ns) (xs : List (Nod × Value)) (hx1 : xs.map Prod.fst = ns) (hx3 : ∀ x ∈ xs, OPar w B x.2 x.1.attrs)
    (hb : Below w.heap.size w w0) (n : Nod) (va : Value) (ha : OPar w0 B va n.attrs) (hn : n.name.length ≤ 4096 ∧ n.text.length ≤ 4096)
    (ho : w1.ownsRow B 40 4 l1 (ns.length + 1) (xs.flatMap nodCells ++ nodCells (n, va))) (hg : w0.grownBy w1 l.ownBlock) (hat : l1.ownBlock = l.ownBlock ∨ l1.ownBlock = some w0.heap.size) :
    ONod w1 B l1 (ns ++ [n]) ∧ w.grownBy w1 l.ownBlock ∧ AtB w l l1 ∧ ∀ b, w.heap.size ≤ b → b < w0.heap.size → w1.heap[b]? = w0.heap[b]? ∧ l1.ownBlock ≠ some b := by
  have hlt : ∀ k, l.ownBlock = some k → k < w.heap.size := fun k hk => by
    obtain ⟨⟨ys, y1, y2, y3⟩, y4⟩ := hno
    exact own_lt y2 k hk
  refine ⟨(hno.below hb).appended xs hx1 (fun x hx => (hx3 x hx).below hb) n va ha hn hg ho, below_then hb hg, ?_, fun b h1 h2 => ⟨hg.block b h2 ?_, ?_⟩⟩
  · rcases hat with e | e
    · exact .inl e
    · exact .inr (.inr ⟨_, e, hb.size⟩)
  · intro e; have := hlt b e.symm; omega
  · rcases hat with e | e
    · rw [e]; intro e'; have := hlt b e'; omega
    · rw [e]; intro e'; injection e' with e'; omega
/-- Inside content's loop. -/
structure KRel (s : ByteArray) (f i : Nat) (n : Nod) (B : Nat) (l : Value) (ns : List Nod) (w : World) (box : Obj) (k : Nat) (out : ByteArray) (l' : Value) (wr : World) (g : Nat) (kids : List Nod) : Prop where
  eq : kidsS f (s.data.toList.drop i) [] (n.deep + 1) (ns.length + 1) [] = kidsS g (s.data.toList.drop k) out.data.toList (n.deep + 1) (ns.length + 1 + kids.length) kids
  fuel : 2 * (s.size - k) + 2 ≤ g
  gf : g ≤ f
  le : k ≤ s.size
  out : out.size ≤ k
  own : ONod wr B l' (ns ++ n :: kids)
  at_ : AtB w l l'
  ne : l'.ownBlock ≠ some w.heap.size
  grown : w.grownBy wr l.ownBlock
  box : wr.heap[w.heap.size]? = some box
  len : ns.length + 1 + kids.length ≤ 200
def ElPost (w : World) (B : Nat) (s : ByteArray) (l : Value) (ns : List Nod) (o : Option (List Nod × Bs)) (e : Ending) (w' : World) : Prop :=
  w.grownBy w' l.ownBlock ∧
  match o with
  | none => e = .returned (.tuple #[.slice none 0 0, .int .i64 (-1)])
  | some (ms, r) => ∃ (l' : Value) (i : Nat), e = .returned (.tuple #[l', .int .i64 i]) ∧ i ≤ s.size ∧ s.data.toList.drop i = r ∧ ONod w' B l' (ns ++ ms) ∧ AtB w l l'
def Elem (f : Nat) : Prop := ∀ (s : ByteArray) (i : Nat) (v : Int) (deep : Int) (l : Value) (ns : List Nod) (B : Nat) (w : World), v = i → s.size ≤ 4096 → i ≤ s.size → 2 * (s.size - i) + 1 ≤ f → 0 ≤ deep → deep ≤ 100 → ONod w B l ns → B ≤ w.heap.size → ns.length ≤ 200 →
  Calls Tryd.prog 11 #[.string s, .int .i64 v, .int .i64 deep, l] w (ElPost w B s l ns (elemS f (s.data.toList.drop i) deep ns.length))
def Cont (f : Nat) : Prop := ∀ (s : ByteArray) (i : Nat) (v : Int) (n : Nod) (va l : Value) (ns : List Nod) (B : Nat) (w : World), v = i → s.size ≤ 4096 → i ≤ s.size → 2 * (s.size - i) + 3 ≤ f → 0 ≤ n.deep → n.deep ≤ 90 → n.name.length ≤ 4096 → n.text = [] → OPar w B va n.attrs → ONod w B l ns → B ≤ w.heap.size → ns.length < 200 →
  Calls Tryd.prog 24 #[.string s, .int .i64 v, .agg #[.int .i64 n.deep, .string ⟨n.name.toArray⟩, va, .string ⟨n.text.toArray⟩], l] w (ElPost w B s l ns (contS f (s.data.toList.drop i) n ns.length))
theorem own_slice {w : World} {B e size n : Nat} {v : Value} {xs : List Value} (h : w.ownsRow B e size v n xs) : ∃ A c, v = .slice A n c := by
  rcases h.2 with ⟨rfl, rfl⟩ | ⟨g, cap, cur, rfl, _⟩
  · exact ⟨none, 0, rfl⟩
  · exact ⟨_, cap, rfl⟩
set_option maxRecDepth 100000 in
set_option maxHeartbeats 4000000 in
theorem cont_step (f : Nat) (HE : ∀ g, g ≤ f → Elem g) : Cont (f + 1) := by
  intro s i v n va l ns B w hv hs hi hf hd0 hd1 hnm htx hpa hno hB hc
  have hno0 := hno
  have hpa0 := hpa
  obtain ⟨⟨xs, hx1, hown, hx3⟩, hx4⟩ := hno
  obtain ⟨A, c, rfl⟩ := own_slice hown
  obtain ⟨A2, c2, rfl⟩ := own_slice hpa.1
  obtain ⟨i0, hi0, hz0, hz1, hz2⟩ := info_parts infoNod
  have HX1 := Lib.hid hx1
  have HV := Lib.hid hv
  have HTX := Lib.hid htx
  have HI := Lib.hid hi0
  have HX3 := Lib.hid hx3
  clear hx1 htx hx3 hx4 hpa
  go_enter Tryd.func24, Tryd.ntmps24
  go_wp2_with (at_builtin; refine wpList_append_own_at _ rfl _ _ 22 rfl B 40 i0 _ 4 64 Tryd.underlying22 hi0 hz0 hz1 hz2 rfl (by decide) _ _ _ rfl ((hown.alloc _).alloc _) ⟨w.heap.size + 1, 0, none⟩ 1 1 (nodCells (n, .slice A2 n.attrs.length c2)) rfl rfl ?c1 ?c2 ?c3 ?c4 ?c5 ?_)
  case c1 =>
    intro j u hj
    rw [addr_add]
    have h0 := new_cell (w.alloc (.cells #[.int .i64 n.deep, .string ⟨n.name.toArray⟩, .slice A2 n.attrs.length c2, .string ⟨n.text.toArray⟩] 40)) #[.int .i64 n.deep, .string ⟨n.name.toArray⟩, .slice A2 n.attrs.length c2, .string ⟨n.text.toArray⟩] 40 j
    simp only [World.size_alloc] at h0
    rw [h0, ← hj]; simp [nodCells]
  case c2 =>
    intro u hu
    simp [nodCells] at hu
    rcases hu with rfl | rfl | rfl | rfl <;> rfl
  case c3 => unfold maxLen; omega
  case c4 => omega
  case c5 => simp; omega
  intro l1 w1 hown1 hg1 _ hat1
  have hbb : Below w.heap.size w ((w.alloc (.cells #[.int .i64 n.deep, .string ⟨n.name.toArray⟩, .slice A2 n.attrs.length c2, .string ⟨n.text.toArray⟩] 40)).alloc (.cells #[.int .i64 n.deep, .string ⟨n.name.toArray⟩, .slice A2 n.attrs.length c2, .string ⟨n.text.toArray⟩] 40)) :=
    ((Below.refl _ _).alloc (Nat.le_refl _) _).alloc (by simp) _
  obtain ⟨hn1, hgr1, hatl, hbx⟩ := append_step hno0 xs HX1.out HX3.out hbb n _ (hpa0.below hbb) ⟨hnm, by rw [HTX.out]; simp⟩ hown1 hg1 (by simpa using hat1)
  have hbox1 : w1.heap[w.heap.size]? = some (.cells #[.int .i64 n.deep, .string ⟨n.name.toArray⟩, .slice A2 n.attrs.length c2, .string ⟨n.text.toArray⟩] 40) := by
    rw [(hbx w.heap.size (Nat.le_refl _) (by simp; omega)).1, Below.heap_alloc _ _ _ (by simp)]; exact heap_alloc_new w _
  have hne1 : l1.ownBlock ≠ some w.heap.size := (hbx w.heap.size (Nat.le_refl _) (by simp; omega)).2
  have HK0 : Hid (KRel s f i n B (.slice A ns.length c) ns w (.cells #[.int .i64 n.deep, .string ⟨n.name.toArray⟩, .slice A2 n.attrs.length c2, .string ⟨n.text.toArray⟩] 40) i ⟨#[]⟩ l1 w1 f []) :=
    ⟨rfl, by omega, Nat.le_refl _, hi, Nat.zero_le _, hn1, hatl, hne1, hgr1, hbox1, by simp; omega⟩
  obtain ⟨A1, c1, rfl⟩ := own_slice hown1
  have HAT := Lib.hid hat1
  clear hown1 hg1 hbb hn1 hgr1 hatl hbx hbox1 hne1 hat1
  go_wp2_with fail
  go_loopw [1, 3, 11] (fun pv lv ov wr => ∃ (k : Nat) (l' : Value) (out : ByteArray) (g : Nat) (kids : List Nod), pv = .int .i64 k ∧ lv = l' ∧ ov = .string out ∧ KRel s f i n B (.slice A ns.length c) ns w (.cells #[.int .i64 n.deep, .string ⟨n.name.toArray⟩, .slice A2 n.attrs.length c2, .string ⟨n.text.toArray⟩] 40) k out l' wr g kids) (fun pv _ _ _ => s.size - (intOf pv).toNat)
  case atStart => exact ⟨i, _, ⟨#[]⟩, f, [], rfl, rfl, rfl, HK0.out⟩
  case round =>
    obtain ⟨k, l', out, g, kids, rfl, rfl, rfl, hk⟩ := hrel
    have hle := hk.le
    have hgf := hk.gf
    have hfu := hk.fuel
    have hout := hk.out
    have hlen := hk.len
    have hbx0 := blk_cell hk.box 0
    have hbx1 := blk_cell hk.box 1
    simp at hbx0 hbx1
    obtain ⟨⟨ys, -, hyo, -⟩, -⟩ := hk.own
    obtain ⟨A3, c3, rfl⟩ := own_slice hyo
    rw [show (ns ++ n :: kids).length = ns.length + (kids.length + 1) from by simp] at hk
    have HK := Lib.hid hk
    clear hk hyo
    have hm : s.size ≤ maxLen := by unfold maxLen; omega
    have HM := Lib.hid hm
    clear hm HK0
    go_wp2_with fail
    have hcs := posW_cases (notIn [60]) s k hle
    have Hcs := Lib.hid hcs
    clear hcs
    rcases Hcs.out with ⟨hA, hp⟩ | ⟨k1, hk1, hle1, hp, hA, hT⟩
    · have HP := Lib.hid hp; have HA := Lib.hid hA
      clear hp hA
      refine (upto_val _ _ _ k rfl _ HM.out hle (by decide) [60] rfl _ HP.out).mono ?_
      rintro e w2 ⟨rfl, n2, rfl⟩
      go_wp2_with fail
      have HE1 : Hid (contS (f + 1) (s.data.toList.drop i) n ns.length = none) := by
        show _ = _
        obtain ⟨g', rfl⟩ : ∃ g', g = g' + 1 := ⟨g - 1, by omega⟩
        rw [contS, HK.out.eq, kidsS, HA.out]
      go_ret2
      rw [HE1.out]
      exact ⟨grown_below HK.out.grown (Dr.below0 ⟨_, rfl⟩), rfl⟩
    · have HP := Lib.hid hp; have HA := Lib.hid hA; have HT := Lib.hid hT
      clear hp hA hT
      have e1 : ((k1 : Int) == (s.size : Int)) = false := by rw [beq_eq_false_iff_ne]; omega
      obtain ⟨g', hg'⟩ : ∃ g', g = g' + 1 := ⟨g - 1, by omega⟩
      have HG := Lib.hid hg'
      have hgg : g' ≤ f ∧ 2 * (s.size - k1) + 1 ≤ g' := by omega
      clear hg'
      refine (upto_val _ _ _ k rfl _ HM.out hle (by decide) [60] rfl _ HP.out).mono ?_
      rintro e w2 ⟨rfl, n2, rfl⟩
      go_wp2_with fail
      have hos : (out ++ s.extract k k1).size ≤ k1 := by rw [ByteArray.size_append, ByteArray.size_extract]; omega
      have HOL : Hid ((out ++ s.extract k k1).data.toList = out.data.toList ++ takeW (notIn [60]) (s.data.toList.drop k)) := by
        show _ = _; rw [Joins.data_append, HT.out]
      generalize out ++ s.extract k k1 = text at *
      cases hpre : pre2 60 47 (s.data.toList.drop k1) with
      | none =>
        have HQ : Hid (isB s.data.toList k1 [60, 47] = false) := by
          show _ = _; unfold isB; show (List.take 2 _ == _) = _; rw [pre2_take, hpre]; rfl
        have HPRE := Lib.hid hpre
        clear hpre
        refine (is_val _ _ _ k1 rfl _ (by omega) (by omega) (by decide) [60, 47] rfl _ HQ.out).mono ?_
        rintro e w' ⟨rfl, rfl⟩
        go_wp2_with fail
        refine (HE g' hgg.1 s k1 _ (n.deep + 1) _ (ns ++ n :: kids) B _ rfl hs (by omega) hgg.2 (by omega) (by omega) ?_ ?_ ?_).mono ?_
        · have := HK.out.own.below (Dr.below0 ⟨n2, rfl⟩); simpa using this
        · exact Nat.le_trans hB (HK.out.grown.size)
        · simp; omega
        rintro e w3 hep
        unfold ElPost at hep
        have hLL : (ns ++ n :: kids).length = ns.length + 1 + kids.length := by simp; omega
        rw [hLL] at hep
        clear hLL
        cases hes : elemS g' (s.data.toList.drop k1) (n.deep + 1) (ns.length + 1 + kids.length) with
        | none =>
          rw [hes] at hep
          obtain ⟨hg3, rfl⟩ := hep
          have HE1 : Hid (contS (f + 1) (s.data.toList.drop i) n ns.length = none) := by
            show _ = _
            rw [contS, HK.out.eq, HG.out, kidsS, HA.out]; simp only
            rw [← drop_cons s k1 hk1, HPRE.out]; simp only; rw [hes]
          have HG3 := Lib.hid hg3
          clear hes hg3
          go_wp2_with fail
          go_ret2
          rw [HE1.out]
          exact ⟨grown_chain (grown_below HK.out.grown (Dr.below0 ⟨n2, rfl⟩)) HG3.out HK.out.at_, rfl⟩
        | some mr =>
          obtain ⟨ms, r⟩ := mr
          rw [hes] at hep
          obtain ⟨hg3, l'', i'', rfl, hi'', hdr, hon, hat''⟩ := hep
          have hl1 := (all_len g').1 _ _ _ _ _ hes
          have hl2 := (all_cnt g').1 _ _ _ _ _ hes
          rw [← hdr, List.length_drop, List.length_drop, size_list] at hl1
          have hsz : w.heap.size < wr.heap.size := by
            rcases Nat.lt_or_ge w.heap.size wr.heap.size with h | h
            · exact h
            · have := HK.out.box; rw [Array.getElem?_eq_none h] at this; cases this
          have HNEW : Hid (KRel s f i n B (.slice A ns.length c) ns w (.cells #[.int .i64 n.deep, .string ⟨n.name.toArray⟩, .slice A2 n.attrs.length c2, .string ⟨n.text.toArray⟩] 40) i'' text l'' w3 g' (kids ++ ms)) := by
            refine ⟨?_, by omega, by omega, hi'', by omega, ?_, HK.out.at_.trans (w1 := wr.drewN n2) hat'' HK.out.grown.size, hat''.ne HK.out.ne hsz, grown_chain (grown_below HK.out.grown (Dr.below0 ⟨n2, rfl⟩)) hg3 HK.out.at_, ?_, by simp; omega⟩
            · rw [HK.out.eq, HG.out, kidsS, HA.out]; simp only
              rw [← drop_cons s k1 hk1, HPRE.out]; simp only; rw [hes]; simp only
              rw [HOL.out, hdr, List.length_append, ← Nat.add_assoc]
            · have := hon; simpa using this
            · exact (hg3.block _ hsz (fun e => HK.out.ne e.symm)).trans HK.out.box
          clear hes hdr hon hat'' hg3 hl2
          go_wp2_with fail
          exact ⟨⟨i'', l'', text, g', kids ++ ms, rfl, rfl, rfl, HNEW.out⟩, by simp [intOf]; omega⟩
      | some r =>
        have HQ : Hid (isB s.data.toList k1 [60, 47] = true) := by
          show _ = _; unfold isB; show (List.take 2 _ == _) = _; rw [pre2_take, hpre]; rfl
        have HPRE := Lib.hid hpre
        clear hpre
        refine (is_val _ _ _ k1 rfl _ (by omega) (by omega) (by decide) [60, 47] rfl _ HQ.out).mono ?_
        rintro e w' ⟨rfl, rfl⟩
        have hnd : (⟨#[60, 47]⟩ ++ ⟨n.name.toArray⟩ : ByteArray).data.toList = 60 :: 47 :: n.name := by rw [Joins.data_append]; rfl
        have HND := Lib.hid hnd
        clear hnd
        have hKS : contS (f + 1) (s.data.toList.drop i) n ns.length = closeS n text.data.toList kids (s.data.toList.drop k1) := by
          rw [contS, HK.out.eq, HG.out, kidsS, HA.out]; simp only
          rw [← drop_cons s k1 hk1, HPRE.out]; simp only; rw [HOL.out]
        have HKS := Lib.hid hKS
        clear hKS
        have hgr0 := HK.out.grown
        have HGR := Lib.hid hgr0
        clear hgr0
        go_wp2_with fail
        by_cases hnm2 : (s.data.toList.drop k1).take (2 + n.name.length) = 60 :: 47 :: n.name
        · have hfit : k1 + (2 + n.name.length) ≤ s.size := by
            have := congrArg List.length hnm2
            rw [List.length_take, List.length_drop, size_list] at this
            simp at this; omega
          have HNM2 := Lib.hid hnm2
          clear hnm2
          refine (is_val _ _ _ k1 rfl _ (by omega) (by omega) (by rw [← size_list, HND.out]; simp; omega) _ HND.out true (by unfold isB; rw [beq_iff_eq, ← HNM2.out]; congr 1; simp; omega)).mono ?_
          rintro e w' ⟨rfl, rfl⟩
          go_wp2_with fail
          have hcs2 := posW_cases blankB s (k1 + (2 + n.name.length)) hfit
          have hps := posW_le blankB s.data.toList (k1 + (2 + n.name.length)) (by rw [size_list]; exact hfit)
          rw [size_list] at hps
          have Hcs2 := Lib.hid hcs2
          clear hcs2
          generalize hpw : posW blankB s.data.toList (k1 + (2 + n.name.length)) = p2 at *
          have HPW := Lib.hid hpw
          clear hpw
          refine (over_val _ _ (k1 + (2 + n.name.length)) (by simp; omega) _ HM.out hfit _ HPW.out).mono ?_
          rintro e w2 ⟨rfl, n3, rfl⟩
          go_wp2_with fail
          refine (rTrim_walk text _ (by unfold maxLen; omega)).mono ?_
          rintro e w2 ⟨rfl, n4, rfl⟩
          go_wp2_with fail
          refine (rRead_walk _ _ (by have := trimB_len text.data.toList; rw [size_list] at this; rw [← size_list]; simp; omega)).mono ?_
          rintro e w5 ⟨rfl, hb5⟩
          have HRD : Hid (closeS n text.data.toList kids (s.data.toList.drop k1) = (match readB (trimB text.data.toList), pre1 62 (dropW blankB (s.data.toList.drop (k1 + (2 + n.name.length)))) with
              | some t, some r => some ({ n with text := trimB t } :: kids, r)
              | _, _ => none)) := by
            show _ = _; unfold closeS; rw [if_pos HNM2.out, List.drop_drop]
            cases readB (trimB text.data.toList) <;> cases pre1 62 (dropW blankB (s.data.toList.drop (k1 + (2 + n.name.length)))) <;> rfl
          generalize hro : readB (trimB text.data.toList) = ro at *
          have HRO := Lib.hid hro
          clear hro
          have hg5 : w.grownBy w5 (Value.slice A ns.length c).ownBlock := grown_below (grown_below HK.out.grown (Dr.below0 ⟨n2 + n3 + n4, rfl⟩)) hb5
          have HG5 := Lib.hid hg5
          clear hg5
          have hcase : (ro = none ∨ ∃ t, ro = some t) := by cases ro <;> simp
          rcases hcase with rfl | ⟨t, rfl⟩
          · have HE1 : Hid (contS (f + 1) (s.data.toList.drop i) n ns.length = none) := by
              show _ = _; rw [HKS.out, HRD.out]
            simp only [optS]
            go_wp2_with fail
            have hb := Lib.hid (rfl : isB s.data.toList p2 [62] = isB s.data.toList p2 [62])
            cases hbv : isB s.data.toList p2 [62]
            all_goals
              have HBV := Lib.hid hbv
              clear hbv
              refine (is_val _ _ _ p2 rfl _ (by omega) (by omega) (by decide) [62] rfl _ HBV.out).mono ?_
              rintro e w' ⟨rfl, rfl⟩
              go_wp2_with fail
              go_ret2
              rw [HE1.out]
              exact ⟨HG5.out, rfl⟩
          · simp only [optS]
            go_wp2_with fail
            rcases Hcs2.out with ⟨hA2, hp2⟩ | ⟨k2, hk2, hle2, hp2, hA2, -⟩
            · subst hp2
              have HE1 : Hid (contS (f + 1) (s.data.toList.drop i) n ns.length = none) := by
                show _ = _; rw [HKS.out, HRD.out, hA2]; rfl
              have HBV : Hid (isB s.data.toList s.size [62] = false) := isB_end s 62
              refine (is_val _ _ _ s.size rfl _ (by omega) (by omega) (by decide) [62] rfl _ HBV.out).mono ?_
              rintro e w' ⟨rfl, rfl⟩
              go_wp2_with fail
              go_ret2
              rw [HE1.out]
              exact ⟨HG5.out, rfl⟩
            · subst hp2
              by_cases hc2 : s[p2] = 62
              · have HC2 := Lib.hid hc2
                have HE1 : Hid (contS (f + 1) (s.data.toList.drop i) n ns.length = some ({ n with text := trimB t } :: kids, s.data.toList.drop (p2 + 1))) := by
                  show _ = _; rw [HKS.out, HRD.out, hA2, hc2]; rfl
                have HBV : Hid (isB s.data.toList p2 [62] = true) := by show _ = _; rw [isB_one s p2 hk2]; simpa using hc2
                clear hc2
                refine (is_val _ _ _ p2 rfl _ (by omega) (by omega) (by decide) [62] rfl _ HBV.out).mono ?_
                rintro e w' ⟨rfl, rfl⟩
                go_wp2_with fail
                have htl : t.length ≤ 4096 := by
                  have h1 := readB_len _ _ _ (Nat.le_refl _) HRO.out
                  have h2 := trimB_len text.data.toList
                  rw [size_list] at h2; omega
                have HTL := Lib.hid htl
                clear htl
                refine (rTrim_walk ⟨t.toArray⟩ _ (by have := HTL.out; unfold maxLen; rw [← size_list]; simp; omega)).mono ?_
                rintro e w2 ⟨rfl, n5, rfl⟩
                have hon5 : ONod (w5.drewN n5) B (.slice A3 (ns.length + (kids.length + 1)) c3) (ns ++ n :: kids) :=
                  ((HK.out.own.below (Dr.below0 ⟨n2 + n3 + n4, rfl⟩)).below hb5).below (Dr.below0 ⟨n5, rfl⟩)
                have hon6 := hon5
                obtain ⟨⟨zs, hz1', hz2', hz3'⟩, hz4'⟩ := hon5
                obtain ⟨gb, cap, hvv, -⟩ := World.ownsRow.form hz2' (by simp; omega)
                rw [show (ns ++ n :: kids).length = ns.length + (kids.length + 1) from by simp] at hvv hz2'
                injection hvv with hA3 _ hc3
                subst hA3 hc3
                have hcell : (w5.drewN n5).cell? ⟨gb, ns.length * 4 + 3, none⟩ = some (.string ⟨n.text.toArray⟩) := by
                  obtain ⟨A', c', hvv, -, -, hr⟩ := hon6.reads
                  obtain ⟨a, va, ha, -, -, -, -, h3, -⟩ := hr ns.length (by simp)
                  injection hvv with hA' _ _
                  rw [← hA'] at ha
                  injection ha with ha
                  subst ha
                  rw [addr_add] at h3
                  simpa using h3
                have hfz : (w5.drewN n5).frozen? ⟨gb, ns.length * 4 + 3, none⟩ = false := hz2'.frozenAt _
                have HON := Lib.hid hon6
                clear hon6 hz1' hz3' hz4' hz2'
                go_wp2_with fail
                have hst := HON.out.stored ns.length (by simp) (trimB t) (by have := trimB_len t; have := HTL.out; omega)
                have hset : (ns ++ n :: kids).set ns.length { (ns ++ n :: kids)[ns.length]'(by simp) with text := trimB t } = ns ++ { n with text := trimB t } :: kids := by
                  simp
                rw [hset] at hst
                go_ret2
                rw [HE1.out]
                exact ⟨grown_chain (l' := .slice (some ⟨gb, 0, none⟩) (ns.length + (kids.length + 1)) c3) (grown_below HG5.out (Dr.below0 ⟨n5, rfl⟩)) hst.2 HK.out.at_, _, p2 + 1, by simp, by omega, rfl, hst.1, HK.out.at_⟩
              · have HE1 : Hid (contS (f + 1) (s.data.toList.drop i) n ns.length = none) := by
                  show _ = _; rw [HKS.out, HRD.out, hA2]; simp [pre1, hc2]
                have HBV : Hid (isB s.data.toList p2 [62] = false) := by show _ = _; rw [isB_one s p2 hk2]; simpa using hc2
                clear hc2
                refine (is_val _ _ _ p2 rfl _ (by omega) (by omega) (by decide) [62] rfl _ HBV.out).mono ?_
                rintro e w' ⟨rfl, rfl⟩
                go_wp2_with fail
                go_ret2
                rw [HE1.out]
                exact ⟨HG5.out, rfl⟩
        · have HE1 : Hid (contS (f + 1) (s.data.toList.drop i) n ns.length = none) := by
            show _ = _; rw [HKS.out, closeS, if_neg hnm2]
          refine (is_val _ _ _ k1 rfl _ (by omega) (by omega) (by rw [← size_list, HND.out]; simp; omega) _ HND.out false (by unfold isB; rw [beq_eq_false_iff_ne]; intro e; apply hnm2; rw [← e]; congr 1; simp; omega)).mono ?_
          rintro e w' ⟨rfl, rfl⟩
          go_wp2_with fail
          go_ret2
          rw [HE1.out]
          exact ⟨grown_below HK.out.grown (Dr.below0 ⟨n2, rfl⟩), rfl⟩
end Go.Proofs.YtffcapkjfmkkaaaDoor
