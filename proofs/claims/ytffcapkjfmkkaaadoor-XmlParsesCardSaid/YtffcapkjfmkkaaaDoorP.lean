/- The program's own reading, which tests signs at once, against the reference's, which tests them last: pure facts. -/
import Derived.Test.YtffcapkjfmkkaaaDoorE5
namespace Go.Proofs.YtffcapkjfmkkaaaDoor
open Go.RowKit
def goodP (p : Par) : Bool := signsB p.value
def goodN (n : Nod) : Bool := n.attrs.all goodP && signsB n.text
def attrP (s : Bs) : Option (Par × Bs) :=
  match attrS s with
  | none => none
  | some (p, r) => if goodP p then some (p, r) else none
def attrsP : Nat → Bs → List Par → Option (List Par × Bs)
  | 0, _, _ => none
  | f + 1, s, acc =>
    match dropW blankB s with
    | [] => none
    | c :: r =>
      if c = 47 ∨ c = 62 then some (acc, c :: r)
      else if (c :: r).length = s.length then none
      else match attrP (c :: r) with
        | none => none
        | some (p, rest) => attrsP f rest (acc ++ [p])
def closeP (n : Nod) (text : Bs) (kids : List Nod) (rest : Bs) : Option (List Nod × Bs) :=
  if rest.take (2 + n.name.length) = 60 :: 47 :: n.name then
    match pre1 62 (dropW blankB (rest.drop (2 + n.name.length))) with
    | none => none
    | some r =>
      match plainS (trimB text) with
      | none => none
      | some t => some ({ n with text := trimB t } :: kids, r)
  else none
mutual
def elemP : Nat → Bs → Int → Nat → Option (List Nod × Bs)
  | 0, _, _, _ => none
  | f + 1, s, deep, cnt =>
    match pre1 60 s with
    | none => none
    | some s1 =>
      match dropW (notIn [47, 62, 32, 9, 13, 10]) s1 with
      | [] => none
      | c :: r =>
        match attrsP (s1.length + 1) (c :: r) [] with
        | none => none
        | some (ps, s3) =>
          if 8 ≤ deep ∨ 200 ≤ cnt then none
          else match pre2 47 62 s3 with
            | some s4 => some ([⟨deep, takeW (notIn [47, 62, 32, 9, 13, 10]) s1, ps, []⟩], s4)
            | none =>
              match pre1 62 s3 with
              | none => none
              | some s4 => contP f s4 ⟨deep, takeW (notIn [47, 62, 32, 9, 13, 10]) s1, ps, []⟩ cnt
def contP : Nat → Bs → Nod → Nat → Option (List Nod × Bs)
  | 0, _, _, _ => none
  | f + 1, s, n, cnt =>
    match kidsP f s [] (n.deep + 1) (cnt + 1) [] with
    | none => none
    | some (text, kids, rest) => closeP n text kids rest
def kidsP : Nat → Bs → Bs → Int → Nat → List Nod → Option (Bs × List Nod × Bs)
  | 0, _, _, _, _, _ => none
  | f + 1, s, text, deep, cnt, kids =>
    match dropW (notIn [60]) s with
    | [] => none
    | c :: r =>
      match pre2 60 47 (c :: r) with
      | some _ => some (text ++ takeW (notIn [60]) s, kids, c :: r)
      | none =>
        match elemP f (c :: r) deep cnt with
        | none => none
        | some (ms, rest) => kidsP f rest (text ++ takeW (notIn [60]) s) deep (cnt + ms.length) (kids ++ ms)
end
def fil (o : Option (List Nod × Bs)) : Option (List Nod × Bs) :=
  match o with
  | none => none
  | some (ms, r) => if ms.all goodN then some (ms, r) else none
def filK (o : Option (Bs × List Nod × Bs)) : Option (Bs × List Nod × Bs) :=
  match o with
  | none => none
  | some (t, ks, r) => if ks.all goodN then some (t, ks, r) else none
def filA (o : Option (List Par × Bs)) : Option (List Par × Bs) :=
  match o with
  | none => none
  | some (_, []) => none
  | some (ps, c :: r) => if ps.all goodP then some (ps, c :: r) else none
theorem attrsS_more : ∀ (f : Nat) (s : Bs) (acc ps : List Par) (r : Bs), attrsS f s acc = some (ps, r) → ∃ m, ps = acc ++ m := by
  intro f
  induction f with
  | zero => intro s acc ps r h; cases h
  | succ f ih =>
    intro s acc ps r h
    rw [attrsS] at h
    split at h
    · cases h; exact ⟨[], by simp⟩
    · split at h
      · cases h; exact ⟨[], by simp⟩
      · split at h
        · cases h
        · split at h
          · cases h
          · rename_i p r2 h2
            obtain ⟨m, rfl⟩ := ih _ _ _ _ h
            exact ⟨p :: m, by simp⟩
theorem filA_bad (f : Nat) (s : Bs) (acc : List Par) (h : acc.all goodP = false) : filA (attrsS f s acc) = none := by
  cases e : attrsS f s acc with
  | none => rfl
  | some x =>
    obtain ⟨ps, r⟩ := x
    obtain ⟨m, rfl⟩ := attrsS_more _ _ _ _ _ e
    cases r with
    | nil => rfl
    | cons c r => simp only [filA, List.all_append, h, Bool.false_and]; rfl
theorem attrsP_eq : ∀ (f : Nat) (s : Bs) (acc : List Par), acc.all goodP = true → attrsP f s acc = filA (attrsS f s acc) := by
  intro f
  induction f with
  | zero => intro s acc h; rfl
  | succ f ih =>
    intro s acc h
    rw [attrsP, attrsS]
    cases dropW blankB s with
    | nil => rfl
    | cons c r =>
      simp only []
      by_cases h1 : c = 47 ∨ c = 62
      · rw [if_pos h1, if_pos h1]; simp only [filA, h, if_true]
      · rw [if_neg h1, if_neg h1]
        by_cases h2 : (c :: r).length = s.length
        · rw [if_pos h2, if_pos h2]; rfl
        · rw [if_neg h2, if_neg h2]
          unfold attrP
          cases e : attrS (c :: r) with
          | none => rfl
          | some x =>
            obtain ⟨p, rest⟩ := x
            cases hg : goodP p with
            | true =>
              simp only [hg, if_true]
              exact ih _ _ (by rw [List.all_append, h, List.all_cons, hg]; rfl)
            | false =>
              simp only [hg, Bool.false_eq_true, if_false]
              exact (filA_bad _ _ _ (by rw [List.all_append, List.all_cons, hg, Bool.false_and, Bool.and_false])).symm
theorem kidsS_more : ∀ (f : Nat) (s text : Bs) (deep : Int) (cnt : Nat) (kids ks : List Nod) (t r : Bs), kidsS f s text deep cnt kids = some (t, ks, r) → ∃ m, ks = kids ++ m := by
  intro f
  induction f with
  | zero => intro s text deep cnt kids ks t r h; simp [kidsS] at h
  | succ f ih =>
    intro s text deep cnt kids ks t r h
    rw [kidsS] at h
    split at h
    · cases h
    · split at h
      · cases h; exact ⟨[], by simp⟩
      · split at h
        · cases h
        · rename_i ms rest h2
          obtain ⟨m, rfl⟩ := ih _ _ _ _ _ _ _ _ h
          exact ⟨ms ++ m, by simp⟩
theorem filK_bad (f : Nat) (s text : Bs) (deep : Int) (cnt : Nat) (kids : List Nod) (h : kids.all goodN = false) : filK (kidsS f s text deep cnt kids) = none := by
  cases e : kidsS f s text deep cnt kids with
  | none => rfl
  | some x =>
    obtain ⟨t, ks, r⟩ := x
    obtain ⟨m, rfl⟩ := kidsS_more _ _ _ _ _ _ _ _ _ e
    simp only [filK, List.all_append, h, Bool.false_and]; rfl
theorem sign_blank (c : UInt8) (h : blankB c = true) : sign1 c = true := by
  unfold sign1; rw [h]; rfl
theorem signs_append (a b : Bs) : signsB (a ++ b) = (signsB a && signsB b) := by
  induction a with
  | nil => simp [signsB]
  | cons c a ih => simp [signsB, ih, Bool.and_assoc]
theorem signs_rev (a : Bs) : signsB a.reverse = signsB a := by
  induction a with
  | nil => rfl
  | cons c a ih => rw [List.reverse_cons, signs_append, ih]; simp [signsB, Bool.and_comm]
theorem signs_dropW (l : Bs) : signsB (dropW blankB l) = signsB l := by
  induction l with
  | nil => rfl
  | cons c l ih =>
    rw [dropW]; split
    · rename_i h; rw [ih]; simp [signsB, sign_blank c h]
    · rfl
theorem signs_trim (l : Bs) : signsB (trimB l) = signsB l := by
  unfold trimB trimR
  rw [signs_rev, signs_dropW, signs_rev, signs_dropW]
theorem closeP_eq (n : Nod) (text : Bs) (kids : List Nod) (rest : Bs) (hn : n.attrs.all goodP = true) (hk : kids.all goodN = true) : closeP n text kids rest = fil (closeS n text kids rest) := by
  unfold closeP closeS plainS
  split
  · cases readB (trimB text) with
    | none => cases pre1 62 (dropW blankB (rest.drop (2 + n.name.length))) <;> rfl
    | some t =>
      cases pre1 62 (dropW blankB (rest.drop (2 + n.name.length))) with
      | none => rfl
      | some r =>
        have : ({ n with text := trimB t } :: kids).all goodN = signsB t := by
          simp only [List.all_cons, goodN, hn, hk, signs_trim, Bool.true_and, Bool.and_true]
        simp only [fil, this]
        cases signsB t <;> rfl
  · rfl
theorem closeS_bad (n : Nod) (text : Bs) (kids : List Nod) (rest : Bs) (h : n.attrs.all goodP = false ∨ kids.all goodN = false) : fil (closeS n text kids rest) = none := by
  unfold closeS
  split
  · split
    · rename_i t r h1 h2
      have : ({ n with text := trimB t } :: kids).all goodN = false := by
        simp only [List.all_cons, goodN]
        rcases h with h | h <;> simp [h]
      simp only [fil, this]; rfl
    · rfl
  · rfl
theorem contS_bad (f : Nat) (s : Bs) (n : Nod) (cnt : Nat) (h : n.attrs.all goodP = false) : fil (contS f s n cnt) = none := by
  cases f with
  | zero => simp [contS, fil]
  | succ f =>
    rw [contS]
    split
    · rfl
    · exact closeS_bad _ _ _ _ (.inl h)
theorem all_eq (f : Nat) : (∀ s deep cnt, elemP f s deep cnt = fil (elemS f s deep cnt)) ∧ (∀ s n cnt, n.attrs.all goodP = true → contP f s n cnt = fil (contS f s n cnt)) ∧
    (∀ s text deep cnt kids, kids.all goodN = true → kidsP f s text deep cnt kids = filK (kidsS f s text deep cnt kids)) := by
  induction f with
  | zero => exact ⟨fun _ _ _ => by simp [elemP, elemS, fil], fun _ _ _ _ => by simp [contP, contS, fil], fun _ _ _ _ _ _ => by simp [kidsP, kidsS, filK]⟩
  | succ f ih =>
    refine ⟨fun s deep cnt => ?_, fun s n cnt hn => ?_, fun s text deep cnt kids hk => ?_⟩
    · rw [elemP, elemS]
      cases pre1 60 s with
      | none => simp only []; split <;> rfl
      | some s1 =>
        simp only []
        cases dropW (notIn [47, 62, 32, 9, 13, 10]) s1 with
        | nil => simp only []; split <;> rfl
        | cons c r =>
          simp only []
          rw [attrsP_eq _ _ _ rfl]
          cases attrsS (s1.length + 1) (c :: r) [] with
          | none => simp only [filA]; split <;> rfl
          | some x =>
            obtain ⟨ps, s3⟩ := x
            cases s3 with
            | nil => simp only [filA, pre2, pre1]; split <;> rfl
            | cons c3 r3 =>
              simp only [filA]
              cases hg : ps.all goodP with
              | true =>
                simp only [if_true]
                split
                · rfl
                · cases pre2 47 62 (c3 :: r3) with
                  | some s4 => simp only [fil, List.all_cons, goodN, hg, signsB, List.all_nil]; rfl
                  | none =>
                    simp only []
                    cases pre1 62 (c3 :: r3) with
                    | none => rfl
                    | some s4 => exact ih.2.1 _ _ _ hg
              | false =>
                simp only [Bool.false_eq_true, if_false]
                split
                · rfl
                · cases pre2 47 62 (c3 :: r3) with
                  | some s4 => simp only [fil, List.all_cons, goodN, hg, Bool.false_and]; rfl
                  | none =>
                    simp only []
                    cases pre1 62 (c3 :: r3) with
                    | none => rfl
                    | some s4 => exact (contS_bad _ _ _ _ hg).symm
    · rw [contP, contS, ih.2.2 _ _ _ _ _ rfl]
      cases kidsS f s [] (n.deep + 1) (cnt + 1) [] with
      | none => rfl
      | some x =>
        obtain ⟨t, ks, r⟩ := x
        simp only [filK]
        cases hk : ks.all goodN with
        | true => simp only [if_true]; exact closeP_eq _ _ _ _ hn hk
        | false => simp only [Bool.false_eq_true, if_false]; exact (closeS_bad _ _ _ _ (.inr hk)).symm
    · rw [kidsP, kidsS]
      cases dropW (notIn [60]) s with
      | nil => rfl
      | cons c r =>
        simp only []
        cases pre2 60 47 (c :: r) with
        | some x => simp only [filK, hk, if_true]
        | none =>
          simp only []
          rw [ih.1]
          cases elemS f (c :: r) deep cnt with
          | none => rfl
          | some x =>
            obtain ⟨ms, rest⟩ := x
            simp only [fil]
            cases hm : ms.all goodN with
            | true => simp only [if_true]; exact ih.2.2 _ _ _ _ _ (by simp only [List.all_append, hk, hm, Bool.and_true])
            | false => simp only [Bool.false_eq_true, if_false]; exact (filK_bad _ _ _ _ _ _ (by simp only [List.all_append, hm, Bool.and_false])).symm
/-- What the check says of all signs. -/
theorem attrsA_good : ∀ (l pre : List Par), attrsA pre l = true → l.all goodP = true := by
  intro l
  induction l with
  | nil => intro pre h; rfl
  | cons p l ih =>
    intro pre h
    rw [attrsA, Bool.and_eq_true] at h
    have h1 := h.1
    unfold attrOK at h1
    simp only [Bool.and_eq_true] at h1
    rw [List.all_cons, ih _ h.2]
    simp only [goodP, h1.1.2, Bool.and_self]
theorem elem_good (n : Nod) (h : elemOK n = true) : goodN n = true := by
  unfold elemOK at h
  simp only [Bool.and_eq_true] at h
  have h1 := h.1.1.2
  unfold attrsB at h1
  simp only [Bool.and_eq_true] at h1
  simp only [goodN, h.1.2, attrsA_good _ _ h1.2, Bool.and_self]
theorem chain_good : ∀ (ns : List Nod), chainB ns = true → ns.all goodN = true := by
  intro ns
  induction ns with
  | nil => intro _; rfl
  | cons a l ih =>
    intro h
    cases l with
    | nil => simp only [List.all_cons, List.all_nil, elem_good a h, Bool.and_self]
    | cons b l =>
      rw [chainB] at h
      simp only [Bool.and_eq_true] at h
      rw [List.all_cons, ih h.2.2.2, elem_good a h.1]; rfl
theorem check_good (ns : List Nod) (h : checkB ns = true) : ns.all goodN = true := by
  unfold checkB at h
  simp only [Bool.and_eq_true] at h
  exact chain_good ns h.2
def docP (s : Bs) : Option (List Nod) :=
  match prologS s with
  | none => none
  | some s1 =>
    match elemP 9000 (dropW blankB s1) 0 0 with
    | none => none
    | some (ms, r) => if dropW blankB r = [] ∧ checkB ms = true then some ms else none
theorem docP_eq (s : Bs) : docP s = docS s := by
  unfold docP docS
  cases prologS s with
  | none => rfl
  | some s1 =>
    simp only []
    rw [(all_eq 9000).1]
    cases elemS 9000 (dropW blankB s1) 0 0 with
    | none => rfl
    | some x =>
      obtain ⟨ms, r⟩ := x
      simp only [fil]
      cases hg : ms.all goodN with
      | true => simp only [if_true]
      | false =>
        simp only [Bool.false_eq_true, if_false]
        rw [if_neg]
        intro h
        rw [check_good ms h.2] at hg; cases hg
end Go.Proofs.YtffcapkjfmkkaaaDoor
