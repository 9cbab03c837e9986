/- An element and what stands in it: the document of a text, as a function. -/
import Derived.Test.YtffcapkjfmkkaaaDoorB3
namespace Go.Proofs.YtffcapkjfmkkaaaDoor
open Go.RowKit
/-- The attributes behind a name; what is left begins with / or >, or is empty. -/
def attrsS : Nat → Bs → List Par → Option (List Par × Bs)
  | 0, _, _ => none
  | f + 1, s, acc =>
    match dropW blankB s with
    | [] => some (acc, [])
    | c :: r =>
      if c = 47 ∨ c = 62 then some (acc, c :: r)
      else if (c :: r).length = s.length then none
      else match attrS (c :: r) with
        | none => none
        | some (p, rest) => attrsS f rest (acc ++ [p])
def pre2 (a b : UInt8) : Bs → Option Bs
  | c :: d :: r => if c = a ∧ d = b then some r else none
  | _ => none
def pre1 (a : UInt8) : Bs → Option Bs
  | c :: r => if c = a then some r else none
  | _ => none
/-- Behind an element's name at its end. -/
def closeS (n : Nod) (text : Bs) (kids : List Nod) (rest : Bs) : Option (List Nod × Bs) :=
  if rest.take (2 + n.name.length) = 60 :: 47 :: n.name then
    match readB (trimB text), pre1 62 (dropW blankB (rest.drop (2 + n.name.length))) with
    | some t, some r => some ({ n with text := trimB t } :: kids, r)
    | _, _ => none
  else none
mutual
/-- An element ahead, and what is left. -/
def elemS : Nat → Bs → Int → Nat → Option (List Nod × Bs)
  | 0, _, _, _ => none
  | f + 1, s, deep, cnt =>
    if 8 ≤ deep ∨ 200 ≤ cnt then none
    else match pre1 60 s with
      | none => none
      | some s1 =>
        match dropW (notIn [47, 62, 32, 9, 13, 10]) s1 with
        | [] => none
        | c :: r =>
          match attrsS (s1.length + 1) (c :: r) [] with
          | none => none
          | some (ps, s3) =>
            match pre2 47 62 s3 with
            | some s4 => some ([⟨deep, takeW (notIn [47, 62, 32, 9, 13, 10]) s1, ps, []⟩], s4)
            | none =>
              match pre1 62 s3 with
              | none => none
              | some s4 => contS f s4 ⟨deep, takeW (notIn [47, 62, 32, 9, 13, 10]) s1, ps, []⟩ cnt
/-- What stands in an element, and its end. -/
def contS : Nat → Bs → Nod → Nat → Option (List Nod × Bs)
  | 0, _, _, _ => none
  | f + 1, s, n, cnt =>
    match kidsS f s [] (n.deep + 1) (cnt + 1) [] with
    | none => none
    | some (text, kids, rest) => closeS n text kids rest
/-- Texts and elements by turns, up to </. -/
def kidsS : Nat → Bs → Bs → Int → Nat → List Nod → Option (Bs × List Nod × Bs)
  | 0, _, _, _, _, _ => none
  | f + 1, s, text, deep, cnt, kids =>
    match dropW (notIn [60]) s with
    | [] => none
    | c :: r =>
      match pre2 60 47 (c :: r) with
      | some _ => some (text ++ takeW (notIn [60]) s, kids, c :: r)
      | none =>
        match elemS f (c :: r) deep cnt with
        | none => none
        | some (ms, rest) => kidsS f rest (text ++ takeW (notIn [60]) s) deep (cnt + ms.length) (kids ++ ms)
end
theorem dropW_head {p : UInt8 → Bool} {l r : Bs} {c : UInt8} (h : dropW p l = c :: r) : p c = false := by
  induction l with
  | nil => cases h
  | cons x l ih =>
    unfold dropW at h; split at h
    · exact ih h
    · cases h; rename_i hx; simpa using hx
theorem notIn_one {a c : UInt8} (h : notIn [a] c = false) : c = a := by
  unfold notIn at h; simp [hasB] at h; exact h.symm
theorem pre2_take (a b : UInt8) (l : Bs) : (l.take 2 == [a, b]) = (pre2 a b l).isSome := by
  unfold pre2
  match l with
  | [] => rfl
  | [x] => simp
  | x :: y :: r => by_cases h1 : x = a <;> by_cases h2 : y = b <;> simp [h1, h2]
theorem pre1_take (a : UInt8) (l : Bs) : (l.take 1 == [a]) = (pre1 a l).isSome := by
  unfold pre1
  match l with
  | [] => rfl
  | x :: r => by_cases h1 : x = a <;> simp [h1]
theorem attrS_len {l : Bs} {p : Par} {rest : Bs} (h : attrS l = some (p, rest)) : rest.length + 2 ≤ l.length := by
  unfold attrS at h
  split at h
  · cases h
  · rename_i c l1 h1
    split at h
    · cases h
    · rename_i q l2 h2
      split at h
      · split at h
        · cases h
        · rename_i c' r' h3
          split at h
          · split at h
            · cases h
            · cases h
              have a1 := dropW_len (notIn [61]) l
              have a2 := dropW_len blankB l1
              have a3 := dropW_len (notIn [q, 60]) l2
              rw [h1] at a1; rw [h2] at a2; rw [h3] at a3
              simp at a1 a2 a3
              omega
          · cases h
      · cases h
theorem attrsS_len : ∀ (f : Nat) (s : Bs) (acc ps : List Par) (rest : Bs), attrsS f s acc = some (ps, rest) → rest.length ≤ s.length := by
  intro f
  induction f with
  | zero => intro s acc ps rest h; cases h
  | succ f ih =>
    intro s acc ps rest h
    have a1 := dropW_len blankB s
    unfold attrsS at h
    split at h
    · cases h; simp
    · rename_i c r h1
      rw [h1] at a1
      split at h
      · cases h; exact a1
      · split at h
        · cases h
        · split at h
          · cases h
          · rename_i p r2 h2
            have := ih _ _ _ _ h
            have := attrS_len h2
            omega
theorem pre1_len {a : UInt8} {s r : Bs} (h : pre1 a s = some r) : s.length = r.length + 1 := by
  unfold pre1 at h; split at h
  · split at h <;> cases h; simp
  · cases h
theorem pre2_len {a b : UInt8} {s r : Bs} (h : pre2 a b s = some r) : s.length = r.length + 2 := by
  unfold pre2 at h; split at h
  · split at h <;> cases h; simp
  · cases h
theorem closeS_len {n : Nod} {text : Bs} {kids : List Nod} {rest : Bs} {ms : List Nod} {r : Bs} (h : closeS n text kids rest = some (ms, r)) : r.length ≤ rest.length := by
  unfold closeS at h; split at h
  · split at h
    · rename_i t r' h1 h2
      cases h
      have := pre1_len h2
      have := dropW_len blankB (rest.drop (2 + n.name.length))
      have := List.length_drop (l := rest) (i := 2 + n.name.length)
      omega
    · cases h
  · cases h
theorem all_len (f : Nat) : (∀ s deep cnt ms r, elemS f s deep cnt = some (ms, r) → r.length < s.length) ∧ (∀ s n cnt ms r, contS f s n cnt = some (ms, r) → r.length ≤ s.length) ∧
    (∀ s text deep cnt kids t ks r, kidsS f s text deep cnt kids = some (t, ks, r) → r.length ≤ s.length) := by
  induction f with
  | zero => exact ⟨fun _ _ _ _ _ h => by simp [elemS] at h, fun _ _ _ _ _ h => by simp [contS] at h, fun _ _ _ _ _ _ _ _ h => by simp [kidsS] at h⟩
  | succ f ih =>
    refine ⟨fun s deep cnt ms r h => ?_, fun s n cnt ms r h => ?_, fun s text deep cnt kids t ks r h => ?_⟩
    · rw [elemS] at h
      split at h
      · cases h
      · split at h
        · cases h
        · rename_i s1 h1
          have e1 := pre1_len h1
          split at h
          · cases h
          · rename_i c r0 h2
            have e2 := dropW_len (notIn [47, 62, 32, 9, 13, 10]) s1
            rw [h2] at e2
            split at h
            · cases h
            · rename_i ps s3 h3
              have e3 := attrsS_len _ _ _ _ _ h3
              split at h
              · rename_i s4 h4
                cases h
                have := pre2_len h4
                omega
              · split at h
                · cases h
                · rename_i s4 h4
                  have := pre1_len h4
                  have := ih.2.1 _ _ _ _ _ h
                  omega
    · rw [contS] at h
      split at h
      · cases h
      · rename_i text kids rest h1
        have := ih.2.2 _ _ _ _ _ _ _ _ h1
        have := closeS_len h
        omega
    · rw [kidsS] at h
      split at h
      · cases h
      · rename_i c r0 h1
        have e1 := dropW_len (notIn [60]) s
        rw [h1] at e1
        split at h
        · cases h; exact e1
        · split at h
          · cases h
          · rename_i ms rest h2
            have := ih.1 _ _ _ _ _ h2
            have := ih.2.2 _ _ _ _ _ _ _ _ h
            omega
end Go.Proofs.YtffcapkjfmkkaaaDoor
