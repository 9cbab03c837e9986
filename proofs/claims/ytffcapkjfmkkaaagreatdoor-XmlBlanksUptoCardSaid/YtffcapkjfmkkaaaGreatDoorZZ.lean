/- What is parsed is not longer than its text: pure. -/
import Derived.Test.YtffcapkjfmkkaaaGreatDoorZY
namespace Go.Proofs.YtffcapkjfmkkaaaGreatDoor
open Go.RowKit
def szp (p : Par) : Nat := 2 + p.name.length + p.value.length
def szps : List Par → Nat
  | [] => 0
  | p :: l => szp p + szps l
def szn (n : Nod) : Nat := 1 + n.name.length + n.text.length + szps n.attrs
def szns : List Nod → Nat
  | [] => 0
  | n :: l => szn n + szns l
theorem szps_app (a b : List Par) : szps (a ++ b) = szps a + szps b := by
  induction a with
  | nil => simp [szps]
  | cons p a ih => simp [szps, ih]; omega
theorem szns_app (a b : List Nod) : szns (a ++ b) = szns a + szns b := by
  induction a with
  | nil => simp [szns]
  | cons p a ih => simp [szns, ih]; omega
theorem szps_cost (l : List Par) : costPs l ≤ 6 * szps l := by
  induction l with
  | nil => simp [costPs]
  | cons p l ih => simp only [costPs, costP, szps, szp]; omega
theorem szns_cost (l : List Nod) : costs l ≤ 8 * szns l := by
  induction l with
  | nil => simp [costs]
  | cons n l ih => have := szps_cost n.attrs; simp only [costs, costN, szns, szn]; omega
theorem take_drop_len (p : UInt8 → Bool) (l : Bs) : (takeW p l).length + (dropW p l).length = l.length := by
  have := dropW_len p l
  unfold takeW; rw [List.length_take]; omega
theorem trimR_len (l : Bs) : (trimR l).length ≤ l.length := by
  have := dropW_len blankB l.reverse
  unfold trimR; rw [List.length_reverse] at *; exact this
theorem trimB_le2 (l : Bs) : (trimB l).length ≤ l.length := by
  have := dropW_len blankB l
  have := trimR_len (dropW blankB l)
  unfold trimB; omega
theorem readB_le2 (n : Nat) : ∀ (l t : Bs), l.length ≤ n → readB l = some t → t.length ≤ l.length := by
  induction n with
  | zero =>
    intro l t hl h
    have : l = [] := List.eq_nil_of_length_eq_zero (by omega)
    subst this
    simp [readB] at h; subst h; simp
  | succ n ih =>
    intro l t hl h
    cases l with
    | nil => simp [readB] at h; subst h; simp
    | cons c l =>
      rw [readB] at h
      simp only [List.length_cons] at hl
      split at h
      · split at h
        · cases h
        · cases hr : readB (l.drop (entL (fndE l 5).toNat).length) with
          | none => rw [hr] at h; cases h
          | some r =>
            rw [hr] at h
            simp at h; subst h
            have := ih _ _ (by rw [List.length_drop]; omega) hr
            rw [List.length_drop] at this
            simp only [List.length_cons]; omega
      · cases hr : readB l with
        | none => rw [hr] at h; cases h
        | some r =>
          rw [hr] at h
          simp at h; subst h
          have := ih _ _ (by omega) hr
          simp only [List.length_cons]; omega
theorem attrS_sz {l : Bs} {p : Par} {rest : Bs} (h : attrS l = some (p, rest)) : szp p + rest.length ≤ l.length := by
  unfold attrS at h
  split at h
  · cases h
  · rename_i c l1 h1
    split at h
    · cases h
    · rename_i q l2 h2
      split at h
      · split at h
        · cases h
        · rename_i c' r' h3
          split at h
          · split at h
            · cases h
            · rename_i v hv
              cases h
              have a1 := take_drop_len (notIn [61]) l
              have a2 := dropW_len blankB l1
              have a3 := take_drop_len (notIn [q, 60]) l2
              have a4 := trimR_len (takeW (notIn [61]) l)
              have a5 := readB_le2 _ _ _ (Nat.le_refl _) hv
              rw [h1] at a1; rw [h2] at a2; rw [h3] at a3
              simp only [List.length_cons] at a1 a2 a3
              simp only [szp]
              omega
          · cases h
      · cases h
theorem attrsS_sz : ∀ (f : Nat) (s : Bs) (acc ps : List Par) (r : Bs), attrsS f s acc = some (ps, r) → szps ps + r.length ≤ szps acc + s.length := by
  intro f
  induction f with
  | zero => intro s acc ps r h; cases h
  | succ f ih =>
    intro s acc ps r h
    have a1 := dropW_len blankB s
    rw [attrsS] at h
    split at h
    · cases h; simp
    · rename_i c r0 h1
      rw [h1] at a1
      split at h
      · cases h; omega
      · split at h
        · cases h
        · split at h
          · cases h
          · rename_i p r2 h2
            have := ih _ _ _ _ h
            have := attrS_sz h2
            rw [szps_app] at *
            simp only [List.length_cons, szps] at *
            omega
theorem all_sz (f : Nat) : (∀ s deep cnt ms r, elemS f s deep cnt = some (ms, r) → szns ms + r.length ≤ s.length) ∧
    (∀ s n cnt ms r, n.text = [] → contS f s n cnt = some (ms, r) → szns ms + r.length ≤ szn n + s.length) ∧
    (∀ s text deep cnt kids t ks r, kidsS f s text deep cnt kids = some (t, ks, r) → szns ks + t.length + r.length ≤ szns kids + text.length + s.length) := by
  induction f with
  | zero => exact ⟨fun _ _ _ _ _ h => by simp [elemS] at h, fun _ _ _ _ _ _ h => by simp [contS] at h, fun _ _ _ _ _ _ _ _ h => by simp [kidsS] at h⟩
  | succ f ih =>
    refine ⟨fun s deep cnt ms r h => ?_, fun s n cnt ms r hn h => ?_, fun s text deep cnt kids t ks r h => ?_⟩
    · rw [elemS] at h
      split at h
      · cases h
      · split at h
        · cases h
        · rename_i s1 h1
          have e1 := pre1_len h1
          split at h
          · cases h
          · rename_i c r0 h2
            have e2 := take_drop_len (notIn [47, 62, 32, 9, 13, 10]) s1
            rw [h2] at e2
            split at h
            · cases h
            · rename_i ps s3 h3
              have e3 := attrsS_sz _ _ _ _ _ h3
              simp only [szps] at e3
              split at h
              · rename_i s4 h4
                cases h
                have := pre2_len h4
                simp only [szns, szn, List.length_nil]
                omega
              · split at h
                · cases h
                · rename_i s4 h4
                  have := pre1_len h4
                  have := ih.2.1 _ _ _ _ _ rfl h
                  simp only [szn, List.length_nil] at this
                  omega
    · rw [contS] at h
      split at h
      · cases h
      · rename_i text kids rest h1
        have hk := ih.2.2 _ _ _ _ _ _ _ _ h1
        unfold closeS at h
        split at h
        · split at h
          · rename_i t' r' ht hr
            cases h
            have := pre1_len hr
            have := dropW_len blankB (rest.drop (2 + n.name.length))
            have := List.length_drop (l := rest) (i := 2 + n.name.length)
            have := trimB_le2 t'
            have := trimB_le2 text
            have := readB_le2 _ _ _ (Nat.le_refl _) ht
            simp only [szns, szn, List.length_nil, hn] at *
            omega
          · cases h
        · cases h
    · rw [kidsS] at h
      have e1 := take_drop_len (notIn [60]) s
      split at h
      · cases h
      · rename_i c r0 h1
        rw [h1] at e1
        split at h
        · cases h
          rw [List.length_append]; omega
        · split at h
          · cases h
          · rename_i ms rest h2
            have hms := ih.1 _ _ _ _ _ h2
            have hk := ih.2.2 _ _ _ _ _ _ _ _ h
            rw [szns_app, List.length_append] at hk
            omega
theorem docS_facts {s : Bs} {ms : List Nod} (h : docS s = some ms) : checkB ms = true ∧ costs ms ≤ 8 * s.length := by
  unfold docS at h
  split at h
  · cases h
  · rename_i s1 h1
    have hs1 : s1.length ≤ s.length := by
      unfold prologS at h1
      split at h1
      · have := pre2_len h1
        have := dropW_len (notIn [63]) (s.drop 5)
        have := List.length_drop (l := s) (i := 5)
        omega
      · cases h1; exact Nat.le_refl _
    split at h
    · cases h
    · rename_i ms' r he
      split at h
      · rename_i hc
        cases h
        have := (all_sz 9000).1 _ _ _ _ _ he
        have := dropW_len blankB s1
        have := szns_cost ms
        exact ⟨hc.2, by omega⟩
      · cases h
end Go.Proofs.YtffcapkjfmkkaaaGreatDoor
