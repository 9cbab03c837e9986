/- What a name between & and ; stands for: pure facts. -/
import Derived.Test.YtffcapkjfmkkaaaDoorE4
import Derived.Lib.IndexMore
namespace Go.Proofs.YtffcapkjfmkkaaaDoor
open Go.RowKit
def entN : Nat → Bs
  | 0 => [97, 109, 112]
  | 1 => [108, 116]
  | 2 => [103, 116]
  | 3 => [113, 117, 111, 116]
  | _ => [97, 112, 111, 115]
theorem entL_N (k : Nat) (h : k < 5) : entL k = entN k ++ [59] := by
  match k, h with
  | 0, _ => rfl
  | 1, _ => rfl
  | 2, _ => rfl
  | 3, _ => rfl
  | 4, _ => rfl
def entT : Bs := [32, 97, 109, 112, 32, 108, 116, 32, 103, 116, 32, 113, 117, 111, 116, 32, 97, 112, 111, 115, 32]
theorem fndE_ent (k : Nat) (h : k < 5) (r : Bs) : fndE (entL k ++ r) 5 = k := by
  match k, h with
  | 0, _ => simp [fndE, entL]
  | 1, _ => simp [fndE, entL]
  | 2, _ => simp [fndE, entL]
  | 3, _ => simp [fndE, entL]
  | 4, _ => simp [fndE, entL]
theorem cut_ent (k : Nat) (h : k < 5) (r : Bs) : Lib.cut (entL k ++ r) [59] = (entN k, r, true) := by
  match k, h with
  | 0, _ => simp [Lib.cut, Lib.index, entL, entN, List.isPrefixOf]
  | 1, _ => simp [Lib.cut, Lib.index, entL, entN, List.isPrefixOf]
  | 2, _ => simp [Lib.cut, Lib.index, entL, entN, List.isPrefixOf]
  | 3, _ => simp [Lib.cut, Lib.index, entL, entN, List.isPrefixOf]
  | 4, _ => simp [Lib.cut, Lib.index, entL, entN, List.isPrefixOf]
theorem occ_one (l : Bs) (i : Nat) (c : UInt8) (h : Lib.occAt l [c] i = true) : l.drop i = c :: l.drop (i + 1) := by
  unfold Lib.occAt at h
  cases e : l.drop i with
  | nil => rw [e] at h; simp [List.isPrefixOf] at h
  | cons x t =>
    rw [e] at h; simp [List.isPrefixOf] at h
    have : l.drop (i + 1) = t := by rw [← List.drop_drop, e]; rfl
    rw [this, h]
/-- The name is one of the five, and a semicolon stands behind it. -/
theorem ent_of_cut (l : Bs) (k : Nat) (hk : k < 5) (h1 : (Lib.cut l [59]).2.2 = true) (h2 : (Lib.cut l [59]).1 = entN k) : l = entL k ++ (Lib.cut l [59]).2.1 := by
  unfold Lib.cut at *
  split at h1
  · rename_i h0
    rw [if_pos h0] at h2 ⊢
    rcases Lib.index_spec l [59] with ⟨e, -⟩ | ⟨i, e, hi, ho, -⟩
    · rw [e] at h0; exact absurd h0 (by decide)
    · rw [e] at h2 ⊢
      simp only [Int.toNat_natCast] at h2 ⊢
      have := occ_one l i 59 ho
      rw [entL_N k hk, ← h2]
      conv => lhs; rw [← List.take_append_drop i l, this]
      simp
  · simp at h1
theorem word_of (w n m : Bs) (hw : 32 ∉ w) (hn : 32 ∉ n) (h : (n ++ [32]).isPrefixOf (w ++ 32 :: m) = true) : n = w := by
  induction w generalizing n with
  | nil =>
    cases n with
    | nil => rfl
    | cons c n => simp [List.isPrefixOf] at h; exact absurd (by rw [h.1]; simp) hn
  | cons c w ih =>
    cases n with
    | nil => simp [List.isPrefixOf] at h; exact absurd (by rw [h]; simp) hw
    | cons d n =>
      simp [List.isPrefixOf] at h
      have := ih n (fun h' => hw (List.mem_cons_of_mem _ h')) (fun h' => hn (List.mem_cons_of_mem _ h')) (by simpa [List.isPrefixOf] using h.2)
      rw [h.1, this]
/-- Which of the five names it is. -/
def entK (n : Bs) : Nat := if n = entN 0 then 0 else if n = entN 1 then 1 else if n = entN 2 then 2 else if n = entN 3 then 3 else if n = entN 4 then 4 else 5
theorem entK_N (k : Nat) (h : k < 5) : entK (entN k) = k := by
  match k, h with
  | 0, _ => rfl
  | 1, _ => rfl
  | 2, _ => rfl
  | 3, _ => rfl
  | 4, _ => rfl
theorem N_entK (n : Bs) (h : entK n < 5) : n = entN (entK n) := by
  unfold entK at *
  repeat' split at h
  all_goals simp_all
theorem table_index (n : Bs) (hn : 32 ∉ n) (h0 : n ≠ []) : decide (Lib.index entT (32 :: (n ++ [32])) < 0) = !decide (entK n < 5) := by
  rcases Lib.index_spec entT (32 :: (n ++ [32])) with ⟨e, hno⟩ | ⟨i, e, hi, ho, -⟩
  · have : ¬ entK n < 5 := by
      intro hk
      have he := N_entK n hk
      generalize entK n = k at hk he
      subst he
      have : ∀ k, k < 5 → ∃ j, j ≤ entT.length ∧ Lib.occAt entT (32 :: (entN k ++ [32])) j = true := by decide
      obtain ⟨j, hj, ho⟩ := this k hk
      rw [hno j hj] at ho; cases ho
    simp [e, this]
  · have hk : entK n < 5 := by
      unfold Lib.occAt at ho
      have hlen : entT.length = 21 := rfl
      rw [hlen] at hi
      have key : ∀ j, j ≤ 21 → (∃ k, k < 5 ∧ ∃ m, entT.drop j = 32 :: (entN k ++ 32 :: m)) ∨ (entT.drop j).head? ≠ some 32 ∨ entT.drop j = [32] := by
        intro j hj
        have : ∀ j, j ≤ 21 → (∃ k, k < 5 ∧ (entT.drop j).take ((entN k).length + 2) = 32 :: (entN k ++ [32])) ∨ (entT.drop j).head? ≠ some 32 ∨ entT.drop j = [32] := by decide
        rcases this j hj with ⟨k, hk, ht⟩ | h | h
        · refine .inl ⟨k, hk, (entT.drop j).drop ((entN k).length + 2), ?_⟩
          conv => lhs; rw [← List.take_append_drop ((entN k).length + 2) (entT.drop j), ht]
          simp
        · exact .inr (.inl h)
        · exact .inr (.inr h)
      rcases key i hi with ⟨k, hk, m, hd⟩ | h | h
      · rw [hd] at ho
        simp only [List.isPrefixOf, beq_self_eq_true, Bool.true_and] at ho
        have hw : ∀ k, k < 5 → 32 ∉ entN k := by decide
        have := word_of (entN k) n m (hw k hk) hn ho
        rw [this, entK_N k hk]; exact hk
      · cases hd : entT.drop i with
        | nil => rw [hd] at ho; simp [List.isPrefixOf] at ho
        | cons c t => rw [hd] at ho h; simp [List.isPrefixOf] at ho; exact absurd (by simp [ho.1]) h
      · rw [h] at ho
        simp [List.isPrefixOf] at ho
    simp [e, hk]
/-- What stands behind & names a sign. -/
def entOK (l : Bs) : Bool := (Lib.cut l [59]).2.2 && decide (entK (Lib.cut l [59]).1 < 5)
theorem fndE_ok (l : Bs) (h : entOK l = true) : fndE l 5 = entK (Lib.cut l [59]).1 ∧ l.drop (entL (entK (Lib.cut l [59]).1)).length = (Lib.cut l [59]).2.1 := by
  unfold entOK at h; simp at h
  have hl := ent_of_cut l _ h.2 h.1 (N_entK _ h.2)
  generalize (Lib.cut l [59]).2.1 = r at *
  generalize hk : entK (Lib.cut l [59]).1 = k at *
  rw [hl]
  exact ⟨fndE_ent k h.2 r, by simp⟩
theorem fndE_bad (l : Bs) (h : entOK l = false) : fndE l 5 < 0 := by
  by_cases h0 : fndE l 5 < 0
  · exact h0
  · exfalso
    obtain ⟨k, hk⟩ : ∃ k : Nat, fndE l 5 = k := ⟨(fndE l 5).toNat, by omega⟩
    have h5 := (fndE_lt l 5).2
    have ht := fndE_at l 5 k hk
    have hl : l = entL k ++ l.drop (entL k).length := by conv => lhs; rw [← List.take_append_drop (entL k).length l, ht]
    have := cut_ent k (by omega) (l.drop (entL k).length)
    rw [← hl] at this
    unfold entOK at h
    rw [this, entK_N k (by omega)] at h
    simp at h; omega
theorem readB_ent (l : Bs) (h : entOK l = true) : readB (38 :: l) = (readB (Lib.cut l [59]).2.1).map (entC (entK (Lib.cut l [59]).1) :: ·) := by
  have := fndE_ok l h
  rw [readB, if_pos rfl, if_neg (by omega), this.1, Int.toNat_natCast, this.2]
theorem readB_bad (l : Bs) (h : entOK l = false) : readB (38 :: l) = none := by
  rw [readB, if_pos rfl, if_pos (fndE_bad l h)]
theorem readB_pre (p l : Bs) (h : 38 ∉ p) : readB (p ++ l) = (readB l).map (p ++ ·) := by
  induction p with
  | nil => rw [List.nil_append]; cases readB l <;> rfl
  | cons c p ih =>
    have hc : ¬ c = 38 := fun e => h (by rw [e]; simp)
    rw [List.cons_append, readB, if_neg hc, ih (fun h' => h (List.mem_cons_of_mem _ h'))]
    cases readB l <;> rfl
theorem readB_plain (p : Bs) (h : 38 ∉ p) : readB p = some p := by
  have := readB_pre p [] h
  rw [List.append_nil, show readB [] = some [] from by rw [readB]] at this
  rw [this]; simp
def plainS (l : Bs) : Option Bs := match readB l with
  | none => none
  | some t => if signsB t then some t else none
end Go.Proofs.YtffcapkjfmkkaaaDoor
