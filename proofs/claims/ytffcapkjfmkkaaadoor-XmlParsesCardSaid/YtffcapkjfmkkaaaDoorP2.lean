/- How many attributes an element of a text can have: pure facts. -/
import Derived.Test.YtffcapkjfmkkaaaDoorP
namespace Go.Proofs.YtffcapkjfmkkaaaDoor
open Go.RowKit
theorem attrsS_cnt : ∀ (f : Nat) (s : Bs) (acc ps : List Par) (r : Bs), attrsS f s acc = some (ps, r) → ps.length + r.length ≤ acc.length + s.length := by
  intro f
  induction f with
  | zero => intro s acc ps r h; cases h
  | succ f ih =>
    intro s acc ps r h
    have a1 := dropW_len blankB s
    rw [attrsS] at h
    split at h
    · cases h; simp
    · rename_i c r0 h1
      rw [h1] at a1
      split at h
      · cases h; omega
      · split at h
        · cases h
        · split at h
          · cases h
          · rename_i p r2 h2
            have := ih _ _ _ _ h
            have := attrS_len h2
            rw [List.length_append] at *
            simp only [List.length_cons, List.length_nil] at *
            omega
theorem all_attrs (M f : Nat) : (∀ s deep cnt ms r, s.length ≤ M → elemS f s deep cnt = some (ms, r) → ∀ n ∈ ms, n.attrs.length ≤ M) ∧
    (∀ s n cnt ms r, s.length ≤ M → n.attrs.length ≤ M → contS f s n cnt = some (ms, r) → ∀ n ∈ ms, n.attrs.length ≤ M) ∧
    (∀ s text deep cnt kids t ks r, s.length ≤ M → (∀ n ∈ kids, n.attrs.length ≤ M) → kidsS f s text deep cnt kids = some (t, ks, r) → ∀ n ∈ ks, n.attrs.length ≤ M) := by
  induction f with
  | zero => exact ⟨fun _ _ _ _ _ _ h => by simp [elemS] at h, fun _ _ _ _ _ _ _ h => by simp [contS] at h, fun _ _ _ _ _ _ _ _ _ _ h => by simp [kidsS] at h⟩
  | succ f ih =>
    refine ⟨fun s deep cnt ms r hs h => ?_, fun s n cnt ms r hs hn h => ?_, fun s text deep cnt kids t ks r hs hk h => ?_⟩
    · rw [elemS] at h
      split at h
      · cases h
      · split at h
        · cases h
        · rename_i s1 h1
          have e1 := pre1_len h1
          split at h
          · cases h
          · rename_i c r0 h2
            have e2 := dropW_len (notIn [47, 62, 32, 9, 13, 10]) s1
            rw [h2] at e2
            split at h
            · cases h
            · rename_i ps s3 h3
              have e3 := attrsS_cnt _ _ _ _ _ h3
              simp only [List.length_nil] at e3
              split at h
              · cases h
                intro n hn
                simp at hn; subst hn
                show ps.length ≤ M
                omega
              · split at h
                · cases h
                · rename_i s4 h4
                  have := pre1_len h4
                  exact ih.2.1 _ _ _ _ _ (by omega) (by show ps.length ≤ M; omega) h
    · rw [contS] at h
      split at h
      · cases h
      · rename_i text kids rest h1
        have hk := ih.2.2 _ _ _ _ _ _ _ _ hs (by simp) h1
        unfold closeS at h
        split at h
        · split at h
          · cases h
            intro k hkm
            rcases List.mem_cons.1 hkm with rfl | hkm
            · exact hn
            · exact hk k hkm
          · cases h
        · cases h
    · rw [kidsS] at h
      have e1 := dropW_len (notIn [60]) s
      split at h
      · cases h
      · rename_i c r0 h1
        rw [h1] at e1
        split at h
        · cases h; exact hk
        · split at h
          · cases h
          · rename_i ms rest h2
            have hms := ih.1 _ _ _ _ _ (by omega) h2
            have hl := (all_len f).1 _ _ _ _ _ h2
            refine ih.2.2 _ _ _ _ _ _ _ _ (by omega) ?_ h
            intro n hn
            rcases List.mem_append.1 hn with hn | hn
            · exact hk n hn
            · exact hms n hn
theorem elemP_attrs {f : Nat} {s : Bs} {deep : Int} {cnt : Nat} {ms : List Nod} {r : Bs} (h : elemP f s deep cnt = some (ms, r)) : ∀ n ∈ ms, n.attrs.length ≤ s.length := by
  rw [(all_eq f).1] at h
  unfold fil at h
  split at h
  · cases h
  · rename_i ms' r' he
    split at h
    · cases h; exact (all_attrs s.length f).1 _ _ _ _ _ (Nat.le_refl _) he
    · cases h
end Go.Proofs.YtffcapkjfmkkaaaDoor
