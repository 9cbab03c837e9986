/- The map of the five names, as plain makes it. -/
import Derived.Test.YtffcapkjfmkkaaaDoorE5
namespace Go.Proofs.YtffcapkjfmkkaaaDoor
open Go.RowKit Go.Maps
theorem zeroU (w : World) : (zeroValue 5).run Tryd.prog w = .ok (.int .u8 0) w := by kernel_rfl
abbrev MU := 85
def entS (k : Nat) : Value := .string ⟨(entN k).toArray⟩
def entV (k : Nat) : Value := .int .u8 (entC k).toNat
theorem entS_key (k : Nat) (h : k < 5) : keyOf Tryd.prog 9 (entS k) = some (Kn (entN k)) :=
  WideMaps.keyOf_string_mk Tryd.underlying9 (by
    have : ∀ k, k < 5 → (⟨(entN k).toArray⟩ : ByteArray).size ≤ maxLen := by decide
    exact this k h)
abbrev Em (w : World) (b n : Nat) (D : DataW Unit) : Prop := w.ownsMap Tryd.prog 9 (plainElem Tryd.prog 5) b n D
theorem put_ent {w : World} {b n : Nat} {D : DataW Unit} (h : Em w b n D) (hn : n < 10) (k : Nat) (hk : k < 5) :
    ∃ w', (Instr.mapUpdate MU (.map (some b)) (entS k) (entV k)).run Tryd.prog w = .ok () w' ∧ Em w' b (n + 1) (D.put (Kn (entN k)) (.lit (.int .u8 (entC k).toNat))) ∧ w.grownBy w' (some b) :=
  World.ownsMap.update h lawS Tryd.underlying85 (by unfold maxLen; omega) (entS_key k hk) (plainElem_int Tryd.underlying5 (by
    have : ∀ k, k < 5 → (Lit.int .u8 (entC k).toNat).wf = true := by decide
    exact this k hk))
set_option maxRecDepth 100000 in
theorem ent_map (w : World) : ∃ w1 w2 w3 w4 w5 : World,
    (Instr.mapUpdate MU (.map (some w.heap.size)) (entS 0) (entV 0)).run Tryd.prog (w.alloc (.map #[] 0)) = .ok () w1 ∧
    (Instr.mapUpdate MU (.map (some w.heap.size)) (entS 1) (entV 1)).run Tryd.prog w1 = .ok () w2 ∧
    (Instr.mapUpdate MU (.map (some w.heap.size)) (entS 2) (entV 2)).run Tryd.prog w2 = .ok () w3 ∧
    (Instr.mapUpdate MU (.map (some w.heap.size)) (entS 3) (entV 3)).run Tryd.prog w3 = .ok () w4 ∧
    (Instr.mapUpdate MU (.map (some w.heap.size)) (entS 4) (entV 4)).run Tryd.prog w4 = .ok () w5 ∧
    (∀ k, k < 5 → (Instr.lookup MU (.map (some w.heap.size)) (entS k) false).run Tryd.prog w5 = .ok (entV k) w5) ∧ Below w.heap.size w w5 := by
  have h0 : Em (w.alloc (.map #[] 0)) w.heap.size 0 (.map []) := World.ownsMap_made _ _ _ _
  obtain ⟨w1, r1, o1, g1⟩ := put_ent h0 (by omega) 0 (by omega)
  obtain ⟨w2, r2, o2, g2⟩ := put_ent o1 (by omega) 1 (by omega)
  obtain ⟨w3, r3, o3, g3⟩ := put_ent o2 (by omega) 2 (by omega)
  obtain ⟨w4, r4, o4, g4⟩ := put_ent o3 (by omega) 3 (by omega)
  obtain ⟨w5, r5, o5, g5⟩ := put_ent o4 (by omega) 4 (by omega)
  refine ⟨w1, w2, w3, w4, w5, r1, r2, r3, r4, r5, fun k hk => ?_, ?_⟩
  · obtain ⟨c, hrun, hat, -⟩ := o5.lookup_int (t := MU) lawS Tryd.underlying85 Tryd.underlying5 (zeroU _) (entS_key k hk)
    rw [hrun]
    have hd : ∀ k, k < 5 → ((((((.map [] : DataW Unit).put (Kn (entN 0)) (.lit (.int .u8 (entC 0).toNat))).put (Kn (entN 1)) (.lit (.int .u8 (entC 1).toNat))).put (Kn (entN 2)) (.lit (.int .u8 (entC 2).toNat))).put (Kn (entN 3)) (.lit (.int .u8 (entC 3).toNat))).put (Kn (entN 4)) (.lit (.int .u8 (entC 4).toNat))).atKey (Kn (entN k)) (.lit (.int .u8 0)) = .lit (.int .u8 (entC k).toNat) := by
      intro k hk
      match k, hk with
      | 0, _ => rfl
      | 1, _ => rfl
      | 2, _ => rfl
      | 3, _ => rfl
      | 4, _ => rfl
    rw [hd k hk] at hat
    injection hat with hat; injection hat with _ hat
    rw [← hat]; rfl
  · have hg := (((g1.trans g2).trans g3).trans g4).trans g5
    exact ((Below.refl _ _).alloc (Nat.le_refl _) _).grown hg (by simp) (fun k hk => by cases hk; exact Nat.le_refl _)
end Go.Proofs.YtffcapkjfmkkaaaDoor
