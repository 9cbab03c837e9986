/- Which attributes may be, as the program has it. -/
import Derived.Test.YtffcapkjfmkkaaaDoorD2
import Derived.Maps.Own
import Derived.Maps.OwnOps
import Derived.Maps.OwnSet
import Derived.Maps.Views
import Derived.Maps.Keyed
namespace Go.Proofs.YtffcapkjfmkkaaaDoor
open Go.RowKit Go.Maps
theorem lawS : Keyed Tryd.prog 9 := string_keyed Tryd.underlying9
theorem zeroI (w : World) : (zeroValue 3).run Tryd.prog w = .ok (.int .i64 0) w := by kernel_rfl
abbrev Kn (l : Bs) : Lit := .string l
/-- What the map of names holds. -/
def Seen (D : DataW Unit) (ps : List Par) : Prop := ∀ n : Bs, D.atKey (Kn n) (.lit (.int .i64 0)) = .lit (.int .i64 (if ps.any fun q => q.name == n then 1 else 0))
theorem Seen.nil : Seen (.map []) [] := fun _ => rfl
theorem Seen.snoc {D : DataW Unit} {ps : List Par} (h : Seen D ps) (hm : IsMap D) (p : Par) : Seen (D.put (Kn p.name) (.lit (.int .i64 1))) (ps ++ [p]) := by
  intro n
  by_cases e : n = p.name
  · subst e
    rw [atKey_put_same hm (by trivial)]; simp
  · rw [atKey_put_other (by simpa [Kn] using e), h n]
    have : (p.name == n) = false := by simp; exact fun h => e h.symm
    simp [this]
theorem Name_val (l : Bs) (w : World) (hs : l.length ≤ maxLen) (b : Bool) (h : nameB l = b) :
    Calls Tryd.prog 37 #[.string ⟨l.toArray⟩] w fun e w' => e = .returned (.bool b) ∧ Below w.heap.size w w' := by
  subst h; exact Name_walk ⟨l.toArray⟩ w hs
theorem signs_val (l : Bs) (w : World) (hs : l.length ≤ maxLen) (b : Bool) (h : signsB l = b) :
    Calls Tryd.prog 39 #[.string ⟨l.toArray⟩] w fun e w' => e = .returned (.bool b) ∧ Dr w w' := by
  subst h; exact signs_walk ⟨l.toArray⟩ w hs
theorem var_cell {w w1 : World} {cs : Array Value} {T : TypeId} {row : Option Nat} (hg : (w.alloc (.cells cs T)).grownBy w1 row) (hne : some w.heap.size ≠ row) (j : Nat) : w1.cell? ⟨w.heap.size, j, none⟩ = cs[j]? :=
  blk_cell (by rw [hg.block _ (by simp) hne]; exact heap_alloc_new w _) j
set_option maxRecDepth 100000 in
set_option maxHeartbeats 4000000 in
theorem attrs_walk (u : Value) (ps : List Par) (w : World) (hp : RPar w u ps) (hlen : ps.length < maxLen) :
    Calls Tryd.prog 38 #[u] w fun e w' => e = .returned (.bool (attrsB ps)) ∧ Below w.heap.size w w' := by
  unfold maxLen at hlen
  have hp0 := hp
  obtain ⟨A, c, rfl, -, hm, -⟩ := hp
  have hmm := @run_makeMap Tryd.prog
  go_enter Tryd.func38, Tryd.ntmps38
  go_wp2
  go_loopw [9, 5] (fun i _ wr => ∃ (k : Nat) (D : DataW Unit), k ≤ ps.length ∧ i = .int .i64 k ∧ attrsA [] ps = attrsA (ps.take k) (ps.drop k) ∧ wr.ownsMap Tryd.prog 9 (plainElem Tryd.prog 3) w.heap.size k D ∧ Seen D (ps.take k) ∧ Below w.heap.size w wr) (fun i _ _ => ps.length - (intOf i).toNat)
  case atStart => exact ⟨0, _, by omega, rfl, rfl, World.ownsMap_made _ _ _ _, Seen.nil, (Below.refl _ _).alloc (Nat.le_refl _) _⟩
  case round =>
    obtain ⟨k, D, hk, rfl, ht, hown, hseen, hb⟩ := hrel
    have HT := Lib.hid ht
    have HS := Lib.hid hseen
    have HO := Lib.hid hown
    clear ht hseen hown
    have hne : some wr.heap.size ≠ some w.heap.size := by intro e; injection e with e; have := HO.out.lt; omega
    by_cases hlt : k < ps.length
    · have HA := Lib.hid (attrsA_at ps k hlt)
      obtain ⟨a, rfl, a0, a1, a2, n1, n2⟩ := (hp0.keep hb).at_ k hlt
      have HN := Lib.hid n1
      have HV := Lib.hid n2
      clear n1 n2
      have hkey : Hid (keyOf Tryd.prog 9 (.string ⟨ps[k].name.toArray⟩) = some (Kn ps[k].name)) := WideMaps.keyOf_string_mk Tryd.underlying9 HN.out
      have hn := HS.out ps[k].name
      have ret0 : attrOK (ps.take k) ps[k] = false → ∀ w', Below w.heap.size w w' → (Ending.returned (.bool false) = .returned (.bool (attrsB ps)) ∧ Below w.heap.size w w') := fun h w' h' => ⟨ret_bool (by unfold attrsB; rw [HT.out, HA.out, h]; simp), h'⟩
      have HR := Lib.hid ret0
      clear ret0
      cases hany : ((ps.take k).any fun q => q.name == ps[k].name)
      · rw [hany] at hn
        have HAT := Lib.hid hn
        have HANY := Lib.hid hany
        clear hn hany
        go_wp2_with (first
          | (at_lookup; refine wpList_lookup_own_int _ rfl _ _ 87 rfl 9 3 .i64 lawS Tryd.underlying87 Tryd.underlying3 (zeroI _) w.heap.size k D rfl (HO.out.alloc _) _ _ rfl hkey.out ?_; intro c hat hwc; obtain rfl : c = 0 := by (rw [HAT.out] at hat; injection hat with hat; injection hat with _ hat; exact hat.symm))
          | (at_mapUpdate; refine wpList_mapUpdate_own _ rfl _ _ _ 87 rfl 9 3 lawS Tryd.underlying87 _ w.heap.size k D rfl (HO.out.alloc _) (by unfold maxLen; omega) _ _ _ rfl rfl hkey.out _ [] (plainElem_int Tryd.underlying3 (by decide)) ?_; intro w1 hown1 hgrow1; have v0 := var_cell hgrow1 hne 0; have v1 := var_cell hgrow1 hne 1; have v2 := var_cell hgrow1 hne 2)
          | fail)
        have hb1 := (Below.alloc hb hb.size _).grown hgrow1 (Nat.le_trans hb.size (by simp)) (fun j hj => by cases hj; exact Nat.le_refl _)
        have HW := Lib.hid hown1
        have HB := Lib.hid hb1
        clear hown1 hgrow1 hb1
        generalize hbn : nameB ps[k].name = bn
        have HBN := Lib.hid hbn
        refine (Name_val _ _ HN.out bn hbn).mono ?_
        clear hbn
        rintro e w2 ⟨rfl, hb2⟩
        have HB2 := Lib.hid (HB.out.trans (hb2.mono HB.out.size))
        have u0 := cell_keep hb2 v0
        have u1 := cell_keep hb2 v1
        have u2' := cell_keep hb2 v2
        obtain ⟨c2, hrun, hat2, hwc2⟩ := (HW.out.kept (below_grown hb2) (by simp)).lookup_int (t := 87) lawS Tryd.underlying87 Tryd.underlying3 (zeroI _) hkey.out
        rw [atKey_put_same HO.out.isMap (by trivial)] at hat2
        have hc2 : c2 = 0 + 1 := by injection hat2 with hat2; injection hat2 with _ hat2; exact hat2.symm
        subst hc2
        have HW2 := Lib.hid (HW.out.kept (below_grown hb2) (by simp))
        clear hat2 hwc2 v0 v1 v2 hb2
        cases bn
        · go_wp2_with fail
          go_ret
          exact HR.out (by simp [attrOK, HBN.out]) _ HB2.out
        · cases hh : ps[k].has
          · rw [hh] at u2'
            have HH := Lib.hid hh
            clear hh
            go_wp2_with fail
            go_ret
            exact HR.out (by simp [attrOK, HH.out]) _ HB2.out
          · rw [hh] at u2'
            have HH := Lib.hid hh
            clear hh
            go_wp2_with fail
            generalize hbs : signsB ps[k].value = bs
            have HBS := Lib.hid hbs
            refine (signs_val _ _ HV.out bs hbs).mono ?_
            clear hbs
            rintro e w3 ⟨rfl, m, rfl⟩
            cases bs
            · go_wp2_with fail
              go_ret
              exact HR.out (by simp [attrOK, HBS.out]) _ (Dr.below ⟨_, rfl⟩ HB2.out)
            · go_wp2_with fail
              refine ⟨⟨k + 1, _, by omega, by go_num, ?_, (HW2.out.kept (below_grown (Dr.below0 ⟨m, rfl⟩)) (by simp)), ?_, Dr.below ⟨_, rfl⟩ HB2.out⟩, by simp [intOf]; omega⟩
              · rw [HT.out, HA.out]; simp [attrOK, HBN.out, HBS.out, HH.out, HANY.out]
              · rw [List.take_succ_eq_append_getElem hlt]; exact HS.out.snoc HO.out.isMap _
      · rw [hany] at hn
        have HAT := Lib.hid hn
        have HANY := Lib.hid hany
        clear hn hany
        go_wp2_with (first
          | (at_lookup; refine wpList_lookup_own_int _ rfl _ _ 87 rfl 9 3 .i64 lawS Tryd.underlying87 Tryd.underlying3 (zeroI _) w.heap.size k D rfl (HO.out.alloc _) _ _ rfl hkey.out ?_; intro c hat hwc; obtain rfl : c = 1 := by (rw [HAT.out] at hat; injection hat with hat; injection hat with _ hat; exact hat.symm))
          | (at_mapUpdate; refine wpList_mapUpdate_own _ rfl _ _ _ 87 rfl 9 3 lawS Tryd.underlying87 _ w.heap.size k D rfl (HO.out.alloc _) (by unfold maxLen; omega) _ _ _ rfl rfl hkey.out _ [] (plainElem_int Tryd.underlying3 (by decide)) ?_; intro w1 hown1 hgrow1; have v0 := var_cell hgrow1 hne 0; have v1 := var_cell hgrow1 hne 1; have v2 := var_cell hgrow1 hne 2)
          | fail)
        have hb1 := (Below.alloc hb hb.size _).grown hgrow1 (Nat.le_trans hb.size (by simp)) (fun j hj => by cases hj; exact Nat.le_refl _)
        have HW := Lib.hid hown1
        have HB := Lib.hid hb1
        clear hown1 hgrow1 hb1
        generalize hbn : nameB ps[k].name = bn
        have HBN := Lib.hid hbn
        refine (Name_val _ _ HN.out bn hbn).mono ?_
        clear hbn
        rintro e w2 ⟨rfl, hb2⟩
        have HB2 := Lib.hid (HB.out.trans (hb2.mono HB.out.size))
        have u0 := cell_keep hb2 v0
        have u1 := cell_keep hb2 v1
        have u2' := cell_keep hb2 v2
        obtain ⟨c2, hrun, hat2, hwc2⟩ := (HW.out.kept (below_grown hb2) (by simp)).lookup_int (t := 87) lawS Tryd.underlying87 Tryd.underlying3 (zeroI _) hkey.out
        rw [atKey_put_same HO.out.isMap (by trivial)] at hat2
        have hc2 : c2 = 1 + 1 := by injection hat2 with hat2; injection hat2 with _ hat2; exact hat2.symm
        subst hc2
        have HW2 := Lib.hid (HW.out.kept (below_grown hb2) (by simp))
        clear hat2 hwc2 v0 v1 v2 hb2
        cases bn
        all_goals
          go_wp2_with fail
          go_ret
          exact HR.out (by simp [attrOK, HANY.out]) _ HB2.out
    · obtain rfl : k = ps.length := by omega
      go_wp2
      go_ret
      refine ⟨ret_bool ?_, hb⟩
      unfold attrsB; rw [HT.out]; simp [attrsA]; omega
end Go.Proofs.YtffcapkjfmkkaaaDoor
