/- Lemmas for the statements of this seat, part 5: contracts of functions of the program and of the references, and plain facts on lists of bytes. -/
import Derived.Test.YtffcapkjfmkkaaaGreatDoorQ4
import Derived.Test.YtffcapkjfmkkaaaGreatDoorQ3
import Derived.Defers
import Derived.Recover
import Derived.Tactics
import Derived.Tactics2
import Derived.Laws.Pointers
import Derived.Laws.LoneSync
import Derived.RegionTactic
import Derived.RegionCalls
import Derived.ChangeAlike
import Derived.Test.YtffcapkjfmkkaaaGreatDoorQ1
namespace Go.Proofs.YtffcapkjfmkkaaaGreatDoor
open Go.RowKit
set_option maxRecDepth 100000 in
set_option maxHeartbeats 16000000 in
theorem element_step (f : Nat) (HE : ∀ g, g ≤ f → EP g) : EP (f + 1) := by
  intro rb s deep l ns B w m hr hm hB0 hB hs hf hd0 hd1 hno hlen
  have hmf : ∀ (fn : Fn) (first cap : Array Value) (w : World), (Instr.makeFunc fn first cap).run Tryz.prog w = .ok (.func fn first cap) w := fun _ _ _ _ => rfl
  have HMF := Lib.hid hmf
  have HR := Lib.hid hr
  have HM := Lib.hid hm
  have HNO := Lib.hid hno
  have HFR : Hid (elemP (f + 1) s.data.toList deep ns.length = none → ∀ w', Fr w w' rb l.ownBlock → ElP w B rb l ns (elemP (f + 1) s.data.toList deep ns.length) gaveUp w') := fun h w' hg => by
    unfold ElP; rw [h]; exact ⟨hg, rfl⟩
  clear hm hno hmf
  go_enter Tryz.func53, Tryz.ntmps53
  go_wp2_with fail
  cases hp1 : pre1 60 s.data.toList with
  | none =>
    refine (take1_val rb s ⟨#[60]⟩ l w hr 60 rfl none hp1).mono ?_
    have HN : Hid (elemP (f + 1) s.data.toList deep ns.length = none) := by
      show _ = _; rw [elemP, hp1]
    clear hp1 hr
    rintro e w1 ⟨rfl, hg⟩
    have HG := Lib.hid hg
    clear hg
    go_wp2
    exact ⟨rfl, HFR.out HN.out _ (Fr.of HG.out)⟩
  | some s1 =>
    refine (take1_val rb s ⟨#[60]⟩ l w hr 60 rfl (some s1) hp1).mono ?_
    have HP1 := Lib.hid hp1
    have hl1 := pre1_len hp1
    rw [size_list] at hl1
    clear hp1 hr
    rintro e w1 ⟨rfl, hst1⟩
    have HG1 := Lib.hid hst1.2
    have HR1 := Lib.hid hst1.1
    clear hst1
    go_wp2_with fail
    refine (until_walk rb ⟨s1.toArray⟩ ⟨#[47, 62, 32, 9, 13, 10]⟩ l w1 HR1.out [47, 62, 32, 9, 13, 10] rfl (by decide) (by rw [← size_list]; show s1.length ≤ _; omega)).mono ?_
    rintro e w2 hu
    unfold UntilPost at hu
    rw [show (⟨s1.toArray⟩ : ByteArray).data.toList = s1 from rfl] at hu
    cases hd : dropW (notIn [47, 62, 32, 9, 13, 10]) s1 with
    | nil =>
      rw [hd] at hu
      obtain ⟨rfl, hb⟩ := hu
      have HN : Hid (elemP (f + 1) s.data.toList deep ns.length = none) := by
        show _ = _; rw [elemP, HP1.out]; simp only; rw [hd]
      have HB := Lib.hid hb
      clear hd hb
      go_wp2
      exact ⟨rfl, HFR.out HN.out _ (Fr.of (grown_below HG1.out HB.out))⟩
    | cons c r =>
      rw [hd] at hu
      obtain ⟨rfl, hst2⟩ := hu
      have HET : Hid (elemP (f + 1) s.data.toList deep ns.length = elTailP f deep (takeW (notIn [47, 62, 32, 9, 13, 10]) s1) ns.length (attrsP (s1.length + 1) (c :: r) [])) := elemP_tail HP1.out hd
      have hnl : (takeW (notIn [47, 62, 32, 9, 13, 10]) s1).length ≤ 4096 := by
        unfold takeW; rw [List.length_take]; omega
      have hcr := dropW_len (notIn [47, 62, 32, 9, 13, 10]) s1
      rw [hd] at hcr
      generalize takeW (notIn [47, 62, 32, 9, 13, 10]) s1 = nm at *
      have HG2 : Hid (w.grownBy w2 (some rb)) := HG1.out.trans hst2.2
      have HR2 := Lib.hid hst2.1
      clear hst2 hd
      have HNL := Lib.hid hnl
      go_upto_block 0 with (fail)
      have hz2 := HG2.out.size
      have hrlt := HR.out.lt
      have HA0 : Hid (ARl w (w2.alloc (.cells #[.int .i64 deep, .string ⟨nm.toArray⟩, .slice none 0 0, .string ⟨#[]⟩] 46)) rb w2.heap.size (s1.length + 1) (c :: r) deep nm l (.slice none 0 0) (s1.length + 1) (c :: r) []) :=
        ⟨rfl, by omega, by simp at *; omega, HR2.out.below ((Below.refl _ _).alloc (Nat.le_refl _) _), grown_below HG2.out ((Below.refl _ _).alloc (Nat.le_refl _) _), heap_alloc_new w2 _, hz2, hrlt, OPar.nil _ _⟩
      go_cut [5] (fun _ wr => ∃ (va : Value) (y : Bs) (ps : List Par), BRl w wr rb w2.heap.size (s1.length + 1) (c :: r) deep nm l va y ps)
      case first =>
        -- BEGIN A
        go_wp2_with fail
        go_loopw [5] (fun _ wr => ∃ (va : Value) (g : Nat) (y : Bs) (ps : List Par), ARl w wr rb w2.heap.size (s1.length + 1) (c :: r) deep nm l va g y ps) (fun _ wr => rdLen wr rb)
        case atStart => exact ⟨_, _, _, _, HA0.out⟩
        case round =>
          obtain ⟨va, g, y, ps, ha⟩ := hrel
          have HA := Lib.hid ha
          have hfu := ha.fuel
          have hle := ha.len
          have h0 := ha.rd.s
          obtain ⟨g', hg'⟩ : ∃ g', g = g' + 1 := ⟨g - 1, by omega⟩
          subst hg'
          clear ha
          go_wp2_with fail
          refine (blank_walk rb ⟨y.toArray⟩ l wr HA.out.rd).mono ?_
          rintro e w4 ⟨rfl, hst4⟩
          rw [show (⟨y.toArray⟩ : ByteArray).data.toList = y from rfl] at hst4
          have hyl := dropW_len blankB y
          generalize hy2 : dropW blankB y = y2 at *
          have HST := Lib.hid (attrsP_step g' y y2 ps hy2)
          have HA4 := Lib.hid (HA.out.step hst4.2)
          have HR4 := Lib.hid hst4.1
          have k0 := hst4.1.s
          have hm4 : Mx w4 m := HM.out.stp HR.out HA4.out.1
          have HM4 := Lib.hid hm4
          clear h0 hst4 hy2 hm4
          generalize hb47 : Lib.hasPrefix y2 [47] = b47 at *
          generalize hb62 : Lib.hasPrefix y2 [62] = b62 at *
          have HB47 := Lib.hid hb47
          have HB62 := Lib.hid hb62
          have HX : Hid ((b47 = true ∨ b62 = true) → BRl w w4 rb w2.heap.size (s1.length + 1) (c :: r) deep nm l va y2 ps) := fun h =>
            ⟨by rw [HA.out.eq, HST.out, if_pos h], by omega, HR4.out, HA4.out.1, HA4.out.2.1, HA.out.nb, HA.out.rlt, HA4.out.2.2⟩
          clear hb47 hb62
          cases b47
          · cases b62
            · have HBT : Hid (attrsP (g' + 1) y ps = if y2.length = y.length then none else match attrP y2 with
                  | none => none
                  | some (p, rest) => attrsP g' rest (ps ++ [p])) := by
                show _ = _
                rw [HST.out]; exact if_neg (by decide)
              go_wp2_with fail
              refine (hpre_val _ ⟨#[47]⟩ w4 [47] rfl false HB47.out).mono ?_
              rintro e w' ⟨rfl, rfl⟩
              go_wp2_with fail
              refine (hpre_val _ ⟨#[62]⟩ w' [62] rfl false HB62.out).mono ?_
              rintro e w'' ⟨rfl, rfl⟩
              have HN : Hid (attrsP (g' + 1) y ps = none → elemP (f + 1) s.data.toList deep ns.length = none) := fun h => by
                rw [HET.out, HA.out.eq, h]; rfl
              by_cases hll : y2.length = y.length
              · have hbl : ((y2.length : Int) == (y.length : Int)) = true := by rw [hll]; simp
                have HN2 := Lib.hid (HN.out (by rw [HBT.out, if_pos hll]))
                clear hll
                go_wp2_with fail
                refine (fail_walk rb _).mono ?_
                rintro e w5 ⟨rfl, rfl⟩
                go_wp2
                exact ⟨rfl, HFR.out HN2.out _ (Fr.of HA4.out.1)⟩
              · have hbl : ((y2.length : Int) == (y.length : Int)) = false := by rw [beq_eq_false_iff_ne]; omega
                have HBT2 : Hid (attrsP (g' + 1) y ps = match attrP y2 with
                  | none => none
                  | some (p, rest) => attrsP g' rest (ps ++ [p])) := by
                  show _ = _
                  rw [HBT.out]; exact if_neg hll
                have hb4 := HA4.out.2.1
                have b2 := blk_cell hb4 2
                have fz2 := frozen0 hb4 2
                simp at b2
                clear hll hb4
                go_upto_region 7 with (fail)
                cases hat : attrP y2 with
                | none =>
                  have HN2 := Lib.hid (HN.out (by rw [HBT2.out, hat]))
                  have HAT : Hid (attrP (⟨y2.toArray⟩ : ByteArray).data.toList = none) := hat
                  clear hat
                  have hcall : Calls Tryz.prog 68 #[.pointer (some ⟨rb, 0, none⟩)] w''.drew fun e w' => e = gaveUp ∧ Fr w w' rb l.ownBlock := by
                    refine (attr_walk rb ⟨y2.toArray⟩ l m _ (HR4.out.below (Below.refl _ _).drew) (by rw [← size_list]; show y2.length ≤ _; omega) (cell_keep ((Below.refl _ _).drew) HM4.out)).mono ?_
                    intro e w6 hap
                    have hap2 := attr_bad HAT.out hap
                    exact ⟨hap2.1, Fr.of (HA4.out.1.trans hap2.2)⟩
                  have HC := Lib.hid hcall
                  clear hcall
                  refine wp_region_any (by kernel_rfl) ?_
                  change wpAny _ _ _ _ _ _ _ (World.drew _)
                  refine wpAny_take (i := 0) (v := ?_) rfl (by kernel_rfl) (by kernel_rfl) (by kernel_rfl) (fun _ _ _ h => h) (Or.inl ⟨by rfl, ?_⟩) ?_
                  rotate_left
                  · intro w; go_simp; with_reducible rfl
                  refine wpAny_take (i := 2) (v := ?_) rfl (by kernel_rfl) (by kernel_rfl) (by kernel_rfl) (fun _ _ _ h => h) (Or.inl ⟨by rfl, ?_⟩) ?_
                  rotate_left
                  · intro w; go_simp; with_reducible rfl
                  refine wpAny_ready (rs := [1, 3]) (by kernel_rfl) (by simp) ?_
                  refine AllReady.cons rfl (fun K hK => ?_) ?_
                  · go_simp
                    refine hK _ _ ?_
                    clear hK K
                    refine wpAny_ready (rs := [3]) (by kernel_rfl) (by simp) ?_
                    refine AllReady.cons rfl (fun K hK => ?_) AllReady.nil
                    go_simp
                    refine HC.out.mono ?_
                    rintro e w6 ⟨rfl, hg6⟩
                    exact ⟨rfl, HFR.out HN2.out _ hg6⟩
                  · refine AllReady.cons rfl (fun K hK => ?_) AllReady.nil
                    go_simp
                    refine HC.out.mono ?_
                    rintro e w6 ⟨rfl, hg6⟩
                    exact ⟨rfl, HFR.out HN2.out _ hg6⟩
                | some pr =>
                  obtain ⟨q, rest⟩ := pr
                  have HAT : Hid (attrP (⟨y2.toArray⟩ : ByteArray).data.toList = some (q, (⟨rest.toArray⟩ : ByteArray).data.toList)) := hat
                  have hql := attrP_len hat
                  have HBT3 : Hid (attrsP (g' + 1) y ps = attrsP g' rest (ps ++ [q])) := by
                    show _ = _; rw [HBT2.out, hat]
                  clear hat
                  obtain ⟨A4, c4, rfl⟩ := own_slice HA4.out.2.2.1
                  obtain ⟨iP, hiP, hzP0, hzP1, hzP2⟩ := info_parts infoPar
                  have hnb := blk_lt HA4.out.2.1
                  have hrn : rb ≠ w2.heap.size := by omega
                  have h63 : ps.length + 1 ≤ maxLen := by unfold maxLen; omega
                  have hbytes : (ps.length + 1) * 40 ≤ 140737488355328 := by omega
                  have hww : w.heap.size ≤ w''.heap.size := by omega
                  go_region_law (first
                    | (refine step_append_lies _ rfl (.tmp 44) (.tmp 47) 44 rfl w.heap.size 43 iP _ 3 40 Tryz.underlying44 hiP hzP0 hzP1 hzP2 rfl (by decide) (.slice A4 ps.length c4) ps.length (ps.flatMap parCells) rfl (hc6.2.2.1.alloc _) ⟨w6.heap.size, 0, none⟩ 1 1 (parCells q) rfl rfl (news_par w6 q) (one_par q) (by decide) h63 hbytes (alloc_le _ hle6) _ rfl ?_; intro g7 cap7 w7 hown7 hgrow7 hat7 hlt7; have b27 := nod_cell2 (after_app hc6.2.1 hc6.2.2 hgrow7); have f27 := nod_fz2 (after_app hc6.2.1 hc6.2.2 hgrow7))
                    | (go_simp; go_at_call 68; refine (attr_walk rb ⟨y2.toArray⟩ l m _ (HR4.out.below (Below.refl _ _).drew) ?_ (cell_keep ((Below.refl _ _).drew) HM4.out)).mono ?_; (rw [← size_list]; show y2.length ≤ _; omega); intro e w6 hap; have hap2 := attr_good HAT.out hap; clear hap; obtain ⟨rfl, hr6, hg6⟩ := hap2; have hc6 := carry HA4.out HR4.out hg6; have b26 := nod_cell2 hc6.2.1; have x26 := nod_cell2 (nod_past hc6.2.1 (.cells #[.string ⟨q.name.toArray⟩, .string ⟨q.value.toArray⟩, .bool q.has] 43)); have hle6 := hc6.1.size; dsimp only))
                  all_goals (
                    have HAN := Lib.hid (HA.out.next HBT3.out (by omega) (by omega) hc6 hr6 _ hown7 hgrow7)
                    clear hown7 hgrow7 hat7 hlt7 hc6 hr6 b26 x26 b27 f27)
                  all_goals go_wp2_with fail
                  all_goals go_roundw
                  all_goals first
                    | exact ⟨_, _, _, _, HAN.out⟩
                    | (rw [HAN.out.rd.len, HA.out.rd.len, ← size_list, ← size_list]; show rest.length < y.length; omega)
            · have hx := HX.out (.inr rfl)
              have HXX := Lib.hid hx
              clear hx
              go_wp2_with fail
              refine (hpre_val _ ⟨#[47]⟩ w4 [47] rfl false HB47.out).mono ?_
              rintro e w' ⟨rfl, rfl⟩
              go_wp2_with fail
              refine (hpre_val _ ⟨#[62]⟩ w' [62] rfl true HB62.out).mono ?_
              rintro e w'' ⟨rfl, rfl⟩
              go_wp2_with fail
              go_meet
              exact ⟨va, y2, ps, HXX.out⟩
          · have hx := HX.out (.inl rfl)
            have HXX := Lib.hid hx
            clear hx
            go_wp2_with fail
            refine (hpre_val _ ⟨#[47]⟩ w4 [47] rfl true HB47.out).mono ?_
            rintro e w' ⟨rfl, rfl⟩
            go_wp2_with fail
            go_meet
            exact ⟨va, y2, ps, HXX.out⟩
        -- END A
      case rest =>
        obtain ⟨va, y, ps, hb⟩ := hcut
        have HB := Lib.hid hb
        clear hb
        have hnoc := HNO.out.stp HR.out HB.out.grown
        obtain ⟨⟨xs, hx1, hown, hx3⟩, hx4⟩ := hnoc
        obtain ⟨A, cc, rfl⟩ := own_slice hown
        have HX1 := Lib.hid hx1
        have HX3 := Lib.hid hx3
        have HOWN := Lib.hid hown
        have hBc : B ≤ wc.heap.size := Nat.le_trans hB HB.out.grown.size
        have hz2 := HG2.out.size
        have k1 := HB.out.rd.l
        have hbox := HB.out.box
        have n0 := blk_cell hbox 0
        have n1 := blk_cell hbox 1
        have n2 := blk_cell hbox 2
        have n3 := blk_cell hbox 3
        simp at n0 n1 n2 n3
        clear hx1 hown hx3 hx4 hbox
        obtain ⟨i0, hi0, hz0, hz1, hz2⟩ := info_parts infoNod
        have h63 : ns.length + 1 ≤ maxLen := by unfold maxLen; omega
        have hbytes : (ns.length + 1) * 64 ≤ 140737488355328 := by omega
        have hnews : ∀ j u, (nodCells (⟨deep, nm, ps, []⟩, va))[j]? = some u → (wc.alloc (.cells #[.int .i64 deep, .string ⟨nm.toArray⟩, va, .string ⟨#[]⟩] 46)).cell? ((⟨wc.heap.size, 0, none⟩ : Addr).add j) = some u := fun j u hj => World.news_of_block (heap_alloc_new wc _) j u hj
        have HNEWS := Lib.hid hnews
        have hva : va.oneCell' = true := by
          obtain ⟨A', c', e⟩ := own_slice HB.out.own.1
          rw [e]; rfl
        have hone : ∀ u ∈ nodCells (⟨deep, nm, ps, []⟩, va), u.oneCell' = true := by
          intro u hu
          simp [nodCells] at hu
          rcases hu with rfl | rfl | rfl | rfl
          · rfl
          · rfl
          · exact hva
          · rfl
        have HONE := Lib.hid hone
        clear hnews hone
        have k2 : (wc.alloc (.cells #[.int .i64 deep, .string ⟨nm.toArray⟩, va, .string ⟨#[]⟩] 46)).cell? ⟨rb, 1, none⟩ = some (.slice A ns.length cc) := (HB.out.rd.below ((Below.refl _ _).alloc (Nat.le_refl _) _)).l
        have hstart : ∀ (g7 cap7 : Nat) (w7 : World), w7.ownsRow B 46 4 (.slice (some ⟨g7, 0, none⟩) (ns.length + 1) cap7) (ns.length + 1) (xs.flatMap nodCells ++ nodCells (⟨deep, nm, ps, []⟩, va)) →
            (wc.alloc (.cells #[.int .i64 deep, .string ⟨nm.toArray⟩, va, .string ⟨#[]⟩] 46)).grownBy w7 (Value.slice A ns.length cc).ownBlock →
            ((Value.slice A ns.length cc).ownBlock = some g7 ∨ g7 = (wc.alloc (.cells #[.int .i64 deep, .string ⟨nm.toArray⟩, va, .string ⟨#[]⟩] 46)).heap.size) →
            CRl w (w7.setCell ⟨rb, 1, none⟩ (.slice (some ⟨g7, 0, none⟩) (ns.length + 1) cap7)) B rb w2.heap.size m (.slice A ns.length cc) deep nm va y (.slice (some ⟨g7, 0, none⟩) (ns.length + 1) cap7) (ns ++ [⟨deep, nm, ps, []⟩]) ∧ Rd w7 rb ⟨y.toArray⟩ (.slice A ns.length cc) :=
          fun g7 cap7 w7 ho hg hat => CRl.start HB.out hB0 hB HNO.out HR.out HM.out HNL.out xs HX1.out HX3.out _ ho hg (hat.imp (fun e => e.symm) (fun e => congrArg some e))
        have HSTART := Lib.hid hstart
        clear hstart
        go_upto_region 9 with (fail)
        go_cut [6] (fun av wr => av = .int .i64 ns.length ∧ ∃ l1, CRl w wr B rb w2.heap.size m (.slice A ns.length cc) deep nm va y l1 (ns ++ [⟨deep, nm, ps, []⟩]))
        case first =>
          -- BEGIN B
          go_region_law (first
            | (refine step_append_lies _ rfl (.tmp 59) (.tmp 61) 22 rfl B 46 i0 _ 4 64 Tryz.underlying22 hi0 hz0 hz1 hz2 rfl (by decide) (.slice A ns.length cc) ns.length (xs.flatMap nodCells) rfl (HOWN.out.alloc _) ⟨wc.heap.size, 0, none⟩ 1 1 (nodCells (⟨deep, nm, ps, []⟩, va)) rfl rfl HNEWS.out HONE.out (by decide) h63 hbytes (alloc_le _ hBc) _ rfl ?_; intro g7 cap7 w7 hown7 hgrow7 hat7 hlt7; have hcs := HSTART.out g7 cap7 w7 hown7 ⟨hgrow7.os, hgrow7.tape, hgrow7.output, hgrow7.size, hgrow7.block⟩ hat7; have k7 := hcs.2.l; have f7 := frozen0 hcs.2 1))
          all_goals go_wp2_with fail
          all_goals go_meet
          all_goals exact ⟨rfl, _, hcs.1⟩
          -- END B
        case rest =>
          obtain ⟨rfl, l1, hc⟩ := hcut
          have HETT : Hid (elemP (f + 1) s.data.toList deep ns.length = elTailP f deep nm ns.length (some (ps, y))) := by
            show _ = _; rw [HET.out, HB.out.eq]
          have hyl : y.length ≤ 4096 := by have := HB.out.len; omega
          have hyl2 : y.length + 1 ≤ s.size := by
            have := attrsP_len _ _ _ _ _ HB.out.eq
            omega
          clear k1 k2 n0 n1 n2 n3 hi0 hz0 hz1 hz2 h63 hbytes
          obtain ⟨A1, c1, hl1⟩ : ∃ A1 c1, l1 = .slice A1 (ns.length + 1) c1 := by
            obtain ⟨⟨zs, -, hz, -⟩, -⟩ := hc.own
            obtain ⟨A1, c1, e⟩ := own_slice hz
            exact ⟨A1, c1, by rw [e]; simp⟩
          subst hl1
          have HC := Lib.hid hc
          have k1 := hc.rd.l
          clear hc
          by_cases d8 : 8 ≤ deep
          · have HN : Hid (elemP (f + 1) s.data.toList deep ns.length = none) := by
              show _ = _; rw [HETT.out]; exact if_pos (.inl d8)
            go_wp2_with fail
            refine (fail_walk rb _).mono ?_
            rintro e w5 ⟨rfl, rfl⟩
            go_wp2
            exact ⟨rfl, HFR.out HN.out _ HC.out.fr⟩
          · by_cases d2 : 200 ≤ ns.length
            · have HN : Hid (elemP (f + 1) s.data.toList deep ns.length = none) := by
                show _ = _; rw [HETT.out]; exact if_pos (.inr d2)
              have d8' : decide (8 ≤ deep) = false := decide_eq_false d8
              have d2' : (200 : Int) < (ns.length : Int) + 1 := by omega
              go_wp2_with fail
              refine (fail_walk rb _).mono ?_
              rintro e w5 ⟨rfl, rfl⟩
              go_wp2
              exact ⟨rfl, HFR.out HN.out _ HC.out.fr⟩
            · have d8' : decide (8 ≤ deep) = false := decide_eq_false d8
              have d2' : ¬ (200 : Int) < (ns.length : Int) + 1 := by omega
              have HE2 : Hid (elemP (f + 1) s.data.toList deep ns.length = match pre2 47 62 y with
                  | some s4 => some ([⟨deep, nm, ps, []⟩], s4)
                  | none =>
                    match pre1 62 y with
                    | none => none
                    | some s4 => contP f s4 ⟨deep, nm, ps, []⟩ ns.length) := by
                show _ = _; rw [HETT.out]; exact if_neg (by omega)
              go_wp2_with fail
              cases hp2 : pre2 47 62 y with
              | some s4 =>
                refine (may2_val rb _ ⟨#[47, 62]⟩ _ wc HC.out.rd 47 62 rfl (some s4) hp2).mono ?_
                have HN : Hid (elemP (f + 1) s.data.toList deep ns.length = some ([⟨deep, nm, ps, []⟩], s4)) := by
                  show _ = _; rw [HE2.out, hp2]
                clear hp2
                rintro e w5 ⟨rfl, hst5⟩
                have HC5 := Lib.hid (HC.out.stp hst5)
                clear hst5
                go_wp2_with fail
                refine bodyPost_ret (v := .tuple #[]) (by simp [results, Tryz.results53, go_sem]) rfl ?_
                show ElP w B rb _ ns _ _ _
                unfold ElP; rw [HN.out]
                exact ⟨HC5.out.fr, rfl, _, HC5.out.rd, HC5.out.own, HC5.out.at_⟩
              | none =>
                refine (may2_val rb _ ⟨#[47, 62]⟩ _ wc HC.out.rd 47 62 rfl none hp2).mono ?_
                have HE3 : Hid (elemP (f + 1) s.data.toList deep ns.length = match pre1 62 y with
                    | none => none
                    | some s4 => contP f s4 ⟨deep, nm, ps, []⟩ ns.length) := by
                  show _ = _; rw [HE2.out, hp2]
                clear hp2
                rintro e w5 ⟨rfl, hst5⟩
                have HC5 : Hid (CRl w w5 B rb w2.heap.size m (.slice A ns.length cc) deep nm va y _ (ns ++ [⟨deep, nm, ps, []⟩])) := HC.out.stp hst5
                clear hst5 k1
                go_wp2_with fail
                cases hp3 : pre1 62 y with
                | none =>
                  refine (take1_val rb _ ⟨#[62]⟩ _ w5 HC5.out.rd 62 rfl none hp3).mono ?_
                  have HN : Hid (elemP (f + 1) s.data.toList deep ns.length = none) := by
                    show _ = _; rw [HE3.out, hp3]
                  clear hp3
                  rintro e w6 ⟨rfl, hg6⟩
                  have HF6 := Lib.hid (HC5.out.fr.then hg6)
                  clear hg6
                  go_wp2
                  exact ⟨rfl, HFR.out HN.out _ HF6.out⟩
                | some s4 =>
                  refine (take1_val rb _ ⟨#[62]⟩ _ w5 HC5.out.rd 62 rfl (some s4) hp3).mono ?_
                  have HE4 : Hid (elemP (f + 1) s.data.toList deep ns.length = contP f s4 ⟨deep, nm, ps, []⟩ ns.length) := by
                    show _ = _; rw [HE3.out, hp3]
                  have hs4 := pre1_len hp3
                  clear hp3
                  rintro e w6 ⟨rfl, hst6⟩
                  have HC6 := Lib.hid (HC5.out.stp hst6)
                  clear hst6
                  have hmf := HMF.out
                  obtain ⟨f2, rfl⟩ : ∃ f2, f = f2 + 2 := ⟨f - 2, by omega⟩
                  have HE5 : Hid (elemP (f2 + 2 + 1) s.data.toList deep ns.length = clos ⟨deep, nm, ps, []⟩ (kidsP (f2 + 1) s4 [] (deep + 1) (ns.length + 1) [])) := by
                    show _ = _; rw [HE4.out, contP_clos]
                  generalize elemP (f2 + 2 + 1) s.data.toList deep ns.length = E0 at *
                  go_wp2_with fail
                  refine (until_walk rb ⟨s4.toArray⟩ ⟨#[60]⟩ _ w6 HC6.out.rd [60] rfl (by decide) (by rw [← size_list]; show s4.length ≤ _; omega)).mono ?_
                  clear hmf
                  rintro e w7 hu
                  unfold UntilPost at hu
                  rw [show (⟨s4.toArray⟩ : ByteArray).data.toList = s4 from rfl] at hu
                  have htk := takeW_len (notIn [60]) s4
                  cases hd : dropW (notIn [60]) s4 with
                  | nil =>
                    rw [hd] at hu
                    obtain ⟨rfl, hb7⟩ := hu
                    have HN : Hid (E0 = none) := by
                      show _ = _; rw [HE5.out, kidsP_nil hd]; rfl
                    have HF7 := Lib.hid (HC6.out.below hb7).fr
                    clear hd hb7
                    go_wp2
                    exact ⟨rfl, HFR.out HN.out _ HF7.out⟩
                  | cons c1 r1 =>
                    rw [hd] at hu htk
                    obtain ⟨rfl, hst7⟩ := hu
                    have HC7 := Lib.hid (HC6.out.stp hst7)
                    have HE6 : Hid (E0 = clos ⟨deep, nm, ps, []⟩ (kidsQ f2 (c1 :: r1) (takeW (notIn [60]) s4) (deep + 1) (ns.length + 1) [])) := by
                      show _ = _; rw [HE5.out, kidsP_cons hd]; rfl
                    have HK0 : Hid (KQl E0 w w7 B rb w2.heap.size m (.slice A ns.length cc) deep nm va ns ⟨deep, nm, ps, []⟩ (f2 + 2) f2 (c1 :: r1) (takeW (notIn [60]) s4) [] _) :=
                      ⟨HE6.out, by omega, by omega, by omega, HC7.out, by simp; omega⟩
                    clear hst7 hd
                    generalize takeW (notIn [60]) s4 = t0 at *
                    generalize c1 :: r1 = z0 at *
                    go_upto_block 2 with (fail)
                    go_cut [8] (fun tv wr => ∃ (z t : Bs) (kids : List Nod) (l2 : Value), tv = .string ⟨t.toArray⟩ ∧ KRl E0 w wr B rb w2.heap.size m (.slice A ns.length cc) deep nm va ns ⟨deep, nm, ps, []⟩ z t kids l2)
                    case first =>
                      -- BEGIN C
                      go_wp2_with fail
                      go_loopw [8] (fun tv wr => ∃ (g : Nat) (z t : Bs) (kids : List Nod) (l2 : Value), tv = .string ⟨t.toArray⟩ ∧ KQl E0 w wr B rb w2.heap.size m (.slice A ns.length cc) deep nm va ns ⟨deep, nm, ps, []⟩ (f2 + 2) g z t kids l2) (fun _ wr => rdLen wr rb)
                      case atStart => exact ⟨_, _, _, _, _, rfl, HK0.out⟩
                      case round =>
                        obtain ⟨g, z, t, kids, l2, rfl, hk⟩ := hrel
                        have HK := Lib.hid hk
                        have hfu := hk.fuel
                        have hgf := hk.gf
                        have hle := hk.len
                        have hct := hk.cnt
                        have k0 := hk.c.rd.s
                        clear hk
                        go_wp2_with fail
                        cases hp4 : pre2 60 47 z with
                        | some r4 =>
                          have HPR : Hid (Lib.hasPrefix z [60, 47] = true) := by
                            show _ = _; rw [pre2_has, hp4]; rfl
                          have HKR : Hid (KRl E0 w wr B rb w2.heap.size m (.slice A ns.length cc) deep nm va ns ⟨deep, nm, ps, []⟩ z t kids l2) :=
                            ⟨by rw [HK.out.eq, kidsQ_end hp4]; rfl, hle, HK.out.c, hct⟩
                          clear hp4
                          refine (hpre_val _ ⟨#[60, 47]⟩ wr [60, 47] rfl true HPR.out).mono ?_
                          rintro e w' ⟨rfl, rfl⟩
                          go_wp2_with fail
                          go_meet
                          exact ⟨_, _, _, _, rfl, HKR.out⟩
                        | none =>
                          have HPR : Hid (Lib.hasPrefix z [60, 47] = false) := by
                            show _ = _; rw [pre2_has, hp4]; rfl
                          have HP4 := Lib.hid hp4
                          clear hp4
                          refine (hpre_val _ ⟨#[60, 47]⟩ wr [60, 47] rfl false HPR.out).mono ?_
                          rintro e w' ⟨rfl, rfl⟩
                          have hln : (ns ++ ⟨deep, nm, ps, []⟩ :: kids).length = ns.length + 1 + kids.length := by simp; omega
                          go_wp2_with fail
                          refine (HE g hgf rb ⟨z.toArray⟩ (deep + 1) l2 (ns ++ ⟨deep, nm, ps, []⟩ :: kids) B w' m HK.out.c.rd HK.out.c.mx hB0 (Nat.le_trans hB HK.out.c.fr.size) (by rw [← size_list]; show z.length ≤ _; omega) (by rw [← size_list]; show 2 * z.length + 1 ≤ _; omega) (by omega) (by omega) HK.out.c.own (by omega)).mono ?_
                          rintro e w8 hel
                          unfold ElP at hel
                          rw [hln, show (⟨z.toArray⟩ : ByteArray).data.toList = z from rfl] at hel
                          obtain ⟨hf8, hel⟩ := hel
                          cases hev : elemP g z (deep + 1) (ns.length + 1 + kids.length) with
                          | none =>
                            rw [hev] at hel
                            subst hel
                            have HN : Hid (E0 = none) := by
                              show _ = _; rw [HK.out.eq, kidsQ_none HP4.out hev]; rfl
                            have HF8 := Lib.hid (HK.out.c.fr.trans hf8 HK.out.c.at_)
                            clear hev hf8
                            go_wp2
                            exact ⟨rfl, HFR.out HN.out _ HF8.out⟩
                          | some mr =>
                            obtain ⟨ms, rest⟩ := mr
                            rw [hev] at hel
                            obtain ⟨rfl, l3, hr8, ho8, ha8⟩ := hel
                            have HC8 := Lib.hid (HK.out.c.callee hB0 hf8 hr8 ho8 ha8)
                            have hml := elemP_len hev
                            obtain ⟨g', rfl⟩ : ∃ g', g = g' + 1 := ⟨g - 1, by omega⟩
                            have HE8 : Hid (E0 = clos ⟨deep, nm, ps, []⟩ (kidsP (g' + 1) rest t (deep + 1) (ns.length + 1 + kids.length + ms.length) (kids ++ ms))) := by
                              show _ = _; rw [HK.out.eq, kidsQ_some HP4.out hev]
                            clear hev hf8 hr8 ho8 ha8 k0
                            go_wp2_with fail
                            refine (until_walk rb ⟨rest.toArray⟩ ⟨#[60]⟩ _ w8 HC8.out.rd [60] rfl (by decide) (by rw [← size_list]; show rest.length ≤ _; omega)).mono ?_
                            rintro e w9 hu
                            unfold UntilPost at hu
                            rw [show (⟨rest.toArray⟩ : ByteArray).data.toList = rest from rfl] at hu
                            have htk9 := takeW_len (notIn [60]) rest
                            cases hd : dropW (notIn [60]) rest with
                            | nil =>
                              rw [hd] at hu
                              obtain ⟨rfl, hb9⟩ := hu
                              have HN : Hid (E0 = none) := by
                                show _ = _; rw [HE8.out, kidsP_nil hd]; rfl
                              have HF9 := Lib.hid (HC8.out.below hb9).fr
                              clear hd hb9
                              go_wp2
                              exact ⟨rfl, HFR.out HN.out _ HF9.out⟩
                            | cons c9 r9 =>
                              rw [hd] at hu htk9
                              obtain ⟨rfl, hst9⟩ := hu
                              have HC9 := Lib.hid (HC8.out.stp hst9)
                              have HE9 : Hid (E0 = clos ⟨deep, nm, ps, []⟩ (kidsQ g' (c9 :: r9) (t ++ takeW (notIn [60]) rest) (deep + 1) (ns.length + 1 + kids.length + ms.length) (kids ++ ms))) := by
                                show _ = _; rw [HE8.out, kidsP_cons hd]
                              have hsum : t.length + (takeW (notIn [60]) rest).length ≤ 9223372036854775807 := by omega
                              have HKN : Hid (KQl E0 w w9 B rb w2.heap.size m (.slice A ns.length cc) deep nm va ns ⟨deep, nm, ps, []⟩ (f2 + 2) g' (c9 :: r9) (t ++ takeW (notIn [60]) rest) (kids ++ ms) l3) :=
                                ⟨by rw [HE9.out, List.length_append, Nat.add_assoc], by omega, by omega, by simp at *; omega, by have := HC9.out; simpa using this, by simp; omega⟩
                              clear hst9 hd
                              generalize takeW (notIn [60]) rest = t9 at *
                              go_wp2_with fail
                              go_roundw
                              case measure =>
                                rw [HC9.out.rd.len, HK.out.c.rd.len, ← size_list, ← size_list]
                                show (c9 :: r9).length < z.length
                                omega
                              case rel => exact ⟨_, _, _, _, _, by rw [str_app], HKN.out⟩
                      -- END C
                    case rest =>
                      obtain ⟨z, t, kids, l2, rfl, hk⟩ := hcut
                      obtain ⟨gb, cap, rfl⟩ : ∃ gb cap, l2 = .slice (some ⟨gb, 0, none⟩) (ns.length + (kids.length + 1)) cap := by
                        obtain ⟨⟨zs, -, hz, -⟩, -⟩ := hk.c.own
                        obtain ⟨gb, cap, e, -⟩ := World.ownsRow.form hz (by simp; omega)
                        exact ⟨gb, cap, by rw [e]; simp⟩
                      have HK := Lib.hid hk
                      have hle := hk.len
                      have hn1 := blk_cell hk.c.box 1
                      simp at hn1
                      have hsum : ¬ 9223372036854775807 < 2 + nm.length := by omega
                      generalize hbp : Lib.hasPrefix z (60 :: 47 :: nm) = bp
                      have HBP := Lib.hid hbp
                      clear hk hbp
                      go_wp2_with fail
                      refine (take_walk rb ⟨z.toArray⟩ _ _ wc HK.out.c.rd (60 :: 47 :: nm) (by rw [Joins.data_append]; rfl) bp HBP.out).mono ?_
                      rintro e w7 ⟨he, hst7⟩
                      clear hn1
                      cases bp
                      · obtain rfl : e = gaveUp := he
                        have HN : Hid (E0 = none) := by
                          show _ = _; rw [HK.out.eq]; exact closeP_no HBP.out
                        have HF7 := Lib.hid (HK.out.c.fr.then hst7.2)
                        clear hst7
                        go_wp2
                        exact ⟨rfl, HFR.out HN.out _ HF7.out⟩
                      · obtain rfl : e = .returned (.tuple #[]) := he
                        have HC7 : Hid (CRl w w7 B rb w2.heap.size m (.slice A ns.length cc) deep nm va (z.drop (60 :: 47 :: nm).length) _ (ns ++ ⟨deep, nm, ps, []⟩ :: kids)) := HK.out.c.stp hst7
                        have HE7 : Hid (E0 = closeP2 ⟨deep, nm, ps, []⟩ t kids (dropW blankB (z.drop (60 :: 47 :: nm).length))) := by
                          show _ = _; rw [HK.out.eq]; exact closeP_yes HBP.out
                        clear hst7
                        generalize z.drop (60 :: 47 :: nm).length = z2 at *
                        go_wp2_with fail
                        refine (blank_walk rb ⟨z2.toArray⟩ _ w7 HC7.out.rd).mono ?_
                        rintro e w8 ⟨rfl, hst8⟩
                        rw [show (⟨z2.toArray⟩ : ByteArray).data.toList = z2 from rfl] at hst8
                        have HC8 := Lib.hid (HC7.out.stp hst8)
                        clear hst8
                        generalize dropW blankB z2 = z3 at *
                        go_wp2_with fail
                        cases hp5 : pre1 62 z3 with
                        | none =>
                          refine (take1_val rb _ ⟨#[62]⟩ _ w8 HC8.out.rd 62 rfl none hp5).mono ?_
                          have HN : Hid (E0 = none) := by
                            show _ = _; rw [HE7.out]; unfold closeP2; rw [hp5]
                          clear hp5
                          rintro e w9 ⟨rfl, hg9⟩
                          have HF9 := Lib.hid (HC8.out.fr.then hg9)
                          clear hg9
                          go_wp2
                          exact ⟨rfl, HFR.out HN.out _ HF9.out⟩
                        | some z4 =>
                          refine (take1_val rb _ ⟨#[62]⟩ _ w8 HC8.out.rd 62 rfl (some z4) hp5).mono ?_
                          have HE8 : Hid (E0 = match plainS (trimB t) with
                              | none => none
                              | some tx => some (⟨deep, nm, ps, trimB tx⟩ :: kids, z4)) := by
                            show _ = _; rw [HE7.out]; unfold closeP2; rw [hp5]; rfl
                          clear hp5
                          rintro e w9 ⟨rfl, hst9⟩
                          have HC9 := Lib.hid (HC8.out.stp hst9)
                          have k9 := hst9.1.l
                          clear hst9
                          have htl := trimB_len t
                          generalize htt : trimB t = tt at *
                          have HTT := Lib.hid htt
                          clear htt
                          go_upto_region 22 with (fail)
                          have HC9' : Hid (CRl w w9.drew B rb w2.heap.size m (.slice A ns.length cc) deep nm va z4 (.slice (some ⟨gb, 0, none⟩) (ns.length + (kids.length + 1)) cap) (ns ++ ⟨deep, nm, ps, []⟩ :: kids)) := HC9.out.below (Below.refl _ _).drew
                          have HTR : Hid (∀ v, CRl w v B rb w2.heap.size m (.slice A ns.length cc) deep nm va z4 (.slice (some ⟨gb, 0, none⟩) (ns.length + (kids.length + 1)) cap) (ns ++ ⟨deep, nm, ps, []⟩ :: kids) →
                              Calls Tryz.prog 27 #[.string ⟨t.toArray⟩, .string ⟨#[32, 9, 13, 10]⟩] v fun e v' => e = .returned (.string ⟨tt.toArray⟩) ∧ CRl w v' B rb w2.heap.size m (.slice A ns.length cc) deep nm va z4 (.slice (some ⟨gb, 0, none⟩) (ns.length + (kids.length + 1)) cap) (ns ++ ⟨deep, nm, ps, []⟩ :: kids)) := fun v hv => by
                                refine (Trim_val t v (by unfold maxLen; omega) tt HTT.out).mono ?_
                                rintro e v' ⟨rfl, hb⟩
                                exact ⟨rfl, hv.below hb⟩
                          cases hps : plainS tt with
                          | none =>
                            have HN : Hid (E0 = none) := by
                              show _ = _; rw [HE8.out, hps]
                            have HPL : Hid (∀ v, CRl w v B rb w2.heap.size m (.slice A ns.length cc) deep nm va z4 (.slice (some ⟨gb, 0, none⟩) (ns.length + (kids.length + 1)) cap) (ns ++ ⟨deep, nm, ps, []⟩ :: kids) →
                                Calls Tryz.prog 69 #[.pointer (some ⟨rb, 0, none⟩), .string ⟨tt.toArray⟩] v fun e v' => e = gaveUp ∧ Fr w v' rb (Value.slice A ns.length cc).ownBlock) := fun v hv => by
                                refine (plain_walk rb ⟨tt.toArray⟩ m v (by rw [← size_list]; show tt.length ≤ _; omega) hv.mx).mono ?_
                                rintro e v' ⟨hp, hb⟩
                                rw [show (⟨tt.toArray⟩ : ByteArray).data.toList = tt from rfl, hps] at hp
                                exact ⟨hp, (hv.below hb).fr⟩
                            clear hps
                            refine wp_region_any (by kernel_rfl) ?_
                            change wpAny _ _ _ _ _ _ _ (World.drew _)
                            refine wpAny_take (i := 0) (v := ?_) rfl (by kernel_rfl) (by kernel_rfl) (by kernel_rfl) (fun _ _ _ h => h) (Or.inl ⟨by rfl, ?_⟩) ?_
                            rotate_left
                            · intro w; go_simp; with_reducible rfl
                            refine wpAny_take (i := 1) (v := ?_) rfl (by kernel_rfl) (by kernel_rfl) (by kernel_rfl) (fun _ _ _ h => h) (Or.inl ⟨by rfl, ?_⟩) ?_
                            rotate_left
                            · intro w; go_simp; with_reducible rfl
                            refine wpAny_take (i := 2) (v := ?_) rfl (by kernel_rfl) (by kernel_rfl) (by kernel_rfl) (fun _ _ _ h => h) (Or.inl ⟨by rfl, ?_⟩) ?_
                            rotate_left
                            · intro w; go_simp; with_reducible rfl
                            refine wpAny_take (i := 4) (v := ?_) rfl (by kernel_rfl) (by kernel_rfl) (by kernel_rfl) (fun _ _ _ h => h) (Or.inl ⟨by rfl, ?_⟩) ?_
                            rotate_left
                            · intro w; go_simp; with_reducible rfl
                            refine wpAny_take (i := 5) (v := ?_) rfl (by kernel_rfl) (by kernel_rfl) (by kernel_rfl) (fun _ _ _ h => h) (Or.inl ⟨by rfl, ?_⟩) ?_
                            rotate_left
                            · intro w; go_simp; with_reducible rfl
                            refine wpAny_take (i := 6) (v := ?_) rfl (by kernel_rfl) (by kernel_rfl) (by kernel_rfl) (fun _ _ _ h => h) (Or.inl ⟨by rfl, ?_⟩) ?_
                            rotate_left
                            · intro w; go_simp; with_reducible rfl
                            refine wpAny_ready (rs := [3, 7]) (by kernel_rfl) (by simp) ?_
                            refine AllReady.cons rfl (fun K hK => ?_) ?_
                            · go_simp
                              refine hK _ _ ?_
                              clear hK K
                              refine wpAny_ready (rs := [7]) (by kernel_rfl) (by simp) ?_
                              refine AllReady.cons rfl (fun K hK => ?_) AllReady.nil
                              go_simp
                              refine (HTR.out _ HC9'.out).mono ?_
                              rintro e v1 ⟨rfl, hv1⟩
                              refine hK _ _ ?_
                              clear hK K
                              refine wpAny_ready (rs := [8]) (by kernel_rfl) (by simp) ?_
                              refine AllReady.cons rfl (fun K hK => ?_) AllReady.nil
                              go_simp
                              refine (HPL.out _ hv1).mono ?_
                              rintro e v2 ⟨rfl, hf2⟩
                              exact ⟨rfl, HFR.out HN.out _ hf2⟩
                            · refine AllReady.cons rfl (fun K hK => ?_) AllReady.nil
                              go_simp
                              refine (HTR.out _ HC9'.out).mono ?_
                              rintro e v1 ⟨rfl, hv1⟩
                              have HV1 := Lib.hid hv1
                              have kv := hv1.rd.l
                              refine hK _ _ ?_
                              clear hK K hv1
                              refine wpAny_ready (rs := [3, 8]) (by kernel_rfl) (by simp) ?_
                              refine AllReady.cons rfl (fun K hK => ?_) ?_
                              · go_simp
                                refine hK _ _ ?_
                                clear hK K
                                refine wpAny_ready (rs := [8]) (by kernel_rfl) (by simp) ?_
                                refine AllReady.cons rfl (fun K hK => ?_) AllReady.nil
                                go_simp
                                refine (HPL.out _ HV1.out).mono ?_
                                rintro e v2 ⟨rfl, hf2⟩
                                exact ⟨rfl, HFR.out HN.out _ hf2⟩
                              · refine AllReady.cons rfl (fun K hK => ?_) AllReady.nil
                                go_simp
                                refine (HPL.out _ HV1.out).mono ?_
                                rintro e v2 ⟨rfl, hf2⟩
                                exact ⟨rfl, HFR.out HN.out _ hf2⟩
                          | some tx =>
                            have HN : Hid (E0 = some (⟨deep, nm, ps, trimB tx⟩ :: kids, z4)) := by
                              show _ = _; rw [HE8.out, hps]
                            have HPL : Hid (∀ v, CRl w v B rb w2.heap.size m (.slice A ns.length cc) deep nm va z4 (.slice (some ⟨gb, 0, none⟩) (ns.length + (kids.length + 1)) cap) (ns ++ ⟨deep, nm, ps, []⟩ :: kids) →
                                Calls Tryz.prog 69 #[.pointer (some ⟨rb, 0, none⟩), .string ⟨tt.toArray⟩] v fun e v' => e = .returned (.string ⟨tx.toArray⟩) ∧ CRl w v' B rb w2.heap.size m (.slice A ns.length cc) deep nm va z4 (.slice (some ⟨gb, 0, none⟩) (ns.length + (kids.length + 1)) cap) (ns ++ ⟨deep, nm, ps, []⟩ :: kids)) := fun v hv => by
                                refine (plain_walk rb ⟨tt.toArray⟩ m v (by rw [← size_list]; show tt.length ≤ _; omega) hv.mx).mono ?_
                                rintro e v' ⟨hp, hb⟩
                                rw [show (⟨tt.toArray⟩ : ByteArray).data.toList = tt from rfl, hps] at hp
                                exact ⟨hp, hv.below hb⟩
                            have htx : tx.length ≤ 4096 := by
                              unfold plainS at hps
                              split at hps
                              · cases hps
                              · rename_i tx' hrb
                                split at hps
                                · cases hps
                                  have := readB_len _ _ _ (Nat.le_refl _) hrb
                                  omega
                                · cases hps
                            have hty : (trimB tx).length ≤ 4096 := by have := trimB_len tx; omega
                            clear hps
                            generalize hyy : trimB tx = ty at *
                            have HYY := Lib.hid hyy
                            clear hyy
                            have HTR2 : Hid (∀ v, CRl w v B rb w2.heap.size m (.slice A ns.length cc) deep nm va z4 (.slice (some ⟨gb, 0, none⟩) (ns.length + (kids.length + 1)) cap) (ns ++ ⟨deep, nm, ps, []⟩ :: kids) →
                                Calls Tryz.prog 27 #[.string ⟨tx.toArray⟩, .string ⟨#[32, 9, 13, 10]⟩] v fun e v' => e = .returned (.string ⟨ty.toArray⟩) ∧ CRl w v' B rb w2.heap.size m (.slice A ns.length cc) deep nm va z4 (.slice (some ⟨gb, 0, none⟩) (ns.length + (kids.length + 1)) cap) (ns ++ ⟨deep, nm, ps, []⟩ :: kids)) := fun v hv => by
                                refine (Trim_val tx v (by unfold maxLen; omega) ty HYY.out).mono ?_
                                rintro e v' ⟨rfl, hb⟩
                                exact ⟨rfl, hv.below hb⟩
                            have hidx : (ns.length : Int) < (ns.length : Int) + ((kids.length : Int) + 1) := by omega
                            have hidx2 : (ns.length : Int) < ((ns.length + (kids.length + 1) : Nat) : Int) := by omega
                            go_region_law (first
                              | (go_simp; go_at_call_of 27 t; refine (HTR.out _ HC9'.out).mono ?_; rintro e v1 ⟨rfl, hv1⟩; have HV1 := Lib.hid hv1; have kv1 := hv1.rd.l; clear hv1; dsimp only)
                              | (go_simp; go_at_call 69; refine (HPL.out _ HV1.out).mono ?_; rintro e v2 ⟨rfl, hv2⟩; have HV2 := Lib.hid hv2; have kv2 := hv2.rd.l; clear hv2; dsimp only)
                              | (go_simp; go_at_call_of 27 tx; refine (HTR2.out _ HV2.out).mono ?_; rintro e v3 ⟨rfl, hv3⟩; have HV3 := Lib.hid hv3; have kv3 := hv3.rd.l; have tv3 := (hv3.text hB0).1; have uv3 := (hv3.text hB0).2.1; clear hv3; dsimp only))
                            all_goals
                              have HT := Lib.hid ((HV3.out.text hB0).2.2 ty hty)
                              refine bodyPost_end (v := .tuple #[]) (by simp [results, Tryz.results53, go_sem]) rfl ?_
                              unfold ElP; rw [HN.out]
                              exact ⟨HT.out.fr, rfl, _, HT.out.rd, HT.out.own, HT.out.at_⟩
/-- Every element. -/
theorem element_all (f : Nat) : EP f := by
  induction f using Nat.strongRecOn with
  | _ f ih =>
    cases f with
    | zero => intro rb s deep l ns B w m hr hm hB0 hB hs hf; omega
    | succ f => exact element_step f fun g hg => ih g (by omega)
end Go.Proofs.YtffcapkjfmkkaaaGreatDoor
namespace Go.Proofs.YtffcapkjfmkkaaaGreatDoor
open Go.RowKit
theorem attrsS_cnt : ∀ (f : Nat) (s : Bs) (acc ps : List Par) (r : Bs), attrsS f s acc = some (ps, r) → ps.length + r.length ≤ acc.length + s.length := by
  intro f
  induction f with
  | zero => intro s acc ps r h; cases h
  | succ f ih =>
    intro s acc ps r h
    have a1 := dropW_len blankB s
    rw [attrsS] at h
    split at h
    · cases h; simp
    · rename_i c r0 h1
      rw [h1] at a1
      split at h
      · cases h; omega
      · split at h
        · cases h
        · split at h
          · cases h
          · rename_i p r2 h2
            have := ih _ _ _ _ h
            have := attrS_len h2
            rw [List.length_append] at *
            simp only [List.length_cons, List.length_nil] at *
            omega
theorem all_attrs (M f : Nat) : (∀ s deep cnt ms r, s.length ≤ M → elemS f s deep cnt = some (ms, r) → ∀ n ∈ ms, n.attrs.length ≤ M) ∧
    (∀ s n cnt ms r, s.length ≤ M → n.attrs.length ≤ M → contS f s n cnt = some (ms, r) → ∀ n ∈ ms, n.attrs.length ≤ M) ∧
    (∀ s text deep cnt kids t ks r, s.length ≤ M → (∀ n ∈ kids, n.attrs.length ≤ M) → kidsS f s text deep cnt kids = some (t, ks, r) → ∀ n ∈ ks, n.attrs.length ≤ M) := by
  induction f with
  | zero => exact ⟨fun _ _ _ _ _ _ h => by simp [elemS] at h, fun _ _ _ _ _ _ _ h => by simp [contS] at h, fun _ _ _ _ _ _ _ _ _ _ h => by simp [kidsS] at h⟩
  | succ f ih =>
    refine ⟨fun s deep cnt ms r hs h => ?_, fun s n cnt ms r hs hn h => ?_, fun s text deep cnt kids t ks r hs hk h => ?_⟩
    · rw [elemS] at h
      split at h
      · cases h
      · split at h
        · cases h
        · rename_i s1 h1
          have e1 := pre1_len h1
          split at h
          · cases h
          · rename_i c r0 h2
            have e2 := dropW_len (notIn [47, 62, 32, 9, 13, 10]) s1
            rw [h2] at e2
            split at h
            · cases h
            · rename_i ps s3 h3
              have e3 := attrsS_cnt _ _ _ _ _ h3
              simp only [List.length_nil] at e3
              split at h
              · cases h
                intro n hn
                simp at hn; subst hn
                show ps.length ≤ M
                omega
              · split at h
                · cases h
                · rename_i s4 h4
                  have := pre1_len h4
                  exact ih.2.1 _ _ _ _ _ (by omega) (by show ps.length ≤ M; omega) h
    · rw [contS] at h
      split at h
      · cases h
      · rename_i text kids rest h1
        have hk := ih.2.2 _ _ _ _ _ _ _ _ hs (by simp) h1
        unfold closeS at h
        split at h
        · split at h
          · cases h
            intro k hkm
            rcases List.mem_cons.1 hkm with rfl | hkm
            · exact hn
            · exact hk k hkm
          · cases h
        · cases h
    · rw [kidsS] at h
      have e1 := dropW_len (notIn [60]) s
      split at h
      · cases h
      · rename_i c r0 h1
        rw [h1] at e1
        split at h
        · cases h; exact hk
        · split at h
          · cases h
          · rename_i ms rest h2
            have hms := ih.1 _ _ _ _ _ (by omega) h2
            have hl := (all_len f).1 _ _ _ _ _ h2
            refine ih.2.2 _ _ _ _ _ _ _ _ (by omega) ?_ h
            intro n hn
            rcases List.mem_append.1 hn with hn | hn
            · exact hk n hn
            · exact hms n hn
theorem elemP_attrs {f : Nat} {s : Bs} {deep : Int} {cnt : Nat} {ms : List Nod} {r : Bs} (h : elemP f s deep cnt = some (ms, r)) : ∀ n ∈ ms, n.attrs.length ≤ s.length := by
  rw [(all_eq f).1] at h
  unfold fil at h
  split at h
  · cases h
  · rename_i ms' r' he
    split at h
    · cases h; exact (all_attrs s.length f).1 _ _ _ _ _ (Nat.le_refl _) he
    · cases h
end Go.Proofs.YtffcapkjfmkkaaaGreatDoor
namespace Go.Proofs.YtffcapkjfmkkaaaGreatDoor
open Go.RowKit
set_option maxHeartbeats 2000000 in
theorem rec_idle (p q : Addr) (w : World) :
    CallsD Tryz.prog 48 #[.pointer (some p), .pointer (some q)] .returning w fun e u' w' => e = .returned (.tuple #[]) ∧ u' = .returning ∧ w' = w := by
  refine callsD_of_wpS Tryz.func48 rfl fun c₀ cs hu => ?_
  apply wpS_seq
  apply wpS_region
  simp [wpOpsS, go_sem, recoverD, hu, Tryz.ntmps48, Exit.thenS]
  refine wpS_of_wp ?_
  go_wp2
  cases c₀
  simp_all [bodyPostS, results, Tryz.results48]
theorem assert_wrong (w : World) : (Instr.typeAssert (Value.iface 80 (Value.agg #[])) 20 80 true).run Tryz.prog w = .ok (.tuple #[.agg #[], .bool true]) w := by kernel_rfl
set_option maxRecDepth 100000 in
set_option maxHeartbeats 2000000 in
theorem rec_catch (b1 b2 : Nat) (older : List PanicEntry) (w : World) (h1 : w.heap[b1]? = some (.cells #[.slice none 0 0] 22 (0, 0))) (h2 : w.heap[b2]? = some (.cells #[.bool false] 4 (0, 0))) :
    CallsD Tryz.prog 48 #[.pointer (some ⟨b1, 0, none⟩), .pointer (some ⟨b2, 0, none⟩)] (.panicking ({ v := .iface 80 (.agg #[]), recovered := false } :: older)) w fun e u' w' =>
      e = .returned (.tuple #[]) ∧ u' = .panicking ({ v := .iface 80 (.agg #[]), recovered := true } :: older) ∧ w' = ((w.setCell ⟨b1, 0, none⟩ (.slice none 0 0)).setCell ⟨b2, 0, none⟩ (.bool false)).alloc (.cells #[] 80) := by
  have q1 : (w.alloc (.cells #[] 80)).heap[b1]? = some (.cells #[.slice none 0 0] 22 (0, 0)) := by
    rw [Below.heap_alloc _ _ _ (blk_lt h1)]; exact h1
  have q2 : (w.alloc (.cells #[] 80)).heap[b2]? = some (.cells #[.bool false] 4 (0, 0)) := by
    rw [Below.heap_alloc _ _ _ (blk_lt h2)]; exact h2
  have c1 := blk_cell q1 0
  have c2 := blk_cell q2 0
  have f1 := frozen0 q1 0
  have f2 := frozen0 q2 0
  have hne : ¬ b2 = b1 := fun e => by
    subst e
    rw [h1] at h2; injection h2 with h2; injection h2 with _ h2; revert h2; decide
  have hne2 : ¬ b1 = b2 := fun e => hne e.symm
  have hl1 := blk_lt h1
  have hl2 := blk_lt h2
  have d1 := blk_cell h1 0
  have d2 := blk_cell h2 0
  have e1 := frozen0 h1 0
  have e2 := frozen0 h2 0
  clear q1 q2
  simp at c1 c2 d1 d2
  refine callsD_of_wpS Tryz.func48 rfl fun c₀ cs hu => ?_
  apply wpS_seq
  apply wpS_region
  simp [wpOpsS, go_sem, recoverD, hu, Tryz.ntmps48, Exit.thenS]
  refine wpS_of_wp ?_
  have ha := assert_wrong
  go_wp2
  cases c₀
  simp_all [bodyPostS, results, Tryz.results48]
/-- Inside read: what stands below; its two results' variables; the reader. -/
structure RRl (w wr : World) (m : Int) (y : Bs) (l : Value) : Prop where
  below : Below w.heap.size w wr
  lb : wr.heap[w.heap.size]? = some (.cells #[.slice none 0 0] 22 (0, 0))
  ob : wr.heap[w.heap.size + 1]? = some (.cells #[.bool false] 4 (0, 0))
  rd : Rd wr (w.heap.size + 1 + 1) ⟨y.toArray⟩ l
  mx : Mx wr m
/-- The same without the reader: where it gave up. -/
structure RBl (w wr : World) : Prop where
  below : Below w.heap.size w wr
  lb : wr.heap[w.heap.size]? = some (.cells #[.slice none 0 0] 22 (0, 0))
  ob : wr.heap[w.heap.size + 1]? = some (.cells #[.bool false] 4 (0, 0))
theorem RRl.bad {w wr w' : World} {m : Int} {y : Bs} {l : Value} (h : RRl w wr m y l) (hg : wr.grownBy w' (some (w.heap.size + 1 + 1))) : RBl w w' :=
  ⟨h.below.grown hg h.below.size (fun k hk => by injection hk with hk; omega),
    by rw [hg.block _ (blk_lt h.lb) (by intro e; injection e with e; omega)]; exact h.lb,
    by rw [hg.block _ (blk_lt h.ob) (by intro e; injection e with e; omega)]; exact h.ob⟩
theorem RRl.stp {w wr w' : World} {m : Int} {y y' : Bs} {l : Value} (h : RRl w wr m y l) (hs : Stp wr (w.heap.size + 1 + 1) y' l w') : RRl w w' m y' l :=
  let b := h.bad hs.2
  ⟨b.below, b.lb, b.ob, hs.1, h.mx.stp h.rd hs.2⟩
theorem RRl.badFr {w wr w' : World} {m : Int} {y : Bs} {l : Value} (h : RRl w wr m y l) (hg : Fr wr w' (w.heap.size + 1 + 1) none) : RBl w w' :=
  ⟨⟨hg.os.trans h.below.os, hg.tape.trans h.below.tape, hg.output.trans h.below.output, Nat.le_trans h.below.size hg.size, fun k hk => by
      rw [hg.block k (Nat.lt_of_lt_of_le hk h.below.size) (by omega) (by simp)]; exact h.below.block k hk⟩,
    by rw [hg.block _ (blk_lt h.lb) (by omega) (by simp)]; exact h.lb,
    by rw [hg.block _ (blk_lt h.ob) (by omega) (by simp)]; exact h.ob⟩
def ReadPost (w : World) (s : Bs) (e : Ending) (w' : World) : Prop :=
  Below w.heap.size w w' ∧
  match docP s with
  | none => ∃ v, e = .returned (.tuple #[v, .bool false])
  | some ms => ∃ v, e = .returned (.tuple #[v, .bool true]) ∧ RNod w' v ms
theorem res_read {tmps : Array Value} {w : World} {a b : Addr} {x y : Value} (h2 : tmps.getD 2 undef = .pointer (some a)) (h3 : tmps.getD 3 undef = .pointer (some b)) (c1 : w.cell? a = some x) (c2 : w.cell? b = some y) :
    (results Tryz.f33 tmps).run Tryz.prog w = .ok (.tuple #[x, y]) w := by
  have h2' : tmps[2]?.getD undef = .pointer (some a) := by simpa using h2
  have h3' : tmps[3]?.getD undef = .pointer (some b) := by simpa using h3
  simp [results, Tryz.results33, go_sem, h2', h3', c1, c2]
set_option maxRecDepth 100000 in
theorem door_bad {w w2 : World} {s : Bs} (hb : RBl w w2) (hn : docP s = none) (tmps : Array Value) (h2 : tmps.getD 2 undef = .pointer (some ⟨w.heap.size, 0, none⟩)) (h3 : tmps.getD 3 undef = .pointer (some ⟨w.heap.size + 1, 0, none⟩)) :
    bodyPostD Tryz.prog Tryz.f33 (ReadPost w s) (Exit.panic [{ v := .iface 80 (.agg #[]), recovered := false }])
      { tmps := tmps, defers := [{ target := Target.fn (Fn.func 48) #[.pointer (some ⟨w.heap.size, 0, none⟩), .pointer (some ⟨w.heap.size + 1, 0, none⟩)], args := #[] }] } w2 := by
  refine leaves_cons (f := 48) (args := #[.pointer (some ⟨w.heap.size, 0, none⟩), .pointer (some ⟨w.heap.size + 1, 0, none⟩)]) (by simp) (by simp [go_sem]) ?_
  refine (rec_catch _ _ [] w2 hb.lb hb.ob).mono ?_
  rintro e u' w'' ⟨rfl, rfl, rfl⟩
  have hl := blk_lt hb.lb
  have ho := blk_lt hb.ob
  have k1 := setCell_same hb.lb 0 (.slice none 0 0)
  have k2 : (w2.setCell ⟨w.heap.size, 0, none⟩ (.slice none 0 0)).heap[w.heap.size + 1]? = some (.cells #[.bool false] 4 (0, 0)) := by
    rw [Below.heap_setCell _ _ _ _ (by show w.heap.size + 1 ≠ w.heap.size; omega)]; exact hb.ob
  have k3 := setCell_same k2 0 (.bool false)
  have k4 : ((w2.setCell ⟨w.heap.size, 0, none⟩ (.slice none 0 0)).setCell ⟨w.heap.size + 1, 0, none⟩ (.bool false)).heap[w.heap.size]? = some (.cells #[.slice none 0 0] 22 (0, 0)) := by
    rw [Below.heap_setCell _ _ _ _ (by show w.heap.size ≠ w.heap.size + 1; omega)]; exact k1
  have hbw : Below w.heap.size w (((w2.setCell ⟨w.heap.size, 0, none⟩ (.slice none 0 0)).setCell ⟨w.heap.size + 1, 0, none⟩ (.bool false)).alloc (.cells #[] 80)) :=
    ((hb.below.setCell (p := ⟨w.heap.size, 0, none⟩) (Nat.le_refl _) _).setCell (p := ⟨w.heap.size + 1, 0, none⟩) (by show _ ≤ w.heap.size + 1; omega) _).alloc (by rw [setCell_size, setCell_size]; exact hb.below.size) _
  generalize hw3 : (((w2.setCell ⟨w.heap.size, 0, none⟩ (.slice none 0 0)).setCell ⟨w.heap.size + 1, 0, none⟩ (.bool false)).alloc (.cells #[] 80)) = w3 at *
  have c1 : w3.cell? ⟨w.heap.size, 0, none⟩ = some (.slice none 0 0) := by
    rw [← hw3]; exact cell_keep ((Below.refl _ _).alloc (Nat.le_refl _) _) (blk_cell k4 0)
  have c2 : w3.cell? ⟨w.heap.size + 1, 0, none⟩ = some (.bool false) := by
    rw [← hw3]; exact cell_keep ((Below.refl _ _).alloc (Nat.le_refl _) _) (blk_cell k3 0)
  clear hw3 k1 k2 k3 k4
  have hp : ReadPost w s (.returned (.tuple #[.slice none 0 0, .bool false])) w3 := by
    unfold ReadPost; rw [hn]; exact ⟨hbw, _, rfl⟩
  exact ⟨_, res_read h2 h3 c1 c2, hp⟩
theorem door_good {w w2 : World} {s : Bs} {v : Value} {b : Bool} (tmps : Array Value) (h2 : tmps.getD 2 undef = .pointer (some ⟨w.heap.size, 0, none⟩)) (h3 : tmps.getD 3 undef = .pointer (some ⟨w.heap.size + 1, 0, none⟩))
    (c1 : w2.cell? ⟨w.heap.size, 0, none⟩ = some v) (c2 : w2.cell? ⟨w.heap.size + 1, 0, none⟩ = some (.bool b)) (hp : ReadPost w s (.returned (.tuple #[v, .bool b])) w2) :
    bodyPostD Tryz.prog Tryz.f33 (ReadPost w s) Exit.ret
      { tmps := tmps, defers := [{ target := Target.fn (Fn.func 48) #[.pointer (some ⟨w.heap.size, 0, none⟩), .pointer (some ⟨w.heap.size + 1, 0, none⟩)], args := #[] }] } w2 := by
  refine leaves_cons (f := 48) (args := #[.pointer (some ⟨w.heap.size, 0, none⟩), .pointer (some ⟨w.heap.size + 1, 0, none⟩)]) (by simp) (by simp [go_sem]) ?_
  refine (rec_idle _ _ w2).mono ?_
  rintro e u' w'' ⟨rfl, rfl, rfl⟩
  exact ⟨_, res_read h2 h3 c1 c2, hp⟩
/-- The two results' variables are written. -/
theorem read_fin {w w3 : World} (h : RBl w w3) (v : Value) (b : Bool) :
    ((w3.setCell ⟨w.heap.size, 0, none⟩ v).setCell ⟨w.heap.size + 1, 0, none⟩ (.bool b)).cell? ⟨w.heap.size, 0, none⟩ = some v ∧
    ((w3.setCell ⟨w.heap.size, 0, none⟩ v).setCell ⟨w.heap.size + 1, 0, none⟩ (.bool b)).cell? ⟨w.heap.size + 1, 0, none⟩ = some (.bool b) ∧
    Below w.heap.size w ((w3.setCell ⟨w.heap.size, 0, none⟩ v).setCell ⟨w.heap.size + 1, 0, none⟩ (.bool b)) ∧
    ∀ ms, ONod w3 w.heap.size v ms → RNod ((w3.setCell ⟨w.heap.size, 0, none⟩ v).setCell ⟨w.heap.size + 1, 0, none⟩ (.bool b)) v ms := by
  have k1 := setCell_same h.lb 0 v
  have k2 : (w3.setCell ⟨w.heap.size, 0, none⟩ v).heap[w.heap.size + 1]? = some (.cells #[.bool false] 4 (0, 0)) := by
    rw [Below.heap_setCell _ _ _ _ (by show w.heap.size + 1 ≠ w.heap.size; omega)]; exact h.ob
  have k3 := setCell_same k2 0 (.bool b)
  have k4 : ((w3.setCell ⟨w.heap.size, 0, none⟩ v).setCell ⟨w.heap.size + 1, 0, none⟩ (.bool b)).heap[w.heap.size]? = some (.cells (#[.slice none 0 0].setIfInBounds 0 v) 22 (0, 0)) := by
    rw [Below.heap_setCell _ _ _ _ (by show w.heap.size ≠ w.heap.size + 1; omega)]; exact k1
  refine ⟨blk_cell k4 0, blk_cell k3 0, (h.below.setCell (p := ⟨w.heap.size, 0, none⟩) (Nat.le_refl _) _).setCell (p := ⟨w.heap.size + 1, 0, none⟩) (by show _ ≤ w.heap.size + 1; omega) _, fun ms ho => ?_⟩
  have h1 : ONod (w3.setCell ⟨w.heap.size, 0, none⟩ v) w.heap.size v ms := by
    refine ho.grown (setCell_grown _ _ _ _) (fun k hk => ?_) (.inr fun e => ?_)
    · injection hk with hk; subst hk
      exact ⟨_, _, _, h.lb, by decide⟩
    · obtain ⟨⟨zs, -, hz, -⟩, -⟩ := ho
      obtain ⟨cs, hc⟩ := own_at hz e
      rw [h.lb] at hc; injection hc with hc; injection hc with _ ht; revert ht; decide
  have h2 := h1.grown (setCell_grown (w3.setCell ⟨w.heap.size, 0, none⟩ v) (w.heap.size + 1) 0 (.bool b)) (fun k hk => by
      injection hk with hk; subst hk
      exact ⟨_, _, _, k2, by decide⟩) (.inr fun e => by
      obtain ⟨⟨zs, -, hz, -⟩, -⟩ := h1
      obtain ⟨cs, hc⟩ := own_at hz e
      rw [k2] at hc; injection hc with hc; injection hc with _ ht; revert ht; decide)
  exact h2.reads
set_option maxRecDepth 100000 in
set_option maxHeartbeats 8000000 in
theorem read_walk (s : ByteArray) (w : World) (m : Int) (hs : s.size ≤ 4096) (hm : Mx w m) :
    Calls Tryz.prog 33 #[.string s] w (ReadPost w s.data.toList) := by
  have hmf : ∀ (fn : Fn) (first cap : Array Value) (w : World), (Instr.makeFunc fn first cap).run Tryz.prog w = .ok (.func fn first cap) w := fun _ _ _ _ => rfl
  have HGLT : Hid (2 < w.heap.size) := cell_lt hm
  go_enter_defers Tryz.func33, Tryz.ntmps33
  go_upto_if 10 with (fail)
  have h0 : RRl w (((w.alloc (.cells #[.slice none 0 0] 22)).alloc (.cells #[.bool false] 4)).alloc (.cells #[.string s, .slice none 0 0] 83)) m s.data.toList (.slice none 0 0) := by
    refine ⟨(((Below.refl _ _).alloc (Nat.le_refl _) _).alloc (by simp) _).alloc (by simp; omega) _, ?_, ?_, ?_, ?_⟩
    · rw [Below.heap_alloc _ _ _ (by simp; omega), Below.heap_alloc _ _ _ (by simp)]; exact heap_alloc_new w _
    · rw [Below.heap_alloc _ _ _ (by simp)]
      have := heap_alloc_new (w.alloc (.cells #[.slice none 0 0] 22)) (.cells #[.bool false] 4)
      simpa using this
    · have := heap_alloc_new ((w.alloc (.cells #[.slice none 0 0] 22)).alloc (.cells #[.bool false] 4)) (.cells #[.string s, .slice none 0 0] 83)
      unfold Rd
      rw [← bytes_of]
      simpa using this
    · exact cell_keep ((((Below.refl _ _).alloc (Nat.le_refl _) _).alloc (by simp) _).alloc (by simp; omega) _) hm
  have H0 := Lib.hid h0
  generalize hb5 : Lib.hasPrefix s.data.toList pre5 = b5
  have HB5 := Lib.hid hb5
  refine (may_val (w.heap.size + 1 + 1) s ⟨#[60, 63, 120, 109, 108]⟩ _ _ (by have := h0.rd; rwa [← bytes_of] at this) pre5 rfl b5 hb5).mono ?_
  clear h0 hb5 hm
  generalize (((w.alloc (.cells #[.slice none 0 0] 22)).alloc (.cells #[.bool false] 4)).alloc (.cells #[.string s, .slice none 0 0] 83)) = w0 at *
  rintro e w1 ⟨rfl, hst1⟩
  have HR1 := Lib.hid (H0.out.stp hst1)
  clear hst1
  have hlen5 : pre5.length = 5 := rfl
  go_upto_if 10 with (fail)
  go_cut [11] from 11 to 14 (fun _ wr => ∃ y, prologS s.data.toList = some y ∧ y.length ≤ s.size ∧ RRl w wr m y (.slice none 0 0))
  case first =>
    cases b5
    · have hps : prologS s.data.toList = some s.data.toList := by
        unfold prologS; rw [if_neg]
        intro h
        have := (has_take s.data.toList pre5).2 h
        rw [HB5.out] at this; cases this
      have HPS := Lib.hid hps
      clear hps
      go_wp2_with fail
      go_meet
      exact ⟨_, HPS.out, by rw [size_list]; exact Nat.le_refl _, HR1.out⟩
    · have hps : prologS s.data.toList = pre2 63 62 (dropW (notIn [63]) (s.data.toList.drop 5)) := by
        unfold prologS; rw [if_pos]
        exact (has_take s.data.toList pre5).1 HB5.out
      have HPS := Lib.hid hps
      have HR2 : Hid (RRl w w1 m (s.data.toList.drop 5) (.slice none 0 0)) := HR1.out
      have hl5 : (s.data.toList.drop 5).length ≤ s.size := by rw [List.length_drop, size_list]; omega
      clear hps
      generalize s.data.toList.drop 5 = s5 at *
      go_wp2_with fail
      refine (until_walk (w.heap.size + 1 + 1) ⟨s5.toArray⟩ ⟨#[63]⟩ _ w1 HR2.out.rd [63] rfl (by decide) (by rw [← size_list]; show s5.length ≤ _; omega)).mono ?_
      rintro e w2 hu
      unfold UntilPost at hu
      rw [show (⟨s5.toArray⟩ : ByteArray).data.toList = s5 from rfl] at hu
      have hdl := dropW_len (notIn [63]) s5
      cases hd : dropW (notIn [63]) s5 with
      | nil =>
        rw [hd] at hu
        obtain ⟨rfl, hb⟩ := hu
        have HBAD := Lib.hid (HR2.out.bad (below_grown' hb))
        have HN : Hid (docP s.data.toList = none) := by
          show _ = _; unfold docP; rw [HPS.out, hd]; rfl
        clear hd hb
        go_wp2
        exact door_bad HBAD.out HN.out _ rfl rfl
      | cons c r =>
        rw [hd] at hu hdl
        obtain ⟨rfl, hst2⟩ := hu
        have HR3 := Lib.hid (HR2.out.stp hst2)
        have HPS2 : Hid (prologS s.data.toList = pre2 63 62 (c :: r)) := by
          show _ = _; rw [HPS.out, hd]
        clear hst2 hd
        generalize c :: r = z at *
        go_wp2_with fail
        cases hp : pre2 63 62 z with
        | none =>
          refine (take2_val (w.heap.size + 1 + 1) _ ⟨#[63, 62]⟩ _ w2 HR3.out.rd 63 62 rfl none hp).mono ?_
          have HN : Hid (docP s.data.toList = none) := by
            show _ = _; unfold docP; rw [HPS2.out, hp]
          clear hp
          rintro e w3 ⟨rfl, hg3⟩
          have HBAD := Lib.hid (HR3.out.bad hg3)
          clear hg3
          go_wp2
          exact door_bad HBAD.out HN.out _ rfl rfl
        | some y =>
          refine (take2_val (w.heap.size + 1 + 1) _ ⟨#[63, 62]⟩ _ w2 HR3.out.rd 63 62 rfl (some y) hp).mono ?_
          have HPS3 : Hid (prologS s.data.toList = some y) := by
            show _ = _; rw [HPS2.out, hp]
          have hyl := pre2_len hp
          clear hp
          rintro e w3 ⟨rfl, hst3⟩
          have HR4 := Lib.hid (HR3.out.stp hst3)
          clear hst3
          go_wp2_with fail
          go_meet
          exact ⟨y, HPS3.out, by omega, HR4.out⟩
  case rest =>
    obtain ⟨y, hps, hyl, hr⟩ := hcut
    have HR := Lib.hid hr
    have hy2 := dropW_len blankB y
    have HD : Hid (docP s.data.toList = match elemP 9000 (dropW blankB y) 0 0 with
        | none => none
        | some (ms, r) => if dropW blankB r = [] ∧ checkB ms = true then some ms else none) := by
      show _ = _; unfold docP; rw [hps]; rfl
    clear hps hr
    go_wp2_with fail
    refine (blank_walk (w.heap.size + 1 + 1) ⟨y.toArray⟩ _ wc HR.out.rd).mono ?_
    rintro e w1 ⟨rfl, hst1⟩
    rw [show (⟨y.toArray⟩ : ByteArray).data.toList = y from rfl] at hst1
    have HR1' := Lib.hid (HR.out.stp hst1)
    clear hst1
    generalize dropW blankB y = y1 at *
    have hmax : w.heap.size ≤ w1.heap.size := HR1'.out.below.size
    have hpos : 2 < w.heap.size := HGLT.out
    go_wp2_with fail
    refine (element_all 9000 (w.heap.size + 1 + 1) ⟨y1.toArray⟩ 0 (.slice none 0 0) [] w.heap.size w1 m HR1'.out.rd HR1'.out.mx hpos hmax (by rw [← size_list]; show y1.length ≤ _; omega) (by rw [← size_list]; show 2 * y1.length + 1 ≤ _; omega) (by omega) (by omega) (ONod.nil _ _) (by simp)).mono ?_
    rintro e w2 hel
    unfold ElP at hel
    rw [show (⟨y1.toArray⟩ : ByteArray).data.toList = y1 from rfl, show ([] : List Nod).length = 0 from rfl] at hel
    obtain ⟨hf2, hel⟩ := hel
    cases hev : elemP 9000 y1 0 0 with
    | none =>
      rw [hev] at hel
      subst hel
      have HN : Hid (docP s.data.toList = none) := by
        show _ = _; rw [HD.out, hev]
      have HBAD := Lib.hid (HR1'.out.badFr hf2)
      clear hev hf2
      go_wp2
      exact door_bad HBAD.out HN.out _ rfl rfl
    | some mr =>
      obtain ⟨ms, r⟩ := mr
      rw [hev] at hel
      obtain ⟨rfl, l2, hr2, ho2, ha2⟩ := hel
      have hml := elemP_len hev
      have HAT := Lib.hid (elemP_attrs hev)
      have HD2 : Hid (docP s.data.toList = if dropW blankB r = [] ∧ checkB ms = true then some ms else none) := by
        show _ = _; rw [HD.out, hev]
      have hb2 := HR1'.out.badFr hf2
      have HB2 := Lib.hid hb2
      have hm2 : Mx w2 m := hf2.cell (by show 2 ≠ w.heap.size + 1 + 1; have := HGLT.out; omega) (by simp [Value.ownBlock]) HR1'.out.mx
      have HR2 : Hid (RRl w w2 m r l2) := ⟨hb2.below, hb2.lb, hb2.ob, hr2, hm2⟩
      have HO2 : Hid (ONod w2 w.heap.size l2 ms) := ho2
      clear hev hf2 hr2 ho2 ha2 hb2 hm2
      go_wp2_with fail
      refine (blank_walk (w.heap.size + 1 + 1) ⟨r.toArray⟩ _ w2 HR2.out.rd).mono ?_
      rintro e w3 ⟨rfl, hst3⟩
      rw [show (⟨r.toArray⟩ : ByteArray).data.toList = r from rfl] at hst3
      have HR3 := Lib.hid (HR2.out.stp hst3)
      have HO3 := Lib.hid (HO2.out.stp HR2.out.rd hst3.2)
      clear hst3
      generalize dropW blankB r = y3 at *
      have k0 := HR3.out.rd.s
      have k1 := HR3.out.rd.l
      have q1 := blk_cell HR3.out.lb 0
      have q2 := blk_cell HR3.out.ob 0
      have z1 := frozen0 HR3.out.lb 0
      have z2 := frozen0 HR3.out.ob 0
      simp at q1 q2
      obtain ⟨A2, c2, hl2⟩ : ∃ A2 c2, l2 = .slice A2 ms.length c2 := by
        obtain ⟨⟨zs, -, hz, -⟩, -⟩ := HO3.out
        obtain ⟨A1, c1, e⟩ := own_slice hz
        exact ⟨A1, c1, e⟩
      subst hl2
      go_upto_region 9 with (fail)
      have g1 : ¬ w.heap.size + 1 + 1 = w.heap.size := by omega
      have g2 : ¬ w.heap.size + 1 + 1 = w.heap.size + 1 := by omega
      have g3 : ¬ w.heap.size = w.heap.size + 1 + 1 := by omega
      have g4 : ¬ w.heap.size + 1 = w.heap.size + 1 + 1 := by omega
      have g5 : ¬ w.heap.size = w.heap.size + 1 := by omega
      have g6 : ¬ w.heap.size + 1 = w.heap.size := by omega
      cases y3 with
      | nil =>
        have hrn := (HO3.out.below (Below.refl _ _).drew).reads
        have HRN := Lib.hid hrn
        clear hrn
        generalize hcb : checkB ms = cb at *
        have HCB := Lib.hid hcb
        have hpl : ∀ n ∈ ms, n.attrs.length < maxLen := fun n hn => by
          have := HAT.out n hn
          unfold maxLen; omega
        have HPL := Lib.hid hpl
        clear hcb hpl
        have HCK : Hid (∀ v, RNod v (.slice A2 ms.length c2) ms → Calls Tryz.prog 12 #[.slice A2 ms.length c2] v fun e v' => e = .returned (.int .i64 (chkI cb)) ∧ Below v.heap.size v v') := fun v hv => by
            rw [← HCB.out]; exact Check_walk _ ms v hv HPL.out
        cases cb
        · have HCK2 : Hid (∀ v, RNod v (.slice A2 ms.length c2) ms → Calls Tryz.prog 12 #[.slice A2 ms.length c2] v fun e v' => e = .returned (.int .i64 130) ∧ Below v.heap.size v v') := HCK.out
          go_region_held3 (fun w' => w'.cell? ⟨w.heap.size + 1 + 1, 0, none⟩ = some (.string ⟨#[]⟩) ∧ w'.cell? ⟨w.heap.size + 1 + 1, 1, none⟩ = some (.slice A2 ms.length c2)) (go_keep) (first
            | (go_at_call 12; refine (HCK2.out _ HRN.out).mono ?_; rintro e w4 ⟨rfl, hb4⟩; have kk0 := cell_keep hb4 (show w3.drew.cell? _ = _ from k0); have kk1 := cell_keep hb4 (show w3.drew.cell? _ = _ from k1); have HB4 := Lib.hid (RRl.bad HR3.out ⟨hb4.os, hb4.tape, hb4.output, hb4.size, fun k hk _ => hb4.block k hk⟩); have HO4 := Lib.hid ((HO3.out.below (Below.refl _ _).drew).below hb4); have l1 := blk_cell HB4.out.lb 0; have l2 := blk_cell HB4.out.ob 0; have l3 := frozen0 HB4.out.lb 0; have l4 := frozen0 HB4.out.ob 0; clear hb4; dsimp only))
          all_goals go_wp2_with fail
          all_goals
            have HN : docP s.data.toList = none := by
              rw [HD2.out]; simp
            have hfin := read_fin HB4.out (.slice A2 ms.length c2) false
            refine door_good (v := .slice A2 ms.length c2) (b := false) _ rfl rfl hfin.1 hfin.2.1 ?_
            unfold ReadPost
            rw [HN]
            exact ⟨⟨hfin.2.2.1.os, hfin.2.2.1.tape, hfin.2.2.1.output, hfin.2.2.1.size, hfin.2.2.1.block⟩, _, rfl⟩
        · have HCK2 : Hid (∀ v, RNod v (.slice A2 ms.length c2) ms → Calls Tryz.prog 12 #[.slice A2 ms.length c2] v fun e v' => e = .returned (.int .i64 0) ∧ Below v.heap.size v v') := HCK.out
          go_region_held3 (fun w' => w'.cell? ⟨w.heap.size + 1 + 1, 0, none⟩ = some (.string ⟨#[]⟩) ∧ w'.cell? ⟨w.heap.size + 1 + 1, 1, none⟩ = some (.slice A2 ms.length c2)) (go_keep) (first
            | (go_at_call 12; refine (HCK2.out _ HRN.out).mono ?_; rintro e w4 ⟨rfl, hb4⟩; have kk0 := cell_keep hb4 (show w3.drew.cell? _ = _ from k0); have kk1 := cell_keep hb4 (show w3.drew.cell? _ = _ from k1); have HB4 := Lib.hid (RRl.bad HR3.out ⟨hb4.os, hb4.tape, hb4.output, hb4.size, fun k hk _ => hb4.block k hk⟩); have HO4 := Lib.hid ((HO3.out.below (Below.refl _ _).drew).below hb4); have l1 := blk_cell HB4.out.lb 0; have l2 := blk_cell HB4.out.ob 0; have l3 := frozen0 HB4.out.lb 0; have l4 := frozen0 HB4.out.ob 0; clear hb4; dsimp only))
          all_goals go_wp2_with fail
          all_goals
            have HN : docP s.data.toList = some ms := by
              rw [HD2.out]; simp
            have hfin := read_fin HB4.out (.slice A2 ms.length c2) true
            refine door_good (v := .slice A2 ms.length c2) (b := true) _ rfl rfl hfin.1 hfin.2.1 ?_
            unfold ReadPost
            rw [HN]
            exact ⟨⟨hfin.2.2.1.os, hfin.2.2.1.tape, hfin.2.2.1.output, hfin.2.2.1.size, hfin.2.2.1.block⟩, _, rfl, hfin.2.2.2 ms HO4.out⟩
      | cons c3 r3 =>
        have HN : Hid (docP s.data.toList = none) := by
          show _ = _; rw [HD2.out]; exact if_neg (fun h => by cases h.1)
        refine wp_region_noPanic ?_
        first
          | go_region_with (fail)
          | skip
        all_goals refine NoPanic.normal ?_
        all_goals go_wp2_with fail
        all_goals
          have hfin := read_fin ⟨HR3.out.below, HR3.out.lb, HR3.out.ob⟩ (.slice A2 ms.length c2) false
          refine door_good (v := .slice A2 ms.length c2) (b := false) _ rfl rfl hfin.1 hfin.2.1 ?_
          unfold ReadPost
          rw [HN.out]
          exact ⟨⟨hfin.2.2.1.os, hfin.2.2.1.tape, hfin.2.2.1.output, hfin.2.2.1.size, hfin.2.2.1.block⟩, _, rfl⟩
/-- What the program's Parse answers. -/
theorem pParse_walk (s : ByteArray) (w : World) (m : Int) (hm : Mx w m) :
    Calls Tryz.prog 16 #[.string s] w (DocPost w s) := by
  by_cases hl : 4096 < s.size
  · have HL := Lib.hid hl
    go_enter Tryz.func16, Tryz.ntmps16
    go_wp2
    go_ret2
    unfold DocPost
    rw [if_pos HL.out]
    exact ⟨Below.refl _ _, rfl⟩
  · have HL := Lib.hid hl
    have HRW := Lib.hid (read_walk s w m (by omega) hm)
    go_enter Tryz.func16, Tryz.ntmps16
    go_wp2_with fail
    refine HRW.out.mono ?_
    rintro e w1 ⟨hb, hp⟩
    have HB := Lib.hid hb
    clear hb
    cases hd : docP s.data.toList with
    | none =>
      rw [hd] at hp
      obtain ⟨v, rfl⟩ := hp
      have HD := Lib.hid ((docP_eq s.data.toList).symm.trans hd)
      clear hd
      go_wp2_with fail
      go_ret2
      unfold DocPost
      rw [if_neg HL.out, HD.out]
      exact ⟨HB.out, rfl⟩
    | some ms =>
      rw [hd] at hp
      obtain ⟨v, rfl, hr⟩ := hp
      have HD := Lib.hid ((docP_eq s.data.toList).symm.trans hd)
      have HR := Lib.hid hr
      clear hd hr
      go_wp2_with fail
      go_ret2
      unfold DocPost
      rw [if_neg HL.out, HD.out]
      exact ⟨HB.out, _, rfl, HR.out⟩
end Go.Proofs.YtffcapkjfmkkaaaGreatDoor
namespace Go.Proofs.YtffcapkjfmkkaaaGreatDoor
open Go.RowKit
def ex1 : Bs := [60, 97, 32, 98, 61, 39, 49, 39, 62, 32, 60, 99, 47, 62, 120, 60, 47, 97, 62]
def ex2 : Bs := [60, 97, 32, 98, 61, 39, 49, 39, 62, 32, 60, 99, 62, 120, 32, 38, 108, 116, 59, 32, 121, 32, 60, 47, 99, 62, 60, 47, 97, 62]
def exN : List Nod := [⟨0, [97], [⟨[98], [49], true⟩], []⟩, ⟨1, [99], [], [120, 32, 60, 32, 121]⟩]
set_option maxRecDepth 100000 in
theorem el1 : elemS 9000 ex1 0 0 = some ([⟨0, [97], [⟨[98], [49], true⟩], [120]⟩, ⟨1, [99], [], []⟩], []) := by
  simp [ex1, elemS, contS, kidsS, closeS, attrsS, attrS, dropW, takeW, blankB, hasB, notIn, pre1, pre2, readB, trimB, trimR]
set_option maxRecDepth 100000 in
theorem el2 : elemS 9000 ex2 0 0 = some (exN, []) := by
  simp [ex2, exN, elemS, contS, kidsS, closeS, attrsS, attrS, dropW, takeW, blankB, hasB, notIn, pre1, pre2, readB, fndE, entL, entC, trimB, trimR]
theorem doc1 : docS ex1 = none := by
  unfold docS
  rw [show prologS ex1 = some ex1 from rfl]
  simp only []
  rw [show dropW blankB ex1 = ex1 from rfl, el1]
  decide
theorem doc2 : docS ex2 = some exN := by
  unfold docS
  rw [show prologS ex2 = some ex2 from rfl]
  simp only []
  rw [show dropW blankB ex2 = ex2 from rfl, el2]
  decide
def litPar : Array Value := #[.string ⟨#[98]⟩, .string ⟨#[49]⟩, .bool true]
theorem ex_reads (w : World) (b1 b2 : Nat) (h1 : w.heap[b1]? = some (.cells litPar 43 (0, 0)))
    (h2 : w.heap[b2]? = some (.cells #[.int .i64 0, .string ⟨#[97]⟩, .slice (some ⟨b1, 0, none⟩) 1 1, .string ⟨#[]⟩, .int .i64 1, .string ⟨#[99]⟩, .slice none 0 0, .string ⟨#[120, 32, 60, 32, 121]⟩] 46 (0, 0))) :
    RNod w (.slice (some ⟨b2, 0, none⟩) 2 2) exN := by
  have hp : RPar w (.slice (some ⟨b1, 0, none⟩) 1 1) [⟨[98], [49], true⟩] := by
    refine ⟨_, 1, rfl, Nat.le_refl _, by decide, fun j hj => ⟨_, rfl, ?_⟩⟩
    have : j = 0 := by simpa using hj
    subst this
    rw [addr_add]
    exact ⟨blk_cell h1 0, blk_cell h1 1, blk_cell h1 2, by show 1 ≤ maxLen; unfold maxLen; omega, by show 1 ≤ maxLen; unfold maxLen; omega⟩
  have hq : RPar w (.slice none 0 0) [] := ⟨none, 0, rfl, by simp, by simp, fun j hj => by simp at hj⟩
  refine ⟨_, 2, rfl, Nat.le_refl _, by decide, fun j hj => ?_⟩
  have hj2 : j < 2 := hj
  match j, hj2 with
  | 0, _ =>
    refine ⟨_, .slice (some ⟨b1, 0, none⟩) 1 1, rfl, ?_⟩
    rw [addr_add]
    exact ⟨blk_cell h2 0, blk_cell h2 1, blk_cell h2 2, hp, blk_cell h2 3, by show 1 ≤ maxLen; unfold maxLen; omega, by show 0 ≤ maxLen; omega⟩
  | 1, _ =>
    refine ⟨_, .slice none 0 0, rfl, ?_⟩
    rw [addr_add]
    exact ⟨blk_cell h2 4, blk_cell h2 5, blk_cell h2 6, hq, blk_cell h2 7, by show 1 ≤ maxLen; unfold maxLen; omega, by show 5 ≤ maxLen; unfold maxLen; omega⟩
set_option maxRecDepth 100000 in
set_option maxHeartbeats 4000000 in
theorem awake_walk (w : World) (m : Int) (hm : Mx w m) :
    Calls Tryz.prog 9 #[] w fun e w' => e = .returned (.bool true) ∧ Below w.heap.size w w' := by
  have HM := Lib.hid hm
  clear hm
  have HD1 := Lib.hid doc1
  have HD2 := Lib.hid doc2
  go_enter Tryz.func9, Tryz.ntmps9
  go_wp2_with fail
  refine (pParse_walk ⟨ex1.toArray⟩ w m HM.out).mono ?_
  rintro e w1 ⟨hb1, he⟩
  rw [if_neg (by rw [← size_list]; decide), show (⟨ex1.toArray⟩ : ByteArray).data.toList = ex1 from rfl, HD1.out] at he
  subst he
  have HB1 := Lib.hid hb1
  clear hb1
  go_wp2_with fail
  refine (pParse_walk ⟨ex2.toArray⟩ w1 m (cell_keep HB1.out HM.out)).mono ?_
  rintro e w2 ⟨hb2, he⟩
  rw [if_neg (by rw [← size_list]; decide), show (⟨ex2.toArray⟩ : ByteArray).data.toList = ex2 from rfl, HD2.out] at he
  obtain ⟨v, rfl, hr⟩ := he
  have HB2 : Hid (Below w.heap.size w w2) := HB1.out.trans (hb2.mono HB1.out.size)
  have HR := Lib.hid hr
  clear hb2 hr
  go_wp2_with fail
  have hbb : Below w2.heap.size w2 ((w2.alloc (.cells #[.string ⟨#[98]⟩, .string ⟨#[49]⟩, .bool true] 43)).alloc (.cells #[.int .i64 0, .string ⟨#[97]⟩, .slice (some ⟨w2.heap.size, 0, none⟩) 1 1, .string ⟨#[]⟩, .int .i64 1, .string ⟨#[99]⟩, .slice none 0 0, .string ⟨#[120, 32, 60, 32, 121]⟩] 46)) :=
    ((Below.refl _ _).alloc (Nat.le_refl _) _).alloc (by simp) _
  have hlit := ex_reads ((w2.alloc (.cells #[.string ⟨#[98]⟩, .string ⟨#[49]⟩, .bool true] 43)).alloc (.cells #[.int .i64 0, .string ⟨#[97]⟩, .slice (some ⟨w2.heap.size, 0, none⟩) 1 1, .string ⟨#[]⟩, .int .i64 1, .string ⟨#[99]⟩, .slice none 0 0, .string ⟨#[120, 32, 60, 32, 121]⟩] 46)) w2.heap.size (w2.heap.size + 1)
    (heap_alloc2_old w2 _ _) (heap_alloc2_new w2 _ _)
  have HBB := Lib.hid hbb
  refine (rSame_walk v _ exN exN _ (HR.out.keep hbb) hlit).mono ?_
  clear hbb hlit
  rintro e w3 ⟨rfl, hd3⟩
  have HB3 := Lib.hid (Dr.below hd3 (HB2.out.trans (HBB.out.mono HB2.out.size)))
  have hdec : decide (exN = exN) = true := by simp
  go_wp2_with fail
  go_ret
  exact ⟨rfl, HB3.out⟩
end Go.Proofs.YtffcapkjfmkkaaaGreatDoor
namespace Go.Proofs.YtffcapkjfmkkaaaGreatDoor
open Go.RowKit
theorem disable (w : World) : (callFunc 103 #[]).run Tryz.prog w = .ok (.value (.tuple #[])) w := run_call_mark0 Tryz.func103 (by kernel_rfl) (by kernel_rfl) (by kernel_rfl) .disable (by kernel_rfl) w
theorem enable (w : World) : (callFunc 105 #[]).run Tryz.prog w = .ok (.value (.tuple #[])) w := run_call_mark0 Tryz.func105 (by kernel_rfl) (by kernel_rfl) (by kernel_rfl) .enable (by kernel_rfl) w
theorem acquire (a : Addr) (w : World) : (callFunc 106 #[.pointer (some a)]).run Tryz.prog w = .ok (.value (.tuple #[])) w := run_call_marked Tryz.func106 (by kernel_rfl) (by kernel_rfl) (by kernel_rfl) .acquire (by kernel_rfl) a w
theorem releaseMerge (a : Addr) (w : World) : (callFunc 108 #[.pointer (some a)]).run Tryz.prog w = .ok (.value (.tuple #[])) w := run_call_marked Tryz.func108 (by kernel_rfl) (by kernel_rfl) (by kernel_rfl) .releaseMerge (by kernel_rfl) a w
theorem store_deferred (a : Addr) (x : Value) (u : FrameMode) (w : World) (hc : w.cell? a = some x) (hz : w.frozen? a = false) :
    CallsD Tryz.prog 89 #[.pointer (some a), .bool true] u w fun e u' w' => u' = u ∧ (e = .returned (.tuple #[]) ∧ w' = w.drew.setCell a (.int .u32 1)) := by
  have hc' : w.drew.cell? a = some x := by go_simp
  have hz' : w.drew.frozen? a = false := by go_simp
  have hst := run_call_store (P := Tryz.prog) Tryz.func97 (by kernel_rfl) (by kernel_rfl) (by kernel_rfl) (by kernel_rfl) (k := .u32) (y := 1) hc' hz'
  go_enter_d Tryz.func89, Tryz.ntmps89
  go_wp2
  go_region_calls
  all_goals (go_end0; exact ⟨rfl, rfl⟩)
set_option maxRecDepth 100000 in
theorem unlock_deferred (a : Addr) (u : FrameMode) (w : World) (hc : w.cell? a = some (.int .i32 1)) (hz : w.frozen? a = false) :
    CallsD Tryz.prog 88 #[.pointer (some a)] u w fun e u' w' => u' = u ∧ (e = .returned (.tuple #[]) ∧ w' = w.setCell a (.int .i32 0)) := by
  have hd := disable
  have he := enable
  have hr := releaseMerge
  have hadd := run_call_add (P := Tryz.prog) Tryz.func109 (by kernel_rfl) (by kernel_rfl) (by kernel_rfl) .i32 (by kernel_rfl) (y := -1) (s := 0) hc hz (by simp [go_sem]; rfl)
  have hcv := run_convert_to_unsafe (P := Tryz.prog) (src := 153) (dst := 86) Tryz.underlying153 Tryz.underlying86 (by kernel_rfl) hc
  go_enter_d Tryz.func88, Tryz.ntmps88
  go_wp2
  go_end0
  go_wp2
  go_end0
  exact ⟨rfl, rfl⟩
set_option maxRecDepth 100000 in
theorem lock_free (a : Addr) (w : World) (hc : w.cell? a = some (.int .i32 0)) (hz : w.frozen? a = false) :
    Calls Tryz.prog 87 #[.pointer (some a)] w fun e w' => e = .returned (.tuple #[]) ∧ w' = w.setCell a (.int .i32 1) := by
  have hd := disable
  have he := enable
  have ha := acquire
  have hcas := run_call_cas_hit (P := Tryz.prog) Tryz.func104 (by kernel_rfl) (by kernel_rfl) (by kernel_rfl) .i32 (by kernel_rfl) (y := 1) hc hz
  have hc' : (w.setCell a (.int .i32 1)).cell? a = some (.int .i32 1) := World.cell?_setCell_same w a _ hc
  have hcv := run_convert_to_unsafe (P := Tryz.prog) (src := 153) (dst := 86) Tryz.underlying153 Tryz.underlying86 (by kernel_rfl) hc'
  go_enter Tryz.func87, Tryz.ntmps87
  go_wp2
  first | go_end0 | (simp only [Exit.inBlock, Exit.then]; refine bodyPost_ret (results_none rfl _ _ _) rfl ?_) | refine bodyPost_ret (results_none rfl _ _ _) rfl ?_
  go_wp2
  go_end0
  exact ⟨rfl, rfl⟩
end Go.Proofs.YtffcapkjfmkkaaaGreatDoor
namespace Go.Proofs.YtffcapkjfmkkaaaGreatDoor
open Go.RowKit
def esc1 (c : UInt8) : Bs := if c = 38 then [38, 97, 109, 112, 59] else if c = 60 then [38, 108, 116, 59] else if c = 62 then [38, 103, 116, 59] else if c = 34 then [38, 113, 117, 111, 116, 59] else [c]
def escB : Bs → Bs
  | [] => []
  | c :: l => esc1 c ++ escB l
theorem esc1_len (c : UInt8) : (esc1 c).length ≤ 6 ∧ 1 ≤ (esc1 c).length := by
  unfold esc1; repeat' split
  all_goals (first | decide | simp)
theorem escB_len (l : Bs) : (escB l).length ≤ 6 * l.length := by
  induction l with
  | nil => simp [escB]
  | cons c l ih => have := esc1_len c; simp [escB]; omega
theorem escB_app (a b : Bs) : escB (a ++ b) = escB a ++ escB b := by
  induction a with
  | nil => rfl
  | cons c a ih => simp [escB, ih, List.append_assoc]
theorem esc_step (s : ByteArray) (k : Nat) (h : k < s.size) : escB (s.data.toList.drop k) = esc1 s[k] ++ escB (s.data.toList.drop (k + 1)) := by
  rw [drop_cons s k h]; rfl
theorem ext_one (s : ByteArray) (k : Nat) (h : k < s.size) : (s.extract k (k + 1)).data.toList = [s[k]] := by
  rw [Lib.extract_data, drop_cons s k h, show k + 1 - k = 1 from by omega]; rfl
set_option maxHeartbeats 2000000 in
theorem escaped_walk (s : ByteArray) (w : World) (hs : s.size ≤ 1000000000) :
    Calls Tryz.prog 38 #[.string s] w fun e w' => e = .returned (.string ⟨(escB s.data.toList).toArray⟩) ∧ w' = w := by
  go_enter Tryz.func38, Tryz.ntmps38
  go_wp2
  go_loopw [3, 4] (fun o v wr => ∃ (i : Nat) (out : ByteArray), i ≤ s.size ∧ v = .int .i64 i ∧ o = .string out ∧ out.size ≤ 6 * i ∧ escB s.data.toList = out.data.toList ++ escB (s.data.toList.drop i) ∧ wr = w) (fun _ v _ => s.size - (intOf v).toNat)
  case atStart => exact ⟨0, ⟨#[]⟩, by omega, rfl, rfl, Nat.zero_le _, rfl, rfl⟩
  case round =>
    obtain ⟨i, out, hi, rfl, rfl, ho, ht, rfl⟩ := hrel
    have HT := Lib.hid ht
    clear ht
    by_cases hlt : i < s.size
    · have HD := Lib.hid (esc_step s i hlt)
      have HX := Lib.hid (ext_one s i hlt)
      have hstep : ∀ (t : ByteArray), t.data.toList = esc1 s[i] → t.size ≤ 6 → escB s.data.toList = (out ++ t).data.toList ++ escB (s.data.toList.drop (i + 1)) ∧ (out ++ t).size ≤ 6 * (i + 1) := fun t h h6 => by
        refine ⟨by rw [Joins.data_append, h, HT.out, HD.out, List.append_assoc], by rw [ByteArray.size_append]; omega⟩
      have HS := Lib.hid hstep
      clear hstep
      have z0 : ¬ 9223372036854775807 < out.size + 1 := by omega
      have z3 : ¬ 9223372036854775807 < out.size + 4 := by omega
      have z5 : ¬ 9223372036854775807 < out.size + 5 := by omega
      have z6 : ¬ 9223372036854775807 < out.size + 6 := by omega
      have z7 : (s.extract i (i + 1)).size = 1 := by rw [ByteArray.size_extract]; omega
      by_cases h38 : s[i] = 38
      · have e1 := u8n_true 38 38 rfl h38
        have HE : Hid (esc1 s[i] = [38, 97, 109, 112, 59]) := by show _ = _; rw [h38]; decide
        clear h38
        go_wp2
        refine ⟨⟨i + 1, _, by omega, by go_num, rfl, (HS.out ⟨#[38, 97, 109, 112, 59]⟩ HE.out.symm (by decide)).2, (HS.out ⟨#[38, 97, 109, 112, 59]⟩ HE.out.symm (by decide)).1, trivial⟩, by simp [intOf]; omega⟩
      · have e1 := u8n_false 38 38 rfl h38
        by_cases h60 : s[i] = 60
        · have e2 := u8n_true 60 60 rfl h60
          have HE : Hid (esc1 s[i] = [38, 108, 116, 59]) := by show _ = _; rw [h60]; decide
          clear h60
          go_wp2
          refine ⟨⟨i + 1, _, by omega, by go_num, rfl, (HS.out ⟨#[38, 108, 116, 59]⟩ HE.out.symm (by decide)).2, (HS.out ⟨#[38, 108, 116, 59]⟩ HE.out.symm (by decide)).1, trivial⟩, by simp [intOf]; omega⟩
        · have e2 := u8n_false 60 60 rfl h60
          by_cases h62 : s[i] = 62
          · have e3 := u8n_true 62 62 rfl h62
            have HE : Hid (esc1 s[i] = [38, 103, 116, 59]) := by show _ = _; rw [h62]; decide
            clear h62
            go_wp2
            refine ⟨⟨i + 1, _, by omega, by go_num, rfl, (HS.out ⟨#[38, 103, 116, 59]⟩ HE.out.symm (by decide)).2, (HS.out ⟨#[38, 103, 116, 59]⟩ HE.out.symm (by decide)).1, trivial⟩, by simp [intOf]; omega⟩
          · have e3 := u8n_false 62 62 rfl h62
            by_cases h34 : s[i] = 34
            · have e4 := u8n_true 34 34 rfl h34
              have HE : Hid (esc1 s[i] = [38, 113, 117, 111, 116, 59]) := by show _ = _; rw [h34]; decide
              clear h34
              go_wp2
              refine ⟨⟨i + 1, _, by omega, by go_num, rfl, (HS.out ⟨#[38, 113, 117, 111, 116, 59]⟩ HE.out.symm (by decide)).2, (HS.out ⟨#[38, 113, 117, 111, 116, 59]⟩ HE.out.symm (by decide)).1, trivial⟩, by simp [intOf]; omega⟩
            · have e4 := u8n_false 34 34 rfl h34
              have HE : Hid (esc1 s[i] = [s[i]]) := by
                show _ = _; unfold esc1; rw [if_neg h38, if_neg h60, if_neg h62, if_neg h34]
              clear h38 h60 h62 h34
              go_wp2
              refine ⟨⟨i + 1, _, by omega, by go_num, rfl, (HS.out (s.extract i (i + 1)) (by rw [HX.out, HE.out]) (by omega)).2, (HS.out (s.extract i (i + 1)) (by rw [HX.out, HE.out]) (by omega)).1, trivial⟩, by simp [intOf]; omega⟩
    · have hd : s.data.toList.drop i = [] := drop_all s i (by omega)
      go_wp2
      go_ret
      refine ⟨ret_str ?_, rfl⟩
      rw [HT.out, hd]; simp [escB]
end Go.Proofs.YtffcapkjfmkkaaaGreatDoor
namespace Go.Proofs.YtffcapkjfmkkaaaGreatDoor
open Go.RowKit
def attrO (p : Par) : Bs := 32 :: (p.name ++ ([61, 34] ++ (escB p.value ++ [34])))
def attrsO : List Par → Bs
  | [] => []
  | p :: l => attrO p ++ attrsO l
def openB (n : Nod) : Bs := 60 :: (n.name ++ attrsO n.attrs)
def fin1 (n : Nod) (ins : Bs) : Bs := if ins = [] then openB n ++ [47, 62] else openB n ++ (62 :: (ins ++ (60 :: 47 :: (n.name ++ [62]))))
mutual
/-- The element ahead, and what is not in it. -/
def wrE : Nat → List Nod → Bs × List Nod
  | 0, _ => ([], [])
  | _ + 1, [] => ([], [])
  | f + 1, n :: l => (fin1 n (wrK f n.deep l (escB n.text)).1, (wrK f n.deep l (escB n.text)).2)
/-- What is deeper than d ahead, behind a text. -/
def wrK : Nat → Int → List Nod → Bs → Bs × List Nod
  | 0, _, _, acc => (acc, [])
  | _ + 1, _, [], acc => (acc, [])
  | f + 1, d, m :: l, acc => if d < m.deep then wrK f d (wrE f (m :: l)).2 (acc ++ (wrE f (m :: l)).1) else (acc, m :: l)
end
/-- A bound on what is written. -/
def costP (p : Par) : Nat := p.name.length + 6 * p.value.length + 4
def costPs : List Par → Nat
  | [] => 0
  | p :: l => costP p + costPs l
def costN (n : Nod) : Nat := 2 * n.name.length + 6 * n.text.length + costPs n.attrs + 8
def costs : List Nod → Nat
  | [] => 0
  | n :: l => costN n + costs l
theorem attrsO_len (l : List Par) : (attrsO l).length ≤ costPs l := by
  induction l with
  | nil => simp [attrsO]
  | cons p l ih => have := escB_len p.value; simp [attrsO, attrO, costPs, costP]; omega
theorem wr_len (f : Nat) : (∀ l, (wrE f l).1.length + costs (wrE f l).2 ≤ costs l ∧ (wrE f l).2 <:+ l) ∧ (∀ d l acc, (wrK f d l acc).1.length + costs (wrK f d l acc).2 ≤ costs l + acc.length ∧ (wrK f d l acc).2 <:+ l) := by
  induction f with
  | zero => exact ⟨fun l => by simp [wrE, costs], fun d l acc => by simp [wrK, costs]⟩
  | succ f ih =>
    refine ⟨fun l => ?_, fun d l acc => ?_⟩
    · cases l with
      | nil => simp [wrE, costs]
      | cons n l =>
        rw [wrE]
        have h := ih.2 n.deep l (escB n.text)
        have he := escB_len n.text
        have ha := attrsO_len n.attrs
        generalize wrK f n.deep l (escB n.text) = x at *
        refine ⟨?_, h.2.trans (List.suffix_cons _ _)⟩
        have h1 := h.1
        simp only [costs, costN]
        unfold fin1 openB
        split
        · simp; omega
        · simp; omega
    · cases l with
      | nil => simp [wrK, costs]
      | cons m l =>
        rw [wrK]
        split
        · have h := ih.1 (m :: l)
          have h2 := ih.2 d (wrE f (m :: l)).2 (acc ++ (wrE f (m :: l)).1)
          rw [List.length_append] at h2
          exact ⟨by omega, h2.2.trans h.2⟩
        · exact ⟨by simp; omega, List.suffix_refl _⟩
theorem costs_drop (l : List Nod) (k : Nat) : costs (l.drop k) ≤ costs l := by
  induction l generalizing k with
  | nil => simp
  | cons n l ih =>
    cases k with
    | zero => simp
    | succ k => simp [costs]; have := ih k; omega
theorem costs_at (l : List Nod) (k : Nat) (h : k < l.length) : costN l[k] ≤ costs l := by
  induction l generalizing k with
  | nil => simp at h
  | cons n l ih =>
    cases k with
    | zero => simp [costs]
    | succ k => simp [costs]; have := ih k (by simpa using h); omega
theorem costPs_at (l : List Par) (k : Nat) (h : k < l.length) : costP l[k] ≤ costPs l := by
  induction l generalizing k with
  | nil => simp at h
  | cons n l ih =>
    cases k with
    | zero => simp [costPs]
    | succ k => simp [costPs]; have := ih k (by simpa using h); omega
theorem attrsO_take (l : List Par) (k : Nat) (h : k < l.length) : attrsO (l.take (k + 1)) = attrsO (l.take k) ++ attrO l[k] := by
  induction l generalizing k with
  | nil => simp at h
  | cons p l ih =>
    cases k with
    | zero => simp [attrsO]
    | succ k => simp [attrsO, ih k (by simpa using h)]
theorem attrsO_cost (l : List Par) (k : Nat) : (attrsO (l.take k)).length ≤ costPs l := by
  induction l generalizing k with
  | nil => simp [attrsO]
  | cons p l ih =>
    cases k with
    | zero => simp [attrsO]
    | succ k =>
      have := ih k
      have := escB_len p.value
      simp [attrsO, attrO, costPs, costP]; omega
end Go.Proofs.YtffcapkjfmkkaaaGreatDoor
namespace Go.Proofs.YtffcapkjfmkkaaaGreatDoor
open Go.RowKit
theorem str_of {s : ByteArray} {l : Bs} (h : s.data.toList = l) : Value.string s = Value.string ⟨l.toArray⟩ := by
  subst h; cases s; simp
theorem str_app2 (a b : Bs) : Value.string ((⟨a.toArray⟩ : ByteArray) ++ ⟨b.toArray⟩) = .string ⟨(a ++ b).toArray⟩ := str_of (by rw [Joins.data_append])
theorem wrE_rest (f : Nat) (n : Nod) (l : List Nod) : (wrE (f + 1) (n :: l)).2 <:+ l := by
  rw [wrE]; exact ((wr_len f).2 _ _ _).2
theorem suffix_drop {l r : List Nod} (h : r <:+ l) : r = l.drop (l.length - r.length) := List.suffix_iff_eq_drop.1 h
def Writ (f : Nat) : Prop := ∀ (u : Value) (ns : List Nod) (k : Nat) (v : Int) (w : World), v = k → RNod w u ns → k < ns.length → costs ns ≤ 1000000000 → 2 * (ns.length - k) + 1 ≤ f →
  Calls Tryz.prog 24 #[u, .int .i64 v] w fun e w' => e = .returned (.tuple #[.string ⟨(wrE f (ns.drop k)).1.toArray⟩, .int .i64 ((ns.length - (wrE f (ns.drop k)).2.length : Nat) : Int)]) ∧ Below w.heap.size w w'
abbrev nodO' (n : Nod) (va : Value) : Obj := .cells #[.int .i64 n.deep, .string ⟨n.name.toArray⟩, va, .string ⟨n.text.toArray⟩] 46
/-- At the head of the loop over what is deeper. -/
structure WKl (w wr : World) (ns : List Nod) (n : Nod) (va : Value) (f : Nat) (X : Bs × List Nod) (g j : Nat) (acc : Bs) : Prop where
  eq : X = wrK g n.deep (ns.drop j) acc
  fuel : 2 * (ns.length - j) + 2 ≤ g
  gf : g ≤ f
  jle : j ≤ ns.length
  len : acc.length + costs (ns.drop j) ≤ 1000000000
  below : Below w.heap.size w wr
  box : wr.heap[w.heap.size]? = some (nodO' n va)
structure WRl (w wr : World) (ns : List Nod) (n : Nod) (va : Value) (X : Bs × List Nod) (j : Nat) (acc : Bs) : Prop where
  eq : X = (acc, ns.drop j)
  jle : j ≤ ns.length
  len : acc.length ≤ 1000000000
  below : Below w.heap.size w wr
  box : wr.heap[w.heap.size]? = some (nodO' n va)
set_option maxRecDepth 100000 in
set_option maxHeartbeats 8000000 in
theorem writ_step (f : Nat) (HW : ∀ g, g ≤ f → Writ g) : Writ (f + 1) := by
  intro u ns k v w hv hr hk hc hf
  subst hv
  have hr0 := hr
  obtain ⟨A, c, rfl, hcap, hm, -⟩ := hr
  obtain ⟨a, va, rfl, a0, a1, a2, hpa, a3, n1, n2⟩ := hr0.at_ k hk
  have HRN := Lib.hid hr0
  have HPA := Lib.hid hpa
  obtain ⟨Ap, cp, rfl, hpcap, hpm, -⟩ := hpa
  have hcost := costs_at ns k hk
  unfold costN at hcost
  have HD : Hid (ns.drop k = ns[k] :: ns.drop (k + 1)) := List.drop_eq_getElem_cons hk
  have hk' : (k : Int) < (ns.length : Int) := by omega
  generalize hn : ns[k] = n at *
  clear hr0
  go_enter Tryz.func24, Tryz.ntmps24
  go_upto_block 0 with (fail)
  have hw0 : Below w.heap.size w (w.alloc (.cells #[.int .i64 n.deep, .string ⟨n.name.toArray⟩, .slice Ap n.attrs.length cp, .string ⟨n.text.toArray⟩] 46)) := (Below.refl _ _).alloc (Nat.le_refl _) _
  have hx0 := heap_alloc_new w (.cells #[.int .i64 n.deep, .string ⟨n.name.toArray⟩, .slice Ap n.attrs.length cp, .string ⟨n.text.toArray⟩] 46)
  have hz0 : w.heap.size < (w.alloc (.cells #[.int .i64 n.deep, .string ⟨n.name.toArray⟩, .slice Ap n.attrs.length cp, .string ⟨n.text.toArray⟩] 46)).heap.size := by simp
  generalize w.alloc (.cells #[.int .i64 n.deep, .string ⟨n.name.toArray⟩, .slice Ap n.attrs.length cp, .string ⟨n.text.toArray⟩] 46) = w0 at *
  have HW0 := Lib.hid hw0
  have HX0 := Lib.hid hx0
  have HPA0 := Lib.hid (HPA.out.keep hw0)
  clear hw0 hx0 a0 a1 a2 a3
  go_cut [7, 8] (fun sv _ wr => sv = .string ⟨(openB n).toArray⟩ ∧ Dr w0 wr)
  case first =>
    go_wp2_with fail
    go_loopw [7, 8] (fun sv iv wr => ∃ (i : Nat) (out : ByteArray), i ≤ n.attrs.length ∧ iv = .int .i64 i ∧ sv = .string out ∧ out.data.toList = 60 :: (n.name ++ attrsO (n.attrs.take i)) ∧ Dr w0 wr) (fun _ iv _ => n.attrs.length - (intOf iv).toNat)
    case atStart => exact ⟨0, _, Nat.zero_le _, rfl, rfl, by rw [Joins.data_append]; simp [attrsO], Dr.refl _⟩
    case round =>
      obtain ⟨i, out, hi, rfl, rfl, ho, hd⟩ := hrel
      have HO := Lib.hid ho
      have hlen : out.size = 1 + n.name.length + (attrsO (n.attrs.take i)).length := by
        rw [← size_list, ho]; simp; omega
      clear ho
      have hxr : wr.heap[w.heap.size]? = some (.cells #[.int .i64 n.deep, .string ⟨n.name.toArray⟩, .slice Ap n.attrs.length cp, .string ⟨n.text.toArray⟩] 46 (0, 0)) := by
        obtain ⟨d, rfl⟩ := hd; exact HX0.out
      have b2 := blk_cell hxr 2
      have hpar := HPA0.out.keep hd.below0
      have HD0 := Lib.hid hd
      clear hd hxr
      simp at b2
      by_cases hlt : i < n.attrs.length
      · obtain ⟨ap, rfl, p0, p1, p2, q1, q2⟩ := hpar.at_ i hlt
        clear hpar
        have hlt' : (i : Int) < (n.attrs.length : Int) := by omega
        have hcp := costPs_at n.attrs i hlt
        unfold costP at hcp
        have hao := attrsO_cost n.attrs i
        have HT := Lib.hid (attrsO_take n.attrs i hlt)
        generalize n.attrs[i] = p at *
        have hel := escB_len p.value
        have hpv : (⟨p.value.toArray⟩ : ByteArray).size ≤ 1000000000 := by rw [← size_list]; show p.value.length ≤ _; omega
        have hes : (⟨(escB p.value).toArray⟩ : ByteArray).size = (escB p.value).length := by rw [← size_list]
        have ad1 : ∀ w, (Op.stringOp .add out ⟨#[32]⟩).run Tryz.prog w = .ok (.string (out ++ ⟨#[32]⟩)) w := fun w => run_string_add_sum w _ _ (by show out.size + 1 ≤ _; omega)
        have ad2 : ∀ w, (Op.stringOp .add (out ++ ⟨#[32]⟩) ⟨p.name.toArray⟩).run Tryz.prog w = .ok (.string (out ++ ⟨#[32]⟩ ++ ⟨p.name.toArray⟩)) w := fun w => run_string_add_sum w _ _ (by rw [ByteArray.size_append]; show out.size + 1 + p.name.length ≤ _; omega)
        have ad3 : ∀ w, (Op.stringOp .add (out ++ ⟨#[32]⟩ ++ ⟨p.name.toArray⟩) ⟨#[61, 34]⟩).run Tryz.prog w = .ok (.string (out ++ ⟨#[32]⟩ ++ ⟨p.name.toArray⟩ ++ ⟨#[61, 34]⟩)) w := fun w => run_string_add_sum w _ _ (by rw [ByteArray.size_append, ByteArray.size_append]; show out.size + 1 + p.name.length + 2 ≤ _; omega)
        have ad4 : ∀ w, (Op.stringOp .add (out ++ ⟨#[32]⟩ ++ ⟨p.name.toArray⟩ ++ ⟨#[61, 34]⟩) ⟨(escB p.value).toArray⟩).run Tryz.prog w = .ok (.string (out ++ ⟨#[32]⟩ ++ ⟨p.name.toArray⟩ ++ ⟨#[61, 34]⟩ ++ ⟨(escB p.value).toArray⟩)) w := fun w => run_string_add_sum w _ _ (by rw [ByteArray.size_append, ByteArray.size_append, ByteArray.size_append]; show out.size + 1 + p.name.length + 2 + (escB p.value).length ≤ _; omega)
        have ad5 : ∀ w, (Op.stringOp .add (out ++ ⟨#[32]⟩ ++ ⟨p.name.toArray⟩ ++ ⟨#[61, 34]⟩ ++ ⟨(escB p.value).toArray⟩) ⟨#[34]⟩).run Tryz.prog w = .ok (.string (out ++ ⟨#[32]⟩ ++ ⟨p.name.toArray⟩ ++ ⟨#[61, 34]⟩ ++ ⟨(escB p.value).toArray⟩ ++ ⟨#[34]⟩)) w := fun w => run_string_add_sum w _ _ (by rw [ByteArray.size_append, ByteArray.size_append, ByteArray.size_append, ByteArray.size_append]; show out.size + 1 + p.name.length + 2 + (escB p.value).length + 1 ≤ _; omega)
        have HPV := Lib.hid hpv
        go_wp2_with fail
        go_quiet ((go_at_call 38; exact Calls.quiet_of_same (escaped_walk ⟨p.value.toArray⟩ _ HPV.out)))
        go_wp2_with fail
        refine ⟨⟨i + 1, _, by omega, by go_num, rfl, ?_, HD0.out.drewN _⟩, by simp [intOf]; omega⟩
        rw [HT.out]; simp [HO.out, attrO]
      · have hil : i = n.attrs.length := by omega
        go_wp2_with fail
        go_meet
        refine ⟨str_of ?_, HD0.out⟩
        rw [HO.out, hil, List.take_length]; rfl
  case rest =>
    obtain ⟨rfl, hd⟩ := hcut
    have hxr : wc.heap[w.heap.size]? = some (.cells #[.int .i64 n.deep, .string ⟨n.name.toArray⟩, .slice Ap n.attrs.length cp, .string ⟨n.text.toArray⟩] 46 (0, 0)) := by
      obtain ⟨d, rfl⟩ := hd; exact HX0.out
    have hbw : Below w.heap.size w wc := hd.below HW0.out
    have b3 := blk_cell hxr 3
    simp at b3
    have HXR := Lib.hid hxr
    have HBW := Lib.hid hbw
    have hnt : (⟨n.text.toArray⟩ : ByteArray).size ≤ 1000000000 := by rw [← size_list]; show n.text.length ≤ _; omega
    have hk1 : ¬ 9223372036854775807 < k + 1 := by omega
    clear hxr hbw hd
    go_wp2_with fail
    refine (escaped_walk ⟨n.text.toArray⟩ _ hnt).mono ?_
    rintro e w1 ⟨rfl, rfl⟩
    have hX : wrE (f + 1) (ns.drop k) = (fin1 n (wrK f n.deep (ns.drop (k + 1)) (escB n.text)).1, (wrK f n.deep (ns.drop (k + 1)) (escB n.text)).2) := by
      rw [HD.out, wrE]
    have hcd := costs_drop ns k
    rw [HD.out] at hcd
    simp only [costs, costN] at hcd
    have hel := escB_len n.text
    have HX := Lib.hid hX
    have HK0 : Hid (WKl w w1 ns n (.slice Ap n.attrs.length cp) f (wrK f n.deep (ns.drop (k + 1)) (escB n.text)) f (k + 1) (escB n.text)) :=
      ⟨rfl, by omega, Nat.le_refl _, by omega, by omega, HBW.out, HXR.out⟩
    clear hX
    generalize wrK f n.deep (ns.drop (k + 1)) (escB n.text) = X at *
    go_upto_block 2 with (fail)
    go_cut [9, 10] (fun nv iv wr => ∃ (j : Nat) (acc : Bs), nv = .int .i64 j ∧ iv = .string ⟨acc.toArray⟩ ∧ WRl w wr ns n (.slice Ap n.attrs.length cp) X j acc)
    case first =>
      go_wp2_with fail
      go_loopw [9, 10, 11] (fun nv iv _ wr => ∃ (g j : Nat) (acc : Bs), nv = .int .i64 j ∧ iv = .string ⟨acc.toArray⟩ ∧ WKl w wr ns n (.slice Ap n.attrs.length cp) f X g j acc) (fun nv _ _ _ => ns.length - (intOf nv).toNat)
      case atStart => exact ⟨f, k + 1, escB n.text, by simp, rfl, HK0.out⟩
      case round =>
        obtain ⟨g, j, acc, rfl, rfl, hk⟩ := hrel
        have HK := Lib.hid hk
        have hfu := hk.fuel
        have hgf := hk.gf
        have hjl := hk.jle
        have hle := hk.len
        have b0 := blk_cell hk.box 0
        simp at b0
        obtain ⟨g', rfl⟩ : ∃ g', g = g' + 1 := ⟨g - 1, by omega⟩
        by_cases hj : j < ns.length
        · obtain ⟨a', va', ha', m0, -⟩ := (HRN.out.keep hk.below).at_ j hj
          cases ha'
          have hj' : decide ((j : Int) < (ns.length : Int)) = true := by simp; omega
          have hj2 : (j : Int) < (ns.length : Int) := by omega
          have HDJ : Hid (ns.drop j = ns[j] :: ns.drop (j + 1)) := List.drop_eq_getElem_cons hj
          clear hk
          by_cases hdp : n.deep < ns[j].deep
          · have HQ : Hid (X = wrK g' n.deep (wrE g' (ns.drop j)).2 (acc ++ (wrE g' (ns.drop j)).1)) := by
              show _ = _; rw [HK.out.eq, HDJ.out, wrK, if_pos hdp]
            have hd' : decide (n.deep < ns[j].deep) = true := decide_eq_true hdp
            clear hdp
            have HRL : Hid ((wrE g' (ns.drop j)).2 <:+ ns.drop (j + 1)) := by
              obtain ⟨g2, rfl⟩ : ∃ g2, g' = g2 + 1 := ⟨g' - 1, by omega⟩
              show _ <:+ _; rw [HDJ.out]; exact wrE_rest _ _ _
            have HLN := Lib.hid ((wr_len g').1 (ns.drop j)).1
            have HWG := Lib.hid (HW g' (by omega))
            go_wp2_with fail
            go_quiet (fail)
            go_wp2_with fail
            have hbq : Below w.heap.size w (wr.drewN nq) := HK.out.below.trans (Dr.below0 ⟨nq, rfl⟩ |>.mono HK.out.below.size)
            have HBQ := Lib.hid hbq
            refine (HWG.out _ ns j _ _ rfl (HRN.out.keep hbq) hj hc (by omega)).mono ?_
            clear hbq
            rintro e w4 ⟨rfl, hb4⟩
            have HB4 := Lib.hid (HBQ.out.trans (hb4.mono HBQ.out.size))
            have HX4 : Hid (w4.heap[w.heap.size]? = some (nodO' n (.slice Ap n.attrs.length cp))) :=
              (hb4.block _ (show w.heap.size < wr.heap.size from (Array.getElem?_eq_some_iff.1 HK.out.box).1)).trans HK.out.box
            clear hb4
            have hrlen := HRL.out.length_le
            rw [List.length_drop] at hrlen
            have HRD := Lib.hid (suffix_drop (HRL.out.trans (List.drop_suffix _ _)))
            have hln := HLN.out
            generalize wrE g' (ns.drop j) = x at *
            have hsum : ¬ 9223372036854775807 < acc.length + x.1.length := by omega
            have HKN : Hid (WKl w w4 ns n (.slice Ap n.attrs.length cp) f X g' (ns.length - x.2.length) (acc ++ x.1)) :=
              ⟨by rw [← HRD.out]; exact HQ.out, by omega, by omega, by omega, by rw [← HRD.out, List.length_append]; omega, HB4.out, HX4.out⟩
            go_wp2_with fail
            refine ⟨⟨g', ns.length - x.2.length, acc ++ x.1, rfl, by rw [str_app2], HKN.out⟩, ?_⟩
            simp [intOf]; omega
          · have HQ : Hid (X = (acc, ns.drop j)) := by
              show _ = _; rw [HK.out.eq, HDJ.out, wrK, if_neg hdp]
            have hd' : decide (n.deep < ns[j].deep) = false := decide_eq_false hdp
            clear hdp
            go_wp2_with fail
            go_quiet (fail)
            go_wp2_with fail
            go_meet
            exact ⟨j, acc, rfl, rfl, HQ.out, hjl, by omega, HK.out.below.trans (Dr.below0 ⟨_, rfl⟩ |>.mono HK.out.below.size), HK.out.box⟩
        · have hj' : decide ((j : Int) < (ns.length : Int)) = false := by simp; omega
          have hnil : ns.drop j = [] := List.drop_eq_nil_of_le (by omega)
          have HQ : Hid (X = (acc, ns.drop j)) := by
            show _ = _; rw [HK.out.eq, hnil, wrK]
          clear hk hnil
          go_wp2_with fail
          go_quiet (fail)
          go_wp2_with fail
          go_meet
          exact ⟨j, acc, rfl, rfl, HQ.out, hjl, by omega, HK.out.below.trans (Dr.below0 ⟨_, rfl⟩ |>.mono HK.out.below.size), HK.out.box⟩
    case rest =>
      obtain ⟨j, acc, rfl, rfl, hk⟩ := hcut
      have HK := Lib.hid hk
      have hle := hk.len
      have hjl := hk.jle
      have b1 := blk_cell hk.box 1
      simp at b1
      have hao := attrsO_len n.attrs
      have hol : (openB n).length = 1 + n.name.length + (attrsO n.attrs).length := by simp [openB]; omega
      have HO := Lib.hid hol
      have hXX := hk.eq
      have hjj : ns.length - (ns.drop j).length = j := by rw [List.length_drop]; omega
      clear hk
      by_cases he : acc = []
      · subst he
        have HR : Hid (wrE (f + 1) (ns.drop k) = (openB n ++ [47, 62], ns.drop j)) := by
          show _ = _; rw [HX.out, hXX]; rfl
        have hs1 : ¬ 9223372036854775807 < (openB n).length + 2 := by omega
        go_wp2_with fail
        go_ret2
        rw [HR.out]
        simp only []
        rw [hjj, ← str_app2]
        exact ⟨rfl, HK.out.below⟩
      · have HR : Hid (wrE (f + 1) (ns.drop k) = (openB n ++ (62 :: (acc ++ (60 :: 47 :: (n.name ++ [62])))), ns.drop j)) := by
          show _ = _; rw [HX.out, hXX]; simp only [fin1, if_neg he]
        have hae : List.isEmpty acc = false := by
          cases acc with
          | nil => exact absurd rfl he
          | cons _ _ => rfl
        have hs1 : ¬ 9223372036854775807 < (openB n).length + 1 := by omega
        have hs2 : ¬ 9223372036854775807 < (openB n).length + 1 + acc.length := by omega
        have hs3 : ¬ 9223372036854775807 < (openB n).length + 1 + acc.length + 2 := by omega
        have hs4 : ¬ 9223372036854775807 < (openB n).length + 1 + acc.length + 2 + n.name.length := by omega
        have hs5 : ¬ 9223372036854775807 < (openB n).length + 1 + acc.length + 2 + n.name.length + 1 := by omega
        clear he
        go_wp2_with fail
        go_ret2
        rw [HR.out]
        simp only []
        rw [hjj]
        refine ⟨?_, HK.out.below⟩
        rw [str_of (l := openB n ++ (62 :: (acc ++ (60 :: 47 :: (n.name ++ [62]))))) (by simp)]
        rfl
/-- Every element's text. -/
theorem writ_all (f : Nat) : Writ f := by
  induction f using Nat.strongRecOn with
  | _ f ih =>
    cases f with
    | zero => intro u ns k v w hv hr hk hc hf; omega
    | succ f => exact writ_step f fun g hg => ih g (by omega)
end Go.Proofs.YtffcapkjfmkkaaaGreatDoor
namespace Go.Proofs.YtffcapkjfmkkaaaGreatDoor
open Go.RowKit
def prologB : Bs := [60, 63, 120, 109, 108, 32, 118, 101, 114, 115, 105, 111, 110, 61, 34, 49, 46, 48, 34, 32, 101, 110, 99, 111, 100, 105, 110, 103, 61, 34, 85, 84, 70, 45, 56, 34, 63, 62, 10]
/-- What is printed. -/
def prB (ns : List Nod) : Bs := prologB ++ (wrE (2 * ns.length + 1) ns).1
def PrPost (w : World) (ns : List Nod) (e : Ending) (w' : World) : Prop :=
  (if checkB ns = true then e = .returned (.tuple #[.string ⟨(prB ns).toArray⟩, .int .i64 0]) else e = .returned (.tuple #[.string ⟨#[]⟩, .int .i64 130])) ∧ Below w.heap.size w w'
theorem rCheck_val2 (u : Value) (ns : List Nod) (w : World) (hp : RNod w u ns) (b : Bool) (h : checkB ns = b) :
    Calls Tryz.prog 13 #[u] w fun e w' => e = .returned (.int .i64 (chkI b)) ∧ Below w.heap.size w w' := by
  subst h; exact rCheck_walk u ns w hp
set_option maxHeartbeats 2000000 in
theorem rPrint_walk (u : Value) (ns : List Nod) (w : World) (hp : RNod w u ns) (hc : costs ns ≤ 1000000000) :
    Calls Tryz.prog 11 #[u] w (PrPost w ns) := by
  have HP := Lib.hid hp
  go_enter Tryz.func11, Tryz.ntmps11
  go_wp2_with fail
  cases hb : checkB ns with
  | false =>
    have HB := Lib.hid hb
    refine (rCheck_val2 u ns w HP.out false hb).mono ?_
    clear hb
    rintro e w1 ⟨rfl, hb1⟩
    have HB1 := Lib.hid hb1
    have h130 : chkI false = 130 := rfl
    rw [h130]
    go_wp2_with fail
    refine (rCheck_val2 u ns w1 (HP.out.keep HB1.out) false HB.out).mono ?_
    rintro e w2 ⟨rfl, hb2⟩
    have HB2 := Lib.hid (HB1.out.trans (hb2.mono HB1.out.size))
    clear hb1 hb2
    rw [h130]
    go_wp2_with fail
    go_ret2
    unfold PrPost
    rw [if_neg (by rw [HB.out]; decide)]
    exact ⟨rfl, HB2.out⟩
  | true =>
    have HB := Lib.hid hb
    refine (rCheck_val2 u ns w HP.out true hb).mono ?_
    have hlen : 1 ≤ ns.length ∧ ns.length ≤ 200 := by
      unfold checkB at hb
      simp only [Bool.and_eq_true, decide_eq_true_eq] at hb
      exact ⟨hb.1.1.1, hb.1.1.2⟩
    clear hb
    rintro e w1 ⟨rfl, hb1⟩
    have HB1 := Lib.hid hb1
    have h0 : chkI true = 0 := rfl
    rw [h0]
    go_wp2_with fail
    refine (writ_all (2 * ns.length + 1) u ns 0 0 w1 rfl (HP.out.keep HB1.out) (by omega) hc (by omega)).mono ?_
    rintro e w2 ⟨rfl, hb2⟩
    have HB2 := Lib.hid (HB1.out.trans (hb2.mono HB1.out.size))
    have hwl := ((wr_len (2 * ns.length + 1)).1 ns).1
    clear hb1 hb2
    rw [List.drop_zero]
    have hpr : prB ns = prologB ++ (wrE (2 * ns.length + 1) ns).1 := rfl
    have HPR := Lib.hid hpr
    clear hpr
    generalize wrE (2 * ns.length + 1) ns = x at *
    have hs : ¬ 9223372036854775807 < 39 + x.1.length := by omega
    go_wp2_with fail
    go_ret2
    unfold PrPost
    rw [if_pos HB.out, HPR.out]
    refine ⟨?_, HB2.out⟩
    rw [← str_app2]
    rfl
end Go.Proofs.YtffcapkjfmkkaaaGreatDoor
