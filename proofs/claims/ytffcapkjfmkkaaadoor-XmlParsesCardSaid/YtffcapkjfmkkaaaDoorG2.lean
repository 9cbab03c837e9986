/- element, as the program reads it. -/
import Derived.Test.YtffcapkjfmkkaaaDoorG
namespace Go.Proofs.YtffcapkjfmkkaaaDoor
open Go.RowKit
set_option maxRecDepth 100000 in
set_option maxHeartbeats 16000000 in
theorem element_step (f : Nat) (HE : ∀ g, g ≤ f → EP g) : EP (f + 1) := by
  intro rb s deep l ns B w m hr hm hB0 hB hs hf hd0 hd1 hno hlen
  have hmf : ∀ (fn : Fn) (first cap : Array Value) (w : World), (Instr.makeFunc fn first cap).run Tryd.prog w = .ok (.func fn first cap) w := fun _ _ _ _ => rfl
  have HMF := Lib.hid hmf
  have HR := Lib.hid hr
  have HM := Lib.hid hm
  have HNO := Lib.hid hno
  have HFR : Hid (elemP (f + 1) s.data.toList deep ns.length = none → ∀ w', Fr w w' rb l.ownBlock → ElP w B rb l ns (elemP (f + 1) s.data.toList deep ns.length) gaveUp w') := fun h w' hg => by
    unfold ElP; rw [h]; exact ⟨hg, rfl⟩
  clear hm hno hmf
  go_enter Tryd.func20, Tryd.ntmps20
  go_wp2_with fail
  cases hp1 : pre1 60 s.data.toList with
  | none =>
    refine (take1_val rb s ⟨#[60]⟩ l w hr 60 rfl none hp1).mono ?_
    have HN : Hid (elemP (f + 1) s.data.toList deep ns.length = none) := by
      show _ = _; rw [elemP, hp1]
    clear hp1 hr
    rintro e w1 ⟨rfl, hg⟩
    have HG := Lib.hid hg
    clear hg
    go_wp2
    exact ⟨rfl, HFR.out HN.out _ (Fr.of HG.out)⟩
  | some s1 =>
    refine (take1_val rb s ⟨#[60]⟩ l w hr 60 rfl (some s1) hp1).mono ?_
    have HP1 := Lib.hid hp1
    have hl1 := pre1_len hp1
    rw [size_list] at hl1
    clear hp1 hr
    rintro e w1 ⟨rfl, hst1⟩
    have HG1 := Lib.hid hst1.2
    have HR1 := Lib.hid hst1.1
    clear hst1
    go_wp2_with fail
    refine (until_walk rb ⟨s1.toArray⟩ ⟨#[47, 62, 32, 9, 13, 10]⟩ l w1 HR1.out [47, 62, 32, 9, 13, 10] rfl (by decide) (by rw [← size_list]; show s1.length ≤ _; omega)).mono ?_
    rintro e w2 hu
    unfold UntilPost at hu
    rw [show (⟨s1.toArray⟩ : ByteArray).data.toList = s1 from rfl] at hu
    cases hd : dropW (notIn [47, 62, 32, 9, 13, 10]) s1 with
    | nil =>
      rw [hd] at hu
      obtain ⟨rfl, hb⟩ := hu
      have HN : Hid (elemP (f + 1) s.data.toList deep ns.length = none) := by
        show _ = _; rw [elemP, HP1.out]; simp only; rw [hd]
      have HB := Lib.hid hb
      clear hd hb
      go_wp2
      exact ⟨rfl, HFR.out HN.out _ (Fr.of (grown_below HG1.out HB.out))⟩
    | cons c r =>
      rw [hd] at hu
      obtain ⟨rfl, hst2⟩ := hu
      have HET : Hid (elemP (f + 1) s.data.toList deep ns.length = elTailP f deep (takeW (notIn [47, 62, 32, 9, 13, 10]) s1) ns.length (attrsP (s1.length + 1) (c :: r) [])) := elemP_tail HP1.out hd
      have hnl : (takeW (notIn [47, 62, 32, 9, 13, 10]) s1).length ≤ 4096 := by
        unfold takeW; rw [List.length_take]; omega
      have hcr := dropW_len (notIn [47, 62, 32, 9, 13, 10]) s1
      rw [hd] at hcr
      generalize takeW (notIn [47, 62, 32, 9, 13, 10]) s1 = nm at *
      have HG2 : Hid (w.grownBy w2 (some rb)) := HG1.out.trans hst2.2
      have HR2 := Lib.hid hst2.1
      clear hst2 hd
      have HNL := Lib.hid hnl
      go_upto_block 0 with (fail)
      have hz2 := HG2.out.size
      have hrlt := HR.out.lt
      have HA0 : Hid (ARl w (w2.alloc (.cells #[.int .i64 deep, .string ⟨nm.toArray⟩, .slice none 0 0, .string ⟨#[]⟩] 40)) rb w2.heap.size (s1.length + 1) (c :: r) deep nm l (.slice none 0 0) (s1.length + 1) (c :: r) []) :=
        ⟨rfl, by omega, by simp at *; omega, HR2.out.below ((Below.refl _ _).alloc (Nat.le_refl _) _), grown_below HG2.out ((Below.refl _ _).alloc (Nat.le_refl _) _), heap_alloc_new w2 _, hz2, hrlt, OPar.nil _ _⟩
      go_cut [5] (fun _ wr => ∃ (va : Value) (y : Bs) (ps : List Par), BRl w wr rb w2.heap.size (s1.length + 1) (c :: r) deep nm l va y ps)
      case first =>
        -- BEGIN A
        go_wp2_with fail
        go_loopw [5] (fun _ wr => ∃ (va : Value) (g : Nat) (y : Bs) (ps : List Par), ARl w wr rb w2.heap.size (s1.length + 1) (c :: r) deep nm l va g y ps) (fun _ wr => rdLen wr rb)
        case atStart => exact ⟨_, _, _, _, HA0.out⟩
        case round =>
          obtain ⟨va, g, y, ps, ha⟩ := hrel
          have HA := Lib.hid ha
          have hfu := ha.fuel
          have hle := ha.len
          have h0 := ha.rd.s
          obtain ⟨g', hg'⟩ : ∃ g', g = g' + 1 := ⟨g - 1, by omega⟩
          subst hg'
          clear ha
          go_wp2_with fail
          refine (blank_walk rb ⟨y.toArray⟩ l wr HA.out.rd).mono ?_
          rintro e w4 ⟨rfl, hst4⟩
          rw [show (⟨y.toArray⟩ : ByteArray).data.toList = y from rfl] at hst4
          have hyl := dropW_len blankB y
          generalize hy2 : dropW blankB y = y2 at *
          have HST := Lib.hid (attrsP_step g' y y2 ps hy2)
          have HA4 := Lib.hid (HA.out.step hst4.2)
          have HR4 := Lib.hid hst4.1
          have k0 := hst4.1.s
          have hm4 : Mx w4 m := HM.out.stp HR.out HA4.out.1
          have HM4 := Lib.hid hm4
          clear h0 hst4 hy2 hm4
          generalize hb47 : Lib.hasPrefix y2 [47] = b47 at *
          generalize hb62 : Lib.hasPrefix y2 [62] = b62 at *
          have HB47 := Lib.hid hb47
          have HB62 := Lib.hid hb62
          have HX : Hid ((b47 = true ∨ b62 = true) → BRl w w4 rb w2.heap.size (s1.length + 1) (c :: r) deep nm l va y2 ps) := fun h =>
            ⟨by rw [HA.out.eq, HST.out, if_pos h], by omega, HR4.out, HA4.out.1, HA4.out.2.1, HA.out.nb, HA.out.rlt, HA4.out.2.2⟩
          clear hb47 hb62
          cases b47
          · cases b62
            · have HBT : Hid (attrsP (g' + 1) y ps = if y2.length = y.length then none else match attrP y2 with
                  | none => none
                  | some (p, rest) => attrsP g' rest (ps ++ [p])) := by
                show _ = _
                rw [HST.out]; exact if_neg (by decide)
              go_wp2_with fail
              refine (hpre_val _ ⟨#[47]⟩ w4 [47] rfl false HB47.out).mono ?_
              rintro e w' ⟨rfl, rfl⟩
              go_wp2_with fail
              refine (hpre_val _ ⟨#[62]⟩ w' [62] rfl false HB62.out).mono ?_
              rintro e w'' ⟨rfl, rfl⟩
              have HN : Hid (attrsP (g' + 1) y ps = none → elemP (f + 1) s.data.toList deep ns.length = none) := fun h => by
                rw [HET.out, HA.out.eq, h]; rfl
              by_cases hll : y2.length = y.length
              · have hbl : ((y2.length : Int) == (y.length : Int)) = true := by rw [hll]; simp
                have HN2 := Lib.hid (HN.out (by rw [HBT.out, if_pos hll]))
                clear hll
                go_wp2_with fail
                refine (fail_walk rb _).mono ?_
                rintro e w5 ⟨rfl, rfl⟩
                go_wp2
                exact ⟨rfl, HFR.out HN2.out _ (Fr.of HA4.out.1)⟩
              · have hbl : ((y2.length : Int) == (y.length : Int)) = false := by rw [beq_eq_false_iff_ne]; omega
                have HBT2 : Hid (attrsP (g' + 1) y ps = match attrP y2 with
                  | none => none
                  | some (p, rest) => attrsP g' rest (ps ++ [p])) := by
                  show _ = _
                  rw [HBT.out]; exact if_neg hll
                have hb4 := HA4.out.2.1
                have b2 := blk_cell hb4 2
                have fz2 := frozen0 hb4 2
                simp at b2
                clear hll hb4
                go_upto_region 7 with (fail)
                cases hat : attrP y2 with
                | none =>
                  have HN2 := Lib.hid (HN.out (by rw [HBT2.out, hat]))
                  have HAT : Hid (attrP (⟨y2.toArray⟩ : ByteArray).data.toList = none) := hat
                  clear hat
                  have hcall : Calls Tryd.prog 34 #[.pointer (some ⟨rb, 0, none⟩)] w''.drew fun e w' => e = gaveUp ∧ Fr w w' rb l.ownBlock := by
                    refine (attr_walk rb ⟨y2.toArray⟩ l m _ (HR4.out.below (Below.refl _ _).drew) (by rw [← size_list]; show y2.length ≤ _; omega) (cell_keep ((Below.refl _ _).drew) HM4.out)).mono ?_
                    intro e w6 hap
                    have hap2 := attr_bad HAT.out hap
                    exact ⟨hap2.1, Fr.of (HA4.out.1.trans hap2.2)⟩
                  have HC := Lib.hid hcall
                  clear hcall
                  refine wp_region_any (by kernel_rfl) ?_
                  change wpAny _ _ _ _ _ _ _ (World.drew _)
                  refine wpAny_take (i := 0) (v := ?_) rfl (by kernel_rfl) (by kernel_rfl) (by kernel_rfl) (fun _ _ _ h => h) (Or.inl ⟨by rfl, ?_⟩) ?_
                  rotate_left
                  · intro w; go_simp; with_reducible rfl
                  refine wpAny_take (i := 2) (v := ?_) rfl (by kernel_rfl) (by kernel_rfl) (by kernel_rfl) (fun _ _ _ h => h) (Or.inl ⟨by rfl, ?_⟩) ?_
                  rotate_left
                  · intro w; go_simp; with_reducible rfl
                  refine wpAny_ready (rs := [1, 3]) (by kernel_rfl) (by simp) ?_
                  refine AllReady.cons rfl (fun K hK => ?_) ?_
                  · go_simp
                    refine hK _ _ ?_
                    clear hK K
                    refine wpAny_ready (rs := [3]) (by kernel_rfl) (by simp) ?_
                    refine AllReady.cons rfl (fun K hK => ?_) AllReady.nil
                    go_simp
                    refine HC.out.mono ?_
                    rintro e w6 ⟨rfl, hg6⟩
                    exact ⟨rfl, HFR.out HN2.out _ hg6⟩
                  · refine AllReady.cons rfl (fun K hK => ?_) AllReady.nil
                    go_simp
                    refine HC.out.mono ?_
                    rintro e w6 ⟨rfl, hg6⟩
                    exact ⟨rfl, HFR.out HN2.out _ hg6⟩
                | some pr =>
                  obtain ⟨q, rest⟩ := pr
                  have HAT : Hid (attrP (⟨y2.toArray⟩ : ByteArray).data.toList = some (q, (⟨rest.toArray⟩ : ByteArray).data.toList)) := hat
                  have hql := attrP_len hat
                  have HBT3 : Hid (attrsP (g' + 1) y ps = attrsP g' rest (ps ++ [q])) := by
                    show _ = _; rw [HBT2.out, hat]
                  clear hat
                  obtain ⟨A4, c4, rfl⟩ := own_slice HA4.out.2.2.1
                  obtain ⟨iP, hiP, hzP0, hzP1, hzP2⟩ := info_parts infoPar
                  have hnb := blk_lt HA4.out.2.1
                  have hrn : rb ≠ w2.heap.size := by omega
                  have h63 : ps.length + 1 ≤ maxLen := by unfold maxLen; omega
                  have hbytes : (ps.length + 1) * 40 ≤ 140737488355328 := by omega
                  have hww : w.heap.size ≤ w''.heap.size := by omega
                  go_region_law (first
                    | (refine step_append_lies _ rfl (.tmp 44) (.tmp 47) 38 rfl w.heap.size 43 iP _ 3 40 Tryd.underlying38 hiP hzP0 hzP1 hzP2 rfl (by decide) (.slice A4 ps.length c4) ps.length (ps.flatMap parCells) rfl (hc6.2.2.1.alloc _) ⟨w6.heap.size, 0, none⟩ 1 1 (parCells q) rfl rfl (news_par w6 q) (one_par q) (by decide) h63 hbytes (alloc_le _ hle6) _ rfl ?_; intro g7 cap7 w7 hown7 hgrow7 hat7 hlt7; have b27 := nod_cell2 (after_app hc6.2.1 hc6.2.2 hgrow7); have f27 := nod_fz2 (after_app hc6.2.1 hc6.2.2 hgrow7))
                    | (go_simp; go_at_call 34; refine (attr_walk rb ⟨y2.toArray⟩ l m _ (HR4.out.below (Below.refl _ _).drew) ?_ (cell_keep ((Below.refl _ _).drew) HM4.out)).mono ?_; (rw [← size_list]; show y2.length ≤ _; omega); intro e w6 hap; have hap2 := attr_good HAT.out hap; clear hap; obtain ⟨rfl, hr6, hg6⟩ := hap2; have hc6 := carry HA4.out HR4.out hg6; have b26 := nod_cell2 hc6.2.1; have x26 := nod_cell2 (nod_past hc6.2.1 (.cells #[.string ⟨q.name.toArray⟩, .string ⟨q.value.toArray⟩, .bool q.has] 43)); have hle6 := hc6.1.size; dsimp only))
                  all_goals (
                    have HAN := Lib.hid (HA.out.next HBT3.out (by omega) (by omega) hc6 hr6 _ hown7 hgrow7)
                    clear hown7 hgrow7 hat7 hlt7 hc6 hr6 b26 x26 b27 f27)
                  all_goals go_wp2_with fail
                  all_goals go_roundw
                  all_goals first
                    | exact ⟨_, _, _, _, HAN.out⟩
                    | (rw [HAN.out.rd.len, HA.out.rd.len, ← size_list, ← size_list]; show rest.length < y.length; omega)
            · have hx := HX.out (.inr rfl)
              have HXX := Lib.hid hx
              clear hx
              go_wp2_with fail
              refine (hpre_val _ ⟨#[47]⟩ w4 [47] rfl false HB47.out).mono ?_
              rintro e w' ⟨rfl, rfl⟩
              go_wp2_with fail
              refine (hpre_val _ ⟨#[62]⟩ w' [62] rfl true HB62.out).mono ?_
              rintro e w'' ⟨rfl, rfl⟩
              go_wp2_with fail
              go_meet
              exact ⟨va, y2, ps, HXX.out⟩
          · have hx := HX.out (.inl rfl)
            have HXX := Lib.hid hx
            clear hx
            go_wp2_with fail
            refine (hpre_val _ ⟨#[47]⟩ w4 [47] rfl true HB47.out).mono ?_
            rintro e w' ⟨rfl, rfl⟩
            go_wp2_with fail
            go_meet
            exact ⟨va, y2, ps, HXX.out⟩
        -- END A
      case rest =>
        obtain ⟨va, y, ps, hb⟩ := hcut
        have HB := Lib.hid hb
        clear hb
        have hnoc := HNO.out.stp HR.out HB.out.grown
        obtain ⟨⟨xs, hx1, hown, hx3⟩, hx4⟩ := hnoc
        obtain ⟨A, cc, rfl⟩ := own_slice hown
        have HX1 := Lib.hid hx1
        have HX3 := Lib.hid hx3
        have HOWN := Lib.hid hown
        have hBc : B ≤ wc.heap.size := Nat.le_trans hB HB.out.grown.size
        have hz2 := HG2.out.size
        have k1 := HB.out.rd.l
        have hbox := HB.out.box
        have n0 := blk_cell hbox 0
        have n1 := blk_cell hbox 1
        have n2 := blk_cell hbox 2
        have n3 := blk_cell hbox 3
        simp at n0 n1 n2 n3
        clear hx1 hown hx3 hx4 hbox
        obtain ⟨i0, hi0, hz0, hz1, hz2⟩ := info_parts infoNod
        have h63 : ns.length + 1 ≤ maxLen := by unfold maxLen; omega
        have hbytes : (ns.length + 1) * 64 ≤ 140737488355328 := by omega
        have hnews : ∀ j u, (nodCells (⟨deep, nm, ps, []⟩, va))[j]? = some u → (wc.alloc (.cells #[.int .i64 deep, .string ⟨nm.toArray⟩, va, .string ⟨#[]⟩] 40)).cell? ((⟨wc.heap.size, 0, none⟩ : Addr).add j) = some u := fun j u hj => World.news_of_block (heap_alloc_new wc _) j u hj
        have HNEWS := Lib.hid hnews
        have hva : va.oneCell' = true := by
          obtain ⟨A', c', e⟩ := own_slice HB.out.own.1
          rw [e]; rfl
        have hone : ∀ u ∈ nodCells (⟨deep, nm, ps, []⟩, va), u.oneCell' = true := by
          intro u hu
          simp [nodCells] at hu
          rcases hu with rfl | rfl | rfl | rfl
          · rfl
          · rfl
          · exact hva
          · rfl
        have HONE := Lib.hid hone
        clear hnews hone
        have k2 : (wc.alloc (.cells #[.int .i64 deep, .string ⟨nm.toArray⟩, va, .string ⟨#[]⟩] 40)).cell? ⟨rb, 1, none⟩ = some (.slice A ns.length cc) := (HB.out.rd.below ((Below.refl _ _).alloc (Nat.le_refl _) _)).l
        have hstart : ∀ (g7 cap7 : Nat) (w7 : World), w7.ownsRow B 40 4 (.slice (some ⟨g7, 0, none⟩) (ns.length + 1) cap7) (ns.length + 1) (xs.flatMap nodCells ++ nodCells (⟨deep, nm, ps, []⟩, va)) →
            (wc.alloc (.cells #[.int .i64 deep, .string ⟨nm.toArray⟩, va, .string ⟨#[]⟩] 40)).grownBy w7 (Value.slice A ns.length cc).ownBlock →
            ((Value.slice A ns.length cc).ownBlock = some g7 ∨ g7 = (wc.alloc (.cells #[.int .i64 deep, .string ⟨nm.toArray⟩, va, .string ⟨#[]⟩] 40)).heap.size) →
            CRl w (w7.setCell ⟨rb, 1, none⟩ (.slice (some ⟨g7, 0, none⟩) (ns.length + 1) cap7)) B rb w2.heap.size m (.slice A ns.length cc) deep nm va y (.slice (some ⟨g7, 0, none⟩) (ns.length + 1) cap7) (ns ++ [⟨deep, nm, ps, []⟩]) ∧ Rd w7 rb ⟨y.toArray⟩ (.slice A ns.length cc) :=
          fun g7 cap7 w7 ho hg hat => CRl.start HB.out hB0 hB HNO.out HR.out HM.out HNL.out xs HX1.out HX3.out _ ho hg (hat.imp (fun e => e.symm) (fun e => congrArg some e))
        have HSTART := Lib.hid hstart
        clear hstart
        go_upto_region 9 with (fail)
        go_cut [6] (fun av wr => av = .int .i64 ns.length ∧ ∃ l1, CRl w wr B rb w2.heap.size m (.slice A ns.length cc) deep nm va y l1 (ns ++ [⟨deep, nm, ps, []⟩]))
        case first =>
          -- BEGIN B
          go_region_law (first
            | (refine step_append_lies _ rfl (.tmp 59) (.tmp 61) 22 rfl B 40 i0 _ 4 64 Tryd.underlying22 hi0 hz0 hz1 hz2 rfl (by decide) (.slice A ns.length cc) ns.length (xs.flatMap nodCells) rfl (HOWN.out.alloc _) ⟨wc.heap.size, 0, none⟩ 1 1 (nodCells (⟨deep, nm, ps, []⟩, va)) rfl rfl HNEWS.out HONE.out (by decide) h63 hbytes (alloc_le _ hBc) _ rfl ?_; intro g7 cap7 w7 hown7 hgrow7 hat7 hlt7; have hcs := HSTART.out g7 cap7 w7 hown7 ⟨hgrow7.os, hgrow7.tape, hgrow7.output, hgrow7.size, hgrow7.block⟩ hat7; have k7 := hcs.2.l; have f7 := frozen0 hcs.2 1))
          all_goals go_wp2_with fail
          all_goals go_meet
          all_goals exact ⟨rfl, _, hcs.1⟩
          -- END B
        case rest =>
          obtain ⟨rfl, l1, hc⟩ := hcut
          have HETT : Hid (elemP (f + 1) s.data.toList deep ns.length = elTailP f deep nm ns.length (some (ps, y))) := by
            show _ = _; rw [HET.out, HB.out.eq]
          have hyl : y.length ≤ 4096 := by have := HB.out.len; omega
          have hyl2 : y.length + 1 ≤ s.size := by
            have := attrsP_len _ _ _ _ _ HB.out.eq
            omega
          clear k1 k2 n0 n1 n2 n3 hi0 hz0 hz1 hz2 h63 hbytes
          obtain ⟨A1, c1, hl1⟩ : ∃ A1 c1, l1 = .slice A1 (ns.length + 1) c1 := by
            obtain ⟨⟨zs, -, hz, -⟩, -⟩ := hc.own
            obtain ⟨A1, c1, e⟩ := own_slice hz
            exact ⟨A1, c1, by rw [e]; simp⟩
          subst hl1
          have HC := Lib.hid hc
          have k1 := hc.rd.l
          clear hc
          by_cases d8 : 8 ≤ deep
          · have HN : Hid (elemP (f + 1) s.data.toList deep ns.length = none) := by
              show _ = _; rw [HETT.out]; exact if_pos (.inl d8)
            go_wp2_with fail
            refine (fail_walk rb _).mono ?_
            rintro e w5 ⟨rfl, rfl⟩
            go_wp2
            exact ⟨rfl, HFR.out HN.out _ HC.out.fr⟩
          · by_cases d2 : 200 ≤ ns.length
            · have HN : Hid (elemP (f + 1) s.data.toList deep ns.length = none) := by
                show _ = _; rw [HETT.out]; exact if_pos (.inr d2)
              have d8' : decide (8 ≤ deep) = false := decide_eq_false d8
              have d2' : (200 : Int) < (ns.length : Int) + 1 := by omega
              go_wp2_with fail
              refine (fail_walk rb _).mono ?_
              rintro e w5 ⟨rfl, rfl⟩
              go_wp2
              exact ⟨rfl, HFR.out HN.out _ HC.out.fr⟩
            · have d8' : decide (8 ≤ deep) = false := decide_eq_false d8
              have d2' : ¬ (200 : Int) < (ns.length : Int) + 1 := by omega
              have HE2 : Hid (elemP (f + 1) s.data.toList deep ns.length = match pre2 47 62 y with
                  | some s4 => some ([⟨deep, nm, ps, []⟩], s4)
                  | none =>
                    match pre1 62 y with
                    | none => none
                    | some s4 => contP f s4 ⟨deep, nm, ps, []⟩ ns.length) := by
                show _ = _; rw [HETT.out]; exact if_neg (by omega)
              go_wp2_with fail
              cases hp2 : pre2 47 62 y with
              | some s4 =>
                refine (may2_val rb _ ⟨#[47, 62]⟩ _ wc HC.out.rd 47 62 rfl (some s4) hp2).mono ?_
                have HN : Hid (elemP (f + 1) s.data.toList deep ns.length = some ([⟨deep, nm, ps, []⟩], s4)) := by
                  show _ = _; rw [HE2.out, hp2]
                clear hp2
                rintro e w5 ⟨rfl, hst5⟩
                have HC5 := Lib.hid (HC.out.stp hst5)
                clear hst5
                go_wp2_with fail
                refine bodyPost_ret (v := .tuple #[]) (by simp [results, Tryd.results20, go_sem]) rfl ?_
                show ElP w B rb _ ns _ _ _
                unfold ElP; rw [HN.out]
                exact ⟨HC5.out.fr, rfl, _, HC5.out.rd, HC5.out.own, HC5.out.at_⟩
              | none =>
                refine (may2_val rb _ ⟨#[47, 62]⟩ _ wc HC.out.rd 47 62 rfl none hp2).mono ?_
                have HE3 : Hid (elemP (f + 1) s.data.toList deep ns.length = match pre1 62 y with
                    | none => none
                    | some s4 => contP f s4 ⟨deep, nm, ps, []⟩ ns.length) := by
                  show _ = _; rw [HE2.out, hp2]
                clear hp2
                rintro e w5 ⟨rfl, hst5⟩
                have HC5 : Hid (CRl w w5 B rb w2.heap.size m (.slice A ns.length cc) deep nm va y _ (ns ++ [⟨deep, nm, ps, []⟩])) := HC.out.stp hst5
                clear hst5 k1
                go_wp2_with fail
                cases hp3 : pre1 62 y with
                | none =>
                  refine (take1_val rb _ ⟨#[62]⟩ _ w5 HC5.out.rd 62 rfl none hp3).mono ?_
                  have HN : Hid (elemP (f + 1) s.data.toList deep ns.length = none) := by
                    show _ = _; rw [HE3.out, hp3]
                  clear hp3
                  rintro e w6 ⟨rfl, hg6⟩
                  have HF6 := Lib.hid (HC5.out.fr.then hg6)
                  clear hg6
                  go_wp2
                  exact ⟨rfl, HFR.out HN.out _ HF6.out⟩
                | some s4 =>
                  refine (take1_val rb _ ⟨#[62]⟩ _ w5 HC5.out.rd 62 rfl (some s4) hp3).mono ?_
                  have HE4 : Hid (elemP (f + 1) s.data.toList deep ns.length = contP f s4 ⟨deep, nm, ps, []⟩ ns.length) := by
                    show _ = _; rw [HE3.out, hp3]
                  have hs4 := pre1_len hp3
                  clear hp3
                  rintro e w6 ⟨rfl, hst6⟩
                  have HC6 := Lib.hid (HC5.out.stp hst6)
                  clear hst6
                  have hmf := HMF.out
                  obtain ⟨f2, rfl⟩ : ∃ f2, f = f2 + 2 := ⟨f - 2, by omega⟩
                  have HE5 : Hid (elemP (f2 + 2 + 1) s.data.toList deep ns.length = clos ⟨deep, nm, ps, []⟩ (kidsP (f2 + 1) s4 [] (deep + 1) (ns.length + 1) [])) := by
                    show _ = _; rw [HE4.out, contP_clos]
                  generalize elemP (f2 + 2 + 1) s.data.toList deep ns.length = E0 at *
                  go_wp2_with fail
                  refine (until_walk rb ⟨s4.toArray⟩ ⟨#[60]⟩ _ w6 HC6.out.rd [60] rfl (by decide) (by rw [← size_list]; show s4.length ≤ _; omega)).mono ?_
                  clear hmf
                  rintro e w7 hu
                  unfold UntilPost at hu
                  rw [show (⟨s4.toArray⟩ : ByteArray).data.toList = s4 from rfl] at hu
                  have htk := takeW_len (notIn [60]) s4
                  cases hd : dropW (notIn [60]) s4 with
                  | nil =>
                    rw [hd] at hu
                    obtain ⟨rfl, hb7⟩ := hu
                    have HN : Hid (E0 = none) := by
                      show _ = _; rw [HE5.out, kidsP_nil hd]; rfl
                    have HF7 := Lib.hid (HC6.out.below hb7).fr
                    clear hd hb7
                    go_wp2
                    exact ⟨rfl, HFR.out HN.out _ HF7.out⟩
                  | cons c1 r1 =>
                    rw [hd] at hu htk
                    obtain ⟨rfl, hst7⟩ := hu
                    have HC7 := Lib.hid (HC6.out.stp hst7)
                    have HE6 : Hid (E0 = clos ⟨deep, nm, ps, []⟩ (kidsQ f2 (c1 :: r1) (takeW (notIn [60]) s4) (deep + 1) (ns.length + 1) [])) := by
                      show _ = _; rw [HE5.out, kidsP_cons hd]; rfl
                    have HK0 : Hid (KQl E0 w w7 B rb w2.heap.size m (.slice A ns.length cc) deep nm va ns ⟨deep, nm, ps, []⟩ (f2 + 2) f2 (c1 :: r1) (takeW (notIn [60]) s4) [] _) :=
                      ⟨HE6.out, by omega, by omega, by omega, HC7.out, by simp; omega⟩
                    clear hst7 hd
                    generalize takeW (notIn [60]) s4 = t0 at *
                    generalize c1 :: r1 = z0 at *
                    go_upto_block 2 with (fail)
                    go_cut [8] (fun tv wr => ∃ (z t : Bs) (kids : List Nod) (l2 : Value), tv = .string ⟨t.toArray⟩ ∧ KRl E0 w wr B rb w2.heap.size m (.slice A ns.length cc) deep nm va ns ⟨deep, nm, ps, []⟩ z t kids l2)
                    case first =>
                      -- BEGIN C
                      go_wp2_with fail
                      go_loopw [8] (fun tv wr => ∃ (g : Nat) (z t : Bs) (kids : List Nod) (l2 : Value), tv = .string ⟨t.toArray⟩ ∧ KQl E0 w wr B rb w2.heap.size m (.slice A ns.length cc) deep nm va ns ⟨deep, nm, ps, []⟩ (f2 + 2) g z t kids l2) (fun _ wr => rdLen wr rb)
                      case atStart => exact ⟨_, _, _, _, _, rfl, HK0.out⟩
                      case round =>
                        obtain ⟨g, z, t, kids, l2, rfl, hk⟩ := hrel
                        have HK := Lib.hid hk
                        have hfu := hk.fuel
                        have hgf := hk.gf
                        have hle := hk.len
                        have hct := hk.cnt
                        have k0 := hk.c.rd.s
                        clear hk
                        go_wp2_with fail
                        cases hp4 : pre2 60 47 z with
                        | some r4 =>
                          have HPR : Hid (Lib.hasPrefix z [60, 47] = true) := by
                            show _ = _; rw [pre2_has, hp4]; rfl
                          have HKR : Hid (KRl E0 w wr B rb w2.heap.size m (.slice A ns.length cc) deep nm va ns ⟨deep, nm, ps, []⟩ z t kids l2) :=
                            ⟨by rw [HK.out.eq, kidsQ_end hp4]; rfl, hle, HK.out.c, hct⟩
                          clear hp4
                          refine (hpre_val _ ⟨#[60, 47]⟩ wr [60, 47] rfl true HPR.out).mono ?_
                          rintro e w' ⟨rfl, rfl⟩
                          go_wp2_with fail
                          go_meet
                          exact ⟨_, _, _, _, rfl, HKR.out⟩
                        | none =>
                          have HPR : Hid (Lib.hasPrefix z [60, 47] = false) := by
                            show _ = _; rw [pre2_has, hp4]; rfl
                          have HP4 := Lib.hid hp4
                          clear hp4
                          refine (hpre_val _ ⟨#[60, 47]⟩ wr [60, 47] rfl false HPR.out).mono ?_
                          rintro e w' ⟨rfl, rfl⟩
                          have hln : (ns ++ ⟨deep, nm, ps, []⟩ :: kids).length = ns.length + 1 + kids.length := by simp; omega
                          go_wp2_with fail
                          refine (HE g hgf rb ⟨z.toArray⟩ (deep + 1) l2 (ns ++ ⟨deep, nm, ps, []⟩ :: kids) B w' m HK.out.c.rd HK.out.c.mx hB0 (Nat.le_trans hB HK.out.c.fr.size) (by rw [← size_list]; show z.length ≤ _; omega) (by rw [← size_list]; show 2 * z.length + 1 ≤ _; omega) (by omega) (by omega) HK.out.c.own (by omega)).mono ?_
                          rintro e w8 hel
                          unfold ElP at hel
                          rw [hln, show (⟨z.toArray⟩ : ByteArray).data.toList = z from rfl] at hel
                          obtain ⟨hf8, hel⟩ := hel
                          cases hev : elemP g z (deep + 1) (ns.length + 1 + kids.length) with
                          | none =>
                            rw [hev] at hel
                            subst hel
                            have HN : Hid (E0 = none) := by
                              show _ = _; rw [HK.out.eq, kidsQ_none HP4.out hev]; rfl
                            have HF8 := Lib.hid (HK.out.c.fr.trans hf8 HK.out.c.at_)
                            clear hev hf8
                            go_wp2
                            exact ⟨rfl, HFR.out HN.out _ HF8.out⟩
                          | some mr =>
                            obtain ⟨ms, rest⟩ := mr
                            rw [hev] at hel
                            obtain ⟨rfl, l3, hr8, ho8, ha8⟩ := hel
                            have HC8 := Lib.hid (HK.out.c.callee hB0 hf8 hr8 ho8 ha8)
                            have hml := elemP_len hev
                            obtain ⟨g', rfl⟩ : ∃ g', g = g' + 1 := ⟨g - 1, by omega⟩
                            have HE8 : Hid (E0 = clos ⟨deep, nm, ps, []⟩ (kidsP (g' + 1) rest t (deep + 1) (ns.length + 1 + kids.length + ms.length) (kids ++ ms))) := by
                              show _ = _; rw [HK.out.eq, kidsQ_some HP4.out hev]
                            clear hev hf8 hr8 ho8 ha8 k0
                            go_wp2_with fail
                            refine (until_walk rb ⟨rest.toArray⟩ ⟨#[60]⟩ _ w8 HC8.out.rd [60] rfl (by decide) (by rw [← size_list]; show rest.length ≤ _; omega)).mono ?_
                            rintro e w9 hu
                            unfold UntilPost at hu
                            rw [show (⟨rest.toArray⟩ : ByteArray).data.toList = rest from rfl] at hu
                            have htk9 := takeW_len (notIn [60]) rest
                            cases hd : dropW (notIn [60]) rest with
                            | nil =>
                              rw [hd] at hu
                              obtain ⟨rfl, hb9⟩ := hu
                              have HN : Hid (E0 = none) := by
                                show _ = _; rw [HE8.out, kidsP_nil hd]; rfl
                              have HF9 := Lib.hid (HC8.out.below hb9).fr
                              clear hd hb9
                              go_wp2
                              exact ⟨rfl, HFR.out HN.out _ HF9.out⟩
                            | cons c9 r9 =>
                              rw [hd] at hu htk9
                              obtain ⟨rfl, hst9⟩ := hu
                              have HC9 := Lib.hid (HC8.out.stp hst9)
                              have HE9 : Hid (E0 = clos ⟨deep, nm, ps, []⟩ (kidsQ g' (c9 :: r9) (t ++ takeW (notIn [60]) rest) (deep + 1) (ns.length + 1 + kids.length + ms.length) (kids ++ ms))) := by
                                show _ = _; rw [HE8.out, kidsP_cons hd]
                              have hsum : t.length + (takeW (notIn [60]) rest).length ≤ 9223372036854775807 := by omega
                              have HKN : Hid (KQl E0 w w9 B rb w2.heap.size m (.slice A ns.length cc) deep nm va ns ⟨deep, nm, ps, []⟩ (f2 + 2) g' (c9 :: r9) (t ++ takeW (notIn [60]) rest) (kids ++ ms) l3) :=
                                ⟨by rw [HE9.out, List.length_append, Nat.add_assoc], by omega, by omega, by simp at *; omega, by have := HC9.out; simpa using this, by simp; omega⟩
                              clear hst9 hd
                              generalize takeW (notIn [60]) rest = t9 at *
                              go_wp2_with fail
                              go_roundw
                              case measure =>
                                rw [HC9.out.rd.len, HK.out.c.rd.len, ← size_list, ← size_list]
                                show (c9 :: r9).length < z.length
                                omega
                              case rel => exact ⟨_, _, _, _, _, by rw [str_app], HKN.out⟩
                      -- END C
                    case rest =>
                      obtain ⟨z, t, kids, l2, rfl, hk⟩ := hcut
                      obtain ⟨gb, cap, rfl⟩ : ∃ gb cap, l2 = .slice (some ⟨gb, 0, none⟩) (ns.length + (kids.length + 1)) cap := by
                        obtain ⟨⟨zs, -, hz, -⟩, -⟩ := hk.c.own
                        obtain ⟨gb, cap, e, -⟩ := World.ownsRow.form hz (by simp; omega)
                        exact ⟨gb, cap, by rw [e]; simp⟩
                      have HK := Lib.hid hk
                      have hle := hk.len
                      have hn1 := blk_cell hk.c.box 1
                      simp at hn1
                      have hsum : ¬ 9223372036854775807 < 2 + nm.length := by omega
                      generalize hbp : Lib.hasPrefix z (60 :: 47 :: nm) = bp
                      have HBP := Lib.hid hbp
                      clear hk hbp
                      go_wp2_with fail
                      refine (take_walk rb ⟨z.toArray⟩ _ _ wc HK.out.c.rd (60 :: 47 :: nm) (by rw [Joins.data_append]; rfl) bp HBP.out).mono ?_
                      rintro e w7 ⟨he, hst7⟩
                      clear hn1
                      cases bp
                      · obtain rfl : e = gaveUp := he
                        have HN : Hid (E0 = none) := by
                          show _ = _; rw [HK.out.eq]; exact closeP_no HBP.out
                        have HF7 := Lib.hid (HK.out.c.fr.then hst7.2)
                        clear hst7
                        go_wp2
                        exact ⟨rfl, HFR.out HN.out _ HF7.out⟩
                      · obtain rfl : e = .returned (.tuple #[]) := he
                        have HC7 : Hid (CRl w w7 B rb w2.heap.size m (.slice A ns.length cc) deep nm va (z.drop (60 :: 47 :: nm).length) _ (ns ++ ⟨deep, nm, ps, []⟩ :: kids)) := HK.out.c.stp hst7
                        have HE7 : Hid (E0 = closeP2 ⟨deep, nm, ps, []⟩ t kids (dropW blankB (z.drop (60 :: 47 :: nm).length))) := by
                          show _ = _; rw [HK.out.eq]; exact closeP_yes HBP.out
                        clear hst7
                        generalize z.drop (60 :: 47 :: nm).length = z2 at *
                        go_wp2_with fail
                        refine (blank_walk rb ⟨z2.toArray⟩ _ w7 HC7.out.rd).mono ?_
                        rintro e w8 ⟨rfl, hst8⟩
                        rw [show (⟨z2.toArray⟩ : ByteArray).data.toList = z2 from rfl] at hst8
                        have HC8 := Lib.hid (HC7.out.stp hst8)
                        clear hst8
                        generalize dropW blankB z2 = z3 at *
                        go_wp2_with fail
                        cases hp5 : pre1 62 z3 with
                        | none =>
                          refine (take1_val rb _ ⟨#[62]⟩ _ w8 HC8.out.rd 62 rfl none hp5).mono ?_
                          have HN : Hid (E0 = none) := by
                            show _ = _; rw [HE7.out]; unfold closeP2; rw [hp5]
                          clear hp5
                          rintro e w9 ⟨rfl, hg9⟩
                          have HF9 := Lib.hid (HC8.out.fr.then hg9)
                          clear hg9
                          go_wp2
                          exact ⟨rfl, HFR.out HN.out _ HF9.out⟩
                        | some z4 =>
                          refine (take1_val rb _ ⟨#[62]⟩ _ w8 HC8.out.rd 62 rfl (some z4) hp5).mono ?_
                          have HE8 : Hid (E0 = match plainS (trimB t) with
                              | none => none
                              | some tx => some (⟨deep, nm, ps, trimB tx⟩ :: kids, z4)) := by
                            show _ = _; rw [HE7.out]; unfold closeP2; rw [hp5]; rfl
                          clear hp5
                          rintro e w9 ⟨rfl, hst9⟩
                          have HC9 := Lib.hid (HC8.out.stp hst9)
                          have k9 := hst9.1.l
                          clear hst9
                          have htl := trimB_len t
                          generalize htt : trimB t = tt at *
                          have HTT := Lib.hid htt
                          clear htt
                          go_upto_region 22 with (fail)
                          have HC9' : Hid (CRl w w9.drew B rb w2.heap.size m (.slice A ns.length cc) deep nm va z4 (.slice (some ⟨gb, 0, none⟩) (ns.length + (kids.length + 1)) cap) (ns ++ ⟨deep, nm, ps, []⟩ :: kids)) := HC9.out.below (Below.refl _ _).drew
                          have HTR : Hid (∀ v, CRl w v B rb w2.heap.size m (.slice A ns.length cc) deep nm va z4 (.slice (some ⟨gb, 0, none⟩) (ns.length + (kids.length + 1)) cap) (ns ++ ⟨deep, nm, ps, []⟩ :: kids) →
                              Calls Tryd.prog 35 #[.string ⟨t.toArray⟩, .string ⟨#[32, 9, 13, 10]⟩] v fun e v' => e = .returned (.string ⟨tt.toArray⟩) ∧ CRl w v' B rb w2.heap.size m (.slice A ns.length cc) deep nm va z4 (.slice (some ⟨gb, 0, none⟩) (ns.length + (kids.length + 1)) cap) (ns ++ ⟨deep, nm, ps, []⟩ :: kids)) := fun v hv => by
                                refine (Trim_val t v (by unfold maxLen; omega) tt HTT.out).mono ?_
                                rintro e v' ⟨rfl, hb⟩
                                exact ⟨rfl, hv.below hb⟩
                          cases hps : plainS tt with
                          | none =>
                            have HN : Hid (E0 = none) := by
                              show _ = _; rw [HE8.out, hps]
                            have HPL : Hid (∀ v, CRl w v B rb w2.heap.size m (.slice A ns.length cc) deep nm va z4 (.slice (some ⟨gb, 0, none⟩) (ns.length + (kids.length + 1)) cap) (ns ++ ⟨deep, nm, ps, []⟩ :: kids) →
                                Calls Tryd.prog 36 #[.pointer (some ⟨rb, 0, none⟩), .string ⟨tt.toArray⟩] v fun e v' => e = gaveUp ∧ Fr w v' rb (Value.slice A ns.length cc).ownBlock) := fun v hv => by
                                refine (plain_walk rb ⟨tt.toArray⟩ m v (by rw [← size_list]; show tt.length ≤ _; omega) hv.mx).mono ?_
                                rintro e v' ⟨hp, hb⟩
                                rw [show (⟨tt.toArray⟩ : ByteArray).data.toList = tt from rfl, hps] at hp
                                exact ⟨hp, (hv.below hb).fr⟩
                            clear hps
                            refine wp_region_any (by kernel_rfl) ?_
                            change wpAny _ _ _ _ _ _ _ (World.drew _)
                            refine wpAny_take (i := 0) (v := ?_) rfl (by kernel_rfl) (by kernel_rfl) (by kernel_rfl) (fun _ _ _ h => h) (Or.inl ⟨by rfl, ?_⟩) ?_
                            rotate_left
                            · intro w; go_simp; with_reducible rfl
                            refine wpAny_take (i := 1) (v := ?_) rfl (by kernel_rfl) (by kernel_rfl) (by kernel_rfl) (fun _ _ _ h => h) (Or.inl ⟨by rfl, ?_⟩) ?_
                            rotate_left
                            · intro w; go_simp; with_reducible rfl
                            refine wpAny_take (i := 2) (v := ?_) rfl (by kernel_rfl) (by kernel_rfl) (by kernel_rfl) (fun _ _ _ h => h) (Or.inl ⟨by rfl, ?_⟩) ?_
                            rotate_left
                            · intro w; go_simp; with_reducible rfl
                            refine wpAny_take (i := 4) (v := ?_) rfl (by kernel_rfl) (by kernel_rfl) (by kernel_rfl) (fun _ _ _ h => h) (Or.inl ⟨by rfl, ?_⟩) ?_
                            rotate_left
                            · intro w; go_simp; with_reducible rfl
                            refine wpAny_take (i := 5) (v := ?_) rfl (by kernel_rfl) (by kernel_rfl) (by kernel_rfl) (fun _ _ _ h => h) (Or.inl ⟨by rfl, ?_⟩) ?_
                            rotate_left
                            · intro w; go_simp; with_reducible rfl
                            refine wpAny_take (i := 6) (v := ?_) rfl (by kernel_rfl) (by kernel_rfl) (by kernel_rfl) (fun _ _ _ h => h) (Or.inl ⟨by rfl, ?_⟩) ?_
                            rotate_left
                            · intro w; go_simp; with_reducible rfl
                            refine wpAny_ready (rs := [3, 7]) (by kernel_rfl) (by simp) ?_
                            refine AllReady.cons rfl (fun K hK => ?_) ?_
                            · go_simp
                              refine hK _ _ ?_
                              clear hK K
                              refine wpAny_ready (rs := [7]) (by kernel_rfl) (by simp) ?_
                              refine AllReady.cons rfl (fun K hK => ?_) AllReady.nil
                              go_simp
                              refine (HTR.out _ HC9'.out).mono ?_
                              rintro e v1 ⟨rfl, hv1⟩
                              refine hK _ _ ?_
                              clear hK K
                              refine wpAny_ready (rs := [8]) (by kernel_rfl) (by simp) ?_
                              refine AllReady.cons rfl (fun K hK => ?_) AllReady.nil
                              go_simp
                              refine (HPL.out _ hv1).mono ?_
                              rintro e v2 ⟨rfl, hf2⟩
                              exact ⟨rfl, HFR.out HN.out _ hf2⟩
                            · refine AllReady.cons rfl (fun K hK => ?_) AllReady.nil
                              go_simp
                              refine (HTR.out _ HC9'.out).mono ?_
                              rintro e v1 ⟨rfl, hv1⟩
                              have HV1 := Lib.hid hv1
                              have kv := hv1.rd.l
                              refine hK _ _ ?_
                              clear hK K hv1
                              refine wpAny_ready (rs := [3, 8]) (by kernel_rfl) (by simp) ?_
                              refine AllReady.cons rfl (fun K hK => ?_) ?_
                              · go_simp
                                refine hK _ _ ?_
                                clear hK K
                                refine wpAny_ready (rs := [8]) (by kernel_rfl) (by simp) ?_
                                refine AllReady.cons rfl (fun K hK => ?_) AllReady.nil
                                go_simp
                                refine (HPL.out _ HV1.out).mono ?_
                                rintro e v2 ⟨rfl, hf2⟩
                                exact ⟨rfl, HFR.out HN.out _ hf2⟩
                              · refine AllReady.cons rfl (fun K hK => ?_) AllReady.nil
                                go_simp
                                refine (HPL.out _ HV1.out).mono ?_
                                rintro e v2 ⟨rfl, hf2⟩
                                exact ⟨rfl, HFR.out HN.out _ hf2⟩
                          | some tx =>
                            have HN : Hid (E0 = some (⟨deep, nm, ps, trimB tx⟩ :: kids, z4)) := by
                              show _ = _; rw [HE8.out, hps]
                            have HPL : Hid (∀ v, CRl w v B rb w2.heap.size m (.slice A ns.length cc) deep nm va z4 (.slice (some ⟨gb, 0, none⟩) (ns.length + (kids.length + 1)) cap) (ns ++ ⟨deep, nm, ps, []⟩ :: kids) →
                                Calls Tryd.prog 36 #[.pointer (some ⟨rb, 0, none⟩), .string ⟨tt.toArray⟩] v fun e v' => e = .returned (.string ⟨tx.toArray⟩) ∧ CRl w v' B rb w2.heap.size m (.slice A ns.length cc) deep nm va z4 (.slice (some ⟨gb, 0, none⟩) (ns.length + (kids.length + 1)) cap) (ns ++ ⟨deep, nm, ps, []⟩ :: kids)) := fun v hv => by
                                refine (plain_walk rb ⟨tt.toArray⟩ m v (by rw [← size_list]; show tt.length ≤ _; omega) hv.mx).mono ?_
                                rintro e v' ⟨hp, hb⟩
                                rw [show (⟨tt.toArray⟩ : ByteArray).data.toList = tt from rfl, hps] at hp
                                exact ⟨hp, hv.below hb⟩
                            have htx : tx.length ≤ 4096 := by
                              unfold plainS at hps
                              split at hps
                              · cases hps
                              · rename_i tx' hrb
                                split at hps
                                · cases hps
                                  have := readB_len _ _ _ (Nat.le_refl _) hrb
                                  omega
                                · cases hps
                            have hty : (trimB tx).length ≤ 4096 := by have := trimB_len tx; omega
                            clear hps
                            generalize hyy : trimB tx = ty at *
                            have HYY := Lib.hid hyy
                            clear hyy
                            have HTR2 : Hid (∀ v, CRl w v B rb w2.heap.size m (.slice A ns.length cc) deep nm va z4 (.slice (some ⟨gb, 0, none⟩) (ns.length + (kids.length + 1)) cap) (ns ++ ⟨deep, nm, ps, []⟩ :: kids) →
                                Calls Tryd.prog 35 #[.string ⟨tx.toArray⟩, .string ⟨#[32, 9, 13, 10]⟩] v fun e v' => e = .returned (.string ⟨ty.toArray⟩) ∧ CRl w v' B rb w2.heap.size m (.slice A ns.length cc) deep nm va z4 (.slice (some ⟨gb, 0, none⟩) (ns.length + (kids.length + 1)) cap) (ns ++ ⟨deep, nm, ps, []⟩ :: kids)) := fun v hv => by
                                refine (Trim_val tx v (by unfold maxLen; omega) ty HYY.out).mono ?_
                                rintro e v' ⟨rfl, hb⟩
                                exact ⟨rfl, hv.below hb⟩
                            have hidx : (ns.length : Int) < (ns.length : Int) + ((kids.length : Int) + 1) := by omega
                            have hidx2 : (ns.length : Int) < ((ns.length + (kids.length + 1) : Nat) : Int) := by omega
                            go_region_law (first
                              | (go_simp; go_at_call_of 35 t; refine (HTR.out _ HC9'.out).mono ?_; rintro e v1 ⟨rfl, hv1⟩; have HV1 := Lib.hid hv1; have kv1 := hv1.rd.l; clear hv1; dsimp only)
                              | (go_simp; go_at_call 36; refine (HPL.out _ HV1.out).mono ?_; rintro e v2 ⟨rfl, hv2⟩; have HV2 := Lib.hid hv2; have kv2 := hv2.rd.l; clear hv2; dsimp only)
                              | (go_simp; go_at_call_of 35 tx; refine (HTR2.out _ HV2.out).mono ?_; rintro e v3 ⟨rfl, hv3⟩; have HV3 := Lib.hid hv3; have kv3 := hv3.rd.l; have tv3 := (hv3.text hB0).1; have uv3 := (hv3.text hB0).2.1; clear hv3; dsimp only))
                            all_goals
                              have HT := Lib.hid ((HV3.out.text hB0).2.2 ty hty)
                              refine bodyPost_end (v := .tuple #[]) (by simp [results, Tryd.results20, go_sem]) rfl ?_
                              unfold ElP; rw [HN.out]
                              exact ⟨HT.out.fr, rfl, _, HT.out.rd, HT.out.own, HT.out.at_⟩
/-- Every element. -/
theorem element_all (f : Nat) : EP f := by
  induction f using Nat.strongRecOn with
  | _ f ih =>
    cases f with
    | zero => intro rb s deep l ns B w m hr hm hB0 hB hs hf; omega
    | succ f => exact element_step f fun g hg => ih g (by omega)
end Go.Proofs.YtffcapkjfmkkaaaDoor
