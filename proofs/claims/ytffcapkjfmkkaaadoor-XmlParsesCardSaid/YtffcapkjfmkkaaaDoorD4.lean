/- Which elements may be a document, as the program has it. -/
import Derived.Test.YtffcapkjfmkkaaaDoorD3
import Derived.Test.YtffcapkjfmkkaaaDoorS2
import Derived.IntWalk
namespace Go.Proofs.YtffcapkjfmkkaaaDoor
open Go.RowKit
def gT2 (ns : List Nod) (k : Nat) : Bool := if h : 0 < k ∧ k < ns.length then pairT (ns[k - 1]'(by omega)) (ns[k]'h.2) else true
def gH (ns : List Nod) (k : Nat) : Bool := if k = 0 then decide ((ns.head?.map Nod.deep) = some 0) else gateD ns k
def eOK (n : Nod) : Bool := nameB n.name && attrsB n.attrs && signsB n.text && decide (trimB n.text = n.text)
theorem elem_e (n : Nod) : elemOK n = (decide (n.deep < 8) && eOK n) := by simp [elemOK, eOK, Bool.and_assoc]
theorem gT2_succ (ns : List Nod) (k : Nat) : gT2 ns (k + 1) = gateT ns k := by
  unfold gT2 gateT
  by_cases h : k + 1 < ns.length
  · rw [dif_pos ⟨by omega, h⟩, dif_pos h]; rfl
  · rw [dif_neg (by omega), dif_neg h]
theorem chain_round (ns : List Nod) (k : Nat) (h : k < ns.length) (hD : (gH ns k && decide (ns[k].deep < 8)) = true) (hE : eOK ns[k] = true) (hT : gT2 ns k = true) :
    (gT2 ns k && (gH ns k && chainB (ns.drop k))) = (gT2 ns (k + 1) && (gH ns (k + 1) && chainB (ns.drop (k + 1)))) := by
  rw [chain_at ns k h, elem_e, hE, hT, gT2_succ]
  simp at hD
  rw [show gH ns (k + 1) = gateD ns (k + 1) from if_neg (by omega), hD.1, decide_eq_true hD.2]; simp
theorem chain_bad (ns : List Nod) (k : Nat) (h : k < ns.length) (hb : ((gH ns k && decide (ns[k].deep < 8)) && (eOK ns[k] && gT2 ns k)) = false) :
    (gT2 ns k && (gH ns k && chainB (ns.drop k))) = false := by
  rw [chain_at ns k h, elem_e]
  cases hh : gH ns k <;> cases he : eOK ns[k] <;> cases ht : gT2 ns k <;> cases h8 : decide (ns[k].deep < 8) <;> simp_all
theorem attrs_val (u : Value) (ps : List Par) (w : World) (hp : RPar w u ps) (hlen : ps.length < maxLen) (b : Bool) (h : attrsB ps = b) :
    Calls Tryd.prog 38 #[u] w fun e w' => e = .returned (.bool b) ∧ Below w.heap.size w w' := by
  subst h; exact attrs_walk u ps w hp hlen
def blanks4 : Bs := [32, 9, 13, 10]
theorem rdrop_cons (p : UInt8 → Bool) (c : UInt8) (t : Bs) : ((c :: t).reverse.dropWhile p).reverse = if (t.reverse.dropWhile p) = [] then (if p c then [] else [c]) else c :: (t.reverse.dropWhile p).reverse := by
  rw [List.reverse_cons, List.dropWhile_append]
  cases h : t.reverse.dropWhile p with
  | nil => cases hc : p c <;> simp [hc]
  | cons x l => simp
theorem trim_comm (p : UInt8 → Bool) (l : Bs) : ((l.reverse.dropWhile p).reverse).dropWhile p = ((l.dropWhile p).reverse.dropWhile p).reverse := by
  induction l with
  | nil => rfl
  | cons c t ih =>
    by_cases hc : p c = true
    · rw [rdrop_cons, show (c :: t).dropWhile p = t.dropWhile p from by rw [List.dropWhile_cons, if_pos hc], ← ih]
      split
      · rename_i h; rw [h]; simp
      · rw [List.dropWhile_cons, if_pos hc]
    · rw [List.dropWhile_cons, if_neg hc, rdrop_cons]
      split
      · simp [hc]
      · rw [List.dropWhile_cons, if_neg hc]
theorem dropW_while (p : UInt8 → Bool) (l : Bs) : dropW p l = l.dropWhile p := by
  induction l with
  | nil => rfl
  | cons c t ih => rw [dropW, List.dropWhile_cons, ih]; try (cases p c <;> rfl)
theorem blank_contains (c : UInt8) : blankB c = blanks4.contains c := by
  unfold blankB blanks4; rw [hasB_iff]; simp
theorem trimB_S (l : Bs) : Lib.trimS l blanks4 = trimB l := by
  unfold Lib.trimS Lib.trimLeftS Lib.trimRightS trimB trimR
  have : (fun x => blanks4.contains x) = blankB := funext fun c => (blank_contains c).symm
  rw [this, dropW_while, dropW_while, trim_comm]
theorem blanks_ascii (j : Nat) (b : UInt8) (h : blanks4[j]? = some b) : b.toNat < 128 :=
  (by decide : ∀ b ∈ blanks4, b.toNat < 128) b (List.mem_of_getElem? h)
theorem Trim_val (l : Bs) (w : World) (hs : l.length ≤ maxLen) (t : Bs) (h : trimB l = t) :
    Calls Tryd.prog 35 #[.string ⟨l.toArray⟩, .string ⟨blanks4.toArray⟩] w fun e w' => e = .returned (.string ⟨t.toArray⟩) ∧ Below w.heap.size w w' := by
  subst h
  refine (strings_Trim_laid ⟨l.toArray⟩ ⟨blanks4.toArray⟩ w (by unfold maxLen at hs; exact hs) (by decide) blanks_ascii).mono ?_
  rintro e w' ⟨rfl, hb⟩
  exact ⟨ret_str (trimB_S l), hb⟩
set_option maxRecDepth 100000 in
set_option maxHeartbeats 8000000 in
theorem Check_walk (u : Value) (ns : List Nod) (w : World) (hp : RNod w u ns) (hpl : ∀ n ∈ ns, n.attrs.length < maxLen) :
    Calls Tryd.prog 21 #[u] w fun e w' => e = .returned (.int .i64 (chkI (checkB ns))) ∧ Below w.heap.size w w' := by
  have hp0 := hp
  obtain ⟨A, c, rfl, -, hm, -⟩ := hp
  by_cases h12 : 1 ≤ ns.length ∧ ns.length ≤ 200
  · have HC : Hid (checkB ns = (decide ((ns.head?.map Nod.deep) = some 0) && chainB ns)) := by
      show _ = _; unfold checkB; simp [h12]
    have zl1 : ((ns.length : Int) == 0) = false := by rw [beq_eq_false_iff_ne]; omega
    have zl2 : decide (200 < (ns.length : Int)) = false := by simp; omega
    go_enter Tryd.func21, Tryd.ntmps21
    go_wp2
    go_loopw [15, 3, 4] (fun i _ _ wr => ∃ k : Nat, k ≤ ns.length ∧ i = .int .i64 k ∧ checkB ns = (gT2 ns k && (gH ns k && chainB (ns.drop k))) ∧ (∀ j (hj : j < ns.length), j + 1 = k → 0 ≤ ns[j].deep ∧ ns[j].deep < 8) ∧ Below w.heap.size w wr) (fun i _ _ _ => ns.length - (intOf i).toNat)
    case atStart => exact ⟨0, by omega, rfl, by rw [HC.out]; simp [gT2, gH], fun j hj e => by omega, Below.refl _ _⟩
    case round =>
      obtain ⟨k, hk, rfl, ht, hpv, hb⟩ := hrel
      have HT := Lib.hid ht
      have HPV := Lib.hid hpv
      clear ht hpv
      by_cases hlt : k < ns.length
      · obtain ⟨a', vk, ha', k0, k1, k2, hatt, k3, n1, n2⟩ := (hp0.keep hb).at_ k hlt
        cases ha'
        have hatt0 := hatt
        obtain ⟨A2, c2, rfl, -⟩ := hatt
        have HN := Lib.hid n1
        have HX := Lib.hid n2
        clear n1 n2
        have hret : ((gH ns k && decide (ns[k].deep < 8)) && (eOK ns[k] && gT2 ns k)) = false → ∀ w', Below w.heap.size w w' → (Ending.returned (.int .i64 130) = .returned (.int .i64 (chkI (checkB ns))) ∧ Below w.heap.size w w') := fun h w' h' =>
          ⟨ret_int (by rw [HT.out, chain_bad ns k hlt h]; rfl), h'⟩
        have HRET := Lib.hid hret
        clear hret
        have hin : Below wr.heap.size wr (wr.alloc (nodRow ns[k] (.slice A2 ns[k].attrs.length c2))) := (Below.refl _ _).alloc (Nat.le_refl _) _
        go_upto_region 6 with (fail)
        go_cut [20] (fun v w2 => v = .bool (decide (k = 0) && !decide (ns[k].deep = 0)) ∧ Dr (wr.alloc (nodRow ns[k] (.slice A2 ns[k].attrs.length c2))) w2)
        case first =>
          have c0 := new_cell wr #[.int .i64 ns[k].deep, .string ⟨ns[k].name.toArray⟩, (.slice A2 ns[k].attrs.length c2), .string ⟨ns[k].text.toArray⟩] 40 0
          by_cases hk0 : k = 0
          · have e0 : ((k : Int) == 0) = true := by simp; omega
            by_cases d0 : ns[k].deep = 0
            · have z0 : (ns[k].deep != 0) = false := by simp [d0]
              have HF : Hid ((decide (k = 0) && !decide (ns[k].deep = 0)) = false) := by show _ = _; simp [d0]
              clear hk0 d0
              go_wp2_with fail
              go_meet
              exact ⟨by rw [HF.out], Dr.refl _⟩
            · have z0 : (ns[k].deep != 0) = true := by simp [d0]
              have HF : Hid ((decide (k = 0) && !decide (ns[k].deep = 0)) = true) := by show _ = _; rw [decide_eq_true hk0, decide_eq_false d0]; rfl
              clear hk0 d0
              go_wp2_with fail
              go_meet
              exact ⟨by rw [HF.out], Dr.refl _⟩
          · have e0 : ((k : Int) == 0) = false := by rw [beq_eq_false_iff_ne]; omega
            have HF : Hid ((decide (k = 0) && !decide (ns[k].deep = 0)) = false) := by show _ = _; simp [hk0]
            clear hk0
            go_wp2_with fail
            go_meet
            exact ⟨by rw [HF.out], Dr.refl _⟩
        case rest =>
        obtain ⟨rfl, hd1⟩ := hcut
        have hcell1 : ∀ j, wc.cell? ⟨wr.heap.size, j, none⟩ = (#[.int .i64 ns[k].deep, .string ⟨ns[k].name.toArray⟩, (.slice A2 ns[k].attrs.length c2), .string ⟨ns[k].text.toArray⟩] : Array Value)[j]? := fun j => by
          obtain ⟨n, rfl⟩ := hd1
          exact new_cell wr #[.int .i64 ns[k].deep, .string ⟨ns[k].name.toArray⟩, (.slice A2 ns[k].attrs.length c2), .string ⟨ns[k].text.toArray⟩] 40 j
        have hbw1 := hd1.below hin
        generalize hb6 : (decide (k = 0) && !decide (ns[k].deep = 0)) = b6
        have HB6 := Lib.hid hb6
        clear hb6
        go_upto_if 20 with (fail)
        go_cut [20] (fun v w2 => v = .bool (!(gH ns k && decide (ns[k].deep < 8))) ∧ Dr wc w2)
        case first =>
          have c0 := hcell1 0
          cases b6
          · rcases Nat.eq_zero_or_pos k with hk0 | hk0
            · have e1 : decide (0 < (k : Int)) = false := by simp; omega
              have HF : Hid ((gH ns k && decide (ns[k].deep < 8)) = true) := by
                have := HB6.out
                simp [hk0] at this
                subst hk0
                show _ = _; unfold gH; rw [if_pos rfl, List.head?_eq_getElem?, List.getElem?_eq_getElem hlt]; simp [this]
              have z8 : decide (8 ≤ ns[k].deep) = false := by have := HB6.out; simp [hk0] at this; subst hk0; simp [this]
              have hk1 : k ≤ 0 := by omega
              have hzn : decide (0 < k) = false := by simp; omega
              have hz : decide ((k : Int) > 0) = false := by simp; omega
              clear hk0
              go_wp2_with fail
              go_quiet (fail)
              (try go_wp2_with fail)
              go_meet
              exact ⟨by rw [HF.out]; rfl, ⟨_, rfl⟩⟩
            · have e1 : decide (0 < (k : Int)) = true := by simp; omega
              have hp1 : k - 1 < ns.length := by omega
              obtain ⟨a2, v2, ha2, p0, -⟩ := (hp0.keep hb).at_ (k - 1) hp1
              cases ha2
              have p1 := cell_keep hbw1 p0
              have hpb := HPV.out (k - 1) hp1 (by omega)
              have HGD : Hid (gH ns k = pairD ns[k - 1] ns[k]) := by show _ = _; unfold gH gateD; rw [if_neg (by omega), dif_pos ⟨hk0, hlt⟩]
              clear p0
              by_cases d1 : 1 ≤ ns[k].deep
              · have z1 : decide (ns[k].deep < 1) = false := by simp; omega
                have w1 : IntKind.i64.wrap (ns[k - 1].deep + 1) = ns[k - 1].deep + 1 := IntWalk.i64_in _ (by omega)
                by_cases d2 : ns[k].deep ≤ ns[k - 1].deep + 1
                · have z2 : decide (ns[k - 1].deep + 1 < ns[k].deep) = false := by simp; omega
                  by_cases d8 : ns[k].deep < 8
                  · have z8 : decide (8 ≤ ns[k].deep) = false := by simp; omega
                    have HF : Hid ((gH ns k && decide (ns[k].deep < 8)) = true) := by show _ = _; rw [HGD.out]; simp [pairD, d1, d2, d8]
                    go_wp2_with fail
                    go_quiet (fail)
                    (try go_wp2_with fail)
                    go_meet
                    exact ⟨by rw [HF.out]; rfl, ⟨_, rfl⟩⟩
                  · have z8 : decide (8 ≤ ns[k].deep) = true := by simp; omega
                    have HF : Hid ((gH ns k && decide (ns[k].deep < 8)) = false) := by show _ = _; rw [decide_eq_false d8]; simp
                    go_wp2_with fail
                    go_quiet (fail)
                    (try go_wp2_with fail)
                    go_meet
                    exact ⟨by rw [HF.out]; rfl, ⟨_, rfl⟩⟩
                · have z2 : decide (ns[k - 1].deep + 1 < ns[k].deep) = true := by simp; omega
                  have HF : Hid ((gH ns k && decide (ns[k].deep < 8)) = false) := by show _ = _; rw [HGD.out]; simp [pairD, d2]
                  go_wp2_with fail
                  go_quiet (fail)
                  (try go_wp2_with fail)
                  go_meet
                  exact ⟨by rw [HF.out]; rfl, ⟨_, rfl⟩⟩
              · have z1 : decide (ns[k].deep < 1) = true := by simp; omega
                have HF : Hid ((gH ns k && decide (ns[k].deep < 8)) = false) := by show _ = _; rw [HGD.out]; simp [pairD, d1]
                go_wp2_with fail
                go_quiet (fail)
                (try go_wp2_with fail)
                go_meet
                exact ⟨by rw [HF.out]; rfl, ⟨_, rfl⟩⟩
          · have HF : Hid ((gH ns k && decide (ns[k].deep < 8)) = false) := by
              have := HB6.out
              simp at this
              obtain ⟨hk0, h2⟩ := this
              subst hk0
              show _ = _; unfold gH; rw [if_pos rfl, List.head?_eq_getElem?, List.getElem?_eq_getElem hlt]; simp [h2]
            go_wp2_with fail
            go_meet
            exact ⟨by rw [HF.out]; rfl, Dr.refl _⟩
        case rest =>
          obtain ⟨rfl, hd2⟩ := hcut
          have hbw := hd2.below hbw1
          have HBW := Lib.hid (hb.trans (hbw.mono hb.size))
          have hcell : ∀ j, wc.cell? ⟨wr.heap.size, j, none⟩ = (#[.int .i64 ns[k].deep, .string ⟨ns[k].name.toArray⟩, (.slice A2 ns[k].attrs.length c2), .string ⟨ns[k].text.toArray⟩] : Array Value)[j]? := fun j => by
            obtain ⟨n, rfl⟩ := hd2
            exact hcell1 j
          cases hdd : (gH ns k && decide (ns[k].deep < 8))
          · have HF := Lib.hid hdd
            clear hdd
            go_wp2_with fail
            go_ret
            exact HRET.out (by rw [HF.out]; rfl) _ HBW.out
          · have HDD := Lib.hid hdd
            clear hdd
            have HALL : Hid (∀ w3, Below wc.heap.size wc w3 → Below w.heap.size w w3 ∧ w3.cell? ⟨wr.heap.size, 0, none⟩ = some (.int .i64 ns[k].deep) ∧ ∀ (a : Addr) (v : Value), wr.cell? a = some v → w3.cell? a = some v) := fun w3 h =>
              ⟨HBW.out.trans (h.mono HBW.out.size), cell_keep h (hcell 0), fun a v hv => cell_keep (hbw.trans (h.mono hbw.size)) hv⟩
            have c1 := hcell 1
            have c2' := hcell 2
            have c3 := hcell 3
            generalize hb1 : nameB ns[k].name = b1
            have HB1 := Lib.hid hb1
            go_wp2_with fail
            refine (Name_val _ _ HN.out b1 hb1).mono ?_
            clear hb1
            rintro e w2 ⟨rfl, hx2⟩
            have u2x := cell_keep hx2 c2'
            have u3x := cell_keep hx2 c3
            have HX2 := Lib.hid hx2
            clear c1 c2' c3
            go_upto_if 50 with (fail)
            go_cut [50] (fun v w3 => v = .bool (!(eOK ns[k])) ∧ Below wc.heap.size wc w3)
            case first =>
              cases b1
              · have HF : Hid (eOK ns[k] = false) := by show _ = _; simp [eOK, HB1.out]
                go_wp2_with fail
                go_meet
                exact ⟨by simp [HF.out], HX2.out⟩
              · clear hx2
                generalize hb2 : attrsB ns[k].attrs = b2
                have HB2 := Lib.hid hb2
                go_wp2_with fail
                refine (attrs_val _ _ _ (hatt0.keep (hbw.trans (HX2.out.mono hbw.size))) (hpl _ (List.getElem_mem hlt)) b2 hb2).mono ?_
                clear hb2
                rintro e w3 ⟨rfl, hx3⟩
                have t3x := cell_keep hx3 u3x
                have HX3 := Lib.hid (HX2.out.trans (hx3.mono HX2.out.size))
                clear hx3 u2x u3x
                cases b2
                · have HF : Hid (eOK ns[k] = false) := by show _ = _; simp [eOK, HB2.out]
                  go_wp2_with fail
                  go_meet
                  exact ⟨by rw [HF.out]; rfl, HX3.out⟩
                · generalize hb3 : signsB ns[k].text = b3
                  have HB3 := Lib.hid hb3
                  go_wp2_with fail
                  refine (signs_val _ _ HX.out b3 hb3).mono ?_
                  clear hb3
                  rintro e w4 ⟨rfl, hx4⟩
                  have s3x := cell_keep hx4.below0 t3x
                  have HX4 := Lib.hid (hx4.below HX3.out)
                  clear hx4 t3x
                  cases b3
                  · have HF : Hid (eOK ns[k] = false) := by show _ = _; simp [eOK, HB3.out]
                    go_wp2_with fail
                    go_meet
                    exact ⟨by rw [HF.out]; rfl, HX4.out⟩
                  · have HQ : Hid ((trimB ns[k].text != ns[k].text) = !(eOK ns[k])) := by
                      show _ = _; unfold eOK; rw [HB1.out, HB2.out, HB3.out]
                      by_cases e : trimB ns[k].text = ns[k].text <;> simp [e]
                    go_wp2_with fail
                    go_region_with ((go_at_call 35; refine (Trim_val _ _ HX.out _ rfl).mono ?_; rintro e w5 ⟨rfl, hx5⟩; have r3x := cell_keep hx5 s3x; have HX5 := Lib.hid (HX4.out.drew.trans (hx5.mono HX4.out.size))))
                    all_goals
                      go_wp2_with fail
                      go_meet
                      exact ⟨congrArg Value.bool HQ.out, HX5.out⟩
            case rest =>
              obtain ⟨rfl, hb3⟩ := hcut
              obtain ⟨hb4, c0, hkp⟩ := HALL.out _ hb3
              have HB4 := Lib.hid hb4
              have HKP := Lib.hid hkp
              clear hb4 hkp hb3
              cases hee : eOK ns[k]
              · have HE := Lib.hid hee
                clear hee
                go_wp2_with fail
                go_ret
                exact HRET.out (by rw [HE.out]; simp) _ HB4.out
              · have HE := Lib.hid hee
                clear hee
                have hround : gT2 ns k = true → ∀ m, Hid ((∃ k_1, k_1 ≤ ns.length ∧ Value.int IntKind.i64 (↑k + 1) = Value.int IntKind.i64 ↑k_1 ∧ checkB ns = (gT2 ns k_1 && (gH ns k_1 && chainB (ns.drop k_1))) ∧ (∀ j (hj : j < ns.length), j + 1 = k_1 → 0 ≤ ns[j].deep ∧ ns[j].deep < 8) ∧ Below w.heap.size w (wc.drewN m))) := fun h m => by
                  refine ⟨k + 1, by omega, by go_num, by rw [HT.out, chain_round ns k hlt HDD.out HE.out h], fun j hj e => ?_, Dr.below ⟨m, rfl⟩ HB4.out⟩
                  have : j = k := by omega
                  subst this
                  have hg := HDD.out
                  simp at hg
                  refine ⟨?_, hg.2⟩
                  have hg1 := hg.1
                  unfold gH at hg1
                  split at hg1
                  · rename_i h0
                    subst h0
                    rw [List.head?_eq_getElem?, List.getElem?_eq_getElem hlt] at hg1
                    simp at hg1; omega
                  · unfold gateD at hg1
                    rw [dif_pos ⟨by omega, hlt⟩] at hg1
                    simp [pairD] at hg1; omega
                have HRND := Lib.hid hround
                clear hround
                rcases Nat.eq_zero_or_pos k with hk0 | hk0
                · have HG : Hid (gT2 ns k = true) := by show _ = _; unfold gT2; rw [dif_neg (by omega)]
                  have hk1 : k ≤ 0 := by omega
                  have hzn : decide (0 < k) = false := by simp; omega
                  have hz : decide ((k : Int) > 0) = false := by simp; omega
                  have e1 : decide (0 < (k : Int)) = false := by simp; omega
                  clear hk0
                  go_wp2_with fail
                  go_quiet (fail)
                  (try go_wp2_with fail)
                  exact ⟨(HRND.out HG.out _).out, by simp [intOf]; omega⟩
                · have e1 : decide (0 < (k : Int)) = true := by simp; omega
                  have hz : decide ((k : Int) > 0) = true := by simp; omega
                  have hp1 : k - 1 < ns.length := by omega
                  obtain ⟨a2, v2, ha2, p0, -, -, -, p3, -⟩ := (hp0.keep hb).at_ (k - 1) hp1
                  cases ha2
                  have q0 := HKP.out _ _ p0
                  have q3 := HKP.out _ _ p3
                  have hpb := HPV.out (k - 1) hp1 (by omega)
                  have hdl : ns[k].deep ≤ ns[k - 1].deep + 1 := by
                    have hg := HDD.out
                    simp at hg
                    have hg1 := hg.1
                    unfold gH gateD at hg1
                    rw [if_neg (by omega), dif_pos ⟨hk0, hlt⟩] at hg1
                    simp [pairD] at hg1; omega
                  have HGT : Hid (gT2 ns k = pairT ns[k - 1] ns[k]) := by show _ = _; unfold gT2; rw [dif_pos ⟨hk0, hlt⟩]
                  have w1 : IntKind.i64.wrap (ns[k - 1].deep + 1) = ns[k - 1].deep + 1 := IntWalk.i64_in _ (by omega)
                  clear p0 p3
                  by_cases hdp : ns[k].deep = ns[k - 1].deep + 1
                  · have zd : (ns[k].deep == ns[k - 1].deep + 1) = true := by simp [hdp]
                    have HDP := Lib.hid hdp
                    clear hdp
                    by_cases hte : ns[k - 1].text = []
                    · have HG : Hid (gT2 ns k = true) := by show _ = _; rw [HGT.out]; simp [pairT, hte]
                      have zt : ns[k - 1].text.isEmpty = true := by simp [hte]
                      clear hte
                      go_wp2_with fail
                      go_quiet (fail)
                      (try go_wp2_with fail)
                      exact ⟨(HRND.out HG.out _).out, by simp [intOf]; omega⟩
                    · have HG : Hid (gT2 ns k = false) := by show _ = _; rw [HGT.out]; have := HDP.out; simp [pairT, hte]; omega
                      have zt : ns[k - 1].text.isEmpty = false := by simpa using hte
                      clear hte
                      go_wp2_with fail
                      go_quiet (fail)
                      (try go_wp2_with fail)
                      go_ret
                      exact HRET.out (by rw [HG.out]; simp) _ (Dr.below ⟨_, rfl⟩ HB4.out)
                  · have zd : (ns[k].deep == ns[k - 1].deep + 1) = false := by simp [hdp]
                    have HG : Hid (gT2 ns k = true) := by show _ = _; rw [HGT.out]; simp [pairT]; exact .inl (by omega)
                    clear hdp
                    go_wp2_with fail
                    go_quiet (fail)
                    (try go_wp2_with fail)
                    exact ⟨(HRND.out HG.out _).out, by simp [intOf]; omega⟩
      · obtain rfl : k = ns.length := by omega
        go_wp2
        go_ret
        refine ⟨ret_int ?_, hb⟩
        rw [HT.out]
        simp [gT2, gH, gateD, chainB, show ¬ ns.length = 0 by omega, chkI]
  · have HC : Hid (checkB ns = false) := by
      show _ = _; unfold checkB
      by_cases h1 : 1 ≤ ns.length
      · have : ¬ ns.length ≤ 200 := fun h => h12 ⟨h1, h⟩
        simp [this]
      · simp [h1]
    by_cases h1 : 1 ≤ ns.length
    · have h2 : ¬ ns.length ≤ 200 := fun h => h12 ⟨h1, h⟩
      have zl1 : ((ns.length : Int) == 0) = false := by rw [beq_eq_false_iff_ne]; omega
      have zl2 : decide (200 < (ns.length : Int)) = true := by simp; omega
      go_enter Tryd.func21, Tryd.ntmps21
      go_wp2
      go_ret
      exact ⟨ret_int (by rw [HC.out]; rfl), Below.refl _ _⟩
    · have zl1 : ((ns.length : Int) == 0) = true := by rw [beq_iff_eq]; omega
      go_enter Tryd.func21, Tryd.ntmps21
      go_wp2
      go_ret
      exact ⟨ret_int (by rw [HC.out]; rfl), Below.refl _ _⟩
end Go.Proofs.YtffcapkjfmkkaaaDoor
