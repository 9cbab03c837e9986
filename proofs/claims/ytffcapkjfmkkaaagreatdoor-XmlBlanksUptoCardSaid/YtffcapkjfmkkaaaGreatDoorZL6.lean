/- XmlBlanks: the statement's own function. -/
import Derived.Test.YtffcapkjfmkkaaaGreatDoorZN
import Derived.Lib.VarintBits
namespace Go.Proofs.YtffcapkjfmkkaaaGreatDoor
open Go.RowKit
/-- The blanks that are laid, by a number. -/
def blk (x : Int) : Bs := if x = 0 then [] else if x = 1 then [32] else if x = 2 then [13, 10] else [9, 32, 10]
def pick (which : Int) (n : Nat) : Int := Go.bits .and .u64 (which / 2 ^ (n % 32 * 2)) 3
def prevB (l : Bs) (i : Nat) : UInt8 := if h : 0 < i ∧ i ≤ l.length then l[i - 1]'(by omega) else 0
theorem blk_blank (x : Int) : blank (blk x) := by
  unfold blk
  repeat' split
  all_goals (intro c hc; simp at hc)
  · subst hc; decide
  · rcases hc with rfl | rfl <;> decide
  · rcases hc with rfl | rfl | rfl <;> decide
theorem pick_mod (which : Int) (n : Nat) (h0 : 0 ≤ which) (h1 : which < 18446744073709551616) : 0 ≤ pick which n ∧ pick which n < 4 := by
  unfold pick
  have h2 : 0 ≤ which / 2 ^ (n % 32 * 2) := Int.ediv_nonneg h0 (Int.pow_nonneg (by decide))
  have h3 : which / 2 ^ (n % 32 * 2) ≤ which := Int.ediv_le_self _ h0
  have e : Go.bits .and .u64 (which / 2 ^ (n % 32 * 2)) 3 = (which / 2 ^ (n % 32 * 2)) % 4 := bits_mask .u64 64 (by decide) wraps_u64 2 (by decide) _ h2 (by omega)
  rw [e]
  omega
theorem wf_u64 {n : Int} (h : (Lit.int .u64 n).wf = true) : 0 ≤ n ∧ n < 18446744073709551616 := by
  unfold Lit.wf at h
  rw [Bool.and_eq_true] at h
  have a := of_decide_eq_true h.1
  have b := of_decide_eq_true h.2
  have e1 : IntKind.u64.min = 0 := rfl
  have e2 : IntKind.u64.max = 18446744073709551615 := rfl
  rw [e1] at a; rw [e2] at b
  omega
theorem prev_at (T : Bs) (i : Nat) (h : i < T.length) : prevB T (i + 1) = T[i] := by
  unfold prevB; rw [dif_pos ⟨by omega, by omega⟩]; simp
theorem prev_pos (T : Bs) (i : Nat) (h : i < T.length) (h0 : 0 < i) : prevB T i = T[i - 1]'(by omega) := by
  unfold prevB; rw [dif_pos ⟨h0, by omega⟩]
theorem ins_keep (β : Nat → Bs) (T : Bs) (i n : Nat) (h : i < T.length) (hn : ¬ (T[i] = 60 ∧ prevB T i = 62)) : insB β n (prevB T i) (T.drop i) = T[i] :: insB β n (prevB T (i + 1)) (T.drop (i + 1)) := by
  rw [List.drop_eq_getElem_cons h, insB, if_neg hn, prev_at T i h]
theorem ins_put (β : Nat → Bs) (T : Bs) (i n : Nat) (h : i < T.length) (h1 : T[i] = 60) (h2 : prevB T i = 62) : insB β n (prevB T i) (T.drop i) = β n ++ (T[i] :: insB β (n + 1) (prevB T (i + 1)) (T.drop (i + 1))) := by
  rw [List.drop_eq_getElem_cons h, insB, if_pos ⟨h1, h2⟩, prev_at T i h]
theorem out_one (out : Bs) (S : ByteArray) (i : Nat) (h : i < S.size) : Value.string ((⟨out.toArray⟩ : ByteArray) ++ S.extract i (i + 1)) = .string ⟨(out ++ [S[i]]).toArray⟩ :=
  str_of (by rw [Joins.data_append, ext_one S i h])
theorem out_two (out b : Bs) (S : ByteArray) (i : Nat) (h : i < S.size) : Value.string ((⟨out.toArray⟩ : ByteArray) ++ ⟨b.toArray⟩ ++ S.extract i (i + 1)) = .string ⟨(out ++ b ++ [S[i]]).toArray⟩ :=
  str_of (by rw [Joins.data_append, Joins.data_append, ext_one S i h])
theorem u8_of (a b : UInt8) (h : (a.toNat : Int) = b.toNat) : a = b := UInt8.toNat.inj (by omega)
set_option maxRecDepth 100000 in
set_option maxHeartbeats 4000000 in
theorem xmlBlanks_walk (u : Value) (ns : List Nod) (which : Int) (w : World) (m : Int) (hm : Mx w m) (hp : RNod w u ns) (hc : costs ns ≤ 6291456) (hw : (Lit.int .u64 which).wf = true) :
    Calls Tryz.prog 6 #[u, .int .u64 which] w fun e w' => e = .returned (.bool true) ∧ Below w.heap.size w w' := by
  have HM := Lib.hid hm
  have HP := Lib.hid hp
  have HC := Lib.hid hc
  have HW := Lib.hid hw
  clear hm hp hc hw
  go_enter Tryz.func6, Tryz.ntmps6
  go_wp2_with fail
  refine (pPrint_walk u ns w HP.out (attrs_len HC.out) (fun _ => by have := HC.out; omega)).mono ?_
  intro e w1 hpr
  cases hcb : checkB ns with
  | false =>
    obtain ⟨rfl, hb1⟩ := print_no hpr hcb
    have HB1 := Lib.hid hb1
    clear hpr hb1 hcb
    go_wp2_with fail
    refine (awake_walk w1 m (cell_keep HB1.out HM.out)).mono ?_
    rintro e w2 ⟨rfl, hb2⟩
    have HB2 := Lib.hid (HB1.out.trans (hb2.mono HB1.out.size))
    clear hb2
    go_wp2_with fail
    go_ret
    exact ⟨rfl, HB2.out⟩
  | true =>
    obtain ⟨rfl, hb1⟩ := print_ok hpr hcb
    have HB1 := Lib.hid hb1
    have HCB := Lib.hid hcb
    clear hpr hb1 hcb
    go_wp2_with fail
    cases hsm : smallB ns with
    | false =>
      refine (small_val u ns w1 (HP.out.keep HB1.out) HC.out false hsm).mono ?_
      clear hsm
      rintro e w2 ⟨rfl, hb2⟩
      have HB2 := Lib.hid (HB1.out.trans (hb2.mono HB1.out.size))
      clear hb2
      go_wp2_with fail
      refine (awake_walk w2 m (cell_keep HB2.out HM.out)).mono ?_
      rintro e w3 ⟨rfl, hb3⟩
      have HB3 := Lib.hid (HB2.out.trans (hb3.mono HB2.out.size))
      clear hb3
      go_wp2_with fail
      go_ret
      exact ⟨rfl, HB3.out⟩
    | true =>
      refine (small_val u ns w1 (HP.out.keep HB1.out) HC.out true hsm).mono ?_
      have hlen : (prB ns).length ≤ 30039 := by
        have h1 := prS_len ns HCB.out
        rw [prS_all ns HCB.out] at h1
        have h2 := costs_sz ns
        unfold smallB at hsm
        have h3 := of_decide_eq_true hsm
        unfold prB; omega
      clear hsm
      rintro e w2 ⟨rfl, hb2⟩
      have HB2 := Lib.hid (HB1.out.trans (hb2.mono HB1.out.size))
      clear hb2
      have HD := Lib.hid (fun (tail : Bs) => doc_back ns HCB.out (fun n => blk (pick which n)) (fun n => blk_blank _) tail)
      obtain ⟨T, hT⟩ : ∃ T, prB ns = T := ⟨_, rfl⟩
      rw [hT] at hlen HD ⊢
      clear hT
      go_wp2_with fail
      go_loopw [7, 8, 9] (fun o nv iv wr => ∃ (i n : Nat) (out : Bs), i ≤ T.length ∧ iv = .int .i64 i ∧ n ≤ i ∧ nv = .int .i64 n ∧ o = .string ⟨out.toArray⟩ ∧ out.length ≤ 4 * i ∧ insB (fun n => blk (pick which n)) 0 0 T = out ++ insB (fun n => blk (pick which n)) n (prevB T i) (T.drop i) ∧ Below w.heap.size w wr) (fun _ _ iv _ => T.length - (intOf iv).toNat)
      case atStart => exact ⟨0, 0, [], by omega, rfl, Nat.le_refl _, rfl, rfl, by simp, rfl, HB2.out⟩
      case round =>
        obtain ⟨i, n, out, hi, rfl, hni, rfl, rfl, ho, ht, hb⟩ := hrel
        have HT := Lib.hid ht
        have HB := Lib.hid hb
        clear ht hb
        by_cases hlt : i < T.length
        · obtain ⟨S, hS⟩ : ∃ S : ByteArray, (⟨T.toArray⟩ : ByteArray) = S := ⟨_, rfl⟩
          have hSs : S.size = T.length := by rw [← hS]; rfl
          have hSi : ∀ k (h : k < T.length), S[k]'(by omega) = T[k] := fun k h => by subst hS; rfl
          have HSI := Lib.hid hSi
          have HSS := Lib.hid hSs
          have hlS : i < S.size := by omega
          rw [hS]
          clear hS hSi
          have HK := Lib.hid (ins_keep (fun n => blk (pick which n)) T i n hlt)
          have HPU := Lib.hid (ins_put (fun n => blk (pick which n)) T i n hlt)
          have HPP := Lib.hid (fun h0 => prev_pos T i hlt h0)
          have hend : ¬ T[i] = 60 ∨ ¬ prevB T i = 62 → ∀ wr', Below w.heap.size w wr' → (∃ (i_1 n_1 : Nat) (out_1 : Bs), i_1 ≤ T.length ∧ Value.int .i64 ((i : Int) + 1) = .int .i64 i_1 ∧ n_1 ≤ i_1 ∧ Value.int .i64 n = .int .i64 n_1 ∧ Value.string ((⟨out.toArray⟩ : ByteArray) ++ S.extract i (i + 1)) = .string ⟨out_1.toArray⟩ ∧ out_1.length ≤ 4 * i_1 ∧ insB (fun n => blk (pick which n)) 0 0 T = out_1 ++ insB (fun n => blk (pick which n)) n_1 (prevB T i_1) (T.drop i_1) ∧ Below w.heap.size w wr') := by
            intro hno wr' hb'
            refine ⟨i + 1, n, out ++ [T[i]], by omega, by go_num, by omega, rfl, ?_, by rw [List.length_append, List.length_cons, List.length_nil]; omega, ?_, hb'⟩
            · rw [← HSI.out i hlt]; exact out_one out S i hlS
            · rw [HT.out, HK.out (by rintro ⟨h1, h2⟩; exact hno.elim (fun h => h h1) fun h => h h2)]; simp
          have HE := Lib.hid hend
          clear hend
          by_cases h0 : 0 < i
          · by_cases h1 : T[i] = 60
            · have hpl : i - 1 < S.size := by omega
              by_cases h2 : T[i - 1] = 62
              · have g1 : (S[i].toNat : Int) = 60 := by rw [HSI.out i hlt, h1]; rfl
                have g2 : ((S[i - 1].toNat : Int) == 62) = true := by rw [HSI.out (i - 1) (by omega), h2]; rfl
                have hb1 : (1 : Int) ≤ i := by omega
                have hb2 : (i : Int) - 1 < T.length := by omega
                have HS2 := Lib.hid (HPU.out h1 (by rw [HPP.out h0]; exact h2))
                obtain ⟨hwf, hwf2⟩ := wf_u64 HW.out
                obtain ⟨q0, q1⟩ := pick_mod which n hwf hwf2
                have hput : ∀ (b : Bs), blk (pick which n) = b → b.length ≤ 3 → (∃ (i_1 n_1 : Nat) (out_1 : Bs), i_1 ≤ T.length ∧ Value.int .i64 ((i : Int) + 1) = .int .i64 i_1 ∧ n_1 ≤ i_1 ∧ Value.int .i64 ((n : Int) + 1) = .int .i64 n_1 ∧ Value.string ((⟨out.toArray⟩ : ByteArray) ++ ⟨b.toArray⟩ ++ S.extract i (i + 1)) = .string ⟨out_1.toArray⟩ ∧ out_1.length ≤ 4 * i_1 ∧ insB (fun n => blk (pick which n)) 0 0 T = out_1 ++ insB (fun n => blk (pick which n)) n_1 (prevB T i_1) (T.drop i_1)) := by
                  intro b hb hbl
                  refine ⟨i + 1, n + 1, out ++ b ++ [T[i]], by omega, by go_num, by omega, by go_num, ?_, by simp only [List.length_append, List.length_cons, List.length_nil]; omega, ?_⟩
                  · rw [← HSI.out i hlt]; exact out_two out b S i hlS
                  · rw [HT.out, HS2.out, hb]; simp
                have HPT := Lib.hid hput
                have ep : pick which n = 0 ∨ pick which n = 1 ∨ pick which n = 2 ∨ pick which n = 3 := by omega
                clear hput h1 h2 q0 q1 hwf hwf2
                rcases ep with ep | ep | ep | ep
                · have HX := Lib.hid (HPT.out [] (by rw [ep]; rfl) (by simp))
                  unfold pick at ep
                  go_wp2_with fail
                  obtain ⟨i1, n1, o1, x1, x2, x3, x4, x5, x6, x7⟩ := HX.out
                  exact ⟨⟨i1, n1, o1, x1, x2, x3, x4, x5, x6, x7, HB.out.alloc HB.out.size _⟩, by simp [intOf]; omega⟩
                · have HX := Lib.hid (HPT.out [32] (by rw [ep]; rfl) (by simp))
                  unfold pick at ep
                  go_wp2_with fail
                  obtain ⟨i1, n1, o1, x1, x2, x3, x4, x5, x6, x7⟩ := HX.out
                  exact ⟨⟨i1, n1, o1, x1, x2, x3, x4, x5, x6, x7, HB.out.alloc HB.out.size _⟩, by simp [intOf]; omega⟩
                · have HX := Lib.hid (HPT.out [13, 10] (by rw [ep]; rfl) (by simp))
                  unfold pick at ep
                  go_wp2_with fail
                  obtain ⟨i1, n1, o1, x1, x2, x3, x4, x5, x6, x7⟩ := HX.out
                  exact ⟨⟨i1, n1, o1, x1, x2, x3, x4, x5, x6, x7, HB.out.alloc HB.out.size _⟩, by simp [intOf]; omega⟩
                · have HX := Lib.hid (HPT.out [9, 32, 10] (by rw [ep]; rfl) (by simp))
                  unfold pick at ep
                  go_wp2_with fail
                  obtain ⟨i1, n1, o1, x1, x2, x3, x4, x5, x6, x7⟩ := HX.out
                  exact ⟨⟨i1, n1, o1, x1, x2, x3, x4, x5, x6, x7, HB.out.alloc HB.out.size _⟩, by simp [intOf]; omega⟩
              · have g1 : (S[i].toNat : Int) = 60 := by rw [HSI.out i hlt, h1]; rfl
                have g2 : ((S[i - 1].toNat : Int) == 62) = false := by
                  rw [HSI.out (i - 1) (by omega)]; simp; exact fun h => h2 (u8_of _ _ h)
                have hb1 : (1 : Int) ≤ i := by omega
                have hb2 : (i : Int) - 1 < T.length := by omega
                have HN := Lib.hid (show ¬ T[i] = 60 ∨ ¬ prevB T i = 62 from .inr (by rw [HPP.out h0]; exact h2))
                clear h1 h2
                go_wp2_with fail
                exact ⟨HE.out HN.out _ HB.out, by simp [intOf]; omega⟩
            · have g1 : ¬ (S[i].toNat : Int) = 60 := by
                rw [HSI.out i hlt]; exact fun h => h1 (u8_of _ _ h)
              have HN := Lib.hid (show ¬ T[i] = 60 ∨ ¬ prevB T i = 62 from .inl h1)
              clear h1
              go_wp2_with fail
              exact ⟨HE.out HN.out _ HB.out, by simp [intOf]; omega⟩
          · have HN := Lib.hid (show ¬ T[i] = 60 ∨ ¬ prevB T i = 62 from .inr (by unfold prevB; rw [dif_neg (by omega)]; decide))
            go_wp2_with fail
            exact ⟨HE.out HN.out _ HB.out, by simp [intOf]; omega⟩
        · obtain rfl : i = T.length := by omega
          have HTT := Lib.hid (show insB (fun n => blk (pick which n)) 0 0 T = out by rw [HT.out, List.drop_eq_nil_of_le (Nat.le_refl _)]; simp [insB])
          have htail : blank [32, 10] := by intro c hc; simp at hc; rcases hc with rfl | rfl <;> decide
          have hD2 := HD.out [32, 10] htail
          rw [HTT.out, List.length_append, List.length_cons, List.length_cons, List.length_nil] at hD2
          have HD2 := Lib.hid hD2
          have z1 : ¬ 9223372036854775807 < out.length + 2 := by omega
          clear htail hD2 ho
          by_cases h4 : 4096 < out.length + 2
          · have h4' : (4096 : Int) < (out.length : Int) + 2 := by omega
            go_wp2_with fail
            refine (awake_walk wr m (cell_keep HB.out HM.out)).mono ?_
            rintro e w4 ⟨rfl, hb4⟩
            have HB4 := Lib.hid (HB.out.trans (hb4.mono HB.out.size))
            clear hb4
            go_wp2_with fail
            go_ret
            exact ⟨rfl, HB4.out⟩
          · have h4' : ¬ (4096 : Int) < (out.length : Int) + 2 := by omega
            have HD3 := Lib.hid (HD2.out (by omega))
            have hX : ((⟨out.toArray⟩ : ByteArray) ++ ⟨#[32, 10]⟩).data.toList = out ++ [32, 10] := by rw [Joins.data_append]
            have HX := Lib.hid hX
            have HS5 := Lib.hid (show ((⟨out.toArray⟩ : ByteArray) ++ ⟨#[32, 10]⟩).size ≤ 4096 by rw [← size_list, hX, List.length_append]; simp; omega)
            have HD5 := Lib.hid (show docS ((⟨out.toArray⟩ : ByteArray) ++ ⟨#[32, 10]⟩).data.toList = some ns by rw [hX]; exact HD3.out)
            clear hX
            go_wp2_with fail
            refine (pParse_walk _ wr m (cell_keep HB.out HM.out)).mono ?_
            intro e w4 hdp
            obtain ⟨v, rfl, hr, hb4⟩ := parse_ok hdp HS5.out HD5.out
            have HB4 := Lib.hid (HB.out.trans (hb4.mono HB.out.size))
            have HR := Lib.hid hr
            clear hdp hr hb4
            go_wp2_with fail
            refine (same_self u v ns w4 (HP.out.keep HB4.out) HR.out).mono ?_
            rintro e w5 ⟨rfl, hb5⟩
            have HB5 := Lib.hid (HB4.out.trans (hb5.mono HB4.out.size))
            clear hb5
            go_wp2_with fail
            refine (awake_walk w5 m (cell_keep HB5.out HM.out)).mono ?_
            rintro e w6 ⟨rfl, hb6⟩
            have HB6 := Lib.hid (HB5.out.trans (hb6.mono HB5.out.size))
            clear hb6
            go_wp2_with fail
            go_ret
            exact ⟨rfl, HB6.out⟩
end Go.Proofs.YtffcapkjfmkkaaaGreatDoor
