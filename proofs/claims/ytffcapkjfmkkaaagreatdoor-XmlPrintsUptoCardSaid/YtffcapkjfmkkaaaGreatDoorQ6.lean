/- Lemmas for the statements of this seat, part 6: contracts of functions of the program and of the references, and plain facts on lists of bytes. -/
import Derived.Test.YtffcapkjfmkkaaaGreatDoorQ5
import Derived.Test.YtffcapkjfmkkaaaGreatDoorRows
import Derived.Deep.Slices
import Derived.Deep.Fields
import Derived.ChangeSame
import Derived.IntWalk
import Derived.Test.YtffcapkjfmkkaaaGreatDoorTie
import Derived.Test.YtffcapkjfmkkaaaGreatDoorCards
import Derived.ProofKit
import Derived.OpenShut
import Derived.LaidMore
import Derived.Lay
import Derived.SevenTiedAt
import Derived.Stop.Joined
import Derived.HandedShaped
import Derived.Shelf.Vars
import Derived.Carry
import Derived.Deep.DeepHandedRow
namespace Go.Proofs.YtffcapkjfmkkaaaGreatDoor
open Go.RowKit
theorem attr_cat (p : Par) : ((⟨#[32]⟩ : ByteArray) ++ ⟨p.name.toArray⟩ ++ ⟨#[61, 34]⟩ ++ ⟨(escB p.value).toArray⟩ ++ ⟨#[34]⟩).data.toList = attrO p := by
  simp only [Joins.data_append]
  simp [attrO]
set_option maxRecDepth 100000 in
set_option maxHeartbeats 4000000 in
theorem attr_piece (s0 s1 s2 s3 s4 s6 s7 s9 s10 s11 s12 s13 s14 s15 s16 s17 s18 s19 s20 s21 s22 s23 s24 s25 s26 s27 s28 s29 s30 s31 s32 s33 s34 s35 s36 s37 s38 s39 s40 s41 s42 s43 s44 s45 s46 s47 s48 s52 s53 s54 s55 s56 s57 s58 s59 s60 s61 s62 s63 s64 s65 s66 s67 s68 s69 s70 s71 s72 s73 s74 s75 s76 s77 s78 s79 s80 s81 s82 s83 s84 s85 s86 s87 s88 s89 s90 s91 s92 s93 s94 s95 s96 s97 s98 s99 s100 s101 s102 s103 s104 s105 s106 s107 s108 s109 s110 s111 s112 s113 : Value) (Q : Exit → Act → World → Prop) (w wr : World) (bb nb : Nat) (n : Nod) (va : Value) (A2 : Option Addr) (c2 : Nat) (out : Bs) (st : List Bs)
    (hpa : RPar w (.slice A2 n.attrs.length c2) n.attrs) (hal : n.attrs.length ≤ 16) (hco : costPs n.attrs ≤ 500000000) (hlen : (out ++ attrsO n.attrs).length ≤ 500000039) (hpr : Pr w wr bb s6 out st) (hnb : wr.heap[nb]? = some (nodRow n va))
    (hQ : ∀ (u10 u51 u52 u53 u54 u55 u56 u57 u58 u59 u60 u61 u62 u63 u64 u65 : Value) (w' : World), Pr w w' bb s6 (out ++ attrsO n.attrs) st → w'.heap[nb]? = some (nodRow n va) → Q .normal ⟨#[s0, s1, s2, s3, s4, .pointer (some ⟨bb, 0, none⟩), s6, s7, .pointer (some ⟨nb, 0, none⟩), s9, u10, s11, s12, s13, s14, s15, s16, s17, s18, s19, s20, s21, s22, s23, s24, s25, s26, s27, s28, s29, s30, s31, s32, s33, s34, s35, s36, s37, s38, s39, s40, s41, s42, s43, s44, s45, s46, s47, s48, .slice A2 n.attrs.length c2, .int .i64 n.attrs.length, u51, u52, u53, u54, u55, u56, u57, u58, u59, u60, u61, u62, u63, u64, u65, s66, s67, s68, s69, s70, s71, s72, s73, s74, s75, s76, s77, s78, s79, s80, s81, s82, s83, s84, s85, s86, s87, s88, s89, s90, s91, s92, s93, s94, s95, s96, s97, s98, s99, s100, s101, s102, s103, s104, s105, s106, s107, s108, s109, s110, s111, s112, s113], []⟩ w') :
    Code.wp Tryz.prog (pBlk 4) Q ⟨#[s0, s1, s2, s3, s4, .pointer (some ⟨bb, 0, none⟩), s6, s7, .pointer (some ⟨nb, 0, none⟩), s9, s10, s11, s12, s13, s14, s15, s16, s17, s18, s19, s20, s21, s22, s23, s24, s25, s26, s27, s28, s29, s30, s31, s32, s33, s34, s35, s36, s37, s38, s39, s40, s41, s42, s43, s44, s45, s46, s47, s48, .slice A2 n.attrs.length c2, .int .i64 n.attrs.length, .int .i64 0, s52, s53, s54, s55, s56, s57, s58, s59, s60, s61, s62, s63, s64, s65, s66, s67, s68, s69, s70, s71, s72, s73, s74, s75, s76, s77, s78, s79, s80, s81, s82, s83, s84, s85, s86, s87, s88, s89, s90, s91, s92, s93, s94, s95, s96, s97, s98, s99, s100, s101, s102, s103, s104, s105, s106, s107, s108, s109, s110, s111, s112, s113], []⟩ wr := by
  have HQ := Lib.hid hQ
  have HPA := Lib.hid hpa
  have HPR := Lib.hid hpr
  have HNB := Lib.hid hnb
  have HLE := Lib.hid hlen
  have HCO := Lib.hid hco
  clear hQ hpr hnb hpa hlen hco
  conv => arg 2; whnf
  go_wp2_with fail
  go_loopw [51] (fun i w2 => ∃ j : Nat, j ≤ n.attrs.length ∧ i = .int .i64 j ∧ Pr w w2 bb s6 (out ++ attrsO (n.attrs.take j)) st ∧ w2.heap[nb]? = some (nodRow n va)) (fun i _ => n.attrs.length - (intOf i).toNat)
  case atStart => exact ⟨0, Nat.zero_le _, rfl, by rw [List.take_zero, attrsO, List.append_nil]; exact HPR.out, HNB.out⟩
  case round =>
    obtain ⟨j, hj, rfl, hpr, hnb⟩ := hrel
    by_cases hlt : j < n.attrs.length
    · obtain ⟨a, rfl, p0, p1, p2, n1, n2⟩ := (HPA.out.keep hpr.b).at_ j hlt
      have HPR2 := Lib.hid hpr
      have HNB2 := Lib.hid hnb
      clear hpr hnb
      go_upto_region 17 with (fail)
      have hpr3 : Pr w (wr.alloc (parO n.attrs[j])) bb s6 (out ++ attrsO (n.attrs.take j)) st := HPR2.out.below ((Below.refl _ _).alloc (Nat.le_refl _) _)
      have hnb3 : (wr.alloc (parO n.attrs[j])).heap[nb]? = some (nodRow n va) := by rw [((Below.refl wr.heap.size wr).alloc (Nat.le_refl _) (parO n.attrs[j])).block nb (Array.getElem?_eq_some_iff.1 HNB2.out).1]; exact HNB2.out
      have hpb : (wr.alloc (parO n.attrs[j])).heap[wr.heap.size]? = some (parO n.attrs[j]) := heap_alloc_new wr _
      have HPR3 := Lib.hid hpr3
      have HNB3 := Lib.hid hnb3
      clear hpr3 hnb3 p0 p1 p2
      change Code.wp _ _ _ _ (wr.alloc (parO n.attrs[j]))
      generalize wr.alloc (parO n.attrs[j]) = w3 at *
      generalize wr.heap.size = pb at *
      have HAT := Lib.hid (attrsO_take n.attrs j hlt)
      have hcj := costPs_at n.attrs j hlt
      have hle := HLE.out
      have hac := attrsO_cost n.attrs (j + 1)
      rw [HAT.out] at hac
      have hco := HCO.out
      unfold costP at hcj
      generalize n.attrs[j] = p at *
      have q0 : w3.cell? ⟨pb, 0, none⟩ = some (.string ⟨p.name.toArray⟩) := blk_cell hpb 0
      have q1 : w3.cell? ⟨pb, 1, none⟩ = some (.string ⟨p.value.toArray⟩) := blk_cell hpb 1
      have HPB := Lib.hid hpb
      have hel := escB_len p.value
      have hao : (attrO p).length = p.name.length + (escB p.value).length + 4 := by simp [attrO]; omega
      rw [List.length_append] at hle hac
      have HV := Lib.hid (show (⟨p.value.toArray⟩ : ByteArray).size ≤ 100000000 by rw [← size_list]; show p.value.length ≤ _; omega)
      have hpre := attrsO_cost n.attrs j
      have HL := Lib.hid (show (out ++ attrsO (n.attrs.take j)).length + (attrO p).length ≤ 140737488355328 by rw [List.length_append]; omega)
      have z1 : ¬ 9223372036854775807 < 1 + p.name.length := by omega
      have z2 : ¬ 9223372036854775807 < 1 + p.name.length + 2 := by omega
      have z3 : ¬ 9223372036854775807 < 1 + p.name.length + 2 + (escB p.value).length := by omega
      have z4 : ¬ 9223372036854775807 < 1 + p.name.length + 2 + (escB p.value).length + 1 := by omega
      clear hcj hle hac hco hel hao hpre hpb
      go_region_held3 (fun w' => w'.cell? ⟨pb, 0, none⟩ = some (.string ⟨p.name.toArray⟩) ∧ w'.cell? ⟨pb, 1, none⟩ = some (.string ⟨p.value.toArray⟩)) (go_keep) (first
        | (go_at_call 22; refine (escape_walk ⟨p.value.toArray⟩ _ HV.out).mono ?_; rintro e w4 ⟨rfl, hb4⟩; have kk0 := cell_keep hb4 (show w3.drew.cell? _ = _ from q0); have kk1 := cell_keep hb4 (show w3.drew.cell? _ = _ from q1); have HPR4 := Lib.hid ((HPR3.out.below (Below.refl _ _).drew).below hb4); have HNB4 := Lib.hid ((hb4.block nb (Array.getElem?_eq_some_iff.1 (show w3.drew.heap[nb]? = _ from HNB3.out)).1).trans (show w3.drew.heap[nb]? = _ from HNB3.out)); have HPB4 := Lib.hid ((hb4.block pb (Array.getElem?_eq_some_iff.1 (show w3.drew.heap[pb]? = _ from HPB.out)).1).trans (show w3.drew.heap[pb]? = _ from HPB.out)); clear hb4; dsimp only)
        | (go_at_call 21; refine (Pr.put bb (attrO p) _ (attr_cat p) HPR4.out HL.out).mono ?_; rintro e w5 ⟨rfl, hp6, hb6, hk6⟩; have HPR6 := Lib.hid hp6; have HNB6 := Lib.hid ((hk6 _ _ _ _ HNB4.out (by decide) (by decide)).trans HNB4.out); have hpb5 := (hk6 _ _ _ _ HPB4.out (by decide) (by decide)).trans HPB4.out; have kk2 : w5.cell? ⟨pb, 0, none⟩ = some (.string ⟨p.name.toArray⟩) := blk_cell hpb5 0; have kk3 : w5.cell? ⟨pb, 1, none⟩ = some (.string ⟨p.value.toArray⟩) := blk_cell hpb5 1; clear hp6 hb6 hk6 hpb5; dsimp only))
      go_wp2_with fail
      exact ⟨⟨j + 1, by omega, by go_num, by rw [HAT.out, ← List.append_assoc]; exact HPR6.out, HNB6.out⟩, by simp [intOf]; omega⟩
    · obtain rfl : j = n.attrs.length := by omega
      rw [List.take_length] at hpr
      have HPR2 := Lib.hid hpr
      have HNB2 := Lib.hid hnb
      clear hpr hnb
      go_wp2_with fail
      exact HQ.out _ _ _ _ _ _ _ _ _ _ _ _ _ _ _ _ _ HPR2.out HNB2.out
end Go.Proofs.YtffcapkjfmkkaaaGreatDoor
namespace Go.Proofs.YtffcapkjfmkkaaaGreatDoor
open Go.RowKit
theorem text_cat (t : Bs) : ((⟨#[62]⟩ : ByteArray) ++ ⟨(escB t).toArray⟩).data.toList = 62 :: escB t := by
  rw [Joins.data_append]; rfl
theorem Pr.push2 {w wr w2 : World} {bb : Nat} {ov v2 : Value} {out t : Bs} {st : List Bs} (h : Pr w wr bb ov out st) (hg : wr.grownBy w2 ov.ownBlock) (ho : w2.ownsRow w.heap.size 9 1 v2 (st.length + 1) (st.reverse.map strV ++ [strV t])) : Pr w w2 bb v2 out (t :: st) := by
  obtain ⟨g, cap, rfl⟩ : ∃ g cap, v2 = .slice (some ⟨g, 0, none⟩) (st.length + 1) cap := by
    rcases ho.2 with ⟨_, h0⟩ | ⟨g, cap, cur, hv, _⟩
    · omega
    · exact ⟨g, cap, hv⟩
  exact h.push hg ho
set_option maxRecDepth 100000 in
set_option maxHeartbeats 4000000 in
theorem round_piece (s1 s2 s3 s4 s6 s7 s8 s9 s10 s11 s12 s13 s14 s15 s16 s17 s19 s21 s22 s23 s24 s25 s26 s27 s28 s29 s30 s31 s32 s33 s34 s35 s36 s37 s38 s39 s40 s41 s42 s43 s44 s45 s46 s47 s48 s49 s50 s51 s52 s53 s54 s55 s56 s57 s58 s59 s60 s61 s62 s63 s64 s65 s66 s67 s68 s69 s70 s71 s72 s73 s74 s75 s76 s77 s78 s79 s80 s81 s82 s83 s84 s85 s86 s87 s88 s89 s90 s91 s92 s93 s94 s95 s96 s97 s98 s99 s100 s101 s102 s103 s104 s105 s106 s107 s108 s109 s110 s111 s112 s113 : Value) (Q : Exit → Act → World → Prop) (w wr : World) (bb : Nat) (A : Option Addr) (c : Nat) (ns : List Nod) (T out : Bs) (st : List Bs) (k : Nat) (hlt : k < ns.length)
    (hp : RNod w (.slice A ns.length c) ns) (hF : ∀ k (hk : k < ns.length), 0 ≤ ns[k].deep ∧ ns[k].deep < 8 ∧ ns[k].attrs.length ≤ 16) (h200 : ns.length ≤ 200) (hco : costs ns ≤ 500000000)
    (hT : T.length ≤ 500000039) (hpr : Pr w wr bb s6 out st) (ht : T = out ++ prS (ns.drop k) st) (hsk : st.length ≤ k)
    (hQ : ∀ (u6 u7 u8 u10 u22 u23 u24 u25 u26 u27 u28 u29 u30 u31 u32 u33 u34 u35 u36 u37 u38 u39 u40 u41 u42 u43 u44 u45 u46 u47 u48 u49 u50 u51 u52 u53 u54 u55 u56 u57 u58 u59 u60 u61 u62 u63 u64 u65 u66 u67 u68 u69 u70 u71 u72 u73 u74 u75 u76 u77 u78 u79 u80 u81 u82 u83 u84 u85 u86 u87 u88 u89 u90 u91 u92 u93 u94 u95 u96 u97 : Value) (w' : World) (out : Bs) (st : List Bs), Pr w w' bb u6 out st → T = out ++ prS (ns.drop (k + 1)) st → st.length ≤ k + 1 → Q .normal ⟨#[.slice A ns.length c, s1, s2, s3, s4, .pointer (some ⟨bb, 0, none⟩), u6, u7, u8, s9, u10, s11, s12, s13, s14, s15, s16, s17, .slice A ns.length c, s19, .int .i64 k, s21, u22, u23, u24, u25, u26, u27, u28, u29, u30, u31, u32, u33, u34, u35, u36, u37, u38, u39, u40, u41, u42, u43, u44, u45, u46, u47, u48, u49, u50, u51, u52, u53, u54, u55, u56, u57, u58, u59, u60, u61, u62, u63, u64, u65, u66, u67, u68, u69, u70, u71, u72, u73, u74, u75, u76, u77, u78, u79, u80, u81, u82, u83, u84, u85, u86, u87, u88, u89, u90, u91, u92, u93, u94, u95, u96, u97, s98, s99, s100, s101, s102, s103, s104, s105, s106, s107, s108, s109, s110, s111, s112, s113], []⟩ w') :
    Code.wp Tryz.prog (pBlk 1) Q ⟨#[.slice A ns.length c, s1, s2, s3, s4, .pointer (some ⟨bb, 0, none⟩), s6, s7, s8, s9, s10, s11, s12, s13, s14, s15, s16, s17, .slice A ns.length c, s19, .int .i64 k, s21, s22, s23, s24, s25, s26, s27, s28, s29, s30, s31, s32, s33, s34, s35, s36, s37, s38, s39, s40, s41, s42, s43, s44, s45, s46, s47, s48, s49, s50, s51, s52, s53, s54, s55, s56, s57, s58, s59, s60, s61, s62, s63, s64, s65, s66, s67, s68, s69, s70, s71, s72, s73, s74, s75, s76, s77, s78, s79, s80, s81, s82, s83, s84, s85, s86, s87, s88, s89, s90, s91, s92, s93, s94, s95, s96, s97, s98, s99, s100, s101, s102, s103, s104, s105, s106, s107, s108, s109, s110, s111, s112, s113], []⟩ wr := by
  have HQ := Lib.hid hQ
  have HP := Lib.hid hp
  have HCO := Lib.hid (costs_at ns k hlt)
  rw [List.drop_eq_getElem_cons hlt, prS_cons] at ht
  obtain ⟨a', vk, ha', k0, k1, k2, hatt, k3, n1, n2⟩ := (hp.keep hpr.b).at_ k hlt
  obtain ⟨a2, vk2, ha2, -, -, k22, hatt2, -⟩ := hp.at_ k hlt
  cases ha'
  cases ha2
  have hvk := cell_keep hpr.b k22
  rw [k2] at hvk
  injection hvk with hvk
  subst hvk
  have hfk := hF k hlt
  obtain ⟨A2, c2, rfl, -⟩ := hatt
  have HAT := Lib.hid hatt2
  have HT := Lib.hid ht
  have HPR := Lib.hid hpr
  have HF := Lib.hid hF
  have HTL := Lib.hid hT
  clear ht hpr hQ hp hatt2 k22 hF
  conv => arg 2; whnf
  go_upto_block 2 with (fail)
  have hpr3 : Pr w (wr.alloc (nodRow ns[k] (.slice A2 ns[k].attrs.length c2))) bb s6 out st := HPR.out.below ((Below.refl _ _).alloc (Nat.le_refl _) _)
  have hnb : (wr.alloc (nodRow ns[k] (.slice A2 ns[k].attrs.length c2))).heap[wr.heap.size]? = some (nodRow ns[k] (.slice A2 ns[k].attrs.length c2)) := heap_alloc_new wr _
  change Code.wp _ _ _ _ (wr.alloc (nodRow ns[k] (.slice A2 ns[k].attrs.length c2)))
  generalize wr.alloc (nodRow ns[k] (.slice A2 ns[k].attrs.length c2)) = wn at *
  generalize wr.heap.size = nb at *
  refine pop_piece _ _ _ _ _ _ _ _ _ _ _ _ _ _ _ _ _ _ _ _ _ _ _ _ _ _ _ _ _ _ _ _ _ _ _ _ _ _ _ _ _ _ _ _ _ _ _ _ _ _ _ _ _ _ _ _ _ _ _ _ _ _ _ _ _ _ _ _ _ _ _ _ _ _ _ _ _ _ _ _ _ _ _ _ _ _ _ _ _ _ _ _ _ _ _ _ _ _ _ _ _ _ _ _ _ _ _ _ _ _ _ _ _ w wn bb nb ns[k] _ (ns.drop (k + 1)) T out st k hfk.1 HTL.out hpr3 HT.out hsk (by omega) hnb ?_
  clear hpr3 hnb HPR HT k0 k1 k2 k3
  intro u6 u25 u26 u27 u28 u29 u30 u31 u32 u33 u34 u35 u36 u37 u38 u39 u40 u41 u42 u43 w4 out st hpr ht hsd hsk hnb
  have HPR := Lib.hid hpr
  have HT := Lib.hid ht
  have HNB := Lib.hid hnb
  have c1 := nod_cell1 hnb
  have hlen := congrArg List.length ht
  unfold coreS openB at hlen
  simp only [List.length_append, List.length_cons] at hlen
  have z1 : ¬ 9223372036854775807 < 1 + ns[k].name.length := by omega
  have HL := Lib.hid (show out.length + (60 :: ns[k].name).length ≤ 140737488355328 by rw [List.length_cons]; omega)
  have HL2 := Lib.hid (show (out ++ (60 :: ns[k].name) ++ attrsO ns[k].attrs).length ≤ 500000039 by simp only [List.length_append, List.length_cons]; omega)
  clear hpr ht hnb hlen
  go_upto_block 4 with (go_at_call 21; refine (Pr.put bb (60 :: ns[k].name) _ (open_cat _) HPR.out HL.out).mono ?_; rintro e w5 ⟨rfl, hp6, hb6, hk6⟩; have HPR6 := Lib.hid hp6; have HNB6 := Lib.hid ((hk6 _ _ _ _ HNB.out (by decide) (by decide)).trans HNB.out); have c2x := nod_cell2' HNB6.out; clear hp6 hb6 hk6)
  refine attr_piece _ _ _ _ _ _ _ _ _ _ _ _ _ _ _ _ _ _ _ _ _ _ _ _ _ _ _ _ _ _ _ _ _ _ _ _ _ _ _ _ _ _ _ _ _ _ _ _ _ _ _ _ _ _ _ _ _ _ _ _ _ _ _ _ _ _ _ _ _ _ _ _ _ _ _ _ _ _ _ _ _ _ _ _ _ _ _ _ _ _ _ _ _ _ _ _ _ _ _ _ _ _ _ _ _ _ _ _ _ _ w w5 bb nb ns[k] _ A2 c2 (out ++ (60 :: ns[k].name)) st HAT.out hfk.2.2 (by have := HCO.out; unfold costN at this; omega) HL2.out HPR6.out HNB6.out ?_
  clear HPR HNB HPR6 HNB6 c1 c2x z1 HL HL2
  intro u10 u51 u52 u53 u54 u55 u56 u57 u58 u59 u60 u61 u62 u63 u64 u65 w6 hpr hnb
  have HPR := Lib.hid hpr
  have HNB := Lib.hid hnb
  clear hpr hnb
  go_upto_region 19 with (fail)
  have HN := Lib.hid (show RNod w6 (.slice (some a') ns.length c) ns from HP.out.keep HPR.out.b)
  have hwk : IntKind.i64.wrap ((k : Int) + 1) = (k : Int) + 1 := IntWalk.i64_in _ (by omega)
  have hk0 : (0 : Int) ≤ (k : Int) + 1 := by omega
  have hkn : ((k : Int) + 1).toNat = k + 1 := by omega
  have HW := Lib.hid (And.intro hwk (And.intro hk0 hkn))
  clear hwk hk0 hkn
  have hl : leafB ns[k] (ns.drop (k + 1)) = (decide (ns[k].text = []) && (if h : k + 1 < ns.length then decide (ns[k + 1].deep ≤ ns[k].deep) else true)) := by
    by_cases h : k + 1 < ns.length
    · rw [List.drop_eq_getElem_cons h, leafB, dif_pos h]
    · rw [List.drop_eq_nil_of_le (by omega), leafB, dif_neg h, Bool.and_true]
  have HLF := Lib.hid hl
  clear hl
  have hTT := HT.out
  have hTL := congrArg List.length hTT
  have HLL := Lib.hid (show (out ++ (60 :: ns[k].name) ++ attrsO ns[k].attrs).length + 2 ≤ 140737488355328 by
    unfold coreS openB at hTL
    simp only [List.length_append, List.length_cons] at hTL ⊢; omega)
  clear hTT hTL
  generalize ns[k] = n at *
  obtain ⟨nd, nn, na, nt⟩ := n
  dsimp only at *
  have c3 := nod_cell3 HNB.out
  have c0 := nod_cell0 HNB.out
  dsimp only at c3 c0
  cases nt with
  | nil =>
    by_cases hend : k + 1 < ns.length
    · obtain ⟨a2, v2, ha2, m0, -⟩ := HN.out.at_ (k + 1) hend
      cases ha2
      by_cases hdp : ns[k + 1].deep ≤ nd
      · have HLT : Hid (leafB ⟨nd, nn, na, []⟩ (ns.drop (k + 1)) = true) := by
          show _ = _; rw [HLF.out, dif_pos hend]; simpa using hdp
        have hb1 : ((k : Int) + 1 == (ns.length : Int)) = false := by simp; omega
        have hb2 : decide (ns[k + 1].deep ≤ nd) = true := by simpa using hdp
        obtain ⟨hwk, hk0, hkn⟩ := HW.out
        obtain ⟨hwk, hk0, hkn⟩ := HW.out
        go_quiet (fail)
        clear hwk hk0 hkn hb1 hb2
        have HPR2 := Lib.hid (show Pr w (w6.drewN nq) bb u6 _ st from HPR.out.below ⟨rfl, rfl, rfl, Nat.le_refl _, fun _ _ => rfl⟩)
        go_wp2_with (go_at_call 21; refine (Pr.put bb [47, 62] _ rfl HPR2.out HLL.out).mono ?_; rintro e w7 ⟨rfl, hp7, -, -⟩; have HPR7 := Lib.hid hp7; clear hp7)
        exact HQ.out _ _ _ _ _ _ _ _ _ _ _ _ _ _ _ _ _ _ _ _ _ _ _ _ _ _ _ _ _ _ _ _ _ _ _ _ _ _ _ _ _ _ _ _ _ _ _ _ _ _ _ _ _ _ _ _ _ _ _ _ _ _ _ _ _ _ _ _ _ _ _ _ _ _ _ _ _ _ _ _ _ _ _ HPR7.out (by have := HT.out; unfold coreS at this; rw [if_pos HLT.out] at this; rw [this]; simp [openB]) (by omega)
      · have HLT : Hid (leafB ⟨nd, nn, na, []⟩ (ns.drop (k + 1)) = false) := by
          show _ = _; rw [HLF.out, dif_pos hend]; simpa using hdp
        have hb1 : ((k : Int) + 1 == (ns.length : Int)) = false := by simp; omega
        have hb2 : decide (ns[k + 1].deep ≤ nd) = false := by simpa using hdp
        have hdp2 : ¬ ns[k + 1].deep ≤ nd := hdp
        obtain ⟨hwk, hk0, hkn⟩ := HW.out
        go_quiet (fail)
        clear hwk hk0 hkn hb1 hb2
        have HPR2 := Lib.hid (show Pr w (w6.drewN nq) bb u6 _ st from HPR.out.below ⟨rfl, rfl, rfl, Nat.le_refl _, fun _ _ => rfl⟩)
        have hTT := HT.out
        unfold coreS at hTT
        rw [if_neg (by rw [HLT.out]; decide)] at hTT
        have HT2 := Lib.hid hTT
        have hlen := congrArg List.length hTT
        unfold openB at hlen
        simp only [List.length_append, List.length_cons] at hlen
        have HV := Lib.hid (show (⟨([] : Bs).toArray⟩ : ByteArray).size ≤ 100000000 by have := HCO.out; unfold costN at this; rw [← size_list]; show ([] : Bs).length ≤ _; dsimp only at this; omega)
        have HL4 := Lib.hid (show (out ++ (60 :: nn) ++ attrsO na).length + (62 :: escB []).length ≤ 140737488355328 by simp only [List.length_append, List.length_cons]; omega)
        have z1 : ¬ 9223372036854775807 < 1 + (escB []).length := by omega
        clear hTT hlen
        obtain ⟨iS, hiS, hzS0, hzS1, hzS2⟩ := info_parts infoStr
        go_wp2_with (first
          | (go_at_call 22; refine (escape_walk ⟨([] : Bs).toArray⟩ _ HV.out).mono ?_; rintro e w7 ⟨rfl, hb7⟩; have HPR3 := Lib.hid (HPR2.out.below hb7); have HNB3 := Lib.hid ((hb7.block nb (Array.getElem?_eq_some_iff.1 (show (w6.drewN nq).heap[nb]? = _ from HNB.out)).1).trans (show (w6.drewN nq).heap[nb]? = _ from HNB.out)); clear hb7)
          | (go_at_call 21; refine (Pr.put bb (62 :: escB []) _ (text_cat []) HPR3.out HL4.out).mono ?_; rintro e w8 ⟨rfl, hp8, -, hk8⟩; have HPR4 := Lib.hid hp8; have HNB4 := Lib.hid ((hk8 _ _ _ _ HNB3.out (by decide) (by decide)).trans HNB3.out); have c1x := nod_cell1 HNB4.out; clear hp8 hk8)
          | (at_builtin; refine wpList_append_own _ rfl _ _ 38 rfl w.heap.size 9 iS (.string ⟨#[]⟩) 1 16 Tryz.underlying38 hiS hzS0 hzS1 hzS2 rfl (by decide) u6 st.length (st.reverse.map strV) rfl (HPR4.out.o.alloc _) ⟨w8.heap.size, 0, none⟩ 1 1 [strV nn] rfl rfl ?c1 ?c2 ?c3 ?c4 ?c5 ?_))
        case c1 =>
          intro j u hj
          match j, hj with
          | 0, hj => simp at hj; subst hj; simp [Addr.add, strV]
        case c2 => intro u hu; simp at hu; subst hu; rfl
        case c3 => unfold maxLen; omega
        case c4 => omega
        case c5 => have := HPR4.out.b.size; simp; omega
        intro v' w9 hown' hgrow _
        have HPR9 := Lib.hid (Pr.push2 (HPR4.out.below ((Below.refl _ _).alloc (Nat.le_refl _) _)) hgrow (by rw [List.map_reverse]; exact hown'))
        clear hown' hgrow c1x
        go_wp2_with fail
        exact HQ.out _ _ _ _ _ _ _ _ _ _ _ _ _ _ _ _ _ _ _ _ _ _ _ _ _ _ _ _ _ _ _ _ _ _ _ _ _ _ _ _ _ _ _ _ _ _ _ _ _ _ _ _ _ _ _ _ _ _ _ _ _ _ _ _ _ _ _ _ _ _ _ _ _ _ _ _ _ _ _ _ _ _ _ HPR9.out (by rw [HT2.out]; simp [openB]) (by rw [List.length_cons]; omega)
    · have HLT : Hid (leafB ⟨nd, nn, na, []⟩ (ns.drop (k + 1)) = true) := by
        show _ = _; rw [HLF.out, dif_neg hend]; rfl
      have hb1 : ((k : Int) + 1 == (ns.length : Int)) = true := by simp; omega
      obtain ⟨hwk, hk0, hkn⟩ := HW.out
      go_quiet (fail)
      clear hwk hk0 hkn hb1
      have HPR2 := Lib.hid (show Pr w (w6.drewN nq) bb u6 _ st from HPR.out.below ⟨rfl, rfl, rfl, Nat.le_refl _, fun _ _ => rfl⟩)
      go_wp2_with (go_at_call 21; refine (Pr.put bb [47, 62] _ rfl HPR2.out HLL.out).mono ?_; rintro e w7 ⟨rfl, hp7, -, -⟩; have HPR7 := Lib.hid hp7; clear hp7)
      exact HQ.out _ _ _ _ _ _ _ _ _ _ _ _ _ _ _ _ _ _ _ _ _ _ _ _ _ _ _ _ _ _ _ _ _ _ _ _ _ _ _ _ _ _ _ _ _ _ _ _ _ _ _ _ _ _ _ _ _ _ _ _ _ _ _ _ _ _ _ _ _ _ _ _ _ _ _ _ _ _ _ _ _ _ _ HPR7.out (by have := HT.out; unfold coreS at this; rw [if_pos HLT.out] at this; rw [this]; simp [openB]) (by omega)
  | cons x r =>
    have HLT : Hid (leafB ⟨nd, nn, na, x :: r⟩ (ns.drop (k + 1)) = false) := by
      show _ = _; rw [HLF.out]; rfl
    obtain ⟨hwk, hk0, hkn⟩ := HW.out
    go_quiet (fail)
    clear hwk hk0 hkn
    have HPR2 := Lib.hid (show Pr w (w6.drewN nq) bb u6 _ st from HPR.out.below ⟨rfl, rfl, rfl, Nat.le_refl _, fun _ _ => rfl⟩)
    have hTT := HT.out
    unfold coreS at hTT
    rw [if_neg (by rw [HLT.out]; decide)] at hTT
    have HT2 := Lib.hid hTT
    have hlen := congrArg List.length hTT
    unfold openB at hlen
    simp only [List.length_append, List.length_cons] at hlen
    have HV := Lib.hid (show (⟨((x :: r) : Bs).toArray⟩ : ByteArray).size ≤ 100000000 by have := HCO.out; unfold costN at this; rw [← size_list]; show ((x :: r) : Bs).length ≤ _; dsimp only at this; omega)
    have HL4 := Lib.hid (show (out ++ (60 :: nn) ++ attrsO na).length + (62 :: escB (x :: r)).length ≤ 140737488355328 by simp only [List.length_append, List.length_cons]; omega)
    have z1 : ¬ 9223372036854775807 < 1 + (escB (x :: r)).length := by omega
    clear hTT hlen
    obtain ⟨iS, hiS, hzS0, hzS1, hzS2⟩ := info_parts infoStr
    go_wp2_with (first
      | (go_at_call 22; refine (escape_walk ⟨((x :: r) : Bs).toArray⟩ _ HV.out).mono ?_; rintro e w7 ⟨rfl, hb7⟩; have HPR3 := Lib.hid (HPR2.out.below hb7); have HNB3 := Lib.hid ((hb7.block nb (Array.getElem?_eq_some_iff.1 (show (w6.drewN nq).heap[nb]? = _ from HNB.out)).1).trans (show (w6.drewN nq).heap[nb]? = _ from HNB.out)); clear hb7)
      | (go_at_call 21; refine (Pr.put bb (62 :: escB (x :: r)) _ (text_cat (x :: r)) HPR3.out HL4.out).mono ?_; rintro e w8 ⟨rfl, hp8, -, hk8⟩; have HPR4 := Lib.hid hp8; have HNB4 := Lib.hid ((hk8 _ _ _ _ HNB3.out (by decide) (by decide)).trans HNB3.out); have c1x := nod_cell1 HNB4.out; clear hp8 hk8)
      | (at_builtin; refine wpList_append_own _ rfl _ _ 38 rfl w.heap.size 9 iS (.string ⟨#[]⟩) 1 16 Tryz.underlying38 hiS hzS0 hzS1 hzS2 rfl (by decide) u6 st.length (st.reverse.map strV) rfl (HPR4.out.o.alloc _) ⟨w8.heap.size, 0, none⟩ 1 1 [strV nn] rfl rfl ?c1 ?c2 ?c3 ?c4 ?c5 ?_))
    case c1 =>
      intro j u hj
      match j, hj with
      | 0, hj => simp at hj; subst hj; simp [Addr.add, strV]
    case c2 => intro u hu; simp at hu; subst hu; rfl
    case c3 => unfold maxLen; omega
    case c4 => omega
    case c5 => have := HPR4.out.b.size; simp; omega
    intro v' w9 hown' hgrow _
    have HPR9 := Lib.hid (Pr.push2 (HPR4.out.below ((Below.refl _ _).alloc (Nat.le_refl _) _)) hgrow (by rw [List.map_reverse]; exact hown'))
    clear hown' hgrow c1x
    go_wp2_with fail
    exact HQ.out _ _ _ _ _ _ _ _ _ _ _ _ _ _ _ _ _ _ _ _ _ _ _ _ _ _ _ _ _ _ _ _ _ _ _ _ _ _ _ _ _ _ _ _ _ _ _ _ _ _ _ _ _ _ _ _ _ _ _ _ _ _ _ _ _ _ _ _ _ _ _ _ _ _ _ _ _ _ _ _ _ _ _ HPR9.out (by rw [HT2.out]; simp [openB]) (by rw [List.length_cons]; omega)
end Go.Proofs.YtffcapkjfmkkaaaGreatDoor
namespace Go.Proofs.YtffcapkjfmkkaaaGreatDoor
open Go.RowKit
theorem clo_len (st : List Bs) (i : Nat) (hi : i < st.length) : (clo (st.take i)).length + st[i].length + 3 ≤ (clo st).length := by
  induction st generalizing i with
  | nil => simp at hi
  | cons t st ih =>
    cases i with
    | zero => simp [clo, closeB]
    | succ i => simp [clo]; have := ih i (by simpa using hi); omega
theorem clo_snoc (st : List Bs) (i : Nat) (hi : i < st.length) : clo (st.take (i + 1)) = clo (st.take i) ++ closeB st[i] := by
  induction st generalizing i with
  | nil => simp at hi
  | cons t st ih =>
    cases i with
    | zero => simp [clo]
    | succ i => simp [clo, ih i (by simpa using hi)]
set_option maxRecDepth 100000 in
set_option maxHeartbeats 4000000 in
theorem close_piece (s0 s1 s2 s3 s4 s7 s8 s9 s10 s12 s13 s14 s15 s16 s17 s18 s19 s20 s21 s22 s23 s24 s25 s26 s27 s28 s29 s30 s31 s32 s33 s34 s35 s36 s37 s38 s39 s40 s41 s42 s43 s44 s45 s46 s47 s48 s49 s50 s51 s52 s53 s54 s55 s56 s57 s58 s59 s60 s61 s62 s63 s64 s65 s66 s67 s68 s69 s70 s71 s72 s73 s74 s75 s76 s77 s78 s79 s80 s81 s82 s83 s84 s85 s86 s87 s88 s89 s90 s91 s92 s93 s94 s95 s96 s97 s98 s99 s100 s101 s102 s103 s104 s105 s106 s107 s108 s109 s110 s111 s112 s113 : Value) (Q : Exit → Act → World → Prop) (w wr : World) (bb n cap : Nat) (a : Option Addr) (T out : Bs) (st : List Bs) (hn : n = st.length)
    (hst : st.length ≤ 200) (hT : T.length ≤ 500000039) (hpr : Pr w wr bb (.slice a n cap) out st) (ht : T = out ++ clo st)
    (hQ : ∀ (u11 u102 u103 u104 u105 u106 u107 u108 u109 u110 u111 u112 : Value) (w' : World), Pr w w' bb (.slice a n cap) T st → Q .normal ⟨#[s0, s1, s2, s3, s4, .pointer (some ⟨bb, 0, none⟩), .slice a n cap, s7, s8, s9, s10, u11, s12, s13, s14, s15, s16, s17, s18, s19, s20, s21, s22, s23, s24, s25, s26, s27, s28, s29, s30, s31, s32, s33, s34, s35, s36, s37, s38, s39, s40, s41, s42, s43, s44, s45, s46, s47, s48, s49, s50, s51, s52, s53, s54, s55, s56, s57, s58, s59, s60, s61, s62, s63, s64, s65, s66, s67, s68, s69, s70, s71, s72, s73, s74, s75, s76, s77, s78, s79, s80, s81, s82, s83, s84, s85, s86, s87, s88, s89, s90, s91, s92, s93, s94, s95, s96, s97, s98, s99, s100, s101, u102, u103, u104, u105, u106, u107, u108, u109, u110, u111, u112, s113], []⟩ w') :
    Code.wp Tryz.prog (pBlk 6) Q ⟨#[s0, s1, s2, s3, s4, .pointer (some ⟨bb, 0, none⟩), .slice a n cap, s7, s8, s9, s10, .int .i64 ((st.length : Int) - 1), s12, s13, s14, s15, s16, s17, s18, s19, s20, s21, s22, s23, s24, s25, s26, s27, s28, s29, s30, s31, s32, s33, s34, s35, s36, s37, s38, s39, s40, s41, s42, s43, s44, s45, s46, s47, s48, s49, s50, s51, s52, s53, s54, s55, s56, s57, s58, s59, s60, s61, s62, s63, s64, s65, s66, s67, s68, s69, s70, s71, s72, s73, s74, s75, s76, s77, s78, s79, s80, s81, s82, s83, s84, s85, s86, s87, s88, s89, s90, s91, s92, s93, s94, s95, s96, s97, s98, s99, s100, s101, s102, s103, s104, s105, s106, s107, s108, s109, s110, s111, s112, s113], []⟩ wr := by
  have HQ := Lib.hid hQ
  have HPR := Lib.hid hpr
  have HT := Lib.hid ht
  have HN := Lib.hid hn
  clear hQ hpr ht hn
  conv => arg 2; whnf
  go_wp2_with fail
  go_loopw [11] (fun i w2 => ∃ j : Nat, j ≤ st.length ∧ i = .int .i64 ((st.length : Int) - 1 - j) ∧ Pr w w2 bb (.slice a n cap) (out ++ clo (st.take j)) st) (fun i _ => (intOf i + 1).toNat)
  case atStart => exact ⟨0, Nat.zero_le _, by simp, by rw [List.take_zero, clo, List.append_nil]; exact HPR.out⟩
  case round =>
    obtain ⟨j, hj, rfl, hpr⟩ := hrel
    by_cases hlt : j < st.length
    · obtain ⟨g, rfl⟩ : ∃ g, a = some ⟨g, 0, none⟩ := by
        rcases hpr.o.2 with ⟨h1, h0⟩ | ⟨g, cap', cur, h1, -⟩
        · omega
        · injection h1 with h1; exact ⟨g, h1⟩
      have hc := hpr.at_ j hlt
      have hlen := congrArg List.length HT.out
      have hcl := clo_len st j hlt
      have hcs := clo_snoc st j hlt
      unfold strV at hc
      have HPR2 := Lib.hid hpr
      have HCS := Lib.hid hcs
      rw [List.length_append] at hlen
      obtain ⟨i, hi⟩ : ∃ i : Nat, st.length - 1 - j = i := ⟨_, rfl⟩
      have e1 : (st.length : Int) - 1 - j = (i : Int) := by omega
      rw [hi] at hc
      rw [e1]
      have HI := Lib.hid (And.intro hi e1)
      have hin : i < n := by have := HN.out; omega
      have hi200 : i ≤ 200 := by omega
      clear hpr hcs hi e1
      have HL := Lib.hid (show (out ++ clo (st.take j)).length + (closeB st[j]).length ≤ 140737488355328 by simp [closeB]; omega)
      have z1 : ¬ 9223372036854775807 < 2 + st[j].length := by omega
      have z2 : ¬ 9223372036854775807 < 2 + st[j].length + 1 := by omega
      clear hlen hcl
      generalize st[j] = t at *
      go_wp2_with (go_at_call 21; refine (Pr.put bb (closeB t) _ (closeB_cat t) HPR2.out HL.out).mono ?_; rintro e w5 ⟨rfl, hp6, hb6, hk6⟩; have HPR6 := Lib.hid hp6; clear hp6 hb6 hk6)
      obtain ⟨hi, e1⟩ := HI.out
      exact ⟨⟨j + 1, by omega, congrArg (Value.int .i64) (by omega), by rw [HCS.out, ← List.append_assoc]; exact HPR6.out⟩, by simp [intOf]⟩
    · obtain rfl : j = st.length := by omega
      rw [List.take_length] at hpr
      have HPR2 := Lib.hid hpr
      clear hpr
      have e0 : (st.length : Int) - 1 - st.length = -1 := by omega
      rw [e0]
      clear e0
      go_wp2_with fail
      exact HQ.out _ _ _ _ _ _ _ _ _ _ _ _ _ (by rw [HT.out]; exact HPR2.out)
end Go.Proofs.YtffcapkjfmkkaaaGreatDoor
namespace Go.Proofs.YtffcapkjfmkkaaaGreatDoor
open Go.RowKit
set_option maxRecDepth 100000 in
set_option maxHeartbeats 8000000 in
theorem pPrint_walk (u : Value) (ns : List Nod) (w : World) (hp : RNod w u ns) (hpl : ∀ n ∈ ns, n.attrs.length < maxLen) (hc : checkB ns = true → costs ns ≤ 500000000) :
    Calls Tryz.prog 10 #[u] w (PrPost w ns) := by
  have HP := Lib.hid hp
  cases hb : checkB ns with
  | false =>
    have HB := Lib.hid hb
    go_enter Tryz.func10, Tryz.ntmps10
    go_wp2_with fail
    refine (pCheck_val u ns w HP.out hpl false hb).mono ?_
    clear hb
    rintro e w1 ⟨rfl, hb1⟩
    have HB1 := Lib.hid hb1
    have h130 : chkI false = 130 := rfl
    rw [h130]
    go_wp2_with fail
    go_ret2
    unfold PrPost
    rw [if_neg (by rw [HB.out]; decide)]
    exact ⟨rfl, HB1.out⟩
  | true =>
    have HCO := Lib.hid (hc hb)
    have HF := Lib.hid (check_facts hb)
    have HLE := Lib.hid (prS_len ns hb)
    have HPS := Lib.hid (prS_all ns hb)
    have HB := Lib.hid hb
    have h0 : chkI true = 0 := rfl
    obtain ⟨A, c, rfl, -, hm, -⟩ := HP.out
    have hl200 := HF.out.2.1
    go_enter Tryz.func10, Tryz.ntmps10
    go_wp2_with fail
    refine (pCheck_val _ ns w HP.out hpl true hb).mono ?_
    clear hb
    rintro e w1 ⟨rfl, hb1⟩
    have HB1 := Lib.hid hb1
    rw [h0]
    clear hb1 hc hp
    have hfresh : Bdr w.heap.size w1.heap.size [] (w1.alloc (.cells #[.pointer none, .slice none 0 0] 53)) :=
      .inl ⟨HB1.out.size, .slice none 0 0, heap_alloc_new w1 _, World.ownsRow_nil _ _ _ _, by simp [Value.ownBlock]⟩
    have hba : Below w.heap.size w (w1.alloc (.cells #[.pointer none, .slice none 0 0] 53)) := HB1.out.alloc HB1.out.size _
    go_upto_block 0 with (go_at_call 21; refine (bString2 w.heap.size w1.heap.size [] prologB _ hfresh (by decide) hba.size).mono ?_; rintro e w2 ⟨rfl, hd2, hb2, hk2⟩; have HPR := Lib.hid (Pr.mk (hba.trans hb2) hd2 (World.ownsRow_nil w2 w.heap.size 9 1) : Pr w w2 w1.heap.size (.slice none 0 0) ([] ++ prologB) []); clear hd2 hb2 hk2)
    clear hfresh hba
    rw [List.nil_append] at HPR
    obtain ⟨T, hT⟩ : ∃ T, T = prologB ++ prS ns [] := ⟨_, rfl⟩
    have HT := Lib.hid hT
    have HTL := Lib.hid (show T.length ≤ 500000039 by rw [hT]; have := HLE.out; have := HCO.out; omega)
    clear hT
    generalize w1.heap.size = bb at *
    go_wp2_with fail
    go_loopw [6, 7, 8, 10, 20] (fun o _ _ _ i wr => ∃ (k : Nat) (out : Bs) (st : List Bs), k ≤ ns.length ∧ i = .int .i64 (k : Nat) ∧ Pr w wr bb o out st ∧ T = out ++ prS (ns.drop k) st ∧ st.length ≤ k) (fun _ _ _ _ i _ => ns.length - (intOf i).toNat)
    case atStart => exact ⟨0, prologB, [], by omega, rfl, HPR.out, HT.out, Nat.le_refl _⟩
    case round =>
      obtain ⟨k, out, st, hk, rfl, hpr, ht, hsk⟩ := hrel
      have HPR2 := Lib.hid hpr
      have HT2 := Lib.hid ht
      clear hpr ht HPR
      by_cases hlt : k < ns.length
      · go_upto_block 1 with (fail)
        refine round_piece _ _ _ _ _ _ _ _ _ _ _ _ _ _ _ _ _ _ _ _ _ _ _ _ _ _ _ _ _ _ _ _ _ _ _ _ _ _ _ _ _ _ _ _ _ _ _ _ _ _ _ _ _ _ _ _ _ _ _ _ _ _ _ _ _ _ _ _ _ _ _ _ _ _ _ _ _ _ _ _ _ _ _ _ _ _ _ _ _ _ _ _ _ _ _ _ _ _ _ _ _ _ _ _ _ _ _ _ _ _ _ w wr bb A c ns T out st k hlt HP.out HF.out.2.2.2 hl200 HCO.out HTL.out HPR2.out HT2.out hsk ?_
        clear HPR2 HT2
        intro u6 u7 u8 u10 u22 u23 u24 u25 u26 u27 u28 u29 u30 u31 u32 u33 u34 u35 u36 u37 u38 u39 u40 u41 u42 u43 u44 u45 u46 u47 u48 u49 u50 u51 u52 u53 u54 u55 u56 u57 u58 u59 u60 u61 u62 u63 u64 u65 u66 u67 u68 u69 u70 u71 u72 u73 u74 u75 u76 u77 u78 u79 u80 u81 u82 u83 u84 u85 u86 u87 u88 u89 u90 u91 u92 u93 u94 u95 u96 u97 w4 out st hpr ht hsk
        have HPR2 := Lib.hid hpr
        have HT2 := Lib.hid ht
        clear hpr ht
        go_wp2_with fail
        exact ⟨⟨k + 1, out, st, by omega, by go_num, HPR2.out, HT2.out, hsk⟩, by simp [intOf]; omega⟩
      · obtain rfl : k = ns.length := by omega
        obtain ⟨a, cap, rfl⟩ := HPR2.out.len
        go_upto_block 6 with (fail)
        refine close_piece _ _ _ _ _ _ _ _ _ _ _ _ _ _ _ _ _ _ _ _ _ _ _ _ _ _ _ _ _ _ _ _ _ _ _ _ _ _ _ _ _ _ _ _ _ _ _ _ _ _ _ _ _ _ _ _ _ _ _ _ _ _ _ _ _ _ _ _ _ _ _ _ _ _ _ _ _ _ _ _ _ _ _ _ _ _ _ _ _ _ _ _ _ _ _ _ _ _ _ _ _ _ _ _ _ _ _ _ _ _ _ _ w wr bb st.length cap a T out st rfl (by omega) HTL.out HPR2.out (by have := HT2.out; rwa [List.drop_eq_nil_of_le (Nat.le_refl _), prS] at this) ?_
        clear HPR2 HT2
        intro u11 u102 u103 u104 u105 u106 u107 u108 u109 u110 u111 u112 w4 hpr
        have HPR2 := Lib.hid hpr
        clear hpr
        go_wp2_with fail
        refine (Builder_String_any w.heap.size bb T w4 HPR2.out.d HPR2.out.b.size).mono ?_
        rintro e w5 ⟨rfl, hb5⟩
        have HB5 := Lib.hid (HPR2.out.b.trans hb5)
        clear hb5
        go_wp2_with fail
        go_ret2
        unfold PrPost
        rw [if_pos HB.out]
        refine ⟨?_, HB5.out⟩
        rw [prB, ← HPS.out, ← HT.out]
        rfl
end Go.Proofs.YtffcapkjfmkkaaaGreatDoor
namespace Go.Proofs.YtffcapkjfmkkaaaGreatDoor
open Go.RowKit Go.ChangeShapes Go.WideShapes Go.Deep
section
variable {H : Type} {enc : TypeId × Value → H} {P : Program} {w : World} {base : Nat} {spare : Nat → Bool} {held : Bool}
theorem open_slice_fields {t e : TypeId} {fs : Array Field} {fuel : Nat} {cs : List Value} {x : DataW H × List MemPlace} (ht : P.underlying t = some (.slice e)) (he : P.underlying e = some (.struct fs))
    (hone : oneCellFields P fs = true) (hC : P.cellsOf e = fs.size) (h : DataW.trod enc P w base spare held fuel t cs = some x) :
    (cs = [.slice none 0 0] ∧ x = (.nil, [])) ∨
    ∃ (a : Addr) (len cap m : Nat) (D : Nat → DataW H) (Pl : Nat → List MemPlace), cs = [.slice (some a) len cap] ∧ base ≤ a.block ∧ len ≤ cap ∧ cap ≤ maxLen ∧ m = (if spare a.block then cap else len) ∧
      x = (.slice ((List.range len).map D) ((List.range (m - len)).map fun j => D (len + j)), MemPlace.row a (m * fs.size) ++ (List.range m).flatMap Pl) ∧
      ∀ i, i < m → ∃ (ys : List (DataW H × List MemPlace)) (n : Nat), D i = .agg (ys.map (·.1)) ∧ Pl i = ys.flatMap (·.2) ∧ ys.length = fs.size ∧
        ∀ (j : Nat) (f : Field), fs[j]? = some f → ∃ (v : Value) (y : DataW H × List MemPlace), w.cell? (a.add (i * fs.size + j)) = some v ∧ ys[j]? = some y ∧ DataW.trod enc P w base spare held n f.type [v] = some y := by
  rcases open_slice ht h with h0 | ⟨a, len, cap, m, n, D, Pl, hcs, hb, hl, hm, hmm, hx, hi⟩
  · exact .inl h0
  · refine .inr ⟨a, len, cap, m, D, Pl, hcs, hb, hl, hm, hmm, by rw [hC] at hx; exact hx, fun i him => ?_⟩
    obtain ⟨cs', hc, ht'⟩ := hi i him
    rw [hC] at hc
    obtain ⟨ys, n', hn', hy, hlen, hyl, hf⟩ := DataW.trod_struct he ht'
    obtain ⟨_, hcl, hat⟩ := World.cells?_some hc
    simp only [Prod.mk.injEq] at hy
    refine ⟨ys, n', hy.1, hy.2, hyl, fun j f hj => ?_⟩
    obtain ⟨ho, hk⟩ := hone_of hone j f hj
    have hjl : j < fs.size := (Array.getElem?_eq_some_iff.1 hj).1
    have hcell := hat j hjl
    have hv : cs'[j]? = some (cs'[j]'(by omega)) := List.getElem?_eq_getElem (by omega)
    have h1 := hf j f hj
    rw [ho, hk] at h1
    have hone' : (cs'.drop j).take 1 = [cs'[j]'(by omega)] := by
      rw [List.drop_eq_getElem_cons (by omega)]
      rfl
    rw [hone'] at h1
    have hys : ys[j]? = some (ys[j]'(by omega)) := List.getElem?_eq_getElem (by omega)
    refine ⟨_, _, ?_, hys, h1.trans hys⟩
    rw [← Go.Deep.add_add, hcell, hv]
end
theorem add_fld (a : Addr) (i j : Nat) : a.add (i + (j + 1)) = ⟨(a.add i).block, (a.add i).off + (j + 1), none⟩ := by
  unfold Addr.add
  rw [if_neg (by omega)]
  split
  · subst i; simp
  · simp; omega
theorem costPs_map {H : Type} (L : List Nat) (p : Nat → Par) (D : Nat → DataW H) (h : ∀ j ∈ L, costP (p j) ≤ 6 * Rows.uptoBulk (D j)) : costPs (L.map p) ≤ 6 * Rows.uptoBulkAll (L.map D) := by
  induction L with
  | nil => simp [costPs, Rows.uptoBulkAll]
  | cons j L ih =>
    have := h j (by simp)
    have := ih fun k hk => h k (by simp [hk])
    simp only [List.map_cons, costPs, Rows.uptoBulkAll]; omega
theorem costs_map {H : Type} (L : List Nat) (p : Nat → Nod) (D : Nat → DataW H) (h : ∀ j ∈ L, costN (p j) ≤ 6 * Rows.uptoBulk (D j)) : costs (L.map p) ≤ 6 * Rows.uptoBulkAll (L.map D) := by
  induction L with
  | nil => simp [costs, Rows.uptoBulkAll]
  | cons j L ih =>
    have := h j (by simp)
    have := ih fun k hk => h k (by simp [hk])
    simp only [List.map_cons, costs, Rows.uptoBulkAll]; omega
section
variable {H : Type} {enc : TypeId × Value → H} {W : World}
theorem open_pars {n : Nat} {cs : List Value} {x : DataW H × List MemPlace} (h : DataW.trod enc Tryz.prog W 0 (fun _ => true) true n 44 cs = some x) :
    ∃ v ps, cs = [v] ∧ RPar W v ps ∧ costPs ps ≤ 6 * Rows.uptoBulk x.1 := by
  rcases open_slice_fields Tryz.underlying44 Tryz.underlying43 (by kernel_rfl) (by kernel_rfl) h with ⟨rfl, rfl⟩ | ⟨a, len, cap, m, D, Pl, rfl, -, hl, hm, hmm, rfl, hi⟩
  · exact ⟨_, [], rfl, ⟨none, 0, rfl, by simp, by simp, fun j hj => by simp at hj⟩, by simp [costPs]⟩
  · simp only [if_true] at hmm
    subst hmm
    have each : ∀ i, i < m → ∃ p : Par, (W.cell? (a.add (i * 3)) = some (.string ⟨p.name.toArray⟩) ∧ W.cell? (a.add (i * 3 + 1)) = some (.string ⟨p.value.toArray⟩) ∧ W.cell? (a.add (i * 3 + 2)) = some (.bool p.has) ∧ p.name.length ≤ maxLen ∧ p.value.length ≤ maxLen) ∧ costP p ≤ 6 * Rows.uptoBulk (D i) := by
      intro i him
      obtain ⟨ys, n', hD, -, hyl, hf⟩ := hi i him
      obtain ⟨v0, y0, c0, e0, t0⟩ := hf 0 _ rfl
      obtain ⟨v1, y1, c1, e1, t1⟩ := hf 1 _ rfl
      obtain ⟨v2, y2, c2, e2, t2⟩ := hf 2 _ rfl
      obtain ⟨s0, h0, rfl, hs0⟩ := DataW.trod_string Tryz.underlying9 t0
      obtain ⟨s1, h1, rfl, hs1⟩ := DataW.trod_string Tryz.underlying9 t1
      obtain ⟨b, h2, rfl⟩ := DataW.trod_bool Tryz.underlying4 t2
      injection h0 with h0; subst h0
      injection h1 with h1; subst h1
      injection h2 with h2; subst h2
      match ys, hyl, e0, e1, e2 with
      | [z0, z1, z2], _, e0, e1, e2 =>
        simp at e0 e1 e2
        subst e0; subst e1; subst e2
        refine ⟨⟨s0.data.toList, s1.data.toList, b⟩, ⟨by simpa using c0, by simpa using c1, by simpa using c2, by simpa [size_list] using hs0, by simpa [size_list] using hs1⟩, ?_⟩
        rw [hD]
        simp [Rows.uptoBulk, Rows.uptoBulkAll, costP]; omega
    obtain ⟨p, hp⟩ := @choose_lt Par ⟨⟨[], [], true⟩⟩ _ _ each
    refine ⟨_, (List.range len).map p, rfl, ⟨some a, m, by simp, by simpa using hl, by simp; unfold maxLen at hm; omega, fun j hj => ⟨a, rfl, ?_⟩⟩, ?_⟩
    · have hj' : j < len := by simpa using hj
      obtain ⟨⟨q0, q1, q2, q3, q4⟩, -⟩ := hp j (by omega)
      have e : ((List.range len).map p)[j] = p j := by simp
      rw [e]
      rw [add_fld a (j * 3) 0] at q1
      rw [add_fld a (j * 3) 1] at q2
      exact ⟨q0, q1, q2, q3, q4⟩
    · have := costPs_map (List.range len) p D fun j hj => (hp j (by have := List.mem_range.1 hj; omega)).2
      simp only [Rows.uptoBulk]; omega
theorem open_nods {n : Nat} {cs : List Value} {x : DataW H × List MemPlace} (h : DataW.trod enc Tryz.prog W 0 (fun _ => true) true n 22 cs = some x) :
    ∃ v ns, cs = [v] ∧ RNod W v ns ∧ costs ns ≤ 6 * Rows.uptoBulk x.1 := by
  rcases open_slice_fields Tryz.underlying22 Tryz.underlying46 (by kernel_rfl) (by kernel_rfl) h with ⟨rfl, rfl⟩ | ⟨a, len, cap, m, D, Pl, rfl, -, hl, hm, hmm, rfl, hi⟩
  · exact ⟨_, [], rfl, ⟨none, 0, rfl, by simp, by simp, fun j hj => by simp at hj⟩, by simp [costs]⟩
  · simp only [if_true] at hmm
    subst hmm
    have each : ∀ i, i < m → ∃ p : Nod × Value, (W.cell? (a.add (i * 4)) = some (.int .i64 p.1.deep) ∧ W.cell? (a.add (i * 4 + 1)) = some (.string ⟨p.1.name.toArray⟩) ∧ W.cell? (a.add (i * 4 + 2)) = some p.2 ∧ RPar W p.2 p.1.attrs ∧ W.cell? (a.add (i * 4 + 3)) = some (.string ⟨p.1.text.toArray⟩) ∧ p.1.name.length ≤ maxLen ∧ p.1.text.length ≤ maxLen) ∧ costN p.1 ≤ 6 * Rows.uptoBulk (D i) := by
      intro i him
      obtain ⟨ys, n', hD, -, hyl, hf⟩ := hi i him
      obtain ⟨v0, y0, c0, e0, t0⟩ := hf 0 _ rfl
      obtain ⟨v1, y1, c1, e1, t1⟩ := hf 1 _ rfl
      obtain ⟨v2, y2, c2, e2, t2⟩ := hf 2 _ rfl
      obtain ⟨v3, y3, c3, e3, t3⟩ := hf 3 _ rfl
      obtain ⟨d, h0, rfl, -⟩ := DataW.trod_int Tryz.underlying3 t0
      obtain ⟨s1, h1, rfl, hs1⟩ := DataW.trod_string Tryz.underlying9 t1
      obtain ⟨va, ps, h2, hr, hco⟩ := open_pars t2
      obtain ⟨s3, h3, rfl, hs3⟩ := DataW.trod_string Tryz.underlying9 t3
      injection h0 with h0; subst h0
      injection h1 with h1; subst h1
      injection h2 with h2; subst h2
      injection h3 with h3; subst h3
      match ys, hyl, e0, e1, e2, e3 with
      | [z0, z1, z2, z3], _, e0, e1, e2, e3 =>
        simp at e0 e1 e2 e3
        subst e0; subst e1; subst e2; subst e3
        refine ⟨(⟨d, s1.data.toList, ps, s3.data.toList⟩, v2), ⟨by simpa using c0, by simpa using c1, by simpa using c2, hr, by simpa using c3, by simpa [size_list] using hs1, by simpa [size_list] using hs3⟩, ?_⟩
        rw [hD]
        simp [Rows.uptoBulk, Rows.uptoBulkAll, costN]; omega
    obtain ⟨p, hp⟩ := @choose_lt (Nod × Value) ⟨(⟨0, [], [], []⟩, .nilIface)⟩ _ _ each
    refine ⟨_, (List.range len).map fun j => (p j).1, rfl, ⟨some a, m, by simp, by simpa using hl, by simp; unfold maxLen at hm; omega, fun j hj => ⟨a, (p j).2, rfl, ?_⟩⟩, ?_⟩
    · have hj' : j < len := by simpa using hj
      obtain ⟨⟨q0, q1, q2, q3, q4, q5, q6⟩, -⟩ := hp j (by omega)
      have e : ((List.range len).map fun j => (p j).1)[j] = (p j).1 := by simp
      rw [e]
      rw [add_fld a (j * 4) 0] at q1
      rw [add_fld a (j * 4) 1] at q2
      rw [add_fld a (j * 4) 2] at q4
      exact ⟨q0, q1, q2, q3, q4, q5, q6⟩
    · have := costs_map (List.range len) (fun j => (p j).1) D fun j hj => (hp j (by have := List.mem_range.1 hj; omega)).2
      simp only [Rows.uptoBulk]; omega
end
end Go.Proofs.YtffcapkjfmkkaaaGreatDoor
namespace Go.Proofs.YtffcapkjfmkkaaaGreatDoor
open Go.RowKit
def szP (p : Par) : Nat := 5 + p.name.length + p.value.length
def szPs : List Par → Nat
  | [] => 0
  | p :: l => szP p + szPs l
def szN (n : Nod) : Nat := 5 + n.name.length + n.text.length + szPs n.attrs
def szs : List Nod → Nat
  | [] => 0
  | n :: l => szN n + szs l
theorem szPs_take (l : List Par) (k : Nat) (h : k < l.length) : szPs (l.take (k + 1)) = szPs (l.take k) + szP l[k] := by
  induction l generalizing k with
  | nil => simp at h
  | cons p l ih =>
    cases k with
    | zero => simp [szPs]
    | succ k => simp [szPs, ih k (by simpa using h)]; omega
theorem szs_take (l : List Nod) (k : Nat) (h : k < l.length) : szs (l.take (k + 1)) = szs (l.take k) + szN l[k] := by
  induction l generalizing k with
  | nil => simp at h
  | cons p l ih =>
    cases k with
    | zero => simp [szs]
    | succ k => simp [szs, ih k (by simpa using h)]; omega
theorem szPs_le (l : List Par) : szPs l ≤ 2 * costPs l := by
  induction l with
  | nil => simp [szPs]
  | cons p l ih => simp only [szPs, costPs, szP, costP]; omega
theorem szs_le (l : List Nod) : szs l ≤ 2 * costs l := by
  induction l with
  | nil => simp [szs]
  | cons n l ih => have := szPs_le n.attrs; simp only [szs, costs, szN, costN]; omega
theorem costPs_sz (l : List Par) : costPs l ≤ 6 * szPs l := by
  induction l with
  | nil => simp [costPs]
  | cons p l ih => simp only [szPs, costPs, szP, costP]; omega
theorem costs_sz (l : List Nod) : costs l ≤ 6 * szs l := by
  induction l with
  | nil => simp [costs]
  | cons n l ih => have := costPs_sz n.attrs; simp only [szs, costs, szN, costN]; omega
theorem szPs_mono (l : List Par) (k : Nat) : szPs (l.take k) ≤ szPs l := by
  induction l generalizing k with
  | nil => simp
  | cons p l ih =>
    cases k with
    | zero => simp [szPs]
    | succ k => have := ih k; simp [szPs]; omega
theorem szs_mono (l : List Nod) (k : Nat) : szs (l.take k) ≤ szs l := by
  induction l generalizing k with
  | nil => simp
  | cons p l ih =>
    cases k with
    | zero => simp [szs]
    | succ k => have := ih k; simp [szs]; omega
theorem par_len_cost (l : List Par) : 4 * l.length ≤ costPs l := by
  induction l with
  | nil => simp [costPs]
  | cons p l ih => simp only [costPs, costP, List.length_cons]; omega
theorem nod_len_cost (l : List Nod) : 8 * l.length ≤ costs l := by
  induction l with
  | nil => simp [costs]
  | cons p l ih => simp only [costs, costN, List.length_cons]; omega
def smallB (ns : List Nod) : Bool := decide (szs ns ≤ 5000)
theorem wrap_in (n : Nat) (h : n ≤ 100000000) : IntKind.i64.wrap (n : Int) = (n : Int) := IntWalk.i64_in _ (by omega)
theorem ret_small {ns : List Nod} {n : Nat} (h : n = szs ns) : Ending.returned (.bool (decide ((n : Int) ≤ 5000))) = .returned (.bool (smallB ns)) := by
  subst h; unfold smallB; congr 2; simp only [decide_eq_decide]; omega
set_option maxRecDepth 100000 in
set_option maxHeartbeats 4000000 in
theorem small_walk (u : Value) (ns : List Nod) (w : World) (hp : RNod w u ns) (hc : costs ns ≤ 6291456) :
    Calls Tryz.prog 8 #[u] w fun e w' => e = .returned (.bool (smallB ns)) ∧ Dr w w' := by
  have HP := Lib.hid hp
  have HC := Lib.hid hc
  have hln := nod_len_cost ns
  have hl2 : ns.length ≤ 1000000 := by omega
  clear hln
  obtain ⟨A, c, rfl, -, hm, -⟩ := hp
  clear hm hc
  go_enter Tryz.func8, Tryz.ntmps8
  go_wp2_with fail
  go_loopw [3, 4] (fun n i wr => ∃ k : Nat, k ≤ ns.length ∧ i = .int .i64 k ∧ n = .int .i64 (szs (ns.take k)) ∧ Dr w wr) (fun _ i _ => ns.length - (intOf i).toNat)
  case atStart => exact ⟨0, by omega, rfl, rfl, Dr.refl w⟩
  case round =>
    obtain ⟨k, hk, rfl, rfl, hd⟩ := hrel
    by_cases hlt : k < ns.length
    · have HS := Lib.hid (szs_take ns k hlt)
      have hm1 := szs_mono ns (k + 1)
      have hm2 := szs_le ns
      have hc := HC.out
      have hcn := costs_at ns k hlt
      have hmm := szs_mono ns k
      rw [HS.out] at hm1
      have e1 : szN ns[k] = 5 + ns[k].name.length + ns[k].text.length + szPs ns[k].attrs := rfl
      obtain ⟨a', va, ha', k0, k1, k2, hatt, k3, n1, n2⟩ := (HP.out.keep hd.below0).at_ k hlt
      cases ha'
      have HAT := Lib.hid hatt
      obtain ⟨A2, c2, rfl, -⟩ := hatt
      have hal : ns[k].attrs.length ≤ 2000000 := by
        have := par_len_cost ns[k].attrs
        unfold costN at hcn; omega
      have hb : szs (ns.take k) + szN ns[k] ≤ 100000000 := by omega
      have HB := Lib.hid hb
      rw [e1] at hb
      clear hm1 hm2 hc hcn hmm e1
      generalize szs (ns.take k) = X at *
      have w1 : IntKind.i64.wrap ((X : Int) + 5) = (X : Int) + 5 := IntWalk.i64_in _ (by omega)
      have w2 : IntKind.i64.wrap ((X : Int) + 5 + (ns[k].name.length : Int)) = (X : Int) + 5 + (ns[k].name.length : Int) := IntWalk.i64_in _ (by omega)
      have w3 : IntKind.i64.wrap ((X : Int) + 5 + (ns[k].name.length : Int) + (ns[k].text.length : Int)) = (X : Int) + 5 + (ns[k].name.length : Int) + (ns[k].text.length : Int) := IntWalk.i64_in _ (by omega)
      have HW := Lib.hid (And.intro w1 (And.intro w2 w3))
      clear w1 w2 w3
      go_upto_region 5 with (fail)
      obtain ⟨w1, w2, w3⟩ := HW.out
      go_quiet (fail)
      clear w1 w2 w3 k0 k1 k2 k3
      have hd2 := hd.drewN nq
      generalize wr.drewN nq = wq at *
      clear hd
      obtain ⟨Y, hY⟩ : ∃ Y : Nat, Y = X + 5 + ns[k].name.length + ns[k].text.length := ⟨_, rfl⟩
      have eY : (X : Int) + 5 + (ns[k].name.length : Int) + (ns[k].text.length : Int) = (Y : Int) := by omega
      rw [eY]
      have hYN : Y + szPs ns[k].attrs = X + szN ns[k] := by unfold szN; omega
      have HY := Lib.hid hYN
      have hY2 : Y + szPs ns[k].attrs ≤ 100000000 := by omega
      clear eY hY hYN hb
      go_wp2_with fail
      go_loopw [3, 5] (fun n i w2 => ∃ j : Nat, j ≤ ns[k].attrs.length ∧ i = .int .i64 j ∧ n = .int .i64 (Y + szPs (ns[k].attrs.take j) : Nat) ∧ Dr w w2) (fun _ i _ => ns[k].attrs.length - (intOf i).toNat)
      case atStart => exact ⟨0, by omega, rfl, rfl, hd2⟩
      case round =>
        obtain ⟨j, hj, rfl, rfl, hd3⟩ := hrel
        obtain ⟨a', va, ha', k0, k1, k2, hatt, k3, -⟩ := (HP.out.keep hd3.below0).at_ k hlt
        cases ha'
        obtain ⟨A3, c3, rfl, -⟩ := id hatt
        obtain ⟨Z, hZ⟩ : ∃ Z : Nat, Y + szPs (ns[k].attrs.take j) = Z := ⟨_, rfl⟩
        rw [hZ]
        have hmj := szPs_mono ns[k].attrs j
        have hZb : Z ≤ 100000000 := by omega
        by_cases hjl : j < ns[k].attrs.length
        · obtain ⟨b, hb, p0, p1, p2, -⟩ := hatt.at_ j hjl
          cases hb
          have hst := szPs_take ns[k].attrs j hjl
          have hmj2 := szPs_mono ns[k].attrs (j + 1)
          rw [hst] at hmj2
          unfold szP at hst hmj2
          have hZ2 : Z + (5 + ns[k].attrs[j].name.length + ns[k].attrs[j].value.length) ≤ 100000000 := by omega
          have HN := Lib.hid (show Y + szPs (ns[k].attrs.take (j + 1)) = Z + 5 + ns[k].attrs[j].name.length + ns[k].attrs[j].value.length by omega)
          clear hst hmj2 hZ hmj
          have w1 : IntKind.i64.wrap ((Z : Int) + 5) = (Z : Int) + 5 := IntWalk.i64_in _ (by omega)
          have w2 : IntKind.i64.wrap ((Z : Int) + 5 + (ns[k].attrs[j].name.length : Int)) = (Z : Int) + 5 + (ns[k].attrs[j].name.length : Int) := IntWalk.i64_in _ (by omega)
          have w3 : IntKind.i64.wrap ((Z : Int) + 5 + (ns[k].attrs[j].name.length : Int) + (ns[k].attrs[j].value.length : Int)) = (Z : Int) + 5 + (ns[k].attrs[j].name.length : Int) + (ns[k].attrs[j].value.length : Int) := IntWalk.i64_in _ (by omega)
          have HW := Lib.hid (And.intro w1 (And.intro w2 w3))
          clear w1 w2 w3
          go_upto_region 9 with (fail)
          obtain ⟨w1, w2, w3⟩ := HW.out
          go_quiet (fail)
          clear w1 w2 w3
          go_wp2_with fail
          refine ⟨⟨j + 1, by omega, by go_num, ?_, hd3.drewN nq⟩, by simp [intOf]; omega⟩
          have := HN.out
          exact congrArg (Value.int .i64) (by omega)
        · obtain rfl : j = ns[k].attrs.length := by omega
          rw [List.take_length] at hZ
          have hst : Z = szs (ns.take (k + 1)) := by have := HY.out; have := HS.out; omega
          subst hst
          clear hZ
          go_wp2_with fail
          exact ⟨⟨k + 1, by omega, by go_num, rfl, hd3⟩, by simp [intOf]; omega⟩
    · obtain rfl : k = ns.length := by omega
      have hm2 := szs_le ns
      have hc := HC.out
      go_wp2_with fail
      go_ret
      exact ⟨ret_small rfl, hd⟩
end Go.Proofs.YtffcapkjfmkkaaaGreatDoor
namespace Go.Proofs.YtffcapkjfmkkaaaGreatDoor
open Go.RowKit
theorem small_val (u : Value) (ns : List Nod) (w : World) (hp : RNod w u ns) (hc : costs ns ≤ 6291456) (b : Bool) (h : smallB ns = b) :
    Calls Tryz.prog 8 #[u] w fun e w' => e = .returned (.bool b) ∧ Below w.heap.size w w' := by
  subst h
  exact (small_walk u ns w hp hc).mono fun e w' ⟨h, hd⟩ => ⟨h, hd.below0⟩
theorem attrs_len {ns : List Nod} (hc : costs ns ≤ 6291456) : ∀ n ∈ ns, n.attrs.length < maxLen := by
  intro n hn
  obtain ⟨k, hk, rfl⟩ := List.getElem_of_mem hn
  have h1 := costs_at ns k hk
  have h2 := par_len_cost ns[k].attrs
  unfold costN at h1
  unfold maxLen; omega
/-- What Print gives, of both. -/
theorem print_both {ns : List Nod} {w w' : World} {e : Ending} (h : PrPost w ns e w') : ∃ (t : Bs) (k : Int), e = .returned (.tuple #[.string ⟨t.toArray⟩, .int .i64 k]) ∧ Below w.heap.size w w' ∧ ∀ (v v' : World) (e' : Ending), PrPost v ns e' v' → e' = .returned (.tuple #[.string ⟨t.toArray⟩, .int .i64 k]) ∧ Below v.heap.size v v' := by
  obtain ⟨h1, h2⟩ := h
  by_cases hb : checkB ns = true
  · rw [if_pos hb] at h1
    refine ⟨_, _, h1, h2, fun v v' e' h' => ?_⟩
    obtain ⟨g1, g2⟩ := h'
    rw [if_pos hb] at g1
    exact ⟨g1, g2⟩
  · rw [if_neg hb] at h1
    refine ⟨[], _, h1, h2, fun v v' e' h' => ?_⟩
    obtain ⟨g1, g2⟩ := h'
    rw [if_neg hb] at g1
    exact ⟨g1, g2⟩
set_option maxRecDepth 100000 in
set_option maxHeartbeats 4000000 in
theorem xmlPrints_walk (u : Value) (ns : List Nod) (s : ByteArray) (w : World) (m : Int) (hm : Mx w m) (hp : RNod w u ns) (hc : costs ns ≤ 6291456) (hs : s.size ≤ maxLen) :
    Calls Tryz.prog 3 #[u, .string s] w fun e w' => e = .returned (.bool true) ∧ Below w.heap.size w w' := by
  have HM := Lib.hid hm
  have HP := Lib.hid hp
  have HC := Lib.hid hc
  have HS := Lib.hid hs
  clear hm hp hc hs
  go_enter Tryz.func3, Tryz.ntmps3
  go_wp2_with fail
  cases hb : smallB ns with
  | false =>
    refine (small_val u ns w HP.out HC.out false hb).mono ?_
    clear hb
    rintro e w1 ⟨rfl, hb1⟩
    have HB1 := Lib.hid hb1
    clear hb1
    go_wp2_with fail
    refine (awake_walk w1 m (cell_keep HB1.out HM.out)).mono ?_
    rintro e w2 ⟨rfl, hb2⟩
    have HB2 := Lib.hid (HB1.out.trans (hb2.mono HB1.out.size))
    clear hb2
    go_wp2_with fail
    go_ret
    exact ⟨rfl, HB2.out⟩
  | true =>
    refine (small_val u ns w HP.out HC.out true hb).mono ?_
    clear hb
    rintro e w1 ⟨rfl, hb1⟩
    have HB1 := Lib.hid hb1
    clear hb1
    go_wp2_with fail
    refine (pPrint_walk u ns w1 (HP.out.keep HB1.out) (attrs_len HC.out) (fun _ => by have := HC.out; omega)).mono ?_
    intro e w2 hpr
    obtain ⟨t, k, rfl, hb2, hboth⟩ := print_both hpr
    have HB2 := Lib.hid (HB1.out.trans (hb2.mono HB1.out.size))
    have HBO := Lib.hid hboth
    clear hpr hb2 hboth
    go_wp2_with fail
    refine (rPrint_walk u ns w2 (HP.out.keep HB2.out) (by have := HC.out; omega)).mono ?_
    intro e w3 hpr
    obtain ⟨rfl, hb3⟩ := HBO.out _ _ _ hpr
    have HB3 := Lib.hid (HB2.out.trans (hb3.mono HB2.out.size))
    clear hpr hb3
    go_wp2_with fail
    generalize hcb : checkB ns = cb
    have HCB := Lib.hid hcb
    clear hcb
    refine (pCheck_val u ns w3 (HP.out.keep HB3.out) (attrs_len HC.out) cb HCB.out).mono ?_
    rintro e w4 ⟨rfl, hb4⟩
    have HB4 := Lib.hid (HB3.out.trans (hb4.mono HB3.out.size))
    clear hb4
    generalize hki : chkI cb = ki
    have HKI := Lib.hid hki
    clear hki
    go_wp2_with fail
    refine (rCheck_val2 u ns w4 (HP.out.keep HB4.out) cb HCB.out).mono ?_
    rintro e w5 ⟨rfl, hb5⟩
    have HB5 := Lib.hid (HB4.out.trans (hb5.mono HB4.out.size))
    rw [HKI.out]
    clear hb5
    go_wp2_with fail
    generalize hnb : nameB s.data.toList = nb
    have HN := Lib.hid hnb
    clear hnb
    refine (Name_walk s w5 HS.out).mono ?_
    rintro e w6 ⟨rfl, hb6⟩
    have HB6 := Lib.hid (HB5.out.trans (hb6.mono HB5.out.size))
    rw [HN.out]
    clear hb6
    go_wp2_with fail
    refine (rName_walk s w6 HS.out).mono ?_
    rintro e w7 ⟨rfl, hd7⟩
    have HB7 := Lib.hid (HB6.out.trans (hd7.below0.mono HB6.out.size))
    rw [HN.out]
    clear hd7
    go_wp2_with fail
    refine (awake_walk w7 m (cell_keep HB7.out HM.out)).mono ?_
    rintro e w8 ⟨rfl, hb8⟩
    have HB8 := Lib.hid (HB7.out.trans (hb8.mono HB7.out.size))
    clear hb8
    go_wp2_with fail
    go_ret
    exact ⟨rfl, HB8.out⟩
end Go.Proofs.YtffcapkjfmkkaaaGreatDoor
namespace Go.Proofs.YtffcapkjfmkkaaaGreatDoor
open Go.ChangeShapes Go.WideShapes Go.ChangeAt Go.RowKit Go.ChangeMaps
theorem ownNone : ownKnob Tryz.prog.godebug = none := by kernel_rfl
theorem laidOutYes : laidOutB Tryz.prog = true := by kernel_rfl
theorem max_cell (w : World) (h : w.ShapedOpen Tryz.prog) : ∃ m, Mx w m :=
  cell_of_shapedOpen_int (zero := #[.int .i64 0]) (t := 3) h (of_decide_eq_true (by kernel_rfl)) (by kernel_rfl) rfl (by kernel_rfl) (by kernel_rfl) Tryz.underlying3
def rowedB (P : Program) (ts : List TypeId) : Bool := ts.all fun t => P.readableRec t && decide (t < P.types.size)
section
variable {H : Type} {enc : TypeId × Value → H} {W W' : World}
/-- Arguments read as they did, if nothing old has turned. -/
theorem below_trodAll {P : Program} (hl : laidOutB P = true) (hb : Below W.heap.size W W') : ∀ {ts : List TypeId} {vs : List Value} {ds : List (DataW H)} {ps : List MemPlace}, rowedB P ts = true → (∀ x ∈ ps, x.block < W.heap.size) →
    DataW.TrodAll enc P W 0 (fun _ => true) true ts vs ds ps → DataW.TrodAll enc P W' 0 (fun b => decide (b < W.heap.size)) true ts vs ds ps
  | [], [], [], _, _, _, h => h
  | [], [], _ :: _, _, _, _, h => h.elim
  | [], _ :: _, _, _, _, _, h => h.elim
  | _ :: _, [], _, _, _, _, h => h.elim
  | _ :: _, _ :: _, [], _, _, _, h => h.elim
  | t :: ts, v :: vs, d :: ds, ps, hr, hlt, h => by
    obtain ⟨p, q, h1, h2, rfl⟩ := h
    simp only [rowedB, List.all_cons, Bool.and_eq_true, decide_eq_true_eq] at hr
    exact ⟨p, q, Below.trod hl hr.1.1 hr.1.2 h1 hb (fun x hx => hlt x (by simp [hx])), below_trodAll hl hb (by simpa [rowedB] using hr.2) (fun x hx => hlt x (by simp [hx])) h2, rfl⟩
/-- What a law's contract hands on: true; the arguments as they were. -/
theorem post_true {f : Func} {s : ChangeSpec} {fresh handsOn : Bool} {args : Array Value} {ds gs : List (DataW H)} {before : List MemPlace}
    (hvars : s.vars = []) (hres : f.resultTypes = #[4]) (hpar : rowedB Tryz.prog f.params.toList = true) (hfn : s.fn H ds = { results := [.lit (.bool true)], args := ds })
    (hW : DataW.Whole enc Tryz.prog f.params.toList s.vars false W args.toList ds gs before) (hb : Below W.heap.size W W') :
    s.post enc Tryz.prog f false fresh handsOn false W args (.bool true) W' := by
  have hW' := hW
  obtain ⟨p, q, hA, hV, rfl, _, _⟩ := hW
  rw [hvars] at hV
  obtain ⟨rfl, rfl⟩ := trodVars_none hV
  rw [List.append_nil] at hW'
  have hlt : ∀ x ∈ p, x.block < W.heap.size := fun x hx => by simpa using hW'.lt x hx
  refine ⟨ds, [], p, [], p, [], hW', ?_, ?_, ?_, ?_, fun h => by cases h⟩
  · rw [List.append_nil, hfn, hres]; exact trodAll_mk1 (shut_bool Tryz.underlying4 _)
  · rw [List.append_nil, hfn]; exact below_trodAll laidOutYes hb hpar hlt hA
  · rw [List.append_nil, hfn, hvars]; rfl
  · exact hb.frame _
end
end Go.Proofs.YtffcapkjfmkkaaaGreatDoor
